/- Proved: laws of a machine of values; no conditions but each theorem's own. -/
import Derived.Test.YtidjknjilnopnaaGreatDoorVmI1ToCvN
set_option linter.unusedVariables false
set_option linter.unusedSimpArgs false
set_option maxRecDepth 20000
set_option maxHeartbeats 8000000
section
namespace Go.Vm
open Go.Proofs Go.Cv
theorem afg (x:BitVec 8):((x&&&127#8|||64#8)>>>6)&&&1#8=1#8:=by
 have h:∀ y:Nat,Ee (fun y=>Nat.beq (((BitVec.ofNat 8 y&&&127#8|||64#8)>>>6)&&&1#8).toNat 1) 256=true:=fun _=>by decide+kernel
 have :=Jg (h 0) x.toNat x.isLt;have e:BitVec.ofNat 8 x.toNat=x:=J;simp only[e] at this;exact iU (Nat.eq_of_beq_eq_true this)
theorem aj0 (x:BitVec 8):(x&&&248#8)>>>0&&&1#8=0#8/\(x&&&248#8)>>>1&&&1#8=0#8/\(x&&&248#8)>>>2&&&1#8=0#8:=by
 have h:∀ y:Nat,Ee (fun y=>Nat.beq (((BitVec.ofNat 8 y&&&248#8)>>>0&&&1#8).toNat+((BitVec.ofNat 8 y&&&248#8)>>>1&&&1#8).toNat+((BitVec.ofNat 8 y&&&248#8)>>>2&&&1#8).toNat) 0) 256=true:=fun _=>by decide+kernel
 have :=Jg (h 0) x.toNat x.isLt;have e:BitVec.ofNat 8 x.toNat=x:=J;simp only[e] at this;have :=Nat.eq_of_beq_eq_true this;exact⟨iU (by show _=0;omega),iU (by show _=0;omega),iU (by show _=0;omega)⟩
theorem aib {k:Z}(a:k.length=32):(il k).getD 31 0=(k.getD 31 0&&&127#8)|||64#8:=by
 unfold il;rw[bY,kF (by rw[b7];omega)];rfl
theorem Gt {k:Z}(a:k.length=32):(il k).getD 0 0=k.getD 0 0&&&248#8:=by
 unfold il;rw[bY,mV ag,kF I];rfl
theorem TG {k:Z}(a:k.length=32):yo (il k) 254=49#8:=by
 have :nr (il k) 254=1#8:=by
  unfold nr;rw[show 254/8=31 from rfl,show 254%8=6 from rfl,aib a];exact afg _
 unfold yo;rw[this];rfl
theorem Je {k:Z}(a:k.length=32){t:Nat}(ht:t<3):yo (il k) t=48#8:=by
 obtain⟨b,c,d⟩:=aj0 (k.getD 0 0);have :nr (il k) t=0#8:=by
  unfold nr
  match t,ht with
  |0,_=>rw[show 0/8=0 from rfl,show 0%8=0 from rfl,Gt a];exact b
  |1,_=>rw[show 1/8=0 from rfl,show 1%8=1 from rfl,Gt a];exact c
  |2,_=>rw[show 2/8=0 from rfl,show 2%8=2 from rfl,Gt a];exact d
 unfold yo;rw[aM this]
theorem ajJ (b:Bool)(l:List Bool):jG (b::l)=2*jG l+b.toNat:=rfl
theorem A7 (s:Z)(c:Nat):jG (rv s (c+1))=2*jG (rv s c)+(if s.getD c 0=48#8 then 0 else 1):=by
 rw[rv,ajJ];split <;>rfl
theorem QN {s:Z}(h:s.getD 0 0≠48#8):∀ c,2^c<=jG (rv s (c+1))/\jG (rv s (c+1))<2^(c+1)
 |0=>by
  rw[A7,aq h];exact⟨bz 1,Hh 1⟩
 |c+1=>by
  obtain⟨a,b⟩:=QN h c;rw[A7,nA,nA 2 (c+1)];split <;>omega
theorem UP {k:Z}(a:k.length=32):∃ m,sN k=8*m/\2^251<=m/\m<2^252:=by
 have g:=Nv (il k) 255;refine⟨jG (rv (lj (il k) 255) 252),?_,?_⟩
 .unfold sN;have b:=A7 (lj (il k) 255) 254;have e:=A7 (lj (il k) 255) 253;have d:=A7 (lj (il k) 255) 252;rw[g 254 ag,Je a ag,aM rfl] at b;rw[g 253 ag,Je a ag,aM rfl] at e;rw[g 252 ag,Je a ag,aM rfl] at d;rw[b,e,d];omega
 .exact QN (c:=251) (by rw[g 0 ag,TG a];decide)
theorem HT {k:Z}(b:k.length=32):¬ Lo∣sN k:=by
 obtain⟨m,i,j,d⟩:=UP b;intro h;rw[i] at h;have c:=uR;rcases c.dvd_mul h with a|a
 .exact absurd (Nat.le_of_dvd ag a) ag
 .have e:=Nat.le_of_dvd I a;have f:Lo<2^253:=ag;have g:2^252<Lo:=ag;omega
theorem agf:je=enc (oF base):=by
 rw[abT];decide+kernel
theorem agx {k:Z}:eS k je=enc (oF (eE (sN k) base)):=by
 rw[agf];exact RY k DJ aiv
theorem Kr {a b:Z}(d:b.length=32):eS a (eS b je)=enc (oF (eE (sN b*sN a) base)):=by
 obtain⟨e,f⟩:=Sr (HT d);rw[agx,RY a e f,Gy]
theorem FP {a b:Z}(c:a.length=32)(d:b.length=32):eS a (eS b je)=eS b (eS a je):=by
 rw[Kr d,Kr c,og]
theorem xf {a b:Z}(f:a.length=32)(c:b.length=32):eS a (eS b je)≠List.replicate 32 0#8:=by
 rw[Kr c];have j:¬ Lo∣sN b*sN a:=fun h=>by
  have g:=uR;rcases g.dvd_mul h with h|h
  .exact HT c h
  .exact HT f h
 obtain⟨k,l⟩:=Sr j;have i:=Ua k l;generalize oF (eE (sN b*sN a) base)=u at*;intro e;have d:=Hx u;rw[e,show le (List.replicate 32 0#8)=0 by decide+kernel] at d;exact i (Fin.ext d.symm)
end Go.Vm
end
section
namespace Go.Vm
open Go.Proofs Go.Proofs.Tryz
section
theorem Iv (k:List Z)(g:k.length<=1000)(b:∀ s∈k,s.length=32):bp prog 121 [.slice 0 0 k.length 1] [bK (k.map .str)] (.bool true) [bK (k.map .str)]:=by
 have :∃ v l,bp prog 121 [.slice 0 0 k.length 1] [bK (k.map .str)] v l/\(v= .bool true/\l=[bK (k.map .str)]):=by
  refine kg (Post:=fun v l=>v= .bool true/\l=[bK (k.map .str)]) U func121 rfl db (ce (aH ?_));refine cG (fun j n=>∃ i:Nat,i+j=k.length/\n=⟨[(5,.slice 0 0 k.length 1),(6,.i64 k.length),(7,.i64 i)],[bK (k.map .str)]⟩) ?_ ?_
  .exact dh k.length ⟨[(5,.slice 0 0 k.length 1),(6,.i64 k.length),(7,.i64 (0:Nat))],[bK (k.map .str)]⟩ gJ rfl (fun _ _ h=>h) ⟨0,I,rfl⟩
  rintro j n ⟨i,d,rfl⟩-;by_cases m:i<k.length
  .have a:(i:Int)<k.length:=I;have c:=iq (i:=i) I;have o:(k.map V.str).getD i .bH= .str (k.getD i []):=by rw[ll V.str [],aM m]
   have e:((k.getD i []).length:Int)=32:=by
    have :=b (k.getD i []) (by rw[bY,bn m];exact eM m);omega
   refine Ft a o e ?_;refine aE ?_
   exact cH (j-1) ⟨[(5,.slice 0 0 k.length 1),(6,.i64 k.length),(7,.i64 (i+1:Nat))],[bK (k.map .str)]⟩ I (by simp[St.get,lookS,c]) rfl (fun _ _ h=>h) ⟨i+1,I,rfl⟩
  .have a:¬ (i:Int)<k.length:=I;refine aL a ?_;refine⟨_,_,?_,Fin.take 1 J J uQ (by simp[blksLow])⟩;exact⟨rfl,rfl⟩
 obtain⟨_,_,f,rfl,rfl⟩:=this;exact f
def gA (n:aQ):Z:=bX (n.setWidth 64).toNat 4
theorem jS (n:aQ):(gA n).length=4:=dQ _ _
theorem Hs (n:aQ):bE prog 126 [.u32 n] (.str (gA n)):=by
 unfold gA;have h:=dQ (n.setWidth 64).toNat 4;refine ai func126 ?_;simp only[go_sem,seval,ntmps126];refine am [] (EX (n.setWidth 64)) (aH ?_);exact⟨I,by first|trivial|(rw[bq (Nat.le_of_eq h)];trivial)|simp[bq (Nat.le_of_eq h)]⟩
def bI (k:Z):Z:=eS k je
theorem fa (k:Z):(bI k).length=32:=vV _ _
def qh (sec nano:Int):Z:=cK (4611686018427387904+sec.toNat) 8++cK nano.toNat 4
theorem wM (sec nano:Int):(qh sec nano).length=12:=by unfold qh;simp[fD]
noncomputable def sr (su:Int) (q once:Z):HS:=(HS.start su (bI q)).both su (bI once)
noncomputable def rb (su:Int) (q once:Z):HS:=(sr su q once).key su (eS once (bI q))
noncomputable def fA (su:Int) (q once own:Z):Z:=(rb su q once).out su (bI own)
noncomputable def tV (su:Int) (q once own:Z):HS:=(rb su q once).next su (fA su q once own)
noncomputable def qi (su:Int) (q once own:Z):HS:=(tV su q once own).key su (eS own (bI q))
def fR (sec nano ac:Int):Z:=qh sec nano++[BitVec.ofInt 8 ac]
noncomputable def fB (su:Int) (q once own:Z) (sec nano ac:Int):Z:=(qi su q once own).out su (fR sec nano ac)
noncomputable def o0 (su:Int) (q once own:Z) (sec nano ac:Int):HS:=(qi su q once own).next su (fB su q once own sec nano ac)
noncomputable def fT (su:Int) (q once own:Z) (sec nano ac:Int) (id:aQ):Z:=1#8::BitVec.ofInt 8 su::(gA id++bI once++fA su q once own++fB su q once own sec nano ac)
section
variable {su:Int}{q once own:Z}{sec nano ac:Int}{id:aQ}
theorem IU (a:su=1\/su=2):(sr su q once).ok/\(sr su q once).k.length=32:=HS.QS a (HS.HO a (by rw[fa];decide)) (by rw[fa];decide)
theorem yX (a:su=1\/su=2):(rb su q once).ok/\(rb su q once).k.length=32:=HS.Cu a (IU a).1 (by rw[vV];decide)
theorem Bw (a:su=1\/su=2):(fA su q once own).length=48:=by
 have h:=yX (q:=q) (once:=once) a;show((rb su q once).out su (bI own)).length=48;rw[HS.Kw h.1 h.2 (by rw[fa];decide),fa]
theorem JK (a:su=1\/su=2):(tV su q once own).ok:=HS.Ij a (yX a).1 (by rw[Bw a];decide)
theorem zS (a:su=1\/su=2):(qi su q once own).ok/\(qi su q once own).k.length=32:=HS.Cu a (JK a) (by rw[vV];decide)
theorem CP:(fR sec nano ac).length=13:=by unfold fR;rw[bA,wM];rfl
theorem Co (a:su=1\/su=2):(fB su q once own sec nano ac).length=29:=by
 have h:=zS (q:=q) (once:=once) (own:=own) a;show((qi su q once own).out su (fR sec nano ac)).length=29;rw[HS.Kw h.1 h.2 (by rw[CP];decide),CP]
theorem aaz (a:su=1\/su=2):(o0 su q once own sec nano ac).ok:=HS.Ij a (zS a).1 (by rw[Co a];decide)
theorem Ts (d:su=1\/su=2)(e:ac=1\/ac=2)(ht:rq sec nano)(aR:Z)(C:q.length=32)(p:once.length=32)(r:own.length=32)(Q:aR.length=32):
  bp prog 91 [.agg [.i64 su,.str own,.str (bI q),.str aR],.str once,.agg [.i64 sec,.i64 nano],.i64 ac,.u32 id] [] (.aZ [.str (fT su q once own sec nano ac id),.ptr 0 0,.i64 0])
   [bK ((o0 su q once own sec nano ac).cs su++[.i64 su,.str own,.str (bI q),.str aR,.str once,.u32 id])]:=by
 have i:decide (su=1\/su=2)=true:=nX d;have w:decide (ac=1\/ac=2)=true:=nX e;have f:=TV sec nano;rw[aM ht] at f;change bE _ _ _ (.aZ [.str (qh sec nano),.i64 0]) at f;have x:=Rp d (u:=bI q) (by rw[fa];decide);have j:=E0 d (HS.HO d (u:=bI q) (by rw[fa];decide)) (t:=bI once) (by rw[fa];decide) 0;change bp _ _ _ _ _ (cP 0 ((sr su q once).cs su)) at j;have l:=wy d (IU (q:=q) (once:=once) d).1 (k:=once) (u:=bI q) p (fa q) (xf p C);change bp _ _ _ _ _ (cP 0 ((rb su q once).cs su)) at l;have m:=IS d (yX (q:=q) (once:=once) d).1 (yX d).2 (t:=bI own) (by rw[fa];decide);change bp _ _ _ _ (.str (fA su q once own)) (cP 0 ((tV su q once own).cs su)) at m;have o:=wy d (JK (q:=q) (once:=once) (own:=own) d) (k:=own) (u:=bI q) r (fa q) (xf r C);change bp _ _ _ _ _ (cP 0 ((qi su q once own).cs su)) at o;have g:=IS d (zS (q:=q) (once:=once) (own:=own) d).1 (zS d).2 (t:=fR sec nano ac) (by rw[CP];decide);change bp _ _ _ _ (.str (fB su q once own sec nano ac)) (cP 0 ((o0 su q once own sec nano ac).cs su)) at g;have y:bE prog 26 [.str once] (.aZ [.str (bI once),.i64 0]):=yG once p;have z:bE prog 26 [.str own] (.aZ [.str (bI own),.i64 0]):=yG own r;have S:=Iv [own,bI q,aR,once] J (by simp[r,Q,p,fa]);have A:=Hs id;have D:=(HS.start su (bI q)).aW su;have T:=(HS.start su (bI q)).low su;have E:=(sr su q once).aW su;have V:=(sr su q once).low su;have F:=(rb su q once).aW su;have W:=(rb su q once).low su;have G:=(tV su q once own).aW su;have X:=(tV su q once own).low su;have H:=(qi su q once own).aW su;have Y:=(qi su q once own).low su;have r5:=(o0 su q once own sec nano ac).aW su;have l5:=(o0 su q once own sec nano ac).low su;have n5:=(o0 su q once own sec nano ac).len su;have eR:fR sec nano ac=qh sec nano++[BitVec.ofInt 8 ac]:=rfl;have a6:=wM sec nano;have a7:=Bw (q:=q) (once:=once) (own:=own) d;have a8:=Co (q:=q) (once:=once) (own:=own) (sec:=sec) (nano:=nano) (ac:=ac) d;have b0:=jS id;have b2:=fa once;have e5:∃ (R:TypeId) (h c k:Z) (n:aS),(o0 su q once own sec nano ac).cs su=[.iface R (.agg []),.str h,.str c,.str k,.u64 n]:=⟨_,_,_,_,_,rfl⟩;unfold fT;generalize (HS.start su (bI q)).cs su=c0 at*;generalize (sr su q once).cs su=c1 at*;generalize (rb su q once).cs su=c2 at*;generalize (tV su q once own).cs su=c3 at*;generalize (qi su q once own).cs su=c4 at*;generalize (o0 su q once own sec nano ac).cs su=c5 at*;generalize fA su q once own=a at*;generalize fB su q once own sec nano ac=b at*;generalize fR sec nano ac=fr at*;generalize qh sec nano=wh at*;generalize gA id=K at*;generalize bI once=L at*;generalize bI own=pw at*;generalize bI q=B at*;obtain⟨ty5,M,N,O,P,rfl⟩:=e5;have :∃ v s,bp prog 91 [.agg [.i64 su,.str own,.str B,.str aR],.str once,.agg [.i64 sec,.i64 nano],.i64 ac,.u32 id] [] v s/\(v= .aZ [.str (1#8::BitVec.ofInt 8 su::(K++L++a++b)),.ptr 0 0,.i64 0]/\
   s=[bK [.iface ty5 (.agg []),.str M,.str N,.str O,.u64 P,.i64 su,.str own,.str B,.str aR,.str once,.u32 id]]):=by
  refine kg (Post:=fun v s=>v= .aZ [.str (1#8::BitVec.ofInt 8 su::(K++L++a++b)),.ptr 0 0,.i64 0]/\s=[bK [.iface ty5 (.agg []),.str M,.str N,.str O,.u64 P,.i64 su,.str own,.str B,.str aR,.str once,.u32 id]]) U func91 rfl db (ce (aG ?_))
  refine br (f) (aG ?_)
  refine br (Ag su) ?_;refine g9 i ?_;refine aE ?_
  refine am [2] S ?_;refine dv ?_;refine br (Ag ac) ?_;refine g9 w ?_;refine aE ?_
  refine am [] x ?_;simp only[go_sem,seval,cP,D];refine aE ?_
  refine br (y) (aG ?_)
  refine br (z) (aG ?_)
  refine fY [3,4] (j) U J rfl (by simp[cP]) fO J (by simp[cP]) (by simp[cP,D,T]) (by simp[cP]) J ?_;simp only[go_sem,seval,cP,E];refine aE ?_
  refine fY [3,4] (l) U J rfl (by simp[cP]) fO J (by simp[cP]) (by simp[cP,E,V]) (by simp[cP]) J ?_;simp only[go_sem,seval,cP,F];refine aE ?_
  refine fY [3,4] (m) U J rfl (by simp[cP]) fO J (by simp[cP]) (by simp[cP,F,W]) (by simp[cP]) J ?_;simp only[go_sem,seval,cP,G];refine aE ?_
  refine fY [3,4] (o) U J rfl (by simp[cP]) fO J (by simp[cP]) (by simp[cP,G,X]) (by simp[cP]) J ?_;simp only[go_sem,seval,cP,H];refine aE ?_
  rw[eR] at g;refine fY [3,4] (g) U J rfl (by simp[cP]) fO J (by simp[cP]) (by simp[cP,H,Y]) (by simp[cP]) J ?_;simp only[go_sem,seval,cP];refine aE ?_
  refine bZ (A) (aG ?_)
  refine⟨_,_,⟨rfl,rfl⟩,?_⟩;exact Fin.bd [7] J J ci ag J J
 obtain⟨_,_,hs,rfl,rfl⟩:=this;exact hs
end
end
section
theorem Mj {s:Z}{size:Nat}{k:BitVec 8}(h1:s.length=size)(d:2<=size)(b:s.getD 0 0=k)(c:((s.getD 1 0).toNat:Int)=1\/((s.getD 1 0).toNat:Int)=2):bE prog 139 [.str s,.i64 size,.u8 k] (.i64 0):=by
 have e:¬ (s.length:Int)<size:=I;have a:¬ (size:Int)<s.length:=I;refine ai func139 ?_;simp only[go_sem,seval,-BitVec.isValue,ntmps139,results139];simp only[go_sem,seval,-BitVec.isValue,e,a,b,gD,cr];refine aE ?_
 refine br (Ag _) ?_;refine qc0 ?_;simp only[go_sem,seval,-BitVec.isValue,c]
theorem Bo {su:Int}(a:su=1\/su=2):((BitVec.ofInt 8 su).toNat:Int)=su:=by rcases a with rfl|rfl<;>rfl
theorem JS {k s:BitVec 8}{ix c a b:Z}(hi:ix.length=4)(d:c.length=32)(e:a.length=48)(f:b.length=29):
  (k::s::(ix++c++a++b)).length=115/\List.drop 6 (List.take 38 (k::s::(ix++c++a++b)))=c/\List.drop 38 (List.take 86 (k::s::(ix++c++a++b)))=a/\List.drop 86 (k::s::(ix++c++a++b))=b/\List.drop 2 (List.take 6 (k::s::(ix++c++a++b)))=ix:=by
 have g:List.take 38 (k::s::(ix++c++a++b))=k::s::(ix++c):=by
  rw[eU,eU,hZ,mW (by simp[hi,d])]
 have h:List.take 86 (k::s::(ix++c++a++b))=k::s::(ix++c++a):=by
  rw[eU,eU,mW (by simp[hi,d,e])]
 have i:List.take 6 (k::s::(ix++c++a++b))=k::s::ix:=by
  rw[eU,eU,hZ,hZ,mW hi]
 refine⟨by simp[hi,d,e,f],?_,?_,?_,?_⟩
 .rw[g,nj,nj,oI hi]
 .rw[h,nj,nj,oI (by simp[hi,d])]
 .rw[nj,nj,oI (by simp[hi,d,e])]
 .rw[i];rfl
theorem FC (id:aQ):BitVec.setWidth 32 (BitVec.ofNat 64 (le (gA id)))=id:=by
 have e:∀ n k:Nat,le (bX n k)=n%256^k:=fun n k=>by
  induction k generalizing n with
  |zero=>show 0=n%1;omega
  |succ k ih=>
   show(BitVec.ofNat 8 n).toNat+256*le (bX (n/256) k)=_;rw[ih,nA,og (256^k) 256,Cb,fL]
 have a:=id.isLt;unfold gA;rw[e];apply iU;simp only[qq,fL];omega
section
variable {su:Int}{q once own:Z}{sec nano ac:Int}{id:aQ}
theorem Xb (d:su=1\/su=2)(e:ac=1\/ac=2)(V:bE prog 141 [.str (qh sec nano)] (.aZ [.agg [.i64 sec,.i64 nano],.i64 0]))(f:q.length=32)(C:once.length=32)(D:own.length=32):
  bp prog 97 [.str q,.str (fT su q once own sec nano ac id)] [] (.aZ [.agg [.i64 su,.u32 id,.str (bI own),.i64 sec,.i64 nano,.i64 ac],.ptr 0 0,.i64 0])
   [bK ((o0 su q once own sec nano ac).cs su++[.i64 su,.u32 id,.str (bI once),.str (bI own)])]:=by
 have x:decide (ac=1\/ac=2)=true:=nX e;have y:=Rp d (u:=bI q) (by rw[fa];decide);have l:=E0 d (HS.HO d (u:=bI q) (by rw[fa];decide)) (t:=bI once) (by rw[fa];decide) 0;change bp _ _ _ _ _ (cP 0 ((sr su q once).cs su)) at l;have i:=wy d (IU (q:=q) (once:=once) d).1 (k:=q) (u:=bI once) f (fa once) (xf f C);rw[show eS q (bI once)=eS once (bI q) from FP f C] at i;change bp _ _ _ _ _ (cP 0 ((rb su q once).cs su)) at i;have m:=JD d (yX (q:=q) (once:=once) d).1 (yX d).2 (t:=bI own) (by rw[fa];decide);change bp _ _ [.ptr 0 0,.str (fA su q once own)] _ _ (cP 0 ((tV su q once own).cs su)) at m;have j:=wy d (JK (q:=q) (once:=once) (own:=own) d) (k:=q) (u:=bI own) f (fa own) (xf f D);rw[show eS q (bI own)=eS own (bI q) from FP f D] at j;change bp _ _ _ _ _ (cP 0 ((qi su q once own).cs su)) at j;have o:=JD d (zS (q:=q) (once:=once) (own:=own) d).1 (zS d).2 (t:=fR sec nano ac) (by rw[CP];decide);change bp _ _ [.ptr 0 0,.str (fB su q once own sec nano ac)] _ _ (cP 0 ((o0 su q once own sec nano ac).cs su)) at o;have z:bE prog 26 [.str q] (.aZ [.str (bI q),.i64 0]):=yG q f;have X:=Iv [q] J (by simp[f]);obtain⟨g,M,N,O,P⟩:=JS (k:=1#8) (s:=BitVec.ofInt 8 su) (jS id) (fa once) (Bw (q:=q) (once:=once) (own:=own) d) (Co (q:=q) (once:=once) (own:=own) (sec:=sec) (nano:=nano) (ac:=ac) d);change (fT su q once own sec nano ac id).length=115 at g;change List.drop 6 (List.take 38 (fT su q once own sec nano ac id))=_ at M;change List.drop 38 (List.take 86 (fT su q once own sec nano ac id))=_ at N;change List.drop 86 (fT su q once own sec nano ac id)=_ at O;change List.drop 2 (List.take 6 (fT su q once own sec nano ac id))=_ at P;have A:(((fT su q once own sec nano ac id).getD 1 0).toNat:Int)=su:=Bo d;have Y:(fT su q once own sec nano ac id).getD 0 0=1#8:=rfl;have hf:=Mj (size:=115) (k:=1#8) g ag Y (by rw[A];exact d);have B:=FC id;have p:=mY (gA id) (by rw[jS];decide);have e8:List.take 8 (gA id)=gA id:=bq (by rw[jS];decide);rw[e8] at p;have w1:List.take 12 (fR sec nano ac)=qh sec nano:=by unfold fR;exact mW (wM sec nano)
 have w2:(((fR sec nano ac).getD 12 0).toNat:Int)=ac:=by
  unfold fR;rw[bY,iy (by rw[wM];decide),wM];exact Bo e
 have w3:(fR sec nano ac).length=13:=CP;have E:=(HS.start su (bI q)).aW su;have l0:=(HS.start su (bI q)).low su;have F:=(sr su q once).aW su;have l1:=(sr su q once).low su;have G:=(rb su q once).aW su;have l2:=(rb su q once).low su;have H:=(tV su q once own).aW su;have l3:=(tV su q once own).low su;have K:=(qi su q once own).aW su;have l4:=(qi su q once own).low su;have e5:∃ (W:TypeId) (h c k:Z) (n:aS),(o0 su q once own sec nano ac).cs su=[.iface W (.agg []),.str h,.str c,.str k,.u64 n]:=⟨_,_,_,_,_,rfl⟩;generalize (HS.start su (bI q)).cs su=c0 at*;generalize (sr su q once).cs su=c1 at*;generalize (rb su q once).cs su=c2 at*;generalize (tV su q once own).cs su=c3 at*;generalize (qi su q once own).cs su=c4 at*;generalize (o0 su q once own sec nano ac).cs su=c5 at*;generalize fT su q once own sec nano ac id=first at*
 generalize fA su q once own=a at*;generalize fB su q once own sec nano ac=b at*;generalize fR sec nano ac=fr at*;generalize qh sec nano=wh at*;generalize gA id=ix at*;generalize bI once=L at*;generalize bI own=r at*;generalize bI q=pq at*;obtain⟨ty5,Q,R,S,T,rfl⟩:=e5;have g1:(38:Int)<=first.length:=I;have :∃ v w,bp prog 97 [.str q,.str first] [] v w/\(v= .aZ [.agg [.i64 su,.u32 id,.str r,.i64 sec,.i64 nano,.i64 ac],.ptr 0 0,.i64 0]/\
   w=[bK [.iface ty5 (.agg []),.str Q,.str R,.str S,.u64 T,.i64 su,.u32 id,.str L,.str r]]):=by
  refine kg (Post:=fun v w=>v= .aZ [.agg [.i64 su,.u32 id,.str r,.i64 sec,.i64 nano,.i64 ac],.ptr 0 0,.i64 0]/\w=[bK [.iface ty5 (.agg []),.str Q,.str R,.str S,.u64 T,.i64 su,.u32 id,.str L,.str r]]) U func97 rfl db (ce (aG ?_))
  refine am [1] X ?_;simp only[go_sem,seval,-BitVec.isValue,oH];refine br (hf) ?_;simp only[go_sem,seval,-BitVec.isValue,ic,gD,cr];refine br (z) ?_;refine qc4 g A ?_;refine aE ?_
  refine fY [] (y) U J rfl J fO J J (by simp[g]) J J ?_;refine qc2 E ?_;refine qc4 g M ?_;refine aE ?_
  refine fY [2,3] (l) U J rfl J fO J J (by simp[E,l0]) J J ?_;refine qc2 F ?_;refine aE ?_
  refine fY [2,3] (i) U J rfl J fO J J (by simp[F,l1]) J J ?_;refine qc2 G ?_;refine qc4 g N ?_;refine aE ?_
  refine fY [2,3] (m) U J rfl J fO J J (by simp[G,l2]) J J ?_;refine qc2 H ?_;refine aE ?_
  refine fY [2,3] (j) U J rfl J fO J J (by simp[H,l3]) J J ?_;refine qc2 K ?_;refine qc4 g O ?_;refine aE ?_
  refine fY [2,3] (o) U J rfl J fO J J (by simp[K,l4]) J J ?_;simp only[go_sem,seval,-BitVec.isValue,cP];refine aE ?_
  simp only[go_sem,w1];refine aE ?_
  refine br (V) ?_;simp only[go_sem,seval,-BitVec.isValue,ic,gD,cr,w2,w3];refine aE ?_
  refine br (Ag ac) ?_;simp only[go_sem,seval,-BitVec.isValue,x,oH];refine qc6 g P A ?_;refine aE ?_
  refine bZ (p) ?_;refine qc2 B ?_;refine aE ?_
  refine⟨_,_,⟨rfl,rfl⟩,?_⟩;exact Fin.bd [6] J J ci ag J J
 obtain⟨_,_,hs,rfl,rfl⟩:=this;exact hs
end
end
end Go.Vm
end
section
namespace Go.Vm
open Go.Proofs
end Go.Vm
end
section
namespace Go.Vm
open Go.Proofs Go.Proofs.Tryz
section
noncomputable def tF (su:Int) (S:HS) (e:Z):HS:=S.both su (bI e)
noncomputable def tk (su:Int) (S:HS) (e once:Z):HS:=(tF su S e).key su (eS e (bI once))
noncomputable def tM (su:Int) (S:HS) (e once own:Z):HS:=(tk su S e once).key su (eS e (bI own))
noncomputable def qI (su:Int) (S:HS) (e once own aR:Z):HS:=(tM su S e once own).aR su aR
noncomputable def gC (su:Int) (S:HS) (e once own aR:Z) (ac:Int):Z:=(qI su S e once own aR).out su [BitVec.ofInt 8 ac]
noncomputable def sM (su:Int) (S:HS) (e once own aR:Z) (ac:Int):HS:=(qI su S e once own aR).next su (gC su S e once own aR ac)
noncomputable def gK (su:Int) (S:HS) (e once own aR:Z) (ac:Int) (i:Nat):Z:=d2 su (sM su S e once own aR ac).c [] i
noncomputable def rz (su:Int) (S:HS) (e once own aR:Z) (ac:Int) (cg id:aQ):Z:=2#8::BitVec.ofInt 8 su::(gA cg++gA id++bI e++gC su S e once own aR ac)
section
variable {su:Int}{S:HS}{e q once own aR:Z}{ac:Int}{id cg:aQ}
theorem JR (a:su=1\/su=2)(b:S.ok):(tF su S e).ok:=(HS.QS a b (by rw[fa];decide)).1
theorem KA (a:su=1\/su=2)(b:S.ok):(tk su S e once).ok:=(HS.Cu a (JR a b) (by rw[vV];decide)).1
theorem Ho (a:su=1\/su=2)(b:S.ok):(tM su S e once own).ok:=(HS.Cu a (KA a b) (by rw[vV];decide)).1
theorem Ab (a:su=1\/su=2)(b:S.ok)(c:aR.length=32):(qI su S e once own aR).ok/\(qI su S e once own aR).k.length=32:=HS.acM a (Ho a b) I
theorem Dl (a:su=1\/su=2)(b:S.ok)(c:aR.length=32):(gC su S e once own aR ac).length=17:=by
 have h:=Ab (e:=e) (once:=once) (own:=own) a b c;show((qI su S e once own aR).out su [BitVec.ofInt 8 ac]).length=17;rw[HS.Kw h.1 h.2 J];rfl
theorem JG (a:su=1\/su=2)(b:S.ok)(c:aR.length=32):(sM su S e once own aR ac).ok:=HS.Ij a (Ab a b c).1 (by rw[Dl a b c];decide)
theorem abF (a:su=1\/su=2)(b:S.ok)(d:aR.length=32){i:Nat}(hi:i<2):(gK su S e once own aR ac i).length=32:=by
 obtain⟨-,f,g⟩:=DD a (sM su S e once own aR ac).c [] (by have :=(JG (e:=e) (once:=once) (own:=own) (ac:=ac) a b d).2;omega) J
 match i,hi with
 |0,_=>exact f
 |1,_=>exact g
theorem Qt (a:su=1\/su=2)(h:S.ok):bp prog 145 [.ptr 0 0] [bK (S.cs su)] (.aZ [.str (d2 su S.c [] 0),.str (d2 su S.c [] 1)]) [bK (S.cs su)]:=VS a S.h S.c S.k S.n h.2
theorem N7 {k s:BitVec 8}{d f a c:Z}(h2:d.length=4)(h1:f.length=4)(b:a.length=32)(hc:c.length=17):
  (k::s::(d++f++a++c)).length=59/\List.drop 6 (List.take 10 (k::s::(d++f++a++c)))=f/\List.drop 10 (List.take 42 (k::s::(d++f++a++c)))=a/\List.drop 42 (k::s::(d++f++a++c))=c/\List.drop 2 (List.take 6 (k::s::(d++f++a++c)))=d:=by
 have g:List.take 10 (k::s::(d++f++a++c))=k::s::(d++f):=by
  rw[eU,eU,hZ,mW (by simp[h1,h2])]
 have h:List.take 42 (k::s::(d++f++a++c))=k::s::(d++f++a):=by
  rw[eU,eU,mW (by simp[h1,h2,b])]
 have i:List.take 6 (k::s::(d++f++a++c))=k::s::d:=by
  rw[eU,eU,hZ,hZ,mW h2]
 refine⟨by simp[h1,h2,b,hc],?_,?_,?_,?_⟩
 .rw[g,nj,nj,oI h2]
 .rw[h,nj,nj,oI (by simp[h1,h2])]
 .rw[nj,nj,oI (by simp[h1,h2,b])]
 .rw[i];rfl
theorem ab2 (a:su=1\/su=2)(f:ac=1\/ac=2)(b:S.ok)(o:e.length=32)(ho:once.length=32)(hw:own.length=32)(y:aR.length=32):
  bp prog 99 [.ptr 0 0,.str aR,.str e,.i64 ac,.u32 cg] [bK (S.cs su++[.i64 su,.u32 id,.str (bI once),.str (bI own)])]
   (.aZ [.str (rz su S e once own aR ac cg id),.agg [.str (gK su S e once own aR ac 1),.str (gK su S e once own aR ac 0)],.i64 0]) [bK (S.cs su++[.i64 su,.u32 id,.str (bI once),.str (bI own)])]:=by
 have K:decide (ac=1\/ac=2)=true:=nX f;have A:=E0 a b (t:=bI e) (by rw[fa];decide) 0;change bp _ _ _ _ _ (cP 0 ((tF su S e).cs su)) at A;have B:=wy a (JR (e:=e) a b) (k:=e) (u:=bI once) o (fa once) (xf o ho);change bp _ _ _ _ _ (cP 0 ((tk su S e once).cs su)) at B;have C:=wy a (KA (e:=e) (once:=once) a b) (k:=e) (u:=bI own) o (fa own) (xf o hw);change bp _ _ _ _ _ (cP 0 ((tM su S e once own).cs su)) at C;have D:=SQ a (Ho (e:=e) (once:=once) (own:=own) a b) (t:=aR) I;change bp _ _ _ _ _ [bK ((qI su S e once own aR).cs su)] at D;have E:=IS a (Ab (e:=e) (once:=once) (own:=own) a b y).1 (Ab a b y).2 (t:=[BitVec.ofInt 8 ac]) J;change bp _ _ _ _ (.str (gC su S e once own aR ac)) (cP 0 ((sM su S e once own aR ac).cs su)) at E;have F:=Qt a (JG (e:=e) (once:=once) (own:=own) (ac:=ac) a b y);change bp _ _ _ _ (.aZ [.str (gK su S e once own aR ac 0),.str (gK su S e once own aR ac 1)]) _ at F;have L:bE prog 26 [.str e] (.aZ [.str (bI e),.i64 0]):=yG e o;have hk:=Iv [aR,e] J (by simp[y,o]);have M:=Hs id;have N:=Hs cg;have a6:=jS id;have a7:=jS cg;have a8:=fa e;have b0:=Dl (e:=e) (once:=once) (own:=own) (ac:=ac) a b y;have g:=(tF su S e).aW su;have p:=(tF su S e).low su;have i:=(tk su S e once).aW su;have r:=(tk su S e once).low su;have j:=(tM su S e once own).aW su;have s:=(tM su S e once own).low su;have l:=(qI su S e once own aR).aW su;have w:=(qI su S e once own aR).low su;have d:=(sM su S e once own aR ac).aW su;have x:=(sM su S e once own aR ac).low su;have e0:∃ (z:TypeId) (h c k:Z) (n:aS),S.cs su=[.iface z (.agg []),.str h,.str c,.str k,.u64 n]:=⟨_,_,_,_,_,rfl⟩;unfold rz;generalize (tF su S e).cs su=c1 at*;generalize (tk su S e once).cs su=c2 at*;generalize (tM su S e once own).cs su=c3 at*;generalize (qI su S e once own aR).cs su=c4 at*;generalize (sM su S e once own aR ac).cs su=c5 at*;generalize gC su S e once own aR ac=W at*;generalize gK su S e once own aR ac 0=X at*;generalize gK su S e once own aR ac 1=Y at*;generalize S.cs su=c0 at*;generalize gA id=ix at*;generalize gA cg=G at*;generalize bI once=O at*;generalize bI own=P at*;generalize bI e=pe at*;obtain⟨z,Q,m,R,T,rfl⟩:=e0;have :∃ v H,bp prog 99 [.ptr 0 0,.str aR,.str e,.i64 ac,.u32 cg] [bK [.iface z (.agg []),.str Q,.str m,.str R,.u64 T,.i64 su,.u32 id,.str O,.str P]] v H/\
   (v= .aZ [.str (2#8::BitVec.ofInt 8 su::(G++ix++pe++W)),.agg [.str Y,.str X],.i64 0]/\H=[bK [.iface z (.agg []),.str Q,.str m,.str R,.u64 T,.i64 su,.u32 id,.str O,.str P]]):=by
  refine kg (Post:=fun v H=>v= .aZ [.str (2#8::BitVec.ofInt 8 su::(G++ix++pe++W)),.agg [.str Y,.str X],.i64 0]/\H=[bK [.iface z (.agg []),.str Q,.str m,.str R,.u64 T,.i64 su,.u32 id,.str O,.str P]]) U func99 rfl db (ce ?_);simp only[go_sem,seval,iK];repeat refine aJ ?_
  refine am [2] hk ?_;simp only[go_sem,seval,iK,oH];refine br (Ag ac) ?_;simp only[go_sem,seval,iK,K,oH];repeat refine aJ ?_
  refine br (L) ?_;simp only[go_sem,seval,iK];repeat refine aJ ?_
  refine am [4,3] A ?_;simp only[go_sem,seval,iK,g];repeat refine aJ ?_
  refine fY [4,3] (B) U (by simp[g,p]) rfl (by simp[g,p]) fO (by simp[g,p]) (by simp[g,p]) (by simp[g,p]) (by simp[g,p]) J ?_;simp only[go_sem,seval,iK,i];repeat refine aJ ?_
  refine fY [4,3] (C) U (by simp[i,r]) rfl (by simp[i,r]) fO (by simp[i,r]) (by simp[i,r]) (by simp[i,r]) (by simp[i,r]) J ?_;simp only[go_sem,seval,iK,j];repeat refine aJ ?_
  refine fY [3] (D) U (by simp[j,s]) rfl (by simp[j,s]) fO (by simp[j,s]) (by simp[j,s]) (by simp[j,s]) (by simp[j,s]) J ?_;simp only[go_sem,seval,iK,l];repeat refine aJ ?_
  refine fY [4,3] (E) U (by simp[l,w]) rfl (by simp[l,w]) fO (by simp[l,w]) (by simp[l,w]) (by simp[l,w]) (by simp[l,w]) J ?_;simp only[go_sem,seval,iK,d];repeat refine aJ ?_
  refine fY [3] (F) U (by simp[d,x]) rfl (by simp[d,x]) fO (by simp[d,x]) (by simp[d,x]) (by simp[d,x]) (by simp[d,x]) J ?_;simp only[go_sem,seval,iK,d];repeat refine aJ ?_
  refine bZ (N) ?_;simp only[go_sem,seval,iK];repeat refine aJ ?_
  refine bZ (M) ?_;simp only[go_sem,seval,iK];repeat refine aJ ?_
  refine⟨_,_,?_,Fin.take 1 J J (by simp[jv,blksLow,lows,V.low,u9]) (by simp[jv,blksLow,lows,V.low,u9])⟩;exact⟨rfl,rfl⟩
 obtain⟨_,_,hs,rfl,rfl⟩:=this;exact hs
theorem x1_ {p q A:Prop}(u:A)(h:q)(e:A→p=q:=by intro u;simp -implicitDefEqProofs only[go_sem,↓reduceIte,Nat.reduceEqDiff,Nat.reduceLT,Nat.reduceLeDiff,Nat.reduceAdd,Nat.reduceSub,Nat.reduceMul,Nat.reduceMod,Nat.reduceDiv,Int.reduceLE,Int.reduceLT,Int.reduceToNat,Int.reduceAdd,Int.reduceSub,Int.reduceMul,Int.reduceEq,Int.reduceNeg,BitVec.reduceOfInt,BitVec.reduceToNat,BitVec.reduceEq,BitVec.reduceNe,BitVec.reduceLT,reduceCtorEq,iK,ic,gD,cr,cE,oH,kJ,u];rfl):p:=e u▸h
theorem x6_ {p q A B C D E F:Prop}(u:A)(v:B)(w:C)(x:D)(y:E)(z:F)(h:q)(e:A→B→C→D→E→F→p=q:=by intro u v w x y z;simp -implicitDefEqProofs only[go_sem,↓reduceIte,Nat.reduceEqDiff,Nat.reduceLT,Nat.reduceLeDiff,Nat.reduceAdd,Nat.reduceSub,Nat.reduceMul,Nat.reduceMod,Nat.reduceDiv,Int.reduceLE,Int.reduceLT,Int.reduceToNat,Int.reduceAdd,Int.reduceSub,Int.reduceMul,Int.reduceEq,Int.reduceNeg,BitVec.reduceOfInt,BitVec.reduceToNat,BitVec.reduceEq,BitVec.reduceNe,BitVec.reduceLT,reduceCtorEq,iK,ic,gD,cr,cE,oH,kJ,u,v,w,x,y,z];rfl):p:=e u v w x y z▸h
theorem W7 (b:su=1\/su=2)(d:ac=1\/ac=2)(f:S.ok)(R:e.length=32)(Y:once.length=32)(hw:own.length=32)(T:aR.length=32)(a:List zH):
  bp prog 103 [.ptr 0 0,.str (rz su S e once own aR ac cg id)] [bK (S.cs su++[.i64 su,.str own,.str a,.str aR,.str once,.u32 id])]
   (.aZ [.agg [.str (gK su S e once own aR ac 0),.str (gK su S e once own aR ac 1)],.i64 ac,.u32 cg,.i64 0]) [bK (S.cs su++[.i64 su,.str own,.str a,.str aR,.str once,.u32 id])]:=by
 have a6:decide (ac=1\/ac=2)=true:=nX d;have F:=E0 b f (t:=bI e) (by rw[fa];decide) 0;change bp _ _ _ _ _ (cP 0 ((tF su S e).cs su)) at F;have j:=wy b (JR (e:=e) b f) (k:=once) (u:=bI e) Y (fa e) (xf Y R);rw[show eS once (bI e)=eS e (bI once) from FP Y R] at j;change bp _ _ _ _ _ (cP 0 ((tk su S e once).cs su)) at j;have l:=wy b (KA (e:=e) (once:=once) b f) (k:=own) (u:=bI e) hw (fa e) (xf hw R);rw[show eS own (bI e)=eS e (bI own) from FP hw R] at l;change bp _ _ _ _ _ (cP 0 ((tM su S e once own).cs su)) at l;have G:=SQ b (Ho (e:=e) (once:=once) (own:=own) b f) (t:=aR) I;change bp _ _ _ _ _ [bK ((qI su S e once own aR).cs su)] at G;have H:=JD b (Ab (e:=e) (once:=once) (own:=own) b f T).1 (Ab b f T).2 (t:=[BitVec.ofInt 8 ac]) J;change bp _ _ [.ptr 0 0,.str (gC su S e once own aR ac)] _ _ (cP 0 ((sM su S e once own aR ac).cs su)) at H;have K:=Qt b (JG (e:=e) (once:=once) (own:=own) (ac:=ac) b f T);change bp _ _ _ _ (.aZ [.str (gK su S e once own aR ac 0),.str (gK su S e once own aR ac 1)]) _ at K;obtain⟨w,N,O,P,Q⟩:=N7 (k:=2#8) (s:=BitVec.ofInt 8 su) (jS cg) (jS id) (fa e) (Dl (e:=e) (once:=once) (own:=own) (ac:=ac) b f T);change (rz su S e once own aR ac cg id).length=59 at w;change List.drop 6 (List.take 10 (rz su S e once own aR ac cg id))=_ at N;change List.drop 10 (List.take 42 (rz su S e once own aR ac cg id))=_ at O;change List.drop 42 (rz su S e once own aR ac cg id)=_ at P;change List.drop 2 (List.take 6 (rz su S e once own aR ac cg id))=_ at Q;have y:(((rz su S e once own aR ac cg id).getD 1 0).toNat:Int)=su:=Bo b;have q7:(rz su S e once own aR ac cg id).getD 0 0=2#8:=rfl;have hf:=Mj (size:=59) (k:=2#8) w ag q7 (by rw[y];exact b);have a7:=FC id;have L:=FC cg;have e8:List.take 8 (gA id)=gA id:=bq (by rw[jS];decide);have a8:List.take 8 (gA cg)=gA cg:=bq (by rw[jS];decide);have M:=mY (gA id) (by rw[jS];decide);rw[e8] at M;have g:=mY (gA cg) (by rw[jS];decide);rw[a8] at g;have W:((([BitVec.ofInt 8 ac]:List zH).getD 0 0).toNat:Int)=ac:=Bo d;have w3:([BitVec.ofInt 8 ac]:List zH).length=1:=rfl;have m:=(tF su S e).aW su;have z:=(tF su S e).low su;have o:=(tk su S e once).aW su;have A:=(tk su S e once).low su;have p:=(tM su S e once own).aW su;have B:=(tM su S e once own).low su;have r:=(qI su S e once own aR).aW su;have C:=(qI su S e once own aR).low su;have i:=(sM su S e once own aR ac).aW su;have D:=(sM su S e once own aR ac).low su;have e0:∃ (E:TypeId) (h c k:List zH) (n:BitVec 64),S.cs su=[.iface E (.agg []),.str h,.str c,.str k,.u64 n]:=⟨_,_,_,_,_,rfl⟩;generalize (tF su S e).cs su=c1 at*;generalize (tk su S e once).cs su=c2 at*;generalize (tM su S e once own).cs su=c3 at*;generalize (qI su S e once own aR).cs su=c4 at*;generalize (sM su S e once own aR ac).cs su=c5 at*;generalize rz su S e once own aR ac cg id=b0 at*;generalize gC su S e once own aR ac=gc at*;generalize gK su S e once own aR ac 0=k0 at*;generalize gK su S e once own aR ac 1=k1 at*;generalize S.cs su=c0 at*;generalize gA id=ix at*;generalize gA cg=b2 at*;generalize bI once=po at*;generalize bI own=pw at*;generalize bI e=pe at*;generalize ([BitVec.ofInt 8 ac]:List zH)=bb at*;obtain⟨E,h0,x,q0,n0,rfl⟩:=e0;have :∃ v X,bp prog 103 [.ptr 0 0,.str b0] [bK [.iface E (.agg []),.str h0,.str x,.str q0,.u64 n0,.i64 su,.str own,.str a,.str aR,.str once,.u32 id]] v X/\
   (v= .aZ [.agg [.str k0,.str k1],.i64 ac,.u32 cg,.i64 0]/\X=[bK [.iface E (.agg []),.str h0,.str x,.str q0,.u64 n0,.i64 su,.str own,.str a,.str aR,.str once,.u32 id]]):=by
  refine kg (Post:=fun v X=>v= .aZ [.agg [.str k0,.str k1],.i64 ac,.u32 cg,.i64 0]/\X=[bK [.iface E (.agg []),.str h0,.str x,.str q0,.u64 n0,.i64 su,.str own,.str a,.str aR,.str once,.u32 id]]) U (fn:=f103) func103 rfl db (ce ?_);refine x1_ trivial ?_;repeat refine aJ ?_
  refine br (hf) ?_;refine x6_ w y y y y y ?_;refine x6_ w N O P Q y ?_;repeat refine aJ ?_
  refine bZ (M) ?_;refine x1_ a7 ?_;refine x6_ w N O P Q y ?_;repeat refine aJ ?_
  refine fY [3,2] (F) U J rfl J fO J J J J J ?_;refine x1_ m ?_;repeat refine aJ ?_
  refine fY [3,2] (j) U (by simp[m,z]) rfl (by simp[m,z]) fO (by simp[m,z]) (by simp[m,z]) (by simp[m,z]) (by simp[m,z]) J ?_;refine x1_ o ?_;repeat refine aJ ?_
  refine fY [3,2] (l) U (by simp[o,A]) rfl (by simp[o,A]) fO (by simp[o,A]) (by simp[o,A]) (by simp[o,A]) (by simp[o,A]) J ?_;refine x1_ p ?_;repeat refine aJ ?_
  refine Bs [2] (G) U (by simp[p,B]) rfl (by simp[p,B]) fO (by simp[p,B]) (by simp[p,B]) (by simp[p,B]) (by simp[p,B]) J ?_;refine x1_ r ?_;refine x6_ w N O P Q y ?_;repeat refine aJ ?_
  refine fY [3,2] (H) U (by simp[r,C]) rfl (by simp[r,C]) fO (by simp[r,C]) (by simp[r,C]) (by simp[r,C]) (by simp[r,C]) J ?_;refine x1_ i ?_;repeat refine aJ ?_
  refine x6_ W w3 w3 w3 w3 w3 ?_;repeat refine aJ ?_
  refine br (Ag ac) ?_;refine x1_ a6 ?_;repeat refine aJ ?_
  refine fY [2] (K) U (by simp[i,D]) rfl (by simp[i,D]) fO (by simp[i,D]) (by simp[i,D]) (by simp[i,D]) (by simp[i,D]) J ?_;refine x1_ i ?_;refine x6_ w N O P Q y ?_;repeat refine aJ ?_
  refine bZ (g) ?_;refine x1_ L ?_;repeat refine aJ ?_
  refine⟨_,_,?_,Fin.take 1 J J (by simp[jv,blksLow,lows,V.low,u9,-List.map_take,-List.map_drop,-List.map_map,-List.map_set,W]) (by simp[jv,blksLow,lows,V.low,u9,-List.map_take,-List.map_drop,-List.map_map,-List.map_set,W])⟩;exact⟨by rw[W],rfl⟩
 obtain⟨_,_,hs,rfl,rfl⟩:=this;exact hs
end
end
theorem Gw (u c:Z):bE prog 129 [.str u,.str c] (.i64 (if u.length=32/\(c=[]\/c.length=16) then 0 else 1)):=by
 refine ai func129 ?_;simp only[go_sem,seval,ntmps129];by_cases f:(u.length:Int)=32
 .by_cases e:c=[]
  .subst e;have d:u.length=32:=I;simp only[go_sem,seval,d,gD,cr,qV,true_or]
  .by_cases b:(c.length:Int)=16
   .have d:u.length=32:=I;have a:c.length=16:=I;simp only[go_sem,seval,d,e,a,gD,kJ,cE,cr,qV,or_true]
   .have a:¬ c.length=16:=I;simp only[go_sem,seval,f,e,b,a,gD,kJ,cE,cr,or_self,vo]
 .have d:¬ u.length=32:=I;simp only[go_sem,seval,f,d,kJ,cE,tv]
end Go.Vm
end
section
namespace Go.Vm
open Go.Proofs
end Go.Vm
end
section
namespace Go.Vm
open Go.Proofs Go.Proofs.Tryz
section
theorem Ib (d x:Z)(m:Nat)(f:1<=m/\m<=32)(c:d.length<=32)(a:x.length<=1099511627776):∃ o:Z,bE prog 131 [.str d,.str x,.i64 m] (.str o)/\o.length=m:=by
 obtain⟨_,e,b⟩:=Px d x m I a;rcases b with⟨rfl,h⟩|⟨-,g,-,o,i,rfl⟩
 .omega
 .refine⟨o,?_,I⟩;refine ai func131 ?_;simp only[go_sem,seval,ntmps131];refine br (e) ?_;simp only[go_sem,seval]
theorem aaZ (u x:Z)(d:u.length<=549755813888)(b:x.length<=1099511627776):∃ o:Z,bE prog 130 [.str u,.str x] (.str o)/\o.length=16:=by
 have e:(bytesOf ⟨#[109,97,114,107,45,45,45,45]⟩).length=8:=by rw[pR];rfl
 obtain⟨o,f,h⟩:=Ib [] (bytesOf ⟨#[109,97,114,107,45,45,45,45]⟩++u) 32 ag J (by rw[bA];omega);obtain⟨c,g,a⟩:=Ib o x 16 ag I b;refine⟨c,?_,a⟩;refine ai func130 ?_;simp only[go_sem,seval,ntmps130];refine aE ?_
 refine br (f) (aH ?_);refine br (g) ?_;simp only[go_sem,seval]
open Classical in
noncomputable def cY (u x:Z):Z:=if h:∃ o:Z,bE prog 130 [.str u,.str x] (.str o)/\o.length=16 then h.choose else[]
theorem E2 (u x:Z)(a:u.length<=549755813888)(b:x.length<=1099511627776):bE prog 130 [.str u,.str x] (.str (cY u x))/\(cY u x).length=16:=by
 have h:=aaZ u x a b;unfold cY;rw[dif_pos h];exact h.choose_spec
noncomputable def marked (u x:Z):Z:=x++cY u x++List.replicate 16 0#8
theorem VW (u x:Z)(d:u.length=32)(b:x.length<=10000000):bE prog 127 [.str u,.str [],.str x] (.aZ [.str (marked u x),.i64 0]):=by
 have a:=Gw u [];rw[aM ⟨d,.inl rfl⟩] at a;obtain⟨e,c⟩:=E2 u x I I;unfold marked;generalize cY u x=o at*;refine ai func127 ?_;simp only[go_sem,seval,ntmps127];refine br (a) (aH ?_);refine br (e) (aG ?_)
 refine br (yF 16 ag) (aH ?_);omega
end
end Go.Vm
end
section
namespace Go.Vm
open Go.Proofs
end Go.Vm
end
section
namespace Go.Vm
open Go.Proofs Go.Proofs.Tryz
def n8 (next:Int)(a:aS)(n:Int):Int:=
 if n<0\/1099511627776<n then 1 else if next-1-n<0 then 0 else if 64<=next-1-n\/a>>>(next-1-n).toNat&&&1#64=1#64 then 11 else 0
def pJ (next n:Int):Int:=if next<=n then n+1 else next
def uZ (next:Int)(a:aS)(n:Int):aS:=
 if next<=n then a<<<(if 64<n+1-next then 64 else n+1-next).toNat|||1#64<<<0 else a|||1#64<<<(next-1-n).toNat
theorem NA:bp prog 164 [] [] (.ptr 0 0) [bK [.i64 0,.u64 0#64]]:=by
 refine ak func164 ?_;simp only[go_sem,seval,ntmps164,results164];exact Fin.bd [0] J J ci ag J J
theorem Ej (next:Int)(f:aS)(n:Int)(h0:0<=next)(h1:next<=1099511627777):bp prog 166 [.ptr 0 0,.i64 n] [bK [.i64 next,.u64 f]] (.i64 (n8 next f n)) [bK [.i64 next,.u64 f]]:=by
 unfold n8;by_cases g:n<0
 .refine ak func166 ?_;simp only[go_sem,seval,ntmps166,results166,g,true_or];exact Fin.bd [0] J J ci ag J J
 .by_cases a:1099511627776<n
  .refine ak func166 ?_;simp only[go_sem,seval,ntmps166,results166,g,a,false_or];exact Fin.bd [0] J J ci ag J J
  .have b:bh (next-1)=next-1:=bC I I;have c:bh (next-1-n)=next-1-n:=bC I I;by_cases d:next-1-n<0
   .refine ak func166 ?_;simp only[go_sem,seval,ntmps166,results166,g,a,false_or,b,c,d];exact Fin.bd [0] J J ci ag J J
   .by_cases e:64<=next-1-n
    .refine ak func166 ?_;simp only[go_sem,seval,ntmps166,results166,g,a,false_or,b,c,d,e,true_or];exact Fin.bd [0] J J ci ag J J
    .refine ak func166 ?_;simp only[go_sem,seval,ntmps166,results166,g,a,false_or,b,c,d,e];refine⟨I,?_⟩;split
     .exact Fin.bd [0] J J ci ag J J
     .exact Fin.bd [0] J J ci ag J J
theorem aec (next:Int)(j:aS)(n:Int)(h0:0<=next)(h1:next<=1099511627777)(h:n8 next j n=0):bp prog 168 [.ptr 0 0,.i64 n] [bK [.i64 next,.u64 j]] (.i64 0) [bK [.i64 (pJ next n),.u64 (uZ next j n)]]:=by
 have i:0<=n/\n<=1099511627776:=by
  unfold n8 at h;by_cases k:n<0\/1099511627776<n
  .rw[aM k] at h;omega
  .omega
 have b:bh (next-1)=next-1:=bC I I;have c:bh (next-1-n)=next-1-n:=bC I I;have d:bh (n+1)=n+1:=bC I I;have e:bh (n+1-next)=n+1-next:=bC I I;have f:bh (n+1-1)=n:=by rw[bC I I];omega
 have g:bh (n-n)=0:=by rw[bC I I];omega
 unfold pJ uZ;refine ak func168 ?_;simp only[go_sem,seval,ntmps168];refine am [0] (Ej next j n h0 h1) ?_;refine aL h ?_;by_cases k:next<=n
 .have a:0<=(if 64<n+1-next then 64 else n+1-next):=by split <;>omega
  refine qa5 k d e a f g ?_;refine⟨U,U,?_⟩;exact Fin.bd [0] J J ci ag J J
 .have a:0<=next-1-n:=I;refine sh k b c a ?_;refine⟨U,?_⟩;exact Fin.bd [0] J J ci ag J J
def pd (a se now:Int):Bool:=if a+180<=now then true else decide (1000<=se)
def FA (a se:Int)(fs:Bool)(now:Int):Bool:=if pd a se now=true then true else if fs=true then decide (a+120<=now) else false
theorem AF (g h:Z)(s f se:Int)(fs:Bool)(next:Int)(d:aS)(now m:Int)(c:0<=f)(a:f<=1099511627776)(i:0<=m)(b:m<=1000):
  bp prog 88 [.ptr 0 0,.i64 now,.i64 m] [bK [.ptr 1 0,.str g,.str h,.i64 s,.i64 f,.i64 se,.bool fs],bK [.i64 next,.u64 d]] (.bool (decide (f+m<=now))) [bK [.ptr 1 0,.str g,.str h,.i64 s,.i64 f,.i64 se,.bool fs],bK [.i64 next,.u64 d]]:=by
 have e:bh (f+m)=f+m:=bC I I;refine ak func88 ?_;simp only[go_sem,seval,ntmps88,results88,e];exact Fin.bd [0,1] J J ci ag J J
theorem Dh (f g:Z)(s d se:Int)(fs:Bool)(next:Int)(c:aS)(now:Int)(b:0<=d)(a:d<=1099511627776):
  bp prog 62 [.ptr 0 0,.i64 now] [bK [.ptr 1 0,.str f,.str g,.i64 s,.i64 d,.i64 se,.bool fs],bK [.i64 next,.u64 c]] (.bool (pd d se now)) [bK [.ptr 1 0,.str f,.str g,.i64 s,.i64 d,.i64 se,.bool fs],bK [.i64 next,.u64 c]]:=by
 have e:=AF f g s d se fs next c now 180 b a ag ag;unfold pd;by_cases h:d+180<=now
 .have i:=gg h;rw[nX h] at e;refine ak func62 ?_;simp only[go_sem,seval,ntmps62];refine am [0,1] e ?_;refine aL i ?_;exact Fin.bd [0,1] J J ci ag J J
 .have i:=nY h;rw[oZ h] at e;refine ak func62 ?_;simp only[go_sem,seval,ntmps62];refine am [0,1] e ?_;refine aL i ?_;exact Fin.bd [0,1] J J ci ag J J
theorem aa2 (f g:Z)(s e se:Int)(fs:Bool)(next:Int)(d:aS)(now:Int)(b:0<=e)(a:e<=1099511627776):
  bp prog 66 [.ptr 0 0,.i64 now] [bK [.ptr 1 0,.str f,.str g,.i64 s,.i64 e,.i64 se,.bool fs],bK [.i64 next,.u64 d]] (.bool (FA e se fs now)) [bK [.ptr 1 0,.str f,.str g,.i64 s,.i64 e,.i64 se,.bool fs],bK [.i64 next,.u64 d]]:=by
 have h:=Dh f g s e se fs next d now b a;have c:=AF f g s e se fs next d now 120 b a ag ag;unfold FA;generalize pd e se now=o at*;cases o
 .cases fs
  .refine ak func66 ?_;simp only[go_sem,seval,ntmps66];refine am [0,1] h (aH ?_);exact Fin.bd [0,1] J J ci ag J J
  .refine ak func66 ?_;simp only[go_sem,seval,ntmps66];refine am [0,1] h (aH ?_);refine am [0,1] c (aH ?_);exact Fin.bd [0,1] J J ci ag J J
 .refine ak func66 ?_;simp only[go_sem,seval,ntmps66];refine am [0,1] h (aH ?_);exact Fin.bd [0,1] J J ci ag J J
theorem ajp (j l:Z)(s k se:Int)(fs:Bool)(next:Int)(i:aS)(c:s=1\/s=2)(t:Z)(now:Int)(d:0<=k)(a:k<=1099511627776)(e:0<=se)(b:se<=100000)(n:pd k se now=false)(o:(mP s j (eV s (BitVec.ofInt 64 se)) [] t).2=0):
  bp prog 63 [.ptr 0 0,.str t,.i64 now] [bK [.ptr 1 0,.str j,.str l,.i64 s,.i64 k,.i64 se,.bool fs],bK [.i64 next,.u64 i]] (.aZ [.i64 se,.str (mP s j (eV s (BitVec.ofInt 64 se)) [] t).1,.i64 0]) [bK [.ptr 1 0,.str j,.str l,.i64 s,.i64 k,.i64 (se+1),.bool fs],bK [.i64 next,.u64 i]]:=by
 have m:=Dh j l s k se fs next i now d a;rw[n] at m;have p:=acd c j [] t (BitVec.ofInt 64 se);generalize mP s j (eV s (BitVec.ofInt 64 se)) [] t=g at*;have f:bh (se+1)=se+1:=bC I I;have h:bh (se+1-1)=se:=by rw[bC I I];omega
 refine ak func63 ?_;simp only[go_sem,seval,ntmps63];refine am [0,1] m (aH ?_);refine bZ (p) ?_;refine i9 o f h ?_;refine⟨U,?_⟩;exact Fin.bd [0,1] J J ci ag J J
theorem U3 (j h:Z)(s i se:Int)(fs:Bool)(next:Int)(f:aS)(d:s=1\/s=2)(n:Int)(t:Z)(now:Int)(e:0<=i)(c:i<=1099511627776)(a:0<=next)(b:next<=1099511627777)(l:¬ i+180<=now)(hc:n8 next f n=0)(m:(lh s h (eV s (BitVec.ofInt 64 n)) [] t).2=0):
  bp prog 148 [.ptr 0 0,.i64 n,.str t,.i64 now] [bK [.ptr 1 0,.str j,.str h,.i64 s,.i64 i,.i64 se,.bool fs],bK [.i64 next,.u64 f]] (.aZ [.str (lh s h (eV s (BitVec.ofInt 64 n)) [] t).1,.i64 0]) [bK [.ptr 1 0,.str j,.str h,.i64 s,.i64 i,.i64 se,.bool fs],bK [.i64 (pJ next n),.u64 (uZ next f n)]]:=by
 have k:=AF j h s i se fs next f now 180 e c ag ag;rw[oZ l] at k;have o:=PA d h [] t (BitVec.ofInt 64 n);generalize lh s h (eV s (BitVec.ofInt 64 n)) [] t=g at*;refine ak func148 ?_;simp only[go_sem,seval,ntmps148];refine am [0,1] k (aH ?_);refine am [1] (Ej next f n a b) ?_;refine aL hc ?_;refine bZ (o) ?_;refine aL m ?_;refine⟨U,?_⟩;refine am [1] (aec next f n a b hc) (aH ?_);exact Fin.bd [0,1] J J ci ag J J
def jz (s:Int)(k:Z)(n:Int)(t:Z):Z:=(mP s k (eV s (BitVec.ofInt 64 n)) [] t).1
theorem yQ {s:Int}{k t:Z}{n:Int}(a:k.length=32)(ht:t.length<=2000):(jz s k n t).length=t.length+16:=
 (yJ (x:=s) (k:=k) (c:=eV s (BitVec.ofInt 64 n)) (m:=[]) (t:=t) a (zj _ _) J ht).2.1
theorem agt {s:Int}(e:s=1\/s=2){j:Z}(n:Z)(f:j.length=32)(l se:Int)(fs:Bool)(next:Int)(i:aS){t:Z}(ht:t.length<=2000)(now:Int)(g:0<=l)(a:l<=1099511627776)(h:now<l+180)(b:0<=se)(d:se<1000):
  bp prog 63 [.ptr 0 0,.str t,.i64 now] [bK [.ptr 1 0,.str j,.str n,.i64 s,.i64 l,.i64 se,.bool fs],bK [.i64 next,.u64 i]] (.aZ [.i64 se,.str (jz s j se t),.i64 0]) [bK [.ptr 1 0,.str j,.str n,.i64 s,.i64 l,.i64 (se+1),.bool fs],bK [.i64 next,.u64 i]]:=by
 obtain⟨o,-,-⟩:=yJ (x:=s) (k:=j) (c:=eV s (BitVec.ofInt 64 se)) (m:=[]) (t:=t) f (zj _ _) J ht;exact ajp j n s l se fs next i e t now g a b I (by unfold pd;rw[aq I];simp;omega) o
def KM (k n:Int):Prop:=(k<1\/6<k)\/(n<0\/1099511627776<n)
def tW (w:Bool)(k:Int):Bool:=if k=3 then true else if k=4 then true else if k=5 then false else if k=6 then false else w
def tT (t k:Int):Int:=if k=4 then t+1 else if k=5 then 0 else if k=6 then 0 else t
def tL (l k n:Int):Int:=if k=4 then n else if k=6 then 0 else l
def tO (o:Bool)(k:Int):Bool:=if k=1 then false else if k=2 then true else if k=6 then false else o
def tU (o:Bool)(u k n:Int):Int:=if k=2 then(if o=true then u else n) else if k=6 then 0 else u
theorem ac0 (w:Bool)(t l:Int)(o:Bool)(u k n:Int)(ht:0<=t)(a:t<=140737488355328)(h:¬ KM k n):bp prog 47 [.ptr 0 0,.i64 k,.i64 n] [bK [.bool w,.i64 t,.i64 l,.bool o,.i64 u]] (.i64 0) [bK [.bool (tW w k),.i64 (tT t k),.i64 (tL l k n),.bool (tO o k),.i64 (tU o u k n)]]:=by
 unfold KM at h;have c:¬ n<0:=I;have d:¬ 1099511627776<n:=I;have b:bh (t+1)=t+1:=bC I I;rcases(by omega :k=1\/k=2\/k=3\/k=4\/k=5\/k=6) with rfl|rfl|rfl|rfl|rfl|rfl
 .refine ak func47 ?_;simp only[go_sem,seval,ntmps47,results47,c,d];exact Fin.bd [0] J J ci ag J (by simp[tW,tT,tL,tO,tU])
 .cases o
  .refine ak func47 ?_;simp only[go_sem,seval,ntmps47,results47,c,d];exact Fin.bd [0] J J ci ag J (by simp[tW,tT,tL,tO,tU])
  .refine ak func47 ?_;simp only[go_sem,seval,ntmps47,results47,c,d];exact Fin.bd [0] J J ci ag J (by simp[tW,tT,tL,tO,tU])
 .refine ak func47 ?_;simp only[go_sem,seval,ntmps47,results47,c,d];exact Fin.bd [0] J J ci ag J (by simp[tW,tT,tL,tO,tU])
 .refine ak func47 ?_;simp only[go_sem,seval,ntmps47,results47,c,d,b];exact Fin.bd [0] J J ci ag J (by simp[tW,tT,tL,tO,tU])
 .refine ak func47 ?_;simp only[go_sem,seval,ntmps47,results47,c,d];exact Fin.bd [0] J J ci ag J (by simp[tW,tT,tL,tO,tU])
 .refine ak func47 ?_;simp only[go_sem,seval,ntmps47,results47,c,d];exact Fin.bd [0] J J ci ag J (by simp[tW,tT,tL,tO,tU])
def zE (w:Bool)(t l:Int)(o:Bool)(u now:Int):Int:=
 if w=true/\t=0 then 1 else if w=true/\l+5<=now then(if t=6 then 3 else 1) else if o=true/\u+10<=now then 2 else 0
theorem ag8 (w:Bool)(t l:Int)(o:Bool)(u now:Int)(e:0<=l/\l<=1099511627776)(h:0<=u/\u<=1099511627776):bp prog 67 [.ptr 0 0,.i64 now] [bK [.bool w,.i64 t,.i64 l,.bool o,.i64 u]] (.i64 (zE w t l o u now)) [bK [.bool w,.i64 t,.i64 l,.bool o,.i64 u]]:=by
 have a:bh (l+5)=l+5:=bC I I;have c:bh (u+10)=u+10:=bC I I;unfold zE;cases w
 .cases o
  .refine ak func67 ?_;simp only[go_sem,seval,ntmps67,results67,qV,fh,tv];exact Fin.bd [0] J J ci ag J J
  .by_cases b:u+10<=now
   .refine ak func67 ?_;simp only[go_sem,seval,ntmps67,results67,c,qV,b,fh,tv];exact Fin.bd [0] J J ci ag J J
   .refine ak func67 ?_;simp only[go_sem,seval,ntmps67,results67,c,qV,b,fh,tv,vo];exact Fin.bd [0] J J ci ag J J
 .by_cases f:t=0
  .refine ak func67 ?_;simp only[go_sem,seval,ntmps67,results67,f];exact Fin.bd [0] J J ci ag J J
  .by_cases g:l+5<=now
   .by_cases d:t=6
    .refine ak func67 ?_;simp only[go_sem,seval,ntmps67,results67,a,g,d,fh,vo];exact Fin.bd [0] J J ci ag J J
    .refine ak func67 ?_;simp only[go_sem,seval,ntmps67,results67,a,f,g,d,fh,vo];exact Fin.bd [0] J J ci ag J J
   .cases o
    .refine ak func67 ?_;simp only[go_sem,seval,ntmps67,results67,a,f,g,fh,tv,vo];exact Fin.bd [0] J J ci ag J J
    .by_cases b:u+10<=now
     .refine ak func67 ?_;simp only[go_sem,seval,ntmps67,results67,a,c,f,g,b,fh,vo];exact Fin.bd [0] J J ci ag J J
     .refine ak func67 ?_;simp only[go_sem,seval,ntmps67,results67,a,c,f,g,b,fh,vo];exact Fin.bd [0] J J ci ag J J
end Go.Vm
end
section
namespace Go.Vm
open Go.Proofs
section
structure bL where
 su:Int
 q:Z
 once:Z
 own:Z
 sec:Int
 nano:Int
 ac:Int
 id:aQ
noncomputable def bL.text (f:bL):Z:=fT f.su f.q f.once f.own f.sec f.nano f.ac f.id
noncomputable def bL.st (f:bL):HS:=o0 f.su f.q f.once f.own f.sec f.nano f.ac
noncomputable def bL.cs (f:bL) (aR:Z):List V:=f.st.cs f.su++[.i64 f.su,.str f.own,.str (bI f.q),.str aR,.str f.once,.u32 f.id]
structure bL.ok (f:bL):Prop where
 su:f.su=1\/f.su=2
 q:f.q.length=32
 once:f.once.length=32
 own:f.own.length=32
 time:rq f.sec f.nano
 ac:f.ac=1\/f.ac=2
structure bw where
 w:Bool
 t:Int
 l:Int
 o:Bool
 u:Int
def bw.cs (T:bw):List V:=[.bool T.w,.i64 T.t,.i64 T.l,.bool T.o,.i64 T.u]
def bw.ev (T:bw)(k now:Int):bw:=⟨tW T.w k,tT T.t k,tL T.l k now,tO T.o k,tU T.o T.u k now⟩
def bw.nx (T:bw)(now:Int):Int:=zE T.w T.t T.l T.o T.u now
structure bw.ok (T:bw):Prop where
 t0:0<=T.t
 t6:T.t<=6
 l:0<=T.l/\T.l<=1099511627776
 u:0<=T.u/\T.u<=1099511627776
structure aX where
 su:Int
 eF:aQ
 dX:aQ
 sd:Z
 rc:Z
 bo:Int
 se:Int
 fs:Bool
 nx:Int
 bits:aS
structure aX.ok (S:aX):Prop where
 su:S.su=1\/S.su=2
 sd:S.sd.length=32
 rc:S.rc.length=32
 bo:0<=S.bo/\S.bo<=1099511627776
 se:0<=S.se/\S.se<=1000
 nx:0<=S.nx/\S.nx<=1099511627777
def aX.pc (S:aX)(w:Nat):List V:=[.ptr w 0,.str S.sd,.str S.rc,.i64 S.su,.i64 S.bo,.i64 S.se,.bool S.fs]
def aX.wc (S:aX):List V:=[.i64 S.nx,.u64 S.bits]
def aX.sc (S:aX)(q:Nat):List V:=[.ptr q 0,.i64 S.su,.u32 S.eF,.u32 S.dX]
structure aj where
 q:Z
 num:Int
 aP:Z
 aR:Z
 at_:aQ
 kn:Int
 bP:Int
 dV:Bool
 sec:Int
 nano:Int
 ck:Z
 un:Int
 waits:List Z
 bg:Option bL
 bi:aQ
 bt:Z
 ol:Option aX
 se:Option aX
 ne:Option aX
 tm:bw
def aj.cs (P:aj)(d tm:Nat)(wv bg ol se ne:V):List V:=[.ptr d 0,.ptr tm 0,.i64 P.num,.str P.aP,.str P.aR,.u32 P.at_,.i64 P.kn,.i64 P.bP,.bool P.dV,.i64 P.sec,.i64 P.nano,.str P.ck,.i64 P.un,wv,bg,.u32 P.bi,.str P.bt,ol,se,ne]
structure aj.ok (P:aj):Prop where
 q:P.q.length=32
 aP:P.aP=bI P.q
 aR:P.aR.length=32
 kn:P.kn=1\/P.kn=2
 bP:P.bP=1\/P.bP=2
 ck:P.ck=[]\/P.ck.length=16
 un:0<=P.un/\P.un<=2099511627776
 wl:P.waits.length<=4
 ws:∀ x∈P.waits,x.length<=2000
 bg:∀ f,P.bg=some f->f.ok
 bt:P.bt.length<=100000
 ol:∀ S,P.ol=some S->S.ok
 se:∀ S,P.se=some S->S.ok
 ne:∀ S,P.ne=some S->S.ok
 tm:P.tm.ok
abbrev Gr:=aQ×aQ×Z
abbrev Pk:=Int×aQ×Z
def dT:List Gr->List V
 |[]=>[]
 |(a,b,s)::l=> .u32 a:: .u32 b:: .str s::dT l
def fy:List Pk->List V
 |[]=>[]
 |(a,b,s)::l=> .i64 a:: .u32 b:: .str s::fy l
structure au where
 here:aQ
 own:Z
 aP:Z
 af:Z
 ac:Int
 fresh:aS
 cz:Z
 index:aQ
 ct:Int
 now:Int
 busy:Bool
 out:List Gr
 aT:List Pk
def au.cs (D:au)(arr n paths bk:Nat)(out aT:V):List V:=[.u32 D.here,.str D.own,.str D.aP,.str D.af,.i64 D.ac,.u64 D.fresh,.str D.cz,.u32 D.index,.i64 D.ct,.i64 D.now,.bool D.busy,.slice arr 0 n 1,.ptr paths 0,.ptr bk 0,out,aT]
structure au.ok (D:au) (n:Nat):Prop where
 own:D.own.length=32
 aP:D.aP=bI D.own
 af:D.af.length=32
 ac:D.ac=1\/D.ac=2
 cz:D.cz.length=32
 now:0<=D.now/\D.now<=1099511627776
 ct:0<=D.ct/\D.ct<=n
 out:D.out.length<=n
 aT:D.aT.length<=n
def jD (K:RK)(H:aU)(r:Rl)(v:V)(n:Nat)(cs:List V):Prop:=(v= .bG/\n=0)\/∃ a,v= .slice a 0 n 3/\0<n/\K a=some r/\ah H a=bK cs
def qR (K:RK)(H:aU)(j i:Nat)(v:V)(l:List Z):Prop:=(v= .bG/\l=[])\/∃ a,v= .slice a 0 l.length 1/\l≠[]/\K a=some (.wt j i)/\ah H a=bK (l.map .str)
def qC (K:RK)(H:aU)(j i:Nat)(v:V)(aR:Z):Option bL->Prop
 |none=>v= .nilPtr
 |some f=>∃ a,v= .ptr a 0/\K a=some (.bg j i)/\ah H a=bK (f.cs aR)
structure fk (K:RK) (H:aU) (j i a:Nat) (q w:Nat) (S:aX):Prop where
 ka:K a=some (.eC j i)
 kq:K q=some (.pair j i a)
 kw:K w=some (.iT j i a)
 ga:ah H a=some ⟨false,S.sc q,some ⟨[],0⟩⟩
 gq:ah H q=bK (S.pc w)
 gw:ah H w=bK (S.wc)
def cM (K:RK)(H:aU)(j i:Nat)(v:V):Option aX->Prop
 |none=>v= .nilPtr
 |some S=>∃ a q w,v= .ptr a 0/\fk K H j i a q w S
def fK (v v':V):Prop:=v= .nilPtr\/v≠v'
structure cj (K:RK) (H:aU) (j i d p:Nat) (P:aj) (tm:Nat) (wv bg ol se ne:V):Prop where
 kp:K p=some (.peer j i)
 kt:K tm=some (.tm j i)
 gp:ah H p=bK (P.cs d tm wv bg ol se ne)
 gt:ah H tm=bK (P.tm.cs)
 pf:qR K H j i wv P.waits
 sW:qC K H j i bg P.aR P.bg
 pP:cM K H j i ol P.ol
 kP:cM K H j i se P.se
 pE:cM K H j i ne P.ne
 d1:fK ol se
 d2:fK ol ne
 d3:fK se ne
def dn (K:RK)(H:aU)(j i d p:Nat)(P:aj):Prop:=∃ tm wv bg ol se ne,cj K H j i d p P tm wv bg ol se ne
structure cf (K:RK) (H:aU) (j d:Nat) (D:au) (arr:Nat) (ps:List Nat) (paths bk:Nat) (out aT:V):Prop where
 kd:K d=some (.dev j)
 ka:K arr=some (.pX j)
 g:ah H d=bK (D.cs arr ps.length paths bk out aT)
 ga:ah H arr=bK (ps.map (fun p=> .ptr p 0))
 o:jD K H (.out j) out D.out.length (dT D.out)
 t:jD K H (.aT j) aT D.aT.length (fy D.aT)
def jU (K:RK)(H:aU)(j d:Nat)(D:au)(arr:Nat)(ps:List Nat)(paths bk:Nat):Prop:=∃ out aT,cf K H j d D arr ps paths bk out aT
def qP (j i:Nat):Rl->Prop
 | .dev g| .out g| .aT g=>g=j
 | .peer g b| .tm g b| .wt g b| .bg g b| .eC g b| .pair g b _| .iT g b _=>g=j/\b=i
 |_=>False
def qO (j:Nat):Rl->Prop
 | .dev b| .out b=>b=j
 |_=>False
def qD (j:Nat):Rl->Prop
 | .dev b| .pX b| .out b| .aT b| .bk b| .bm b| .path b=>b=j
 | .peer b _| .tm b _| .wt b _| .bg b _| .eC b _| .pair b _ _| .iT b _ _=>b=j
 |_=>False
theorem xv {j i:Nat}:∀ r,qP j i r->qD j r:=fun r h=>by cases r<;>first|exact h|exact h.1|cases h
theorem Fe {j i:Nat}:∀ r,qO j r->qP j i r:=fun r h=>by cases r<;>first|exact h|cases h
section
variable {K K0 K':RK}{H H0 H':aU}{j i d p tm q w a arr paths bk n:Nat}{P P':aj}{D D':au}{S S':aX}{v wv bg ol se ne out aT:V}{Q:Rl->Prop}{r:Rl}{cs:List V}{ps:List Nat}
structure cD (Q:Rl->Prop) (K:RK) (H:aU) (K':RK) (H':aU):Prop where
 k:∀ b r,K b=some r->¬ Q r->K' b=some r
 h:∀ b r,K b=some r->¬ Q r->ah H' b=ah H b
theorem Cx.off (h:Cx K H Q K' H'):cD Q K H K' H':=⟨h.stay,fun b r e c=>h.get e (h.old b r e) c⟩
theorem cD.mono {Q2:Rl->Prop}(h:cD Q K H K' H')(f:∀ r,Q r->Q2 r):cD Q2 K H K' H':=⟨fun b r e c=>h.k b r e fun x=>c (f _ x),fun b r e c=>h.h b r e fun x=>c (f _ x)⟩
theorem cD.trans {f:RK}{g:aU}(h:cD Q K H K' H')(h2:cD Q K' H' f g):cD Q K H f g:=⟨fun b r e c=>h2.k b r (h.k b r e c) c,fun b r e c=>(h2.h b r (h.k b r e c) c).trans (h.h b r e c)⟩
theorem jD.off (h:jD K H r v n cs)(f:cD Q K H K' H')(b:¬ Q r):jD K' H' r v n cs:=by
 rcases h with h|⟨a,g,l,c,e⟩
 .exact .inl h
 .exact .inr ⟨a,g,l,f.k a _ c b,(f.h a _ c b).trans e⟩
theorem qR.off {l:List Z}(h:qR K H j i v l)(f:cD Q K H K' H')(b:¬ Q (.wt j i)):qR K' H' j i v l:=by
 rcases h with h|⟨a,g,m,c,e⟩
 .exact .inl h
 .exact .inr ⟨a,g,m,f.k a _ c b,(f.h a _ c b).trans e⟩
theorem qC.off {aR:Z}{o:Option bL}(h:qC K H j i v aR o)(g:cD Q K H K' H')(b:¬ Q (.bg j i)):qC K' H' j i v aR o:=by
 cases o with
 |none=>exact h
 |some f=>
  obtain⟨a,l,c,e⟩:=h;exact⟨a,l,g.k a _ c b,(g.h a _ c b).trans e⟩
theorem fk.off (h:fk K H j i a q w S)(c:cD Q K H K' H')(h1:¬ Q (.eC j i))(h2:¬ Q (.pair j i a))(b:¬ Q (.iT j i a)):fk K' H' j i a q w S:=
 ⟨c.k a _ h.ka h1,c.k q _ h.kq h2,c.k w _ h.kw b,(c.h a _ h.ka h1).trans h.ga,(c.h q _ h.kq h2).trans h.gq,(c.h w _ h.kw b).trans h.gw⟩
theorem cM.off {o:Option aX}(h:cM K H j i v o)(c:cD Q K H K' H')(h1:¬ Q (.eC j i))(h2:∀ a,v= .ptr a 0->¬ Q (.pair j i a)/\¬ Q (.iT j i a)):cM K' H' j i v o:=by
 cases o with
 |none=>exact h
 |some S=>
  obtain⟨a,q,w,e,b⟩:=h;exact⟨a,q,w,e,b.off c h1 (h2 a e).1 (h2 a e).2⟩
theorem cj.off (h:cj K H j i d p P tm wv bg ol se ne)(g:cD Q K H K' H')(h1:¬ Q (.peer j i))(h2:¬ Q (.tm j i))(e:¬ Q (.wt j i))(f:¬ Q (.bg j i))(b:¬ Q (.eC j i))(c:∀ a,¬ Q (.pair j i a)/\¬ Q (.iT j i a)):cj K' H' j i d p P tm wv bg ol se ne:=
 ⟨g.k p _ h.kp h1,g.k tm _ h.kt h2,(g.h p _ h.kp h1).trans h.gp,(g.h tm _ h.kt h2).trans h.gt,h.pf.off g e,h.sW.off g f,h.pP.off g b fun a _=>c a,h.kP.off g b fun a _=>c a,h.pE.off g b fun a _=>c a,h.d1,h.d2,h.d3⟩
theorem cj.timer (h:cj K H j i d p P tm wv bg ol se ne)(c:cD (fun r=>r= .tm j i) K H K' H')(b:K' tm=some (.tm j i)){T:bw}(e:ah H' tm=bK (T.cs)):cj K' H' j i d p {P with tm:=T} tm wv bg ol se ne:=
 ⟨c.k p _ h.kp J,b,(c.h p _ h.kp J).trans h.gp,e,h.pf.off c J,h.sW.off c J,h.pP.off c J J,h.kP.off c J J,h.pE.off c J J,h.d1,h.d2,h.d3⟩
theorem cf.off (h:cf K H j d D arr ps paths bk out aT)(e:cD Q K H K' H')(h1:¬ Q (.dev j))(h2:¬ Q (.pX j))(b:¬ Q (.out j))(c:¬ Q (.aT j)):cf K' H' j d D arr ps paths bk out aT:=
 ⟨e.k d _ h.kd h1,e.k arr _ h.ka h2,(e.h d _ h.kd h1).trans h.g,(e.h arr _ h.ka h2).trans h.ga,h.o.off e b,h.t.off e c⟩
theorem cf.cells (h:cf K H j d D arr ps paths bk out aT)(f:cD (fun r=>r= .dev j) K H K' H')(b:K' d=some (.dev j))(g:ah H' d=bK (D'.cs arr ps.length paths bk out aT))(c:D'.out=D.out)(e:D'.aT=D.aT):cf K' H' j d D' arr ps paths bk out aT:=
 ⟨b,f.k arr _ h.ka J,g,(f.h arr _ h.ka J).trans h.ga,by rw[c];exact h.o.off f J,by rw[e];exact h.t.off f J⟩
end
end
end Go.Vm
end
section
namespace Go.Vm
open Go.Proofs Go.Proofs.Tryz
section
section
variable {P:Program}{f:FuncId}{args:List V}{v:V}{H:aU}{q w:Nat}
theorem wN {b:Nat}{x:Option aa}{B:aa}(h:ah H b=some B)(e:x=some B):H.set b x=H:=by
 subst e;have c:=b8 h;have g:H[b]?=some (some B):=by
  unfold ah at h;rw[bn c] at h |-
  exact dN some h
 rw[bn c] at g;rw[<-nc g,G7]
theorem JH {c1 b G L:List V}(t:bp P f (.ptr 0 0::args) [bK (.ptr 1 0::c1),bK b] v [bK (.ptr 1 0::G),bK L])(M:ah H q=bK (.ptr w 0::c1))(k:ah H w=bK b)(l:q≠w)
  (u:∀ F,aW F args=args) (m:∀ n,lows n args) (h1:∀ F,aW F c1=c1) (o:∀ n,lows n c1) (h2:∀ F,aW F b=b) (r:∀ n,lows n b) (x:∀ F,aW F G=G) (y:∀ F,aW F L=L) (z:∀ F,v.bd F=v):
  bp P f (.ptr q 0::args) H v ((H.set q (bK (.ptr w 0::G))).set w (bK L)):=by
 have E:=b8 M;have O:=b8 k;have Q:bx [q,w] 0=q:=rfl;have N:bx [q,w] 1=w:=rfl;have h:=wK (H:=H) t [q,w] rfl ⟨Nat.zero_lt_two,m 2⟩ (by simp[l]) (fun c hc=>by simp at hc;rcases hc with rfl|rfl<;>assumption) (fun c B e=>by
  match c with
  |0=>
   have s:bK (.ptr 1 0::c1)=some B:=e;cases s;refine⟨?_,Nat.one_lt_two,o _⟩;show ah H q=bK (aW (bx [q,w]) (.ptr 1 0::c1));rw[M];unfold aW V.bd;rw[h1,N]
  |1=>
   have s:bK b=some B:=e;cases s;exact⟨by rw[h2];exact k,r _⟩
  |c+2=>simp[ah] at e) (fun c B e hc=>by
  have :=b8 e
  match c with
  |0=>rcases hc with hc|hc<;>simp[ah] at hc
  |1=>rcases hc with hc|hc<;>simp[ah] at hc
  |c+2=>simp[ah] at e) (bz _)
 have A:aW (bx [q,w]) (.ptr 0 0::args)= .ptr q 0::args:=by
  unfold aW V.bd;rw[u];rfl
 have C:cS [q,w] H [bK (.ptr 1 0::G),bK L]=(H.set q (bK (.ptr w 0::G))).set w (bK L):=by
  have D:bx (cu [q,w] H.length [bK (.ptr 1 0::G),bK L]) 1=w:=by rw[Aj J];rfl
  unfold cS;simp[gn,iQ,fX,ik,aa.bd,x,y,aW,V.bd,D];exact(List.set_comm _ _ l).symm
 rw[A,C,z] at h;exact h
theorem FB {c1 b:List V}(m:bp P f (.ptr 0 0::args) [bK (.ptr 1 0::c1),bK b] v [bK (.ptr 1 0::c1),bK b])(t:ah H q=bK (.ptr w 0::c1))(c:ah H w=bK b)(e:q≠w)
  (o:∀ s,aW s args=args) (g:∀ n,lows n args) (h1:∀ s,aW s c1=c1) (k:∀ n,lows n c1) (h2:∀ s,aW s b=b) (l:∀ n,lows n b) (r:∀ s,v.bd s=v):bp P f (.ptr q 0::args) H v H:=by
 have h:=JH m t c e o g h1 k h2 l h1 h2 r
 rwa [wN t rfl,wN c rfl] at h
end
section
variable {K K0:RK}{H H0:aU}{Q0:Rl->Prop}{j i d p tm q w a:Nat}{P:aj}{S:aX}{T:bw}{wv bg ol se ne:V}
theorem sI (c:Cx K0 H0 Q0 K H)(ht:K tm=some (.tm j i))(h:ah H tm=bK (T.cs))(b:T.ok)(k now:Int)(e:1<=k/\k<=6)(g:0<=now/\now<=1099511627776):
  ∃ v K' H',Dx prog 47 [.ptr tm 0,.i64 k,.i64 now] K H (fun r=>r= .tm j i) v K' H'/\(v= .i64 0/\K'=K/\H'=H.set tm (bK ((T.ev k now).cs))):=
 dx1 c ht h (ac0 T.w T.t T.l T.o T.u k now b.t0 (by have :=b.t6;omega) (by unfold KM;omega)) (fun _=>rfl) (fun _=>by simp[lows,V.low]) (fun _=>rfl) (fun _=>by simp[bw.cs,lows,V.low]) (fun _=>rfl) (fun _=>by simp[lows,V.low]) (fun _=>rfl) (fun _=>trivial) ⟨rfl,rfl,rfl⟩
theorem VD (c:Cx K0 H0 Q0 K H)(e:ah H tm=bK (T.cs))(b:T.ok)(now:Int):
  ∃ v K' H',Dx prog 67 [.ptr tm 0,.i64 now] K H (fun _=>False) v K' H'/\(v= .i64 (T.nx now)/\K'=K/\H'=H):=
 Gq c e (ag8 T.w T.t T.l T.o T.u now b.l b.u) (fun _=>rfl) (fun _=>by simp[lows,V.low]) (fun _=>rfl) (fun _=>by simp[bw.cs,lows,V.low]) (fun _=>rfl) (fun _=>trivial) ⟨rfl,rfl,rfl⟩
def aX.over (S:aX)(now:Int):Bool:=pd S.bo S.se now
def aX.pT (S:aX)(now:Int):Bool:=FA S.bo S.se S.fs now
theorem fk.ye (h:fk K H j i a q w S):q≠w:=fun e=>by subst e;have b:=h.kq;rw[h.kw] at b;cases b
theorem af2 (c:Cx K0 H0 Q0 K H)(h:fk K H j i a q w S)(b:S.ok)(now:Int):∃ v K' H',Dx prog 62 [.ptr q 0,.i64 now] K H (fun _=>False) v K' H'/\(v= .bool (S.over now)/\K'=K/\H'=H):=
 ⟨_,_,_,⟨FB (Dh S.sd S.rc S.su S.bo S.se S.fs S.nx S.bits now b.bo.1 b.bo.2) h.gq h.gw h.ye (fun _=>rfl) (fun _=>by simp[lows,V.low]) (fun _=>rfl) (fun _=>by simp[lows,V.low]) (fun _=>rfl) (fun _=>by simp[lows,V.low]) (fun _=>rfl),c.start _,trivial⟩,rfl,rfl,rfl⟩
theorem VE (c:Cx K0 H0 Q0 K H)(h:fk K H j i a q w S)(b:S.ok)(now:Int):∃ v K' H',Dx prog 66 [.ptr q 0,.i64 now] K H (fun _=>False) v K' H'/\(v= .bool (S.pT now)/\K'=K/\H'=H):=
 ⟨_,_,_,⟨FB (aa2 S.sd S.rc S.su S.bo S.se S.fs S.nx S.bits now b.bo.1 b.bo.2) h.gq h.gw h.ye (fun _=>rfl) (fun _=>by simp[lows,V.low]) (fun _=>rfl) (fun _=>by simp[lows,V.low]) (fun _=>rfl) (fun _=>by simp[lows,V.low]) (fun _=>rfl),c.start _,trivial⟩,rfl,rfl,rfl⟩
theorem abk (h k:Z)(s g se:Int)(fs:Bool)(next:Int)(e:aS)(t:Z)(now:Int)(c:0<=g)(b:g<=1099511627776)(m:pd g se now=true):
  bp prog 63 [.ptr 0 0,.str t,.i64 now] [bK [.ptr 1 0,.str h,.str k,.i64 s,.i64 g,.i64 se,.bool fs],bK [.i64 next,.u64 e]] (.aZ [.i64 0,.str [],.i64 11]) [bK [.ptr 1 0,.str h,.str k,.i64 s,.i64 g,.i64 se,.bool fs],bK [.i64 next,.u64 e]]:=by
 have l:=Dh h k s g se fs next e now c b;rw[m] at l;refine ak func63 ?_;simp only[go_sem,seval,ntmps63];refine am [0,1] l (aH ?_);exact Fin.bd [0,1] J J ci ag J J
theorem Py (g:Cx K0 H0 Q0 K H)(h:fk K H j i a q w S)(b:S.ok)(x:Z)(l:x.length<=2000)(now:Int):
  ∃ v K' H',Dx prog 63 [.ptr q 0,.str x,.i64 now] K H (fun r=>r= .pair j i a) v K' H'/\(if S.over now=true then v= .aZ [.i64 0,.str [],.i64 11]/\K'=K/\H'=H else v= .aZ [.i64 S.se,.str (jz S.su S.sd S.se x),.i64 0]/\K'=K/\H'=H.set q (bK ({S with se:=S.se+1}.pc w))):=by
 by_cases o:S.over now=true
 .refine⟨_,_,_,⟨FB (abk S.sd S.rc S.su S.bo S.se S.fs S.nx S.bits x now b.bo.1 b.bo.2 o) h.gq h.gw h.ye (fun _=>rfl) (fun _=>by simp[lows,V.low]) (fun _=>rfl) (fun _=>by simp[lows,V.low]) (fun _=>rfl) (fun _=>by simp[lows,V.low]) (fun _=>rfl),g.start _,bT⟩,?_⟩;rw[aM o];exact⟨rfl,rfl,rfl⟩
 .have c:=o;unfold aX.over pd at c;have m:=agt b.su S.rc b.sd S.bo S.se S.fs S.nx S.bits l now b.bo.1 b.bo.2 (by
   by_cases h:S.bo+180<=now
   .rw[aM h] at c;exact absurd rfl c
   .omega) b.se.1 (by
   by_cases h:S.bo+180<=now
   .rw[aM h] at c;exact absurd rfl c
   .rw[aq h] at c;simpa using c)
  have s:=JH m h.gq h.gw h.ye (fun _=>rfl) (fun _=>by simp[lows,V.low]) (fun _=>rfl) (fun _=>by simp[lows,V.low]) (fun _=>rfl) (fun _=>by simp[lows,V.low]) (fun _=>rfl) (fun _=>rfl) (fun _=>rfl);have e:=wN (H:=H.set q (bK ({S with se:=S.se+1}.pc w))) ((eA h.ye _).trans h.gw) rfl;unfold aX.pc aX.wc at e;rw[e] at s;refine⟨_,_,_,⟨s,(g.start (fun r=>r= .pair j i a)).put h.kq rfl (by simp[lows,V.low,g.lt h.kw]),bT⟩,?_⟩;rw[aq o];exact⟨rfl,rfl,rfl⟩
theorem ZJ (h k:Z)(s g se:Int)(fs:Bool)(next:Int)(e:aS)(n:Int)(t:Z)(now:Int)(c:0<=g)(b:g<=1099511627776)(m:g+180<=now):
  bp prog 148 [.ptr 0 0,.i64 n,.str t,.i64 now] [bK [.ptr 1 0,.str h,.str k,.i64 s,.i64 g,.i64 se,.bool fs],bK [.i64 next,.u64 e]] (.aZ [.str [],.i64 11]) [bK [.ptr 1 0,.str h,.str k,.i64 s,.i64 g,.i64 se,.bool fs],bK [.i64 next,.u64 e]]:=by
 have l:=AF h k s g se fs next e now 180 c b ag ag;rw[nX m] at l;refine ak func148 ?_;simp only[go_sem,seval,ntmps148];refine am [0,1] l (aH ?_);exact Fin.bd [0,1] J J ci ag J J
theorem Vv (l m:Z)(s k se:Int)(fs:Bool)(next:Int)(h:aS)(n:Int)(t:Z)(now:Int)(g:0<=k)(b:k<=1099511627776)(c:0<=next)(e:next<=1099511627777)(r:¬ k+180<=now)(hc:¬ n8 next h n=0):
  bp prog 148 [.ptr 0 0,.i64 n,.str t,.i64 now] [bK [.ptr 1 0,.str l,.str m,.i64 s,.i64 k,.i64 se,.bool fs],bK [.i64 next,.u64 h]] (.aZ [.str [],.i64 (n8 next h n)]) [bK [.ptr 1 0,.str l,.str m,.i64 s,.i64 k,.i64 se,.bool fs],bK [.i64 next,.u64 h]]:=by
 have o:=AF l m s k se fs next h now 180 g b ag ag;rw[oZ r] at o;refine ak func148 ?_;simp only[go_sem,seval,ntmps148];refine am [0,1] o (aH ?_);refine am [1] (Ej next h n c e) ?_;refine g9 hc ?_;exact Fin.bd [0,1] J J ci ag J J
theorem XX (r m:Z)(s o se:Int)(fs:Bool)(next:Int)(l:aS)(h:s=1\/s=2)(n:Int)(t:Z)(now:Int)(k:0<=o)(b:o<=1099511627776)(c:0<=next)(e:next<=1099511627777)(x:¬ o+180<=now)(hc:n8 next l n=0)(y:¬ (lh s m (eV s (BitVec.ofInt 64 n)) [] t).2=0):
  bp prog 148 [.ptr 0 0,.i64 n,.str t,.i64 now] [bK [.ptr 1 0,.str r,.str m,.i64 s,.i64 o,.i64 se,.bool fs],bK [.i64 next,.u64 l]] (.aZ [.str [],.i64 (lh s m (eV s (BitVec.ofInt 64 n)) [] t).2]) [bK [.ptr 1 0,.str r,.str m,.i64 s,.i64 o,.i64 se,.bool fs],bK [.i64 next,.u64 l]]:=by
 have u:=AF r m s o se fs next l now 180 k b ag ag;rw[oZ x] at u;have z:=PA h m [] t (BitVec.ofInt 64 n);generalize lh s m (eV s (BitVec.ofInt 64 n)) [] t=g at*;refine ak func148 ?_;simp only[go_sem,seval,ntmps148];refine am [0,1] u (aH ?_);refine am [1] (Ej next l n c e) ?_;refine aL hc ?_;refine bZ (z) ?_;refine g9 y ?_;refine⟨U,?_⟩;exact Fin.bd [0,1] J J ci ag J J
noncomputable def aX.open_ (S:aX) (n:Int) (z:Z) (now:Int):Z×Int×aX:=
 if S.bo+180<=now then([],11,S) else if n8 S.nx S.bits n=0 then
  (if(lh S.su S.rc (eV S.su (BitVec.ofInt 64 n)) [] z).2=0 then((lh S.su S.rc (eV S.su (BitVec.ofInt 64 n)) [] z).1,0,{S with nx:=pJ S.nx n,bits:=uZ S.nx S.bits n}) else([],(lh S.su S.rc (eV S.su (BitVec.ofInt 64 n)) [] z).2,S))
 else([],n8 S.nx S.bits n,S)
theorem abq (k:Cx K0 H0 Q0 K H)(h:fk K H j i a q w S)(b:S.ok)(n:Int)(z:Z)(now:Int):
  ∃ v K' H',Dx prog 148 [.ptr q 0,.i64 n,.str z,.i64 now] K H (fun r=>r= .iT j i a) v K' H'/\(v= .aZ [.str (S.open_ n z now).1,.i64 (S.open_ n z now).2.1]/\K'=K/\H'=H.set w (bK ((S.open_ n z now).2.2.wc))):=by
 have t:∀ {v:V},bp prog 148 [.ptr 0 0,.i64 n,.str z,.i64 now] [bK [.ptr 1 0,.str S.sd,.str S.rc,.i64 S.su,.i64 S.bo,.i64 S.se,.bool S.fs],bK [.i64 S.nx,.u64 S.bits]] v [bK [.ptr 1 0,.str S.sd,.str S.rc,.i64 S.su,.i64 S.bo,.i64 S.se,.bool S.fs],bK [.i64 S.nx,.u64 S.bits]]->(∀ B,v.bd B=v)->(∀ n,v.low n)->∀ c g,v= .aZ [.str c,.i64 g]->S.open_ n z now=(c,g,S)->∃ v K' H',Dx prog 148 [.ptr q 0,.i64 n,.str z,.i64 now] K H (fun r=>r= .iT j i a) v K' H'/\(v= .aZ [.str (S.open_ n z now).1,.i64 (S.open_ n z now).2.1]/\K'=K/\H'=H.set w (bK ((S.open_ n z now).2.2.wc))):=fun l m o c g C s=>by
  rw[s];exact⟨_,_,_,⟨FB l h.gq h.gw h.ye (fun _=>rfl) (fun _=>by simp[lows,V.low]) (fun _=>rfl) (fun _=>by simp[lows,V.low]) (fun _=>rfl) (fun _=>by simp[lows,V.low]) m,k.start _,o _⟩,C,rfl,(wN h.gw rfl).symm⟩
 by_cases u:S.bo+180<=now
 .exact t (ZJ S.sd S.rc S.su S.bo S.se S.fs S.nx S.bits n z now b.bo.1 b.bo.2 u) (fun _=>rfl) (fun _=>by simp[lows,V.low]) _ _ rfl (by unfold aX.open_;rw[aM u])
 by_cases x:n8 S.nx S.bits n=0
 rotate_left
 .exact t (Vv S.sd S.rc S.su S.bo S.se S.fs S.nx S.bits n z now b.bo.1 b.bo.2 b.nx.1 b.nx.2 u x) (fun _=>rfl) (fun _=>by simp[lows,V.low]) _ _ rfl (by unfold aX.open_;rw[aq u,aq x])
 by_cases y:(lh S.su S.rc (eV S.su (BitVec.ofInt 64 n)) [] z).2=0
 rotate_left
 .exact t (XX S.sd S.rc S.su S.bo S.se S.fs S.nx S.bits b.su n z now b.bo.1 b.bo.2 b.nx.1 b.nx.2 u x y) (fun _=>rfl) (fun _=>by simp[lows,V.low]) _ _ rfl (by unfold aX.open_;rw[aq u,aM x,aq y])
 have A:=JH (U3 S.sd S.rc S.su S.bo S.se S.fs S.nx S.bits b.su n z now b.bo.1 b.bo.2 b.nx.1 b.nx.2 u x y) h.gq h.gw h.ye (fun _=>rfl) (fun _=>by simp[lows,V.low]) (fun _=>rfl) (fun _=>by simp[lows,V.low]) (fun _=>rfl) (fun _=>by simp[lows,V.low]) (fun _=>rfl) (fun _=>rfl) (fun _=>rfl);have e:=wN h.gq rfl;unfold aX.pc at e;rw[e] at A;refine⟨_,_,_,⟨A,(k.start (fun r=>r= .iT j i a)).put h.kw rfl bT,bT⟩,?_⟩;unfold aX.open_;rw[aq u,aM x,aM y];exact⟨rfl,rfl,rfl⟩
end
end
section
theorem F0:∀ (l l':List Gr),dT (l++l')=dT l++dT l'
 |[],_=>rfl
 |(a,b,s)::l,l'=>dN (fun x=>V.u32 a::V.u32 b::V.str s::x) (F0 l l')
theorem zu:∀ (l:List Gr),(dT l).length=l.length*3
 |[]=>rfl
 |(a,b,s)::l=>by show(dT l).length+1+1+1=_;rw[zu l,dM];omega
theorem Kf:∀ (l l':List Pk),fy (l++l')=fy l++fy l'
 |[],_=>rfl
 |(a,b,s)::l,l'=>dN (fun x=>V.i64 a::V.u32 b::V.str s::x) (Kf l l')
theorem xy:∀ (l:List Pk),(fy l).length=l.length*3
 |[]=>rfl
 |(a,b,s)::l=>by show(fy l).length+1+1+1=_;rw[xy l,dM];omega
theorem BW (n:Nat):∀ (l:List Gr),lows n (dT l)
 |[]=>trivial
 |(a,b,s)::l=>⟨trivial,trivial,trivial,BW n l⟩
theorem AQ (n:Nat):∀ (l:List Pk),lows n (fy l)
 |[]=>trivial
 |(a,b,s)::l=>⟨trivial,trivial,trivial,AQ n l⟩
section
variable {K K0 K':RK}{H H0 H':aU}{Q0 Q:Rl->Prop}{j i d p tm arr paths bk b N:Nat}{P:aj}{D:au}{ps:List Nat}{out aT:V}{r r2:Rl}{ds vs:List V}{a:Option Nat}
theorem AU (h:Cx K0 H0 Q K H)(l:H.length=N)(c:K b=some r)(m:∀ x,a=some x->K x=some r2)(f:r≠r2):
  gm (kj a K) N (some r2) b=some r/\ah ((cI a H++[bK ds]).set b (bK vs)) b=bK vs/\ah ((cI a H++[bK ds]).set b (bK vs)) N=bK ds:=by
 subst l;have o:=h.lt c;refine⟨?_,dr (by rw[bA,xu];omega) _,?_⟩
 .rw[iS I,Pn fun x e n=>by subst n;have :=m _ e;rw[c] at this;exact f (nc this)];exact c
 .rw[eA I];have :=ja (H:=cI a H) (x:=bK ds)
  rwa [xu] at this
theorem Cx.tp (h:Cx K0 H0 Q K H)(e:H.length=N)(f:K b=some r)(g:Q r)(a:Option Nat)(r2:Rl)(k:∀ x,a=some x->K x=some r2)(c:Q r2)(h1:lows (H.length+1) ds)(h2:lows (H.length+1) vs):
  Cx K0 H0 Q (gm (kj a K) N (some r2)) ((cI a H++[bK ds]).set b (bK vs)):=by
 subst e;exact h.grow f g a r2 k c h1 h2
theorem cf.low (e:Cx K0 H0 Q K H)(h:cf K H j d D arr ps paths bk out aT):lows H.length (D.cs arr ps.length paths bk out aT):=(e.bD _ _ h.g).1
theorem au.low {n m:Nat}(h:lows n (D.cs arr ps.length paths bk out aT))(c:n<=m):arr<m/\paths<m/\bk<m/\out.low m/\aT.low m:=by
 have h:=rS c _ h;unfold au.cs at h;simp only[lows,V.low,qV,gG] at h;exact h
def au.goes (D:au)(c:aQ)(x:Z):au:=if c=0#32 then D else {D with out:=D.out++[(D.here,c,x)]}
theorem Fo (B:Cx K0 H0 Q0 K H)(f:cf K H j d D arr ps paths bk out aT)(c:aQ)(x:Z)(ho:D.out.length<=1000000000):
  ∃ v K' H',Dx prog 65 [.ptr d 0,.u32 c,.str x] K H (qO j) v K' H'/\(v= .aZ []/\jU K' H' j d (D.goes c x) arr ps paths bk):=by
 have u:=f.g;have w:=f.low B;unfold au.cs at u;have l:=b8 u;refine ar (Q:=qO j) (Post:=fun v K' H'=>v= .aZ []/\jU K' H' j d (D.goes c x) arr ps paths bk) func65 ?_;refine aL u ?_;by_cases y:c=0#32
 .refine g9 y ?_;exact Ex.of (B.start _) trivial ⟨rfl,out,aT,by unfold au.goes;rw[aM rfl];exact f⟩
 refine g9 y ?_;refine aE ?_
 have z:=(B.start (qO j)).bH (vs:=[.u32 D.here,.u32 c,.str x]) (mm:=none) bT;have m:∀ (a:Option Nat),(∀ x,a=some x->K x=some (.out j))->Ex K H (qO j) (fun v K' H'=>v= .aZ []/\jU K' H' j d (D.goes c x) arr ps paths bk) (.aZ []) ⟨[],(cI a (H++[bK [.u32 D.here,.u32 c,.str x]])++[bK (dT D.out++[.u32 D.here,.u32 c,.str x])]).set d (bK ((D.goes c x).cs arr ps.length paths bk (.slice (H.length+1) 0 (D.out.length+1) 3) aT))⟩:=fun a q=>by
  have n:(H++[bK [.u32 D.here,.u32 c,.str x]]).length=H.length+1:=J;obtain⟨R,S,T,-,W⟩:=au.low w (show H.length<=H.length+1+1 by omega);have L:=z.tp n f.kd rfl a (.out j) q rfl (ds:=dT D.out++[.u32 D.here,.u32 c,.str x]) (vs:=(D.goes c x).cs arr ps.length paths bk (.slice (H.length+1) 0 (D.out.length+1) 3) aT) (by rw[vj];exact⟨BW _ _,bT⟩) (by rw[n];simp[au.cs,lows,V.low,R,S,T,W]);obtain⟨X,Y,g3⟩:=AU (ds:=dT D.out++[.u32 D.here,.u32 c,.str x]) (vs:=(D.goes c x).cs arr ps.length paths bk (.slice (H.length+1) 0 (D.out.length+1) 3) aT) z n f.kd q J;have C:=L.off;refine Ex.of (s:=⟨[],_⟩) L trivial ⟨rfl,_,_,X,C.k _ _ f.ka id,Y,(C.h _ _ f.ka id).trans f.ga,?_,?_⟩
  .have e:(D.goes c x).out=D.out++[(D.here,c,x)]:=by unfold au.goes;rw[aq y]
   refine .inr ⟨_,by rw[e,bA];rfl,by rw[e];simp,lS,by rw[e,F0];exact g3⟩
  .have e:(D.goes c x).aT=D.aT:=by unfold au.goes;rw[aq y]
   rw[e];exact f.t.off C id
 have E:∀ o,(D.goes c x).cs arr ps.length paths bk o aT=D.cs arr ps.length paths bk o aT:=fun o=>by unfold au.goes;rw[aq y];rfl
 simp only[E] at m;unfold au.cs at m;rcases f.o with⟨rfl,M⟩|⟨a,rfl,O,q,G⟩
 .have e:=nK.1 M;have :=m none (fun _ e=>by cases e);simp only[e,dT,iY,lq,eX,cI] at this;simp only[go_sem,seval,u,th l];refine aF ?_
  refine And.intro ?_ ?_
  .refine jg (jY H.length) [([],[]),([],[]),([],[]),([],[]),([0],[]),([],[]),([],[]),([],[]),([0],[]),([],[]),([],[]),([],[]),([],[1]),([0,1],[0,1]),([],[]),([],[]),([0,1],[0,1])] U (by simp only[jA,jy,cv,rN,all_cons,xx,iN l,j6,pB,gG])
  exact this
 .have hl:=zu D.out;have A:=B.lt q;have F:a≠d:=fun e=>by subst e;rw[f.kd] at q;cases q
  have :=m (some a) (fun _ e=>by cases e;exact q);simp only[cI] at this;simp only[go_sem,seval,u,G,qk A,xR l F,nW,bq (show(dT D.out).length<=D.out.length*3 by omega)];refine aF ?_
  refine And.intro ?_ ?_
  .refine jg (jY H.length) [([],[]),([],[]),([],[]),([],[]),([0],[]),([],[]),([],[]),([],[]),([0],[]),([],[]),([],[]),([],[]),([],[1]),([0,1],[0,1]),([],[]),([],[]),([0,1],[0,1])] U (by simp only[jA,jy,cv,rN,all_cons,xx,iN l,j6,pB,gG])
  exact this
theorem cf.set (g:Cx K0 H0 Q0 K H)(f:cf K H j d D arr ps paths bk out aT){D':au}(k:D'.out=D.out)(l:D'.aT=D.aT):Cx K H (fun r=>r= .dev j) K (H.set d (bK (D'.cs arr ps.length paths bk out aT)))/\cf K (H.set d (bK (D'.cs arr ps.length paths bk out aT))) j d D' arr ps paths bk out aT:=by
 obtain⟨q,s,t,m,n⟩:=au.low (f.low g) (bz _);have o:=(g.start (fun r=>r= .dev j)).put (mm:=none) f.kd rfl (vs:=D'.cs arr ps.length paths bk out aT) (by simp[au.cs,lows,V.low,q,s,t,m,n]);exact⟨o,f.cells o.off f.kd (dr (g.lt f.kd) _) k l⟩
theorem LZ (h:Cx K0 H0 Q0 K H)(e:cf K H j d D arr ps paths bk out aT):
  ∃ v K' H',Dx prog 90 [.ptr d 0] K H (fun r=>r= .dev j) v K' H'/\(v= .u32 (D.index+1#32)/\K'=K/\cf K' H' j d {D with index:=D.index+1#32} arr ps paths bk out aT):=by
 obtain⟨l,f⟩:=e.set h (D':={D with index:=D.index+1#32}) rfl rfl;have k:=e.g;unfold au.cs at k l f;have c:=b8 k;refine ar (Q:=fun r=>r= .dev j) (Post:=fun v K' H'=>v= .u32 (D.index+1#32)/\K'=K/\cf K' H' j d {D with index:=D.index+1#32} arr ps paths bk out aT) func90 ?_;simp only[go_sem,seval,k,dr c];refine aE ?_
 exact Ex.of l trivial ⟨rfl,rfl,f⟩
theorem aaq (f:Cx K0 H0 Q0 K H)(c:cf K H j d D arr ps paths bk out aT)(z:Bool):
  ∃ v K' H',Dx prog 29 [.ptr d 0,.bool z] K H (fun r=>r= .dev j) v K' H'/\(v= .aZ []/\K'=K/\cf K' H' j d {D with busy:=z} arr ps paths bk out aT):=by
 obtain⟨l,e⟩:=c.set f (D':={D with busy:=z}) rfl rfl;have k:=c.g;unfold au.cs at k l e;have h:=b8 k;refine ar (Q:=fun r=>r= .dev j) (Post:=fun v K' H'=>v= .aZ []/\K'=K/\cf K' H' j d {D with busy:=z} arr ps paths bk out aT) func29 ?_;refine aL k ?_;refine aE ?_
 exact Ex.of l (by simp[jv,V.low,lows]) ⟨rfl,rfl,e⟩
noncomputable def au.dR (D:au):Z:=(Ae 1 D.af (cK D.fresh.toNat 8) 1).getD 0 []
theorem au.sP (D:au)(g:D.af.length=32):bp prog 25 [.i64 1,.str D.af,.str (cK D.fresh.toNat 8),.i64 1] [] (.aZ [.slice 0 0 1 1,.i64 0]) [bK [.str D.dR]]/\D.dR.length=32:=by
 obtain⟨h,k,c⟩:=EI (x:=1) (.inl rfl) D.af (cK D.fresh.toNat 8) I (by rw[fD];decide) (n:=1) ag ag;unfold au.dR;obtain⟨a,e,f⟩:=QX k c;rw[e] at h |-
 exact⟨h,f⟩
theorem ET (t:Cx K0 H0 Q0 K H)(n:cf K H j d D arr ps paths bk out aT)(u:D.af.length=32):
  ∃ v K' H',Dx prog 42 [.ptr d 0] K H (fun r=>r= .dev j) v K' H'/\(v= .str D.dR/\K'=K/\cf K' H' j d {D with fresh:=D.fresh+1#64} arr ps paths bk out aT):=by
 have x:=n.g;have c:=b8 x;have e:=(D.sP u).1;have w:=CW D.fresh;have f:=fD D.fresh.toNat 8;generalize D.dR=k at*;generalize cK D.fresh.toNat 8=y at*;have l:=((t.start (fun _=>False)).bH (vs:=y.map .u8) (mm:=none) (Bi _ _)).bH (vs:=[.str k]) (mm:=none) bT;have m:=n.off l.off J J J J;obtain⟨z,o⟩:=m.set l (D':={D with fresh:=D.fresh+1#64}) rfl rfl;have q:=(l.mono (Q2:=fun r=>r= .dev j) fun _ h=>h.elim).call z fun _ h=>h
 unfold au.cs at x z o q;refine ar (Q:=fun r=>r= .dev j) (Post:=fun v K' H'=>v= .str k/\K'=K/\cf K' H' j d {D with fresh:=D.fresh+1#64} arr ps paths bk out aT) func42 ?_;refine aL x ?_;refine aE ?_
 refine az [] w ?_;simp only[go_sem,seval,qb,f,bq (show(y.map V.u8).length<=8 by simp;omega)];refine aE ?_
 refine az [] e ?_;simp only[go_sem,seval,x,th c];refine⟨ahA (Aw H.length) ?_ (by simp[WW c,Wc,aic];rfl),?_⟩
 .kernel_rfl
 have s:d<(H++[bK (y.map .u8)]++[bK [.str k]]).length:=cp;simp only[go_sem,seval,eA (show d≠H.length+1 by omega)];refine aE ?_
 exact Ex.of q trivial ⟨rfl,rfl,o⟩
end
end
end Go.Vm
end
section
namespace Go.Vm
section
section
variable {P:Program}{m n N k:Nat}{R:Exit->St->Prop}{ks:List Fr}{l:List Oper}{ops:Array Oper}{dst:Option Tmp}{t:List (Nat×V)}
variable {f:FuncId}{args:List V}{H H0:aU}{K K0:RK}{Q:Rl->Prop}{b:Nat}{bs cs:Z}
theorem aep (i:Cx K0 H0 Q K H)(d:H0.length<=b)(s:ah H b=bK (bs.map .u8))(h:bp P f (.slice 0 0 N 1::args) [bK (bs.map .u8)] (.slice 1 0 k 1) [none,bK (cs.map .u8)])
  (u:∀ v,aW v args=args) (a:lows 1 args) (hc:iu P f=true)
  (j:∀ H',Cx K0 H0 Q K H'->(∀ c,c<H.length->c≠b->ah H' c=ah H c)->ah H' H.length=bK (cs.map .u8)->H'.length=H.length+1->kC P m n R l ops ks ⟨di t dst (.slice H.length 0 k 1),H'⟩):
  s8 P m n R (.fn f [] []) (.slice b 0 N 1::args) dst l ops ks ⟨t,H⟩:=by
 have g:=b8 s;obtain⟨w,y,o⟩:=SE (t:=t) (h':=[]) h u a s;refine fY [b] h hc (by simpa using w) rfl ⟨Nat.one_pos,a⟩ J (fun x p=>by rw[oQ.1 p];exact g) (by simp[pO]) y (by simp[oe]) J ?_;have r:=j (H.set b none++[bK (cs.map .u8)]) ((i.F2 d).bH (Bi _ _)) (fun c hc q=>by rw[fJ (by rw[b7];exact hc),eA (fun e=>q e.symm)]) (by
  have :=qb (H.set b none) (bK (cs.map .u8)) []
  rwa [b7] at this) J
 rw[<-o,<-OI (N:=H.length) b none (bK (cs.map .u8))] at r;exact r
theorem ahN {tr:Tr}(o:Cx K0 H0 Q K H)(g:H0.length<=b)(u:ah H b=bK (bs.map .u8))(j:bp P f (.slice 0 0 N 1::args) [bK (bs.map .u8)] (.slice 1 0 k 1) [none,bK (cs.map .u8)])
  (v:∀ w,aW w args=args) (a:lows 1 args) (hc:iu P f=true)
  (p:∀ H',Cx K0 H0 Q K H'->(∀ c,c<H.length->c≠b->ah H' c=ah H c)->ah H' H.length=bK (cs.map .u8)->H'.length=H.length+1->ml P m n R l (tr++[([b],[b,H.length])]) ops ks ⟨di t dst (.slice H.length 0 k 1),H'⟩):
  qo P m n R (.fn f [] []) (.slice b 0 N 1::args) dst l tr ops ks ⟨t,H⟩:=by
 have d:=b8 u;obtain⟨y,z,q⟩:=SE (t:=t) (h':=[]) j v a u;refine Bs [b] j hc (by simpa using y) rfl ⟨Nat.one_pos,a⟩ J (fun x h=>by rw[oQ.1 h];exact d) (by simp[pO]) z (by simp[oe]) J ⟨fun x h=>?_,?_⟩
 .have i:x∈[(b,(none:Option aa))]:=h;rw[oQ.1 i];exact d
 have s:=p (H.set b none++[bK (cs.map .u8)]) ((o.F2 g).bH (Bi _ _)) (fun c hc r=>by rw[fJ (by rw[b7];exact hc),eA (fun e=>r e.symm)]) (by
  have :=qb (H.set b none) (bK (cs.map .u8)) []
  rwa [b7] at this) J
 rw[<-q,<-OI (N:=H.length) b none (bK (cs.map .u8))] at s;exact s
end
end
end Go.Vm
end
section
namespace Go.Vm
open Go.Proofs
theorem aaC (k c m t:Z):(mg iP k c m t).1.length<=t.length+16:=by
 unfold mg;split
 .exact(Wh _ _ _ _).2
 .simp
end Go.Vm
end
section
namespace Go.Vm
open Go.Proofs Go.Proofs.Tryz
section
open Classical in
noncomputable def jV (key x:Z) (m:Nat):Z:=if h:∃ o:Z,bE prog 131 [.str key,.str x,.i64 m] (.str o)/\o.length=m then h.choose else[]
theorem ym (c x:Z)(m:Nat)(d:1<=m/\m<=32)(a:c.length<=32)(b:x.length<=1099511627776):bE prog 131 [.str c,.str x,.i64 m] (.str (jV c x m))/\(jV c x m).length=m:=by
 have h:=Ib c x m d a b;unfold jV;rw[dif_pos h];exact h.choose_spec
noncomputable def s9 (u c x:Z):Z:=x++cY u x++(if c=[] then List.replicate 16 0#8 else jV c (x++cY u x) 16)
theorem Ap (u x:Z)(a:u.length<=549755813888)(b:x.length<=1099511627776):(cY u x).length=16:=(E2 u x a b).2
theorem acy {u c x:Z}(d:u.length=32)(hc:c=[]\/c.length=16)(a:x.length<=10000000):(s9 u c x).length=x.length+32:=by
 have h:=Ap u x I I;unfold s9;split
 .rw[bA,bA,h,kV]
 .have b:=(ym c (x++cY u x) 16 ag (by rcases hc with rfl|hc<;>simp_all) (by rw[bA];omega)).2;rw[bA,bA,h,b]
theorem Sl (u c x:Z)(k:u.length=32)(hc:c=[]\/c.length=16)(e:x.length<=10000000):bE prog 127 [.str u,.str c,.str x] (.aZ [.str (s9 u c x),.i64 0]):=by
 by_cases j:c=[]
 .subst j;have :=VW u x k e;unfold marked at this;unfold s9
  rwa [aM rfl]
 have d:c.length=16:=hc.resolve_left j;have a:=Gw u c;rw[aM ⟨k,hc⟩] at a;obtain⟨l,h⟩:=E2 u x I I;unfold s9;rw[aq j];generalize cY u x=o at*;have f:=(ym c (x++o) 16 ag I (by rw[bA];omega));obtain⟨b,g⟩:=f;generalize jV c (x++o) 16=i at*;refine ai func127 ?_;simp only[go_sem,seval,ntmps127];refine br (a) (aH ?_);refine br (l) (aG ?_)
 refine aL j ?_;refine br (b) (aG ?_)
 omega
theorem Mp (u c x m:Z)(n:u.length=32)(hc:c.length=16)(k:x.length<=1000000)(w:m.length=16):bE prog 94 [.str u,.str c,.str (x++cY u x++m)] (.aZ [.str x,.bool (decide (jV c (x++cY u x) 16=m)),.i64 0]):=by
 have a:=Gw u c;rw[aM ⟨n,.inr hc⟩] at a;obtain⟨v,g⟩:=E2 u x I I;generalize cY u x=o at*;have b:(x++o++m).length=x.length+32:=by rw[bA,bA];omega
 have p:List.take x.length (x++o++m)=x:=by rw[hZ];exact mW rfl
 have q:List.take (x.length+16) (x++o++m)=x++o:=mW (by simp[g]);obtain⟨d,h⟩:=ym c (x++o) 16 ag I (by rw[bA];omega);generalize jV c (x++o) 16=f at*;have i:decide (f=m)=decide (x++o++f=x++o++m):=J;rw[i];generalize x++o++m=s at*;have r:c≠[]:=fun e=>by rw[e] at hc;cases hc
 have l:¬ ((x.length+32:Nat):Int)<32:=I;have t:bh (((x.length+32:Nat):Int)-32)=(x.length:Int):=by rw[bC I I];omega
 have j:bh (((x.length+32:Nat):Int)-16)=((x.length+16:Nat):Int):=by rw[bC I I];omega
 refine ai func94 ?_;simp only[go_sem,seval,ntmps94];refine br (a) (aH ?_);refine qb0 b l t j p q ?_;refine aE ?_
 refine br (v) (aG ?_)
 refine g9 r ?_;refine aE ?_
 refine br (d) (aG ?_)
 omega
noncomputable def fS (k:Z) (fr:aQ) (now:Int):Z:=jV k (cK (BitVec.ofInt 64 (bh (now.tdiv 120))).toNat 8++cK (fr.setWidth 64).toNat 4) 16
theorem DI {k:Z}(fr:aQ)(now:Int)(a:k.length=32):(fS k fr now).length=16:=(ym k _ 16 ag I (by simp[fD])).2
theorem ajz (k:Z)(fr:aQ)(now:Int)(d:k.length=32)(h2:0<=now)(e:now<=1099511627776):bE prog 128 [.str k,.u32 fr,.i64 now] (.aZ [.str (fS k fr now),.i64 0]):=by
 have g:(k.length:Int)=32:=I;have a:¬ now<0:=I;have b:¬ 1099511627776<now:=I;obtain⟨h,f⟩:=ym k (cK (BitVec.ofInt 64 (bh (now.tdiv 120))).toNat 8++cK (fr.setWidth 64).toNat 4) 16 ag I (by simp[fD]);unfold fS;generalize jV k (cK (BitVec.ofInt 64 (bh (now.tdiv 120))).toNat 8++cK (fr.setWidth 64).toNat 4) 16=o at*;have c:=DT (cK (BitVec.ofInt 64 (bh (now.tdiv 120))).toNat 8) (fr.setWidth 64) (by rw[fD];omega);rw[fD] at c;refine ai func128 ?_;simp only[go_sem,seval,ntmps128];refine Ft g a b ?_;refine aE ?_
 refine am [] (CW (BitVec.ofInt 64 (bh (now.tdiv 120)))) (aG ?_)
 refine am [0] c ?_;refine aL @fD ?_;refine aE ?_
 refine br (h) ?_;simp only[go_sem,seval]
noncomputable def nZ (u:Z):Z:=jV [] (bytesOf ⟨#[99,111,111,107,105,101,45,45]⟩++u) 32
theorem PO (u:Z)(a:u.length=32):(nZ u).length=32:=by
 have h:(bytesOf ⟨#[99,111,111,107,105,101,45,45]⟩).length=8:=by rw[pR];rfl
 exact(ym [] _ 32 ag ag (by rw[bA];omega)).2
theorem Qi (u:Z)(c:u.length=32):bE prog 133 [.str u] (.str (nZ u)):=by
 have a:(bytesOf ⟨#[99,111,111,107,105,101,45,45]⟩).length=8:=by rw[pR];rfl
 obtain⟨b,d⟩:=ym [] (bytesOf ⟨#[99,111,111,107,105,101,45,45]⟩++u) 32 ag ag (by rw[bA];omega);unfold nZ;refine ai func133 ?_;simp only[go_sem,seval,ntmps133];refine aE ?_
 refine br (b) ?_;simp only[go_sem,seval]
theorem RP (a b c:Z)(d:b.length=16)(hc:c.length=16)(g:a.length<=1000000):bE prog 134 [.str (a++b++c)] (.str b):=by
 have e:(a++b++c).length=a.length+32:=by rw[bA,bA];omega
 have h:List.take (a.length+16) (a++b++c)=a++b:=mW (by simp[d]);generalize a++b++c=s at*;have i:bh (((a.length+32:Nat):Int)-32)=(a.length:Int):=by rw[bC I I];omega
 have f:bh (((a.length+32:Nat):Int)-16)=((a.length+16:Nat):Int):=by rw[bC I I];omega
 refine ai func134 ?_;simp only[go_sem,seval,ntmps134,results134,e,i,f,iG,h,List.drop_left];refine aE ?_
 all_goals first|omega |rfl
theorem Sw (s:Z)(h:6<=s.length)(h2:s.length<=10000000):bE prog 135 [.str s] (.str (3#8::0#8::List.drop 2 (List.take 6 s))):=by
 refine ai func135 ?_;simp only[go_sem,seval,ntmps135,results135];refine aE ?_
 all_goals first|omega |rfl|skip
theorem Ni {k c m t:Z}(b:k.length=32)(hc:c.length=24)(e:m.length<=2000)(ht:t.length<=2000):(mg iP k c m t).2=0/\(mg iP k c m t).1.length=t.length+16/\mg pV k c m (mg iP k c m t).1=(t,0):=by
 have h:k.length=32/\c.length=24:=⟨b,hc⟩;have d:(AL k (c.take 16)).length=32:=by
  have a:(iz (arr (k++c.take 16) 12) 80).length=16:=by rw[BZ];exact zV (k++c.take 16) 12 J
  unfold AL;rw[bA,Ay,Ay,cF,dO,a];rfl
 unfold mg;rw[aM h,aM h];exact L5 d (by rw[bA,kV,dO];omega) e ht
noncomputable def gd (u nonce ck x b:Z):Z:=(3#8::0#8::List.drop 2 (List.take 6 x))++nonce++(mg iP (nZ u) nonce b ck).1
theorem YO (u nonce ck x b c:Z)(e:u.length=32)(r:nonce.length=24)(t:ck.length=16)(f:6<=x.length)(a:x.length<=1000000)(g:b.length=16)(hc:c.length=16):bE prog 95 [.str u,.str nonce,.str ck,.str (x++b++c)] (.aZ [.str (gd u nonce ck x b),.i64 0]):=by
 have h:(u.length:Int)=32:=I;have i:(nonce.length:Int)=24:=I;have j:(ck.length:Int)=16:=I;have k:(x++b++c).length=x.length+32:=by rw[bA,bA];omega
 have l:¬ ((x.length+32:Nat):Int)<38:=I;have m:=Qi u e;have n:=RP x b c g hc a;have d:=Sw (x++b++c) I I;rw[show List.take 6 (x++b++c)=List.take 6 x by rw[hZ,CB f]] at d;have o:=ajQ (nZ u) nonce b ck;unfold gd;have p:(mg iP (nZ u) nonce b ck).1.length<=1000:=by have :=aaC (nZ u) nonce b ck;omega
 have q:(3#8::0#8::List.drop 2 (List.take 6 x)).length=6:=cp;generalize mg iP (nZ u) nonce b ck=z at*;generalize nZ u=v at*;generalize x++b++c=s at*;generalize 3#8::0#8::List.drop 2 (List.take 6 x)=w at*;refine ai func95 ?_;simp only[go_sem,seval,ntmps95,h,i,j,k,l,ic,gD,cr];refine br (m) (aH ?_);refine br (n) (aH ?_);refine br (o) (aG ?_)
 refine br (d) (aG ?_)
 omega
theorem adZ (u nonce ck x b c:Z)(i:u.length=32)(d:nonce.length=24)(C:ck.length=16)(n:6<=x.length)(e:x.length<=1000000)(o:b.length=16)(hc:c.length=16):bE prog 105 [.str u,.str (x++b++c),.str (gd u nonce ck x b)] (.aZ [.str ck,.i64 0]):=by
 have p:(u.length:Int)=32:=I;have q:(x++b++c).length=x.length+32:=by rw[bA,bA];omega
 have r:¬ ((x.length+32:Nat):Int)<38:=I;have v:=Qi u i;have w:=RP x b c o hc e;have j:=Sw (x++b++c) I I;rw[show List.take 6 (x++b++c)=List.take 6 x by rw[hZ,CB n]] at j;obtain⟨-,A,B⟩:=Ni (k:=nZ u) (c:=nonce) (m:=b) (t:=ck) (PO u i) d I I;have a:(3#8::0#8::List.drop 2 (List.take 6 x)).length=6:=cp;have f:(gd u nonce ck x b).length=62:=by unfold gd;rw[bA,bA,a,A];omega
 have y:List.take 6 (gd u nonce ck x b)=3#8::0#8::List.drop 2 (List.take 6 x):=by unfold gd;rw[hZ];exact mW a
 have g:List.drop 6 (List.take 30 (gd u nonce ck x b))=nonce:=by
  unfold gd;rw[mW (by rw[bA,a,d])];exact oI a
 have h:List.drop 30 (gd u nonce ck x b)=(mg iP (nZ u) nonce b ck).1:=by unfold gd;exact oI (by rw[bA,a,d])
 have l:=acU (nZ u) nonce b (mg iP (nZ u) nonce b ck).1;rw[B] at l;generalize gd u nonce ck x b=D at*;generalize (mg iP (nZ u) nonce b ck).1=z at*;generalize nZ u=E at*;generalize x++b++c=s at*;generalize 3#8::0#8::List.drop 2 (List.take 6 x)=F at*;refine ai func105 ?_;simp only[go_sem,seval,ntmps105,p,q,r,f,ic,gD,cr];refine aE ?_
 refine bZ (j) ?_;refine g9 y ?_;refine aE ?_
 refine bZ (v) ?_;refine aL g ?_;refine aE ?_
 refine bZ (w) ?_;refine aL h ?_;refine aE ?_
 refine bZ (l) (aH ?_);kernel_rfl
end
section
def eI (dX:aQ)(n:Int)(z:Z):Z:=[4#8,0#8]++bX (dX.setWidth 64).toNat 4++bX (BitVec.ofInt 64 n).toNat 8++z
section
variable {K K0 K':RK}{H H0 H':aU}{Q0 Q:Rl->Prop}{j i d p tm q w a arr paths bk b N n:Nat}{P:aj}{D:au}{S S':aX}{ps:List Nat}{out aT wv bg ol se ne:V}
theorem Q7 (e:Cx K0 H0 Q0 K H)(f:cf K H j d D arr ps paths bk out aT)(c:D.ok n)(fr:aQ):
  ∃ v K' H',Dx prog 93 [.ptr d 0,.u32 fr] K H (fun _=>False) v K' H'/\(v= .str (fS D.cz fr D.now)/\K'=K/\H'=H):=by
 have k:=f.g;unfold au.cs at k;have h:=ajz D.cz fr D.now c.cz c.now.1 c.now.2;generalize fS D.cz fr D.now=o at*;refine ar (Q:=fun _=>False) (Post:=fun v K' H'=>v= .str o/\K'=K/\H'=H) func93 ?_;refine aL k ?_;refine aE ?_
 refine bZ (h) (aG ?_)
 exact Ex.of (e.start _) trivial ⟨rfl,rfl,rfl⟩
noncomputable def aj.gU (P:aj) (now:Int) (x:Z):Z:=s9 P.aP (if P.un<now then[] else P.ck) x
theorem aj.Ef (c:P.ok){now:Int}{x:Z}(e:x.length<=1000000):(P.gU now x).length=x.length+32:=by
 unfold aj.gU;exact acy (by rw[c.aP,fa]) (by split <;>first|exact .inl rfl|exact c.ck) I
theorem Oo (k:Cx K0 H0 Q0 K H)(m:cf K H j d D arr ps paths bk out aT)(r:cj K H j i d p P tm wv bg ol se ne)(l:P.ok)(x:Z)(s:x.length<=1000000):
  ∃ v K' H',Dx prog 92 [.ptr p 0,.str x] K H (fun _=>False) v K' H'/\(v= .str (P.gU D.now x)/\K'=K/\H'=H):=by
 have t:=m.g;have c:=r.gp;unfold au.cs at t;unfold aj.cs at c;have e:P.aP.length=32:=by rw[l.aP,fa]
 unfold aj.gU;by_cases h:P.un<D.now
 .have f:=Sl P.aP [] x e (.inl rfl) I;rw[aM h];generalize s9 P.aP [] x=o at*;refine ar (Q:=fun _=>False) (Post:=fun v K' H'=>v= .str o/\K'=K/\H'=H) func92 ?_;refine i9 c t h ?_;refine aE ?_
  refine br (f) (aH ?_);exact Ex.of (k.start _) trivial ⟨rfl,rfl,rfl⟩
 .have f:=Sl P.aP P.ck x e l.ck I;rw[aq h];generalize s9 P.aP P.ck x=o at*;refine ar (Q:=fun _=>False) (Post:=fun v K' H'=>v= .str o/\K'=K/\H'=H) func92 ?_;refine i9 c t h ?_;refine aE ?_
  refine br (f) (aH ?_);exact Ex.of (k.start _) trivial ⟨rfl,rfl,rfl⟩
theorem cj.HD (h:cj K H j i d p P tm wv bg ol se ne){j':Nat}(c:cD (qO j') K H K' H'):cj K' H' j i d p P tm wv bg ol se ne:=h.off c id id id id id fun _=>⟨id,id⟩
theorem cj.eH (h:cj K H j i d p P tm wv bg ol se ne)(c:cD (fun _=>False) K H K' H'):cj K' H' j i d p P tm wv bg ol se ne:=h.off c id id id id id fun _=>⟨id,id⟩
theorem cf.eH (h:cf K H j d D arr ps paths bk out aT)(c:cD (fun _=>False) K H K' H'):cf K' H' j d D arr ps paths bk out aT:=h.off c id id id id
theorem X5 (c:Cx K0 H0 Q0 K H)(g:cf K H j d D arr ps paths bk out aT)(f:cj K H j i d p P tm wv bg ol se ne)(k:P.ok)(x:Z)(r:x.length<=900000)(s:D.out.length<=1000000000):
  ∃ v K' H',Dx prog 101 [.ptr p 0,.str x] K H (qO j) v K' H'/\(v= .aZ []/\jU K' H' j d (D.goes P.at_ (P.gU D.now x)) arr ps paths bk):=by
 have e:=f.gp;unfold aj.cs at e;refine ar (Q:=qO j) (Post:=fun v K' H'=>v= .aZ []/\jU K' H' j d (D.goes P.at_ (P.gU D.now x)) arr ps paths bk) func101 ?_;refine d8 e ?_
 refine gh (Oo c g f k x I) U rfl (by simp[lows,V.low,c.lt f.kp]) c.bD ?_;rintro _ y t l m ⟨rfl,rfl,rfl⟩;refine aK ?_
 refine gh (Fo c g P.at_ (P.gU D.now x) s) U rfl (by simp[lows,V.low,c.lt g.kd]) c.bD ?_;rintro _ z A h o ⟨rfl,u⟩;simp only[go_sem];refine And.intro ?_ ?_
 .refine jg (jY t.length) [([],[]),([],[]),([],[]),([0],[]),([],[]),([],[]),([],[]),([0],[]),([],[]),([],[]),([0,1],[1]),([0,1],[0,1])] U (by simp only[jA,jy,cv,rN,all_cons,vM,iY,C6,iN (c.lt f.kp),j6,gG])
 exact Ex.of h trivial ⟨rfl,u⟩
theorem cj.Ih (h:cj K H j i d p P tm wv bg ol (.ptr a 0) ne)(t:cD (fun r=>r= .pair j i a\/r= .iT j i a) K H K' H')(m:fk K' H' j i a q w S'):cj K' H' j i d p {P with se:=some S'} tm wv bg ol (.ptr a 0) ne:=by
 have u:∀ {v:V} {s:Nat},v= .ptr s 0->fK v (.ptr a 0)->¬ (Rl.pair j i s= .pair j i a\/Rl.pair j i s= .iT j i a)/\¬ (Rl.iT j i s= .pair j i a\/Rl.iT j i s= .iT j i a):=fun {v s} e c=>by
  have g:s≠a:=fun o=>by
   subst o;rcases c with c|c
   .rw[e] at c;cases c
   .exact c e
  simp[g]
 refine⟨t.k p _ h.kp J,t.k tm _ h.kt J,(t.h p _ h.kp J).trans h.gp,(t.h tm _ h.kt J).trans h.gt,h.pf.off t J,h.sW.off t J,h.pP.off t J fun s e=>u e h.d1,⟨a,q,w,rfl,m⟩,h.pE.off t J fun s e=>u e ?_,h.d1,h.d2,h.d3⟩;rcases h.d3 with l|l
 .cases l
 .exact .inr (Ne.symm l)
noncomputable def eW (D:au) (P:aj) (x:Z):au×aj:=match P.se with
 |none=>(D,P)
 |some S=>if S.over D.now=true then(D,P) else(D.goes P.at_ (eI S.dX S.se (jz S.su S.sd S.se x)),
   {P with se:=some {S with se:=S.se+1},tm:=if({S with se:=S.se+1}:aX).pT D.now=true then(P.tm.ev 1 D.now).ev 3 D.now else P.tm.ev 1 D.now})
theorem YH (c:Cx K0 H0 Q0 K H)(h:fk K H j i a q w S)(e:S.ok)(x:Z)(f:x.length<=2000)(now:Int)(k:S.over now=true):
  ∃ v K' H',Dx prog 63 [.ptr q 0,.str x,.i64 now] K H (fun r=>r= .pair j i a) v K' H'/\(v= .aZ [.i64 0,.str [],.i64 11]/\K'=K/\H'=H):=by
 obtain⟨v,K',H',l,g⟩:=Py c h e x f now;rw[aM k] at g;exact⟨v,K',H',l,g⟩
theorem Y8 (c:Cx K0 H0 Q0 K H)(h:fk K H j i a q w S)(e:S.ok)(x:Z)(f:x.length<=2000)(now:Int)(l:¬ S.over now=true):
  ∃ v K' H',Dx prog 63 [.ptr q 0,.str x,.i64 now] K H (fun r=>r= .pair j i a) v K' H'/\(v= .aZ [.i64 S.se,.str (jz S.su S.sd S.se x),.i64 0]/\K'=K/\fk K' H' j i a q w {S with se:=S.se+1}):=by
 obtain⟨v,K',H',g,k⟩:=Py c h e x f now;rw[aq l] at k;obtain⟨rfl,rfl,rfl⟩:=k;exact⟨_,_,_,g,rfl,rfl,h.ka,h.kq,h.kw,(g.cur.get h.ka (b8 h.ga) J).trans h.ga,dr (b8 h.gq) _,(g.cur.get h.kw (b8 h.gw) J).trans h.gw⟩
theorem bw.rH {T:bw}(c:T.ok){k now:Int}(e:k≠4\/T.t<=5)(f:0<=now/\now<=1099511627776):(T.ev k now).ok:=by
 have m:=c.t0;have r:=c.t6;have g:=c.l;have h:=c.u;refine⟨?_,?_,?_,?_⟩
 .show 0<=tT T.t k;unfold tT;split <;>(try split)<;>(try split)<;>omega
 .show tT T.t k<=6;unfold tT;split <;>(try split)<;>(try split)<;>omega
 .show 0<=tL T.l k now/\tL T.l k now<=1099511627776;unfold tL;split <;>(try split)<;>omega
 .show 0<=tU T.o T.u k now/\tU T.o T.u k now<=1099511627776;unfold tU;split <;>(try split)<;>omega
theorem aX.Od (c:S.ok){now:Int}(e:¬ S.over now=true):({S with se:=S.se+1}:aX).ok:=
 ⟨c.su,c.sd,c.rc,c.bo,by
  have h:=c.se;unfold aX.over pd at e;split at e
  .exact absurd rfl e
  .simp at e;exact⟨by show 0<=S.se+1;omega,by show S.se+1<=1000;omega⟩,c.nx⟩
theorem Cy (f:P.ok)(c:D.ok n)(x:Z):(eW D P x).2.ok/\(eW D P x).1.ok (n+1):=by
 have h:D.ok (n+1):=⟨c.own,c.aP,c.af,c.ac,c.cz,c.now,⟨c.ct.1,by have :=c.ct.2;omega⟩,by have :=c.out;omega,by have :=c.aT;omega⟩;unfold eW;split
 .exact⟨f,h⟩
 .rename_i S g;split
  .exact⟨f,h⟩
  .rename_i m;refine⟨⟨f.q,f.aP,f.aR,f.kn,f.bP,f.ck,f.un,f.wl,f.ws,f.bg,f.bt,f.ol,fun o e=>?_,f.ne,?_⟩,?_⟩
   .cases e;exact aX.Od (f.se S g) m
   .have l:=bw.rH f.tm (k:=1) (.inl ag) c.now;show(if _ then _ else _:bw).ok;split
    .exact bw.rH l (.inl ag) c.now
    .exact l
   .unfold au.goes;split
    .exact h
    .exact⟨c.own,c.aP,c.af,c.ac,c.cz,c.now,⟨c.ct.1,h.ct.2⟩,by have :=c.out;simp;omega,h.aT⟩
def qS (j i:Nat):Rl->Prop
 | .dev e| .out e=>e=j
 | .tm e c| .pair e c _=>e=j/\c=i
 |_=>False
theorem adu:∀ r,qO j r->qS j i r:=fun r h=>by cases r<;>first|exact h|cases h
theorem Ar:∀ r,qS j i r->qP j i r:=fun r h=>by cases r<;>first|exact h|cases h
theorem F4 (hC:Cx K0 H0 Q0 K H)(hD:cf K H j d D arr ps paths bk out aT)(hP:cj K H j i d p P tm wv bg ol se ne)(hp:P.ok)(hd:D.ok n)(hn:n<=1000000000)(hS:P.se=some S)(x:Z)(hx:x.length<=2000):
  ∃ v K' H',Dx prog 46 [.ptr p 0,.str x] K H (qS j i) v K' H'/\(v= .aZ []/\jU K' H' j d (eW D P x).1 arr ps paths bk/\dn K' H' j i d p (eW D P x).2):=by
 have c2:=hP.kP;rw[hS] at c2;obtain⟨a,q,w,rfl,hs⟩:=c2;have F:=hp.se S hS;have u:=hd.now;have hg:=hD.g;have a6:=hP.gp;have a7:=hs.ga;unfold au.cs at hg;unfold aj.cs at a6;unfold aX.sc at a7;by_cases ho:S.over D.now=true
 .have e:eW D P x=(D,P):=by unfold eW;rw[hS];exact aM ho
  rw[e];refine ar (Q:=qS j i) (Post:=fun v K' H'=>v= .aZ []/\jU K' H' j d D arr ps paths bk/\dn K' H' j i d p P) func46 ?_;refine qA a6 hg a7 ?_
  refine gh (YH hC hs F x hx D.now ho) U rfl (by simp[lows,V.low,hC.lt hs.kq]) hC.bD ?_;rintro _ K1 O k h1 ⟨rfl,rfl,rfl⟩;refine aK ?_
  exact Ex.of (hC.start _) trivial ⟨rfl,⟨_,_,hD⟩,_,_,_,_,_,_,hP⟩
 have e:eW D P x=(D.goes P.at_ (eI S.dX S.se (jz S.su S.sd S.se x)),{P with se:=some {S with se:=S.se+1},tm:=if({S with se:=S.se+1}:aX).pT D.now=true then(P.tm.ev 1 D.now).ev 3 D.now else P.tm.ev 1 D.now}):=by unfold eW;rw[hS];exact aq ho
 rw[e];clear e;have h5:=yQ (s:=S.su) (n:=S.se) F.sd hx;have e1:=aX.Od F ho;refine xQ (Q:=qS j i) (Post:=fun v K' H'=>v= .aZ []/\jU K' H' j d (D.goes P.at_ (eI S.dX S.se (jz S.su S.sd S.se x))) arr ps paths bk/\dn K' H' j i d p {P with se:=some {S with se:=S.se+1},tm:=if({S with se:=S.se+1}:aX).pT D.now=true then(P.tm.ev 1 D.now).ev 3 D.now else P.tm.ev 1 D.now}) U func46 rfl db (ce ?_);refine qA a6 hg a7 ?_
 refine gh (Y8 hC hs F x hx D.now ho) U rfl (by simp[lows,V.low,hC.lt hs.kq]) hC.bD ?_;rintro _ K1 O k h1 ⟨rfl,rfl,R⟩;refine aK ?_
 have e2:=hD.off k.off J J J J;have y:=hP.Ih (k.off.mono fun r h=> .inl h) R;have a8:=k.mono (Q2:=qS j i) fun r h=>by subst h;exact⟨rfl,rfl⟩
 have G:=y.gp;have A:=R.ga;unfold aj.cs at G;unfold aX.sc at A;dsimp only at G A;have e3:=JI [4#8,0#8] (S.dX.setWidth 64) J;have c3:=xK ([4#8,0#8]++bX (S.dX.setWidth 64).toNat 4) (BitVec.ofInt 64 S.se) (by simp[dQ]);simp only[bA,dQ] at c3;simp only[go_sem,seval,G,A,qk (k.lt y.kp),qk (k.lt R.ka)];refine aF ?_
 have b0:=a8.bH (vs:=[.u8 4#8,.u8 0#8]) (mm:=none) bT;have b2:(O++[bK [.u8 4#8,.u8 0#8]]).length=O.length+1:=J;refine aep b0 a8.len ja e3 (fun _=>rfl) bT U (fun H2 b0 e8 c8 t=>?_);rw[b2] at c8 t;have X:∀ c,c<O.length->ah H2 c=ah O c:=fun c hc=>(e8 c (by rw[b2];omega) (BC hc)).trans (qk hc)
 have c4:=(X p (k.lt y.kp)).trans G;refine i7 b2 c4 ?_
 refine ahN b0 (j7 a8.len (ut _ _)) c8 c3 (fun _=>rfl) bT U (fun H3 M e9 c9 h0=>?_);rw[t] at c9 h0;have h6:(([4#8,0#8]++bX (S.dX.setWidth 64).toNat 4)++bX (BitVec.ofInt 64 S.se).toNat 8).length=14:=by simp[dQ]
 have c5:∀ c,c<O.length->ah H3 c=ah O c:=fun c hc=>(e9 c (by rw[t];omega) I).trans (X c hc)
 have b3:cD (fun _=>False) K1 O K1 H3:=⟨fun _ _ e _=>e,fun b r e _=>c5 b (k.lt e)⟩;have c6:=e2.eH b3;have e4:=y.eH b3;have e5:=R.off b3 id id id;unfold eI;generalize h7:([4#8,0#8]++bX (S.dX.setWidth 64).toNat 4)++bX (BitVec.ofInt 64 S.se).toNat 8=bb at*;simp only[go_sem,seval,t,c9,bq (show(bb.map V.u8).length<=14 by simp;omega)];refine aF ?_
 generalize jz S.su S.sd S.se x=z at*;refine gh (Fo M c6 P.at_ (bb++z) (by have :=hd.out;omega)) U rfl (by simp[lows,V.low,M.lt c6.kd]) M.bD ?_;rintro _ K4 H4 c0 h8 ⟨rfl,_,_,e0⟩;refine aH ?_;refine And.intro ?_ ?_
 .refine jg (jY O.length) [([],[]),([],[]),([],[]),([0],[]),([],[]),([],[]),([],[]),([0],[]),([],[]),([],[]),([0,1],[1]),([1],[1]),([0,1],[1]),([],[]),([],[]),([0,1],[0,1])] U (by simp only[jA,jy,cv,rN,all_cons,KD,agF,iN (k.lt y.kp),j6,pB,gG])
 have B:=M.call c0 adu;have m:=e4.HD c0.off;have c7:=e5.off c0.off id id id;have b4:=m.gp;have C:=e0.g;have Y:=c7.ga;have eD:(D.goes P.at_ (bb++z)).now=D.now:=by unfold au.goes;split <;>rfl
 unfold aj.cs at b4;unfold au.cs at C;unfold aX.sc at Y;rw[eD] at C;dsimp only at b4 Y;refine i7 b4 C ?_
 refine gh (sI B m.kt m.gt hp.tm 1 D.now ag u) U rfl (by simp[lows,V.low,B.lt m.kt]) B.bD ?_;rintro _ K5 H5 W h9 ⟨rfl,rfl,h3⟩;refine aK ?_
 have f:=B.call W fun r h=>by subst h;exact⟨rfl,rfl⟩
 have l:=m.timer W.off m.kt (T:=P.tm.ev 1 D.now) (by rw[h3];exact dr (B.lt m.kt) _);have b5:=e0.off W.off J J J J;have b6:=c7.off W.off J J J;have L:=l.gp;have o:=b5.g;have E:=b6.ga;unfold aj.cs at L;unfold au.cs at o;unfold aX.sc at E;rw[eD] at o;dsimp only at L E;refine qA L E o ?_
 refine gh (VE f b6 e1 D.now) U rfl (by simp[lows,V.low,f.lt b6.kq]) f.bD ?_;rintro _ K6 H6 j1 j2 ⟨rfl,rfl,rfl⟩;refine aK ?_
 generalize hr:({S with se:=S.se+1}:aX).pT D.now=r at*;cases r
 .refine aH ?_;exact Ex.of f trivial ⟨rfl,⟨_,_,b5⟩,_,_,_,_,_,_,l⟩
 refine i7 L o ?_
 refine gh (sI f l.kt l.gt (bw.rH hp.tm (.inl ag) u) 3 D.now ag u) U rfl (by simp[lows,V.low,f.lt l.kt]) f.bD ?_;rintro _ K7 H7 c1 j3 ⟨rfl,rfl,h4⟩;simp only[go_sem];refine aF ?_
 have e6:=f.call c1 fun r h=>by subst h;exact⟨rfl,rfl⟩
 have e7:=l.timer c1.off l.kt (T:=(P.tm.ev 1 D.now).ev 3 D.now) (by rw[h4];exact dr (f.lt l.kt) _);exact Ex.of e6 trivial ⟨rfl,⟨_,_,b5.off c1.off J J J J⟩,_,_,_,_,_,_,e7⟩
end
end
section
section
variable {K K0 K':RK}{H H0 H':aU}{Q0 Q:Rl->Prop}{j i d p tm q w a arr paths bk b N n:Nat}{P:aj}{D:au}{S S':aX}{ps:List Nat}{out aT wv bg ol se ne:V}
def aj.my (P:aj)(now:Int):Bool:=match P.se with
 |none=>false
 |some S=>! S.over now
theorem MH (e:Cx K0 H0 Q0 K H)(m:cf K H j d D arr ps paths bk out aT)(l:cj K H j i d p P tm wv bg ol se ne)(r:P.ok):
  ∃ v K' H',Dx prog 45 [.ptr p 0] K H (fun _=>False) v K' H'/\(v= .bool (P.my D.now)/\K'=K/\H'=H):=by
 have x:=m.g;have c:=l.gp;have f:=l.kP;unfold au.cs at x;unfold aj.cs at c;unfold aj.my;generalize s:P.se=o at*;cases o with
 |none=>
  obtain rfl:se= .nilPtr:=f;refine ar (Q:=fun _=>False) (Post:=fun v K' H'=>v= .bool false/\K'=K/\H'=H) func45 ?_;refine aL c ?_;refine aE ?_
  exact Ex.of (e.start _) trivial ⟨rfl,rfl,rfl⟩
 |some S=>
  obtain⟨a,q,w,rfl,k⟩:=f;have h:=k.ga;unfold aX.sc at h;refine ar (Q:=fun _=>False) (Post:=fun v K' H'=>v= .bool (! S.over D.now)/\K'=K/\H'=H) func45 ?_;refine aL c ?_;refine aE ?_
  refine i9 c x h ?_;refine aE ?_
  refine gh (af2 e k (r.se S s) D.now) U rfl (by simp[lows,V.low,e.lt k.kq]) e.bD ?_;rintro _ z y t u ⟨rfl,rfl,rfl⟩;refine aH ?_;refine⟨?_,?_⟩
  .refine jg (jY y.length) [([],[]),([],[]),([],[]),([0],[]),([],[]),([],[]),([],[]),([],[]),([],[]),([0],[]),([],[]),([],[]),([0],[]),([],[]),([],[]),([],[]),([0],[]),([],[]),([],[]),([0],[]),([0,1],[0,1]),([],[]),([],[]),([],[])] U (by simp only[jA,jy,cv,rN,all_cons,vM,iY,iN (e.lt l.kp),iN (e.lt m.kd),iN (e.lt k.ka),j6,gG])
  exact Ex.of (e.start _) trivial ⟨rfl,rfl,rfl⟩
noncomputable def mj (s:au×aj) (l:List Z):au×aj:=l.foldl (fun s x=>eW s.1 s.2 x) s
noncomputable def mf (D:au) (P:aj):au×aj:=mj (D,{P with waits:=[]}) P.waits
theorem PN (c:P.se≠none)(x:Z):(eW D P x).2.se≠none:=by
 unfold eW;split
 .rename_i h;exact absurd h c
 .split
  .exact c
  .simp
theorem SH {l:List Z}:∀ {D:au} {P:aj} {n:Nat},P.ok->D.ok n->(mj (D,P) l).2.ok/\(mj (D,P) l).1.ok (n+l.length):=by
 induction l with
 |nil=>exact fun c e=>⟨c,e⟩
 |cons x l ih=>
  intro D P n c e;have h:=Cy c e x;have :=ih (D:=(eW D P x).1) (P:=(eW D P x).2) h.1 h.2;rw[show n+(x::l).length=n+1+l.length by rw[dM];omega];exact this
theorem ag6 (s:au×aj)(l:List Z)(x:Z):mj s (l++[x])=eW (mj s l).1 (mj s l).2 x:=by
 unfold mj;rw[Jm];rfl
theorem ZE {l:List Z}:∀ {D:au} {P:aj},P.se≠none->(mj (D,P) l).2.se≠none:=by
 induction l with
 |nil=>exact fun h=>h
 |cons x l ih=>exact fun h=>ih (PN h x)
theorem aj.ok.waits (c:P.ok):({P with waits:=[]}:aj).ok:=⟨c.q,c.aP,c.aR,c.kn,c.bP,c.ck,c.un,lI _,(fun _ h=>nomatch h),c.bg,c.bt,c.ol,c.se,c.ne,c.tm⟩
theorem aj.low {m k:Nat}(h:lows m (P.cs d tm wv bg ol se ne))(c:m<=k):d<k/\tm<k/\wv.low k/\bg.low k/\ol.low k/\se.low k/\ne.low k:=by
 have h:=rS c _ h;unfold aj.cs at h;simp only[lows,V.low,qV,gG] at h;exact h
theorem cj.put (k:Cx K0 H0 Q0 K H)(c:cj K H j i d p P tm wv bg ol se ne){P':aj}{wv' bg':V}(G:qR K H j i wv' P'.waits)(t:qC K H j i bg' P'.aR P'.bg)(l:wv'.low H.length)(m:bg'.low H.length)(u:P'.tm=P.tm)(v:P'.ol=P.ol)(x:P'.se=P.se)(y:P'.ne=P.ne):
  Cx K H (fun r=>r= .peer j i) K (H.set p (bK (P'.cs d tm wv' bg' ol se ne)))/\cj K (H.set p (bK (P'.cs d tm wv' bg' ol se ne))) j i d p P' tm wv' bg' ol se ne:=by
 obtain⟨L,M,O,C,z,A,B⟩:=aj.low (k.bD _ _ c.gp).1 (bz _);have F:=(k.start (fun r=>r= .peer j i)).put (mm:=none) c.kp rfl (vs:=P'.cs d tm wv' bg' ol se ne) (by simp[aj.cs,lows,V.low,L,M,l,m,z,A,B]);have E:=F.off;refine⟨F,c.kp,c.kt,dr (k.lt c.kp) _,?_,G.off E J,t.off E J,?_,?_,?_,c.d1,c.d2,c.d3⟩
 .rw[u];exact(E.h _ _ c.kt J).trans c.gt
 .rw[v];exact c.pP.off E J J
 .rw[x];exact c.kP.off E J J
 .rw[y];exact c.pE.off E J J
theorem cj.set (f:Cx K0 H0 Q0 K H)(c:cj K H j i d p P tm wv bg ol se ne){P':aj}{wv':V}(s:qR K H j i wv' P'.waits)(e:wv'.low H.length)(g:P'.tm=P.tm)(h:P'.aR=P.aR)(k:P'.bg=P.bg)(l:P'.ol=P.ol)(m:P'.se=P.se)(o:P'.ne=P.ne):
  Cx K H (fun r=>r= .peer j i) K (H.set p (bK (P'.cs d tm wv' bg ol se ne)))/\cj K (H.set p (bK (P'.cs d tm wv' bg ol se ne))) j i d p P' tm wv' bg ol se ne:=
 c.put f s (by rw[h,k];exact c.sW) e (aj.low (f.bD _ _ c.gp).1 (bz _)).2.2.2.1 g l m o
theorem KQ (hC:Cx K0 H0 Q0 K H)(hD:cf K H j d D arr ps paths bk out aT)(W:cj K H j i d p P tm wv bg ol se ne)(Y:P.ok)(hd:D.ok n)(hn:n<=999999990)(hS:P.se≠none):
  ∃ v K' H',Dx prog 104 [.ptr p 0] K H (qP j i) v K' H'/\(v= .aZ []/\jU K' H' j d (mf D P).1 arr ps paths bk/\dn K' H' j i d p (mf D P).2):=by
 obtain⟨T,X⟩:=W.set hC (P':={P with waits:=[]}) (wv':= .bG) (.inl ⟨rfl,rfl⟩) trivial rfl rfl rfl rfl rfl rfl;have B:=W.gp;have f:=hD.off T.off J J J J;have g:=T.mono (Q2:=qP j i) fun r h=>by subst h;exact⟨rfl,rfl⟩
 unfold aj.cs at B T g X f;have b3:=hC.lt W.kp;refine ar (Q:=qP j i) (Post:=fun v K' H'=>v= .aZ []/\jU K' H' j d (mf D P).1 arr ps paths bk/\dn K' H' j i d p (mf D P).2) func104 ?_;refine d8 B ?_
 rcases W.pf with⟨rfl,hw⟩|⟨F,rfl,b0,G,L⟩
 .have e:mf D P=(D,{P with waits:=[]}):=by unfold mf;rw[hw];rfl
  rw[e];refine aK ?_
  refine ij 1 (aH ?_);exact Ex.of g trivial ⟨rfl,⟨_,_,f⟩,_,_,_,_,_,_,X⟩
 have b4:0<P.waits.length:=uS.2 b0;have b5:=Y.wl;have o:=(T.get G (b8 L) J).trans L;generalize C:P.waits=ws at*;have a6:mf D P=mj (D,{P with waits:=[]}) ws:=by unfold mf;rw[C]
 rw[a6];refine aK ?_
 refine cG (fun jj st=>∃ (m:Nat) (A:RK) (z:aU),m+jj=ws.length/\Cx K H (qP j i) A z/\jU A z j d (mj (D,{P with waits:=[]}) (ws.take m)).1 arr ps paths bk/\dn A z j i d p (mj (D,{P with waits:=[]}) (ws.take m)).2/\A F=some (.wt j i)/\ah z F=bK (ws.map .str)/\st=⟨[(0,.ptr p 0),(12,.slice F 0 ws.length 1),(13,.i64 ws.length),(14,.i64 m)],z⟩) ?_ ?_
 .exact dh ws.length ⟨[(0,.ptr p 0),(12,.slice F 0 ws.length 1),(13,.i64 ws.length),(14,.i64 (0:Nat))],_⟩ gJ rfl (fun _ _ h=>h) ⟨0,K,_,I,g,⟨_,_,f⟩,⟨_,_,_,_,_,_,X⟩,G,o,rfl⟩
 clear T X f g o;rintro jj st ⟨m,A,z,b6,c,⟨_,_,u⟩,⟨_,_,_,_,_,_,k⟩,M,x,rfl⟩-;by_cases hi:m<ws.length
 .have s:(m:Int)<ws.length:=I;have a7:=iq (i:=m) I;have hq:(ws.map V.str).getD m .bH= .str ws[m]:=by
   rw[bY,dU,bn hi];rfl
  have t:=SH (l:=ws.take m) Y.waits hd;have a8:=ZE (l:=ws.take m) (D:=D) (P:={P with waits:=[]}) hS;have E:(ws.take m).length=m:=by rw[cF];omega
  rw[E] at t;obtain⟨Si,b2⟩:=Option.ne_none_iff_exists'.1 a8;have hx:ws[m].length<=2000:=Y.ws _ (by rw[C];exact eM hi);refine WT s x hq ?_
  refine cQ (F4 c u k t.1 t.2 I b2 ws[m] hx) U rfl (by simp[lows,V.low,c.lt k.kp]) c.bD ?_;rintro _ K2 H2 y c0 ⟨rfl,O,R⟩;refine aH ?_;have e:mj (D,{P with waits:=[]}) (ws.take (m+1))=eW (mj (D,{P with waits:=[]}) (ws.take m)).1 (mj (D,{P with waits:=[]}) (ws.take m)).2 ws[m]:=by
   rw[List.take_add_one,bn hi];exact ag6 _ _ _
  rw[<-e] at O R;exact cH (jj-1) ⟨[(0,.ptr p 0),(12,.slice F 0 ws.length 1),(13,.i64 ws.length),(14,.i64 (m+1:Nat))],H2⟩ I (by simp[St.get,lookS,a7]) rfl (fun _ _ h=>h)
   ⟨m+1,K2,H2,I,c.call y Ar,O,R,y.stay _ _ M id,(y.get M (b8 x) id).trans x,rfl⟩
 .have s:¬ (m:Int)<ws.length:=I;have e:ws.take m=ws:=bq I;rw[e] at u k;refine aL s ?_;exact Ex.of c trivial ⟨rfl,⟨_,_,u⟩,_,_,_,_,_,_,k⟩
end
end
section
section
variable {K K0 K':RK}{H H0 H':aU}{Q0 Q:Rl->Prop}{j i d p tm q w a arr paths bk b N n:Nat}{P:aj}{D:au}{S S':aX}{f:bL}{ps:List Nat}{out aT wv bg ol se ne:V}
theorem aex (g:Cx K0 H0 Q0 K H)(r:f.ok)(aR:Z)(h:aR.length=32)(j i:Nat):
  ∃ v K' H',Dx prog 91 [.agg [.i64 f.su,.str f.own,.str (bI f.q),.str aR],.str f.once,.agg [.i64 f.sec,.i64 f.nano],.i64 f.ac,.u32 f.id] K H (fun _=>False) v K' H'/\(∃ c,v= .aZ [.str f.text,.ptr c 0,.i64 0]/\K' c=some (.bg j i)/\ah H' c=bK (f.cs aR)):=by
 have k:=Ts (id:=f.id) r.su r.ac r.time aR r.q r.once r.own h;have l:=f.st.low f.su;have o:=f.st.aW f.su;have m:=EV (H:=H) (v':= .aZ [.str f.text,.ptr H.length 0,.i64 0]) k (fun _=>rfl) bT (fun s=>rfl) (fun s e=>by simp[V.bd,aW,e];rfl);refine⟨_,_,_,⟨m,(g.start (fun _=>False)).new (.bg j i) (by rw[vj];exact⟨by rw[show(o0 f.su f.q f.once f.own f.sec f.nano f.ac).cs f.su=f.st.cs f.su from rfl,l];trivial,bT⟩),bT⟩,H.length,rfl,lS,ja⟩
noncomputable def fg (D:au) (P:aj):bL:={su:=if P.kn<D.ac then P.kn else D.ac,q:=P.q,once:=D.dR,own:=D.own,sec:=D.now,nano:=D.ct.tmod 1000000000,ac:=D.ac,id:=D.index+1#32}
noncomputable def iR (D:au) (P:aj):au×aj:=
 (({D with fresh:=D.fresh+1#64,index:=D.index+1#32,ct:=D.ct+1}:au).goes P.at_ (P.gU D.now (fg D P).text),
  {P with bg:=some (fg D P),bi:=D.index+1#32,bt:=P.gU D.now (fg D P).text,tm:=P.tm.ev 4 D.now})
theorem Cm (e:P.ok)(c:D.ok n):(fg D P).ok:=by
 refine⟨?_,e.q,(D.sP c.af).2,c.own,?_,c.ac⟩
 .show(if P.kn<D.ac then P.kn else D.ac)=1\/(if P.kn<D.ac then P.kn else D.ac)=2;have g:=e.kn;have k:=c.ac;split <;>omega
 .have h:=c.ct.1;refine⟨c.now.1,c.now.2,Int.tmod_nonneg _ h,?_⟩;have :=Int.tmod_lt_of_pos D.ct (show(0:Int)<1000000000 by decide);show D.ct.tmod 1000000000<=999999999;omega
theorem bL.w9 (c:f.ok):f.text.length=115:=(JS (k:=1#8) (s:=BitVec.ofInt 8 f.su) (jS _) (fa _) (Bw c.su) (Co c.su)).1
theorem au.ok.up (c:D.ok n){m:Nat}(h:n<=m):D.ok m:=⟨c.own,c.aP,c.af,c.ac,c.cz,c.now,⟨c.ct.1,by have :=c.ct.2;omega⟩,j7 c.out h,j7 c.aT h⟩
theorem au.ok.goes (c:D.ok n)(e:aQ)(x:Z):(D.goes e x).ok (n+1):=by
 unfold au.goes;split
 .exact c.up (rI _)
 .have up:=c.up (rI n);exact⟨c.own,c.aP,c.af,c.ac,c.cz,c.now,⟨c.ct.1,up.ct.2⟩,by have :=c.out;simp;omega,up.aT⟩
theorem MV (c:P.ok)(g:D.ok n)(ht:P.tm.t<=5):(iR D P).2.ok/\(iR D P).1.ok (n+2):=by
 have k:=Cm c g;have h:=aj.Ef c (now:=D.now) (x:=(fg D P).text) (by rw[bL.w9 k];decide);rw[bL.w9 k] at h;have l:({D with fresh:=D.fresh+1#64,index:=D.index+1#32,ct:=D.ct+1}:au).ok (n+1):=⟨g.own,g.aP,g.af,g.ac,g.cz,g.now,⟨by have :=g.ct.1;show 0<=D.ct+1;omega,by have :=g.ct.2;show D.ct+1<=((n+1:Nat):Int);omega⟩,xt g.out,xt g.aT⟩;exact⟨⟨c.q,c.aP,c.aR,c.kn,c.bP,c.ck,c.un,c.wl,c.ws,fun f e=>by cases e;exact k,by show(P.gU D.now (fg D P).text).length<=100000;omega,c.ol,c.se,c.ne,bw.rH c.tm (.inr ht) g.now⟩,l.goes _ _⟩
theorem Xf (hC:Cx K0 H0 Q0 K H)(hD:cf K H j d D arr ps paths bk out aT)(hP:cj K H j i d p P tm wv bg ol se ne)(hp:P.ok)(hd:D.ok n)(hn:n<=999999990):
  ∃ v K' H',Dx prog 68 [.ptr p 0] K H (qP j i) v K' H'/\(v= .aZ []/\jU K' H' j d (iR D P).1 arr ps paths bk/\dn K' H' j i d p (iR D P).2):=by
 have hf:=Cm hp hd;have c1:=hd.now;have hg:=hD.g;have a6:=hP.gp;unfold au.cs at hg;unfold aj.cs at a6;have c2:=hC.lt hP.kp;have c3:=hC.lt hD.kd;have j3:p≠d:=fun e=>by have :=hP.kp;rw[e,hD.kd] at this;cases this
 unfold iR;generalize R:fg D P=F at*;have j4:(if P.kn<D.ac then P.kn else D.ac)=F.su:=by rw[<-R];rfl
 have a7:D.ct.tmod 1000000000=F.nano:=by rw[<-R];rfl
 have m4:F.text.length=115:=bL.w9 hf;refine ar (Q:=qP j i) (Post:=fun v K' H'=>v= .aZ []/\jU K' H' j d (({D with fresh:=D.fresh+1#64,index:=D.index+1#32,ct:=D.ct+1}:au).goes P.at_ (P.gU D.now F.text)) arr ps paths bk/\dn K' H' j i d p {P with bg:=some F,bi:=D.index+1#32,bt:=P.gU D.now F.text,tm:=P.tm.ev 4 D.now}) func68 ?_;refine qA a6 hg j4 ?_
 refine And.intro ?_ ?_
 .refine jg (jY H.length) [([],[]),([],[]),([],[]),([0],[]),([],[]),([],[]),([0],[]),([],[]),([],[]),([],[]),([0],[]),([0],[]),([],[]),([],[]),([],[]),([0],[]),([],[]),([],[]),([0],[]),([],[]),([],[]),([],[]),([0],[]),([],[]),([],[]),([],[]),([0],[]),([],[]),([],[1]),([0,1],[0,1])] U (by simp only[jA,jy,cv,rN,all_cons,xx,iN c2,iN c3,j6,pB,gG])
 have k3:=hC.start (fun _=>False);have G:=k3.boxed (zs:=[.i64 0,.str [],.str [],.str []]) (ys:=[.i64 F.su,.str D.own,.str P.aP,.str P.aR]) bT bT;have c4:=(pz (x:=bK [.i64 0,.str [],.str [],.str []]) (y:=bK [.i64 F.su,.str D.own,.str P.aP,.str P.aR]) c2).trans a6;have c6:=(pz (x:=bK [.i64 0,.str [],.str [],.str []]) (y:=bK [.i64 F.su,.str D.own,.str P.aP,.str P.aR]) c3).trans hg;have c7:=pM (H:=H) (x:=bK [.i64 0,.str [],.str [],.str []]) (y:=bK [.i64 F.su,.str D.own,.str P.aP,.str P.aR]);have m5:((H++[bK [.i64 0,.str [],.str [],.str []]]).set H.length (bK [.i64 F.su,.str D.own,.str P.aP,.str P.aR])).length=H.length+1:=J;generalize ((H++[bK [.i64 0,.str [],.str [],.str []]]).set H.length (bK [.i64 F.su,.str D.own,.str P.aP,.str P.aR]))=M at*;have W:=G.lt hP.kp;have X:=G.lt hD.kd;have c9:=b8 c7;refine qA c4 c6 a7 ?_
 refine And.intro ?_ ?_
 .refine jg (jY M.length) [([],[]),([],[]),([],[]),([0],[]),([],[]),([],[]),([0],[]),([],[]),([],[]),([],[]),([0],[]),([],[]),([],[]),([0],[]),([],[]),([],[]),([],[1]),([0,1],[0,1])] U (by simp only[jA,jy,cv,rN,all_cons,xx,iN W,iN X,j6,pB,gG])
 have m:=G.boxed (zs:=[.i64 0,.i64 0]) (ys:=[.i64 D.now,.i64 F.nano]) bT bT;have k4:=(pz (x:=bK [.i64 0,.i64 0]) (y:=bK [.i64 D.now,.i64 F.nano]) W).trans c4;have m6:=(pz (x:=bK [.i64 0,.i64 0]) (y:=bK [.i64 D.now,.i64 F.nano]) X).trans c6;have e0:=(pz (x:=bK [.i64 0,.i64 0]) (y:=bK [.i64 D.now,.i64 F.nano]) c9).trans c7;have e5:=pM (H:=M) (x:=bK [.i64 0,.i64 0]) (y:=bK [.i64 D.now,.i64 F.nano]);have m0:((M++[bK [.i64 0,.i64 0]]).set M.length (bK [.i64 D.now,.i64 F.nano])).length=M.length+1:=J;generalize ((M++[bK [.i64 0,.i64 0]]).set M.length (bK [.i64 D.now,.i64 F.nano]))=M2 at*;have e6:=m.lt hP.kp;have m1:=m.lt hD.kd;have e7:=hD.eH m.off;have k5:=hP.eH m.off;refine d8 k4 ?_
 refine gh (ET m e7 hd.af) U rfl (by simp[lows,V.low,m.lt e7.kd]) m.bD ?_;rintro _ K3 H3 u m8 ⟨rfl,rfl,h7⟩;refine aH ?_;have a8:=k5.off u.off J J J J J J;have e8:=a8.gp;unfold aj.cs at e8;refine d8 e8 ?_
 refine gh (LZ u h7) U rfl (by simp[lows,V.low,u.lt h7.kd]) u.bD ?_;rintro _ K4 H4 C m9 ⟨rfl,rfl,b5⟩;refine aH ?_;refine And.intro ?_ ?_
 .have hx:=yP (Q:=fun r=>r= .dev j) a8.kp e6 J;have k6:=CU (K:=K4) (Q:=fun r=>r= .dev j) (Q2:=fun r=>r= .dev j) (N:=M2.length) (n:=M2.length) (k:=H3.length-M2.length) (bz _) (fun _ h=>h);have l0:=CU (K:=K4) (Q:=fun r=>r= .dev j) (Q2:=fun r=>r= .dev j) (N:=M2.length) (n:=H3.length) (k:=H4.length-H3.length) u.len (fun _ h=>h);refine jg (me K4 (fun r=>r= .dev j) M2.length) [([],[]),([],[]),([],[]),([0],[]),([0,1,2],[1,2]),([],[]),([],[]),([],[]),([0],[]),([0,1,2],[1,2]),([],[]),([],[])] U (by simp only[jA,jy,cv,all_cons,zz,j6,gG,hx,k6,l0])
 have l4:=(m.mono (Q2:=fun r=>r= .dev j) fun _ h=>h.elim).call (u.call C fun _ h=>h) fun _ h=>h
 have Y:=u.call C fun _ h=>h
 have e9:=a8.off C.off J J J J J J;have l5:=(Y.mQ (hC.fresh _ (bz _)) (b8 e0)).trans e0;have l6:=(Y.mQ (G.fresh _ (bz _)) (b8 e5)).trans e5;have h0:=e9.gp;have b0:=b5.g;have h1:=C.lt b5.kd;have nd:∀ c,c≠d->d≠c:=fun c h e=>h e.symm
 obtain⟨c5,O⟩:=b5.set C (D':={D with fresh:=D.fresh+1#64,index:=D.index+1#32,ct:=D.ct+1}) rfl rfl;have z:=l4.call c5 fun _ h=>h
 have L:=e9.off c5.off J J J J J J;unfold aj.cs at h0;unfold au.cs at b0 c5 O z L;dsimp only at b0 c5 O z L;have ew:bh (D.ct+1)=D.ct+1:=bC (by have :=hd.ct;omega) (by have :=hd.ct;omega);simp only[go_sem,seval,h0,b0,dr h1,eA (nd p j3),eA (nd H.length I),eA (nd M.length I),l5,l6,ew];refine aF ?_
 have m7:=L.gp;have m2:=O.g;generalize H4.set d (bK [.u32 D.here,.str D.own,.str D.aP,.str D.af,.i64 D.ac,.u64 (D.fresh+1#64),.str D.cz,.u32 (D.index+1#32),.i64 (D.ct+1),.i64 D.now,.bool D.busy,.slice arr 0 ps.length 1,.ptr paths 0,.ptr bk 0,out,aT])=H5 at*;have h3:=aex z hf P.aR hp.aR j i;have eo:F.own=D.own:=by rw[<-R];rfl
 have eq:bI F.q=P.aP:=by rw[<-R,hp.aP];rfl
 have e1:F.once=D.dR:=by rw[<-R];rfl
 have e2:F.sec=D.now:=by rw[<-R];rfl
 have e3:F.ac=D.ac:=by rw[<-R];rfl
 have e4:F.id=D.index+1#32:=by rw[<-R];rfl
 rw[eo,eq,e1,e2,e3,e4] at h3;refine gh (h3) U rfl bT z.bD ?_;rintro _ K6 H6 b6 n0 ⟨c,rfl,h8,l7⟩;have l:=z.call b6 fun _ h=>h.elim
 have b2:=O.eH b6.off;have s:=L.eH b6.off;refine i6 ?_
 refine cQ (Oo l b2 s hp F.text I) U rfl (by simp[lows,V.low,l.lt s.kp]) l.bD ?_;rintro _ K7 H7 n1 n3 ⟨rfl,rfl,rfl⟩;have h4:=s.gp;have h5:=l.lt s.kp;obtain⟨c8,c0⟩:=s.put l (P':={P with bg:=some F,bi:=D.index+1#32,bt:=P.gU D.now F.text}) (wv':=wv) (bg':= .ptr c 0) s.pf ⟨c,rfl,h8,l7⟩ (aj.low (l.bD _ _ s.gp).1 (bz _)).2.2.1 (l.lt h8) rfl rfl rfl rfl;have A:=(l.mono (Q2:=qP j i) fun r h=>by subst h;exact rfl).call c8 fun r h=>by subst h;exact⟨rfl,rfl⟩
 have b3:=b2.off c8.off J J J J;unfold aj.cs at h4 c8 c0 A b3;dsimp only at c8 c0 A b3;simp only[go_sem,seval,h4,dr h5,b7,nC];refine aF ?_
 refine gh (Fo A b3 P.at_ (P.gU D.now F.text) (by have :=hd.out;show D.out.length<=_;omega)) U rfl (by simp[lows,V.low,l.lt b2.kd]) A.bD ?_;rintro _ K9 H9 h9 n4 ⟨rfl,_,_,j1⟩;refine aK ?_
 have o:=A.call h9 Fe;have t:=c0.HD h9.off;have b4:=t.gp;have B:=j1.g;have eD:(({D with fresh:=D.fresh+1#64,index:=D.index+1#32,ct:=D.ct+1}:au).goes P.at_ (P.gU D.now F.text)).now=D.now:=by unfold au.goes;split <;>rfl
 unfold aj.cs at b4;unfold au.cs at B;rw[eD] at B;dsimp only at b4;refine i7 b4 B ?_
 refine gh (sI o t.kt t.gt hp.tm 4 D.now ag c1) U rfl (by simp[lows,V.low,o.lt t.kt]) o.bD ?_;rintro _ n5 n6 E m3 ⟨rfl,rfl,j2⟩;simp only[go_sem];refine aF ?_
 have h6:=t.timer E.off t.kt (T:=P.tm.ev 4 D.now) (by rw[j2];exact dr (o.lt t.kt) _);exact Ex.of (o.call E fun r h=>by subst h;exact⟨rfl,rfl⟩) trivial ⟨rfl,⟨_,_,j1.off E.off J J J J⟩,_,_,_,_,_,_,h6⟩
noncomputable def cT (D:au) (P:aj):au×aj:=
 if P.tm.nx D.now=1 then(if P.at_=0#32 then(D,P) else iR D P)
 else if P.tm.nx D.now=2 then(if P.my D.now=true then eW D P [] else(D,{P with tm:=P.tm.ev 1 D.now}))
 else if P.tm.nx D.now=3 then(D,{P with waits:=[],bg:=none,tm:=P.tm.ev 6 D.now})
 else(D,P)
theorem NF (T:bw)(c:T.ok)(now:Int)(h:T.nx now=1):T.t<=5:=by
 have e:=c.t6;unfold bw.nx zE at h;split at h
 .omega
 .split at h
  .split at h
   .omega
   .omega
  .split at h<;>omega
theorem OU (c:P.ok)(e:D.ok n):(cT D P).2.ok/\(cT D P).1.ok (n+2):=by
 have up:=e.up (show n<=n+2 by omega);unfold cT;split
 .rename_i g;split
  .exact⟨c,up⟩
  .exact MV c e (NF _ c.tm _ g)
 .split
  .split
   .have :=Cy c e [];exact⟨this.1,this.2.up I⟩
   .exact⟨⟨c.q,c.aP,c.aR,c.kn,c.bP,c.ck,c.un,c.wl,c.ws,c.bg,c.bt,c.ol,c.se,c.ne,bw.rH c.tm (.inl ag) e.now⟩,up⟩
  .split
   .exact⟨⟨c.q,c.aP,c.aR,c.kn,c.bP,c.ck,c.un,lI _,(fun _ h=>nomatch h),(fun _ h=>nomatch h),c.bt,c.ol,c.se,c.ne,bw.rH c.tm (.inl ag) e.now⟩,up⟩
   .exact⟨c,up⟩
theorem BS (k:Cx K0 H0 Q0 K H)(t:cf K H j d D arr ps paths bk out aT)(c:cj K H j i d p P tm wv bg ol se ne)(A:P.ok)(M:D.ok n)(hn:n<=999999990):
  ∃ v K' H',Dx prog 48 [.ptr p 0] K H (qP j i) v K' H'/\(v= .aZ []/\jU K' H' j d (cT D P).1 arr ps paths bk/\dn K' H' j i d p (cT D P).2):=by
 have u:=M.now;have E:=t.g;have s:=c.gp;unfold au.cs at E;unfold aj.cs at s;have O:p≠d:=fun e=>by have :=c.kp;rw[e,t.kd] at this;cases this
 have Y:=k.start (qP j i);unfold cT;refine ar (Q:=qP j i) (Post:=fun v K' H'=>v= .aZ []/\jU K' H' j d (cT D P).1 arr ps paths bk/\dn K' H' j i d p (cT D P).2) func48 ?_;refine i7 s E ?_
 refine gh (VD k c.gt A.tm D.now) U rfl (by simp[lows,V.low,k.lt c.kt]) k.bD ?_;rintro _ K1 H1 a6 a7 ⟨rfl,rfl,rfl⟩;refine aK ?_
 unfold cT;generalize P.tm.nx D.now=e at*;by_cases F:e=1
 .have e1:(e=1)=True:=gg F;refine Gh e1 s ?_
  by_cases ha:P.at_=0#32
  .refine g9 ha ?_;exact Ex.of Y trivial ⟨rfl,⟨_,_,t⟩,_,_,_,_,_,_,c⟩
  .refine g9 ha ?_;refine cQ (Xf k t c A M hn) U rfl (by simp[lows,V.low,k.lt c.kp]) k.bD ?_;rintro _ K2 H2 l X ⟨rfl,B⟩;simp only[go_sem];exact Ex.of l trivial ⟨rfl,B⟩
 by_cases B:e=2
 .have e2:(e=2)=True:=gg B;refine mq F e2 ?_;refine cQ (MH k t c A) U rfl (by simp[lows,V.low,k.lt c.kp]) k.bD ?_;rintro _ K2 H2 l X ⟨rfl,rfl,rfl⟩;generalize R:P.my D.now=r at*;cases r
  .refine Gh s E ?_
   refine gh (sI k c.kt c.gt A.tm 1 D.now ag u) U rfl (by simp[lows,V.low,k.lt c.kt]) k.bD ?_;rintro _ K3 H3 m C ⟨rfl,rfl,z⟩;simp only[go_sem];refine aF ?_
   have x:=c.timer m.off c.kt (T:=P.tm.ev 1 D.now) (by rw[z];exact dr (k.lt c.kt) _);exact Ex.of (m.mono fun r h=>by subst h;exact⟨rfl,rfl⟩) trivial ⟨rfl,⟨_,_,t.off m.off J J J J⟩,_,_,_,_,_,_,x⟩
  .refine aH ?_;obtain⟨S,hS⟩:∃ S,P.se=some S:=by
    unfold aj.my at R;split at R
    .cases R
    .exact⟨_,‹_›⟩
   refine cQ (F4 k t c A M I hS [] J) U rfl (by simp[lows,V.low,k.lt c.kp]) k.bD ?_;rintro _ K3 H3 m C ⟨rfl,G⟩;simp only[go_sem];exact Ex.of (m.mono Ar) trivial ⟨rfl,G⟩
 by_cases G:e=3
 .have e3:(e=3)=True:=gg G;have W:=k.lt c.kp;obtain⟨L,o⟩:=c.put k (P':={P with waits:=[],bg:=none}) (wv':= .bG) (bg':= .nilPtr) (.inl ⟨rfl,rfl⟩) rfl trivial trivial rfl rfl rfl rfl;have l:=L.mono (Q2:=qP j i) fun r h=>by subst h;exact⟨rfl,rfl⟩
  have y:=t.off L.off J J J J;unfold aj.cs at L o l y;dsimp only at L o l y;simp only[go_sem,seval,F,B,e3,cE,cr,s,dr W,b7,nC,eA O,E];refine aF ?_
  refine gh (sI l o.kt o.gt A.tm 6 D.now ag u) U rfl (by simp[lows,V.low,k.lt c.kt]) l.bD ?_;rintro _ K3 H3 m C ⟨rfl,rfl,z⟩;simp only[go_sem];refine aF ?_
  have x:=o.timer m.off o.kt (T:=P.tm.ev 6 D.now) (by rw[z];exact dr (l.lt o.kt) _);exact Ex.of (l.call m fun r h=>by subst h;exact⟨rfl,rfl⟩) trivial ⟨rfl,⟨_,_,y.off m.off J J J J⟩,_,_,_,_,_,_,x⟩
 refine Ft F B G ?_;exact Ex.of Y trivial ⟨rfl,⟨_,_,t⟩,_,_,_,_,_,_,c⟩
end
end
theorem WV:xM prog 139=true:=U
theorem aeR:bU prog 139=some 1:=U
theorem adN:cL prog 139=some false:=U
attribute [go_sem] WV aeR adN
theorem UE (k:aQ)(n:Int):bE prog 137 [.u32 k,.i64 n] (.bool (decide (5<=n))):=by
 refine ai func137 ?_;simp only[go_sem,seval,ntmps137,results137]
def full (n:Int):Bool:=decide (5<=n)
def aV.drop (m:aV):aV:=⟨m.es.filter fun e=>! full e.2.2,m.clock⟩
theorem Xn (m:aV)(r:m.ok)(c:m.plain):bp prog 136 [.map 0,.fn 137 [] []] [some ⟨false,[],some m⟩] (.aZ []) [some ⟨false,[],some m.drop⟩]:=by
 refine DB func136 rfl db ?_
 let M:List Nat->aV:=fun o=>⟨om full m.es o,m.clock⟩
 let Z98:List Nat->St:=fun o=>⟨[(0,.map 0),(1,.fn 137 [] []),(7,.ptr 1 0)],[some ⟨false,[],some (M o)⟩,none]⟩
 have d:M []=m:=by show(⟨om full m.es [],m.clock⟩:aV)=m;rw[aji]
 refine Vh (Q:=oA (fun q=>ah q.H 0=some ⟨false,[],some m.drop⟩/\1<=q.H.length) fun _ _=>False) (Ls U (S1:=⟨[(6,.map 0),(0,.map 0),(1,.fn 137 [] [])],[some ⟨false,[],some m⟩]⟩) (pre:=[_]) (bm:=0) (fun _=>True) Z98 M (uC m.es) rfl J (wF ?_) rfl (by rw[d];rfl) rfl rfl rfl ag underlying139 rfl rfl rfl ag rfl rfl rfl rfl ag trivial (fun o _=>⟨fun e p=>?_,?_,bz _⟩) (fun o _ e p=>c e (qc.1 p).1) (fun o _=>rfl) ?_ (fun o=>rfl) (fun o _ f=>wF ?_) (fun o e _ p i=>⟨trivial,?_,wF ?_⟩)) ?_
 .simp only[go_sem,seval]
 .exact r.below e ((qc.1 p).1)
 .exact FH (EB _ Dj) r.stamps
 .refine bJ.drop ?_ rfl (fun b B h=>?_)
  .simp[Z98,St.get,lookS,di]
  .simpa [Z98,d] using h
 .have s:M o=m.drop:=by
   show(⟨om full m.es o,m.clock⟩:aV)=⟨m.es.filter fun e=>! full e.2.2,m.clock⟩;rw[agc f]
  simp only[go_sem,seval,Z98,s]
 .exact OR ((qc.1 p).1) i
 .have j:e∈m.es:=(qc.1 p).1;have a:M (o++[e.1])=if full e.2.2=true then(M o).del e.2.1 else M o:=by
   show(⟨om full m.es (o++[e.1]),m.clock⟩:aV)=if full e.2.2=true then⟨rM e.2.1 (om full m.es o),m.clock⟩ else⟨om full m.es o,m.clock⟩
   rw[ai3 r j i];split <;>rfl
  obtain⟨w,k,v⟩:=e;simp only at a i;have l:(M o).plain:=fun e p=>c e (qc.1 p).1
  simp only[go_sem,seval,Z98];refine wF (aH ?_);refine ce (aH ?_);refine br (UE k v) (aH ?_);by_cases g:5<=v
  .have t:full v=true:=nX g;rw[aM t] at a;refine i9 g a l ?_;refine⟨rfl,bJ.drop ?_ rfl (fun _ _ h=>h)⟩;simp[St.get,lookS]
  .have t:¬ full v=true:=by unfold full;simp[g]
   rw[aq t] at a;refine d9 g a ?_;refine⟨rfl,bJ.drop ?_ rfl (fun _ _ h=>h)⟩;simp[St.get,lookS]
 .intro x q n;cases x
  case normal=>
   obtain⟨u,s⟩:=n;show Fin 1 (.aZ []) [some ⟨false,[],some m.drop⟩] (.aZ []) q;refine Fin.same (bz _) s trivial (fun b B h=>?_);cases b with
   |zero=>
    simp only[Gi] at h;injection h with h
    subst h;exact⟨u,trivial⟩
   |succ b=>simp[ah] at h
  all_goals exact n.elim
def kR (d:Int)(l:List (Nat×aQ×Int))(seen:List Nat):List (Nat×aQ×Int):=l.map fun e=>if seen.contains e.1=true then(e.1,e.2.1,e.2.2+d) else e
def aV.more (d:Int)(m:aV):aV:=⟨m.es.map fun e=>(e.1,e.2.1,e.2.2+d),m.clock⟩
theorem aa7 (d:Int)(l:List (Nat×aQ×Int)):kR d l []=l:=by
 unfold kR;simp
theorem WU (d:Int)(l:List (Nat×aQ×Int))(seen:List Nat):(kR d l seen).map (·.1)=l.map (·.1):=by
 unfold kR;rw[pQ];refine sJ fun x _=>?_
 simp only[Function.comp];split <;>rfl
theorem M4 (d:Int)(l:List (Nat×aQ×Int))(seen:List Nat):(kR d l seen).map (·.2.1)=l.map (·.2.1):=by
 unfold kR;rw[pQ];refine sJ fun x _=>?_
 simp only[Function.comp];split <;>rfl
theorem SK {d:Int}{l:List (Nat×aQ×Int)}{seen:List Nat}{e:Nat×aQ×Int}(h:e∈kR d l seen)(a:e.1∉seen):e∈l:=by
 unfold kR at h;obtain⟨x,b,c⟩:=eZ.1 h;split at c
 .rename_i f;rw[<-c] at a;exact absurd (by simpa using f) a
 .rw[<-c];exact b
theorem VM {d:Int}{m:aV}(g:m.ok){seen:List Nat}{e:Nat×aQ×Int}(i:e∈m.es)(f:e.1∉seen):kR d m.es (seen++[e.1])=pH e.2.1 (e.2.2+d) (kR d m.es seen):=by
 rw[HP _ _ _ (by rw[M4];exact g.keys)];unfold kR;rw[pQ];refine sJ fun x b=>?_
 simp only[Function.comp];by_cases a:x=e
 .subst a;simp[f]
 .have k:x.1≠e.1:=fun h=>a (y7 g.stamps b i h)
  have j:x.2.1≠e.2.1:=fun h=>a (y7 g.keys b i h)
  by_cases c:x.1∈seen
  .simp[j,c]
  .simp[k,j,c]
theorem UX {d:Int}{m:aV}{seen:List Nat}(h:∀ e∈kR d m.es seen,e.1∈seen):kR d m.es seen=(m.more d).es:=by
 unfold kR aV.more at*;refine sJ fun x b=>?_
 have :=h _ (eZ.2 ⟨x,b,rfl⟩);by_cases a:x.1∈seen
 .rw[aM (by simpa using a)]
 .rw[aq (by simpa using a)] at this;exact absurd this a
theorem aV.Sv {m:aV}(b:m.ok)(d:Int):(m.more d).ok:=
 ⟨by unfold aV.more;rw[pQ];exact b.stamps,fun e c=>by
  unfold aV.more at c;obtain⟨x,a,rfl⟩:=eZ.1 c;exact b.below x a,by unfold aV.more;rw[pQ];exact b.keys⟩
theorem aV.ab3 {m:aV}(a:m.ok):m.drop.ok:=
 ⟨FH (EB _ Dj) a.stamps,fun e b=>a.below e (qc.1 b).1,FH (EB _ Dj) a.keys⟩
def lL (b now:Int)(k:aQ)(m:aV):Int×Int×aV:=
 if now<b\/1099511627776<now then(1,b,m) else
  let a:=(m.more (min (now-b) 5)).drop
  match gk k a.es with
  |some n=>if n=0 then(15,now,a) else(0,now,a.set k (n-1))
  |none=>if(a.es.length:Int)=16 then(9,now,a) else(0,now,a.set k 4)
theorem aan (t0 now:Int)(k:aQ)(m:aV)(hm:m.ok)(q:∀ e∈m.es,0<=e.2.2/\e.2.2<=100)(h0:0<=t0)(h1:t0<=1099511627776):bp prog 96 [.ptr 0 0,.u32 k,.i64 now] [bK [.i64 t0,.map 1],some ⟨false,[],some m⟩] (.i64 (lL t0 now k m).1) [bK [.i64 (lL t0 now k m).2.1,.map 1],some ⟨false,[],some (lL t0 now k m).2.2⟩]:=by
 by_cases f:now<t0
 .have e:lL t0 now k m=(1,t0,m):=by unfold lL;rw[aM (.inl f)]
  rw[e];refine ak func96 ?_;simp only[go_sem,seval,ntmps96,results96,f];exact Fin.bd [0,1] J J ci ag J J
 by_cases l:1099511627776<now
 .have e:lL t0 now k m=(1,t0,m):=by unfold lL;rw[aM (.inr l)]
  rw[e];refine ak func96 ?_;simp only[go_sem,seval,ntmps96,results96,f,l];exact Fin.bd [0,1] J J ci ag J J
 generalize O:min (now-t0) 5=d;have S:0<=d/\d<=5:=I;have D:(if(5:Int)<now-t0 then 5 else now-t0)=d:=by
  rw[<-O];split <;>omega
 have hw:bh (now-t0)=now-t0:=bC I I;refine DB func96 rfl db ?_;refine wI (K:=fun st=>bJ 2 90 st ⟨[(0,.ptr 0 0),(1,.u32 k),(2,.i64 now)],[bK [.i64 t0,.map 1],some ⟨false,[],some m⟩]⟩) (w8 U (ce ?_)) (fun st a=>yK ?_ a)
 .refine aH ?_;refine bJ.drop ?_ rfl (fun _ _ h=>h);simp[St.get,lookS]
 refine wI (K:=fun st=>bJ 2 90 st ⟨[(0,.ptr 0 0),(1,.u32 k),(2,.i64 now)],[bK [.i64 t0,.map 1],some ⟨false,[],some m⟩]⟩) (w8 U (ce ?_)) (fun st a=>yK ?_ a)
 .refine d9 f l ?_;refine bJ.drop ?_ rfl (fun _ _ h=>h);simp[St.get,lookS]
 refine wI (K:=fun st=>bJ 2 90 st ⟨[(0,.ptr 0 0),(1,.u32 k),(2,.i64 now),(7,.i64 d)],[bK [.i64 t0,.map 1],some ⟨false,[],some m⟩]⟩) (w8 U (ce ?_)) (fun st a=>yK ?_ a)
 .refine d9 hw D ?_;refine bJ.drop ?_ rfl (fun _ _ h=>h);simp[St.get,lookS]
 refine wI (K:=fun st=>bJ 2 90 st ⟨[(0,.ptr 0 0),(1,.u32 k),(7,.i64 d)],[bK [.i64 now,.map 1],some ⟨false,[],some m⟩]⟩) (w8 U (ce ?_)) (fun st a=>yK ?_ a)
 .refine aH ?_;refine bJ.drop ?_ rfl (fun _ _ h=>h);simp[St.get,lookS]
 let M:List Nat->aV:=fun Y=>⟨kR d m.es Y,m.clock⟩
 let Z98:List Nat->St:=fun Y=>⟨[(0,.ptr 0 0),(1,.u32 k),(7,.i64 d),(36,.ptr 2 0)],[bK [.i64 now,.map 1],some ⟨false,[],some (M Y)⟩,none]⟩
 have T:m.plain:=fun e he=>by have :=q e he;omega
 have r:∀ Y,(M Y).plain:=fun Y e he=>by
  have he:e∈kR d m.es Y:=he;unfold kR at he;obtain⟨x,o,rfl⟩:=eZ.1 he;have :=q x o;split
  .show x.2.2+d<_;omega
  .omega
 have s:(m.more d).plain:=fun e he=>by
  have he:e∈m.es.map fun e=>(e.1,e.2.1,e.2.2+d):=he
  obtain⟨x,o,rfl⟩:=eZ.1 he;have :=q x o;show x.2.2+d<_;omega
 have t:M []=m:=by show(⟨kR d m.es [],m.clock⟩:aV)=m;rw[aa7]
 have u:∀ Y,((M Y).es.map (·.1))=m.es.map (·.1):=fun Y=>WU d m.es Y
 refine wI (K:=fun st=>bJ 2 90 st ⟨[(0,.ptr 0 0),(1,.u32 k)],[bK [.i64 now,.map 1],some ⟨false,[],some (m.more d)⟩,none]⟩) (Ls U (S1:=⟨[(35,.map 1),(34,.ptr 0 1),(33,.ptr 0 0),(32,.ptr 0 0),(0,.ptr 0 0),(1,.u32 k),(7,.i64 d)],[bK [.i64 now,.map 1],some ⟨false,[],some m⟩]⟩) (pre:=[_,_,_,_]) (bm:=1) (fun _=>True) Z98 M (uC m.es) rfl J (wF ?_) rfl (by rw[t];rfl) rfl rfl rfl ag underlying139 rfl rfl rfl ag rfl rfl rfl rfl ag trivial (fun Y _=>⟨fun e he=>?_,?_,bz _⟩) (fun Y _=>r Y) (fun Y _=>rfl) ?_ (fun Y=>rfl) (fun Y _ w=>wF ?_) (fun Y e _ he y=>⟨trivial,?_,wF ?_⟩)) (fun st a=>yK ?_ a)
 .simp only[go_sem,seval]
 .have :e.1∈(M Y).es.map (·.1):=eZ.2 ⟨e,he,rfl⟩;rw[u] at this;obtain⟨x,o,p⟩:=eZ.1 this;rw[<-p];exact hm.below x o
 .rw[u];exact hm.stamps
 .refine bJ.drop ?_ rfl (fun b B h=>?_)
  .simp[Z98,St.get,lookS,di]
  .simpa [Z98,t] using h
 .have h2:M Y=m.more d:=by
   show(⟨kR d m.es Y,m.clock⟩:aV)=⟨(m.more d).es,m.clock⟩;rw[UX w]
  simp only[go_sem,seval,Z98,h2];refine bJ.drop ?_ rfl (fun _ _ h=>h);simp[St.get,lookS]
 .exact OR (SK he y) y
 .have z:e∈m.es:=SK he y;have E:=q e z;obtain⟨st,F,v⟩:=e;have g:gk F (M Y).es=some v:=HF (by show((kR d m.es Y).map (·.2.1)).Nodup;rw[M4];exact hm.keys) he;have G:M (Y++[st])=(M Y).set F (v+d):=by
   unfold aV.set;rw[g];show(⟨kR d m.es (Y++[st]),m.clock⟩:aV)=⟨pH F (v+d) (kR d m.es Y),m.clock⟩;rw[VM hm z y]
  simp only at y E;have H:bh (v+d)=v+d:=bC I I;simp only[go_sem,seval,Z98];refine wF (aH ?_);refine ce ?_;have L:v+d<1180591620717411303424:=I;simp only[go_sem,seval,g,uN,H,G,r Y,L];refine⟨rfl,bJ.drop ?_ rfl (fun _ _ h=>h)⟩;simp[St.get,lookS]
 refine w8 U (ce (aH ?_));refine am [1] (Xn (m.more d) (aV.Sv hm d) s) (aH ?_);have c:(m.more d).drop.plain:=fun e he=>s e (qc.1 he).1
 generalize A:(m.more d).drop=i at c |-
 have ht:lL t0 now k m=match gk k i.es with
   |some n=>if n=0 then(15,now,i) else(0,now,i.set k (n-1))
   |none=>if(i.es.length:Int)=16 then(9,now,i) else(0,now,i.set k 4):=by
  unfold lL;rw[aq I];simp only[O,A]
 rw[ht];cases g:gk k i.es with
 |some n=>
  have V:-100<=n/\n<=200:=by
   obtain⟨b,W⟩:=BF g;have j:=lm W;rw[<-A] at j;have P:(b,k,n)∈(m.more d).es:=(qc.1 j).1;unfold aV.more at P;obtain⟨x,o,p⟩:=eZ.1 P;have :=q x o;have X:x.2.2+d=n:=dN (·.2.2) p;omega
  by_cases Q:n=0
  .subst Q;simp only[go_sem,seval,uN,c];exact Fin.bd [0,1] J J ci ag J J
  .have C:bh (n-1)=n-1:=bC I I;have N:n-1<1180591620717411303424:=I;simp only[go_sem,seval,uN,Q,C,c,N];exact Fin.bd [0,1] J J ci ag J J
 |none=>
  by_cases R:(i.es.length:Int)=16
  .refine d9 R c ?_;exact Fin.bd [0,1] J J ci ag J J
  .have C:bh (5-1)=4:=ci;refine d9 R c ?_;exact Fin.bd [0,1] J J ci ag J J
section
theorem ajK {m:aV}(q:m.ok)(k:aQ)(n:Int):(m.set k n).ok:=by
 cases h:gk k m.es with
 |some v=>
  have e:m.set k n=⟨m.es.map fun e=>if e.2.1=k then(e.1,k,n) else e,m.clock⟩:=by
   unfold aV.set;rw[aM (by rw[h];rfl),HP _ _ _ q.keys]
  rw[e];refine⟨?_,fun x c=>?_,?_⟩
  .have :(m.es.map fun e=>if e.2.1=k then(e.1,k,n) else e).map (·.1)=m.es.map (·.1):=by
    rw[pQ];refine sJ fun x _=>?_
    simp only[Function.comp];split <;>rfl
   show((m.es.map fun e=>if e.2.1=k then(e.1,k,n) else e).map (·.1)).Nodup;rw[this];exact q.stamps
  .obtain⟨y,f,rfl⟩:=eZ.1 c;have :=q.below y f;show(if y.2.1=k then(y.1,k,n) else y).1<m.clock;split <;>exact this
  .have :(m.es.map fun e=>if e.2.1=k then(e.1,k,n) else e).map (·.2.1)=m.es.map (·.2.1):=by
    rw[pQ];refine sJ fun x _=>?_
    simp only[Function.comp];split
    .rename_i h;exact h.symm
    .rfl
   show((m.es.map fun e=>if e.2.1=k then(e.1,k,n) else e).map (·.2.1)).Nodup;rw[this];exact q.keys
 |none=>
  have e:m.set k n=⟨m.es++[(m.clock,k,n)],m.clock+1⟩:=by
   unfold aV.set;rw[h];rfl
  have g:k∉m.es.map (·.2.1):=fun p=>by
   obtain⟨x,c,i⟩:=eZ.1 p;have l:(x.1,k,x.2.2)∈m.es:=by rw[<-i];exact c
   rw[HF q.keys l] at h;cases h
  rw[e];refine⟨?_,fun x c=>?_,?_⟩
  .show((m.es++[(m.clock,k,n)]).map (·.1)).Nodup;rw[lw];refine IA.2 ⟨q.stamps,J,fun a o b d=>?_⟩;obtain⟨y,f,rfl⟩:=eZ.1 o;have :=q.below y f;simp at d;omega
  .show x.1<m.clock+1;rcases gZ.1 c with h1|h1
   .have :=q.below x h1;omega
   .simp at h1;subst h1;simp
  .show((m.es++[(m.clock,k,n)]).map (·.2.1)).Nodup;rw[lw];refine IA.2 ⟨q.keys,J,fun a o b d=>?_⟩;simp at d;subst d;exact fun e=>g (e▸o)
theorem Q1 {k:aQ}{n:Int}:∀ {l:List (Nat×aQ×Int)} {x:Nat×aQ×Int},x∈pH k n l->x.2.2=n\/x∈l
 |[],_,h=>by cases h
 |e::l,x,h=>by
  unfold pH at h;split at h
  .rcases gz.1 h with h|h
   .exact .inl (by rw[h])
   .exact .inr (by simp[h])
  .rcases gz.1 h with h|h
   .exact .inr (by simp[h])
   .rcases Q1 h with h|h
    .exact .inl h
    .exact .inr (by simp[h])
theorem ae0 {m:aV}{k:aQ}{n:Int}{x:Nat×aQ×Int}(h:x∈(m.set k n).es):x.2.2=n\/x∈m.es:=by
 unfold aV.set at h;split at h
 .exact Q1 h
 .rcases gZ.1 h with h|h
  .exact .inr h
  .simp at h;exact .inl (by rw[h])
theorem QF {k:aQ}{n:Int}:∀ {l:List (Nat×aQ×Int)},gk k l=some n->∃ e∈l,e.2.2=n
 |[],h=>by cases h
 |e::l,h=>by
  unfold gk at h;split at h
  .cases h;exact⟨e,J,rfl⟩
  .obtain⟨x,a,b⟩:=QF h;exact⟨x,by simp[a],b⟩
theorem TC {o now:Int}{k:aQ}{m:aV}(r:Eu m)(h0:0<=o)(h1:o<=1099511627776):Eu (lL o now k m).2.2/\0<=(lL o now k m).2.1/\(lL o now k m).2.1<=1099511627776:=by
 unfold lL;by_cases d:now<o\/1099511627776<now
 .rw[aM d];exact⟨r,h0,h1⟩
 rw[aq d];have b:((m.more (min (now-o) 5)).drop).ok:=aV.ab3 (aV.Sv r.1 _);have a:∀ e∈((m.more (min (now-o) 5)).drop).es,0<=e.2.2/\e.2.2<=100:=fun e q=>by
  have c:e∈(m.more (min (now-o) 5)).es.filter fun e=>! full e.2.2:=q
  obtain⟨s,f⟩:=qc.1 c;obtain⟨y,g,rfl⟩:=eZ.1 s;have :=r.2 y g;simp[full] at f;show 0<=y.2.2+min (now-o) 5/\y.2.2+min (now-o) 5<=100;omega
 generalize (m.more (min (now-o) 5)).drop=i at*;have p:∀ n:Int,0<=n->n<=100->Eu (i.set k n):=fun n t u=>⟨ajK b k n,fun e q=>by
  rcases ae0 q with h|h
  .omega
  .exact a e h⟩
 simp only;split
 .rename_i n l;obtain⟨e,q,rfl⟩:=QF l;have :=a e q;split
  .exact⟨⟨b,a⟩,by show 0<=now;omega,by show now<=_;omega⟩
  .exact⟨p _ I I,by show 0<=now;omega,by show now<=_;omega⟩
 .split
  .exact⟨⟨b,a⟩,by show 0<=now;omega,by show now<=_;omega⟩
  .exact⟨p _ I I,by show 0<=now;omega,by show now<=_;omega⟩
structure eN where
 t:Int
 m:aV
structure eN.ok (B:eN):Prop where
 m:Eu B.m
 t:0<=B.t/\B.t<=1099511627776
def mG (K:RK)(H:aU)(j bk:Nat)(B:eN):Prop:=∃ a,K bk=some (.bk j)/\K a=some (.bm j)/\ah H bk=bK [.i64 B.t,.map a]/\ah H a=some ⟨false,[],some B.m⟩
def jN (B:eN)(fr:aQ)(now:Int):Int×eN:=((lL B.t now fr B.m).1,⟨(lL B.t now fr B.m).2.1,(lL B.t now fr B.m).2.2⟩)
theorem OB {B:eN}(a:B.ok)(fr:aQ)(now:Int):(jN B fr now).2.ok:=by
 obtain⟨c,d,b⟩:=TC (now:=now) (k:=fr) a.m a.t.1 a.t.2;exact⟨c,d,b⟩
section
variable {K K0 K':RK}{H H0 H':aU}{Q0 Q:Rl->Prop}{j bk:Nat}{B:eN}
theorem mG.off (h:mG K H j bk B)(b:cD Q K H K' H')(h1:¬ Q (.bk j))(h2:¬ Q (.bm j)):mG K' H' j bk B:=by
 obtain⟨a,c,d,e,f⟩:=h;exact⟨a,b.k _ _ c h1,b.k _ _ d h2,(b.h _ _ c h1).trans e,(b.h _ _ d h2).trans f⟩
theorem aez (f:Cx K0 H0 Q0 K H)(q:mG K H j bk B)(d:B.ok)(fr:aQ)(now:Int):
  ∃ v K' H',Dx prog 96 [.ptr bk 0,.u32 fr,.i64 now] K H (fun r=>r= .bk j\/r= .bm j) v K' H'/\(v= .i64 (jN B fr now).1/\K'=K/\mG K' H' j bk (jN B fr now).2):=by
 obtain⟨c,w,u,x,g⟩:=q;have a:bk≠c:=fun e=>by subst e;rw[w] at u;cases u
 have h:=f.lt w;have b:=f.lt u;unfold jN;have o:=wK (H:=H) (aan B.t now fr B.m d.m.1 d.m.2 d.t.1 d.t.2) [bk,c] rfl bT (by simp[a]) (fun y p=>by simp at p;rcases p with rfl|rfl<;>assumption) (fun i X e=>by
  match i with
  |0=>have k:bK [.i64 B.t,.map 1]=some X:=e;cases k;exact⟨x,bT⟩
  |1=>have k:some (⟨false,[],some B.m⟩:aa)=some X:=e;cases k;exact⟨g,trivial⟩
  |i+2=>simp[ah] at e) (fun i X e hi=>by
  match i with
  |0=>rcases hi with hi|hi<;>simp[ah] at hi
  |1=>rcases hi with hi|hi<;>simp[ah] at hi
  |i+2=>simp[ah] at e) (bz _)
 generalize lL B.t now fr B.m=E at*;have s:cS [bk,c] H [bK [.i64 E.2.1,.map 1],some ⟨false,[],some E.2.2⟩]=(H.set c (some ⟨false,[],some E.2.2⟩)).set bk (bK [.i64 E.2.1,.map c]):=by
  simp[cS,gn,iQ,fX,ik,aa.bd,aW,V.bd,bx,cu]
 rw[s] at o;have l:=(f.start (fun r=>r= .bk j\/r= .bm j)).put (mm:=some E.2.2) (vs:=[]) u (.inr rfl) trivial;have n:=l.put (mm:=none) (vs:=[.i64 E.2.1,.map c]) w (.inl rfl) (by simp[lows,V.low,b]);exact⟨.i64 E.1,K,_,⟨o,n,trivial⟩,rfl,rfl,c,w,u,dr (by rw[b7];exact h) _,(eA a _).trans (dr b _)⟩
end
end
section
def kH (K:RK)(H:aU)(j pb:Nat)(F:aQ->Int×Bool):Prop:=∃ (T:aU) (f:List Nat),gH f T H/\(∀ b∈f,K b=some (.path j))/\bx f 0=pb/\Dv T/\(∀ i,i<T.length->∃ B,ah T i=some B)/\∀ a,bp prog 43 [.ptr 0 0,.u32 a] T (.aZ [.i64 (F a).1,.bool (F a).2]) T
structure cR where
 d:Nat
 arr:Nat
 ps:List Nat
 paths:Nat
 bk:Nat
 F:aQ->Int×Bool
structure bf where
 D:au
 Ps:List aj
 B:eN
structure bB (K:RK) (H:aU) (j:Nat) (c:cR) (N:bf):Prop where
 dev:jU K H j c.d N.D c.arr c.ps c.paths c.bk
 len:c.ps.length=N.Ps.length
 peer:∀ i (h1:i<c.ps.length) (h2:i<N.Ps.length),dn K H j i c.d c.ps[i] N.Ps[i]
 mX:mG K H j c.bk N.B
 oG:kH K H j c.paths c.F
structure bf.ok (N:bf) (n:Nat):Prop where
 D:N.D.ok n
 Ps:∀ P∈N.Ps,P.ok
 B:N.B.ok
 num:∀ i (h:i<N.Ps.length),N.Ps[i].num=i
section
variable {K K0 K':RK}{H H0 H':aU}{Q0 Q:Rl->Prop}{j i d p arr paths bk n m:Nat}{P P':aj}{D D':au}{B:eN}{ps:List Nat}{Ps:List aj}{c:cR}{N:bf}{F:aQ->Int×Bool}
theorem dn.off (h:dn K H j i d p P)(k:cD Q K H K' H')(h1:¬ Q (.peer j i))(h2:¬ Q (.tm j i))(b:¬ Q (.wt j i))(e:¬ Q (.bg j i))(f:¬ Q (.eC j i))(g:∀ a,¬ Q (.pair j i a)/\¬ Q (.iT j i a)):dn K' H' j i d p P:=by
 obtain⟨_,_,_,_,_,_,h⟩:=h;exact⟨_,_,_,_,_,_,h.off k h1 h2 b e f g⟩
theorem dn.VH {b:Nat}(h:dn K H j i d p P)(e:cD (qP j b) K H K' H')(a:i≠b):dn K' H' j i d p P:=
 h.off e (fun h=>a h.2) (fun h=>a h.2) (fun h=>a h.2) (fun h=>a h.2) (fun h=>a h.2) fun _=>⟨fun h=>a h.2,fun h=>a h.2⟩
theorem kH.off (h:kH K H j p F)(q:cD Q K H K' H')(f:H.length<=H'.length)(h1:¬ Q (.path j)):kH K' H' j p F:=by
 obtain⟨T,s,r,a,g,l⟩:=h;exact⟨T,s,r.stay f fun i B e=>q.h _ _ (a _ (r.mem (b8 e))) h1,fun b o=>q.k _ _ (a b o) h1,g,l⟩
theorem bB.one (h:bB K H j c N)(g:Cx K H (qP j i) K' H')(l:jU K' H' j c.d D' c.arr c.ps c.paths c.bk)(hi:i<c.ps.length)(o:dn K' H' j i c.d c.ps[i] P'):bB K' H' j c {N with D:=D',Ps:=N.Ps.set i P'}:=by
 refine⟨l,by rw[b7];exact h.len,fun a q r=>?_,h.mX.off g.off id id,h.oG.off g.off g.len id⟩;have b:a<N.Ps.length:=by rw[<-h.len];exact q
 show dn K' H' j a c.d c.ps[a] ((N.Ps.set i P')[a]'(by rw[b7];exact b));by_cases e:a=i
 .subst e;rw[uO];exact o
 .rw[vS (fun h=>e h.symm)];exact(h.peer a q b).VH g.off e
theorem bB.BU (h:bB K H j c N)(b:Cx K H (qO j) K' H')(f:jU K' H' j c.d D' c.arr c.ps c.paths c.bk):bB K' H' j c {N with D:=D'}:=
 ⟨f,h.len,fun i g k=>(h.peer i g k).off b.off id id id id id fun _=>⟨id,id⟩,h.mX.off b.off id id,h.oG.off b.off b.len id⟩
theorem FQ:∀ r,r=Rl.dev j->qO j r:=fun r h=>by subst h;exact rfl
noncomputable def dj (D:au):List aj->au×List aj
 |[]=>(D,[])
 |P::l=>((dj (cT D P).1 l).1,(cT D P).2::(dj (cT D P).1 l).2)
theorem Tk:∀ (l:List aj) (D:au) (P:aj),dj D (l++[P])=((cT (dj D l).1 P).1,(dj D l).2++[(cT (dj D l).1 P).2])
 |[],_,_=>rfl
 |Q::l,D,P=>by
  have ih:=Tk l (cT D Q).1 P;simp only[kG,dj,ih]
theorem CK:∀ (l:List aj) (D:au),(dj D l).2.length=l.length
 |[],_=>rfl
 |Q::l,D=>dN (· +1) (CK l _)
theorem S4:∀ (l:List aj) (D:au) (n:Nat),D.ok n->(∀ P∈l,P.ok)->(dj D l).1.ok (n+2*l.length)/\∀ P∈(dj D l).2,P.ok
 |[],D,n,a,_=>⟨a,fun _ h=>nomatch h⟩
 |Q::l,D,n,a,b=>by
  have e:=OU (b Q J) a;have f:=S4 l (cT D Q).1 (n+2) e.2 fun P h=>b P (by simp[h])
  refine⟨by have :=f.1;rwa [show n+2+2*l.length=n+2*(Q::l).length by rw[dM];omega] at this,fun P h=>?_⟩;rcases gz.1 h with rfl|h
  .exact e.1
  .exact f.2 P h
noncomputable def dd (N:bf) (k:Int):Int×bf:=if k<0\/1099511627776-N.D.now<k then(1,N) else(0,{N with D:=(dj {N.D with now:=N.D.now+k} N.Ps).1,Ps:=(dj {N.D with now:=N.D.now+k} N.Ps).2})
theorem af7 (R:Cx K0 H0 Q0 K H)(E:bB K H j c N)(l:N.ok n)(hn:n<=900000000)(b6:N.Ps.length<=8)(h0:0<N.Ps.length)(k:Int)(hk:-9223372036854775808<=k)(c0:k<9223372036854775808):
  ∃ v K' H',Dx prog 30 [.ptr c.d 0,.i64 k] K H (qD j) v K' H'/\(v= .i64 (dd N k).1/\bB K' H' j c (dd N k).2):=by
 obtain⟨out,aT,T⟩:=E.dev;have b2:=l.D.now;have L:=T.g;have c3:=T.ga;unfold au.cs at L;have X:=R.lt T.kd;have b3:=E.len;have Y:bh (1099511627776-N.D.now)=1099511627776-N.D.now:=bC I I;unfold dd;by_cases S:k<0
 .rw[aM (.inl S)];refine ar (Q:=qD j) (Post:=fun v K' H'=>v= .i64 1/\bB K' H' j c N) func30 ?_;refine d9 L Y ?_;refine pL S ?_
  exact Ex.of (R.start _) trivial ⟨rfl,E⟩
 by_cases h2:1099511627776-N.D.now<k
 .rw[aM (.inr h2)];refine ar (Q:=qD j) (Post:=fun v K' H'=>v= .i64 1/\bB K' H' j c N) func30 ?_;refine d9 L Y ?_;refine Gh S h2 ?_
  exact Ex.of (R.start _) trivial ⟨rfl,E⟩
 rw[aq I];have w2:bh (N.D.now+k)=N.D.now+k:=bC I I;obtain⟨O,c2⟩:=T.set R (D':={N.D with now:=N.D.now+k}) rfl rfl;have s:=E.BU (O.mono FQ) ⟨_,_,c2⟩;have t:=O.mono (Q2:=qD j) fun r h=>by subst h;exact rfl
 have b:=c2.ga;unfold au.cs at O s t b;dsimp only at O s t b;clear c2;have a6:({N.D with now:=N.D.now+k}:au).ok n:=⟨l.D.own,l.D.aP,l.D.af,l.D.ac,l.D.cz,⟨by show 0<=N.D.now+k;omega,by show N.D.now+k<=_;omega⟩,l.D.ct,l.D.out,l.D.aT⟩;generalize c4:({N.D with now:=N.D.now+k}:au)=a at*;refine ar (Q:=qD j) (Post:=fun v K' H'=>v= .i64 0/\bB K' H' j c {N with D:=(dj a N.Ps).1,Ps:=(dj a N.Ps).2}) func30 ?_;refine d9 L Y ?_;simp only[go_sem,seval,S,h2,cr,L,w2,dr X];refine aF ?_
 refine cG (fun jj st=>∃ (m:Nat) (W:RK) (G:aU),m+jj=c.ps.length/\Cx K H (qD j) W G/\bB W G j c {N with D:=(dj a (N.Ps.take m)).1,Ps:=(dj a (N.Ps.take m)).2++N.Ps.drop m}/\ah G c.arr=bK (c.ps.map (fun p=> .ptr p 0))/\st=⟨[(29,.slice c.arr 0 c.ps.length 1),(30,.i64 c.ps.length),(31,.i64 m)],G⟩) ?_ ?_
 .exact dh c.ps.length ⟨[(29,.slice c.arr 0 c.ps.length 1),(30,.i64 c.ps.length),(31,.i64 (0:Nat))],_⟩ gJ rfl (fun _ _ h=>h) ⟨0,K,_,I,t,s,b,rfl⟩
 clear O t s b;rintro jj st ⟨m,W,G,c5,o,q,z,rfl⟩-;by_cases hi:m<c.ps.length
 .have y:(m:Int)<c.ps.length:=I;have a7:=iq (i:=m) I;have u:m<N.Ps.length:=I;have hq:(c.ps.map (fun p=>V.ptr p 0)).getD m .bH= .ptr c.ps[m] 0:=by
   rw[bY,dU,bn hi];rfl
  have w:(dj a (N.Ps.take m)).2.length=m:=by rw[CK,cF];omega
  have M:=S4 (N.Ps.take m) a n a6 fun P h=>l.Ps P (F3 h)
  rw[cF,lH (Nat.le_of_lt u)] at M;obtain⟨b4,b5,C⟩:=q.dev;have eP:((dj a (N.Ps.take m)).2++N.Ps.drop m)[m]'(by rw[bA,w,dO];omega)=N.Ps[m]:=by
   rw[AY I];simp[w]
  have f:=q.peer m hi (by show m<((dj a (N.Ps.take m)).2++N.Ps.drop m).length;rw[bA,w,dO];omega);dsimp only at f C;rw[eP] at f;obtain⟨_,_,_,_,_,_,f⟩:=f;refine WT y z hq ?_
  refine cQ (BS o C f (l.Ps _ (eM u)) M.1 I) U rfl (by simp[lows,V.low,o.lt f.kp]) o.bD ?_;rintro _ K2 H2 A c6 ⟨rfl,a8,b0⟩;refine aH ?_;have x:=q.one A a8 hi b0;have e:dj a (N.Ps.take (m+1))=((cT (dj a (N.Ps.take m)).1 N.Ps[m]).1,(dj a (N.Ps.take m)).2++[(cT (dj a (N.Ps.take m)).1 N.Ps[m]).2]):=by
   rw[List.take_add_one,bn u];exact Tk _ _ _
  have e3:((dj a (N.Ps.take m)).2++N.Ps.drop m).set m (cT (dj a (N.Ps.take m)).1 N.Ps[m]).2=((dj a (N.Ps.take m)).2++[(cT (dj a (N.Ps.take m)).1 N.Ps[m]).2])++N.Ps.drop (m+1):=by
   rw[uD _ _ I,w,k8,wA u,lF,hZ];rfl
  dsimp only at x;rw[e3] at x;have e4:=dN Prod.fst e;have e5:=dN Prod.snd e;dsimp only at e4 e5;rw[<-e4,<-e5] at x;exact cH (jj-1) ⟨[(29,.slice c.arr 0 c.ps.length 1),(30,.i64 c.ps.length),(31,.i64 (m+1:Nat))],H2⟩ I (by simp[St.get,lookS,a7]) rfl (fun _ _ h=>h)
   ⟨m+1,K2,H2,I,o.call A xv,x,(A.get C.ka (b8 z) id).trans z,rfl⟩
 .have y:¬ (m:Int)<c.ps.length:=I;have e:N.Ps.take m=N.Ps:=bq I;have e2:N.Ps.drop m=[]:=FE I;rw[e,e2,jn] at q;refine aL y ?_;exact Ex.of o trivial ⟨rfl,q⟩
end
end
section
theorem afM {X Y:aU}(a:X.length=Y.length)(h:∀ b,b<X.length->ah X b=ah Y b):X=Y:=by
 refine C1 a fun i e f=>?_
 have :=h i e;unfold ah at this;rw[bn e,bn f] at this;exact this
theorem Y9 {sg:List Nat}{T H:aU}(e:gH sg T H)(a:∀ i,i<T.length->∃ B,ah T i=some B):cS sg H T=H:=by
 have g:=e.len;have h:cu sg H.length T=sg:=by unfold cu;rw[g,k8];simp
 refine afM (by rw[wX];omega) fun b k=>?_
 rw[wX] at k;by_cases o:b∈sg
 .obtain⟨i,l,rfl⟩:∃ i,i<T.length/\bx sg i=b:=by
   obtain⟨i,l,rfl⟩:=lr o;exact⟨i,I,by unfold bx;rw[bY,bn l];rfl⟩
  obtain⟨B,f⟩:=a i l;have :=Da (sg:=sg) (H:=H) (h':=T) e.nd e.lt l;rw[h,f] at this;rw[this,(e.dc i B f).1];rfl
 .exact Fw I o
section
variable {K K0 K':RK}{H H0 H':aU}{Q0 Q:Rl->Prop}{j i d p pb n m:Nat}{P P':aj}{D D':au}{c:cR}{N:bf}{F:aQ->Int×Bool}
theorem SN (l:Cx K0 H0 Q0 K H)(o:kH K H j pb F)(a:aQ):
  ∃ v K' H',Dx prog 43 [.ptr pb 0,.u32 a] K H (fun _=>False) v K' H'/\(v= .aZ [.i64 (F a).1,.bool (F a).2]/\K'=K/\H'=H):=by
 obtain⟨T,s,f,r,rfl,g,h,q⟩:=o;have k:=wK (H:=H) (q a) s f.len ⟨g.pos,trivial,trivial⟩ f.nd f.lt f.dc (fun b B e _=>g.x7 b B e) (bz _);rw[Y9 f h] at k;exact⟨_,_,_,⟨k,l.start _,bT⟩,rfl,rfl,rfl⟩
theorem Bq (b:Cx K0 H0 Q0 K H)(e:kH K H j pb F):pb<H.length:=by
 obtain⟨T,h,f,g,rfl,a,-,-⟩:=e;exact b.lt (g _ (f.mem a.pos))
def rY (ps:List Nat):Option Nat->V
 |none=> .nilPtr
 |some i=> .ptr (ps.getD i 0) 0
theorem uh {ps:List Nat}{i:Nat}(h:i<ps.length):rY ps (some i)= .ptr ps[i] 0:=by
 show V.ptr (ps.getD i 0) 0=_;rw[bY,bn h];rfl
theorem Ko {α:Type}{l:List α}{p:α->Bool}{i:Nat}(hi:i<l.length)(b:p l[i]=true)(e:∀ k (h:k<i),p (l[k]'(I))=false):l.findIdx? p=some i:=
 ub.2 ⟨hi,b,fun k f=>by rw[e k f];simp⟩
theorem J6 {α:Type}{l:List α}{p:α->Bool}(a:∀ k (h:k<l.length),p l[k]=false):l.findIdx? p=none:=by
 rw[List.findIdx?_eq_none_iff];intro x b;obtain⟨k,e,rfl⟩:=lr b;exact a k e
theorem MK (r:Cx K0 H0 Q0 K H)(s:bB K H j c N)(M:N.Ps.length<=8)(x:Z):
  ∃ v K' H',Dx prog 39 [.ptr c.d 0,.str x] K H (fun _=>False) v K' H'/\(v=rY c.ps (N.Ps.findIdx? fun P=>decide (P.aP=x))/\K'=K/\H'=H):=by
 obtain⟨S,aT,G⟩:=s.dev;have B:=G.g;have t:=G.ga;unfold au.cs at B;have C:=s.len;refine ar (Q:=fun _=>False) (Post:=fun v K' H'=>v=rY c.ps (N.Ps.findIdx? fun P=>decide (P.aP=x))/\K'=K/\H'=H) func39 ?_;refine aL B ?_;refine aE ?_
 refine cG (fun y E=>∃ m:Nat,m+y=c.ps.length/\(∀ k (h:k<m) (A:k<N.Ps.length),¬ N.Ps[k].aP=x)/\E=⟨[(0,.ptr c.d 0),(1,.str x),(10,.slice c.arr 0 c.ps.length 1),(11,.i64 c.ps.length),(12,.i64 m)],H⟩) ?_ ?_
 .exact dh c.ps.length ⟨[(0,.ptr c.d 0),(1,.str x),(10,.slice c.arr 0 c.ps.length 1),(11,.i64 c.ps.length),(12,.i64 (0:Nat))],H⟩ gJ rfl (fun _ _ h=>h) ⟨0,I,fun k h=>by omega,rfl⟩
 rintro y E ⟨m,R,b,rfl⟩-;by_cases u:m<c.ps.length
 .have a:(m:Int)<c.ps.length:=I;have w:=iq (i:=m) I;have f:m<N.Ps.length:=I;have O:(c.ps.map (fun p=>V.ptr p 0)).getD m .bH= .ptr c.ps[m] 0:=by
   rw[bY,dU,bn u];rfl
  obtain⟨_,_,_,_,_,_,L⟩:=s.peer m u f;have o:=L.gp;unfold aj.cs at o;refine Wk a t O o ?_;refine aE ?_
  split
  .rename_i z;have e:(N.Ps.findIdx? fun P=>decide (P.aP=x))=some m:=Ko f (by simpa using z) fun k q=>oZ (b k q I)
   refine Ex.of (r.start _) (r.lt L.kp) ⟨?_,rfl,rfl⟩;rw[e,uh u]
  .rename_i z;exact cH (y-1) ⟨[(0,.ptr c.d 0),(1,.str x),(10,.slice c.arr 0 c.ps.length 1),(11,.i64 c.ps.length),(12,.i64 (m+1:Nat))],H⟩ I (by simp[St.get,lookS,w]) rfl (fun _ _ h=>h) ⟨m+1,I,fun k h A=>by
    by_cases q:k=m
    .subst q;exact z
    .exact b k I A,rfl⟩
 .have a:¬ (m:Int)<c.ps.length:=I;refine aL a ?_;refine Ex.of (r.start _) trivial ⟨?_,rfl,rfl⟩;rw[J6 (p:=fun P=>decide (P.aP=x)) (l:=N.Ps) fun k q=>oZ (b k I q)];rfl
def iO (id:aQ)(P:aj):Bool:=P.bg.isSome&&decide (P.bi=id)
theorem Ob (a b:aQ):(a.setWidth 64=BitVec.ofNat 64 (le ((gA b).take 8)))↔a=b:=by
 rw[bq (show(gA b).length<=8 by rw[jS];decide)];have h:=FC b;constructor
 .intro e;rw[<-e] at h;rw[<-h];apply iU;have :=a.isLt;simp only[qq];omega
 .intro e;subst e;have f:le (gA a)<2^32:=by
   have e:∀ n k:Nat,le (bX n k)=n%256^k:=fun n k=>by
    induction k generalizing n with
    |zero=>show 0=n%1;omega
    |succ k ih=>
     show(BitVec.ofNat 8 n).toNat+256*le (bX (n/256) k)=_;rw[ih,nA,og (256^k) 256,Cb,fL]
   unfold gA;rw[e];exact AH _ ag
  have g:=dN BitVec.toNat h;apply iU;simp only[qq,fL] at g |-
  omega
theorem Q6 (C:Cx K0 H0 Q0 K H)(E:bB K H j c N)(a6:N.Ps.length<=8)(x:Z)(id:aQ)(S:x.take 4=gA id)(a7:4<=x.length)(a8:x.length<=10000000):
  ∃ v K' H',Dx prog 102 [.ptr c.d 0,.str x] K H (fun _=>False) v K' H'/\(v=rY c.ps (N.Ps.findIdx? (iO id))/\K'=K/\H'=H):=by
 obtain⟨b2,aT,Y⟩:=E.dev;have T:=Y.g;have s:=Y.ga;unfold au.cs at T;have W:=E.len;have u:=mY (gA id) (by rw[jS];decide);rw[<-S] at u;refine ar (Q:=fun _=>False) (Post:=fun v K' H'=>v=rY c.ps (N.Ps.findIdx? (iO id))/\K'=K/\H'=H) func102 ?_;refine aL T ?_;refine aE ?_
 refine cG (fun q B=>∃ m:Nat,m+q=c.ps.length/\(∀ k (h:k<m) (r:k<N.Ps.length),iO id N.Ps[k]=false)/\B=⟨[(0,.ptr c.d 0),(1,.str x),(10,.slice c.arr 0 c.ps.length 1),(11,.i64 c.ps.length),(12,.i64 m)],H⟩) ?_ ?_
 .exact dh c.ps.length ⟨[(0,.ptr c.d 0),(1,.str x),(10,.slice c.arr 0 c.ps.length 1),(11,.i64 c.ps.length),(12,.i64 (0:Nat))],H⟩ gJ rfl (fun _ _ h=>h) ⟨0,I,fun k h=>by omega,rfl⟩
 rintro q B ⟨m,b0,o,rfl⟩-;by_cases G:m<c.ps.length
 .have b:(m:Int)<c.ps.length:=I;have L:=iq (i:=m) I;have w:m<N.Ps.length:=I;have X:(c.ps.map (fun p=>V.ptr p 0)).getD m .bH= .ptr c.ps[m] 0:=by
   rw[bY,dU,bn G];rfl
  obtain⟨_,_,O,_,_,_,R⟩:=E.peer m G w;have l:=R.gp;have A:=R.sW;unfold aj.cs at l;have a:iO id N.Ps[m]=false->∀ t,lookS t 0= .ptr c.d 0->lookS t 1= .str x->lookS t 10= .slice c.arr 0 c.ps.length 1->lookS t 11= .i64 c.ps.length->lookS t 12= .i64 (bh ((m:Int)+1))->nV H.length 34 (fun q B=>∃ m:Nat,m+q=c.ps.length/\(∀ k (h:k<m) (r:k<N.Ps.length),iO id N.Ps[k]=false)/\B=⟨[(0,.ptr c.d 0),(1,.str x),(10,.slice c.arr 0 c.ps.length 1),(11,.i64 c.ps.length),(12,.i64 m)],H⟩) q ⟨t,H⟩:=fun hf t h0 z r h3 h4=>
   cH (q-1) ⟨[(0,.ptr c.d 0),(1,.str x),(10,.slice c.arr 0 c.ps.length 1),(11,.i64 c.ps.length),(12,.i64 (m+1:Nat))],H⟩ I (by simp[St.get,h0,z,r,h3,h4,L]) rfl (fun _ _ h=>h) ⟨m+1,I,fun k h r=>by
    by_cases y:k=m
    .subst y;exact hf
    .exact o k I r,rfl⟩
  cases hbo:N.Ps[m].bg with
  |none=>
   rw[hbo] at A;obtain rfl:O= .nilPtr:=A;refine Wk b s X l ?_;refine aE ?_
   exact a (by unfold iO;rw[hbo];rfl) _ rfl rfl rfl rfl rfl
  |some f=>
   rw[hbo] at A;obtain⟨bc,rfl,b3,-⟩:=A;refine Wk b s X l ?_;refine aE ?_
   refine bZ (u) (aG ?_)
   rw[S];split
   .rename_i M;have z:N.Ps[m].bi=id:=(Ob _ _).1 M;have e:N.Ps.findIdx? (iO id)=some m:=Ko w (by unfold iO;rw[hbo,z];simp) fun k y=>o k y I
    refine Ex.of (C.start _) (C.lt R.kp) ⟨?_,rfl,rfl⟩;rw[e,uh G]
   .rename_i M;have z:¬ N.Ps[m].bi=id:=fun h=>M ((Ob _ _).2 h)
    exact a (by unfold iO;rw[oZ z];simp) _ rfl rfl rfl rfl rfl
 .have b:¬ (m:Int)<c.ps.length:=I;refine aL b ?_;refine Ex.of (C.start _) trivial ⟨?_,rfl,rfl⟩;rw[J6 fun k y=>o k I y];rfl
theorem aaP (e:Cx K0 H0 Q0 K H)(l:bB K H j c N):
  ∃ v K' H',Dx prog 18 [.ptr c.d 0] K H (fun r=>r= .dev j) v K' H'/\(K'=K/\jD K' H' (.out j) v N.D.out.length (dT N.D.out)/\bB K' H' j c {N with D:={N.D with out:=[]}}):=by
 obtain⟨out,aT,a⟩:=l.dev;obtain⟨z,A,B,q,s⟩:=au.low (a.low e) (bz _);have w:=(e.start (fun r=>r= .dev j)).put (mm:=none) a.kd rfl (vs:=({N.D with out:=[]}:au).cs c.arr c.ps.length c.paths c.bk .bG aT) (by simp[au.cs,lows,V.low,z,A,B,s]);have x:=w.off;have f:cf K (H.set c.d (bK (({N.D with out:=[]}:au).cs c.arr c.ps.length c.paths c.bk .bG aT))) j c.d {N.D with out:=[]} c.arr c.ps c.paths c.bk .bG aT:=
  ⟨a.kd,a.ka,dr (e.lt a.kd) _,(x.h _ _ a.ka J).trans a.ga,.inl ⟨rfl,rfl⟩,a.t.off x J⟩
 have b:=l.BU (w.mono FQ) ⟨_,_,f⟩;have k:=a.o.off x J;have y:=a.g;unfold au.cs at y w b k;dsimp only at w b k;have u:=e.lt a.kd;refine ar (Q:=fun r=>r= .dev j) (Post:=fun v K' H'=>K'=K/\jD K' H' (.out j) v N.D.out.length (dT N.D.out)/\bB K' H' j c {N with D:={N.D with out:=[]}}) func18 ?_;refine d8 y ?_
 exact Ex.of w (by show V.low (List.length (H.set c.d _)) _;rw[b7];exact q) ⟨rfl,k,b⟩
theorem ajg (e:Cx K0 H0 Q0 K H)(l:bB K H j c N):
  ∃ v K' H',Dx prog 19 [.ptr c.d 0] K H (fun r=>r= .dev j) v K' H'/\(K'=K/\jD K' H' (.aT j) v N.D.aT.length (fy N.D.aT)/\bB K' H' j c {N with D:={N.D with aT:=[]}}):=by
 obtain⟨w,aT,a⟩:=l.dev;obtain⟨A,B,C,q,s⟩:=au.low (a.low e) (bz _);have x:=(e.start (fun r=>r= .dev j)).put (mm:=none) a.kd rfl (vs:=({N.D with aT:=[]}:au).cs c.arr c.ps.length c.paths c.bk w .bG) (by simp[au.cs,lows,V.low,A,B,C,q]);have y:=x.off;have f:cf K (H.set c.d (bK (({N.D with aT:=[]}:au).cs c.arr c.ps.length c.paths c.bk w .bG))) j c.d {N.D with aT:=[]} c.arr c.ps c.paths c.bk w .bG:=
  ⟨a.kd,a.ka,dr (e.lt a.kd) _,(y.h _ _ a.ka J).trans a.ga,a.o.off y J,.inl ⟨rfl,rfl⟩⟩
 have b:=l.BU (x.mono FQ) ⟨_,_,f⟩;have k:=a.t.off y J;have z:=a.g;unfold au.cs at z x b k;dsimp only at x b k;have u:=e.lt a.kd;refine ar (Q:=fun r=>r= .dev j) (Post:=fun v K' H'=>K'=K/\jD K' H' (.aT j) v N.D.aT.length (fy N.D.aT)/\bB K' H' j c {N with D:={N.D with aT:=[]}}) func19 ?_;refine d8 z ?_
 exact Ex.of x (by show V.low (List.length (H.set c.d _)) _;rw[b7];exact s) ⟨rfl,k,b⟩
end
end
end Go.Vm
end
section
namespace Go.Vm
section
section
variable {H H0:aU}{W:Nat->Prop}{p d a:Nat}{ds:List V}
theorem aka {X Y:Option aa}{Z98 N:aU}(c:p<H.length)(b:p≠a):(((H.set p X++Z98).set a none)++N).set p Y=(((H++Z98).set a none)++N).set p Y:=by
 have e:H.set p X++Z98=(H++Z98).set p X:=(FG p X c).symm;rw[e,List.set_comm _ _ b];have f:((H++Z98).set a none).set p X++N=(((H++Z98).set a none)++N).set p X:=(FG p X (by rw[b7,bA];omega)).symm;rw[f,nC]
theorem YD {X y:Option aa}:ah (H.set p X++[y]) H.length=y:=by
 have :=ja (H:=H.set p X) (x:=y)
 rwa [b7] at this
attribute [go_sem] YD
variable {tm:Nat}{num:Int}{aP aR:Z}{at_:aQ}{knows bP:Int}{stamped:Bool}{sec nano:Int}{cookie:Z}{until_:Int}{waits waits' begun:V}{bindex:aQ}{btext:Z}{old session next:V}
end
end
end Go.Vm
end
section
namespace Go.Vm
open Go.Proofs Go.Proofs.Tryz
section
def lO (l:List Z)(x:Z):List Z:=(if l.length=4 then l.drop 1 else l)++[x]
def ez (src:aQ)(x:Z):Z:=cK (src.setWidth 64).toNat 4++x
noncomputable def oT (N:bf) (F:aQ->Int×Bool) (src dst:aQ) (x:Z):Int×bf:=
 if 1000<(x.length:Int) then(2,N) else if(F dst).2=false then(13,N) else match N.Ps[(F dst).1.toNat]? with
  |none=>(13,N)
  |some P=>if P.my N.D.now=true then
    (0,{N with D:=(cT (eW N.D P (ez src x)).1 (eW N.D P (ez src x)).2).1,Ps:=N.Ps.set (F dst).1.toNat (cT (eW N.D P (ez src x)).1 (eW N.D P (ez src x)).2).2})
   else(0,{N with D:=(cT N.D {P with waits:=lO P.waits (ez src x),tm:=P.tm.ev 3 N.D.now}).1,Ps:=N.Ps.set (F dst).1.toNat (cT N.D {P with waits:=lO P.waits (ez src x),tm:=P.tm.ev 3 N.D.now}).2})
section
variable {K K0 K':RK}{H H0 H':aU}{Q0 Q:Rl->Prop}{j i d p tm pb n m W:Nat}{P P':aj}{D D':au}{c:cR}{N:bf}{F:aQ->Int×Bool}{wv bg ol se ne:V}
theorem QW (n:Nat):∀ l:List Z,lows n (l.map .str)
 |[]=>trivial
 |_::l=>⟨trivial,QW n l⟩
theorem cj.Gn (e:Cx K0 H0 Q0 K H)(f:H.length=W)(b:cj K H j i d p P tm wv bg ol se ne)(l:List Z)(o:l≠[])(a:Option Nat)(g:∀ x,a=some x->K x=some (.wt j i)):
  Cx K H (fun r=>r= .peer j i\/r= .wt j i) (gm (kj a K) W (some (.wt j i))) ((cI a H++[bK (l.map .str)]).set p (bK (({P with waits:=l}:aj).cs d tm (.slice W 0 l.length 1) bg ol se ne)))/\
  cj (gm (kj a K) W (some (.wt j i))) ((cI a H++[bK (l.map .str)]).set p (bK (({P with waits:=l}:aj).cs d tm (.slice W 0 l.length 1) bg ol se ne))) j i d p {P with waits:=l} tm (.slice W 0 l.length 1) bg ol se ne:=by
 obtain⟨y,z,E,q,s,t,u⟩:=aj.low (k:=H.length+1) (e.bD _ _ b.gp).1 I;have w:=(e.start (fun r=>r= .peer j i\/r= .wt j i)).tp f b.kp (.inl rfl) a (.wt j i) g (.inr rfl) (ds:=l.map .str) (vs:=({P with waits:=l}:aj).cs d tm (.slice W 0 l.length 1) bg ol se ne) (QW _ _) (by simp[aj.cs,lows,V.low,y,z,q,s,t,u];omega);obtain⟨A,B,C⟩:=AU (ds:=l.map .str) (vs:=({P with waits:=l}:aj).cs d tm (.slice W 0 l.length 1) bg ol se ne) e f b.kp g J;have v:=w.off;exact⟨w,A,v.k _ _ b.kt J,B,(v.h _ _ b.kt J).trans b.gt,.inr ⟨_,rfl,o,lS,C⟩,b.sW.off v J,b.pP.off v J J,b.kP.off v J J,b.pE.off v J J,b.d1,b.d2,b.d3⟩
theorem IZ (a:P.ok){x:Z}(e:x.length<=2000)(f:0<=D.now/\D.now<=1099511627776):({P with waits:=lO P.waits x,tm:=P.tm.ev 3 D.now}:aj).ok:=by
 refine⟨a.q,a.aP,a.aR,a.kn,a.bP,a.ck,a.un,?_,fun y b=>?_,a.bg,a.bt,a.ol,a.se,a.ne,bw.rH a.tm (.inl ag) f⟩
 .have :=a.wl;show(lO P.waits x).length<=4;unfold lO;rw[bA];split
  .rw[dO];simp;omega
  .simp;omega
 .have b:y∈lO P.waits x:=b;unfold lO at b;rcases gZ.1 b with h|h
  .split at h
   .exact a.ws y (HJ h)
   .exact a.ws y h
  .simp at h;subst h;exact e
theorem ahk (src:aQ)(x:Z):(ez src x).length=x.length+4:=by unfold ez;rw[bA,fD];omega
theorem af0 (hC:Cx K0 H0 Q0 K H)(O:bB K H j c N)(ho:N.ok n)(hn:n<=900000000)(hF:∀ a,(c.F a).2=true->0<=(c.F a).1/\(c.F a).1<c.ps.length)(src dst:aQ)(x:Z):
  ∃ v K' H',Dx prog 28 [.ptr c.d 0,.u32 src,.u32 dst,.str x] K H (qD j) v K' H'/\(v= .i64 (oT N c.F src dst x).1/\bB K' H' j c (oT N c.F src dst x).2):=by
 obtain⟨l5,aT,hD⟩:=O.dev;have G:=ho.D.now;have hg:=hD.g;have h6:=hD.ga;unfold au.cs at hg;have h7:=hC.lt hD.kd;have l6:=O.len;unfold oT;by_cases a7:1000<(x.length:Int)
 .rw[aM a7];refine ar (Q:=qD j) (Post:=fun v K' H'=>v= .i64 2/\bB K' H' j c N) func28 ?_;refine aL a7 ?_;exact Ex.of (hC.start _) trivial ⟨rfl,O⟩
 rw[aq a7];have a8:=hF dst;have c7:=SN hC O.oG dst;generalize c.F dst=f at*;obtain⟨k,r⟩:=f;dsimp only at a8 c7 |-
 cases r
 .rw[aM rfl];refine ar (Q:=qD j) (Post:=fun v K' H'=>v= .i64 13/\bB K' H' j c N) func28 ?_;refine i7 hg a7 ?_
  refine cQ (c7) U rfl (by simp[lows,V.low,Bq hC O.oG]) hC.bD ?_;rintro _ K1 H1 l0 l4 ⟨rfl,rfl,rfl⟩;simp only[go_sem,seval,yh];exact Ex.of (hC.start _) trivial ⟨rfl,O⟩
 rw[aq ag];obtain⟨m5,m6⟩:=a8 rfl;obtain⟨i,rfl⟩:∃ i:Nat,k=(i:Int):=⟨k.toNat,I⟩;have hi:i<c.ps.length:=I;have c8:i<N.Ps.length:=I;have h8:(i:Int)<c.ps.length:=I;rw[iG,bn c8];dsimp only;have A:=ho.Ps _ (eM c8);obtain⟨tm,wv,bg,ol,se,ne,hP⟩:=O.peer i hi c8;have hq:(c.ps.map (fun p=>V.ptr p 0)).getD i .bH= .ptr c.ps[i] 0:=by
  rw[bY,dU,bn hi];rfl
 generalize h9:c.ps[i]=p at*;generalize m0:N.Ps[i]=P at*;have e5:=hP.gp;unfold aj.cs at e5;have j1:=hC.lt hP.kp;have hA:=Mc (src.setWidth 64);have e6:(ez src x).length<=2000:=by rw[ahk];omega
 have j2:ez src x=cK (src.setWidth 64).toNat 4++x:=rfl;generalize ez src x=w at*;generalize j3:cK (src.setWidth 64).toNat 4=bb at*;have j4:bb.length=4:=by rw[<-j3];exact fD _ _
 generalize L:(if P.my N.D.now=true then _ else _:Int×bf)=R;refine ar (Q:=qD j) (Post:=fun v K' H'=>v= .i64 R.1/\bB K' H' j c R.2) func28 ?_;refine i7 hg a7 ?_
 refine cQ (c7) U rfl (by simp[lows,V.low,Bq hC O.oG]) hC.bD ?_;rintro _ K1 H1 l0 l4 ⟨rfl,rfl,rfl⟩;refine qa7 hg h6 hq h8 ?_
 refine am [] hA ?_;simp only[go_sem,seval,j4,bq (show(bb.map V.u8).length<=4 by simp;omega)];refine aF ?_
 have t:=(hC.start (fun _=>False)).bH (vs:=bb.map V.u8) (mm:=none) (Bi _ _);have C:=hD.eH t.off;have u:=hP.eH t.off;have h3:∀ i' (h1:i'<c.ps.length) (h2:i'<N.Ps.length),i'≠i->dn K1 (H1++[bK (bb.map V.u8)]) j i' c.d c.ps[i'] N.Ps[i']:=fun i' h1 h2 _=>(O.peer i' h1 h2).off t.off id id id id id fun _=>⟨id,id⟩
 have k3:bB K1 (H1++[bK (bb.map V.u8)]) j c N:=⟨⟨_,_,C⟩,O.len,fun i' h1 h2=>(O.peer i' h1 h2).off t.off id id id id id fun _=>⟨id,id⟩,O.mX.off t.off id id,O.oG.off t.off t.len id⟩;have c2:=(qk (X:=[bK (bb.map V.u8)]) j1).trans e5;have c9:=(qk (X:=[bK (bb.map V.u8)]) h7).trans hg;generalize H1++[bK (bb.map V.u8)]=M at*;rw[<-j2];refine cQ (MH t C u A) U rfl (by simp[lows,V.low,t.lt u.kp]) t.bD ?_;rintro _ K3 H3 m3 m4 ⟨rfl,rfl,rfl⟩;have c3:∀ {K4:RK} {H4:aU} {D4:au} {P4:aj},Cx K3 H3 (qP j i) K4 H4->jU K4 H4 j c.d D4 c.arr c.ps c.paths c.bk->dn K4 H4 j i c.d p P4->Cx K3 H1 (qD j) K4 H4/\bB K4 H4 j c {N with D:=D4,Ps:=N.Ps.set i P4}:=fun hc hd hp=>
  ⟨(t.mono fun _ h=>h.elim).call hc xv,k3.one hc hd hi (by rw[h9];exact hp)⟩
 by_cases hr:P.my N.D.now=true
 .rw[aM hr] at L;subst L;obtain⟨S,hS⟩:∃ S,P.se=some S:=by
   unfold aj.my at hr;split at hr
   .cases hr
   .exact⟨_,‹_›⟩
  refine aL hr ?_;have h1:=Cy A ho.D w;refine cQ (F4 t C u A ho.D I hS w e6) U rfl (by simp[lows,V.low,t.lt u.kp]) t.bD ?_;rintro _ K4 H4 e8 a6 ⟨rfl,⟨_,_,q⟩,_,_,_,_,_,_,b⟩;refine aH ?_;have b0:=(t.mono (Q2:=qP j i) fun _ h=>h.elim).call e8 Ar;refine cQ (BS b0 q b h1.1 h1.2 I) U rfl (by simp[lows,V.low,b0.lt b.kp]) b0.bD ?_;rintro _ K5 H5 s e3 ⟨rfl,E,y⟩;refine aH ?_;obtain⟨r1,r2⟩:=c3 ((e8.mono Ar).call s fun _ h=>h) E y;exact Ex.of r1 trivial ⟨rfl,r2⟩
 rw[aq hr] at L;subst L;have k4:P.my N.D.now=false:=by simpa using hr
 refine aL k4 ?_;have e0:=t.bH (vs:=[.str w]) (mm:=none) bT;have e1:=u.eH ((t.start (fun _=>False)).bH (vs:=[.str w]) (mm:=none) bT).off;have k5:=C.eH ((t.start (fun _=>False)).bH (vs:=[.str w]) (mm:=none) bT).off;have B:=t.lt u.kp;have b2:=t.lt C.kd;have e2:p≠c.d:=fun e=>by have :=u.kp;rw[e,C.kd] at this;cases this
 have b3:tm<H3.length+2:=by have :=t.lt u.kt;omega
 have l7:tm<H3.length+1+1:=by have :=t.lt u.kt;omega
 have Y:=IZ A e6 (D:=N.D) G;have z:∀ {K4:RK} {H4:aU} {h5:V},Cx K3 (H3++[bK [.str w]]) (fun r=>r= .peer j i\/r= .wt j i) K4 H4->cj K4 H4 j i c.d p {P with waits:=lO P.waits w} tm h5 bg ol se ne->cf K4 H4 j c.d N.D c.arr c.ps c.paths c.bk l5 aT/\Cx K3 H3 (qP j i) K4 H4:=fun hc hp=>
  ⟨k5.off hc.off J J J J,(((t.start (fun _=>False)).bH (vs:=[.str w]) (mm:=none) bT).mono (Q2:=qP j i) fun _ h=>h.elim).call hc fun r h=>by rcases h with rfl|rfl<;>exact⟨rfl,rfl⟩⟩
 rcases u.pf with⟨rfl,e9⟩|⟨wa,rfl,e9,b4,e4⟩
 .have e:lO P.waits w=[w]:=by unfold lO;rw[e9];rfl
  rw[e] at z Y |-
  obtain⟨c4,b⟩:=e1.Gn e0 (W:=H3.length+1) J [w] J none (fun _ e=>by cases e);obtain⟨q,l⟩:=z c4 b;have a6:p<(H3++[bK [.str w]]++[bK [.str w]]).length:=cp;unfold aj.cs at c4 b q l;dsimp only[cI,dD,gi,dM,lq] at c4 b q l;simp only[go_sem,seval,c2,th B,dr a6,eA e2,th b2,c9];refine aF ?_
  refine gh (sI l b.kt b.gt A.tm 3 N.D.now ag G) U rfl (by simp[lows,V.low,b3]) l.bD ?_;rintro _ K5 H5 s e3 ⟨rfl,rfl,b5⟩;refine aK ?_
  have o:=l.call s fun r h=>by subst h;exact⟨rfl,rfl⟩
  have y:=b.timer s.off b.kt (T:=P.tm.ev 3 N.D.now) (by rw[b5];exact dr (l.lt b.kt) _);have E:=q.off s.off J J J J;refine cQ (BS o E y Y ho.D I) U rfl (by simp[lows,V.low,o.lt y.kp]) o.bD ?_;rintro _ K6 H6 b6 h0 ⟨rfl,c0,c1⟩;refine aH ?_;obtain⟨r1,r2⟩:=c3 (o.call b6 fun _ h=>h) c0 c1;exact Ex.of r1 trivial ⟨rfl,r2⟩
 have c6:=t.lt b4;have c5:p≠wa:=fun e=>by have :=u.kp;rw[e,b4] at this;cases this
 have e7:c.d≠wa:=fun e=>by have :=C.kd;rw[e,b4] at this;cases this
 by_cases h4:P.waits.length=4
 .have e:lO P.waits w=P.waits.drop 1++[w]:=by unfold lO;rw[aM h4]
  rw[e] at z Y |-
  obtain⟨c4,b⟩:=e1.Gn e0 (W:=H3.length+1) J (P.waits.drop 1++[w]) J (some wa) (fun _ e=>by cases e;exact b4);obtain⟨q,l⟩:=z c4 b;generalize m1:P.waits=ws at*;obtain⟨w0,w1,w2,w3,rfl⟩:∃ w0 w1 w2 w3,ws=[w0,w1,w2,w3]:=by
   match ws,h4 with
   |[w0,w1,w2,w3],_=>exact⟨_,_,_,_,rfl⟩
  have a6:p<((H3++[bK [.str w]]).set wa none++[bK [.str w1,.str w2,.str w3,.str w]]).length:=cp;unfold aj.cs at c4 b q l;dsimp only[cI,List.drop,lw,dD,gi,bA,dM,lq,kG,iY] at c4 b q l e4 c2 |-
  simp only[go_sem,seval,c2,cE,fJ,dr B,eA c5,eA c5.symm,b7,c6,B,e4,aka B c5,dr a6,eA e2,xR b2 e7.symm,c9];refine aF ?_
  refine gh (sI l b.kt b.gt A.tm 3 N.D.now ag G) U rfl (by simp[lows,V.low,b3]) l.bD ?_;rintro _ K5 H5 s e3 ⟨rfl,rfl,b5⟩;refine aK ?_
  have o:=l.call s fun r h=>by subst h;exact⟨rfl,rfl⟩
  have y:=b.timer s.off b.kt (T:=P.tm.ev 3 N.D.now) (by rw[b5];exact dr (l.lt b.kt) _);have E:=q.off s.off J J J J;refine cQ (BS o E y Y ho.D I) U rfl (by simp[lows,V.low,o.lt y.kp]) o.bD ?_;rintro _ K6 H6 b6 h0 ⟨rfl,c0,c1⟩;refine aH ?_;obtain⟨r1,r2⟩:=c3 (o.call b6 fun _ h=>h) c0 c1;exact Ex.of r1 trivial ⟨rfl,r2⟩
 .have e:lO P.waits w=P.waits++[w]:=by unfold lO;rw[aq h4]
  rw[e] at z Y |-
  obtain⟨c4,b⟩:=e1.Gn e0 (W:=H3.length+1) J (P.waits++[w]) J (some wa) (fun _ e=>by cases e;exact b4);obtain⟨q,l⟩:=z c4 b;have k6:¬ (P.waits.length:Int)=4:=I;have m2:=A.wl;have a6:p<((H3++[bK [.str w]]).set wa none++[bK ((P.waits++[w]).map .str)]).length:=cp;unfold aj.cs at c4 b q l;dsimp only[cI] at c4 b q l;simp only[bA,dM,lq,eX] at c4 b q l;simp only[go_sem,seval,c2,k6,cr,qk c6,e4,xR B c5.symm,dr a6,eA e2,xR b2 e7.symm,c9,nW,bq (show(P.waits.map V.str).length<=P.waits.length by simp)];refine aF ?_
  refine gh (sI l b.kt b.gt A.tm 3 N.D.now ag G) U rfl (by simp[lows,V.low,b3]) l.bD ?_;rintro _ K5 H5 s e3 ⟨rfl,rfl,b5⟩;refine aK ?_
  have o:=l.call s fun r h=>by subst h;exact⟨rfl,rfl⟩
  have y:=b.timer s.off b.kt (T:=P.tm.ev 3 N.D.now) (by rw[b5];exact dr (l.lt b.kt) _);have E:=q.off s.off J J J J;refine cQ (BS o E y Y ho.D I) U rfl (by simp[lows,V.low,o.lt y.kp]) o.bD ?_;rintro _ K6 H6 b6 h0 ⟨rfl,c0,c1⟩;refine aH ?_;obtain⟨r1,r2⟩:=c3 (o.call b6 fun _ h=>h) c0 c1;exact Ex.of r1 trivial ⟨rfl,r2⟩
end
end
section
def qY (iT:Nat)(a b:Z)(s e:Int)(fs:Bool):List V:=[.ptr iT 0,.str a,.str b,.i64 s,.i64 e,.i64 0,.bool fs]
theorem We (s:Int)(e:s=1\/s=2)(o q:Z)(f:o.length=32)(g:q.length=32)(l:Int)(k:0<=l)(h:l<=1099511627776)(fs:Bool):
  bp prog 146 [.i64 s,.agg [.str o,.str q],.i64 l,.bool fs] [] (.aZ [.ptr 1 0,.i64 0]) [bK [.i64 0,.u64 0#64],bK (qY 0 o q s l fs)]:=by
 have r:¬ l<0:=I;have t:¬ (1099511627776:Int)<l:=I;have a:(o.length:Int)=32:=I;have b:(q.length:Int)=32:=I;unfold qY;rcases e with rfl|rfl
 .refine ak func146 ?_;simp only[go_sem,seval,ntmps146,r,t,a,b];refine az [] NA (aH ?_);refine⟨U,?_⟩;exact Fin.bd [1,2] J J ci ag J J
 .refine ak func146 ?_;simp only[go_sem,seval,ntmps146,r,t,a,b];refine az [] NA (aH ?_);refine⟨U,?_⟩;exact Fin.bd [1,2] J J ci ag J J
theorem aaQ (s:Int)(g:s=1\/s=2)(l o:Z)(a:l.length=32)(b:o.length=32)(k:Int)(h:0<=k)(e:k<=1099511627776)(fs:Bool)(m t:aQ):
  bp prog 100 [.i64 s,.agg [.str l,.str o],.i64 k,.bool fs,.u32 m,.u32 t] [] (.ptr 2 0) [bK [.i64 0,.u64 0#64],bK (qY 0 l o s k fs),some ⟨false,[.ptr 1 0,.i64 s,.u32 m,.u32 t],some ⟨[],0⟩⟩]:=by
 have f:=We s g l o a b k h e fs;unfold qY at f |-
 refine ak func100 ?_;simp only[go_sem,seval,ntmps100];refine aE ?_
 refine am [] f (aH ?_);exact Fin.bd [1,2,3] J J ci ag J J
section
variable {K K0 K':RK}{H H0 H':aU}{Q0 Q:Rl->Prop}{j i d p tm n m W:Nat}{P P':aj}{D D':au}{c:cR}{N:bf}{wv bg ol se ne bg' ol' se' ne' v:V}
def aX.fresh (su:Int)(eF dX:aQ)(b e:Z)(f:Int)(fs:Bool):aX:=⟨su,eF,dX,b,e,f,0,fs,0,0#64⟩
theorem Qw (x:Cx K0 H0 Q0 K H)(s:Int)(y:s=1\/s=2)(G L:Z)(g:G.length=32)(h:L.length=32)(F:Int)(z:0<=F)(k:F<=1099511627776)(fs:Bool)(m t:aQ)(j i:Nat):
  ∃ v K' H',Dx prog 100 [.i64 s,.agg [.str G,.str L],.i64 F,.bool fs,.u32 m,.u32 t] K H (fun _=>False) v K' H'/\(∃ a q w,v= .ptr a 0/\H.length<=a/\fk K' H' j i a q w (aX.fresh s m t G L F fs)):=by
 have l:=wK (H:=H) (aaQ s y G L g h F z k fs m t) [] rfl bT J J (fun b B e=>by simp[ah] at e) (fun b B e _=>by
  match b with
  |0=>have f:bK [.i64 0,.u64 0#64]=some B:=e;cases f;rfl
  |1=>have f:bK (qY 0 G L s F fs)=some B:=e;cases f;rfl
  |2=>have f:some (⟨false,[.ptr 1 0,.i64 s,.u32 m,.u32 t],some ⟨[],0⟩⟩:aa)=some B:=e;cases f;rfl
  |b+3=>simp[ah] at e) (lI _)
 have o:∀ i,i<3->bx (cu [] H.length [bK [.i64 0,.u64 0#64],bK (qY 0 G L s F fs),some ⟨false,[.ptr 1 0,.i64 s,.u32 m,.u32 t],some ⟨[],0⟩⟩]) i=H.length+i:=fun i T=>by
  rw[xc (lI _) T];simp
 have A:cS [] H [bK [.i64 0,.u64 0#64],bK (qY 0 G L s F fs),some ⟨false,[.ptr 1 0,.i64 s,.u32 m,.u32 t],some ⟨[],0⟩⟩]=
   H++[bK [.i64 0,.u64 0#64]]++[bK (qY H.length G L s F fs)]++[some ⟨false,[.ptr (H.length+1) 0,.i64 s,.u32 m,.u32 t],some ⟨[],0⟩⟩]:=by
  have r:=o 0 ag;have M:=o 1 ag;unfold qY at r M |-
  unfold cS;simp only[iQ,gn,fX,dD,gi,ik,ou,aa.bd,aW,V.bd,r,M,nJ,hZ,kG,iY]
 rw[A] at l;have C:(V.ptr 2 0).bd (bx (cu [] H.length [bK [.i64 0,.u64 0#64],bK (qY 0 G L s F fs),some ⟨false,[.ptr 1 0,.i64 s,.u32 m,.u32 t],some ⟨[],0⟩⟩]))= .ptr (H.length+2) 0:=by
  unfold V.bd;rw[o 2 ag]
 rw[C] at l;have S:=(x.start (fun _=>False)).new (.iT j i (H.length+2)) (vs:=[.i64 0,.u64 0#64]) (mm:=none) bT;have O:(H++[bK [.i64 0,.u64 0#64]]).length=H.length+1:=J;have E:=S.new (.pair j i (H.length+2)) (vs:=qY H.length G L s F fs) (mm:=none) (by rw[O];simp[qY,lows,V.low];omega);have R:(H++[bK [.i64 0,.u64 0#64]]++[bK (qY H.length G L s F fs)]).length=H.length+2:=J;have u:=E.new (.eC j i) (vs:=[.ptr (H.length+1) 0,.i64 s,.u32 m,.u32 t]) (mm:=some ⟨[],0⟩) (by rw[R];simp[lows,V.low]);rw[R,O] at u;refine⟨_,_,_,⟨l,u,uQ⟩,H.length+2,H.length+1,H.length,rfl,I,lS,?_,?_,?_,?_,?_⟩
 .rw[iS I];exact lS
 .rw[iS I,iS I];exact lS
 .exact F9
 .exact QQ
 .exact KN
theorem cj.di (b:Cx K0 H0 Q0 K H)(a:cj K H j i d p P tm wv bg ol se ne)(g:P'.tm=P.tm)(k:P'.waits=P.waits)(l:qC K H j i bg' P'.aR P'.bg)(h1:cM K H j i ol' P'.ol)(h2:cM K H j i se' P'.se)(o:cM K H j i ne' P'.ne)
  (x:fK ol' se') (y:fK ol' ne') (z:fK se' ne') (e:lows H.length [bg',ol',se',ne']):
  Cx K H (fun r=>r= .peer j i) K (H.set p (bK (P'.cs d tm wv bg' ol' se' ne')))/\cj K (H.set p (bK (P'.cs d tm wv bg' ol' se' ne'))) j i d p P' tm wv bg' ol' se' ne':=by
 obtain⟨A,B,C,q,s,t,u⟩:=aj.low (b.bD _ _ a.gp).1 (bz _);simp only[lows,gG] at e;have f:=(b.start (fun r=>r= .peer j i)).put (mm:=none) a.kp rfl (vs:=P'.cs d tm wv bg' ol' se' ne') (by simp[aj.cs,lows,V.low,A,B,C,e]);have w:=f.off;exact⟨f,a.kp,a.kt,dr (b.lt a.kp) _,by rw[g];exact(w.h _ _ a.kt J).trans a.gt,by rw[k];exact a.pf.off w J,l.off w J,h1.off w J J,h2.off w J J,o.off w J J,x,y,z⟩
theorem cM.shape {o:Option aX}(h:cM K H j i v o):v.cells=[v]/\v.one=true:=by
 cases o with
 |none=>obtain rfl:v= .nilPtr:=h;exact⟨rfl,rfl⟩
 |some S=>obtain⟨a,q,w,rfl,-⟩:=h;exact⟨rfl,rfl⟩
theorem cM.low {o:Option aX}(b:Cx K0 H0 Q0 K H)(h:cM K H j i v o):v.low H.length:=by
 cases o with
 |none=>obtain rfl:v= .nilPtr:=h;trivial
 |some S=>obtain⟨a,q,w,rfl,e⟩:=h;exact b.lt e.ka
theorem fK.nil (v:V):fK v .nilPtr:=Classical.or_iff_not_imp_left.2 fun h=>h
theorem cM.apart {o:Option aX}(k:Cx K0 H0 Q0 K H)(h:cM K H j i v o){a:Nat}(r:H.length<=a):fK v (.ptr a 0):=by
 cases o with
 |none=>exact .inl h
 |some S=>
  obtain⟨b,q,w,rfl,l⟩:=h;have :=k.lt l.ka;exact .inr fun e=>by cases e;omega
end
end
end Go.Vm
end
section
namespace Go.Vm
section
open Go Go.RowKit
section
variable {P:Program}{m n:Nat}{Q Q':Exit->St->Prop}{s:St}{c x y:Code}
def GP (P:Program)(m n:Nat)(c:Code)(Q:Exit->St->Prop)(s:St):Prop:=∃ e d,m<=d.H.length/\Q e d/\GS P m n c (fun b g=>b=e/\g=d) s
theorem Hp (h:GS P m n c Q s)(b:∀ e s,Q e s->Q' e s):GS P m n c Q' s:=fun j a w d k=>
 ni (h j a w d k) fun e a' w' ⟨s',ρ',q1,g,i⟩=>⟨s',ρ',b _ _ q1,g,i⟩
theorem zx (a:P.follows .mixedOrders=true)(d:m<=s.H.length)(h:vc P m n c Q s):GP P m n c Q s:=by
 obtain⟨e,g,i,j,b⟩:=wB c Q s d h;exact⟨e,g,i,j,w8 a b⟩
theorem C2 {K:St->Prop}(d:GP P m n x (oA K Q) s)(g:∀ s',m<=s'.H.length->K s'->GP P m n y Q s'):GP P m n (.seq x y) Q s:=by
 obtain⟨e,i,j,k,b⟩:=d;cases e
 case normal=>
  obtain⟨h,l,o,p,q⟩:=g i j k;refine⟨h,l,o,p,wI (K:=fun s'=>s'=i) (Hp b ?_) fun s' a=>by subst a;exact q⟩;rintro _ _ ⟨rfl,rfl⟩;rfl
 all_goals
  refine⟨_,i,j,k,wI (K:=fun _=>False) (Hp b ?_) fun s' a=>a.elim⟩;rintro _ _ ⟨rfl,rfl⟩;exact⟨rfl,rfl⟩
theorem aht {v:Operand}{b:Bool}(g:s.ev v= .bool b)(h:GS P m n (if b=true then x else y) Q s):GS P m n (.cond v x y) Q s:=fun i a w d j=>by
 have e:=d.tmps.eval v;rw[g] at e;unfold VR at e;exact DL e (fun k=>by have :=h i a w d j;rwa [aM k] at this) (fun l=>by have :=h i a w d j;rwa [aq (by rw[l];decide)] at this)
theorem Kk {v:Operand}{b:Bool}(a:s.ev v= .bool b)(h:GP P m n (if b=true then x else y) Q s):GP P m n (.cond v x y) Q s:=by
 obtain⟨e,g,i,j,d⟩:=h;exact⟨e,g,i,j,aht a d⟩
theorem aha {Z98:Nat->Option aa->Prop}{ops:Array Oper}{id:Nat}{l:List dq}{s':St}(d:P.follows .mixedOrders=true)(ht:sL P Z98 n ops ops.toList s l s')(g:mS ops (pm ops.toList s l)=true)(i:∀ b,Z98 b (ah s.H b))(o:m<=s'.H.length)(j:Q .normal s'):GP P m n (.region id ops true) Q s:=
 ⟨.normal,s',o,j,fun p a w k h=>PK (K:=fun t=>t=s') d ht g i rfl p a w _ k h fun a' w' ⟨s2,ρ',e,q⟩=>⟨s2,ρ',⟨rfl,e⟩,q⟩⟩
def qg (P:Program)(Z98:Nat->Option aa->Prop)(n:Nat)(ops:Array Oper)(K:St->Prop):List Oper->List (List Nat×List Nat)->St->Prop
 |[],g,s=>mS ops g=true/\K s
 |o::l,g,s=>kh n o.dst/\o.guard=none/\∃ e,IE Z98 P o s.ev (ah s.H) s.H.length e/\(∀ x∈e.old,x.1<s.H.length)/\(∀ b x,kM s ⟨true,e⟩ b=some x->Z98 b x)/\qg P Z98 n ops K l (g++[dt s e]) (s.after o.dst e)
theorem Rj {Z98:Nat->Option aa->Prop}{ops:Array Oper}{K:St->Prop}:∀ (l:List Oper) (tr:List (List Nat×List Nat)) (s:St),qg P Z98 n ops K l tr s->∃ e s',sL P Z98 n ops l s e s'/\mS ops (tr++pm l s e)=true/\K s'
 |[],tr,s,h=>⟨[],s,rfl,by simpa [pm] using h.1,h.2⟩
 |o::l,tr,s,⟨a,i,g,j,k,b,d⟩=>by
  obtain⟨e,s',p,q,r⟩:=Rj l _ _ d;refine⟨⟨true,g⟩::e,s',⟨⟨a,by unfold wU;rw[i],by simp only[eJ];exact⟨j,k,b⟩⟩,p⟩,?_,r⟩;simpa [pm] using q
theorem SR {Z98:Nat->Option aa->Prop}{ops:Array Oper}{id:Nat}(a:P.follows .mixedOrders=true)(e:∀ b,Z98 b (ah s.H b))(h:qg P Z98 n ops (fun s'=>m<=s'.H.length/\Q .normal s') ops.toList [] s):GP P m n (.region id ops true) Q s:=by
 obtain⟨j,s',g,i,d⟩:=Rj _ _ _ h;exact aha a g (by simpa using i) e d.1 d.2
theorem iE {Z98:Nat->Option aa->Prop}{ops:Array Oper}{K:St->Prop}{o:Oper}{l:List Oper}{tr:List (List Nat×List Nat)}{res:bu}(g:kh n o.dst)(r:o.guard=none)(h:dK P o.op s.ev (ah s.H) s.H.length=some res)(i:res.pre)(q:res.old=[])(a:res.news=[])
  (j:qg P Z98 n ops K l (tr++[(res.fp,[])]) (s.put o.dst res.v)):qg P Z98 n ops K (o::l) tr s:=by
 refine⟨g,r,res,(eL.Dm h i).CV,by rw[q];simp,fun b x d=>?_,?_⟩
 .unfold kM at d;rw[a,q] at d;simp at d;omega
 .have k:dt s res=(res.fp,[]):=by unfold dt;rw[q,a];rfl
  have p:s.after o.dst res=s.put o.dst res.v:=by unfold St.after St.put fX;rw[q,a];simp
  rw[k,p];exact j
end
section
variable {P:Program}{f:FuncId}{args:List V}{H:aU}{W:Nat->Prop}
end
end
section
section
variable {P:Program}{n:Nat}{Z98:Nat->Option aa->Prop}{ops:Array Oper}{K:St->Prop}{o:Oper}{l:List Oper}{tr:List (List Nat×List Nat)}{s:St}
theorem O5 {ty:TypeId}{a:Operand}{b i:Nat}{v:V}(k:kh n o.dst)(O:o.guard=none)(R:o.op= .load ty a)(m:s.ev a= .ptr b i)(p:cL P ty=some false){z:Nat}(q:bU P ty=some z)
  (e:∀ x,Z98 b x->∃ B,x=some B/\i<B.cs.length/\B.cs.getD i .bH=v) (r:qg P Z98 n ops K l (tr++[([],[])]) (s.put o.dst v)):qg P Z98 n ops K (o::l) tr s:=by
 refine⟨k,O,{v:=v},?_,J,fun c x g=>?_,?_⟩
 .intro T L G w M next Q W N F t u y;obtain⟨B,h,X,rfl⟩:=e _ (u b);have C:dK P o.op s.ev G s.H.length=some {v:=B.cs.getD i .bH,pre:=i<B.cs.length,fp:=[b]}:=by
   rw[R];simp only[dK,m,h,p,q]
  refine eL.Dm C X T L G w M next Q W N (fun c S=>⟨rfl,fun _=>?_⟩) t y;have :c=b:=by simpa using S
  subst this;exact N.has _ _ h
 .unfold kM at g;simp at g;omega
 .have D:dt s {v:=v}=([],[]):=rfl;have E:s.after o.dst {v:=v}=s.put o.dst v:=by unfold St.after St.put fX;simp
  rw[D,E];exact r
theorem GA {c:Call}{m:Operand}{f:FuncId}{fs cs args:List V}{v:V}{H':aU}{W:List Nat}(r:kh n o.dst)(C:o.guard=none)(D:o.op= .call c)(i:c.callee= .value m)(E:s.ev m= .fn f fs cs)(h:Whole P f args s.H v H' W)(hc:iu P f=true)(u:args=fs++c.args.toList.map s.ev++cs)
  (p:∀ b,b∈W\/s.H.length<=b->Z98 b (ah H' b)) (w:qg P Z98 n ops K l (tr++[(List.range s.H.length,W++List.range' s.H.length (H'.length-s.H.length))]) ⟨di s.t o.dst v,H'⟩):qg P Z98 n ops K (o::l) tr s:=by
 have q:=h.nO hc u;rw[<-E] at q;refine⟨r,C,rL s.H H' W v,(eL.Kx D i q).CV,fun x a=>?_,fun b x a=>?_,?_⟩
 .obtain⟨b,d,rfl⟩:=eZ.1 a;exact h.Ev b d
 .unfold kM at a;split at a
  .rename_i d;injection a with a
   have e:((H'.drop s.H.length)[b-s.H.length]?).join=ah H' b:=by
    unfold ah;rw[mA,show s.H.length+(b-s.H.length)=b by omega]
   rw[<-a];exact e▸p b (.inr d.1)
  .split at a
   .rename_i d;injection a with a
    have g:b∈W:=by
     obtain⟨y,A,e⟩:=eZ.1 d.2;obtain⟨z,B,rfl⟩:=eZ.1 A;simp only at e;rw[<-e];exact B
    have e:lz (W.map fun b=>(b,ah H' b)) b none=ah H' b:=by rw[EC,aM g]
    rw[<-a];exact e▸p b (.inl g)
   .cases a
 .have j:dt s (rL s.H H' W v)=(List.range s.H.length,W++List.range' s.H.length (H'.length-s.H.length)):=by
   unfold dt rL;simp only[pQ,dO];congr 2
   conv=>rhs;rw[<-zM W]
   rfl
  have k:St.after s o.dst (rL s.H H' W v)=⟨di s.t o.dst v,H'⟩:=Iy (t:=s.t) (dst:=o.dst) h.le h.de;rw[j,k];exact w
theorem W3 {c:Call}{a:Operand}{f:FuncId}{fs cs:List V}{v:V}(g:kh n o.dst)(p:o.guard=none)(q:o.op= .call c)(d:c.callee= .value a)(r:s.ev a= .fn f fs cs)(h:bE P f (fs++c.args.toList.map s.ev++cs) v)
  (i:qg P Z98 n ops K l (tr++[([],[])]) (s.put o.dst v)):qg P Z98 n ops K (o::l) tr s:=by
 have j:lQ P (s.ev a) (c.args.toList.map s.ev) (ah s.H) s.H.length {v:=v}:=by
  rw[r];exact .inl ⟨f,fs,cs,rfl,h.1,trivial,h.2 _ _⟩
 refine⟨g,p,{v:=v},(eL.Kx q d j).CV,J,fun b x e=>?_,?_⟩
 .unfold kM at e;simp at e;omega
 .have k:dt s {v:=v}=([],[]):=rfl;have m:s.after o.dst {v:=v}=s.put o.dst v:=by unfold St.after St.put fX;simp
  rw[k,m];exact i
theorem Pm {res:bu}(a:kh n o.dst)(h:o.guard=none)(c:dK P o.op s.ev (ah s.H) s.H.length=some res)(d:res.pre)(g:∀ x∈res.old,x.1<s.H.length)(e:∀ b x,kM s ⟨true,res⟩ b=some x->Z98 b x)
  (f:qg P Z98 n ops K l (tr++[dt s res]) (s.after o.dst res)):qg P Z98 n ops K (o::l) tr s:=⟨a,h,res,(eL.Dm c d).CV,g,e,f⟩
theorem LA (a:mS ops tr=true)(b:K s):qg P Z98 n ops K [] tr s:=⟨a,b⟩
end
theorem qX {P:Program}{m n:Nat}{x y:Code}{Q:Exit->St->Prop}{s:St}(a:P.follows .mixedOrders=true)(b:m<=s.H.length)(h:vc P m n x (oA (fun s'=>m<=s'.H.length->GP P m n y Q s') Q) s):GP P m n (.seq x y) Q s:=
 C2 (zx a b h) fun s' c d=>d c
end
section
open Go Go.RowKit
section
variable {P:Program}{m n:Nat}{Q Q2:Exit->St->Prop}{s:St}{c x y Y:Code}
end
end
section
open Go Go.RowKit
section
variable {P:Program}{Z98:Nat->Option aa->Prop}{n:Nat}{ops:Array Oper}{K:St->Prop}{s:St}{o:Oper}{l:List Oper}{tr:List (List Nat×List Nat)}
end
end
end Go.Vm
end
section
namespace Go.Vm
open Go.Proofs Go.Proofs.Tryz
section
structure cm where
 f:bL
 aR:Z
 e:Z
 ac:Int
 cg:aQ
noncomputable def cm.text (g:cm):Z:=rz g.f.su g.f.st g.e g.f.once g.f.own g.aR g.ac g.cg g.f.id
noncomputable def cm.key (g:cm) (i:Nat):Z:=gK g.f.su g.f.st g.e g.f.once g.f.own g.aR g.ac i
structure cm.ok (g:cm):Prop where
 f:g.f.ok
 aR:g.aR.length=32
 e:g.e.length=32
 ac:g.ac=1\/g.ac=2
theorem bL.DF {f:bL}(a:f.ok):f.st.ok:=aaz a.su
section
variable {K K0 K':RK}{H H0 H':aU}{Q0 Q:Rl->Prop}{j i d p tm n m W:Nat}{P P':aj}{D D':au}{c:cR}{N:bf}{g:cm}{f:bL}{wv bg ol se ne bg' ol' se' ne' v:V}
theorem cm.rT (a:g.ok){i:Nat}(hi:i<2):(g.key i).length=32:=abF a.f.su (bL.DF a.f) a.aR hi
theorem cm.facts (b:g.ok):g.text.length=59/\List.drop 6 (List.take 10 g.text)=gA g.f.id/\((g.text.getD 1 0).toNat:Int)=g.f.su/\g.text.getD 0 0=2#8:=by
 obtain⟨h,a,-,-,-⟩:=N7 (k:=2#8) (s:=BitVec.ofInt 8 g.f.su) (jS g.cg) (jS g.f.id) (fa g.e) (Dl (e:=g.e) (once:=g.f.once) (own:=g.f.own) (ac:=g.ac) b.f.su (bL.DF b.f) b.aR);exact⟨h,a,Bo b.f.su,rfl⟩
theorem acj (a:Cx K0 H0 Q0 K H)(l:g.ok)(b:ah H p=bK (g.f.cs g.aR)):
  ∃ v K' H',Dx prog 103 [.ptr p 0,.str g.text] K H (fun _=>False) v K' H'/\(v= .aZ [.agg [.str (g.key 0),.str (g.key 1)],.i64 g.ac,.u32 g.cg,.i64 0]/\K'=K/\H'=H):=by
 have k:=g.f.st.aW g.f.su;have h:=g.f.st.low g.f.su;exact Gq a b (W7 l.f.su l.ac (bL.DF l.f) l.e l.f.once l.f.own l.aR (bI g.f.q)) (fun _=>rfl) (fun _=>by simp[lows,V.low]) (fun o=>rfl) (fun n=>by unfold bL.cs;rw[vj,h];simp[lows,V.low]) (fun _=>rfl) (fun _=>by simp[lows,V.low]) ⟨rfl,rfl,rfl⟩
noncomputable def mK (P:aj) (g:cm) (fr:aQ) (now:Int):aj:=
 {P with kn:=g.ac,bP:=if P.bP<g.f.su then g.f.su else P.bP,at_:=fr,ol:=P.se,se:=some (aX.fresh g.f.su P.bi g.cg (g.key 0) (g.key 1) now true),ne:=none,bg:=none,tm:=P.tm.ev 5 now}
noncomputable def vg (D:au) (P:aj):au×aj:=if P.waits=[] then mf (eW D P []).1 (eW D P []).2 else mf D P
noncomputable def mC (N:bf) (g:cm) (fr:aQ):Int×bf:=match N.Ps.findIdx? (iO g.f.id) with
 |none=>(7,N)
 |some i=>match N.Ps[i]? with
  |none=>(7,N)
  |some P=>if g.f.su<P.bP then(10,N) else(0,{N with D:=(vg N.D (mK P g fr N.D.now)).1,Ps:=N.Ps.set i (vg N.D (mK P g fr N.D.now)).2})
theorem MD (a:P.ok)(k:g.ok)(fr:aQ){now:Int}(b:0<=now/\now<=1099511627776):(mK P g fr now).ok:=
 ⟨a.q,a.aP,a.aR,k.ac,by show(if _ then _ else _:Int)=1\/(if _ then _ else _:Int)=2;have l:=k.f.su;have o:=a.bP;split <;>assumption,a.ck,a.un,a.wl,a.ws,(fun _ h=>nomatch h),a.bt,a.se,fun S e=>by
  cases e;exact⟨k.f.su,g.rT k ag,g.rT k ag,b,by show(0:Int)<=0/\(0:Int)<=1000;omega,by show(0:Int)<=0/\(0:Int)<=1099511627777;omega⟩,(fun _ h=>nomatch h),bw.rH a.tm (.inl ag) b⟩
theorem TH (a:P.ok)(b:D.ok n):(mf D P).2.ok/\(mf D P).1.ok (n+4):=by
 have h:=SH (l:=P.waits) a.waits b;exact⟨h.1,h.2.up (by have :=a.wl;omega)⟩
theorem Yy (E:Cx K0 H0 Q0 K H)(A:bB K H j c N)(ho:N.ok n)(hn:n<=900000000)(k5:N.Ps.length<=8)(hg:g.ok)(m:Z)(hm:m.length=16)(fr:aQ)
  (O:∀ i P,N.Ps.findIdx? (iO g.f.id)=some i->N.Ps[i]?=some P->P.bg=some g.f/\P.aR=g.aR):
  ∃ v K' H',Dx prog 70 [.ptr c.d 0,.u32 fr,.str (g.text++cY N.D.aP g.text++m)] K H (qD j) v K' H'/\(v= .i64 (mC N g fr).1/\bB K' H' j c (mC N g fr).2):=by
 obtain⟨r5,aT,hD⟩:=A.dev;have w:=ho.D.now;have b5:=hD.g;unfold au.cs at b5;have S:=E.lt hD.kd;have o6:=A.len;obtain⟨q1,q2,q3,-⟩:=g.facts hg;have k6:N.D.aP.length=32:=by rw[ho.D.aP,fa]
 have l0:=DI fr N.D.now ho.D.cz;have l4:=Mp N.D.aP (fS N.D.cz fr N.D.now) g.text m k6 l0 I hm;have l5:=Q6 E A k5 (List.drop 6 (List.take 10 g.text)) g.f.id (by rw[q2];exact bq (by rw[jS];decide)) (by rw[q2,jS];decide) (by rw[q2,jS];decide);have l6:=fun(bc:Nat) (hb:ah H bc=bK (g.f.cs g.aR))=>acj (p:=bc) E hg hb
 have l7:¬ (g.text.length:Int)<10:=I;generalize decide (jV (fS N.D.cz fr N.D.now) (g.text++cY N.D.aP g.text) 16=m)=bb at*;generalize g.text++cY N.D.aP g.text++m=p1 at*;have m0:=Q7 E hD ho.D fr;generalize fS N.D.cz fr N.D.now=ck at*;generalize g.text=o at*;generalize b:mC N g fr=R;unfold mC at b;generalize m1:N.Ps.findIdx? (iO g.f.id)=fi at*;refine ar (Q:=qD j) (Post:=fun v K' H'=>v= .i64 R.1/\bB K' H' j c R.2) func70 ?_;refine qc3 b5 ?_
 refine gh (m0) U rfl (by simp[lows,V.low,S]) E.bD ?_;rintro _ K1 H1 p4 p6 ⟨rfl,rfl,rfl⟩;refine qc1 ?_
 refine bZ (l4) ?_;refine qc1 ?_
 refine And.intro ?_ ?_
 .refine jg (jY H1.length) [([],[]),([],[]),([],[]),([0],[]),([],[]),([],[]),([0,1],[1]),([],[]),([],[]),([],[]),([],[]),([],[]),([],[]),([],[]),([],[]),([],[])] U (by simp only[jA,jy,cv,rN,all_cons,vM,iY,C6,iN S,j6,gG])
 refine qc3 l7 ?_
 refine cQ (l5) U rfl (by simp[lows,V.low,S]) E.bD ?_;rintro _ K2 H2 q0 q4 ⟨rfl,rfl,rfl⟩;cases fi with
 |none=>
  subst b;simp only[go_sem,seval,-BitVec.isValue,rY];exact Ex.of (E.start _) trivial ⟨rfl,A⟩
 |some i=>
 have X:i<N.Ps.length:=(ub.1 m1).1;have hi:i<c.ps.length:=I;rw[uh hi];have c9:=ho.Ps _ (eM X);obtain⟨o3,k4⟩:=O i _ rfl (bn X);obtain⟨tm,wv,bg,ol,se,ne,hP⟩:=A.peer i hi X;dsimp only at b;rw[bn X] at b;dsimp only at b;generalize m2:c.ps[i]=p at*;generalize o8:N.Ps[i]=P at*;have e0:=hP.sW;rw[o3,k4] at e0;obtain⟨bc,rfl,o4,o5⟩:=e0;have b6:=hP.gp;unfold aj.cs at b6;refine qc3 b6 ?_
 refine cQ (l6 bc o5) U rfl (by simp[lows,V.low,E.lt o4]) E.bD ?_;rintro _ K3 H3 q5 q7 ⟨rfl,rfl,rfl⟩;refine qc1 ?_
 have m3:=E.start (fun _=>False);have m4:=E.lt hP.kp;have a:=m3.boxed (zs:=[.str [],.str []]) (ys:=[.str (g.key 0),.str (g.key 1)]) bT bT;have e4:=(pz (x:=bK [.str [],.str []]) (y:=bK [.str (g.key 0),.str (g.key 1)]) m4).trans b6;have m5:=(pz (x:=bK [.str [],.str []]) (y:=bK [.str (g.key 0),.str (g.key 1)]) S).trans b5;have e5:=pM (H:=H3) (x:=bK [.str [],.str []]) (y:=bK [.str (g.key 0),.str (g.key 1)]);have o9:((H3++[bK [.str [],.str []]]).set H3.length (bK [.str (g.key 0),.str (g.key 1)])).length=H3.length+1:=J;generalize ((H3++[bK [.str [],.str []]]).set H3.length (bK [.str (g.key 0),.str (g.key 1)]))=M at*;have p0:=b8 e5;have m6:p≠c.d:=fun e=>by have :=hP.kp;rw[e,hD.kd] at this;cases this
 have m7:p≠H3.length:=I;by_cases z:g.f.su<P.bP
 .rw[aM z] at b;subst b;refine qc7 e4 z q3 ?_
  exact Ex.of (a.mono fun _ h=>h.elim) trivial ⟨rfl,⟨_,_,hD.eH a.off⟩,A.len,fun i' h1 h2=>(A.peer i' h1 h2).off a.off id id id id id fun _=>⟨id,id⟩,A.mX.off a.off id id,A.oG.off a.off a.len id⟩
 rw[aq z] at b;have m8:bB K3 M j c N:=⟨⟨_,_,hD.eH a.off⟩,A.len,fun i' h1 h2=>(A.peer i' h1 h2).off a.off id id id id id fun _=>⟨id,id⟩,A.mX.off a.off id id,A.oG.off a.off a.len id⟩;have e6:=a.lt hP.kp;have c0:=hP.eH a.off;have m9:=hD.eH a.off;simp only[go_sem,seval,-BitVec.isValue,e4,z,q3,cr,dr e6,nC,b7,eA m7,e5,eA m6,m5];refine aF ?_
 generalize n0:(if P.bP<g.f.su then g.f.su else P.bP)=pn at*;obtain⟨c5,C⟩:=c0.set a (P':={P with kn:=g.ac,bP:=pn,at_:=fr}) (wv':=wv) c0.pf (aj.low (a.bD _ _ c0.gp).1 (bz _)).2.2.1 rfl rfl rfl rfl rfl rfl;have l:=(a.mono (Q2:=qP j i) fun _ h=>h.elim).call c5 fun r h=>by subst h;exact⟨rfl,rfl⟩
 have F:=m9.off c5.off J J J J;have c1:=c5.mono (Q2:=qP j i) fun r h=>by subst h;exact⟨rfl,rfl⟩
 have e7:(M.set p (bK (({P with kn:=g.ac,bP:=pn,at_:=fr}:aj).cs c.d tm wv (.ptr bc 0) ol se ne))).length=M.length:=b7;unfold aj.cs at c5 C l F c1 e7;dsimp only at c5 C l F c1 e7;generalize M.set p (bK [.ptr c.d 0,.ptr tm 0,.i64 P.num,.str P.aP,.str P.aR,.u32 fr,.i64 g.ac,.i64 pn,.bool P.dV,.i64 P.sec,.i64 P.nano,.str P.ck,.i64 P.un,wv,.ptr bc 0,.u32 P.bi,.str P.bt,ol,se,ne])=M5 at*;have e8:=C.gp;have n1:=F.g;unfold aj.cs at e8;unfold au.cs at n1;dsimp only at e8;refine gh (Qw l g.f.su hg.f.su (g.key 0) (g.key 1) (g.rT hg ag) (g.rT hg ag) N.D.now w.1 w.2 true P.bi g.cg j i) U rfl bT l.bD ?_;rintro _ K6 H6 a7 q8 ⟨a6,q6,w6,rfl,j1,j2⟩;have q:=l.call a7 fun _ h=>h.elim
 have B:=C.eH a7.off;have e9:=F.eH a7.off;have c2:=B.gp;have n3:=e9.g;unfold aj.cs at c2;unfold au.cs at n3;dsimp only at c2;have h0:=l.lt C.kp;have b4:=q.lt B.kp;have h3:=l.lt F.kd;have h4:H3.length<M5.length:=I;have n4:fK se (.ptr a6 0):=cM.apart l C.kP j1;obtain⟨e1,e2⟩:=cM.shape B.kP;have e3:=e1;unfold V.cells at e3;have h5:=cM.low q B.kP;obtain⟨c7,s⟩:=B.di q (P':={P with kn:=g.ac,bP:=pn,at_:=fr,ol:=P.se,se:=some (aX.fresh g.f.su P.bi g.cg (g.key 0) (g.key 1) N.D.now true),ne:=none,bg:=none}) (bg':= .nilPtr) (ol':=se) (se':= .ptr a6 0) (ne':= .nilPtr) rfl rfl rfl B.kP ⟨a6,q6,w6,rfl,j2⟩ rfl n4
  (fK.nil _) (fK.nil _) ⟨trivial,h5,q.lt j2.ka,trivial,trivial⟩
 have t:=q.call c7 fun r h=>by subst h;exact⟨rfl,rfl⟩
 have c3:=(c1.call a7 fun _ h=>h.elim).call c7 fun r h=>by subst h;exact⟨rfl,rfl⟩
 have Y:=e9.off c7.off J J J J;unfold aj.cs at c7 s t Y c3;dsimp only at c7 s t Y c3;simp only[go_sem,seval,-BitVec.isValue,c2,dr b4,nC,b7,b4,e2,e3];refine aF ?_
 refine And.intro ?_ ?_
 .refine jg (jY M5.length) [([],[]),([],[]),([],[]),([],[]),([],[]),([],[]),([0],[]),([],[]),([0],[]),([],[]),([],[]),([],[]),([0],[]),([],[]),([],[]),([],[]),([0],[]),([],[]),([0,1],[1]),([],[]),([],[]),([0],[0]),([],[]),([],[]),([0],[0]),([],[]),([],[]),([0],[0])] U (by simp only[jA,jy,cv,rN,all_cons,vM,iY,C6,iN h0,iN h3,iN h4,j6,gG])
 generalize H6.set p (bK [.ptr c.d 0,.ptr tm 0,.i64 P.num,.str P.aP,.str P.aR,.u32 fr,.i64 g.ac,.i64 pn,.bool P.dV,.i64 P.sec,.i64 P.nano,.str P.ck,.i64 P.un,wv,.nilPtr,.u32 P.bi,.str P.bt,se,.ptr a6 0,.nilPtr])=M7 at*;have h6:=Y.g;unfold au.cs at h6;refine qc3 h6 ?_
 refine gh (sI t s.kt s.gt c9.tm 5 N.D.now ag w) U rfl (by simp[lows,V.low,t.lt s.kt]) t.bD ?_;rintro _ K8 H8 a8 q9 ⟨rfl,rfl,o1⟩;have u:=s.timer a8.off s.kt (T:=P.tm.ev 5 N.D.now) (by rw[o1];exact dr (t.lt s.kt) _);have h7:=Y.off a8.off J J J J;have k:=t.call a8 fun r h=>by subst h;exact⟨rfl,rfl⟩
 have h8:=c3.call a8 fun r h=>by subst h;exact⟨rfl,rfl⟩
 have c4:=MD c9 hg fr w;have eP:({P with kn:=g.ac,bP:=pn,at_:=fr,ol:=P.se,se:=some (aX.fresh g.f.su P.bi g.cg (g.key 0) (g.key 1) N.D.now true),ne:=none,bg:=none,tm:=P.tm.ev 5 N.D.now}:aj)=mK P g fr N.D.now:=by unfold mK;rw[n0]
 dsimp only at u;rw[eP] at u;have c6:(mK P g fr N.D.now).se=some (aX.fresh g.f.su P.bi g.cg (g.key 0) (g.key 1) N.D.now true):=rfl;have n5:(mK P g fr N.D.now).waits=P.waits:=rfl;have h9:∀ {K9:RK} {H9:aU} {D9:au} {P9:aj},Cx K3 M (qP j i) K9 H9->jU K9 H9 j c.d D9 c.arr c.ps c.paths c.bk->dn K9 H9 j i c.d p P9->Cx K3 H3 (qD j) K9 H9/\bB K9 H9 j c {N with D:=D9,Ps:=N.Ps.set i P9}:=fun hc hd hp=>
  ⟨(a.mono fun _ h=>h.elim).call hc xv,m8.one hc hd hi (by rw[m2];exact hp)⟩
 have G:=u.gp;rw[<-eP] at G;unfold aj.cs at G;dsimp only at G;generalize mK P g fr N.D.now=P8 at*;subst b;unfold vg;rw[n5];rcases hP.pf with⟨rfl,b0⟩|⟨wa,rfl,b0,-,-⟩
 .rw[aM b0];refine qc3 G ?_
  have h1:=Cy c4 ho.D [];refine cQ (F4 k h7 u c4 ho.D I c6 [] J) U rfl (by simp[lows,V.low,k.lt u.kp]) k.bD ?_;rintro _ K9 H9 b2 o2 ⟨rfl,⟨_,_,c8⟩,_,_,_,_,_,_,b3⟩;refine qc0 ?_;have L:=k.call b2 Ar;refine cQ (KQ L c8 b3 h1.1 h1.2 I (PN (by rw[c6];simp) [])) U rfl (by simp[lows,V.low,L.lt b3.kp]) L.bD ?_;rintro _ r0 r4 j3 o7 ⟨rfl,j4,k3⟩;refine qc0 ?_;obtain⟨r1,r2⟩:=h9 ((h8.call b2 Ar).call j3 fun _ h=>h) j4 k3;exact Ex.of r1 trivial ⟨rfl,r2⟩
 .rw[aq b0];have n6:¬ (P.waits.length:Int)=0:=by have :=uS.2 b0;omega
  refine qc5 G n6 ?_
  refine cQ (KQ k h7 u c4 ho.D I (by rw[c6];simp)) U rfl (by simp[lows,V.low,k.lt u.kp]) k.bD ?_;rintro _ K9 H9 b2 o2 ⟨rfl,c8,b3⟩;refine qc0 ?_;obtain⟨r1,r2⟩:=h9 (h8.call b2 fun _ h=>h) c8 b3;exact Ex.of r1 trivial ⟨rfl,r2⟩
end
end
section
def aj.slot (P:aj):Nat->Option aX
 |0=>P.se
 |1=>P.ol
 |_=>P.ne
def aj.gB (P:aj)(w:Nat)(S:aX):aj:=match w with
 |0=>{P with se:=some S}
 |1=>{P with ol:=some S}
 |_=>{P with ne:=some S}
def zo (se ol ne:V):Nat->V
 |0=>se
 |1=>ol
 |_=>ne
noncomputable def k7 (D:au) (P:aj) (F:aQ->Int×Bool) (fr:aQ) (aY:Z):Int×au×aj:=
 if aY=[] then(0,D,{P with at_:=fr}) else
 if(aY.length:Int)<4 then(4,D,{P with at_:=fr,tm:=P.tm.ev 2 D.now}) else
 if(F (BitVec.setWidth 32 (BitVec.ofNat 64 (be (aY.take 4))))).2=true/\(F (BitVec.setWidth 32 (BitVec.ofNat 64 (be (aY.take 4))))).1=P.num then
  (0,{D with aT:=D.aT++[(P.num,BitVec.setWidth 32 (BitVec.ofNat 64 (be (aY.take 4))),aY.drop 4)]},{P with at_:=fr,tm:=P.tm.ev 2 D.now})
 else(13,D,{P with at_:=fr,tm:=P.tm.ev 2 D.now})
noncomputable def vH (D:au) (P:aj) (S:aX) (fr:aQ):au×aj:=mf D {P with ol:=P.se,se:=P.ne,ne:=none,bP:=if P.bP<S.su then S.su else P.bP,at_:=fr,tm:=P.tm.ev 5 D.now}
noncomputable def rk (D:au) (P:aj) (F:aQ->Int×Bool) (w:Nat) (S:aX) (n:Int) (z:Z) (fr:aQ):Int×au×aj:=
 if(S.open_ n z D.now).2.1=0 then
  (if w=2 then k7 (vH D (P.gB 2 (S.open_ n z D.now).2.2) S fr).1 (vH D (P.gB 2 (S.open_ n z D.now).2.2) S fr).2 F fr (S.open_ n z D.now).1
   else k7 D (P.gB w (S.open_ n z D.now).2.2) F fr (S.open_ n z D.now).1)
 else((S.open_ n z D.now).2.1,D,P)
section
variable {K K0 K':RK}{H H0 H':aU}{Q0 Q:Rl->Prop}{j i d p tm n m W a q w arr pb bk pw:Nat}{P P':aj}{D D':au}{S S':aX}{ps:List Nat}{F:aQ->Int×Bool}{out aT wv bg ol se ne v:V}
theorem Wu {k:Int}{z:Z}{now:Int}(h:¬ (S.open_ k z now).2.1=0):(S.open_ k z now).2.2=S:=by
 unfold aX.open_ at h |-
 split
 .rfl
 .rename_i c;rw[aq c] at h;split
  .rename_i e;rw[aM e] at h;split
   .rename_i b;rw[aM b] at h;exact absurd rfl h
   .rfl
  .rfl
theorem U0 {c k:Int}{e:aS}(h:0<=c/\c<=1099511627777)(hc:n8 c e k=0):0<=pJ c k/\pJ c k<=1099511627777:=by
 have b:0<=k/\k<=1099511627776:=by
  unfold n8 at hc;by_cases f:k<0\/1099511627776<k
  .rw[aM f] at hc;cases hc
  .omega
 unfold pJ;split <;>omega
theorem LM (b:S.ok)(k:Int)(z:Z)(now:Int):(S.open_ k z now).2.2.ok:=by
 unfold aX.open_;split
 .exact b
 .split
  .rename_i c;split
   .exact⟨b.su,b.sd,b.rc,b.bo,b.se,U0 b.nx c⟩
   .exact b
  .exact b
theorem ad2 (k:Int)(z:Z)(now:Int):(S.open_ k z now).2.2.su=S.su:=by
 unfold aX.open_;split
 .rfl
 .split
  .split <;>rfl
  .rfl
theorem Zp (b:Cx K0 H0 Q0 K H)(h:fk K H j i a q w S)(c:S.ok)(k:Int)(z:Z)(now:Int):
  ∃ v K' H',Dx prog 148 [.ptr q 0,.i64 k,.str z,.i64 now] K H (fun r=>r= .iT j i a) v K' H'/\(v= .aZ [.str (S.open_ k z now).1,.i64 (S.open_ k z now).2.1]/\K'=K/\fk K' H' j i a q w (S.open_ k z now).2.2):=by
 obtain⟨v,K',H',e,rfl,rfl,rfl⟩:=abq b h c k z now;refine⟨_,_,_,e,rfl,rfl,h.ka,h.kq,h.kw,(e.cur.get h.ka (b8 h.ga) J).trans ?_,(e.cur.get h.kq (b8 h.gq) J).trans ?_,dr (b8 h.gw) _⟩
 .rw[h.ga];unfold aX.open_;split <;>(try split)<;>(try split)<;>rfl
 .rw[h.gq];unfold aX.open_;split <;>(try split)<;>(try split)<;>rfl
theorem cj.aeN (h:cj K H j i d p P tm wv bg ol se ne)(O:w<3)(o:zo se ol ne w= .ptr a 0)(B:cD (fun r=>r= .iT j i a) K H K' H')(s:fk K' H' j i a q pw S'):cj K' H' j i d p (P.gB w S') tm wv bg ol se ne:=by
 have G:∀ {v E:V} {C:Nat},v= .ptr C 0->E= .ptr a 0->fK v E->¬ Rl.pair j i C= .iT j i a/\¬ Rl.iT j i C= .iT j i a:=fun {v E C} e z b=>by
  subst e z;have t:C≠a:=fun A=>by
   subst A;rcases b with b|b
   .cases b
   .exact b rfl
  simp[t]
 have c:∀ {v E:V},fK v E->fK E v:=fun {v E} b=>by
  rcases b with rfl|b
  .by_cases e:E= .nilPtr
   .exact .inl e
   .exact .inr e
  .exact .inr (Ne.symm b)
 have L:=B.k p _ h.kp J;have M:=B.k tm _ h.kt J;have N:=(B.h p _ h.kp J).trans h.gp;have u:=(B.h tm _ h.kt J).trans h.gt;have x:=h.pf.off B J;have y:=h.sW.off B J
 match w,O with
 |0,_=>
  obtain rfl:se= .ptr a 0:=o;exact⟨L,M,N,u,x,y,h.pP.off B J fun C e=>G e rfl h.d1,⟨a,q,pw,rfl,s⟩,h.pE.off B J fun C e=>G e rfl (c h.d3),h.d1,h.d2,h.d3⟩
 |1,_=>
  obtain rfl:ol= .ptr a 0:=o;exact⟨L,M,N,u,x,y,⟨a,q,pw,rfl,s⟩,h.kP.off B J fun C e=>G e rfl (c h.d1),h.pE.off B J fun C e=>G e rfl (c h.d2),h.d1,h.d2,h.d3⟩
 |2,_=>
  obtain rfl:ne= .ptr a 0:=o;exact⟨L,M,N,u,x,y,h.pP.off B J fun C e=>G e rfl h.d2,h.kP.off B J fun C e=>G e rfl h.d3,⟨a,q,pw,rfl,s⟩,h.d1,h.d2,h.d3⟩
theorem LL (c:Cx K0 H0 Q K H)(t:Q (.dev j))(e:Q (.aT j))(f:H.length=W)(b:cf K H j d D arr ps pb bk out aT)(x:Pk)(a:Option Nat)(g:∀ y,a=some y->K y=some (.aT j)):
  Cx K0 H0 Q (gm (kj a K) W (some (.aT j))) ((cI a H++[bK (fy (D.aT++[x]))]).set d (bK (D.cs arr ps.length pb bk out (.slice W 0 (D.aT.length+1) 3))))/\
  cf (gm (kj a K) W (some (.aT j))) ((cI a H++[bK (fy (D.aT++[x]))]).set d (bK (D.cs arr ps.length pb bk out (.slice W 0 (D.aT.length+1) 3)))) j d {D with aT:=D.aT++[x]} arr ps pb bk out (.slice W 0 (D.aT.length+1) 3)/\
  cD (fun r=>r= .dev j\/r= .aT j) K H (gm (kj a K) W (some (.aT j))) ((cI a H++[bK (fy (D.aT++[x]))]).set d (bK (D.cs arr ps.length pb bk out (.slice W 0 (D.aT.length+1) 3)))):=by
 obtain⟨B,C,E,u,-⟩:=au.low (b.low c) (show H.length<=H.length+1 by omega);have s:lows (H.length+1) (D.cs arr ps.length pb bk out (.slice W 0 (D.aT.length+1) 3)):=by simp[au.cs,lows,V.low,B,C,E,u];omega
 have z:=c.tp f b.kd t a (.aT j) g e (AQ _ (D.aT++[x])) s;have l:=(c.start (fun r=>r= .dev j\/r= .aT j)).tp f b.kd (.inl rfl) a (.aT j) g (.inr rfl) (AQ _ (D.aT++[x])) s;obtain⟨G,L,M⟩:=AU (ds:=fy (D.aT++[x])) (vs:=D.cs arr ps.length pb bk out (.slice W 0 (D.aT.length+1) 3)) c f b.kd g J;have A:=l.off;refine⟨z,⟨G,A.k _ _ b.ka J,L,(A.h _ _ b.ka J).trans b.ga,b.o.off A J,.inr ⟨_,?_,?_,lS,M⟩⟩,A⟩
 .show V.slice W 0 (D.aT.length+1) 3= .slice W 0 (D.aT++[x]).length 3;rw[bA];rfl
 .show 0<(D.aT++[x]).length;simp
theorem ab7 (hC:Cx K0 H0 (qP j i) K H)(hD:cf K H j d D arr ps pb bk out aT)(hP:cj K H j i d p P tm wv bg ol se ne)(hp:P.ok)(hd:D.ok n)(hn:n<=999999999)(c4:kH K H j pb F)(aY:Z)(fr:aQ){t:List (Nat×V)}
  (h0:lookS t 0= .ptr p 0) (h4:lookS t 4= .u32 fr) (a8:lookS t 11= .str aY) (r0 r1 s2 s4 c:Code) (hc:f107.body=some (.seq r0 (.seq r1 (.seq s2 (.seq s4 c))))) {R:Int×au×aj} (A:k7 D P F fr aY=R):
  vc prog H0.length f107.ntmps c (gV prog f107 (Ex K0 H0 (qP j i) fun v K' H'=>v= .i64 R.1/\jU K' H' j d R.2.1 arr ps pb bk/\dn K' H' j i d p R.2.2)) ⟨t,H⟩:=by
 have b2:=hd.now;have hg:=hD.g;have b3:=hP.gp;unfold au.cs at hg;unfold aj.cs at b3;have c5:=hC.lt hP.kp;have e4:=hC.lt hD.kd;have e5:p≠d:=fun e=>by have :=hP.kp;rw[e,hD.kd] at this;cases this
 simp only[f107,eg,mJ] at hc;obtain⟨-,-,-,-,rfl⟩:=hc;unfold k7 at A;refine ce ?_;simp only[go_sem,seval,h0,h4,a8,b3,dr c5];refine aF ?_
 obtain⟨c1,l⟩:=hP.set hC (P':={P with at_:=fr}) (wv':=wv) hP.pf (aj.low (hC.bD _ _ hP.gp).1 (bz _)).2.2.1 rfl rfl rfl rfl rfl rfl;have o:=hC.call c1 fun r h=>by subst h;exact⟨rfl,rfl⟩
 have E:=hD.off c1.off J J J J;have G:=c4.off c1.off c1.len J;unfold aj.cs at c1 l o E G;dsimp only at c1 l o E G;generalize H.set p (bK [.ptr d 0,.ptr tm 0,.i64 P.num,.str P.aP,.str P.aR,.u32 fr,.i64 P.kn,.i64 P.bP,.bool P.dV,.i64 P.sec,.i64 P.nano,.str P.ck,.i64 P.un,wv,bg,.u32 P.bi,.str P.bt,ol,se,ne])=M at*;have b4:=E.g;have Y:=l.gp;unfold au.cs at b4;unfold aj.cs at Y;dsimp only at Y;by_cases ht:aY=[]
 .rw[aM ht] at A;subst A;refine g9 ht ?_;exact Ex.of o trivial ⟨rfl,⟨_,_,E⟩,_,_,_,_,_,_,l⟩
 rw[aq ht] at A;refine Gh ht b4 ?_
 refine gh (sI o l.kt l.gt hp.tm 2 D.now ag b2) U rfl (by simp[lows,V.low,o.lt l.kt]) o.bD ?_;rintro _ K2 H2 O e7 ⟨rfl,rfl,c7⟩;refine d8 a8 ?_
 have s:=l.timer O.off l.kt (T:=P.tm.ev 2 D.now) (by rw[c7];exact dr (o.lt l.kt) _);have u:=E.off O.off J J J J;have a6:=G.off O.off O.len J;have b:=o.call O fun r h=>by subst h;exact⟨rfl,rfl⟩
 dsimp only at s;have L:=u.g;have x:=s.gp;unfold au.cs at L;unfold aj.cs at x;dsimp only at x;by_cases h4:(aY.length:Int)<4
 .rw[aM h4] at A;subst A;refine g9 h4 ?_;exact Ex.of b trivial ⟨rfl,⟨_,_,u⟩,_,_,_,_,_,_,s⟩
 rw[aq h4] at A;refine pL h4 ?_
 refine br (zy (aY.take 4) cp) (aK ?_)
 have e8:List.take 8 (List.take 4 aY)=List.take 4 aY:=bq cp;refine qA h0 L x ?_
 generalize c9:BitVec.setWidth 32 (BitVec.ofNat 64 (be (List.take 4 aY)))=C at*;have b5:=SN b a6 C;generalize F C=f at*;obtain⟨k,r⟩:=f;dsimp only at b5 A;refine cQ (b5) U rfl (by simp[lows,V.low,Bq b a6]) b.bD ?_;rintro _ K3 H3 e9 h1 ⟨rfl,rfl,rfl⟩;have a7:=b.lt s.kp;have B:=b.lt u.kd;cases r
 .rw[aq J] at A;subst A;simp only[go_sem,seval,yh];refine aF ?_
  exact Ex.of b trivial ⟨rfl,⟨_,_,u⟩,_,_,_,_,_,_,s⟩
 refine Gh h0 x ?_
 by_cases X:k=P.num
 rotate_left
 .rw[aq (by simp[X])] at A;subst A;refine g9 X ?_;exact Ex.of b trivial ⟨rfl,⟨_,_,u⟩,_,_,_,_,_,_,s⟩
 rw[aM ⟨rfl,X⟩] at A;subst A;refine qb5 h0 a8 X x L ?_
 have hJ:=b.bH (vs:=[.i64 P.num,.u32 C,.str (List.drop 4 aY)]) (mm:=none) bT;have b6:=((b.start (fun _=>False)).bH (vs:=[.i64 P.num,.u32 C,.str (List.drop 4 aY)]) (mm:=none) bT).off;have c0:=u.eH b6;have c2:=s.eH b6;have e0:=hd.aT;rcases u.t with⟨rfl,hz⟩|⟨a,rfl,h3,ha,c8⟩
 .have hz:=nK.1 hz;obtain⟨hG,z,b0⟩:=LL hJ rfl rfl (W:=H3.length+1) J c0 (P.num,C,List.drop 4 aY) none (fun _ e=>by cases e);have y:=c2.off b0 J J J J J J;unfold au.cs at hG z y;simp only[hz,iY,fy,cI,lq,eX] at hG z y |-
  simp only[go_sem,seval,L,th B];refine aF ?_
  refine And.intro ?_ ?_
  .refine jg (jY H3.length) [([],[]),([],[]),([],[]),([0],[]),([],[]),([],[]),([],[]),([0],[]),([],[]),([],[]),([0],[]),([],[]),([],[]),([],[]),([0],[]),([],[]),([],[]),([0],[]),([],[]),([],[1]),([1],[1]),([],[]),([],[]),([0],[0])] U (by simp only[jA,jy,cv,all_cons,xx,KD,iN B,iN a7,j6,pB,gG])
  exact Ex.of hG trivial ⟨rfl,⟨_,_,z⟩,_,_,_,_,_,_,y⟩
 .have hl:=xy D.aT;have N:=b.lt ha;have c3:a≠d:=fun e=>by subst e;rw[u.kd] at ha;cases ha
  have c6:p≠a:=fun e=>by subst e;have :=s.kp;rw[ha] at this;cases this
  obtain⟨hG,z,b0⟩:=LL hJ rfl rfl (W:=H3.length+1) J c0 (P.num,C,List.drop 4 aY) (some a) (fun _ e=>by cases e;exact ha);have y:=c2.off b0 J J J J J J;unfold au.cs at hG z y;rw[Kf] at hG z y;simp only[fy,cI] at hG z y;simp only[go_sem,seval,L,c8,qk N,xR B c3,nW,bq (show(fy D.aT).length<=D.aT.length*3 by omega)];refine aF ?_
  refine And.intro ?_ ?_
  .refine jg (mL a H3.length) [([],[]),([],[]),([],[]),([0],[]),([],[]),([],[]),([],[]),([0],[]),([],[]),([],[]),([0],[]),([],[]),([],[]),([],[]),([0],[]),([],[]),([],[]),([0],[]),([],[]),([],[1]),([1,2],[1,2]),([],[]),([],[]),([0],[0])] U (by simp only[jA,jy,cv,all_cons,B4,uX B c3.symm,uX a7 c6,KJ,IN N,J3 N,j6,pB,FO,gG])
  exact Ex.of hG trivial ⟨rfl,⟨_,_,z⟩,_,_,_,_,_,_,y⟩
theorem ahh (b:P.ok)(c:D.ok n)(e:S.su=1\/S.su=2)(fr:aQ):(vH D P S fr).2.ok/\(vH D P S fr).1.ok (n+4):=
 TH ⟨b.q,b.aP,b.aR,b.kn,by show(if _ then _ else _:Int)=1\/(if _ then _ else _:Int)=2;have f:=b.bP;split <;>assumption,b.ck,b.un,b.wl,b.ws,b.bg,b.bt,b.se,b.ne,(fun _ h=>nomatch h),bw.rH b.tm (.inl ag) c.now⟩ c
theorem O9 (b:P.ok)(c:S.ok):(P.gB w S).ok:=by
 unfold aj.gB;split
 .exact⟨b.q,b.aP,b.aR,b.kn,b.bP,b.ck,b.un,b.wl,b.ws,b.bg,b.bt,b.ol,(fun _ h=>by cases h;exact c),b.ne,b.tm⟩
 .exact⟨b.q,b.aP,b.aR,b.kn,b.bP,b.ck,b.un,b.wl,b.ws,b.bg,b.bt,(fun _ h=>by cases h;exact c),b.se,b.ne,b.tm⟩
 .exact⟨b.q,b.aP,b.aR,b.kn,b.bP,b.ck,b.un,b.wl,b.ws,b.bg,b.bt,b.ol,b.se,(fun _ h=>by cases h;exact c),b.tm⟩
theorem agh (d tm:Nat)(wv bg ol se ne:V):(P.gB w S).cs d tm wv bg ol se ne=P.cs d tm wv bg ol se ne:=by
 unfold aj.gB;split <;>rfl
theorem aiD (h:P.slot w=some S):P.gB w S=P:=by
 obtain⟨_,_,_,_,_,_,_,_,_,_,_,_,_,_,_,_,_,_,_,_⟩:=P;unfold aj.slot at h;unfold aj.gB;split at h<;>(simp only at h;subst h;rfl)
theorem afx (hC:Cx K0 H0 Q0 K H)(hD:cf K H j d D arr ps pb bk out aT)(hP:cj K H j i d p P tm wv bg ol se ne)(f:P.ok)(hd:D.ok n)(hn:n<=999999980)(b6:kH K H j pb F)(hw:w<3)(hv:zo se ol ne w= .ptr a 0)(hs:fk K H j i a q pw S)(hS:P.slot w=some S)(k:Int)(z:Z)(fr:aQ)
  (r0 r1 s2 s4 c:Code) (hc:f107.body=some (.seq r0 (.seq r1 (.seq s2 (.seq s4 c))))) {R:Int×au×aj} (A:rk D P F w S k z fr=R):
  vc prog H.length f107.ntmps (.seq r0 (.seq r1 (.seq s2 (.seq s4 c)))) (gV prog f107 (Ex K H (qP j i) fun v K' H'=>v= .i64 R.1/\jU K' H' j d R.2.1 arr ps pb bk/\dn K' H' j i d p R.2.2)) ⟨jX [.ptr p 0,.ptr a 0,.i64 k,.str z,.u32 fr] 0,H⟩:=by
 have b4:=hd.now;have b0:S.ok:=by
  unfold aj.slot at hS;split at hS
  .exact f.se S hS
  .exact f.ol S hS
  .exact f.ne S hS
 have C:=fun {n:Nat} {K1:RK} {H1:aU} {D1:au} {P1:aj} {out aT:V} {tm:Nat} {wv bg ol se ne:V} (hC:Cx K H (qP j i) K1 H1) (hD:cf K1 H1 j d D1 arr ps pb bk out aT) (hP:cj K1 H1 j i d p P1 tm wv bg ol se ne) (f:P1.ok) (hd:D1.ok n) (hn:n<=999999999) (b6:kH K1 H1 j pb F) (aY:Z) {t:List (Nat×V)} (h0:lookS t 0= .ptr p 0) (h4:lookS t 4= .u32 fr) (h7:lookS t 11= .str aY) (A:k7 D1 P1 F fr aY=R)=>
  ab7 hC hD hP f hd hn b6 aY fr h0 h4 h7 r0 r1 s2 s4 c hc A
 simp only[f107,eg,mJ] at hc;obtain⟨rfl,rfl,rfl,rfl,hc⟩:=hc;clear hc;have hg:=hD.g;have e0:=hP.gp;have e4:=hs.ga;unfold au.cs at hg;unfold aj.cs at e0;unfold aX.sc at e4;have l0:=hC.lt hP.kp;have l4:=hC.lt hD.kd;have l5:=hC.lt hs.ka;have h8:p≠d:=fun e=>by have :=hP.kp;rw[e,hD.kd] at this;cases this
 have h9:p≠a:=fun e=>by have :=hP.kp;rw[e,hs.ka] at this;cases this
 unfold rk at A;have e5:=Zp hC hs b0 k z D.now;have e6:=ad2 (S:=S) k z D.now;have c0:=LM b0 k z D.now;have E:=fun h=>Wu (S:=S) (k:=k) (z:=z) (now:=D.now) h
 generalize S.open_ k z D.now=O at*;obtain⟨aY,e,S2⟩:=O;dsimp only at e5 A e6 c0 E;refine ce ?_;refine qA e0 hg e4 ?_
 refine gh (e5) U rfl (by simp[lows,V.low,hC.lt hs.kq]) hC.bD ?_;rintro _ K1 H1 x l6 ⟨rfl,rfl,c7⟩;refine aK ?_
 have b:=hP.aeN hw hv x.off c7;have G:=hD.off x.off J J J J;have L:=b6.off x.off x.len J;have s:=x.mono (Q2:=qP j i) fun r h=>by subst h;exact⟨rfl,rfl⟩
 by_cases h0:e=0
 rotate_left
 .rw[aq h0] at A;have :=E h0;subst this;subst A;rw[aiD hS] at b;refine g9 h0 ?_;exact Ex.of s trivial ⟨rfl,⟨_,_,G⟩,_,_,_,_,_,_,b⟩
 subst h0;rw[aM rfl] at A;refine dv ?_;have c1:=O9 (w:=w) f c0;have e7:=G.g;have l:=b.gp;have y:=c7.ga;have b5:=x.lt b.kp;rw[agh] at l;unfold au.cs at e7;unfold aj.cs at l;unfold aX.sc at y;by_cases c3:w=2
 rotate_left
 .rw[aq c3] at A;have j1:∀ a',ne= .ptr a' 0->a'≠a:=fun a' e e2=>by
   subst e2
   match w,hw,c3 with
   |0,_,_=>
    obtain rfl:se= .ptr a' 0:=hv;rcases hP.d3 with h|h
    .cases h
    .exact h e.symm
   |1,_,_=>
    obtain rfl:ol= .ptr a' 0:=hv;rcases hP.d2 with h|h
    .cases h
    .exact h e.symm
   |2,_,h=>exact h rfl
  have b2:=b.pE;cases hno:(P.gB w S2).ne with
  |none=>
   rw[hno] at b2;obtain rfl:ne= .nilPtr:=b2;refine d8 l ?_
   exact C s G b c1 hd I L aY rfl rfl rfl A
  |some S3=>
   rw[hno] at b2;obtain⟨a3,q3,w3,rfl,k6⟩:=b2;have e8:=k6.ga;unfold aX.sc at e8;refine qA l y e8 ?_
   have j2:¬ a=a3:=fun e=>j1 a3 rfl e.symm
   refine g9 j2 ?_;exact C s G b c1 hd I L aY rfl rfl rfl A
 subst c3;rw[aM rfl] at A;obtain rfl:ne= .ptr a 0:=hv;obtain⟨e1,e2⟩:=cM.shape b.kP;have e3:=e1;unfold V.cells at e3;have e9:=cM.low s b.kP;refine i7 l y ?_
 simp only[go_sem,seval,qV,gG,dr b5,b7,b5,eA h9,y,nC,eA h8,e7,e2,e3];refine aF ?_
 rw[e6];have j3:=(aj.low (s.bD _ _ b.gp).1 (bz _)).2.2.2.1;obtain⟨c2,o⟩:=b.di s (P':={P with ol:=P.se,se:=some S2,ne:=none,bP:=if P.bP<S.su then S.su else P.bP}) (bg':=bg) (ol':=se) (se':= .ptr a 0) (ne':= .nilPtr) rfl rfl b.sW b.kP b.pE rfl hP.d3 (fK.nil _) (fK.nil _) ⟨j3,e9,x.lt c7.ka,trivial,trivial⟩;have u:=s.call c2 fun r h=>by subst h;exact⟨rfl,rfl⟩
 have c5:=G.off c2.off J J J J;have N:=L.off c2.off c2.len J;have X:=ahh c1 hd b0.su fr;have h3:({P with ol:=P.se,se:=some S2,ne:=none,bP:=if P.bP<S.su then S.su else P.bP,at_:=fr,tm:=P.tm.ev 5 D.now}:aj).ok:=⟨f.q,f.aP,f.aR,f.kn,by show(if _ then _ else _:Int)=1\/(if _ then _ else _:Int)=2;have h1:=b0.su;have h2:=f.bP;split <;>assumption,f.ck,f.un,f.wl,f.ws,f.bg,f.bt,f.se,(fun _ h=>by cases h;exact c0),(fun _ h=>nomatch h),bw.rH f.tm (.inl ag) b4⟩;have eR:vH D (P.gB 2 S2) S fr=mf D {P with ol:=P.se,se:=some S2,ne:=none,bP:=if P.bP<S.su then S.su else P.bP,at_:=fr,tm:=P.tm.ev 5 D.now}:=rfl;rw[eR] at A X;clear eR;unfold aj.cs at c2 o u c5 N;dsimp only at c2 o u c5 N;generalize (if P.bP<S.su then S.su else P.bP)=pn at*;generalize H1.set p (bK [.ptr d 0,.ptr tm 0,.i64 P.num,.str P.aP,.str P.aR,.u32 P.at_,.i64 P.kn,.i64 pn,.bool P.dV,.i64 P.sec,.i64 P.nano,.str P.ck,.i64 P.un,wv,bg,.u32 P.bi,.str P.bt,se,.ptr a 0,.nilPtr])=M at*;refine gh (sI u o.kt o.gt f.tm 5 D.now ag b4) U rfl (by simp[lows,V.low,u.lt o.kt]) u.bD ?_;rintro _ K3 H3 a8 l7 ⟨rfl,rfl,k3⟩;have B:=o.timer a8.off o.kt (T:=P.tm.ev 5 D.now) (by rw[k3];exact dr (u.lt o.kt) _);have j4:=c5.off a8.off J J J J;have h5:=N.off a8.off a8.len J;have b3:=u.call a8 fun r h=>by subst h;exact⟨rfl,rfl⟩
 dsimp only at B;have Y:=B.gp;unfold aj.cs at Y;dsimp only at Y;have h6:=b3.lt B.kp;refine d8 Y ?_
 obtain⟨c4,c9⟩:=B.set b3 (P':={P with ol:=P.se,se:=some S2,ne:=none,bP:=pn,at_:=fr,tm:=P.tm.ev 5 D.now}) (wv':=wv) B.pf (aj.low (b3.bD _ _ B.gp).1 (bz _)).2.2.1 rfl rfl rfl rfl rfl rfl;have a6:=b3.call c4 fun r h=>by subst h;exact⟨rfl,rfl⟩
 have c6:=j4.off c4.off J J J J;have a7:=h5.off c4.off c4.len J;unfold aj.cs at c4 c9 a6 c6 a7;dsimp only at c4 c9 a6 c6 a7;refine cQ (KQ a6 c6 c9 h3 hd I J) U rfl (by simp[lows,V.low,h6]) a6.bD ?_;rintro _ K5 H5 c8 m0 ⟨rfl,⟨_,_,k4⟩,_,_,_,_,_,_,k5⟩;simp only[go_sem];exact C (a6.call c8 fun _ h=>h) k4 k5 X.1 X.2 I (a7.off c8.off c8.len id) aY rfl rfl rfl A
theorem ae3 (c:Cx K0 H0 Q0 K H)(e:cf K H j d D arr ps pb bk out aT)(f:cj K H j i d p P tm wv bg ol se ne)(g:P.ok)(h:D.ok n)(l:n<=999999980)(b:kH K H j pb F)(t:w<3)(o:zo se ol ne w= .ptr a 0)(r:fk K H j i a q pw S)(s:P.slot w=some S)(k:Int)(z:Z)(fr:aQ):
  ∃ v K' H',Dx prog 107 [.ptr p 0,.ptr a 0,.i64 k,.str z,.u32 fr] K H (qP j i) v K' H'/\(v= .i64 (rk D P F w S k z fr).1/\jU K' H' j d (rk D P F w S k z fr).2.1 arr ps pb bk/\dn K' H' j i d p (rk D P F w S k z fr).2.2):=
 xQ U func107 rfl db (afx c e f g h l b t o r s k z fr _ _ _ _ _ rfl rfl)
end
end
section
def jr (id:aQ)(P:aj)(w:Nat):Bool:=match P.slot w with
 |none=>false
 |some S=>decide (S.eF=id)
def jQ (id:aQ)(P:aj):Option Nat:=if jr id P 0=true then some 0 else if jr id P 1=true then some 1 else if jr id P 2=true then some 2 else none
noncomputable def mH (N:bf) (F:aQ->Int×Bool) (id:aQ) (k:Int) (z:Z) (fr:aQ):Int×bf:=match N.Ps.findIdx? (fun P=>(jQ id P).isSome) with
 |none=>(7,N)
 |some i=>match N.Ps[i]? with
  |none=>(7,N)
  |some P=>match jQ id P with
   |none=>(7,N)
   |some w=>match P.slot w with
    |none=>(7,N)
    |some S=>((rk N.D P F w S k z fr).1,{N with D:=(rk N.D P F w S k z fr).2.1,Ps:=N.Ps.set i (rk N.D P F w S k z fr).2.2})
section
variable {K K0 K':RK}{H H0 H':aU}{Q0 Q:Rl->Prop}{j i d p tm n m W a q w arr pb bk pw:Nat}{P P':aj}{D D':au}{S S':aX}{ps:List Nat}{F:aQ->Int×Bool}{c:cR}{N:bf}{out aT wv bg ol se ne v:V}
theorem cM.tN {o:Option aX}(h:cM K H j i v o):v.tN=true:=by
 cases o with
 |none=>obtain rfl:v= .nilPtr:=h;rfl
 |some S=>obtain⟨a,q,w,rfl,-⟩:=h;rfl
theorem bB.eH (h:bB K H j c N)(b:Cx K H (fun _=>False) K' H'):bB K' H' j c N:=
 ⟨by obtain⟨_,_,e⟩:=h.dev;exact⟨_,_,e.eH b.off⟩,h.len,fun i f g=>(h.peer i f g).off b.off id id id id id fun _=>⟨id,id⟩,h.mX.off b.off id id,h.oG.off b.off b.len id⟩
theorem cj.Yb (h:cj K H j i d p P tm wv bg ol se ne)(b:w<3):cM K H j i (zo se ol ne w) (P.slot w):=by
 match w,b with
 |0,_=>exact h.kP
 |1,_=>exact h.pP
 |2,_=>exact h.pE
theorem QI (e:w<3)(h:jr (S.eF) P w=true)(b:∀ u,u<w->jr S.eF P u=false):jQ S.eF P=some w:=by
 unfold jQ
 match w,e with
 |0,_=>rw[aM h]
 |1,_=>rw[b 0 I,h];simp
 |2,_=>rw[b 0 I,b 1 I,h];simp
theorem Xw {id:aQ}(b:∀ u,u<3->jr id P u=false):jQ id P=none:=by
 unfold jQ;rw[b 0 I,b 1 I,b 2 I];simp
theorem TO (id:aQ)(k:Int)(e:0<=k/\k<=1099511627776)(z:Z):(eI id k z).length=z.length+14/\(eI id k z).getD 1 0=0#8/\(eI id k z).getD 0 0=4#8/\List.drop 6 (List.take 14 (eI id k z))=bX (BitVec.ofInt 64 k).toNat 8/\List.drop 2 (List.take 6 (eI id k z))=bX (id.setWidth 64).toNat 4/\List.drop 14 (eI id k z)=z/\
  BitVec.ofNat 64 (le (bX (BitVec.ofInt 64 k).toNat 8))=BitVec.ofInt 64 k/\BitVec.setWidth 32 (BitVec.ofNat 64 (le (bX (id.setWidth 64).toNat 4)))=id/\(BitVec.ofInt 64 k).toNat=k.toNat:=by
 have g:=dQ (id.setWidth 64).toNat 4;have h:=dQ (BitVec.ofInt 64 k).toNat 8;have f:=id.isLt;have b:(BitVec.ofInt 64 k).toNat=k.toNat:=by
  rw[rO];congr 1;exact C7 e.1 I
 refine⟨?_,rfl,rfl,?_,?_,?_,?_,?_,b⟩
 .unfold eI;simp[dQ];omega
 .unfold eI;rw[mW (by simp[dQ]),oI (by simp[dQ])]
 .unfold eI;rw[hZ,hZ,<-hZ [4#8,0#8],mW (by simp[dQ])];exact oI rfl
 .unfold eI;exact oI (by simp[dQ])
 .rw[IJ];apply iU;rw[fL,b];omega
 .rw[IJ];apply iU;rw[qq,fL,qq];omega
theorem abw (hC:Cx K0 H0 Q0 K H)(hN:bB K H j c N)(ho:N.ok n)(hn:n<=900000000)(j1:N.Ps.length<=8)(id:aQ)(k:Int)(y:0<=k/\k<=1099511627776)(z:Z)(hz:16<=z.length/\z.length<=1000000)(fr:aQ):
  ∃ v K' H',Dx prog 72 [.ptr c.d 0,.u32 fr,.str (eI id k z)] K H (qD j) v K' H'/\(v= .i64 (mH N c.F id k z fr).1/\bB K' H' j c (mH N c.F id k z fr).2):=by
 obtain⟨out,aT,hD⟩:=hN.dev;have hg:=hD.g;have c6:=hD.ga;unfold au.cs at hg;have h9:=hN.len;obtain⟨q1,q2,-,q4,q5,q6,q7,q8,q9⟩:=TO id k y z;have T:=mY (bX (BitVec.ofInt 64 k).toNat 8) (by rw[dQ];decide);rw[bq (show(bX (BitVec.ofInt 64 k).toNat 8).length<=8 by rw[dQ];decide),q7] at T;have X:=mY (bX (id.setWidth 64).toNat 4) (by rw[dQ];decide);rw[bq (show(bX (id.setWidth 64).toNat 4).length<=8 by rw[dQ];decide)] at X;rw[<-q4] at T;rw[<-q5] at X q8;generalize BitVec.ofNat 64 (le (List.drop 2 (List.take 6 (eI id k z))))=j2 at*;have c7:¬ (((eI id k z).length:Nat):Int)<30:=by rw[q1];omega
 have c8:¬ 1099511627776#64<BitVec.ofInt 64 k:=by rw[Bz,q9];simp;omega
 generalize b:mH N c.F id k z fr=R;unfold mH at b;refine ar (Q:=qD j) (Post:=fun v K' H'=>v= .i64 R.1/\bB K' H' j c R.2) func72 ?_;refine qc0 ?_;refine qc3 c7 ?_
 refine br (T) ?_;simp only[go_sem,seval,-BitVec.isValue,q2,ic,gD,cr];refine aF ?_
 refine qc3 c8 ?_
 refine br (X) ?_;refine qc5 hg q8 ?_
 have sl:∀ (N1:Nat) (i1:Nat),True:=fun _ _=>trivial
 refine cG (fun jj st=>∃ (m:Nat) (E:aU),m+jj=c.ps.length/\Cx K H (fun _=>False) K E/\(∀ k (h:k<m) (h2:k<N.Ps.length),(jQ id N.Ps[k]).isSome=false)/\st=⟨[(0,.ptr c.d 0),(1,.u32 fr),(2,.str (eI id k z)),(7,.u64 (BitVec.ofInt 64 k)),(8,.u32 id),(33,.slice c.arr 0 c.ps.length 1),(34,.i64 c.ps.length),(35,.i64 m)],E⟩) ?_ ?_
 .exact dh c.ps.length ⟨[(0,.ptr c.d 0),(1,.u32 fr),(2,.str (eI id k z)),(7,.u64 (BitVec.ofInt 64 k)),(8,.u32 id),(33,.slice c.arr 0 c.ps.length 1),(34,.i64 c.ps.length),(35,.i64 (0:Nat))],H⟩ gJ rfl (fun _ _ h=>h) ⟨0,H,I,hC.start _,fun k h=>by omega,rfl⟩
 clear sl;rintro jj st ⟨m,E,k3,f,b6,rfl⟩-;have c0:bB K E j c N:=hN.eH f;by_cases hi:m<c.ps.length
 rotate_left
 .have Y:¬ (m:Int)<c.ps.length:=I;rw[J6 (p:=fun P=>(jQ id P).isSome) (l:=N.Ps) fun k y=>b6 k I y] at b;subst b;refine qc2 Y ?_;exact Ex.of (f.mono fun _ h=>h.elim) trivial ⟨rfl,c0⟩
 have Y:(m:Int)<c.ps.length:=I;have c9:=iq (i:=m) I;have A:m<N.Ps.length:=I;have hq:(c.ps.map (fun p=>V.ptr p 0)).getD m .bH= .ptr c.ps[m] 0:=by
  rw[bY,dU,bn hi];rfl
 have e0:=ho.Ps _ (eM A);obtain⟨tm,wv,bg,ol,se,ne,x⟩:=c0.peer m hi A;have c1:=x.gp;have c2:=(f.get hD.ka (hC.lt hD.ka) (fun h=>h)).trans c6;unfold aj.cs at c1;obtain⟨e1,e2⟩:=cM.shape x.kP;obtain⟨e3,e4⟩:=cM.shape x.pP;obtain⟨e5,e6⟩:=cM.shape x.pE;have f1:=e1;have f3:=e3;have f5:=e5;unfold V.cells at f1 f3 f5;have g1:=cM.tN x.kP;have g3:=cM.tN x.pP;have g5:=cM.tN x.pE;unfold V.tN at g1 g3 g5;simp only[go_sem,seval,-BitVec.isValue,Y,c2,hq,c1,cq,↓e1,↓e3,↓e5,g1,g3,g5];refine aF ?_
 have G:lows (E.length+1) [se,ol,ne]:=rS (rI _) _ ⟨cM.low f x.kP,cM.low f x.pP,cM.low f x.pE,trivial⟩;have e:=f.bH (vs:=[se,ol,ne]) (mm:=none) G;have e7:=((f.start (fun _=>False)).bH (vs:=[se,ol,ne]) (mm:=none) G).off;have b0:=qb E (bK [se,ol,ne]) [];have hL:∀ u,u<3->([se,ol,ne]:List V).getD u .bH=zo se ol ne u:=fun u hu=>by
  match u,hu with
  |0,_=>rfl
  |1,_=>rfl
  |2,_=>rfl
 have b2:([se,ol,ne]:List V).length=3:=rfl;generalize E.length=W at*;generalize [se,ol,ne]=L at*;generalize E++[bK L]=M at*;have b3:=x.eH e7;have c3:bB K M j c N:=hN.eH e;have e8:=hD.eH e.off;generalize e9:c.ps[m]=p at*;generalize b4:N.Ps[m]=P at*;refine cG (fun jj st=>∃ u:Nat,u+jj=3/\(∀ O,O<u->jr id P O=false)/\st=⟨[(10,.ptr p 0),(0,.ptr c.d 0),(1,.u32 fr),(2,.str (eI id k z)),(7,.u64 (BitVec.ofInt 64 k)),(8,.u32 id),(33,.slice c.arr 0 c.ps.length 1),(34,.i64 c.ps.length),(35,.i64 m),(51,.slice W 0 3 1),(52,.i64 3),(53,.i64 u)],M⟩) ?_ ?_
 .exact dh 3 ⟨[(10,.ptr p 0),(0,.ptr c.d 0),(1,.u32 fr),(2,.str (eI id k z)),(7,.u64 (BitVec.ofInt 64 k)),(8,.u32 id),(33,.slice c.arr 0 c.ps.length 1),(34,.i64 c.ps.length),(35,.i64 m),(51,.slice W 0 3 1),(52,.i64 3),(53,.i64 (0:Nat))],M⟩ gJ rfl (fun _ _ h=>h) ⟨0,I,fun u h=>by omega,rfl⟩
 rintro j3 st ⟨u,k4,C,rfl⟩-;by_cases hu:u<3
 rotate_left
 .have o:¬ (u:Int)<3:=I;refine qc2 o ?_;exact cH (jj-1) ⟨[(0,.ptr c.d 0),(1,.u32 fr),(2,.str (eI id k z)),(7,.u64 (BitVec.ofInt 64 k)),(8,.u32 id),(33,.slice c.arr 0 c.ps.length 1),(34,.i64 c.ps.length),(35,.i64 (m+1:Nat))],M⟩ I (by simp[St.get,lookS,c9]) rfl (fun _ _ h=>h) ⟨m+1,M,I,e,fun k h h2=>by
   by_cases y:k=m
   .subst y;rw[b4,Xw fun u j4=>C u I];rfl
   .exact b6 k I h2,rfl⟩
 have o:(u:Int)<3:=I;have h0:=iq (i:=u) I;have B:=b3.Yb hu;have r:=hL u hu;have s:jr id P u=false->∀ t,lookS t 10= .ptr p 0->lookS t 0= .ptr c.d 0->lookS t 1= .u32 fr->lookS t 2= .str (eI id k z)->lookS t 7= .u64 (BitVec.ofInt 64 k)->lookS t 8= .u32 id->lookS t 33= .slice c.arr 0 c.ps.length 1->lookS t 34= .i64 c.ps.length->lookS t 35= .i64 m->lookS t 51= .slice W 0 3 1->lookS t 52= .i64 3->lookS t 53= .i64 (bh ((u:Int)+1))->
   nV H.length 77 (fun jj st=>∃ u:Nat,u+jj=3/\(∀ O,O<u->jr id P O=false)/\st=⟨[(10,.ptr p 0),(0,.ptr c.d 0),(1,.u32 fr),(2,.str (eI id k z)),(7,.u64 (BitVec.ofInt 64 k)),(8,.u32 id),(33,.slice c.arr 0 c.ps.length 1),(34,.i64 c.ps.length),(35,.i64 m),(51,.slice W 0 3 1),(52,.i64 3),(53,.i64 u)],M⟩) j3 ⟨t,M⟩:=fun hf t a1 a2 a3 a4 a5 a6 a7 a8 a9 h4 h5 h6=>
  cH (j3-1) ⟨[(10,.ptr p 0),(0,.ptr c.d 0),(1,.u32 fr),(2,.str (eI id k z)),(7,.u64 (BitVec.ofInt 64 k)),(8,.u32 id),(33,.slice c.arr 0 c.ps.length 1),(34,.i64 c.ps.length),(35,.i64 m),(51,.slice W 0 3 1),(52,.i64 3),(53,.i64 (u+1:Nat))],M⟩ I (by simp[St.get,a1,a2,a3,a4,a5,a6,a7,a8,a9,h4,h5,h6,h0]) rfl (fun _ _ h=>h) ⟨u+1,I,fun O h=>by
   by_cases y:O=u
   .subst y;exact hf
   .exact C O I,rfl⟩
 cases hSl:P.slot u with
 |none=>
  rw[hSl] at B;have hv:zo se ol ne u= .nilPtr:=B;rw[hv] at r;refine qc9 o b0 r b2 ?_
  exact s (by unfold jr;rw[hSl]) _ rfl rfl rfl rfl rfl rfl rfl rfl rfl rfl rfl rfl
 |some S=>
  rw[hSl] at B;obtain⟨a,q,w',hv,hs⟩:=B;rw[hv] at r;have b5:=hs.ga;unfold aX.sc at b5;by_cases hm:S.eF=id
  .have h1:N.Ps.findIdx? (fun P=>(jQ id P).isSome)=some m:=Ko A (by rw[b4];subst hm;rw[QI hu (by unfold jr;rw[hSl];simp) C];rfl) fun k y=>b6 k y I
   have h3:jQ id P=some u:=by subst hm;exact QI hu (by unfold jr;rw[hSl];simp) C
   rw[h1] at b;dsimp only at b;rw[bn A,b4] at b;dsimp only at b;rw[h3] at b;dsimp only at b;rw[hSl] at b;dsimp only at b;subst b;have c4:=c3.oG;have hx:=ae3 e e8 b3 e0 ho.D I c4 hu hv hs hSl k z fr;refine qd3 o b0 r b2 b5 hm ?_
   have ek:bh ((BitVec.ofInt 64 k).toNat:Int)=k:=by rw[q9,Int.toNat_of_nonneg y.1];exact bC I I
   rw[ek,q6];refine cQ (hx) U rfl (by simp[lows,V.low,e.lt b3.kp,e.lt hs.ka]) e.bD ?_;rintro _ K2 H2 c5 k5 ⟨rfl,h7,h8⟩;refine qc0 ?_;exact Ex.of ((e.mono fun _ h=>h.elim).call c5 xv) trivial ⟨rfl,c3.one c5 h7 hi (by rw[e9];exact h8)⟩
  .refine qd3 o b0 r b2 b5 hm ?_
   exact s (by unfold jr;rw[hSl];exact oZ hm) _ rfl rfl rfl rfl rfl rfl rfl rfl rfl rfl rfl rfl
noncomputable def oK (N:bf) (id:aQ) (ck:Z):Int×bf:=match N.Ps.findIdx? (iO id) with
 |none=>(7,N)
 |some i=>match N.Ps[i]? with
  |none=>(7,N)
  |some P=>(0,{N with Ps:=N.Ps.set i {P with ck:=ck,un:=N.D.now+120}})
theorem ahI (s:Cx K0 H0 Q0 K H)(A:bB K H j c N)(ho:N.ok n)(M:N.Ps.length<=8)(u nonce ck x b:Z)(hu:u.length=32)(C:nonce.length=24)(hk:ck.length=16)(hx:6<=x.length)(O:x.length<=1000000)(hb:b.length=16)(id:aQ)(T:List.drop 2 (List.take 6 x)=gA id)(fr:aQ)
  (l:∀ i P,N.Ps.findIdx? (iO id)=some i->N.Ps[i]?=some P->P.aP=u/\∃ m:Z,m.length=16/\P.bt=x++b++m):
  ∃ v K' H',Dx prog 71 [.ptr c.d 0,.u32 fr,.str (gd u nonce ck x b)] K H (qD j) v K' H'/\(v= .i64 (oK N id ck).1/\bB K' H' j c (oK N id ck).2):=by
 obtain⟨out,aT,L⟩:=A.dev;have hg:=L.g;unfold au.cs at hg;have c4:=ho.D.now;have c5:=A.len;have E:(3#8::0#8::List.drop 2 (List.take 6 x)).length=6:=cp;obtain⟨-,b4,-⟩:=Ni (k:=nZ u) (c:=nonce) (m:=b) (t:=ck) (PO u hu) C I I;have Y:(gd u nonce ck x b).length=62:=by unfold gd;rw[bA,bA,E,b4];omega
 have e6:List.drop 2 (List.take 6 (gd u nonce ck x b))=gA id:=by
  unfold gd;rw[hZ,mW E,<-T];rfl
 have a6:=fun(m:Z) (X:m.length=16)=>adZ u nonce ck x b m hu C hk hx O hb X
 have h6:¬ (((gd u nonce ck x b).length:Nat):Int)<6:=by rw[Y];omega
 have a7:=Q6 s A M (List.drop 2 (List.take 6 (gd u nonce ck x b))) id (by rw[e6];exact bq (by rw[jS];decide)) (by rw[e6,jS];decide) (by rw[e6,jS];decide);have a8:=s.lt L.kd;generalize gd u nonce ck x b=c9 at*;generalize f:oK N id ck=R;unfold oK at f;generalize b0:N.Ps.findIdx? (iO id)=fi at*;refine ar (Q:=qD j) (Post:=fun v K' H'=>v= .i64 R.1/\bB K' H' j c R.2) func71 (aH ?_);refine pL h6 ?_
 refine cQ (a7) U rfl (by simp[lows,V.low,a8]) s.bD ?_;rintro _ K1 H1 e0 e1 ⟨rfl,rfl,rfl⟩;cases fi with
 |none=>
  subst f;simp only[go_sem,seval,rY];exact Ex.of (s.start _) trivial ⟨rfl,A⟩
 |some i=>
 have o:i<N.Ps.length:=(ub.1 b0).1;have hi:i<c.ps.length:=I;rw[uh hi];have c6:=ho.Ps _ (eM o);obtain⟨b5,m,X,b6⟩:=l i _ rfl (bn o);have G:=a6 m X;rw[<-b5,<-b6] at G;obtain⟨tm,wv,bg,ol,se,ne,B⟩:=A.peer i hi o;dsimp only at f;rw[bn o] at f;dsimp only at f;subst f;generalize b2:c.ps[i]=p at*;generalize c7:N.Ps[i]=P at*;have y:=B.gp;unfold aj.cs at y;have b3:=s.lt B.kp;have c8:p≠c.d:=fun e=>by have :=B.kp;rw[e,L.kd] at this;cases this
 refine d8 y ?_
 refine bZ (G) (aK ?_)
 have ew:bh (N.D.now+120)=N.D.now+120:=bC I I;obtain⟨c1,c0⟩:=B.set s (P':={P with ck:=ck,un:=N.D.now+120}) (wv':=wv) B.pf (aj.low (s.bD _ _ B.gp).1 (bz _)).2.2.1 rfl rfl rfl rfl rfl rfl;have c2:=c1.mono (Q2:=qP j i) fun r h=>by subst h;exact⟨rfl,rfl⟩
 have z:=A.one c2 ⟨_,_,L.off c1.off J J J J⟩ hi (by rw[b2];exact⟨_,_,_,_,_,_,c0⟩);have c3:=c2.mono (Q2:=qD j) xv;unfold aj.cs at c3 z;dsimp only at c3 z;simp only[go_sem,seval,y,hg,ew,dr b3,nC];refine aF ?_
 exact Ex.of c3 trivial ⟨rfl,z⟩
end
end
section
theorem akf {sec nano:Int}(h:rq sec nano):bE prog 141 [.str (qh sec nano)] (.aZ [.agg [.i64 sec,.i64 nano],.i64 0]):=by
 have k:=ael (qh sec nano) (by rw[wM];decide);have l:=(Yp (qh sec nano) (by rw[wM];decide) (4611686018427387904+sec.toNat) nano.toNat).1 rfl;have r:=h;unfold rq at r;obtain⟨-,s,t⟩:=l;have m:Ac (qh sec nano)=sec:=by
  unfold Ac;rw[<-s,lk I];have :(BitVec.ofNat 64 (4611686018427387904+sec.toNat)-4611686018427387904#64).toNat=sec.toNat:=by
   rw[CR,fL,fL];omega
  rw[this,bC I I];omega
 have o:Aq (qh sec nano)=nano:=by unfold Aq;rw[<-t];omega
 rw[m,o,wM,aM ⟨rfl,h⟩] at k;exact k
noncomputable def n7 (P:aj) (g:cm) (fr:aQ) (now:Int):aj:=
 {P with dV:=true,sec:=g.f.sec,nano:=g.f.nano,kn:=g.f.ac,at_:=fr,ne:=some (aX.fresh g.f.su g.cg g.f.id (g.key 1) (g.key 0) now false)}
noncomputable def qZ (D:au) (P:aj) (f:bL) (fr:aQ):au×aj:=
 (({D with index:=D.index+1#32,fresh:=D.fresh+1#64}:au).goes fr ((n7 P ⟨f,P.aR,D.dR,D.ac,D.index+1#32⟩ fr D.now).gU D.now (cm.text ⟨f,P.aR,D.dR,D.ac,D.index+1#32⟩)),
  n7 P ⟨f,P.aR,D.dR,D.ac,D.index+1#32⟩ fr D.now)
noncomputable def ov (N:bf) (f:bL) (m:Z) (fr:aQ):Int×bf:=
 if N.D.busy=true/\¬ jV (fS N.D.cz fr N.D.now) (f.text++cY N.D.aP f.text) 16=m then
  (14,{N with D:=({N.D with fresh:=N.D.fresh+1#64}:au).goes fr (gd N.D.aP (N.D.dR.take 24) (fS N.D.cz fr N.D.now) f.text (cY N.D.aP f.text))})
 else if ¬ (jN N.B fr N.D.now).1=0 then((jN N.B fr N.D.now).1,{N with B:=(jN N.B fr N.D.now).2})
 else if N.D.ac<f.su then(5,{N with B:=(jN N.B fr N.D.now).2})
 else match N.Ps.findIdx? (fun P=>decide (P.aP=bI f.own)) with
  |none=>(7,{N with B:=(jN N.B fr N.D.now).2})
  |some i=>match N.Ps[i]? with
   |none=>(7,{N with B:=(jN N.B fr N.D.now).2})
   |some P=>if P.dV=true/\¬ later f.sec f.nano P.sec P.nano then(11,{N with B:=(jN N.B fr N.D.now).2})
    else if f.su<P.bP then(10,{N with B:=(jN N.B fr N.D.now).2})
    else(0,{N with B:=(jN N.B fr N.D.now).2,D:=(qZ N.D P f fr).1,Ps:=N.Ps.set i (qZ N.D P f fr).2})
section
variable {K K0 K':RK}{H H0 H':aU}{Q0 Q:Rl->Prop}{j i d p tm n W a q w arr pb bk pw:Nat}{P P':aj}{D D':au}{S S':aX}{ps:List Nat}{f:bL}{g:cm}{c:cR}{N:bf}{out aT wv bg ol se ne v:V}
noncomputable def zR (f:bL):List V:=f.st.cs f.su++[.i64 f.su,.u32 f.id,.str (bI f.once),.str (bI f.own)]
theorem afN (b:Cx K0 H0 Q0 K H)(l:f.ok):
  ∃ v K' H',Dx prog 97 [.str f.q,.str f.text] K H (fun _=>False) v K' H'/\(∃ c,v= .aZ [.agg [.i64 f.su,.u32 f.id,.str (bI f.own),.i64 f.sec,.i64 f.nano,.i64 f.ac],.ptr c 0,.i64 0]/\K'=K/\c=H.length/\ah H' c=bK (zR f)):=by
 have h:=f.st.low f.su;have k:=EV (H:=H) (v':= .aZ [.agg [.i64 f.su,.u32 f.id,.str (bI f.own),.i64 f.sec,.i64 f.nano,.i64 f.ac],.ptr H.length 0,.i64 0]) (Xb (id:=f.id) l.su l.ac (akf l.time) l.q l.once l.own) (fun _=>rfl) bT (fun m=>rfl) (fun m e=>by simp[V.bd,aW,e]);exact⟨_,_,_,⟨k,(b.start (fun _=>False)).bH (by rw[vj];exact⟨by rw[show(o0 f.su f.q f.once f.own f.sec f.nano f.ac).cs f.su=f.st.cs f.su from rfl,h];trivial,bT⟩),bT⟩,H.length,rfl,rfl,rfl,ja⟩
theorem U2 (b:Cx K0 H0 Q0 K H)(l:g.ok){c:Nat}(h:ah H c=bK (zR g.f)):
  ∃ v K' H',Dx prog 99 [.ptr c 0,.str g.aR,.str g.e,.i64 g.ac,.u32 g.cg] K H (fun _=>False) v K' H'/\(v= .aZ [.str g.text,.agg [.str (g.key 1),.str (g.key 0)],.i64 0]/\K'=K/\H'=H):=by
 have k:=g.f.st.low g.f.su;exact Gq b h (ab2 (id:=g.f.id) (cg:=g.cg) l.f.su l.ac (bL.DF l.f) l.e l.f.once l.f.own l.aR) (fun _=>rfl) (fun _=>by simp[lows,V.low]) (fun m=>rfl) (fun n=>by unfold zR;rw[vj,k];simp[lows,V.low]) (fun _=>rfl) (fun _=>by simp[lows,V.low]) ⟨rfl,rfl,rfl⟩
def NR (d i:Nat)(v:V)(b:Nat)(x:Option aa):Prop:=b=d->∃ B,x=some B/\i<B.cs.length/\B.cs.getD i .bH=v
theorem aj1 (E:Cx K0 H0 Q K H)(F:cf K H j d D arr ps pb bk out aT)(G:D.ok n)(x b m:Z)(L:6<=x.length)(M:x.length<=1000000)(hb:b.length=16)(u:m.length=16)(eF:Z)(l:eF.length=16){t:List (Nat×V)}(h0:lookS t 0= .ptr d 0)(h2:lookS t 2= .str (x++b++m))(h7:lookS t 7= .str eF){Q':Exit->St->Prop}{r0 r1 r2 s3 r5 r6 c7 c9 O e5:Code}{R:Operand}
  (hc:f69.body=some (.seq r0 (.seq r1 (.seq r2 (.seq s3 (.seq (.seq r5 (.cond R (.seq (.seq r6 c7) c9) e5)) O)))))) (hm:H0.length<=H.length)
  (hQ:∀ (H1:aU) (y:List (Nat×V)),Cx K H (fun r=>r= .dev j) K H1->cf K H1 j d {D with fresh:=D.fresh+1#64} arr ps pb bk out aT->lookS y 0= .ptr d 0->lookS y 1=lookS t 1->lookS y 11= .str (gd D.aP (D.dR.take 24) eF x b)->lookS y 12= .i64 0->Q' .normal ⟨y,H1⟩):
  GP prog H0.length f69.ntmps r6 Q' ⟨t,H⟩:=by
 have hg:=F.g;unfold au.cs at hg;have T:D.aP.length=32:=by rw[G.aP,fa]
 have A:=(D.sP G.af).2;have hR:=YO D.aP (D.dR.take 24) eF x b m T (by rw[cF,A];rfl) l L M hb u;obtain⟨_,Y,H1,s,rfl,rfl,C⟩:=ET E F G.af;have B:=C.g;unfold au.cs at B;have a6:D.dR.length=32:=A;generalize a7:D.dR=ks at*;generalize x++b++m=a8 at*;generalize gd D.aP (ks.take 24) eF x b=o at*;have X:=E.lt F.kd;simp only[f69,eg,mJ,DS] at hc;obtain⟨-,-,-,-,⟨-,-,⟨⟨rfl,-⟩,-⟩,-⟩,-⟩:=hc;refine SR (Z98:=NR d 2 (.str D.aP)) U (fun b e=>by subst e;exact⟨_,hg,J,rfl⟩) ?_;refine iE aw rfl (by simp only[go_sem,h0];rfl) trivial rfl rfl ?_;refine iE aw rfl akp trivial rfl rfl ?_;refine iE aw rfl akp trivial rfl rfl ?_;refine O5 (b:=d) (i:=2) (v:= .str D.aP) aw rfl rfl aky U (z:=1) U (fun x L=>L rfl) ?_;refine iE aw rfl (by refine aL h0 ?_;rfl) trivial rfl rfl ?_;refine GA (fs:=[]) (cs:=[]) (args:=[.ptr d 0]) aw rfl rfl rfl rfl (s.whole (by simp[lows,V.low,X]) E.bD) U aky (fun b hb e=>by subst e;exact⟨_,B,J,rfl⟩) ?_;refine iE aw rfl akp cp rfl rfl ?_;refine iE aw rfl (by refine aL h7 ?_;rfl) trivial rfl rfl ?_;refine iE aw rfl (by refine aL h2 ?_;rfl) trivial rfl rfl ?_;refine W3 (fs:=[]) (cs:=[]) aw rfl rfl rfl rfl (by refine aH ?_;exact hR) ?_;refine iE aw rfl akp trivial rfl rfl ?_;refine iE aw rfl akp trivial rfl rfl ?_;refine iE aw rfl akp trivial rfl rfl ?_;refine iE aw rfl akp trivial rfl rfl ?_;refine iE aw rfl akp trivial rfl rfl ?_;refine LA ?_ ⟨j7 hm s.cur.len,hQ H1 _ s.cur C ?_ ?_ ?_ ?_⟩
 .show mS _ [([],[]),([],[]),([],[]),([],[]),([],[]),(List.range H.length,tK (Wr (fun r=>r= .dev j) Y) H.length++List.range' H.length (H1.length-H.length)),([],[]),([],[]),([],[]),([],[]),([],[]),([],[]),([],[]),([],[]),([],[])]=true;have hw:=CU (K:=Y) (Q:=fun r=>r= .dev j) (Q2:=fun r=>r= .dev j) (N:=H.length) (n:=H.length) (k:=H1.length-H.length) (bz _) (fun _ h=>h);refine jg (me Y (fun r=>r= .dev j) H.length) [([],[]),([],[]),([],[]),([],[]),([],[]),([0,1,2],[1,2]),([0],[]),([],[]),([],[]),([],[]),([],[]),([],[]),([],[]),([],[]),([],[])] U (by simp only[jA,jy,cv,zz,gG,hw])
 all_goals simp only[go_sem,seval,h0]
end
end
end Go.Vm
end
