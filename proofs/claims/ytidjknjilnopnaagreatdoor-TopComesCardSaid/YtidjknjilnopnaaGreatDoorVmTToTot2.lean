/- Proved: laws of a machine of values; no conditions but each theorem's own. -/
import Derived.Below
import Derived.Test.YtidjknjilnopnaaGreatDoorVmZToVmS
set_option linter.unusedVariables false
set_option linter.unusedSimpArgs false
set_option maxRecDepth 20000
set_option maxHeartbeats 8000000
section
namespace Go.Vm
open Go.RowKit
def pO:aU->Prop
 |[]=>True
 |none::_=>False
 |some _::l=>pO l
def oe:aU->Prop
 |[]=>True
 |none::l=>oe l
 |some B::l=>B.ro=false/\oe l
theorem Lp:∀ {l:aU},pO l->∀ b,b<l.length->∃ B,ah l b=some B
 |none::_,h,_,_=>h.elim
 |some B::l,h,0,_=>⟨B,rfl⟩
 |some B::l,h,b+1,a=>by
  obtain⟨C,c⟩:=Lp (l:=l) h b (by simpa using a);exact⟨C,by simpa [ah] using c⟩
theorem Kg:∀ {l:aU},oe l->∀ (b:Nat) B,ah l b=some B->B.ro=false
 |[],_,b,B,h=>by simp[ah] at h
 |none::l,a,0,B,h=>by simp[ah] at h
 |none::l,a,b+1,B,h=>Kg (l:=l) a b B (by simpa [ah] using h)
 |some C::l,a,0,B,h=>by simp[ah] at h;subst h;exact a.1
 |some C::l,a,b+1,B,h=>Kg (l:=l) a.2 b B (by simpa [ah] using h)
theorem Vs {l:aU}{k:Nat}(h:oe (l.drop k))(b:Nat)(B:aa)(e:ah l b=some B)(a:k<=b):B.ro=false:=by
 refine Kg h (b-k) B ?_;unfold ah at e |-
 rw[mA,show k+(b-k)=b by omega];exact e
section
variable {P:Program}{m n:Nat}{R:Exit->St->Prop}{k:List Fr}{s:St}{l:List Oper}{ops:Array Oper}{dst:Option Tmp}
variable {f:FuncId}{fs cs args args0:List V}{v:V}{h h':aU}
def jJ (sg:List Nat)(nid:Nat)(v:V)(h':aU):bu:={v:=v.bd (bx (cu sg nid h')),pre:=True,fp:=sg,old:=gn (bx (cu sg nid h')) sg h',news:=iQ (bx (cu sg nid h')) sg h'}
theorem DZ (sg:List Nat)(o:bp P f args0 h v h')(hc:iu P f=true)(p:aW (bx sg) args0=fs++args++cs)(r:sg.length=h.length)(a:lows h.length args0)(g:sg.Nodup)
  (i:∀ b∈sg,b<s.H.length) (c:pO h) (d:lu (bx sg) h.length s h 0) (j:oe (h'.drop h.length)) (t:h.length<=h'.length):lQ P (.fn f fs cs) args (ah s.H) s.H.length (jJ sg s.H.length v h'):=
 .inl ⟨f,fs,cs,rfl,hc,trivial,by
  rw[<-p];exact TQ o r a g i (Lp c) (fun b B e=>by have :=CL d b B e;rw[eX] at this;exact this) (fun b B e q=>Vs j b B e q) t⟩
theorem fY (sg:List Nat)(j:bp P f args0 h v h')(hc:iu P f=true)(o:aW (bx sg) args0=fs++args++cs)(q:sg.length=h.length)(a:lows h.length args0)(e:sg.Nodup)
  (g:∀ b∈sg,b<s.H.length) (c:pO h) (d:lu (bx sg) h.length s h 0) (i:oe (h'.drop h.length)) (r:h.length<=h'.length)
  (p:kC P m n R l ops k (s.after dst (jJ sg s.H.length v h'))):s8 P m n R (.fn f fs cs) args dst l ops k s:=
 ⟨_,DZ sg j hc o q a e g c d i r,p⟩
theorem Bs {tr:Tr}(sg:List Nat)(j:bp P f args0 h v h')(hc:iu P f=true)(o:aW (bx sg) args0=fs++args++cs)(q:sg.length=h.length)(a:lows h.length args0)(e:sg.Nodup)
  (g:∀ b∈sg,b<s.H.length) (c:pO h) (d:lu (bx sg) h.length s h 0) (i:oe (h'.drop h.length)) (r:h.length<=h'.length)
  (p:(∀ x∈(jJ sg s.H.length v h').old,x.1<s.H.length)/\ml P m n R l (tr++[dt s (jJ sg s.H.length v h')]) ops k (s.after dst (jJ sg s.H.length v h'))):qo P m n R (.fn f fs cs) args dst l tr ops k s:=
 ⟨_,DZ sg j hc o q a e g c d i r,p⟩
theorem Fin.bd (sg:List Nat){v':V}(K:sg.length=h'.length)(hm:m<=sg.length)(D:sg.take m=List.range m)(p:sg.Nodup)(q:v'.bd (bx sg)=v/\v'.low h'.length)
  (E:lu (bx sg) h'.length s h' 0):Fin m v' h' v s:=by
 obtain⟨rfl,q⟩:=q;have t:∀ b,b<m->bx sg b=b:=fun b g=>by
  unfold bx;have N:(sg.take m)[b]?=some b:=by rw[D,tS g]
  rw[xX g] at N;rw[bY,N];rfl
 have j:∀ b c,b<h'.length->c<h'.length->b≠c->bx sg b≠bx sg c:=fun b c g F d e=>by
  have x:=rj (sg:=sg) (b:=b) I;have z:=rj (sg:=sg) (b:=c) I;rw[e] at x;rw[bn I] at x z;exact d ((GR p).1 (by rw[nc x,nc z]))
 have L:∀ b B,ah h' b=some B->ah s.H (bx sg b)=some ⟨B.ro,aW (bx sg) B.cs,B.mp⟩/\lows h'.length B.cs:=fun b B e=>by have :=CL E b B e;rw[eX] at this;exact this
 refine⟨I,fun O w r N M _=>⟨fun b=>O (bx sg b),N.nE q,?_,fun b g=>by show O (bx sg b)=O b;rw[t b g],fun b B e o=>⟨_,_,(L b B e).1,o,rfl⟩⟩⟩;refine⟨fun b B e=>b8 e,fun b B e=>M.lt _ _ (L b B e).1,fun b c B S e A o d=>M.inj _ _ _ _ (L b B e).1 (L c S A).1 o (j b c (b8 e) (b8 A) d),fun b B e i u Q=>?_,fun b B e o i T=>?_,fun b B W e y=>Bk (M.gY _ _ W (L b B e).1 y) (by show B.cs.length=(aW (bx sg) B.cs).length;rw[nk,cq])⟩
 .have G:(aW (bx sg) B.cs)[i]?=some (u.bd (bx sg)):=by rw[nk,dU,Q];rfl
  obtain⟨r,X,Y⟩:=M.cell _ _ (L b B e).1 i _ G;exact⟨r,X,Y.nE (DN (L b B e).2 Q)⟩
 .exact M.free _ _ (L b B e).1 o i (by show i<(aW (bx sg) B.cs).length;rw[nk,cq];exact T)
theorem QT (hc:iu P f=true)(H:lows 0 args)(j:v.low 0)
  (x:∀ (w:World) (c:Array Value),ao (fun _=>(0,0)) (fun _=>False) w args c.toList->Calls P f c w fun e w'=>∃ r,e= .returned r/\VR (fun _=>(0,0)) (fun _=>False) w' v r/\Below w.heap.size w w'):bE P f args v:=by
 refine Es hc H fun M w c z S=>?_
 have C:ao (fun _=>(0,0)) (fun _=>False) w args c.toList:=z.mono (fun b (j:b<0)=>by omega) (fun b (j:b<0)=>by omega) (cN.refl _);refine(x w c C).mono ?_;rintro e w' ⟨r,rfl,O,L⟩;have d:∀ p:Addr,p.block<w.heap.size->w'.cell? p=w.cell? p:=fun p D=>L.cell D
 have g:∀ p:Addr,p.block<w.heap.size->w'.frozen? p=w.frozen? p:=fun p D=>L.frozen D
 refine⟨r,M,rfl,O.mono (fun b j=>j.elim) (fun b j=>j.elim) (cN.refl _),⟨fun b B e=>by simp[ah] at e,fun b B e=>by simp[ah] at e,fun b K B T e=>by simp[ah] at e,fun b B e=>by simp[ah] at e,fun b B e=>by simp[ah] at e,fun b B W e=>by simp[ah] at e⟩,bz _,fun _ _=>rfl,?_⟩;refine⟨L.os,L.output,L.tape,L.size,fun r z _=>L.block r z,fun b o x=>?_,fun b B e=>by simp[ah] at e⟩;have t:b<w.heap.size:=by
  obtain⟨u,Q⟩:=wn.1 x;exact Ek (a:=⟨b,o,none⟩) w Q
 exact⟨by rw[d ⟨b,o,none⟩ t];exact x,fun N=>by rw[g ⟨b,o,none⟩ t];exact N⟩
end
theorem adQ (a:Nat->Nat)(i:Nat)(sg:List Nat)(x:Option aa)(h:aU):gn a (i::sg) (x::h)=(i,ik a x)::gn a sg h:=by rw[gn]
theorem aj6 (a:Nat->Nat)(h:aU):gn a [] h=[]:=by unfold gn;rfl
theorem aal (a:Nat->Nat)(i:Nat)(sg:List Nat)(x:Option aa)(h:aU):iQ a (i::sg) (x::h)=iQ a sg h:=rfl
theorem ahJ (a:Nat->Nat)(h:aU):iQ a [] h=h.map (ik a):=rfl
theorem ZR (a:Nat->Nat)(ro:Bool)(cs:List V)(mp:Option aV):ik a (some ⟨ro,cs,mp⟩)=some ⟨ro,aW a cs,mp⟩:=rfl
theorem ac2 (a:Nat->Nat):ik a none=none:=rfl
theorem RQ (i:Nat)(l:List Nat):bx (i::l) 0=i:=rfl
theorem LC (i:Nat)(l:List Nat)(b:Nat):bx (i::l) (b+1)=bx l b:=rfl
theorem L8 (a:Nat->Nat)(N:Nat)(s:St)(i:Nat):lu a N s [] i=True:=rfl
theorem QD (a:Nat->Nat)(N:Nat)(s:St)(l:aU)(i:Nat):lu a N s (none::l) i=lu a N s l (i+1):=rfl
theorem NJ (a:Nat->Nat)(N:Nat)(s:St)(B:aa)(l:aU)(i:Nat):lu a N s (some B::l) i=((ah s.H (a i)=some ⟨B.ro,aW a B.cs,B.mp⟩/\lows N B.cs)/\lu a N s l (i+1)):=rfl
theorem BE {α:Type}(b:Nat->Nat)(mk:α->V)(a:∀ x,(mk x).bd b=mk x)(l:List α):aW b (l.map mk)=l.map mk:=by
 rw[nk,pQ];exact sJ fun x _=>a x
theorem u9 {α:Type}(N:Nat)(mk:α->V)(a:∀ x,(mk x).low N)(l:List α):lows N (l.map mk):=by
 induction l with
 |nil=>trivial
 |cons x l ih=>exact⟨a x,ih⟩
theorem Pf (a:Nat->Nat)(l:Z):aW a (l.map .u8)=l.map .u8:=BE a _ (fun _=>by unfold V.bd;rfl) l
theorem S8 (a:Nat->Nat)(l:List aQ):aW a (l.map .u32)=l.map .u32:=BE a _ (fun _=>by unfold V.bd;rfl) l
theorem Qe (a:Nat->Nat)(l:List aS):aW a (l.map .u64)=l.map .u64:=BE a _ (fun _=>by unfold V.bd;rfl) l
theorem Oe (a:Nat->Nat)(l:List Int):aW a (l.map .i64)=l.map .i64:=BE a _ (fun _=>by unfold V.bd;rfl) l
theorem Oh (a:Nat->Nat)(l:List Z):aW a (l.map .str)=l.map .str:=BE a _ (fun _=>by unfold V.bd;rfl) l
theorem Lt (N:Nat)(l:Z):lows N (l.map .u8)=True:=gg (u9 N _ (fun _=>by simp[V.low]) l)
theorem Cf (N:Nat)(l:List aQ):lows N (l.map .u32)=True:=gg (u9 N _ (fun _=>by simp[V.low]) l)
theorem rG (N:Nat)(l:List aS):lows N (l.map .u64)=True:=gg (u9 N _ (fun _=>by simp[V.low]) l)
theorem ON (N:Nat)(l:List Int):lows N (l.map .i64)=True:=gg (u9 N _ (fun _=>by simp[V.low]) l)
theorem Oi (N:Nat)(l:List Z):lows N (l.map .str)=True:=gg (u9 N _ (fun _=>by simp[V.low]) l)
attribute [go_sem] jJ adQ aj6 aal ahJ ZR ac2 RQ LC cu Pf S8 Qe Oe Oh Lt Cf rG ON Oi V.bd aW pO oe L8 QD NJ List.range'_succ
theorem VB (c:Nat->Nat)(a b:List V):aW c (a++b)=aW c a++aW c b:=by rw[nk,nk,nk,lw]
theorem vj (N:Nat):∀ a b:List V,lows N (a++b)=(lows N a/\lows N b)
 |[],b=>by simp[lows]
 |x::a,b=>by rw[kG,lows,vj N a b,lows,and_assoc]
theorem abd:((some true:Option Bool)==some true)=true:=rfl
theorem abi:((some true:Option Bool)==some false)=false:=rfl
theorem aem:((some false:Option Bool)==some true)=false:=rfl
theorem Z1:((some false:Option Bool)==some false)=true:=rfl
attribute [go_sem] DM wE abd abi aem Z1
theorem wZ {s:List aQ}{i:Nat}(h:i<s.length):(s.map V.u32).getD i .bH= .u32 (s.getD i 0):=by
 rw[bY,bY,dU,bn h];rfl
theorem k9 {s:List aS}{i:Nat}(h:i<s.length):(s.map V.u64).getD i .bH= .u64 (s.getD i 0):=by
 rw[bY,bY,dU,bn h];rfl
theorem UU (s:List aQ)(i:Nat)(x:aQ):(s.map V.u32).set i (.u32 x)=(s.set i x).map V.u32:=wm.symm
theorem ahD (s:List aS)(i:Nat)(x:aS):(s.map V.u64).set i (.u64 x)=(s.set i x).map V.u64:=wm.symm
theorem agn (s:List Int)(i:Nat)(x:Int):(s.map V.i64).set i (.i64 x)=(s.set i x).map V.i64:=wm.symm
theorem WQ (s:List aQ)(i:Nat):(s.map V.u32).take i=(s.take i).map V.u32:=sS.symm
theorem ada (s:List aS)(i:Nat):(s.map V.u64).take i=(s.take i).map V.u64:=sS.symm
theorem acH (s:List Int)(i:Nat):(s.map V.i64).take i=(s.take i).map V.i64:=sS.symm
theorem X6 (s:List Z)(i:Nat):(s.map V.str).take i=(s.take i).map V.str:=sS.symm
theorem Yi (s:List aQ)(i:Nat):(s.map V.u32).drop i=(s.drop i).map V.u32:=ve.symm
theorem Ut (s:List aS)(i:Nat):(s.map V.u64).drop i=(s.drop i).map V.u64:=ve.symm
theorem ach (s:List Int)(i:Nat):(s.map V.i64).drop i=(s.drop i).map V.i64:=ve.symm
theorem ace (s:List Z)(i:Nat):(s.map V.str).drop i=(s.drop i).map V.str:=ve.symm
theorem aev (s t:List aQ):s.map V.u32++t.map V.u32=(s++t).map V.u32:=lw.symm
theorem Zs (s t:List aS):s.map V.u64++t.map V.u64=(s++t).map V.u64:=lw.symm
theorem WL (s t:List Int):s.map V.i64++t.map V.i64=(s++t).map V.i64:=lw.symm
theorem J0 {α:Type}(mk:α->V)(a:∀ x,(mk x).one=true)(s:List α):(∀ v∈s.map mk,v.one=true)=True:=by
 refine propext ⟨fun _=>trivial,fun _ v b=>?_⟩;obtain⟨x,_,rfl⟩:=eZ.1 b;exact a x
theorem aeg (s:List aQ):(∀ v∈s.map V.u32,v.one=true)=True:=J0 _ (fun _=>rfl) s
theorem YC (s:List aS):(∀ v∈s.map V.u64,v.one=true)=True:=J0 _ (fun _=>rfl) s
theorem agv (s:List Int):(∀ v∈s.map V.i64,v.one=true)=True:=J0 _ (fun _=>rfl) s
attribute [go_sem] UU ahD agn WQ ada acH X6 Yi Ut ach ace aev Zs WL aeg YC agv
theorem af3 (s:Z)(x:BitVec 8):s.map V.u8++[.u8 x]=(s++[x]).map V.u8:=J
theorem abb (s:List aQ)(x:aQ):s.map V.u32++[.u32 x]=(s++[x]).map V.u32:=J
theorem aaV (s:List aS)(x:aS):s.map V.u64++[.u64 x]=(s++[x]).map V.u64:=J
theorem ajw (s:List Int)(x:Int):s.map V.i64++[.i64 x]=(s++[x]).map V.i64:=J
theorem agV (s:List Z)(x:Z):s.map V.str++[.str x]=(s++[x]).map V.str:=J
attribute [go_sem] af3 abb aaV ajw agV
end Go.Vm
namespace Go.Vm
section
variable {P:Program}{m n:Nat}{R:Exit->St->Prop}{k:List Fr}{s:St}{l:List Oper}{ops:Array Oper}{dst:Option Tmp}
variable {f:FuncId}{fs cs args args0:List V}{v:V}{h h':aU}
theorem am (sg:List Nat)(j:bp P f args0 h v h')(o:kC P m n R l ops k (s.after dst (jJ sg s.H.length v h')))(hc:iu P f=true:=by kernel_rfl)(p:aW (bx sg) args0=fs++args++cs:=by simp)(q:sg.length=h.length:=by rfl)(a:lows h.length args0:=by simp)(e:sg.Nodup:=by first|decide|simp)
  (g:∀ b∈sg,b<s.H.length:=by simp) (c:pO h:=by simp) (d:lu (bx sg) h.length s h 0:=by simp) (i:oe (h'.drop h.length):=by simp) (r:h.length<=h'.length:=by simp):s8 P m n R (.fn f fs cs) args dst l ops k s:=fY sg j hc p q a e g c d i r o
theorem az {tr:Tr}(sg:List Nat)(j:bp P f args0 h v h')(o:(∀ x∈(jJ sg s.H.length v h').old,x.1<s.H.length)/\ml P m n R l (tr++[dt s (jJ sg s.H.length v h')]) ops k (s.after dst (jJ sg s.H.length v h')))(hc:iu P f=true:=by kernel_rfl)(p:aW (bx sg) args0=fs++args++cs:=by simp)(q:sg.length=h.length:=by rfl)(a:lows h.length args0:=by simp)(e:sg.Nodup:=by first|decide|simp)
  (g:∀ b∈sg,b<s.H.length:=by simp) (c:pO h:=by simp) (d:lu (bx sg) h.length s h 0:=by simp) (i:oe (h'.drop h.length):=by simp) (r:h.length<=h'.length:=by simp):qo P m n R (.fn f fs cs) args dst l tr ops k s:=Bs sg j hc p q a e g c d i r o
end
end Go.Vm
end
section
namespace Go.Vm
section
open Go
def bu.read (r:bu):bu:={r with old:=[]}
theorem UN {get:Nat->Option aa}{b:Nat}:∀ {old:List (Nat×Option aa)} (_:∀ x∈old,get x.1=x.2),lz old b (get b)=get b:=fun {old} h=>by
 induction old with
 |nil=>rfl
 |cons x l ih=>
  obtain⟨i,o⟩:=x;have c:=h (i,o) pA;have d:=ih fun y a=>h y (mr _ a)
  unfold lz;split
  .rename_i e;first
    |(rw[<-c];simp_all)
    |simp_all
  .exact d
theorem ajR {get:Nat->Option aa}{old:List (Nat×Option aa)}{nid:Nat}{a:aU}(h:∀ x∈old,get x.1=x.2):eu get old nid a=eu get [] nid a:=by
 funext b;unfold eu;rw[UN h];rfl
section
variable {P:Program}{m n:Nat}{R:Exit->St->Prop}{k:List Fr}{s:St}{l:List Oper}{ops:Array Oper}{dst:Option Tmp}
variable {f:FuncId}{fs cs args args0:List V}{v:V}{h h':aU}
theorem Spec.read {get0:Nat->Option aa}{nid:Nat}{r:bu}(o:Spec P f args get0 nid r)(A:∀ x∈r.old,x.1∈r.fp/\get0 x.1=x.2):Spec P f args get0 nid r.read:=by
 intro B y u w a C p c d;refine(o B y u w a C p c d).mono ?_;have b:eu u r.old nid r.news=eu u [] nid r.news:=ajR fun x g=>by rw[(c _ (A x g).1).1];exact(A x g).2
 rintro e F ⟨q,z,D,E,i,t,j⟩;rw[b] at i j;exact⟨q,z,D,E,i,t,j⟩
theorem lQ.read {c:V}{get0:Nat->Option aa}{nid:Nat}{r:bu}(d:lQ P c args get0 nid r)(o:∀ x∈r.old,x.1∈r.fp/\get0 x.1=x.2):lQ P c args get0 nid r.read:=by
 rcases d with⟨f,fs,cs,i,j,a,b⟩|⟨f,fs,cs,i,_,a,b⟩|⟨e,t,v,f,i,j,a,b,g⟩
 .exact .inl ⟨f,fs,cs,i,j,a,b.read o⟩
 .exact .inr (.inl ⟨f,fs,cs,i,rfl,a,b⟩)
 .exact .inr (.inr ⟨e,t,v,f,i,j,a,b,g.read o⟩)
theorem AN {tr:Tr}(sg:List Nat)(j:bp P f args0 h v h')(hc:iu P f=true)(o:aW (bx sg) args0=fs++args++cs)(r:sg.length=h.length)(a:lows h.length args0)(e:sg.Nodup)
  (g:∀ b∈sg,b<s.H.length) (c:pO h) (d:lu (bx sg) h.length s h 0) (i:oe (h'.drop h.length)) (t:h.length<=h'.length)
  (u:∀ x∈(jJ sg s.H.length v h').old,x.1∈sg/\ah s.H x.1=x.2)
  (p:ml P m n R l (tr++[dt s (jJ sg s.H.length v h').read]) ops k (s.after dst (jJ sg s.H.length v h').read)):qo P m n R (.fn f fs cs) args dst l tr ops k s:=
 ⟨_,(DZ sg j hc o r a e g c d i t).read u,fun x q=>by simp[bu.read] at q,p⟩
end
attribute [go_sem] bu.read
end
section
mutual
theorem V.ER {σ:Nat->Nat}{n:Nat}(h:∀ b,b<n->σ b=b):∀ (v:V),v.low n->v.bd σ=v
 | .bH,_| .bool _,_| .u8 _,_| .u32 _,_| .u64 _,_| .i64 _,_| .i32 _,_| .str _,_| .nilPtr,_| .bG,_| .ff,_| .nilIface,_=>by unfold V.bd;rfl
 | .iV _ _ v,hb=>by unfold V.low at hb;unfold V.bd;rw[V.ER h v hb]
 | .ptr b _,hb=>by unfold V.low at hb;unfold V.bd;rw[h b hb]
 | .map b,hb=>by unfold V.low at hb;unfold V.bd;rw[h b hb]
 | .slice b _ _ _,hb=>by unfold V.low at hb;unfold V.bd;rw[h b hb]
 | .fn _ fs cs,hb=>by unfold V.low at hb;unfold V.bd;rw[wu h fs hb.1,wu h cs hb.2]
 | .agg cs,hb=>by unfold V.low at hb;unfold V.bd;rw[wu h cs hb]
 | .aZ cs,hb=>by unfold V.low at hb;unfold V.bd;rw[wu h cs hb]
 | .iface _ v,hb=>by unfold V.low at hb;unfold V.bd;rw[V.ER h v hb]
theorem wu {σ:Nat->Nat}{n:Nat}(h:∀ b,b<n->σ b=b):∀ (l:List V),lows n l->aW σ l=l
 |[],_=>by unfold aW;rfl
 |v::l,hb=>by unfold lows at hb;unfold aW;rw[V.ER h v hb.1,wu h l hb.2]
end
mutual
theorem V.GU {n n':Nat}(h:n<=n'):∀ (v:V),v.low n->v.low n'
 | .bH,_| .bool _,_| .u8 _,_| .u32 _,_| .u64 _,_| .i64 _,_| .i32 _,_| .str _,_| .nilPtr,_| .bG,_| .ff,_| .nilIface,_=>by unfold V.low;trivial
 | .iV _ _ v,hb=>by unfold V.low at*;exact V.GU h v hb
 | .ptr b _,hb=>by unfold V.low at*;omega
 | .map b,hb=>by unfold V.low at*;omega
 | .slice b _ _ _,hb=>by unfold V.low at*;omega
 | .fn _ fs cs,hb=>by unfold V.low at*;exact⟨rS h fs hb.1,rS h cs hb.2⟩
 | .agg cs,hb=>by unfold V.low at*;exact rS h cs hb
 | .aZ cs,hb=>by unfold V.low at*;exact rS h cs hb
 | .iface _ v,hb=>by unfold V.low at*;exact V.GU h v hb
theorem rS {n n':Nat}(h:n<=n'):∀ (l:List V),lows n l->lows n' l
 |[],_=>trivial
 |v::l,hb=>⟨V.GU h v hb.1,rS h l hb.2⟩
end
def cZ (H:aU):Prop:=∀ b B,ah H b=some B->lows H.length B.cs/\B.ro=B.ro
theorem P7 (n:Nat):(List.range n).Nodup:=by
 refine List.pairwise_iff_getElem.2 fun i j c b a e=>?_
 simp at e;omega
theorem Fy {n b:Nat}(h:b<n):bx (List.range n) b=b:=by
 unfold bx;rw[bY,tS h];rfl
theorem QA {H H':aU}{b:Nat}(a:b<H'.length):bx (cu (List.range H.length) H.length H') b=b:=by
 unfold cu;by_cases h:b<H.length
 .rw[AP (by simpa using h),Fy h]
 .rw[z8 cp cp];simp;omega
theorem fJ {H:aU}{b:Nat}(h:b<H.length)(X:aU):ah (H++X) b=ah H b:=by
 unfold ah;rw[kY h]
theorem TW {H:aU}{b:Nat}(h:H.length<=b):ah H b=none:=by
 unfold ah;rw[iW h];rfl
theorem Pj {H:aU}{b:Nat}(h:H.length<=b)(X:aU):ah (H++X) b=ah X (b-H.length):=by
 unfold ah;rw[iy h]
theorem qb (H:aU)(x:Option aa)(X:aU):ah (H++x::X) H.length=x:=by
 rw[Pj (bz _),k8];rfl
theorem dr {H:aU}{b:Nat}(h:b<H.length)(x:Option aa):ah (H.set b x) b=x:=by
 unfold ah;rw[kF h];simp
theorem eA {H:aU}{b c:Nat}(h:c≠b)(x:Option aa):ah (H.set c x) b=ah H b:=by
 unfold ah;rw[mV h]
theorem U9 {H H':aU}(a:H.length=H'.length)(h:∀ b,b<H.length->ah H b=ah H' b):H=H':=by
 refine C1 a fun i c d=>?_
 have :=h i c;unfold ah at this;rw[bn c,bn d] at this;simpa using this
section
variable {P:Program}{m n:Nat}{R:Exit->St->Prop}{k:List Fr}{l:List Oper}{ops:Array Oper}{dst:Option Tmp}
variable {f:FuncId}{fs cs args args1:List V}{v:V}{H H':aU}
def rL (H H':aU)(W:List Nat)(v:V):bu:={v:=v,pre:=True,fp:=List.range H.length,old:=W.map fun b=>(b,ah H' b),news:=H'.drop H.length}
theorem EC {g:Nat->Option aa}{b:Nat}{d:Option aa}:∀ {W:List Nat},lz (W.map fun b=>(b,g b)) b d=if b∈W then g b else d
 |[]=>rfl
 |i::W=>by
  simp only[dD,lz,gz];by_cases h:b=i
  .subst h;simp
  .rw[aq h,EC];simp[h]
theorem aj7 (W:List Nat)(K:bp P f args H v H')(d:lows H.length args)(L:cZ H)(y:cZ H')(M:v.low H'.length)(T:H.length<=H'.length)(N:∀ b,b<H.length->b∉W->ah H' b=ah H b)(z:∀ b∈W,b<H.length)(A:∀ b B,ah H' b=some B->(H.length<=b\/ah H b=none)->B.ro=false):
  Spec P f args (ah H) H.length (rL H H' W v):=by
 have j:=G5 (sg:=List.range H.length) (get0:=ah H) (nid:=H.length) K J d (P7 _) (fun b a=>by simpa using a) (fun b B e=>by
  have a:=b8 e;have F:=(L b B e).1;rw[Fy a,wu (fun c Q=>Fy Q) _ F];exact⟨e,F⟩) A T
 rw[wu (fun c Q=>Fy Q) _ d,V.ER (fun c Q=>QA Q) _ M] at j;have g:∀ x∈H',ik (bx (cu (List.range H.length) H.length H')) x=x:=fun x C=>by
  cases x with
  |none=>rfl
  |some B=>
   obtain⟨i,hi⟩:=List.getElem?_of_mem C;have e:ah H' i=some B:=by unfold ah;rw[hi];rfl
   show some (aa.mk _ _ _)=_;rw[wu (fun c Q=>QA Q) _ (y i B e).1]
 have o:iQ (bx (cu (List.range H.length) H.length H')) (List.range H.length) H'=H'.drop H.length:=by
  rw[vA,CO]
  conv=>rhs;rw[<-zM (H'.drop H.length)]
  exact sJ fun x C=>g x (HJ C)
 rw[o] at j;intro ρ Y S w p hm O t u;refine(j ρ Y S w p hm O t u).mono ?_;have q:eu S (gn (bx (cu (List.range H.length) H.length H')) (List.range H.length) H') H.length (H'.drop H.length)=eu S (W.map fun b=>(b,ah H' b)) H.length (H'.drop H.length):=by
  funext b;unfold eu;split
  .rfl
  .rw[EC];by_cases a:b<H.length
   .rw[BB (P7 _) (i:=b) (tS a) I];have X:ik (bx (cu (List.range H.length) H.length H')) (H'[b]?).join=ah H' b:=by
     unfold ah;rw[bn I];exact g _ (eM _)
    rw[X];by_cases s:b∈W
    .rw[aM s]
    .rw[aq s,N b a s];exact((t b (by show b∈List.range _;simpa using a)).1).symm
   .rw[zP (by simpa using a),aq fun h=>a (z b h)]
 rintro e w' ⟨r,a6,h1,X,D,G,E⟩;simp only at D G E;rw[q] at D E;exact⟨r,a6,h1,X,D,G,E⟩
theorem Iy {t:List (Nat×V)}(e:H.length<=H'.length){W:List Nat}(c:∀ b,b<H.length->b∉W->ah H' b=ah H b):St.after ⟨t,H⟩ dst (rL H H' W v)=⟨di t dst v,H'⟩:=by
 show St.mk (di t dst v) (fX H (W.map fun b=>(b,ah H' b))++H'.drop H.length)=_;congr 1;refine U9 (by rw[bA,jE,dO];omega) fun b d=>?_
 rw[bA,jE,dO] at d;by_cases h:b<H.length
 .rw[fJ (by rw[jE];exact h),uH _ _ _ h,EC];by_cases a:b∈W
  .rw[aM a]
  .rw[aq a,c b h a]
 .rw[Pj (by rw[jE];omega),jE];unfold ah;rw[mA,show H.length+(b-H.length)=b by omega]
structure Whole (P:Program) (f:FuncId) (args:List V) (H:aU) (v:V) (H':aU) (W:List Nat):Prop where
 spec:bp P f args H v H'
 le:H.length<=H'.length
 args:lows H.length args
 bD:cZ H
 PD:cZ H'
 low:v.low H'.length
 de:∀ b,b<H.length->b∉W->ah H' b=ah H b
 Ev:∀ b∈W,b<H.length
 x7:∀ b B,ah H' b=some B->(H.length<=b\/ah H b=none)->B.ro=false
theorem Whole.nO {W:List Nat}(h:Whole P f args H v H' W)(hc:iu P f=true)(a:args=fs++args1++cs):lQ P (.fn f fs cs) args1 (ah H) H.length (rL H H' W v):=
 .inl ⟨f,fs,cs,rfl,hc,trivial,by rw[<-a];exact aj7 W h.spec h.args h.bD h.PD h.low h.le h.de h.Ev h.x7⟩
theorem YJ {t:List (Nat×V)}{W:List Nat}(h:Whole P f args H v H' W)(hc:iu P f=true)(a:args=fs++args1++cs)(b:kC P m n R l ops k ⟨di t dst v,H'⟩):s8 P m n R (.fn f fs cs) args1 dst l ops k ⟨t,H⟩:=by
 refine⟨_,h.nO hc a,?_⟩;show gj P n ops l (St.after ⟨t,H⟩ dst (rL H H' W v)) _;rw[Iy h.le h.de];exact b
theorem afk {t:List (Nat×V)}{W:List Nat}{tr:Tr}(h:Whole P f args H v H' W)(hc:iu P f=true)(a:args=fs++args1++cs)
  (c:ml P m n R l (tr++[(List.range H.length,W++List.range' H.length (H'.length-H.length))]) ops k ⟨di t dst v,H'⟩):qo P m n R (.fn f fs cs) args1 dst l tr ops k ⟨t,H⟩:=by
 refine⟨_,h.nO hc a,fun x d=>?_,?_⟩
 .obtain⟨b,e,rfl⟩:=eZ.1 d;exact h.Ev b e
 .have g:dt ⟨t,H⟩ (rL H H' W v)=(List.range H.length,W++List.range' H.length (H'.length-H.length)):=by
   unfold dt rL;simp only[pQ,dO];congr 2
   conv=>rhs;rw[<-zM W]
   rfl
  show kI P n ops _ l (tr++[dt ⟨t,H⟩ (rL H H' W v)]) (St.after ⟨t,H⟩ dst (rL H H' W v));rw[Iy h.le h.de,g];exact c
end
end
section
def eG {α:Type}(mk:α->V)(n:Nat)(cs:List V):Prop:=∃ a:List α,a.length=n/\cs=a.map mk
variable {α:Type}{mk:α->V}
theorem eG.set {n:Nat}{cs:List V}(h:eG mk n cs)(i:Nat)(x:α):eG mk n (cs.set i (mk x)):=by
 obtain⟨a,b,rfl⟩:=h;exact⟨a.set i x,by simpa using b,by rw[wm]⟩
theorem eG.get {n:Nat}{cs:List V}(h:eG mk n cs){i:Nat}(hi:i<n):∃ x,cs.getD i .bH=mk x:=by
 obtain⟨a,b,rfl⟩:=h;refine⟨a[i]'(I),?_⟩;rw[bY,dU,bn I];rfl
theorem eG.len {n:Nat}{cs:List V}(h:eG mk n cs):cs.length=n:=by
 obtain⟨b,a,rfl⟩:=h;simpa using a
theorem eG.rep (n:Nat)(x:α):eG mk n (List.replicate n (mk x)):=⟨List.replicate n x,J,J⟩
theorem eG.cC {n k:Nat}{cs xs:List V}(h:eG mk n cs)(a:eG mk k xs){o:Nat}(i:o+k<=n):eG mk n (cC cs o xs):=by
 have c:=h.len;have d:=a.len;have b:=xT (cs:=cs) (o:=o) (xs:=xs) I;obtain⟨e,g,rfl⟩:=h;obtain⟨f,j,rfl⟩:=a
 match f with
 |[]=>
  refine⟨e,g,?_⟩;rw[gi,Ka,jn,nJ,yr]
 |[y]=>exact⟨e.set o y,by simpa using g,by rw[dD,gi,Kz,wm]⟩
 |y::z::f=>
  refine⟨e.take o++(y::z::f)++e.drop (o+(y::z::f).length),?_,?_⟩
  .simp only[bA,cF,dO] at*;simp only[dM] at*;omega
  .rw[dD,dD,Et,lw,lw,sS,ve];simp
theorem Ec {n:Nat}(h:∀ x,(mk x).low n):∀ (bs:List α),lows n (bs.map mk)
 |[]=>trivial
 |b::bs=>⟨h b,Ec h bs⟩
theorem eG.low {n k:Nat}{cs:List V}(h:eG mk k cs)(a:∀ x,(mk x).low n):lows n cs:=by
 obtain⟨b,-,rfl⟩:=h;exact Ec a b
end
section
section
variable {P:Program}{m n:Nat}{R:Exit->St->Prop}{k:List Fr}{s:St}{l:List Oper}{ops:Array Oper}{dst:Option Tmp}
variable {f:FuncId}{fs cs args:List V}{h:aU}
theorem jl {Post:V->Prop}(b:∃ v,bE P f args v/\Post v)(a:∀ v,Post v->kC P m n R l ops k (s.put dst v)):s8 P m n R (.fn f [] []) args dst l ops k s:=by
 obtain⟨v,c,d⟩:=b;exact br c (a v d)
theorem xe {tr:Tr}{Post:V->Prop}(b:∃ v,bE P f args v/\Post v)(a:∀ v,Post v->ml P m n R l (tr++[([],[])]) ops k (s.put dst v)):qo P m n R (.fn f [] []) args dst l tr ops k s:=by
 obtain⟨v,c,d⟩:=b;exact bZ c (a v d)
theorem kg (a:P.follows .mixedOrders=true){fn:Func}{c:Code}{Post:V->aU->Prop}(C:P.funcs[f]?=some fn)(j:fn.body=some c)(o:args.length<=fn.ntmps)
  (p:vc P h.length fn.ntmps c (gV P fn fun v s=>∃ v' h',Post v' h'/\Fin h.length v' h' v s) ⟨jX args 0,h⟩):∃ v h',bp P f args h v h'/\Post v h':=by
 obtain⟨v,K,L,⟨v',h',E,q⟩,r⟩:=Gm (s:=⟨jX args 0,h⟩) (bz _) p;refine⟨v',h',Fp a C j o (mT c _ _ _ (fun e s t=>EJ (fun G H u=>?_) t) r),E⟩;obtain⟨rfl,rfl⟩:=u;exact q
end
theorem ll {α:Type}(mk:α->V)(d:α)(a:List α)(i:Nat):(a.map mk).getD i .bH=if i<a.length then mk (a.getD i d) else .bH:=by
 rw[bY,bY,dU];by_cases h:i<a.length
 .rw[aM h,bn h];rfl
 .rw[aq h,iW I];rfl
theorem qG {α:Type}(mk:α->V)(a:List α)(i:Nat)(x:α):(a.map mk).set i (mk x)=(a.set i x).map mk:=by rw[wm]
end
end Go.Vm
end
section
namespace Go.Vm
def tQ {α:Type}(a:List α)(o:Nat)(xs:List α):List α:=a.take o++xs++a.drop (o+xs.length)
theorem UZ {α:Type}{a:List α}{o:Nat}{xs:List α}(h:o+xs.length<=a.length):(tQ a o xs).length=a.length:=by
 unfold tQ;simp;omega
theorem G8 {α:Type}(a:List α)(o:Nat)(xs:List α):(tQ a o xs).length=min o a.length+xs.length+(a.length-(o+xs.length)):=by unfold tQ;simp;omega
theorem KC {α:Type}(mk:α->V)(a:List α)(o:Nat)(xs:List α)(h:o+xs.length<=a.length):cC (a.map mk) o (xs.map mk)=(tQ a o xs).map mk:=by
 match xs with
 |[]=>rw[gi,Ka];simp[tQ]
 |[y]=>
  rw[dD,gi,Kz,<-wm];congr 1;unfold tQ;rw[List.set_eq_take_append_cons_drop,aM (by simp at h;omega)];simp
 |y::z::b=>
  rw[dD,dD,Et];unfold tQ;rw[lw,lw,sS,ve];simp
theorem B8:[V.u32 0#32,V.u32 0#32,V.u32 0#32,V.u32 0#32,V.u32 0#32,V.u32 0#32,V.u32 0#32,V.u32 0#32]=(List.replicate 8 0#32).map V.u32:=rfl
theorem Ri:[V.u32 0#32,V.u32 0#32,V.u32 0#32,V.u32 0#32,V.u32 0#32,V.u32 0#32,V.u32 0#32,V.u32 0#32,V.u32 0#32,V.u32 0#32,V.u32 0#32,V.u32 0#32,V.u32 0#32,V.u32 0#32,V.u32 0#32,V.u32 0#32]=(List.replicate 16 0#32).map V.u32:=rfl
end Go.Vm
namespace Go.Vm
section
variable {P:Program}{m n:Nat}{R:Exit->St->Prop}{k:List Fr}{c:Code}{p:Prop}[Decidable p]
theorem XB {s1 s2:St}(h:∀ s,s=s1\/s=s2->go P m n R c k s):if p then go P m n R c k s1 else go P m n R c k s2:=by
 split
 .exact h _ (.inl rfl)
 .exact h _ (.inr rfl)
end
theorem iq {i:Nat}(h:i<1000000000000):bh ((i:Int)+1)=((i+1:Nat):Int):=by rw[bC I I];omega
end Go.Vm
namespace Go.Vm
def blksLow (N:Nat):aU->Prop
 |[]=>True
 |none::l=>blksLow N l
 |some B::l=>lows N B.cs/\blksLow N l
theorem EF {N:Nat}:∀ {l:aU},blksLow N l->∀ b B,ah l b=some B->lows N B.cs
 |[],_,b,B,h=>by simp[ah] at h
 |none::l,a,0,B,h=>by simp[ah] at h
 |none::l,a,b+1,B,h=>EF (l:=l) a b B (by simpa [ah] using h)
 |some C::l,a,0,B,h=>by simp[ah] at h;subst h;exact a.1
 |some C::l,a,b+1,B,h=>EF (l:=l) a.2 b B (by simpa [ah] using h)
theorem aag (N:Nat):blksLow N []=True:=rfl
theorem agN (N:Nat)(l:aU):blksLow N (none::l)=blksLow N l:=rfl
theorem XR (N:Nat)(B:aa)(l:aU):blksLow N (some B::l)=(lows N B.cs/\blksLow N l):=rfl
attribute [go_sem] aag agN XR
def hY (d:List Nat)(nb:Nat)(s:St):St:=⟨d.map fun t=>(t,s.get t),s.H.take nb⟩
def lowSl (a:Nat)(s:St):List Nat->Prop
 |[]=>True
 |t::l=>(s.get t).low a/\lowSl a s l
theorem N8 {a:Nat}{s:St}:∀ {l:List Nat},lowSl a s l->∀ t∈l,(s.get t).low a
 |[],_,_,h=>by cases h
 |x::l,h,t,ht=>by
  rcases gz.1 ht with e|ht
  .rw[e];exact h.1
  .exact N8 h.2 t ht
section
variable {m n:Nat}{s:St}{Z99:Nat->St->Prop}{k:Nat}
theorem bJ.pick (a:List Nat)(o:Nat)(r:m<=o)(j:o<=s.H.length)(ht:lowSl o s a)(g:blksLow o (s.H.take o)):bJ m n s (hY a o s):=by
 have l:(hY a o s).H.length=o:=by unfold hY;simp;omega
 refine⟨fun _=>by rw[l];exact r,bJ.rename (s:=s) (s':=hY a o s) id (by rw[l];exact r) (fun _ _=>rfl) (fun p f=>?_) (fun b B e=>?_) (fun _ _ _ _ h=>h)⟩
 .unfold hY at f;obtain⟨t,d,rfl⟩:=eZ.1 f;rw[l];exact⟨V.Bx _,N8 ht t d⟩
 .have q:ah (s.H.take o) b=some B:=e;have i:b<o:=by have :=b8 q;simp at this;omega
  rw[l,xE];refine⟨?_,EF g b B q⟩;unfold ah at q |-
  rw[xX i] at q;exact q
theorem sv (a:Nat)(b:List Nat)(g:Nat)(d:a<k)(h:m<=g)(e:g<=s.H.length)(ht:lowSl g s b)(f:blksLow g (s.H.take g))(hi:Z99 a (hY b g s)):nV m n Z99 k s:=
 ⟨a,_,d,bJ.pick b g h e ht f,hi⟩
theorem qL (k:Nat)(a:List Nat)(e:Nat)(f:m<=e)(b:e<=s.H.length)(ht:lowSl e s a)(d:blksLow e (s.H.take e))(hi:Z99 k (hY a e s)):∃ k s0,bJ m n s s0/\Z99 k s0:=
 ⟨k,_,bJ.pick a e f b ht d,hi⟩
end
end Go.Vm
namespace Go.Vm
theorem Fin.take {m:Nat}{v:V}{s:St}(l:Nat)(o:m<=l)(f:l<=s.H.length)(g:v.low l)(h:blksLow l (s.H.take l)):Fin m v (s.H.take l) v s:=by
 have j:(s.H.take l).length=l:=cp;refine Fin.same (by rw[j];exact o) (by rw[j];exact f) (by rw[j];exact g) fun b B e=>?_
 have i:b<l:=by have :=b8 e;omega
 refine⟨?_,by rw[j];exact EF h b B e⟩;unfold ah at e |-
 rw[xX i] at e;exact e
end Go.Vm
namespace Go.Vm
section
variable {P:Program}{m n:Nat}{R:Exit->St->Prop}{k:List Fr}{c:Code}{p:Prop}[Decidable p]
theorem V3 {A:Prop}{s2:St}(Z98:St->Prop)(h1:(∀ s,Z98 s->go P m n R c k s)->A)(h2:Z98 s2)(d:∀ s,Z98 s->go P m n R c k s):if p then A else go P m n R c k s2:=by
 split
 .exact h1 d
 .exact d _ h2
end
end Go.Vm
end
