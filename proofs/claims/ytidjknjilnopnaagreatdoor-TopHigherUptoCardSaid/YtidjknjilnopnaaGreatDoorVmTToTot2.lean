/- Proved: laws of a machine of values; no conditions but each theorem's own. -/
import Derived.Below
import Derived.Test.YtidjknjilnopnaaGreatDoorVmZToVmS
set_option linter.unusedVariables false
set_option linter.unusedSimpArgs false
set_option maxRecDepth 20000
set_option maxHeartbeats 8000000
section
namespace Go.Vm
section
open Go.RowKit
def lV:List (Option Blk)->Prop
 |[]=>True
 |none::_=>False
 |some _::l=>lV l
def kS:List (Option Blk)->Prop
 |[]=>True
 |none::l=>kS l
 |some B::l=>B.ro=false/\kS l
theorem EI:∀ {l:List (Option Blk)},lV l->∀ b,b<l.length->∃ B,ag l b=some B
 |none::_,h,_,_=>h.elim
 |some B::l,h,0,_=>⟨B,rfl⟩
 |some B::l,h,b+1,a=>by
  obtain⟨C,c⟩:=EI (l:=l) h b (by simpa using a);exact⟨C,by simpa [ag] using c⟩
theorem CL:∀ {l:List (Option Blk)},kS l->∀ (b:Nat) B,ag l b=some B->B.ro=false
 |[],_,b,B,h=>by simp[ag] at h
 |none::l,a,0,B,h=>by simp[ag] at h
 |none::l,a,b+1,B,h=>CL (l:=l) a b B (by simpa [ag] using h)
 |some C::l,a,0,B,h=>by simp[ag] at h;subst h;exact a.1
 |some C::l,a,b+1,B,h=>CL (l:=l) a.2 b B (by simpa [ag] using h)
theorem Ut {l:List (Option Blk)}{k:Nat}(h:kS (l.drop k))(b:Nat)(B:Blk)(e:ag l b=some B)(a:k<=b):B.ro=false:=by
 refine CL h (b-k) B ?_;unfold ag at e |-
 rw[il,show k+(b-k)=b by omega];exact e
section
variable {P:Program}{m n:Nat}{R:Exit->St->Prop}{k:List Fr}{s:St}{l:List Oper}{ops:Array Oper}{dst:Option Tmp}
variable {f:FuncId}{fs cs args args0:List V}{v:V}{h h':List (Option Blk)}
def gJ (sg:List Nat)(nid:Nat)(v:V)(h':List (Option Blk)):Res:={v:=v.ren (aw (bd sg nid h')),pre:=True,fp:=sg,old:=cR (aw (bd sg nid h')) sg h',news:=dQ (aw (bd sg nid h')) sg h'}
theorem xZ (sg:List Nat)(q:aq P f args0 h v h')(hc:eu P f=true)(r:rens (aw sg) args0=fs++args++cs)(a:sg.length=h.length)(c:af h.length args0)(i:sg.Nodup)
  (j:∀ b∈sg,b<s.H.length) (d:lV h) (g:iB (aw sg) h.length s h 0) (o:kS (h'.drop h.length)) (p:h.length<=h'.length):VCall P (.fn f fs cs) args (ag s.H) s.H.length (gJ sg s.H.length v h'):=
 .inl ⟨f,fs,cs,rfl,hc,trivial,by
  rw[<-r];exact aaC q a c i j (EI d) (fun b B e=>by have :=vV g b B e;rw[cw] at this;exact this) (fun b B e t=>Ut o b B e t) p⟩
theorem aS (sg:List Nat)(p:aq P f args0 h v h')(hc:eu P f=true)(q:rens (aw sg) args0=fs++args++cs)(a:sg.length=h.length)(c:af h.length args0)(g:sg.Nodup)
  (i:∀ b∈sg,b<s.H.length) (d:lV h) (e:iB (aw sg) h.length s h 0) (j:kS (h'.drop h.length)) (o:h.length<=h'.length)
  (r:fY P m n R l ops k (s.after dst (gJ sg s.H.length v h'))):n9 P m n R (.fn f fs cs) args dst l ops k s:=
 ⟨_,xZ sg p hc q a c g i d e j o,r⟩
theorem iq {tr:Tr}(sg:List Nat)(p:aq P f args0 h v h')(hc:eu P f=true)(q:rens (aw sg) args0=fs++args++cs)(a:sg.length=h.length)(c:af h.length args0)(g:sg.Nodup)
  (i:∀ b∈sg,b<s.H.length) (d:lV h) (e:iB (aw sg) h.length s h 0) (j:kS (h'.drop h.length)) (o:h.length<=h'.length)
  (r:(∀ x∈(gJ sg s.H.length v h').old,x.1<s.H.length)/\ir P m n R l (tr++[bI s (gJ sg s.H.length v h')]) ops k (s.after dst (gJ sg s.H.length v h'))):mj P m n R (.fn f fs cs) args dst l tr ops k s:=
 ⟨_,xZ sg p hc q a c g i d e j o,r⟩
theorem Fin.ren (sg:List Nat){v':V}(L:sg.length=h'.length)(M:m<=sg.length)(F:sg.take m=List.range m)(t:sg.Nodup)(x:v'.ren (aw sg)=v/\v'.low h'.length)
  (G:iB (aw sg) h'.length s h' 0):Fin m v' h' v s:=by
 obtain⟨rfl,x⟩:=x;have y:∀ b,b<m->aw sg b=b:=fun b o=>by
  unfold aw;have h1:(sg.take m)[b]?=some b:=by rw[F,nB o]
  rw[sP o] at h1;rw[aW,h1];rfl
 have p:∀ b c,b<h'.length->c<h'.length->b≠c->aw sg b≠aw sg c:=fun b c o I g e=>by
  have z:=mv (sg:=sg) (b:=b) aa;have C:=mv (sg:=sg) (b:=c) aa;rw[e] at z;rw[aF aa] at z C;exact g ((AR t).1 (by rw[kJ z,kJ C]))
 have d:∀ b B,ag h' b=some B->ag s.H (aw sg b)=some ⟨B.ro,rens (aw sg) B.cs,B.mp⟩/\af h'.length B.cs:=fun b B e=>by have :=vV G b B e;rw[cw] at this;exact this
 refine⟨aa,fun ρ w r h1 h2 _=>⟨fun b=>ρ (aw sg b),h1.unren x,?_,fun b o=>by show ρ (aw sg b)=ρ b;rw[y b o],fun b B e q=>⟨_,_,(d b B e).1,q,rfl⟩⟩⟩;refine⟨fun b B e=>aU e,fun b B e=>h2.lt _ _ (d b B e).1,fun b c B B' e D q g=>h2.inj _ _ _ _ (d b B e).1 (d c B' D).1 q (p b c (aU e) (aU D) g),fun b B e i u hu=>?_,fun b B e q i J=>?_,fun b B mm e A=>xP (h2.mapc _ _ mm (d b B e).1 A) (by show B.cs.length=(rens (aw sg) B.cs).length;rw[iP,ba])⟩
 ·have K:(rens (aw sg) B.cs)[i]?=some (u.ren (aw sg)):=by rw[iP,ci,hu];rfl
  obtain⟨r,g1,g2⟩:=h2.cell _ _ (d b B e).1 i _ K;exact⟨r,g1,g2.unren (zg (d b B e).2 hu)⟩
 ·exact h2.free _ _ (d b B e).1 q i (by show i<(rens (aw sg) B.cs).length;rw[iP,ba];exact J)
theorem EZ (hc:eu P f=true)(J:af 0 args)(q:v.low 0)
  (y:∀ (w:World) (c:Array Value),VRs (fun _=>(0,0)) (fun _=>False) w args c.toList->Calls P f c w fun e w'=>∃ r,e= .returned r/\VR (fun _=>(0,0)) (fun _=>False) w' v r/\Below w.heap.size w w'):aG P f args v:=by
 refine zw hc J fun ρ w c C M=>?_
 have D:VRs (fun _=>(0,0)) (fun _=>False) w args c.toList:=C.mono (fun b (q:b<0)=>by omega) (fun b (q:b<0)=>by omega) (Lasts.refl _);refine(y w c D).mono ?_;rintro e w' ⟨r,rfl,h1,h2⟩;have d:∀ p:Addr,p.block<w.heap.size->w'.cell? p=w.cell? p:=fun p E=>h2.cell E
 have g:∀ p:Addr,p.block<w.heap.size->w'.frozen? p=w.frozen? p:=fun p E=>h2.frozen E
 refine⟨r,ρ,rfl,h1.mono (fun b q=>q.elim) (fun b q=>q.elim) (Lasts.refl _),⟨fun b B e=>by simp[ag] at e,fun b B e=>by simp[ag] at e,fun b N B B' e=>by simp[ag] at e,fun b B e=>by simp[ag] at e,fun b B e=>by simp[ag] at e,fun b B mm e=>by simp[ag] at e⟩,aH _,fun _ _=>rfl,?_⟩;refine⟨h2.os,h2.output,h2.tape,h2.size,fun r C _=>h2.block r C,fun b o y=>?_,fun b B e=>by simp[ag] at e⟩;have x:b<w.heap.size:=by
  obtain⟨u,hu⟩:=rV.1 y;exact World.block_lt_of_cell? (a:=⟨b,o,none⟩) w hu
 exact⟨by rw[d ⟨b,o,none⟩ x];exact y,fun K=>by rw[g ⟨b,o,none⟩ x];exact K⟩
end
theorem abg (σ:Nat->Nat)(i:Nat)(sg:List Nat)(x:Option Blk)(h:List (Option Blk)):cR σ (i::sg) (x::h)=(i,dx σ x)::cR σ sg h:=by rw[cR]
theorem abD (σ:Nat->Nat)(h:List (Option Blk)):cR σ [] h=[]:=by unfold cR;rfl
theorem Uc (σ:Nat->Nat)(i:Nat)(sg:List Nat)(x:Option Blk)(h:List (Option Blk)):dQ σ (i::sg) (x::h)=dQ σ sg h:=rfl
theorem NM (σ:Nat->Nat)(h:List (Option Blk)):dQ σ [] h=h.map (dx σ):=rfl
theorem ad4 (σ:Nat->Nat)(ro:Bool)(cs:List V)(mp:Option MapC):dx σ (some ⟨ro,cs,mp⟩)=some ⟨ro,rens σ cs,mp⟩:=rfl
theorem abB (σ:Nat->Nat):dx σ none=none:=rfl
theorem FL (i:Nat)(l:List Nat):aw (i::l) 0=i:=rfl
theorem IT (i:Nat)(l:List Nat)(b:Nat):aw (i::l) (b+1)=aw l b:=rfl
theorem Li (σ:Nat->Nat)(N:Nat)(s:St)(i:Nat):iB σ N s [] i=True:=rfl
theorem EH (σ:Nat->Nat)(N:Nat)(s:St)(l:List (Option Blk))(i:Nat):iB σ N s (none::l) i=iB σ N s l (i+1):=rfl
theorem GO (σ:Nat->Nat)(N:Nat)(s:St)(B:Blk)(l:List (Option Blk))(i:Nat):iB σ N s (some B::l) i=((ag s.H (σ i)=some ⟨B.ro,rens σ B.cs,B.mp⟩/\af N B.cs)/\iB σ N s l (i+1)):=rfl
theorem wg {α:Type}(σ:Nat->Nat)(mk:α->V)(a:∀ x,(mk x).ren σ=mk x)(l:List α):rens σ (l.map mk)=l.map mk:=by
 rw[iP,kH];exact mX fun x _=>a x
theorem oF {α:Type}(N:Nat)(mk:α->V)(a:∀ x,(mk x).low N)(l:List α):af N (l.map mk):=by
 induction l with
 |nil=>trivial
 |cons x l ih=>exact⟨a x,ih⟩
theorem Ko (σ:Nat->Nat)(l:List (BitVec 8)):rens σ (l.map .u8)=l.map .u8:=wg σ _ (fun _=>by unfold V.ren;rfl) l
theorem IU (σ:Nat->Nat)(l:List (BitVec 32)):rens σ (l.map .u32)=l.map .u32:=wg σ _ (fun _=>by unfold V.ren;rfl) l
theorem Kw (σ:Nat->Nat)(l:List (BitVec 64)):rens σ (l.map .u64)=l.map .u64:=wg σ _ (fun _=>by unfold V.ren;rfl) l
theorem J8 (σ:Nat->Nat)(l:List Int):rens σ (l.map .i64)=l.map .i64:=wg σ _ (fun _=>by unfold V.ren;rfl) l
theorem Ie (σ:Nat->Nat)(l:List (List (BitVec 8))):rens σ (l.map .str)=l.map .str:=wg σ _ (fun _=>by unfold V.ren;rfl) l
theorem EY (N:Nat)(l:List (BitVec 8)):af N (l.map .u8)=True:=eq_true (oF N _ (fun _=>by simp[V.low]) l)
theorem wQ (N:Nat)(l:List (BitVec 32)):af N (l.map .u32)=True:=eq_true (oF N _ (fun _=>by simp[V.low]) l)
theorem lR (N:Nat)(l:List (BitVec 64)):af N (l.map .u64)=True:=eq_true (oF N _ (fun _=>by simp[V.low]) l)
theorem Jg (N:Nat)(l:List Int):af N (l.map .i64)=True:=eq_true (oF N _ (fun _=>by simp[V.low]) l)
theorem IG (N:Nat)(l:List (List (BitVec 8))):af N (l.map .str)=True:=eq_true (oF N _ (fun _=>by simp[V.low]) l)
attribute [go_sem] gJ abg abD Uc NM ad4 abB FL IT bd Ko IU Kw J8 Ie EY wQ lR Jg IG V.ren rens lV kS Li EH GO List.range'_succ
theorem adn (σ:Nat->Nat)(a b:List V):rens σ (a++b)=rens σ a++rens σ b:=by rw[iP,iP,iP,gD]
theorem oZ (N:Nat):∀ a b:List V,af N (a++b)=(af N a/\af N b)
 |[],b=>by simp[af]
 |x::a,b=>by rw[fO,af,oZ N a b,af,and_assoc]
theorem Mv:((some true:Option Bool)==some true)=true:=rfl
theorem abe:((some true:Option Bool)==some false)=false:=rfl
theorem X5:((some false:Option Bool)==some true)=false:=rfl
theorem Wl:((some false:Option Bool)==some false)=true:=rfl
attribute [go_sem] zu qg Mv abe X5 Wl
theorem pF {s:List (BitVec 32)}{i:Nat}(h:i<s.length):(s.map V.u32).getD i .junk= .u32 (s.getD i 0):=by
 rw[aW,aW,ci,aF h];rfl
theorem gu {s:List (BitVec 64)}{i:Nat}(h:i<s.length):(s.map V.u64).getD i .junk= .u64 (s.getD i 0):=by
 rw[aW,aW,ci,aF h];rfl
theorem aaZ (s:List (BitVec 32))(i:Nat)(x:BitVec 32):(s.map V.u32).set i (.u32 x)=(s.set i x).map V.u32:=pB.symm
theorem aa5 (s:List (BitVec 64))(i:Nat)(x:BitVec 64):(s.map V.u64).set i (.u64 x)=(s.set i x).map V.u64:=pB.symm
theorem TA (s:List Int)(i:Nat)(x:Int):(s.map V.i64).set i (.i64 x)=(s.set i x).map V.i64:=pB.symm
theorem aaF (s:List (BitVec 32))(i:Nat):(s.map V.u32).take i=(s.take i).map V.u32:=nc.symm
theorem acX (s:List (BitVec 64))(i:Nat):(s.map V.u64).take i=(s.take i).map V.u64:=nc.symm
theorem agv (s:List Int)(i:Nat):(s.map V.i64).take i=(s.take i).map V.i64:=nc.symm
theorem agr (s:List (List (BitVec 8)))(i:Nat):(s.map V.str).take i=(s.take i).map V.str:=nc.symm
theorem N8 (s:List (BitVec 32))(i:Nat):(s.map V.u32).drop i=(s.drop i).map V.u32:=pg.symm
theorem Og (s:List (BitVec 64))(i:Nat):(s.map V.u64).drop i=(s.drop i).map V.u64:=pg.symm
theorem PD (s:List Int)(i:Nat):(s.map V.i64).drop i=(s.drop i).map V.i64:=pg.symm
theorem agh (s:List (List (BitVec 8)))(i:Nat):(s.map V.str).drop i=(s.drop i).map V.str:=pg.symm
theorem Y1 (s t:List (BitVec 32)):s.map V.u32++t.map V.u32=(s++t).map V.u32:=gD.symm
theorem ahq (s t:List (BitVec 64)):s.map V.u64++t.map V.u64=(s++t).map V.u64:=gD.symm
theorem agy (s t:List Int):s.map V.i64++t.map V.i64=(s++t).map V.i64:=gD.symm
theorem BT {α:Type}(mk:α->V)(a:∀ x,(mk x).one=true)(s:List α):(∀ v∈s.map mk,v.one=true)=True:=by
 refine propext ⟨fun _=>trivial,fun _ v b=>?_⟩;obtain⟨x,_,rfl⟩:=cD.1 b;exact a x
theorem U6 (s:List (BitVec 32)):(∀ v∈s.map V.u32,v.one=true)=True:=BT _ (fun _=>rfl) s
theorem aea (s:List (BitVec 64)):(∀ v∈s.map V.u64,v.one=true)=True:=BT _ (fun _=>rfl) s
theorem UR (s:List Int):(∀ v∈s.map V.i64,v.one=true)=True:=BT _ (fun _=>rfl) s
attribute [go_sem] aaZ aa5 TA aaF acX agv agr N8 Og PD agh Y1 ahq agy U6 aea UR
theorem acB (s:List (BitVec 8))(x:BitVec 8):s.map V.u8++[.u8 x]=(s++[x]).map V.u8:=ae
theorem XR (s:List (BitVec 32))(x:BitVec 32):s.map V.u32++[.u32 x]=(s++[x]).map V.u32:=ae
theorem UP (s:List (BitVec 64))(x:BitVec 64):s.map V.u64++[.u64 x]=(s++[x]).map V.u64:=ae
theorem Wi (s:List Int)(x:Int):s.map V.i64++[.i64 x]=(s++[x]).map V.i64:=ae
theorem Vc (s:List (List (BitVec 8)))(x:List (BitVec 8)):s.map V.str++[.str x]=(s++[x]).map V.str:=ae
attribute [go_sem] acB XR UP Wi Vc
end
section
open Go
def Res.read (r:Res):Res:={r with old:=[]}
theorem ac7 {get:Nat->Option Blk}{b:Nat}:∀ {old:List (Nat×Option Blk)} (_:∀ x∈old,get x.1=x.2),gQ old b (get b)=get b:=fun {old} h=>by
 induction old with
 |nil=>rfl
 |cons x l ih=>
  obtain⟨i,o⟩:=x;have h1:=h (i,o) j8;have h2:=ih fun y a=>h y (gF _ a)
  unfold gQ;split
  ·rename_i e;first
    |(rw[<-h1];simp_all)
    |simp_all
  ·exact h2
theorem YC {get:Nat->Option Blk}{old:List (Nat×Option Blk)}{nid:Nat}{news:List (Option Blk)}(h:∀ x∈old,get x.1=x.2):bZ get old nid news=bZ get [] nid news:=by
 funext b;unfold bZ;rw[ac7 h];rfl
section
variable {P:Program}{m n:Nat}{R:Exit->St->Prop}{k:List Fr}{s:St}{l:List Oper}{ops:Array Oper}{dst:Option Tmp}
variable {f:FuncId}{fs cs args args0:List V}{v:V}{h h':List (Option Blk)}
theorem Spec.read {get0:Nat->Option Blk}{nid:Nat}{r:Res}(p:Spec P f args get0 nid r)(g:∀ x∈r.old,x.1∈r.fp/\get0 x.1=x.2):Spec P f args get0 nid r.read:=by
 intro ρ dom get w a q t c d;refine(p ρ dom get w a q t c d).mono ?_;have b:bZ get r.old nid r.news=bZ get [] nid r.news:=YC fun x i=>by rw[(c _ (g x i).1).1];exact(g x i).2
 rintro e w' ⟨u,ρ',h1,h2,j,y,o⟩;rw[b] at j o;exact⟨u,ρ',h1,h2,j,y,o⟩
theorem VCall.read {c:V}{get0:Nat->Option Blk}{nid:Nat}{r:Res}(e:VCall P c args get0 nid r)(d:∀ x∈r.old,x.1∈r.fp/\get0 x.1=x.2):VCall P c args get0 nid r.read:=by
 rcases e with⟨f,fs,cs,h1,h2,a,b⟩|⟨f,fs,cs,h1,_,a,b⟩|⟨g,t,v,f,h1,h2,a,b,i⟩
 ·exact .inl ⟨f,fs,cs,h1,h2,a,b.read d⟩
 ·exact .inr (.inl ⟨f,fs,cs,h1,rfl,a,b⟩)
 ·exact .inr (.inr ⟨g,t,v,f,h1,h2,a,b,i.read d⟩)
theorem vv {tr:Tr}(sg:List Nat)(p:aq P f args0 h v h')(hc:eu P f=true)(q:rens (aw sg) args0=fs++args++cs)(a:sg.length=h.length)(c:af h.length args0)(g:sg.Nodup)
  (i:∀ b∈sg,b<s.H.length) (d:lV h) (e:iB (aw sg) h.length s h 0) (j:kS (h'.drop h.length)) (o:h.length<=h'.length)
  (r:∀ x∈(gJ sg s.H.length v h').old,x.1∈sg/\ag s.H x.1=x.2)
  (t:ir P m n R l (tr++[bI s (gJ sg s.H.length v h').read]) ops k (s.after dst (gJ sg s.H.length v h').read)):mj P m n R (.fn f fs cs) args dst l tr ops k s:=
 ⟨_,(xZ sg p hc q a c g i d e j o).read r,fun x u=>by simp[Res.read] at u,t⟩
end
attribute [go_sem] Res.read
end
section
mutual
theorem V.ren_low {σ:Nat->Nat}{n:Nat}(h:∀ b,b<n->σ b=b):∀ (v:V),v.low n->v.ren σ=v
 | .junk,_| .bool _,_| .u8 _,_| .u32 _,_| .u64 _,_| .i64 _,_| .i32 _,_| .str _,_| .nilPtr,_| .nilSlice,_| .nilFn,_| .nilIface,_=>by unfold V.ren;rfl
 | .aFn _ _ v,hb=>by unfold V.low at hb;unfold V.ren;rw[V.ren_low h v hb]
 | .ptr b _,hb=>by unfold V.low at hb;unfold V.ren;rw[h b hb]
 | .map b,hb=>by unfold V.low at hb;unfold V.ren;rw[h b hb]
 | .slice b _ _ _,hb=>by unfold V.low at hb;unfold V.ren;rw[h b hb]
 | .fn _ fs cs,hb=>by unfold V.low at hb;unfold V.ren;rw[pT h fs hb.1,pT h cs hb.2]
 | .agg cs,hb=>by unfold V.low at hb;unfold V.ren;rw[pT h cs hb]
 | .tup cs,hb=>by unfold V.low at hb;unfold V.ren;rw[pT h cs hb]
 | .iface _ v,hb=>by unfold V.low at hb;unfold V.ren;rw[V.ren_low h v hb]
theorem pT {σ:Nat->Nat}{n:Nat}(h:∀ b,b<n->σ b=b):∀ (l:List V),af n l->rens σ l=l
 |[],_=>by unfold rens;rfl
 |v::l,hb=>by unfold af at hb;unfold rens;rw[V.ren_low h v hb.1,pT h l hb.2]
end
mutual
theorem V.low_mono {n n':Nat}(h:n<=n'):∀ (v:V),v.low n->v.low n'
 | .junk,_| .bool _,_| .u8 _,_| .u32 _,_| .u64 _,_| .i64 _,_| .i32 _,_| .str _,_| .nilPtr,_| .nilSlice,_| .nilFn,_| .nilIface,_=>by unfold V.low;trivial
 | .aFn _ _ v,hb=>by unfold V.low at*;exact V.low_mono h v hb
 | .ptr b _,hb=>by unfold V.low at*;omega
 | .map b,hb=>by unfold V.low at*;omega
 | .slice b _ _ _,hb=>by unfold V.low at*;omega
 | .fn _ fs cs,hb=>by unfold V.low at*;exact⟨ma h fs hb.1,ma h cs hb.2⟩
 | .agg cs,hb=>by unfold V.low at*;exact ma h cs hb
 | .tup cs,hb=>by unfold V.low at*;exact ma h cs hb
 | .iface _ v,hb=>by unfold V.low at*;exact V.low_mono h v hb
theorem ma {n n':Nat}(h:n<=n'):∀ (l:List V),af n l->af n' l
 |[],_=>trivial
 |v::l,hb=>⟨V.low_mono h v hb.1,ma h l hb.2⟩
end
def Sane (H:List (Option Blk)):Prop:=∀ b B,ag H b=some B->af H.length B.cs/\B.ro=B.ro
theorem Gi (n:Nat):(List.range n).Nodup:=by
 refine List.pairwise_iff_getElem.2 fun i j b c a e=>?_
 simp at e;omega
theorem Av {n b:Nat}(h:b<n):aw (List.range n) b=b:=by
 unfold aw;rw[aW,nB h];rfl
theorem HD {H H':List (Option Blk)}{b:Nat}(a:b<H'.length):aw (bd (List.range H.length) H.length H') b=b:=by
 unfold bd;by_cases h:b<H.length
 ·rw[uf (by simpa using h),Av h]
 ·rw[sY (by simp;omega) (by simp;omega)];simp;omega
theorem cz {H:List (Option Blk)}{b:Nat}(h:b<H.length)(X:List (Option Blk)):ag (H++X) b=ag H b:=by
 unfold ag;rw[gh h]
theorem aai {H:List (Option Blk)}{b:Nat}(h:H.length<=b):ag H b=none:=by
 unfold ag;rw[gi h];rfl
theorem KH {H:List (Option Blk)}{b:Nat}(h:H.length<=b)(X:List (Option Blk)):ag (H++X) b=ag X (b-H.length):=by
 unfold ag;rw[dL h]
theorem kj (H:List (Option Blk))(x:Option Blk)(X:List (Option Blk)):ag (H++x::X) H.length=x:=by
 rw[KH (aH _),gf];rfl
theorem bG {H:List (Option Blk)}{b:Nat}(h:b<H.length)(x:Option Blk):ag (H.set b x) b=x:=by
 unfold ag;rw[kL h];simp
theorem bW {H:List (Option Blk)}{b c:Nat}(h:c≠b)(x:Option Blk):ag (H.set c x) b=ag H b:=by
 unfold ag;rw[mF h]
theorem Xx {H H':List (Option Blk)}(a:H.length=H'.length)(h:∀ b,b<H.length->ag H b=ag H' b):H=H':=by
 refine yu a fun i h1 h2=>?_
 have :=h i h1;unfold ag at this;rw[aF h1,aF h2] at this;simpa using this
section
variable {P:Program}{m n:Nat}{R:Exit->St->Prop}{k:List Fr}{l:List Oper}{ops:Array Oper}{dst:Option Tmp}
variable {f:FuncId}{fs cs args args1:List V}{v:V}{H H':List (Option Blk)}
def lW (H H':List (Option Blk))(W:List Nat)(v:V):Res:={v:=v,pre:=True,fp:=List.range H.length,old:=W.map fun b=>(b,ag H' b),news:=H'.drop H.length}
theorem zz {g:Nat->Option Blk}{b:Nat}{d:Option Blk}:∀ {W:List Nat},gQ (W.map fun b=>(b,g b)) b d=if b∈W then g b else d
 |[]=>rfl
 |i::W=>by
  simp only[bN,gQ,cQ];by_cases h:b=i
  ·subst h;simp
  ·rw[if_neg h,zz];simp[h]
theorem abV (W:List Nat)(J:aq P f args H v H')(d:af H.length args)(K:Sane H)(y:Sane H')(L:v.low H'.length)(z:H.length<=H'.length)(M:∀ b,b<H.length->b∉W->ag H' b=ag H b)(A:∀ b∈W,b<H.length)(C:∀ b B,ag H' b=some B->(H.length<=b\/ag H b=none)->B.ro=false):
  Spec P f args (ag H) H.length (lW H H' W v):=by
 have j:=C5 (sg:=List.range H.length) (get0:=ag H) (nid:=H.length) J ae d (Gi _) (fun b a=>by simpa using a) (fun b B e=>by
  have a:=aU e;have G:=(K b B e).1;rw[Av a,pT (fun c hc=>Av hc) _ G];exact⟨e,G⟩) C z
 rw[pT (fun c hc=>Av hc) _ d,V.ren_low (fun c hc=>HD hc) _ L] at j;have g:∀ x∈H',dx (aw (bd (List.range H.length) H.length H')) x=x:=fun x D=>by
  cases x with
  |none=>rfl
  |some B=>
   obtain⟨i,N⟩:=List.getElem?_of_mem D;have e:ag H' i=some B:=by unfold ag;rw[N];rfl
   show some (Blk.mk _ _ _)=_;rw[pT (fun c hc=>HD hc) _ (y i B e).1]
 have o:dQ (aw (bd (List.range H.length) H.length H')) (List.range H.length) H'=H'.drop H.length:=by
  rw[pd,xx]
  conv=>rhs;rw[<-tK (H'.drop H.length)]
  exact mX fun x D=>g x (BW D)
 rw[o] at j;intro ρ dom get w p O Q t u;refine(j ρ dom get w p O Q t u).mono ?_;have q:bZ get (cR (aw (bd (List.range H.length) H.length H')) (List.range H.length) H') H.length (H'.drop H.length)=bZ get (W.map fun b=>(b,ag H' b)) H.length (H'.drop H.length):=by
  funext b;unfold bZ;split
  ·rfl
  ·rw[zz];by_cases a:b<H.length
   ·rw[xy (Gi _) (i:=b) (nB a) aa];have h2:dx (aw (bd (List.range H.length) H.length H')) (H'[b]?).join=ag H' b:=by
     unfold ag;rw[aF aa];exact g _ (dd _)
    rw[h2];by_cases s:b∈W
    ·rw[if_pos s]
    ·rw[if_neg s,M b a s];exact((t b (by show b∈List.range _;simpa using a)).1).symm
   ·rw[tM (by simpa using a),if_neg fun h=>a (A b h)]
 rintro e w' ⟨r,ρ',h1,h2,E,I,F⟩;simp only at E I F;rw[q] at E F;exact⟨r,ρ',h1,h2,E,I,F⟩
theorem Bz {t:List (Nat×V)}(c:H.length<=H'.length){W:List Nat}(d:∀ b,b<H.length->b∉W->ag H' b=ag H b):St.after ⟨t,H⟩ dst (lW H H' W v)=⟨putS t dst v,H'⟩:=by
 show St.mk (putS t dst v) (cK H (W.map fun b=>(b,ag H' b))++H'.drop H.length)=_;congr 1;refine Xx (by rw[aE,eT,bU];omega) fun b e=>?_
 rw[aE,eT,bU] at e;by_cases h:b<H.length
 ·rw[cz (by rw[eT];exact h),oT _ _ _ h,zz];by_cases a:b∈W
  ·rw[if_pos a]
  ·rw[if_neg a,d b h a]
 ·rw[KH (by rw[eT];omega),eT];unfold ag;rw[il,show H.length+(b-H.length)=b by omega]
structure Whole (P:Program) (f:FuncId) (args:List V) (H:List (Option Blk)) (v:V) (H':List (Option Blk)) (W:List Nat):Prop where
 spec:aq P f args H v H'
 le:H.length<=H'.length
 args:af H.length args
 sane:Sane H
 sane':Sane H'
 low:v.low H'.length
 keep:∀ b,b<H.length->b∉W->ag H' b=ag H b
 wlt:∀ b∈W,b<H.length
 rw_:∀ b B,ag H' b=some B->(H.length<=b\/ag H b=none)->B.ro=false
theorem Whole.vcall {W:List Nat}(h:Whole P f args H v H' W)(hc:eu P f=true)(a:args=fs++args1++cs):VCall P (.fn f fs cs) args1 (ag H) H.length (lW H H' W v):=
 .inl ⟨f,fs,cs,rfl,hc,trivial,by rw[<-a];exact abV W h.spec h.args h.sane h.sane' h.low h.le h.keep h.wlt h.rw_⟩
theorem afo {t:List (Nat×V)}{W:List Nat}(h:Whole P f args H v H' W)(hc:eu P f=true)(a:args=fs++args1++cs)(b:fY P m n R l ops k ⟨putS t dst v,H'⟩):n9 P m n R (.fn f fs cs) args1 dst l ops k ⟨t,H⟩:=by
 refine⟨_,h.vcall hc a,?_⟩;show cM P n ops l (St.after ⟨t,H⟩ dst (lW H H' W v)) _;rw[Bz h.le h.keep];exact b
theorem LL {t:List (Nat×V)}{W:List Nat}{tr:Tr}(h:Whole P f args H v H' W)(hc:eu P f=true)(a:args=fs++args1++cs)
  (c:ir P m n R l (tr++[(List.range H.length,W++List.range' H.length (H'.length-H.length))]) ops k ⟨putS t dst v,H'⟩):mj P m n R (.fn f fs cs) args1 dst l tr ops k ⟨t,H⟩:=by
 refine⟨_,h.vcall hc a,fun x d=>?_,?_⟩
 ·obtain⟨b,e,rfl⟩:=cD.1 d;exact h.wlt b e
 ·have g:bI ⟨t,H⟩ (lW H H' W v)=(List.range H.length,W++List.range' H.length (H'.length-H.length)):=by
   unfold bI lW;simp only[kH,bU];congr 2
   conv=>rhs;rw[<-tK W]
   rfl
  show fK P n ops _ l (tr++[bI ⟨t,H⟩ (lW H H' W v)]) (St.after ⟨t,H⟩ dst (lW H H' W v));rw[Bz h.le h.keep,g];exact c
end
end
section
def Alls {α:Type}(mk:α->V)(n:Nat)(cs:List V):Prop:=∃ bs:List α,bs.length=n/\cs=bs.map mk
variable {α:Type}{mk:α->V}
theorem Alls.set {n:Nat}{cs:List V}(h:Alls mk n cs)(i:Nat)(x:α):Alls mk n (cs.set i (mk x)):=by
 obtain⟨bs,h1,rfl⟩:=h;exact⟨bs.set i x,by simpa using h1,by rw[pB]⟩
theorem Alls.get {n:Nat}{cs:List V}(h:Alls mk n cs){i:Nat}(a:i<n):∃ x,cs.getD i .junk=mk x:=by
 obtain⟨bs,h1,rfl⟩:=h;refine⟨bs[i]'(aa),?_⟩;rw[aW,ci,aF aa];rfl
theorem Alls.len {n:Nat}{cs:List V}(h:Alls mk n cs):cs.length=n:=by
 obtain⟨bs,h1,rfl⟩:=h;simpa using h1
theorem Alls.rep (n:Nat)(x:α):Alls mk n (List.replicate n (mk x)):=⟨List.replicate n x,ae,ae⟩
theorem Alls.splice {n k:Nat}{cs xs:List V}(h:Alls mk n cs)(a:Alls mk k xs){o:Nat}(c:o+k<=n):Alls mk n (splice cs o xs):=by
 have d:=h.len;have e:=a.len;have b:=rq (cs:=cs) (o:=o) (xs:=xs) aa;obtain⟨bs,h1,rfl⟩:=h;obtain⟨ys,h2,rfl⟩:=a
 match ys with
 |[]=>
  refine⟨bs,h1,?_⟩;rw[cO,C1,iw,iQ,wC]
 |[y]=>exact⟨bs.set o y,by simpa using h1,by rw[bN,cO,CD,pB]⟩
 |y::z::ys=>
  refine⟨bs.take o++(y::z::ys)++bs.drop (o+(y::z::ys).length),?_,?_⟩
  ·simp only[aE,br,bU] at*;simp only[ce] at*;omega
  ·rw[bN,bN,yg,gD,gD,nc,pg];simp
theorem yD {n:Nat}(h:∀ x,(mk x).low n):∀ (bs:List α),af n (bs.map mk)
 |[]=>trivial
 |b::bs=>⟨h b,yD h bs⟩
theorem Alls.low {n k:Nat}{cs:List V}(h:Alls mk k cs)(a:∀ x,(mk x).low n):af n cs:=by
 obtain⟨bs,-,rfl⟩:=h;exact yD a bs
end
section
section
variable {P:Program}{m n:Nat}{R:Exit->St->Prop}{k:List Fr}{s:St}{l:List Oper}{ops:Array Oper}{dst:Option Tmp}
variable {f:FuncId}{fs cs args:List V}{h:List (Option Blk)}
theorem dZ {Post:V->Prop}(a:∃ v,aG P f args v/\Post v)(b:∀ v,Post v->fY P m n R l ops k (s.put dst v)):n9 P m n R (.fn f [] []) args dst l ops k s:=by
 obtain⟨v,h1,h2⟩:=a;exact au h1 (b v h2)
theorem pQ {tr:Tr}{Post:V->Prop}(a:∃ v,aG P f args v/\Post v)(b:∀ v,Post v->ir P m n R l (tr++[([],[])]) ops k (s.put dst v)):mj P m n R (.fn f [] []) args dst l tr ops k s:=by
 obtain⟨v,h1,h2⟩:=a;exact aX h1 (b v h2)
theorem fP (d:P.follows .mixedOrders=true){fn:Func}{c:Code}{Post:V->List (Option Blk)->Prop}(p:P.funcs[f]?=some fn)(q:fn.body=some c)(r:args.length<=fn.ntmps)
  (t:vc P h.length fn.ntmps c (eW P fn fun v s=>∃ v' h',Post v' h'/\Fin h.length v' h' v s) ⟨gU args 0,h⟩):∃ v h',aq P f args h v h'/\Post v h':=by
 obtain⟨v,s',h1,⟨v',h',h2,u⟩,w⟩:=Et (s:=⟨gU args 0,h⟩) (aH _) t;refine⟨v',h',bf d p q r (im c _ _ _ (fun e s x=>yp (fun v2 s2 y=>?_) x) w),h2⟩;obtain⟨rfl,rfl⟩:=y;exact u
end
theorem fJ {α:Type}(mk:α->V)(d:α)(ws:List α)(i:Nat):(ws.map mk).getD i .junk=if i<ws.length then mk (ws.getD i d) else .junk:=by
 rw[aW,aW,ci];by_cases h:i<ws.length
 ·rw[if_pos h,aF h];rfl
 ·rw[if_neg h,gi aa];rfl
theorem lM {α:Type}(mk:α->V)(ws:List α)(i:Nat)(x:α):(ws.map mk).set i (mk x)=(ws.set i x).map mk:=by rw[pB]
end
end Go.Vm
end
section
namespace Go.Vm
def nQ {α:Type}(ws:List α)(o:Nat)(xs:List α):List α:=ws.take o++xs++ws.drop (o+xs.length)
theorem aaa {α:Type}{ws:List α}{o:Nat}{xs:List α}(h:o+xs.length<=ws.length):(nQ ws o xs).length=ws.length:=by
 unfold nQ;simp;omega
theorem Ei {α:Type}(ws:List α)(o:Nat)(xs:List α):(nQ ws o xs).length=min o ws.length+xs.length+(ws.length-(o+xs.length)):=by unfold nQ;simp;omega
theorem Dp {α:Type}(mk:α->V)(ws:List α)(o:Nat)(xs:List α)(h:o+xs.length<=ws.length):splice (ws.map mk) o (xs.map mk)=(nQ ws o xs).map mk:=by
 match xs with
 |[]=>rw[cO,C1];simp[nQ]
 |[y]=>
  rw[bN,cO,CD,<-pB];congr 1;unfold nQ;rw[List.set_eq_take_append_cons_drop,if_pos (by simp at h;omega)];simp
 |y::z::ys=>
  rw[bN,bN,yg];unfold nQ;rw[gD,gD,nc,pg];simp
theorem xz:[V.u32 0#32,V.u32 0#32,V.u32 0#32,V.u32 0#32,V.u32 0#32,V.u32 0#32,V.u32 0#32,V.u32 0#32]=(List.replicate 8 0#32).map V.u32:=rfl
theorem IP:[V.u32 0#32,V.u32 0#32,V.u32 0#32,V.u32 0#32,V.u32 0#32,V.u32 0#32,V.u32 0#32,V.u32 0#32,V.u32 0#32,V.u32 0#32,V.u32 0#32,V.u32 0#32,V.u32 0#32,V.u32 0#32,V.u32 0#32,V.u32 0#32]=(List.replicate 16 0#32).map V.u32:=rfl
end Go.Vm
namespace Go.Vm
section
variable {P:Program}{m n:Nat}{R:Exit->St->Prop}{k:List Fr}{c:Code}{p:Prop}[Decidable p]
theorem PI {s1 s2:St}(h:∀ s,s=s1\/s=s2->go P m n R c k s):if p then go P m n R c k s1 else go P m n R c k s2:=by
 split
 ·exact h _ (.inl rfl)
 ·exact h _ (.inr rfl)
end
theorem dw {i:Nat}(h:i<1000000000000):ao ((i:Int)+1)=((i+1:Nat):Int):=by rw[az aa aa];omega
end Go.Vm
namespace Go.Vm
def bD (N:Nat):List (Option Blk)->Prop
 |[]=>True
 |none::l=>bD N l
 |some B::l=>af N B.cs/\bD N l
theorem zZ {N:Nat}:∀ {l:List (Option Blk)},bD N l->∀ b B,ag l b=some B->af N B.cs
 |[],_,b,B,h=>by simp[ag] at h
 |none::l,a,0,B,h=>by simp[ag] at h
 |none::l,a,b+1,B,h=>zZ (l:=l) a b B (by simpa [ag] using h)
 |some C::l,a,0,B,h=>by simp[ag] at h;subst h;exact a.1
 |some C::l,a,b+1,B,h=>zZ (l:=l) a.2 b B (by simpa [ag] using h)
theorem ahg (N:Nat):bD N []=True:=rfl
theorem Mt (N:Nat)(l:List (Option Blk)):bD N (none::l)=bD N l:=rfl
theorem Vh (N:Nat)(B:Blk)(l:List (Option Blk)):bD N (some B::l)=(af N B.cs/\bD N l):=rfl
attribute [go_sem] ahg Mt Vh
def dt (sl:List Nat)(d:Nat)(s:St):St:=⟨sl.map fun t=>(t,s.get t),s.H.take d⟩
def dG (a:Nat)(s:St):List Nat->Prop
 |[]=>True
 |t::l=>(s.get t).low a/\dG a s l
theorem JS {b:Nat}{s:St}:∀ {l:List Nat},dG b s l->∀ t∈l,(s.get t).low b
 |[],_,_,h=>by cases h
 |x::l,h,t,a=>by
  rcases cQ.1 a with e|a
  ·rw[e];exact h.1
  ·exact JS h.2 t a
section
variable {m n:Nat}{s:St}{I:Nat->St->Prop}{k:Nat}
theorem Weak.pick (sl:List Nat)(d:Nat)(g:m<=d)(q:d<=s.H.length)(j:dG d s sl)(l:bD d (s.H.take d)):Weak m n s (dt sl d s):=by
 have a:(dt sl d s).H.length=d:=by unfold dt;simp;omega
 refine⟨fun _=>by rw[a];exact g,Weak.rename (s:=s) (s':=dt sl d s) id (by rw[a];exact g) (fun _ _=>rfl) (fun p i=>?_) (fun b B e=>?_) (fun _ _ _ _ h=>h)⟩
 ·unfold dt at i;obtain⟨t,f,rfl⟩:=cD.1 i;rw[a];exact⟨V.ren_id _,JS j t f⟩
 ·have h1:ag (s.H.take d) b=some B:=e;have o:b<d:=by have :=aU h1;simp at this;omega
  rw[a,rP];refine⟨?_,zZ l b B h1⟩;unfold ag at h1 |-
  rw[sP o] at h1;exact h1
theorem nh (b:Nat)(sl:List Nat)(a:Nat)(d:b<k)(e:m<=a)(f:a<=s.H.length)(g:dG a s sl)(h:bD a (s.H.take a))(i:I b (dt sl a s)):jS m n I k s:=
 ⟨b,_,d,Weak.pick sl a e f g h,i⟩
theorem k7 (k:Nat)(sl:List Nat)(a:Nat)(b:m<=a)(d:a<=s.H.length)(e:dG a s sl)(f:bD a (s.H.take a))(g:I k (dt sl a s)):∃ k s0,Weak m n s s0/\I k s0:=
 ⟨k,_,Weak.pick sl a b d e f,g⟩
end
end Go.Vm
namespace Go.Vm
theorem Fin.take {m:Nat}{v:V}{s:St}(f:Nat)(j:m<=f)(l:f<=s.H.length)(o:v.low f)(q:bD f (s.H.take f)):Fin m v (s.H.take f) v s:=by
 have d:(s.H.take f).length=f:=by simp;omega
 refine Fin.same (by rw[d];exact j) (by rw[d];exact l) (by rw[d];exact o) fun b B e=>?_
 have r:b<f:=by have :=aU e;omega
 refine⟨?_,by rw[d];exact zZ q b B e⟩;unfold ag at e |-
 rw[sP r] at e;exact e
end Go.Vm
namespace Go.Vm
section
variable {P:Program}{m n:Nat}{R:Exit->St->Prop}{k:List Fr}{c:Code}{p:Prop}[Decidable p]
theorem ab6 {A:Prop}{s2:St}(J:St->Prop)(h1:(∀ s,J s->go P m n R c k s)->A)(h2:J s2)(d:∀ s,J s->go P m n R c k s):if p then A else go P m n R c k s2:=by
 split
 ·exact h1 d
 ·exact d _ h2
end
end Go.Vm
end
