/- Proved: laws of a machine of values; no conditions but each theorem's own. -/
import Derived.Test.YtidjknjilnopnaaGreatDoorCvEToXcH
set_option linter.unusedVariables false
set_option linter.unusedSimpArgs false
set_option maxRecDepth 20000
set_option maxHeartbeats 8000000
section
namespace Go.Vm
open Go.Proofs Go.Proofs.Tryz
section
def ll (win:Nat)(sd rc:List ai)(s bo:Int)(fs:Bool):List V:=[.ptr win 0,.str sd,.str rc,.i64 s,.i64 bo,.i64 0,.bool fs]
theorem acT (s:Int)(e:s=1\/s=2)(sd rc:List ai)(f:sd.length=32)(g:rc.length=32)(bo:Int)(k:0<=bo)(h:bo<=1099511627776)(fs:Bool):
  aq prog 146 [.i64 s,.agg [.str sd,.str rc],.i64 bo,.bool fs] [] (.tup [.ptr 1 0,.i64 0]) [bK [.i64 0,.u64 0#64],bK (ll 0 sd rc s bo fs)]:=by
 have h1:¬ bo<0:=aa;have h2:¬ (1099511627776:Int)<bo:=aa;have a:(sd.length:Int)=32:=aa;have b:(rc.length:Int)=32:=aa;unfold ll;rcases e with rfl|rfl
 ·refine bf ac (fn:=f146) func146 rfl am (ak ?_);simp -implicitDefEqProofs only[go_sem,seval,ntmps146,h1,h2,a,b];refine iq [] (KD) ac ae rfl ae aM ae ae ae ae ae ?_;simp -implicitDefEqProofs only[go_sem,seval];refine⟨ac,?_⟩;exact Fin.ren [1,2] ae ae aZ ah ae ae
 ·refine bf ac (fn:=f146) func146 rfl am (ak ?_);simp -implicitDefEqProofs only[go_sem,seval,ntmps146,h1,h2,a,b];refine iq [] (KD) ac ae rfl ae aM ae ae ae ae ae ?_;simp -implicitDefEqProofs only[go_sem,seval];refine⟨ac,?_⟩;exact Fin.ren [1,2] ae ae aZ ah ae ae
theorem UY (s:Int)(g:s=1\/s=2)(sd rc:List ai)(a:sd.length=32)(b:rc.length=32)(bo:Int)(h:0<=bo)(e:bo<=1099511627776)(fs:Bool)(m t:BitVec 32):
  aq prog 100 [.i64 s,.agg [.str sd,.str rc],.i64 bo,.bool fs,.u32 m,.u32 t] [] (.ptr 2 0) [bK [.i64 0,.u64 0#64],bK (ll 0 sd rc s bo fs),some ⟨false,[.ptr 1 0,.i64 s,.u32 m,.u32 t],some ⟨[],0⟩⟩]:=by
 have f:=acT s g sd rc a b bo h e fs;unfold ll at f |-
 refine bf ac (fn:=f100) func100 rfl am (ak ?_);simp -implicitDefEqProofs only[go_sem,seval,ntmps100];repeat refine aJ ?_
 refine aS [] (f) ac ae rfl ae aM ae ae ae ae ae ?_;simp -implicitDefEqProofs only[go_sem,seval];exact Fin.ren [1,2,3] ae ae aZ ah ae ae
section
variable {K K0 K':RK}{H H0 H':List (Option Blk)}{Q0 Q:Rl->Prop}{j i d p tm n m W:Nat}{P P':PeS}{D D':DeS}{c:NoK}{N:NoS}{wv bg ol se ne bg' ol' se' ne' v:V}
def SeS.fresh (su:Int)(mine theirs:BitVec 32)(sd rc:List ai)(bo:Int)(fs:Bool):SeS:=⟨su,mine,theirs,sd,rc,bo,0,fs,0,0#64⟩
theorem I1 (y:Cx K0 H0 Q0 K H)(s:Int)(z:s=1\/s=2)(sd rc:List ai)(g:sd.length=32)(h:rc.length=32)(bo:Int)(A:0<=bo)(k:bo<=1099511627776)(fs:Bool)(m t:BitVec 32)(j i:Nat):
  ∃ v K' H',Dx prog 100 [.i64 s,.agg [.str sd,.str rc],.i64 bo,.bool fs,.u32 m,.u32 t] K H (fun _=>False) v K' H'/\(∃ a q w,v= .ptr a 0/\H.length<=a/\SesIn K' H' j i a q w (SeS.fresh s m t sd rc bo fs)):=by
 have l:=qa (H:=H) (UY s z sd rc g h bo A k fs m t) [] rfl (by simp[af,V.low]) ae ae (fun b B e=>by simp[ag] at e) (fun b B e _=>by
  match b with
  |0=>have f:bK [.i64 0,.u64 0#64]=some B:=e;cases f;rfl
  |1=>have f:bK (ll 0 sd rc s bo fs)=some B:=e;cases f;rfl
  |2=>have f:some (⟨false,[.ptr 1 0,.i64 s,.u32 m,.u32 t],some ⟨[],0⟩⟩:Blk)=some B:=e;cases f;rfl
  |b+3=>simp[ag] at e) (fg _)
 have o:∀ i,i<3->aw (bd [] H.length [bK [.i64 0,.u64 0#64],bK (ll 0 sd rc s bo fs),some ⟨false,[.ptr 1 0,.i64 s,.u32 m,.u32 t],some ⟨[],0⟩⟩]) i=H.length+i:=fun i C=>by
  rw[pU (fg _) C];simp
 have E:memH [] H [bK [.i64 0,.u64 0#64],bK (ll 0 sd rc s bo fs),some ⟨false,[.ptr 1 0,.i64 s,.u32 m,.u32 t],some ⟨[],0⟩⟩]=
   H++[bK [.i64 0,.u64 0#64]]++[bK (ll H.length sd rc s bo fs)]++[some ⟨false,[.ptr (H.length+1) 0,.i64 s,.u32 m,.u32 t],some ⟨[],0⟩⟩]:=by
  have r:=o 0 ah;have u:=o 1 ah;unfold ll at r u |-
  unfold memH;simp only[dQ,cR,cK,bN,cO,dx,jA,Blk.ren,rens,V.ren,r,u,iQ,dV,fO,ff]
 rw[E] at l;have F:(V.ptr 2 0).ren (aw (bd [] H.length [bK [.i64 0,.u64 0#64],bK (ll 0 sd rc s bo fs),some ⟨false,[.ptr 1 0,.i64 s,.u32 m,.u32 t],some ⟨[],0⟩⟩]))= .ptr (H.length+2) 0:=by
  unfold V.ren;rw[o 2 ah]
 rw[F] at l;have G:=(y.start (fun _=>False)).new (.win j i (H.length+2)) (vs:=[.i64 0,.u64 0#64]) (mm:=none) (by simp[af,V.low]);have l1:(H++[bK [.i64 0,.u64 0#64]]).length=H.length+1:=ae;have I:=G.new (.pair j i (H.length+2)) (vs:=ll H.length sd rc s bo fs) (mm:=none) (by rw[l1];simp[ll,af,V.low];omega);have l2:(H++[bK [.i64 0,.u64 0#64]]++[bK (ll H.length sd rc s bo fs)]).length=H.length+2:=ae;have x:=I.new (.ses j i) (vs:=[.ptr (H.length+1) 0,.i64 s,.u32 m,.u32 t]) (mm:=some ⟨[],0⟩) (by rw[l2];simp[af,V.low]);rw[l2,l1] at x;refine⟨_,_,_,⟨l,x,by simp[V.low]⟩,H.length+2,H.length+1,H.length,rfl,aa,gB,?_,?_,?_,?_,?_⟩
 ·rw[dW aa];exact gB
 ·rw[dW aa,dW aa];exact gB
 ·exact zj
 ·exact LA
 ·exact Cu
theorem PeerAt.putS (e:Cx K0 H0 Q0 K H)(a:PeerAt K H j i d p P tm wv bg ol se ne)(k:P'.tm=P.tm)(l:P'.waits=P.waits)(o:BgAt K H j i bg' P'.psk P'.bg)(h1:SesAt K H j i ol' P'.ol)(h2:SesAt K H j i se' P'.se)(q:SesAt K H j i ne' P'.ne)
  (d1:Apart ol' se') (d2:Apart ol' ne') (d3:Apart se' ne') (f:af H.length [bg',ol',se',ne']):
  Cx K H (fun r=>r= .peer j i) K (H.set p (bK (P'.cs d tm wv bg' ol' se' ne')))/\PeerAt K (H.set p (bK (P'.cs d tm wv bg' ol' se' ne'))) j i d p P' tm wv bg' ol' se' ne':=by
 obtain⟨l1,l2,l3,s,t,u,w⟩:=PeS.low (e.sane _ _ a.gp).1 (aH _);simp only[af,and_true] at f;have g:=(e.start (fun r=>r= .peer j i)).put (mm:=none) a.kp rfl (vs:=P'.cs d tm wv bg' ol' se' ne') (by simp[PeS.cs,af,V.low,l1,l2,l3,f]);have b:=g.off;exact⟨g,a.kp,a.kt,bG (e.lt a.kp) _,by rw[k];exact(b.h _ _ a.kt ae).trans a.gt,by rw[l];exact a.fwv.off b ae,o.off b ae,h1.off b ae ae,h2.off b ae ae,q.off b ae ae,d1,d2,d3⟩
theorem SesAt.shape {o:Option SeS}(h:SesAt K H j i v o):v.cells=[v]/\v.one=true:=by
 cases o with
 |none=>obtain rfl:v= .nilPtr:=h;exact⟨rfl,rfl⟩
 |some S=>obtain⟨a,q,w,rfl,-⟩:=h;exact⟨rfl,rfl⟩
theorem SesAt.low {o:Option SeS}(b:Cx K0 H0 Q0 K H)(h:SesAt K H j i v o):v.low H.length:=by
 cases o with
 |none=>obtain rfl:v= .nilPtr:=h;trivial
 |some S=>obtain⟨a,q,w,rfl,e⟩:=h;exact b.lt e.ka
theorem Apart.nil (v:V):Apart v .nilPtr:=Classical.or_iff_not_imp_left.2 fun h=>h
theorem SesAt.apart {o:Option SeS}(l:Cx K0 H0 Q0 K H)(h:SesAt K H j i v o){a:Nat}(s:H.length<=a):Apart v (.ptr a 0):=by
 cases o with
 |none=>exact .inl h
 |some S=>
  obtain⟨b,q,w,rfl,r⟩:=h;have :=l.lt r.ka;exact .inr fun e=>by cases e;omega
end
end
end Go.Vm
end
section
namespace Go.Vm
section
open Go Go.RowKit
section
variable {P:Program}{m n:Nat}{Q Q':Exit->St->Prop}{s:St}{c x y:Code}
def GP (P:Program)(m n:Nat)(c:Code)(Q:Exit->St->Prop)(s:St):Prop:=∃ e s',m<=s'.H.length/\Q e s'/\GS P m n c (fun d s2=>d=e/\s2=s') s
theorem Bl (h:GS P m n c Q s)(b:∀ e s,Q e s->Q' e s):GS P m n c Q' s:=fun ρ a w d g=>
 wp_mono (h ρ a w d g) fun e a' w' ⟨s',ρ',i,j,k⟩=>⟨s',ρ',b _ _ i,j,k⟩
theorem ve (a:P.follows .mixedOrders=true)(b:m<=s.H.length)(h:vc P m n c Q s):GP P m n c Q s:=by
 obtain⟨e,s',h1,h2,d⟩:=qu c Q s b h;exact⟨e,s',h1,h2,qw a d⟩
theorem wA {K:St->Prop}(d:GP P m n x (jH K Q) s)(g:∀ s',m<=s'.H.length->K s'->GP P m n y Q s'):GP P m n (.seq x y) Q s:=by
 obtain⟨e,s1,h1,h2,b⟩:=d;cases e
 case normal=>
  obtain⟨h,s2,k1,k2,i⟩:=g s1 h1 h2;refine⟨h,s2,k1,k2,qc (K:=fun s'=>s'=s1) (Bl b ?_) fun s' a=>by subst a;exact i⟩;rintro _ _ ⟨rfl,rfl⟩;rfl
 all_goals
  refine⟨_,s1,h1,h2,qc (K:=fun _=>False) (Bl b ?_) fun s' a=>a.elim⟩;rintro _ _ ⟨rfl,rfl⟩;exact⟨rfl,rfl⟩
theorem Ry {v:Operand}{b:Bool}(i:s.ev v= .bool b)(h:GS P m n (if b=true then x else y) Q s):GS P m n (.cond v x y) Q s:=fun ρ a w d g=>by
 have e:=d.tmps.eval v;rw[i] at e;unfold VR at e;exact wp_cond_split e (fun j=>by have :=h ρ a w d g;rwa [if_pos j] at this) (fun k=>by have :=h ρ a w d g;rwa [if_neg (by rw[k];decide)] at this)
theorem BM {v:Operand}{b:Bool}(a:s.ev v= .bool b)(h:GP P m n (if b=true then x else y) Q s):GP P m n (.cond v x y) Q s:=by
 obtain⟨e,s',h1,h2,d⟩:=h;exact⟨e,s',h1,h2,Ry a d⟩
theorem af8 {J:Nat->Option Blk->Prop}{ops:Array Oper}{id:Nat}{es:List Ent}{s':St}(d:P.follows .mixedOrders=true)(i:mU P J n ops ops.toList s es s')(g:iA ops (jG ops.toList s es)=true)(j:∀ b,J b (ag s.H b))(k:m<=s'.H.length)(l:Q .normal s'):GP P m n (.region id ops true) Q s:=
 ⟨.normal,s',k,l,fun ρ a w o h=>Hr (K:=fun t=>t=s') d i g j rfl ρ a w _ o h fun a' w' ⟨s2,ρ',e,q⟩=>⟨s2,ρ',⟨rfl,e⟩,q⟩⟩
def kr (P:Program)(J:Nat->Option Blk->Prop)(n:Nat)(ops:Array Oper)(K:St->Prop):List Oper->List (List Nat×List Nat)->St->Prop
 |[],tr,s=>iA ops tr=true/\K s
 |o::l,tr,s=>fV n o.dst/\o.guard=none/\∃ res,By J P o s.ev (ag s.H) s.H.length res/\(∀ x∈res.old,x.1<s.H.length)/\(∀ b x,gk s ⟨true,res⟩ b=some x->J b x)/\kr P J n ops K l (tr++[bI s res]) (s.after o.dst res)
theorem KE {J:Nat->Option Blk->Prop}{ops:Array Oper}{K:St->Prop}:∀ (l:List Oper) (tr:List (List Nat×List Nat)) (s:St),kr P J n ops K l tr s->∃ es s',mU P J n ops l s es s'/\iA ops (tr++jG l s es)=true/\K s'
 |[],tr,s,h=>⟨[],s,rfl,by simpa [jG] using h.1,h.2⟩
 |o::l,tr,s,⟨a,b,res,h1,h2,d,e⟩=>by
  obtain⟨es,s',g1,g2,g3⟩:=KE l _ _ e;refine⟨⟨true,res⟩::es,s',⟨⟨a,by unfold pJ;rw[b],by simp only[if_true];exact⟨h1,h2,d⟩⟩,g1⟩,?_,g3⟩;simpa [jG] using g2
theorem JG {J:Nat->Option Blk->Prop}{ops:Array Oper}{id:Nat}(a:P.follows .mixedOrders=true)(e:∀ b,J b (ag s.H b))(h:kr P J n ops (fun s'=>m<=s'.H.length/\Q .normal s') ops.toList [] s):GP P m n (.region id ops true) Q s:=by
 obtain⟨es,s',h1,h2,d⟩:=KE _ _ _ h;exact af8 a h1 (by simpa using h2) e d.1 d.2
theorem dN {J:Nat->Option Blk->Prop}{ops:Array Oper}{K:St->Prop}{o:Oper}{l:List Oper}{tr:List (List Nat×List Nat)}{res:Res}(h:fV n o.dst)(i:o.guard=none)(j:bP P o.op s.ev (ag s.H) s.H.length=some res)(k:res.pre)(a:res.old=[])(d:res.news=[])
  (p:kr P J n ops K l (tr++[(res.fp,[])]) (s.put o.dst res.v)):kr P J n ops K (o::l) tr s:=by
 refine⟨h,i,res,(OpExec.of_vop j k).toJ,by rw[a];simp,fun b x e=>?_,?_⟩
 ·unfold gk at e;rw[d,a] at e;simp at e;omega
 ·have q:bI s res=(res.fp,[]):=by unfold bI;rw[a,d];rfl
  have r:s.after o.dst res=s.put o.dst res.v:=by unfold St.after St.put cK;rw[a,d];simp
  rw[q,r];exact p
end
section
variable {P:Program}{f:FuncId}{args:List V}{H:List (Option Blk)}{W:Nat->Prop}
end
end
section
section
variable {P:Program}{n:Nat}{J:Nat->Option Blk->Prop}{ops:Array Oper}{K:St->Prop}{o:Oper}{l:List Oper}{tr:List (List Nat×List Nat)}{s:St}
theorem Hu {ty:TypeId}{a:Operand}{b i:Nat}{v:V}(k:fV n o.dst)(m:o.guard=none)(p:o.op= .load ty a)(q:s.ev a= .ptr b i)(r:bp P ty=some false){z:Nat}(t:aR P ty=some z)
  (e:∀ x,J b x->∃ B,x=some B/\i<B.cs.length/\B.cs.getD i .junk=v) (u:kr P J n ops K l (tr++[([],[])]) (s.put o.dst v)):kr P J n ops K (o::l) tr s:=by
 refine⟨k,m,{v:=v},?_,ae,fun c x g=>?_,?_⟩
 ·intro ρ dom get w act next Q h1 h2 M y C D;obtain⟨B,h,E,rfl⟩:=e _ (C b);have F:bP P o.op s.ev get s.H.length=some {v:=B.cs.getD i .junk,pre:=i<B.cs.length,fp:=[b]}:=by
   rw[p];simp only[bP,q,h,r,t]
  refine OpExec.of_vop F E ρ dom get w act next Q h1 h2 (fun c hc=>⟨rfl,fun _=>?_⟩) y D;have :c=b:=by simpa using hc
  subst this;exact h2.has _ _ h
 ·unfold gk at g;simp at g;omega
 ·have G:bI s {v:=v}=([],[]):=rfl;have I:s.after o.dst {v:=v}=s.put o.dst v:=by unfold St.after St.put cK;simp
  rw[G,I];exact u
theorem Cb {c:Call}{m:Operand}{f:FuncId}{fs cs args:List V}{v:V}{H':List (Option Blk)}{W:List Nat}(r:fV n o.dst)(u:o.guard=none)(w:o.op= .call c)(i:c.callee= .value m)(A:s.ev m= .fn f fs cs)(h:Whole P f args s.H v H' W)(hc:eu P f=true)(B:args=fs++c.args.toList.map s.ev++cs)
  (p:∀ b,b∈W\/s.H.length<=b->J b (ag H' b)) (C:kr P J n ops K l (tr++[(List.range s.H.length,W++List.range' s.H.length (H'.length-s.H.length))]) ⟨putS s.t o.dst v,H'⟩):kr P J n ops K (o::l) tr s:=by
 have q:=h.vcall hc B;rw[<-A] at q;refine⟨r,u,lW s.H H' W v,(OpExec.of_call w i q).toJ,fun x a=>?_,fun b x a=>?_,?_⟩
 ·obtain⟨b,d,rfl⟩:=cD.1 a;exact h.wlt b d
 ·unfold gk at a;split at a
  ·rename_i d;injection a with a
   have e:((H'.drop s.H.length)[b-s.H.length]?).join=ag H' b:=by
    unfold ag;rw[il,show s.H.length+(b-s.H.length)=b by omega]
   rw[<-a];exact e▸p b (.inr d.1)
  ·split at a
   ·rename_i d;injection a with a
    have g:b∈W:=by
     obtain⟨y,D,e⟩:=cD.1 d.2;obtain⟨z,E,rfl⟩:=cD.1 D;simp only at e;rw[<-e];exact E
    have e:gQ (W.map fun b=>(b,ag H' b)) b none=ag H' b:=by rw[zz,if_pos g]
    rw[<-a];exact e▸p b (.inl g)
   ·cases a
 ·have j:bI s (lW s.H H' W v)=(List.range s.H.length,W++List.range' s.H.length (H'.length-s.H.length)):=by
   unfold bI lW;simp only[kH,bU];congr 2
   conv=>rhs;rw[<-tK W]
   rfl
  have k:St.after s o.dst (lW s.H H' W v)=⟨putS s.t o.dst v,H'⟩:=Bz (t:=s.t) (dst:=o.dst) h.le h.keep;rw[j,k];exact C
theorem Xf {c:Call}{a:Operand}{f:FuncId}{fs cs:List V}{v:V}(g:fV n o.dst)(i:o.guard=none)(j:o.op= .call c)(d:c.callee= .value a)(k:s.ev a= .fn f fs cs)(h:aG P f (fs++c.args.toList.map s.ev++cs) v)
  (m:kr P J n ops K l (tr++[([],[])]) (s.put o.dst v)):kr P J n ops K (o::l) tr s:=by
 have p:VCall P (s.ev a) (c.args.toList.map s.ev) (ag s.H) s.H.length {v:=v}:=by
  rw[k];exact .inl ⟨f,fs,cs,rfl,h.1,trivial,h.2 _ _⟩
 refine⟨g,i,{v:=v},(OpExec.of_call j d p).toJ,ae,fun b x e=>?_,?_⟩
 ·unfold gk at e;simp at e;omega
 ·have q:bI s {v:=v}=([],[]):=rfl;have r:s.after o.dst {v:=v}=s.put o.dst v:=by unfold St.after St.put cK;simp
  rw[q,r];exact m
theorem KT {res:Res}(a:fV n o.dst)(c:o.guard=none)(d:bP P o.op s.ev (ag s.H) s.H.length=some res)(e:res.pre)(hold:∀ x∈res.old,x.1<s.H.length)(f:∀ b x,gk s ⟨true,res⟩ b=some x->J b x)
  (g:kr P J n ops K l (tr++[bI s res]) (s.after o.dst res)):kr P J n ops K (o::l) tr s:=⟨a,c,res,(OpExec.of_vop d e).toJ,hold,f,g⟩
theorem G8 (a:iA ops tr=true)(b:K s):kr P J n ops K [] tr s:=⟨a,b⟩
end
theorem ld {P:Program}{m n:Nat}{x y:Code}{Q:Exit->St->Prop}{s:St}(a:P.follows .mixedOrders=true)(b:m<=s.H.length)(h:vc P m n x (jH (fun s'=>m<=s'.H.length->GP P m n y Q s') Q) s):GP P m n (.seq x y) Q s:=
 wA (ve a b h) fun s' h1 h2=>h2 h1
end
section
open Go Go.RowKit
section
variable {P:Program}{m n:Nat}{Q Q2:Exit->St->Prop}{s:St}{c x y Y:Code}
end
end
section
open Go Go.RowKit
section
variable {P:Program}{J:Nat->Option Blk->Prop}{n:Nat}{ops:Array Oper}{K:St->Prop}{s:St}{o:Oper}{l:List Oper}{tr:List (List Nat×List Nat)}
end
end
end Go.Vm
end
section
namespace Go.Vm
open Go.Proofs Go.Proofs.Tryz
section
structure SeP where
 f:FiP
 psk:List ai
 e:List ai
 best:Int
 id2:BitVec 32
noncomputable def SeP.text (g:SeP):List ai:=mC g.f.su g.f.st g.e g.f.once g.f.own g.psk g.best g.id2 g.f.id
noncomputable def SeP.key (g:SeP) (i:Nat):List ai:=gK g.f.su g.f.st g.e g.f.once g.f.own g.psk g.best i
structure SeP.ok (g:SeP):Prop where
 f:g.f.ok
 psk:g.psk.length=32
 e:g.e.length=32
 best:g.best=1\/g.best=2
theorem FiP.st_ok {f:FiP}(a:f.ok):f.st.ok:=abr a.su
section
variable {K K0 K':RK}{H H0 H':List (Option Blk)}{Q0 Q:Rl->Prop}{j i d p tm n m W:Nat}{P P':PeS}{D D':DeS}{c:NoK}{N:NoS}{g:SeP}{f:FiP}{wv bg ol se ne bg' ol' se' ne' v:V}
theorem SeP.key_length (a:g.ok){i:Nat}(hi:i<2):(g.key i).length=32:=MO a.f.su (FiP.st_ok a.f) a.psk hi
theorem SeP.facts (a:g.ok):g.text.length=59/\List.drop 6 (List.take 10 g.text)=cW g.f.id/\((g.text.getD 1 0).toNat:Int)=g.f.su/\g.text.getD 0 0=2#8:=by
 obtain⟨b,h,-,-,-⟩:=HQ (k:=2#8) (s:=BitVec.ofInt 8 g.f.su) (fE g.id2) (fE g.f.id) (cB g.e) (Ac (e:=g.e) (once:=g.f.once) (own:=g.f.own) (best:=g.best) a.f.su (FiP.st_ok a.f) a.psk);exact⟨b,h,wD a.f.su,rfl⟩
theorem VI (b:Cx K0 H0 Q0 K H)(a:g.ok)(h:ag H p=bK (g.f.cs g.psk)):
  ∃ v K' H',Dx prog 103 [.ptr p 0,.str g.text] K H (fun _=>False) v K' H'/\(v= .tup [.agg [.str (g.key 0),.str (g.key 1)],.i64 g.best,.u32 g.id2,.i64 0]/\K'=K/\H'=H):=by
 have l:=g.f.st.rens g.f.su;have k:=g.f.st.low g.f.su;exact Bs b h (ZH a.f.su a.best (FiP.st_ok a.f) a.e a.f.once a.f.own a.psk (aK g.f.q)) (fun _=>rfl) (fun _=>by simp[af,V.low]) (fun σ=>rfl) (fun n=>by unfold FiP.cs;rw[oZ,k];simp[af,V.low]) (fun _=>rfl) (fun _=>by simp[af,V.low]) ⟨rfl,rfl,rfl⟩
noncomputable def m6 (P:PeS) (g:SeP) (fr:BitVec 32) (now:Int):PeS:=
 {P with kn:=g.best,pin:=if P.pin<g.f.su then g.f.su else P.pin,at_:=fr,ol:=P.se,se:=some (SeS.fresh g.f.su P.bi g.id2 (g.key 0) (g.key 1) now true),ne:=none,bg:=none,tm:=P.tm.ev 5 now}
noncomputable def xc (D:DeS) (P:PeS):DeS×PeS:=if P.waits=[] then jP (dn D P []).1 (dn D P []).2 else jP D P
noncomputable def nr (N:NoS) (g:SeP) (fr:BitVec 32):Int×NoS:=match N.Ps.findIdx? (gM g.f.id) with
 |none=>(7,N)
 |some i=>match N.Ps[i]? with
  |none=>(7,N)
  |some P=>if g.f.su<P.pin then(10,N) else(0,{N with D:=(xc N.D (m6 P g fr N.D.now)).1,Ps:=N.Ps.set i (xc N.D (m6 P g fr N.D.now)).2})
theorem HO (a:P.ok)(b:g.ok)(fr:BitVec 32){now:Int}(k:0<=now/\now<=1099511627776):(m6 P g fr now).ok:=
 ⟨a.q,a.pub,a.psk,b.best,by show(if _ then _ else _:Int)=1\/(if _ then _ else _:Int)=2;have h1:=b.f.su;have h2:=a.pin;split <;>assumption,a.ck,a.un,a.wl,a.ws,(fun _ h=>nomatch h),a.bt,a.se,fun S e=>by
  cases e;exact⟨b.f.su,g.key_length b ah,g.key_length b ah,k,by show(0:Int)<=0/\(0:Int)<=1000;omega,by show(0:Int)<=0/\(0:Int)<=1099511627777;omega⟩,(fun _ h=>nomatch h),TmS.ev_ok a.tm (.inl ah) k⟩
theorem aaY (a:P.ok)(b:D.ok n):(jP D P).2.ok/\(jP D P).1.ok (n+4):=by
 have h:=Fj (l:=P.waits) a.waits b;exact⟨h.1,h.2.up (by have :=a.wl;omega)⟩
theorem agR (hC:Cx K0 H0 Q0 K H)(hN:NodeAt K H j c N)(ho:N.ok n)(hn:n<=900000000)(hp8:N.Ps.length<=8)(hg:g.ok)(m:List ai)(hm:m.length=16)(fr:BitVec 32)
  (hmatch:∀ i P,N.Ps.findIdx? (gM g.f.id)=some i->N.Ps[i]?=some P->P.bg=some g.f/\P.psk=g.psk):
  ∃ v K' H',Dx prog 70 [.ptr c.d 0,.u32 fr,.str (g.text++bX N.D.pub g.text++m)] K H (qD j) v K' H'/\(v= .i64 (nr N g fr).1/\NodeAt K' H' j c (nr N g fr).2):=by
 obtain⟨out,got,hD⟩:=hN.dev;have hnow:=ho.D.now;have hgd:=hD.g;unfold DeS.cs at hgd;have hld:=hC.lt hD.kd;have hlen:=hN.len;obtain⟨q1,q2,q3,-⟩:=g.facts hg;have hpl:N.D.pub.length=32:=by rw[ho.D.pub,cB]
 have hck:=DR fr N.D.now ho.D.secret;have hCh:=GH N.D.pub (gV N.D.secret fr N.D.now) g.text m hpl hck aa hm;have hix:=ID hC hN hp8 (List.drop 6 (List.take 10 g.text)) g.f.id (by rw[q2];exact ar (by rw[fE];decide)) (by rw[q2,fE];decide) (by rw[q2,fE];decide);have hFx:=fun(bc:Nat) (hb:ag H bc=bK (g.f.cs g.psk))=>VI (p:=bc) hC hg hb
 have h10:¬ (g.text.length:Int)<10:=aa;generalize decide (ik (gV N.D.secret fr N.D.now) (g.text++bX N.D.pub g.text) 16=m)=bb at*;generalize g.text++bX N.D.pub g.text++m=msg at*;have hcx:=Hz hC hD ho.D fr;generalize gV N.D.secret fr N.D.now=ck at*;generalize g.text=o at*;generalize hRes:nr N g fr=R;unfold nr at hRes;generalize hfi:N.Ps.findIdx? (gM g.f.id)=fi at*;refine bV (Q:=qD j) (Post:=fun v K' H'=>v= .i64 R.1/\NodeAt K' H' j c R.2) ac (fn:=f70) func70 rfl am (ak ?_);simp -implicitDefEqProofs only[go_sem,↓reduceIte,Nat.reduceEqDiff,Nat.reduceLT,Nat.reduceAdd,reduceCtorEq,hgd];repeat refine aI ?_
 refine cN (hcx) ac rfl (by simp[af,V.low,hld]) hC.sane ?_;rintro _ K1 H1 hC1 hl1 ⟨rfl,rfl,rfl⟩;simp -implicitDefEqProofs only[go_sem,↓reduceIte,Nat.reduceEqDiff,Nat.reduceLT,reduceCtorEq];repeat refine aI ?_
 refine aX (hCh) ?_;simp -implicitDefEqProofs only[go_sem,↓reduceIte,Nat.reduceEqDiff,Nat.reduceLT,Int.reduceLE,Int.reduceToNat,reduceCtorEq];repeat refine aI ?_
 refine And.intro ?_ ?_
 ·refine eC (fw H1.length) [([],[]),([],[]),([],[]),([0],[]),([],[]),([],[]),([0,1],[1]),([],[]),([],[]),([],[]),([],[]),([],[]),([],[]),([],[]),([],[]),([],[])] ac (by simp only[eO,eG,bh,mz,all_cons,pO,ff,w8,dU hld,fC,and_true])
 simp -implicitDefEqProofs only[go_sem,↓reduceIte,decide_false,h10];repeat refine aI ?_
 refine bA (hix) ac rfl (by simp[af,V.low,hld]) hC.sane ?_;rintro _ K2 H2 hC2 hl2 ⟨rfl,rfl,rfl⟩;cases fi with
 |none=>
  subst hRes;simp -implicitDefEqProofs only[go_sem,↓reduceIte,Nat.reduceLT,jh];exact Ex.of (hC.start _) trivial ⟨rfl,hN⟩
 |some i=>
 have hi2:i<N.Ps.length:=(sM.1 hfi).1;have hi:i<c.ps.length:=aa;rw[lp hi];have hPo:=ho.Ps _ (dd hi2);obtain⟨hbg,hpsk⟩:=hmatch i _ rfl (aF hi2);obtain⟨tm,wv,bg,ol,se,ne,hP⟩:=hN.peer i hi hi2;dsimp only at hRes;rw[aF hi2] at hRes;dsimp only at hRes;generalize hpe:c.ps[i]=p at*;generalize hPi:N.Ps[i]=P at*;have hfb:=hP.fbg;rw[hbg,hpsk] at hfb;obtain⟨bc,rfl,hkb,hgb⟩:=hfb;have hgq:=hP.gp;unfold PeS.cs at hgq;simp -implicitDefEqProofs only[go_sem,↓reduceIte,Nat.reduceEqDiff,Nat.reduceLT,Nat.reduceAdd,hgq];repeat refine aI ?_
 refine bA (hFx bc hgb) ac rfl (by simp[af,V.low,hC.lt hkb]) hC.sane ?_;rintro _ K3 H3 hC3 hl3 ⟨rfl,rfl,rfl⟩;simp -implicitDefEqProofs only[go_sem,↓reduceIte,Nat.reduceEqDiff,Nat.reduceLT,Nat.reduceAdd,Int.reduceLE,Int.reduceToNat];repeat refine aI ?_
 have hC0:=hC.start (fun _=>False);have hlp:=hC.lt hP.kp;have hD4:=hC0.boxed (zs:=[.str [],.str []]) (ys:=[.str (g.key 0),.str (g.key 1)]) (by simp[af,V.low]) (by simp[af,V.low]);have hg4:=(lc (x:=bK [.str [],.str []]) (y:=bK [.str (g.key 0),.str (g.key 1)]) hlp).trans hgq;have hd4:=(lc (x:=bK [.str [],.str []]) (y:=bK [.str (g.key 0),.str (g.key 1)]) hld).trans hgd;have hm4:=lF (H:=H3) (x:=bK [.str [],.str []]) (y:=bK [.str (g.key 0),.str (g.key 1)]);have hlM:((H3++[bK [.str [],.str []]]).set H3.length (bK [.str (g.key 0),.str (g.key 1)])).length=H3.length+1:=ae;generalize ((H3++[bK [.str [],.str []]]).set H3.length (bK [.str (g.key 0),.str (g.key 1)]))=M at*;have hlm:=aU hm4;have hpd:p≠c.d:=fun e=>by have :=hP.kp;rw[e,hD.kd] at this;cases this
 have hpm:p≠H3.length:=aa;by_cases hpin:g.f.su<P.pin
 ·rw[if_pos hpin] at hRes;subst hRes;simp -implicitDefEqProofs only[go_sem,↓reduceIte,Nat.reduceEqDiff,Nat.reduceLT,Nat.reduceAdd,↓reduceIte,hg4,hpin,q3,decide_true];repeat refine aI ?_
  exact Ex.of (hD4.mono fun _ h=>h.elim) trivial ⟨rfl,⟨_,_,hD.offF hD4.off⟩,hN.len,fun i' h1 h2=>(hN.peer i' h1 h2).off hD4.off id id id id id fun _=>⟨id,id⟩,hN.bkt.off hD4.off id id,hN.pth.off hD4.off hD4.len id⟩
 rw[if_neg hpin] at hRes;have hN4:NodeAt K3 M j c N:=⟨⟨_,_,hD.offF hD4.off⟩,hN.len,fun i' h1 h2=>(hN.peer i' h1 h2).off hD4.off id id id id id fun _=>⟨id,id⟩,hN.bkt.off hD4.off id id,hN.pth.off hD4.off hD4.len id⟩;have hlp4:=hD4.lt hP.kp;have hP4:=hP.offF hD4.off;have hE4:=hD.offF hD4.off;simp -implicitDefEqProofs only[go_sem,↓reduceIte,Nat.reduceEqDiff,Nat.reduceLT,Nat.reduceLeDiff,Nat.reduceAdd,reduceCtorEq,↓reduceIte,hg4,hpin,q3,decide_false,bG hlp4,iX,aY,bW hpm,hm4,bW hpd,hd4];repeat refine aI ?_
 generalize hpn:(if P.pin<g.f.su then g.f.su else P.pin)=pn at*;obtain⟨c5,hP5⟩:=hP4.set hD4 (P':={P with kn:=g.best,pin:=pn,at_:=fr}) (wv':=wv) hP4.fwv (PeS.low (hD4.sane _ _ hP4.gp).1 (aH _)).2.2.1 rfl rfl rfl rfl rfl rfl;have hC5:=(hD4.mono (Q2:=qP j i) fun _ h=>h.elim).call c5 fun r h=>by subst h;exact⟨rfl,rfl⟩
 have hE5:=hE4.off c5.off ae ae ae ae;have hX5:=c5.mono (Q2:=qP j i) fun r h=>by subst h;exact⟨rfl,rfl⟩
 have hl5:(M.set p (bK (({P with kn:=g.best,pin:=pn,at_:=fr}:PeS).cs c.d tm wv (.ptr bc 0) ol se ne))).length=M.length:=aY;unfold PeS.cs at c5 hP5 hC5 hE5 hX5 hl5;dsimp only at c5 hP5 hC5 hE5 hX5 hl5;generalize M.set p (bK [.ptr c.d 0,.ptr tm 0,.i64 P.num,.str P.pub,.str P.psk,.u32 fr,.i64 g.best,.i64 pn,.bool P.stp,.i64 P.sec,.i64 P.nano,.str P.ck,.i64 P.un,wv,.ptr bc 0,.u32 P.bi,.str P.bt,ol,se,ne])=M5 at*;have hg5:=hP5.gp;have hd5:=hE5.g;unfold PeS.cs at hg5;unfold DeS.cs at hd5;dsimp only at hg5;refine cN (I1 hC5 g.f.su hg.f.su (g.key 0) (g.key 1) (g.key_length hg ah) (g.key_length hg ah) N.D.now hnow.1 hnow.2 true P.bi g.id2 j i) ac rfl (by simp[af,V.low]) hC5.sane ?_;rintro _ K6 H6 hC6 hl6 ⟨a6,q6,w6,rfl,hla6,hS6⟩;have hC6':=hC5.call hC6 fun _ h=>h.elim
 have hP6:=hP5.offF hC6.off;have hE6:=hE5.offF hC6.off;have hg6:=hP6.gp;have hd6:=hE6.g;unfold PeS.cs at hg6;unfold DeS.cs at hd6;dsimp only at hg6;have hlp5:=hC5.lt hP5.kp;have hlp6:=hC6'.lt hP6.kp;have hld5:=hC5.lt hE5.kd;have hlm6:H3.length<M5.length:=aa;have hse:Apart se (.ptr a6 0):=SesAt.apart hC5 hP5.fse hla6;obtain⟨e1,e2⟩:=SesAt.shape hP6.fse;have e3:=e1;unfold V.cells at e3;have hsel:=SesAt.low hC6' hP6.fse;obtain⟨c7,hP7⟩:=hP6.putS hC6' (P':={P with kn:=g.best,pin:=pn,at_:=fr,ol:=P.se,se:=some (SeS.fresh g.f.su P.bi g.id2 (g.key 0) (g.key 1) N.D.now true),ne:=none,bg:=none}) (bg':= .nilPtr) (ol':=se) (se':= .ptr a6 0) (ne':= .nilPtr) rfl rfl rfl hP6.fse ⟨a6,q6,w6,rfl,hS6⟩ rfl hse
  (Apart.nil _) (Apart.nil _) ⟨trivial,hsel,hC6'.lt hS6.ka,trivial,trivial⟩
 have hC7:=hC6'.call c7 fun r h=>by subst h;exact⟨rfl,rfl⟩
 have hX7:=(hX5.call hC6 fun _ h=>h.elim).call c7 fun r h=>by subst h;exact⟨rfl,rfl⟩
 have hE7:=hE6.off c7.off ae ae ae ae;unfold PeS.cs at c7 hP7 hC7 hE7 hX7;dsimp only at c7 hP7 hC7 hE7 hX7;simp -implicitDefEqProofs only[go_sem,↓reduceIte,Nat.reduceEqDiff,Nat.reduceLT,Nat.reduceLeDiff,Nat.reduceAdd,reduceCtorEq,hg6,bG hlp6,iX,aY,hlp6,e2,e3];repeat refine aI ?_
 refine And.intro ?_ ?_
 ·refine eC (fw M5.length) [([],[]),([],[]),([],[]),([],[]),([],[]),([],[]),([0],[]),([],[]),([0],[]),([],[]),([],[]),([],[]),([0],[]),([],[]),([],[]),([],[]),([0],[]),([],[]),([0,1],[1]),([],[]),([],[]),([0],[0]),([],[]),([],[]),([0],[0]),([],[]),([],[]),([0],[0])] ac (by simp only[eO,eG,bh,mz,all_cons,pO,ff,w8,dU hlp5,dU hld5,dU hlm6,fC,and_true])
 generalize H6.set p (bK [.ptr c.d 0,.ptr tm 0,.i64 P.num,.str P.pub,.str P.psk,.u32 fr,.i64 g.best,.i64 pn,.bool P.stp,.i64 P.sec,.i64 P.nano,.str P.ck,.i64 P.un,wv,.nilPtr,.u32 P.bi,.str P.bt,se,.ptr a6 0,.nilPtr])=M7 at*;have hd7:=hE7.g;unfold DeS.cs at hd7;simp -implicitDefEqProofs only[go_sem,↓reduceIte,Nat.reduceEqDiff,Nat.reduceLT,Nat.reduceAdd,hd7];repeat refine aI ?_
 refine cN (ng hC7 hP7.kt hP7.gt hPo.tm 5 N.D.now ah hnow) ac rfl (by simp[af,V.low,hC7.lt hP7.kt]) hC7.sane ?_;rintro _ K8 H8 hC8 hl8 ⟨rfl,rfl,hH8⟩;have hP8:=hP7.timer hC8.off hP7.kt (T:=P.tm.ev 5 N.D.now) (by rw[hH8];exact bG (hC7.lt hP7.kt) _);have hE8:=hE7.off hC8.off ae ae ae ae;have hC8':=hC7.call hC8 fun r h=>by subst h;exact⟨rfl,rfl⟩
 have hX8:=hX7.call hC8 fun r h=>by subst h;exact⟨rfl,rfl⟩
 have hsp:=HO hPo hg fr hnow;have eP:({P with kn:=g.best,pin:=pn,at_:=fr,ol:=P.se,se:=some (SeS.fresh g.f.su P.bi g.id2 (g.key 0) (g.key 1) N.D.now true),ne:=none,bg:=none,tm:=P.tm.ev 5 N.D.now}:PeS)=m6 P g fr N.D.now:=by unfold m6;rw[hpn]
 dsimp only at hP8;rw[eP] at hP8;have hsS:(m6 P g fr N.D.now).se=some (SeS.fresh g.f.su P.bi g.id2 (g.key 0) (g.key 1) N.D.now true):=rfl;have hwP:(m6 P g fr N.D.now).waits=P.waits:=rfl;have fin:∀ {K9:RK} {H9:List (Option Blk)} {D9:DeS} {P9:PeS},Cx K3 M (qP j i) K9 H9->fm K9 H9 j c.d D9 c.arr c.ps c.paths c.bk->PeerIn K9 H9 j i c.d p P9->Cx K3 H3 (qD j) K9 H9/\NodeAt K9 H9 j c {N with D:=D9,Ps:=N.Ps.set i P9}:=fun hc hd hp=>
  ⟨(hD4.mono fun _ h=>h.elim).call hc re,hN4.one hc hd hi (by rw[hpe];exact hp)⟩
 have hg8:=hP8.gp;rw[<-eP] at hg8;unfold PeS.cs at hg8;dsimp only at hg8;generalize m6 P g fr N.D.now=P8 at*;subst hRes;unfold xc;rw[hwP];rcases hP.fwv with⟨rfl,hw0⟩|⟨wa,rfl,hw0,-,-⟩
 ·rw[if_pos hw0];simp -implicitDefEqProofs only[go_sem,↓reduceIte,Nat.reduceEqDiff,Nat.reduceLT,Nat.reduceAdd,hg8];repeat refine aI ?_
  have h1:=wB hsp ho.D [];refine bA (yV hC8' hE8 hP8 hsp ho.D aa hsS [] ae) ac rfl (by simp[af,V.low,hC8'.lt hP8.kp]) hC8'.sane ?_;rintro _ K9 H9 hC9 hl9 ⟨rfl,⟨_,_,hE9⟩,_,_,_,_,_,_,hP9⟩;simp -implicitDefEqProofs only[go_sem,↓reduceIte,Nat.reduceEqDiff,Nat.reduceLT];have hC9':=hC8'.call hC9 uG;refine bA (BA hC9' hE9 hP9 h1.1 h1.2 aa (Ja (by rw[hsS];simp) [])) ac rfl (by simp[af,V.low,hC9'.lt hP9.kp]) hC9'.sane ?_;rintro _ K10 H10 hC10 hl10 ⟨rfl,hE10,hP10⟩;simp -implicitDefEqProofs only[go_sem,↓reduceIte,Nat.reduceLT];obtain⟨r1,r2⟩:=fin ((hX8.call hC9 uG).call hC10 fun _ h=>h) hE10 hP10;exact Ex.of r1 trivial ⟨rfl,r2⟩
 ·rw[if_neg hw0];have hw1:¬ (P.waits.length:Int)=0:=by have :=rH.2 hw0;omega
  simp -implicitDefEqProofs only[go_sem,↓reduceIte,Nat.reduceEqDiff,Nat.reduceLT,Nat.reduceAdd,hg8,hw1,decide_false];repeat refine aI ?_
  refine bA (BA hC8' hE8 hP8 hsp ho.D aa (by rw[hsS];simp)) ac rfl (by simp[af,V.low,hC8'.lt hP8.kp]) hC8'.sane ?_;rintro _ K9 H9 hC9 hl9 ⟨rfl,hE9,hP9⟩;simp -implicitDefEqProofs only[go_sem,↓reduceIte,Nat.reduceLT];obtain⟨r1,r2⟩:=fin (hX8.call hC9 fun _ h=>h) hE9 hP9;exact Ex.of r1 trivial ⟨rfl,r2⟩
end
end
section
def PeS.slot (P:PeS):Nat->Option SeS
 |0=>P.se
 |1=>P.ol
 |_=>P.ne
def PeS.setSlot (P:PeS)(w:Nat)(S:SeS):PeS:=match w with
 |0=>{P with se:=some S}
 |1=>{P with ol:=some S}
 |_=>{P with ne:=some S}
def uZ (se ol ne:V):Nat->V
 |0=>se
 |1=>ol
 |_=>ne
noncomputable def rY (D:DeS) (P:PeS) (F:BitVec 32->Int×Bool) (fr:BitVec 32) (txt:List ai):Int×DeS×PeS:=
 if txt=[] then(0,D,{P with at_:=fr}) else
 if(txt.length:Int)<4 then(4,D,{P with at_:=fr,tm:=P.tm.ev 2 D.now}) else
 if(F (BitVec.setWidth 32 (BitVec.ofNat 64 (be (txt.take 4))))).2=true/\(F (BitVec.setWidth 32 (BitVec.ofNat 64 (be (txt.take 4))))).1=P.num then
  (0,{D with got:=D.got++[(P.num,BitVec.setWidth 32 (BitVec.ofNat 64 (be (txt.take 4))),txt.drop 4)]},{P with at_:=fr,tm:=P.tm.ev 2 D.now})
 else(13,D,{P with at_:=fr,tm:=P.tm.ev 2 D.now})
noncomputable def rT (D:DeS) (P:PeS) (S:SeS) (fr:BitVec 32):DeS×PeS:=jP D {P with ol:=P.se,se:=P.ne,ne:=none,pin:=if P.pin<S.su then S.su else P.pin,at_:=fr,tm:=P.tm.ev 5 D.now}
noncomputable def nP (D:DeS) (P:PeS) (F:BitVec 32->Int×Bool) (w:Nat) (S:SeS) (n:Int) (z:List ai) (fr:BitVec 32):Int×DeS×PeS:=
 if(S.open_ n z D.now).2.1=0 then
  (if w=2 then rY (rT D (P.setSlot 2 (S.open_ n z D.now).2.2) S fr).1 (rT D (P.setSlot 2 (S.open_ n z D.now).2.2) S fr).2 F fr (S.open_ n z D.now).1
   else rY D (P.setSlot w (S.open_ n z D.now).2.2) F fr (S.open_ n z D.now).1)
 else((S.open_ n z D.now).2.1,D,P)
section
variable {K K0 K':RK}{H H0 H':List (Option Blk)}{Q0 Q:Rl->Prop}{j i d p tm n m W a q w arr pb bk pw:Nat}{P P':PeS}{D D':DeS}{S S':SeS}{ps:List Nat}{F:BitVec 32->Int×Bool}{out got wv bg ol se ne v:V}
theorem Zp {k:Int}{z:List ai}{now:Int}(h:¬ (S.open_ k z now).2.1=0):(S.open_ k z now).2.2=S:=by
 unfold SeS.open_ at h |-
 split
 ·rfl
 ·rename_i h1;rw[if_neg h1] at h;split
  ·rename_i h2;rw[if_pos h2] at h;split
   ·rename_i b;rw[if_pos b] at h;exact absurd rfl h
   ·rfl
  ·rfl
theorem Tk {nx k:Int}{bits:BitVec 64}(h:0<=nx/\nx<=1099511627777)(hc:lk nx bits k=0):0<=rI nx k/\rI nx k<=1099511627777:=by
 have b:0<=k/\k<=1099511627776:=by
  unfold lk at hc;by_cases h2:k<0\/1099511627776<k
  ·rw[if_pos h2] at hc;cases hc
  ·omega
 unfold rI;split <;>omega
theorem F0 (b:S.ok)(k:Int)(z:List ai)(now:Int):(S.open_ k z now).2.2.ok:=by
 unfold SeS.open_;split
 ·exact b
 ·split
  ·rename_i hc;split
   ·exact⟨b.su,b.sd,b.rc,b.bo,b.se,Tk b.nx hc⟩
   ·exact b
  ·exact b
theorem ag4 (k:Int)(z:List ai)(now:Int):(S.open_ k z now).2.2.su=S.su:=by
 unfold SeS.open_;split
 ·rfl
 ·split
  ·split <;>rfl
  ·rfl
theorem YE (b:Cx K0 H0 Q0 K H)(h:SesIn K H j i a q w S)(c:S.ok)(k:Int)(z:List ai)(now:Int):
  ∃ v K' H',Dx prog 148 [.ptr q 0,.i64 k,.str z,.i64 now] K H (fun r=>r= .win j i a) v K' H'/\(v= .tup [.str (S.open_ k z now).1,.i64 (S.open_ k z now).2.1]/\K'=K/\SesIn K' H' j i a q w (S.open_ k z now).2.2):=by
 obtain⟨v,K',H',h1,rfl,rfl,rfl⟩:=UD b h c k z now;refine⟨_,_,_,h1,rfl,rfl,h.ka,h.kq,h.kw,(h1.cur.get h.ka (aU h.ga) ae).trans ?_,(h1.cur.get h.kq (aU h.gq) ae).trans ?_,bG (aU h.gw) _⟩
 ·rw[h.ga];unfold SeS.open_;split <;>(try split)<;>(try split)<;>rfl
 ·rw[h.gq];unfold SeS.open_;split <;>(try split)<;>(try split)<;>rfl
theorem PeerAt.slotS (h:PeerAt K H j i d p P tm wv bg ol se ne)(hw:w<3)(t:uZ se ol ne w= .ptr a 0)(b:Off (fun r=>r= .win j i a) K H K' H')(u:SesIn K' H' j i a q pw S'):PeerAt K' H' j i d p (P.setSlot w S') tm wv bg ol se ne:=by
 have l:∀ {v v':V} {a':Nat},v= .ptr a' 0->v'= .ptr a 0->Apart v v'->¬ Rl.pair j i a'= .win j i a/\¬ Rl.win j i a'= .win j i a:=fun {v v' a'} e C c=>by
  subst e C;have x:a'≠a:=fun E=>by
   subst E;rcases c with c|c
   ·cases c
   ·exact c rfl
  simp[x]
 have f:∀ {v v':V},Apart v v'->Apart v' v:=fun {v v'} c=>by
  rcases c with rfl|c
  ·by_cases e:v'= .nilPtr
   ·exact .inl e
   ·exact .inr e
  ·exact .inr (Ne.symm c)
 have k1:=b.k p _ h.kp ae;have k2:=b.k tm _ h.kt ae;have y:=(b.h p _ h.kp ae).trans h.gp;have z:=(b.h tm _ h.kt ae).trans h.gt;have A:=h.fwv.off b ae;have B:=h.fbg.off b ae
 match w,hw with
 |0,_=>
  obtain rfl:se= .ptr a 0:=t;exact⟨k1,k2,y,z,A,B,h.fol.off b ae fun a' e=>l e rfl h.d1,⟨a,q,pw,rfl,u⟩,h.fne.off b ae fun a' e=>l e rfl (f h.d3),h.d1,h.d2,h.d3⟩
 |1,_=>
  obtain rfl:ol= .ptr a 0:=t;exact⟨k1,k2,y,z,A,B,⟨a,q,pw,rfl,u⟩,h.fse.off b ae fun a' e=>l e rfl (f h.d1),h.fne.off b ae fun a' e=>l e rfl (f h.d2),h.d1,h.d2,h.d3⟩
 |2,_=>
  obtain rfl:ne= .ptr a 0:=t;exact⟨k1,k2,y,z,A,B,h.fol.off b ae fun a' e=>l e rfl h.d2,h.fse.off b ae fun a' e=>l e rfl h.d3,⟨a,q,pw,rfl,u⟩,h.d1,h.d2,h.d3⟩
theorem HL (c:Cx K0 H0 Q K H)(u:Q (.dev j))(f:Q (.got j))(g:H.length=W)(b:DevAt K H j d D arr ps pb bk out got)(x:Pk)(a:Option Nat)(l:∀ y,a=some y->K y=some (.got j)):
  Cx K0 H0 Q (cV (fQ a K) W (some (.got j))) ((cutH a H++[bK (cS (D.got++[x]))]).set d (bK (D.cs arr ps.length pb bk out (.slice W 0 (D.got.length+1) 3))))/\
  DevAt (cV (fQ a K) W (some (.got j))) ((cutH a H++[bK (cS (D.got++[x]))]).set d (bK (D.cs arr ps.length pb bk out (.slice W 0 (D.got.length+1) 3)))) j d {D with got:=D.got++[x]} arr ps pb bk out (.slice W 0 (D.got.length+1) 3)/\
  Off (fun r=>r= .dev j\/r= .got j) K H (cV (fQ a K) W (some (.got j))) ((cutH a H++[bK (cS (D.got++[x]))]).set d (bK (D.cs arr ps.length pb bk out (.slice W 0 (D.got.length+1) 3)))):=by
 obtain⟨l1,l2,l3,z,-⟩:=DeS.low (b.low c) (show H.length<=H.length+1 by omega);have t:af (H.length+1) (D.cs arr ps.length pb bk out (.slice W 0 (D.got.length+1) 3)):=by simp[DeS.cs,af,V.low,l1,l2,l3,z];omega
 have A:=c.growN g b.kd u a (.got j) l f (um _ (D.got++[x])) t;have s:=(c.start (fun r=>r= .dev j\/r= .got j)).growN g b.kd (.inl rfl) a (.got j) l (.inr rfl) (um _ (D.got++[x])) t;obtain⟨g1,g2,g3⟩:=uh (ds:=cS (D.got++[x])) (vs:=D.cs arr ps.length pb bk out (.slice W 0 (D.got.length+1) 3)) c g b.kd l ae;have e:=s.off;refine⟨A,⟨g1,e.k _ _ b.ka ae,g2,(e.h _ _ b.ka ae).trans b.ga,b.o.off e ae,.inr ⟨_,?_,?_,gB,g3⟩⟩,e⟩
 ·show V.slice W 0 (D.got.length+1) 3= .slice W 0 (D.got++[x]).length 3;rw[aE];rfl
 ·show 0<(D.got++[x]).length;simp
theorem aaA (hC:Cx K0 H0 (qP j i) K H)(hD:DevAt K H j d D arr ps pb bk out got)(hP:PeerAt K H j i d p P tm wv bg ol se ne)(hp:P.ok)(hd:D.ok n)(hn:n<=999999999)(hpt:PathAt K H j pb F)(txt:List ai)(fr:BitVec 32){t:List (Nat×V)}
  (h0:aj t 0= .ptr p 0) (h4:aj t 4= .u32 fr) (h11:aj t 11= .str txt) (r0 r1 s2 s4 c:Code) (hc:f107.body=some (.seq r0 (.seq r1 (.seq s2 (.seq s4 c))))) {R:Int×DeS×PeS} (hR:rY D P F fr txt=R):
  vc prog H0.length f107.ntmps c (eW prog f107 (Ex K0 H0 (qP j i) fun v K' H'=>v= .i64 R.1/\fm K' H' j d R.2.1 arr ps pb bk/\PeerIn K' H' j i d p R.2.2)) ⟨t,H⟩:=by
 have hnow:=hd.now;have hg:=hD.g;have hgq:=hP.gp;unfold DeS.cs at hg;unfold PeS.cs at hgq;have hlp:=hC.lt hP.kp;have hld:=hC.lt hD.kd;have hpd:p≠d:=fun e=>by have :=hP.kp;rw[e,hD.kd] at this;cases this
 simp only[f107,cf,Code.seq.injEq] at hc;obtain⟨-,-,-,-,rfl⟩:=hc;unfold rY at hR;refine ak ?_;simp -implicitDefEqProofs only[go_sem,seval,h0,h4,h11,hgq,bG hlp];repeat refine aI ?_
 obtain⟨c1,hP1⟩:=hP.set hC (P':={P with at_:=fr}) (wv':=wv) hP.fwv (PeS.low (hC.sane _ _ hP.gp).1 (aH _)).2.2.1 rfl rfl rfl rfl rfl rfl;have hC1:=hC.call c1 fun r h=>by subst h;exact⟨rfl,rfl⟩
 have hD1:=hD.off c1.off ae ae ae ae;have hpt1:=hpt.off c1.off c1.len ae;unfold PeS.cs at c1 hP1 hC1 hD1 hpt1;dsimp only at c1 hP1 hC1 hD1 hpt1;generalize H.set p (bK [.ptr d 0,.ptr tm 0,.i64 P.num,.str P.pub,.str P.psk,.u32 fr,.i64 P.kn,.i64 P.pin,.bool P.stp,.i64 P.sec,.i64 P.nano,.str P.ck,.i64 P.un,wv,bg,.u32 P.bi,.str P.bt,ol,se,ne])=M at*;have hg1:=hD1.g;have hgq1:=hP1.gp;unfold DeS.cs at hg1;unfold PeS.cs at hgq1;dsimp only at hgq1;by_cases ht:txt=[]
 ·rw[if_pos ht] at hR;subst hR;simp -implicitDefEqProofs only[go_sem,seval,ht,decide_true];exact Ex.of hC1 trivial ⟨rfl,⟨_,_,hD1⟩,_,_,_,_,_,_,hP1⟩
 rw[if_neg ht] at hR;simp -implicitDefEqProofs only[go_sem,seval,ht,decide_false,hg1];repeat refine aI ?_
 refine cN (ng hC1 hP1.kt hP1.gt hp.tm 2 D.now ah hnow) ac rfl (by simp[af,V.low,hC1.lt hP1.kt]) hC1.sane ?_;rintro _ K2 H2 hC2 hl2 ⟨rfl,rfl,hH2⟩;simp -implicitDefEqProofs only[go_sem,seval,h11];repeat refine aI ?_
 have hP2:=hP1.timer hC2.off hP1.kt (T:=P.tm.ev 2 D.now) (by rw[hH2];exact bG (hC1.lt hP1.kt) _);have hD2:=hD1.off hC2.off ae ae ae ae;have hpt2:=hpt1.off hC2.off hC2.len ae;have hE2:=hC1.call hC2 fun r h=>by subst h;exact⟨rfl,rfl⟩
 dsimp only at hP2;have hg2:=hD2.g;have hgq2:=hP2.gp;unfold DeS.cs at hg2;unfold PeS.cs at hgq2;dsimp only at hgq2;by_cases h4:(txt.length:Int)<4
 ·rw[if_pos h4] at hR;subst hR;simp -implicitDefEqProofs only[go_sem,seval,h4,decide_true];exact Ex.of hE2 trivial ⟨rfl,⟨_,_,hD2⟩,_,_,_,_,_,_,hP2⟩
 rw[if_neg h4] at hR;simp -implicitDefEqProofs only[go_sem,seval,h4,decide_false];repeat refine aI ?_
 refine au (ug (txt.take 4) (by simp;omega)) ?_;simp -implicitDefEqProofs only[go_sem,seval];repeat refine aI ?_
 have e8:List.take 8 (List.take 4 txt)=List.take 4 txt:=ar (by simp;omega);simp -implicitDefEqProofs only[go_sem,seval,h0,hg2,hgq2];repeat refine aI ?_
 generalize hsrc:BitVec.setWidth 32 (BitVec.ofNat 64 (be (List.take 4 txt)))=src at*;have hfx:=I3 hE2 hpt2 src;generalize F src=f at*;obtain⟨k,r⟩:=f;dsimp only at hfx hR;refine bA (hfx) ac rfl (by simp[af,V.low,xI hE2 hpt2]) hE2.sane ?_;rintro _ K3 H3 hC3 hl3 ⟨rfl,rfl,rfl⟩;have hlp3:=hE2.lt hP2.kp;have hld3:=hE2.lt hD2.kd;cases r
 ·rw[if_neg ae] at hR;subst hR;simp -implicitDefEqProofs only[go_sem,seval,qY];repeat refine aI ?_
  exact Ex.of hE2 trivial ⟨rfl,⟨_,_,hD2⟩,_,_,_,_,_,_,hP2⟩
 simp -implicitDefEqProofs only[go_sem,seval,h0,jI,hgq2];repeat refine aI ?_
 by_cases hkn:k=P.num
 rotate_left
 ·rw[if_neg (by simp[hkn])] at hR;subst hR;simp -implicitDefEqProofs only[go_sem,seval,hkn,not_false_eq_true,decide_true];exact Ex.of hE2 trivial ⟨rfl,⟨_,_,hD2⟩,_,_,_,_,_,_,hP2⟩
 rw[if_pos ⟨rfl,hkn⟩] at hR;subst hR;simp -implicitDefEqProofs only[go_sem,seval,h0,h11,hkn,not_true,decide_false,hgq2,hg2];repeat refine aI ?_
 have hJ:=hE2.junk (vs:=[.i64 P.num,.u32 src,.str (List.drop 4 txt)]) (mm:=none) (by simp[af,V.low]);have hJo:=((hE2.start (fun _=>False)).junk (vs:=[.i64 P.num,.u32 src,.str (List.drop 4 txt)]) (mm:=none) (by simp[af,V.low])).off;have hDJ:=hD2.offF hJo;have hPJ:=hP2.offF hJo;have hgot:=hd.got;rcases hD2.t with⟨rfl,hz⟩|⟨a,rfl,hk0,ha,hga⟩
 ·have hz:=jJ.1 hz;obtain⟨hG,hDG,hOG⟩:=HL hJ rfl rfl (W:=H3.length+1) ae hDJ (P.num,src,List.drop 4 txt) none (fun _ e=>by cases e);have hPG:=hPJ.off hOG ae ae ae ae ae ae;unfold DeS.cs at hG hDG hPG;simp only[hz,ff,cS,cutH,ig,cw] at hG hDG hPG |-
  simp -implicitDefEqProofs only[go_sem,seval,hg2,m7 hld3];repeat refine aI ?_
  refine And.intro ?_ ?_
  ·refine eC (fw H3.length) [([],[]),([],[]),([],[]),([0],[]),([],[]),([],[]),([],[]),([0],[]),([],[]),([],[]),([0],[]),([],[]),([],[]),([],[]),([0],[]),([],[]),([],[]),([0],[]),([],[]),([],[1]),([1],[1]),([],[]),([],[]),([0],[0])] ac (by simp only[eO,eG,bh,all_cons,rG,DD,dU hld3,dU hlp3,fC,kN,and_true])
  exact Ex.of hG trivial ⟨rfl,⟨_,_,hDG⟩,_,_,_,_,_,_,hPG⟩
 ·have hl:=xU D.got;have hlta:=hE2.lt ha;have hne:a≠d:=fun e=>by subst e;rw[hD2.kd] at ha;cases ha
  have hpa:p≠a:=fun e=>by subst e;have :=hP2.kp;rw[ha] at this;cases this
  obtain⟨hG,hDG,hOG⟩:=HL hJ rfl rfl (W:=H3.length+1) ae hDJ (P.num,src,List.drop 4 txt) (some a) (fun _ e=>by cases e;exact ha);have hPG:=hPJ.off hOG ae ae ae ae ae ae;unfold DeS.cs at hG hDG hPG;rw[DA] at hG hDG hPG;simp only[cS,cutH] at hG hDG hPG;simp -implicitDefEqProofs only[go_sem,seval,hg2,hga,lI hlta,sa hld3 hne,jC,ar (show(cS D.got).length<=D.got.length*3 by omega)];repeat refine aI ?_
  refine And.intro ?_ ?_
  ·refine eC (iD a H3.length) [([],[]),([],[]),([],[]),([0],[]),([],[]),([],[]),([],[]),([0],[]),([],[]),([],[]),([0],[]),([],[]),([],[]),([],[]),([0],[]),([],[]),([],[]),([0],[]),([],[]),([],[1]),([1,2],[1,2]),([],[]),([],[]),([0],[0])] ac (by simp only[eO,eG,bh,all_cons,wx,om hld3 hne.symm,om hlp3 hpa,CP,CT hlta,CN hlta,fC,kN,yU,and_true])
  exact Ex.of hG trivial ⟨rfl,⟨_,_,hDG⟩,_,_,_,_,_,_,hPG⟩
theorem S7 (b:P.ok)(c:D.ok n)(e:S.su=1\/S.su=2)(fr:BitVec 32):(rT D P S fr).2.ok/\(rT D P S fr).1.ok (n+4):=
 aaY ⟨b.q,b.pub,b.psk,b.kn,by show(if _ then _ else _:Int)=1\/(if _ then _ else _:Int)=2;have h2:=b.pin;split <;>assumption,b.ck,b.un,b.wl,b.ws,b.bg,b.bt,b.se,b.ne,(fun _ h=>nomatch h),TmS.ev_ok b.tm (.inl ah) c.now⟩ c
theorem FF (b:P.ok)(c:S.ok):(P.setSlot w S).ok:=by
 unfold PeS.setSlot;split
 ·exact⟨b.q,b.pub,b.psk,b.kn,b.pin,b.ck,b.un,b.wl,b.ws,b.bg,b.bt,b.ol,(fun _ h=>by cases h;exact c),b.ne,b.tm⟩
 ·exact⟨b.q,b.pub,b.psk,b.kn,b.pin,b.ck,b.un,b.wl,b.ws,b.bg,b.bt,(fun _ h=>by cases h;exact c),b.se,b.ne,b.tm⟩
 ·exact⟨b.q,b.pub,b.psk,b.kn,b.pin,b.ck,b.un,b.wl,b.ws,b.bg,b.bt,b.ol,b.se,(fun _ h=>by cases h;exact c),b.tm⟩
theorem agY (d tm:Nat)(wv bg ol se ne:V):(P.setSlot w S).cs d tm wv bg ol se ne=P.cs d tm wv bg ol se ne:=by
 unfold PeS.setSlot;split <;>rfl
theorem afl (h:P.slot w=some S):P.setSlot w S=P:=by
 obtain⟨_,_,_,_,_,_,_,_,_,_,_,_,_,_,_,_,_,_,_,_⟩:=P;unfold PeS.slot at h;unfold PeS.setSlot;split at h<;>(simp only at h;subst h;rfl)
theorem Rs (hC:Cx K0 H0 Q0 K H)(hD:DevAt K H j d D arr ps pb bk out got)(hP:PeerAt K H j i d p P tm wv bg ol se ne)(hp:P.ok)(hd:D.ok n)(hn:n<=999999980)(hpt:PathAt K H j pb F)(hw:w<3)(hv:uZ se ol ne w= .ptr a 0)(hs:SesIn K H j i a q pw S)(hS:P.slot w=some S)(k:Int)(z:List ai)(fr:BitVec 32)
  (r0 r1 s2 s4 c:Code) (hc:f107.body=some (.seq r0 (.seq r1 (.seq s2 (.seq s4 c))))) {R:Int×DeS×PeS} (hR:nP D P F w S k z fr=R):
  vc prog H.length f107.ntmps (.seq r0 (.seq r1 (.seq s2 (.seq s4 c)))) (eW prog f107 (Ex K H (qP j i) fun v K' H'=>v= .i64 R.1/\fm K' H' j d R.2.1 arr ps pb bk/\PeerIn K' H' j i d p R.2.2)) ⟨gU [.ptr p 0,.ptr a 0,.i64 k,.str z,.u32 fr] 0,H⟩:=by
 have hnow:=hd.now;have hSo:S.ok:=by
  unfold PeS.slot at hS;split at hS
  ·exact hp.se S hS
  ·exact hp.ol S hS
  ·exact hp.ne S hS
 have tail:=fun {n:Nat} {K1:RK} {H1:List (Option Blk)} {D1:DeS} {P1:PeS} {out got:V} {tm:Nat} {wv bg ol se ne:V} (hC:Cx K H (qP j i) K1 H1) (hD:DevAt K1 H1 j d D1 arr ps pb bk out got) (hP:PeerAt K1 H1 j i d p P1 tm wv bg ol se ne) (hp:P1.ok) (hd:D1.ok n) (hn:n<=999999999) (hpt:PathAt K1 H1 j pb F) (txt:List ai) {t:List (Nat×V)} (h0:aj t 0= .ptr p 0) (h4:aj t 4= .u32 fr) (h11:aj t 11= .str txt) (hR:rY D1 P1 F fr txt=R)=>
  aaA hC hD hP hp hd hn hpt txt fr h0 h4 h11 r0 r1 s2 s4 c hc hR
 simp only[f107,cf,Code.seq.injEq] at hc;obtain⟨rfl,rfl,rfl,rfl,hc⟩:=hc;clear hc;have hg:=hD.g;have hgq:=hP.gp;have hgx:=hs.ga;unfold DeS.cs at hg;unfold PeS.cs at hgq;unfold SeS.sc at hgx;have hlp:=hC.lt hP.kp;have hld:=hC.lt hD.kd;have hlx:=hC.lt hs.ka;have hpd:p≠d:=fun e=>by have :=hP.kp;rw[e,hD.kd] at this;cases this
 have hpx:p≠a:=fun e=>by have :=hP.kp;rw[e,hs.ka] at this;cases this
 unfold nP at hR;have hOy:=YE hC hs hSo k z D.now;have hsu:=ag4 (S:=S) k z D.now;have hS2:=F0 hSo k z D.now;have hsame:=fun h=>Zp (S:=S) (k:=k) (z:=z) (now:=D.now) h
 generalize S.open_ k z D.now=O at*;obtain⟨txt,e,S2⟩:=O;dsimp only at hOy hR hsu hS2 hsame;refine ak ?_;simp -implicitDefEqProofs only[go_sem,seval,hgq,hg,hgx];repeat refine aI ?_
 refine cN (hOy) ac rfl (by simp[af,V.low,hC.lt hs.kq]) hC.sane ?_;rintro _ K1 H1 hC1 hl1 ⟨rfl,rfl,hs1⟩;simp -implicitDefEqProofs only[go_sem,seval];repeat refine aI ?_
 have hP1:=hP.slotS hw hv hC1.off hs1;have hD1:=hD.off hC1.off ae ae ae ae;have hpt1:=hpt.off hC1.off hC1.len ae;have hE1:=hC1.mono (Q2:=qP j i) fun r h=>by subst h;exact⟨rfl,rfl⟩
 by_cases h0:e=0
 rotate_left
 ·rw[if_neg h0] at hR;have :=hsame h0;subst this;subst hR;rw[afl hS] at hP1;simp -implicitDefEqProofs only[go_sem,seval,h0,not_false_eq_true,decide_true];exact Ex.of hE1 trivial ⟨rfl,⟨_,_,hD1⟩,_,_,_,_,_,_,hP1⟩
 subst h0;rw[if_pos rfl] at hR;simp -implicitDefEqProofs only[go_sem,seval,not_true,decide_false];have hpS:=FF (w:=w) hp hS2;have hg1:=hD1.g;have hgq1:=hP1.gp;have hgx1:=hs1.ga;have hlp1:=hC1.lt hP1.kp;rw[agY] at hgq1;unfold DeS.cs at hg1;unfold PeS.cs at hgq1;unfold SeS.sc at hgx1;by_cases hw2:w=2
 rotate_left
 ·rw[if_neg hw2] at hR;have hna:∀ a',ne= .ptr a' 0->a'≠a:=fun a' e e2=>by
   subst e2
   match w,hw,hw2 with
   |0,_,_=>
    obtain rfl:se= .ptr a' 0:=hv;rcases hP.d3 with h|h
    ·cases h
    ·exact h e.symm
   |1,_,_=>
    obtain rfl:ol= .ptr a' 0:=hv;rcases hP.d2 with h|h
    ·cases h
    ·exact h e.symm
   |2,_,h=>exact h rfl
  have hne:=hP1.fne;cases hno:(P.setSlot w S2).ne with
  |none=>
   rw[hno] at hne;obtain rfl:ne= .nilPtr:=hne;simp -implicitDefEqProofs only[go_sem,seval,hgq1];repeat refine aI ?_
   exact tail hE1 hD1 hP1 hpS hd aa hpt1 txt rfl rfl rfl hR
  |some S3=>
   rw[hno] at hne;obtain⟨a3,q3,w3,rfl,hs3⟩:=hne;have hgc:=hs3.ga;unfold SeS.sc at hgc;simp -implicitDefEqProofs only[go_sem,seval,hgq1,hgx1,hgc];repeat refine aI ?_
   have hxc:¬ a=a3:=fun e=>hna a3 rfl e.symm
   simp -implicitDefEqProofs only[go_sem,seval,hxc,decide_false];exact tail hE1 hD1 hP1 hpS hd aa hpt1 txt rfl rfl rfl hR
 subst hw2;rw[if_pos rfl] at hR;obtain rfl:ne= .ptr a 0:=hv;obtain⟨e1,e2⟩:=SesAt.shape hP1.fse;have e3:=e1;unfold V.cells at e3;have hsel:=SesAt.low hE1 hP1.fse;simp -implicitDefEqProofs only[go_sem,seval,hgq1,hgx1];repeat refine aI ?_
 simp -implicitDefEqProofs only[go_sem,seval,true_and,and_true,bG hlp1,aY,hlp1,bW hpx,hgx1,iX,bW hpd,hg1,e2,e3];repeat refine aI ?_
 rw[hsu];have hbl:=(PeS.low (hE1.sane _ _ hP1.gp).1 (aH _)).2.2.2.1;obtain⟨c2,hP2⟩:=hP1.putS hE1 (P':={P with ol:=P.se,se:=some S2,ne:=none,pin:=if P.pin<S.su then S.su else P.pin}) (bg':=bg) (ol':=se) (se':= .ptr a 0) (ne':= .nilPtr) rfl rfl hP1.fbg hP1.fse hP1.fne rfl hP.d3 (Apart.nil _) (Apart.nil _) ⟨hbl,hsel,hC1.lt hs1.ka,trivial,trivial⟩;have hC2:=hE1.call c2 fun r h=>by subst h;exact⟨rfl,rfl⟩
 have hD2:=hD1.off c2.off ae ae ae ae;have hpt2:=hpt1.off c2.off c2.len ae;have hok3:=S7 hpS hd hSo.su fr;have hokP:({P with ol:=P.se,se:=some S2,ne:=none,pin:=if P.pin<S.su then S.su else P.pin,at_:=fr,tm:=P.tm.ev 5 D.now}:PeS).ok:=⟨hp.q,hp.pub,hp.psk,hp.kn,by show(if _ then _ else _:Int)=1\/(if _ then _ else _:Int)=2;have h1:=hSo.su;have h2:=hp.pin;split <;>assumption,hp.ck,hp.un,hp.wl,hp.ws,hp.bg,hp.bt,hp.se,(fun _ h=>by cases h;exact hS2),(fun _ h=>nomatch h),TmS.ev_ok hp.tm (.inl ah) hnow⟩;have eR:rT D (P.setSlot 2 S2) S fr=jP D {P with ol:=P.se,se:=some S2,ne:=none,pin:=if P.pin<S.su then S.su else P.pin,at_:=fr,tm:=P.tm.ev 5 D.now}:=rfl;rw[eR] at hR hok3;clear eR;unfold PeS.cs at c2 hP2 hC2 hD2 hpt2;dsimp only at c2 hP2 hC2 hD2 hpt2;generalize (if P.pin<S.su then S.su else P.pin)=pn at*;generalize H1.set p (bK [.ptr d 0,.ptr tm 0,.i64 P.num,.str P.pub,.str P.psk,.u32 P.at_,.i64 P.kn,.i64 pn,.bool P.stp,.i64 P.sec,.i64 P.nano,.str P.ck,.i64 P.un,wv,bg,.u32 P.bi,.str P.bt,se,.ptr a 0,.nilPtr])=M at*;refine cN (ng hC2 hP2.kt hP2.gt hp.tm 5 D.now ah hnow) ac rfl (by simp[af,V.low,hC2.lt hP2.kt]) hC2.sane ?_;rintro _ K3 H3 hC3 hl3 ⟨rfl,rfl,hH3⟩;have hP3:=hP2.timer hC3.off hP2.kt (T:=P.tm.ev 5 D.now) (by rw[hH3];exact bG (hC2.lt hP2.kt) _);have hD3:=hD2.off hC3.off ae ae ae ae;have hpt3:=hpt2.off hC3.off hC3.len ae;have hE3:=hC2.call hC3 fun r h=>by subst h;exact⟨rfl,rfl⟩
 dsimp only at hP3;have hgq3:=hP3.gp;unfold PeS.cs at hgq3;dsimp only at hgq3;have hlp3:=hE3.lt hP3.kp;simp -implicitDefEqProofs only[go_sem,seval,hgq3];repeat refine aI ?_
 obtain⟨c4,hP4⟩:=hP3.set hE3 (P':={P with ol:=P.se,se:=some S2,ne:=none,pin:=pn,at_:=fr,tm:=P.tm.ev 5 D.now}) (wv':=wv) hP3.fwv (PeS.low (hE3.sane _ _ hP3.gp).1 (aH _)).2.2.1 rfl rfl rfl rfl rfl rfl;have hC4:=hE3.call c4 fun r h=>by subst h;exact⟨rfl,rfl⟩
 have hD4:=hD3.off c4.off ae ae ae ae;have hpt4:=hpt3.off c4.off c4.len ae;unfold PeS.cs at c4 hP4 hC4 hD4 hpt4;dsimp only at c4 hP4 hC4 hD4 hpt4;refine bA (BA hC4 hD4 hP4 hokP hd aa ae) ac rfl (by simp[af,V.low,hlp3]) hC4.sane ?_;rintro _ K5 H5 hC5 hl5 ⟨rfl,⟨_,_,hD5⟩,_,_,_,_,_,_,hP5⟩;simp -implicitDefEqProofs only[go_sem];exact tail (hC4.call hC5 fun _ h=>h) hD5 hP5 hok3.1 hok3.2 aa (hpt4.off hC5.off hC5.len id) txt rfl rfl rfl hR
theorem RH (c:Cx K0 H0 Q0 K H)(e:DevAt K H j d D arr ps pb bk out got)(f:PeerAt K H j i d p P tm wv bg ol se ne)(g:P.ok)(h:D.ok n)(l:n<=999999980)(b:PathAt K H j pb F)(hw:w<3)(o:uZ se ol ne w= .ptr a 0)(r:SesIn K H j i a q pw S)(s:P.slot w=some S)(k:Int)(z:List ai)(fr:BitVec 32):
  ∃ v K' H',Dx prog 107 [.ptr p 0,.ptr a 0,.i64 k,.str z,.u32 fr] K H (qP j i) v K' H'/\(v= .i64 (nP D P F w S k z fr).1/\fm K' H' j d (nP D P F w S k z fr).2.1 arr ps pb bk/\PeerIn K' H' j i d p (nP D P F w S k z fr).2.2):=
 bV ac (fn:=f107) func107 rfl am (Rs c e f g h l b hw o r s k z fr _ _ _ _ _ rfl rfl)
end
end
section
def iN (id:BitVec 32)(P:PeS)(w:Nat):Bool:=match P.slot w with
 |none=>false
 |some S=>decide (S.mine=id)
def kI (id:BitVec 32)(P:PeS):Option Nat:=if iN id P 0=true then some 0 else if iN id P 1=true then some 1 else if iN id P 2=true then some 2 else none
noncomputable def mR (N:NoS) (F:BitVec 32->Int×Bool) (id:BitVec 32) (k:Int) (z:List ai) (fr:BitVec 32):Int×NoS:=match N.Ps.findIdx? (fun P=>(kI id P).isSome) with
 |none=>(7,N)
 |some i=>match N.Ps[i]? with
  |none=>(7,N)
  |some P=>match kI id P with
   |none=>(7,N)
   |some w=>match P.slot w with
    |none=>(7,N)
    |some S=>((nP N.D P F w S k z fr).1,{N with D:=(nP N.D P F w S k z fr).2.1,Ps:=N.Ps.set i (nP N.D P F w S k z fr).2.2})
section
variable {K K0 K':RK}{H H0 H':List (Option Blk)}{Q0 Q:Rl->Prop}{j i d p tm n m W a q w arr pb bk pw:Nat}{P P':PeS}{D D':DeS}{S S':SeS}{ps:List Nat}{F:BitVec 32->Int×Bool}{c:NoK}{N:NoS}{out got wv bg ol se ne v:V}
theorem SesAt.solid {o:Option SeS}(h:SesAt K H j i v o):v.solid=true:=by
 cases o with
 |none=>obtain rfl:v= .nilPtr:=h;rfl
 |some S=>obtain⟨a,q,w,rfl,-⟩:=h;rfl
theorem NodeAt.offF (h:NodeAt K H j c N)(b:Cx K H (fun _=>False) K' H'):NodeAt K' H' j c N:=
 ⟨by obtain⟨_,_,e⟩:=h.dev;exact⟨_,_,e.offF b.off⟩,h.len,fun i h1 h2=>(h.peer i h1 h2).off b.off id id id id id fun _=>⟨id,id⟩,h.bkt.off b.off id id,h.pth.off b.off b.len id⟩
theorem PeerAt.slotAt (h:PeerAt K H j i d p P tm wv bg ol se ne)(hw:w<3):SesAt K H j i (uZ se ol ne w) (P.slot w):=by
 match w,hw with
 |0,_=>exact h.fse
 |1,_=>exact h.fol
 |2,_=>exact h.fne
theorem I8 (hw:w<3)(h:iN (S.mine) P w=true)(b:∀ u,u<w->iN S.mine P u=false):kI S.mine P=some w:=by
 unfold kI
 match w,hw with
 |0,_=>rw[if_pos h]
 |1,_=>rw[b 0 aa,h];simp
 |2,_=>rw[b 0 aa,b 1 aa,h];simp
theorem acn {id:BitVec 32}(b:∀ u,u<3->iN id P u=false):kI id P=none:=by
 unfold kI;rw[b 0 aa,b 1 aa,b 2 aa];simp
theorem abZ (id:BitVec 32)(k:Int)(e:0<=k/\k<=1099511627776)(z:List ai):(cY id k z).length=z.length+14/\(cY id k z).getD 1 0=0#8/\(cY id k z).getD 0 0=4#8/\List.drop 6 (List.take 14 (cY id k z))=aV (BitVec.ofInt 64 k).toNat 8/\List.drop 2 (List.take 6 (cY id k z))=aV (id.setWidth 64).toNat 4/\List.drop 14 (cY id k z)=z/\
  BitVec.ofNat 64 (le (aV (BitVec.ofInt 64 k).toNat 8))=BitVec.ofInt 64 k/\BitVec.setWidth 32 (BitVec.ofNat 64 (le (aV (id.setWidth 64).toNat 4)))=id/\(BitVec.ofInt 64 k).toNat=k.toNat:=by
 have l1:=bT (id.setWidth 64).toNat 4;have l2:=bT (BitVec.ofInt 64 k).toNat 8;have f:=id.isLt;have b:(BitVec.ofInt 64 k).toNat=k.toNat:=by
  rw[l9];congr 1;exact y8 e.1 aa
 refine⟨?_,rfl,rfl,?_,?_,?_,?_,?_,b⟩
 ·unfold cY;simp[bT];omega
 ·unfold cY;rw[ja (by simp[bT]),kg (by simp[bT])]
 ·unfold cY;rw[dV,dV,<-dV [4#8,0#8],ja (by simp[bT])];exact kg rfl
 ·unfold cY;exact kg (by simp[bT])
 ·rw[EA];apply eE;rw[cx,b];omega
 ·rw[EA];apply eE;rw[mL,cx,mL];omega
theorem PA (hC:Cx K0 H0 Q0 K H)(hN:NodeAt K H j c N)(ho:N.ok n)(hn:n<=900000000)(hp8:N.Ps.length<=8)(id:BitVec 32)(k:Int)(hk:0<=k/\k<=1099511627776)(z:List ai)(hz:16<=z.length/\z.length<=1000000)(fr:BitVec 32):
  ∃ v K' H',Dx prog 72 [.ptr c.d 0,.u32 fr,.str (cY id k z)] K H (qD j) v K' H'/\(v= .i64 (mR N c.F id k z fr).1/\NodeAt K' H' j c (mR N c.F id k z fr).2):=by
 obtain⟨out,got,hD⟩:=hN.dev;have hg:=hD.g;have hga:=hD.ga;unfold DeS.cs at hg;have hlen:=hN.len;obtain⟨q1,q2,-,q4,q5,q6,q7,q8,q9⟩:=abZ id k hk z;have hL1:=iJ (aV (BitVec.ofInt 64 k).toNat 8) (by rw[bT];decide);rw[ar (show(aV (BitVec.ofInt 64 k).toNat 8).length<=8 by rw[bT];decide),q7] at hL1;have hL2:=iJ (aV (id.setWidth 64).toNat 4) (by rw[bT];decide);rw[ar (show(aV (id.setWidth 64).toNat 4).length<=8 by rw[bT];decide)] at hL2;rw[<-q4] at hL1;rw[<-q5] at hL2 q8;generalize BitVec.ofNat 64 (le (List.drop 2 (List.take 6 (cY id k z))))=idw at*;have h30:¬ (((cY id k z).length:Nat):Int)<30:=by rw[q1];omega
 have hkw:¬ 1099511627776#64<BitVec.ofInt 64 k:=by rw[wE,q9];simp;omega
 generalize hRes:mR N c.F id k z fr=R;unfold mR at hRes;refine bV (Q:=qD j) (Post:=fun v K' H'=>v= .i64 R.1/\NodeAt K' H' j c R.2) ac (fn:=f72) func72 rfl am (ak ?_);simp -implicitDefEqProofs only[go_sem,↓reduceIte,Nat.reduceEqDiff,Nat.reduceLT,Nat.reduceAdd,Int.reduceLE,Int.reduceToNat,reduceCtorEq];simp -implicitDefEqProofs only[go_sem,↓reduceIte,h30,decide_false];repeat refine aI ?_
 refine au (hL1) ?_;simp -implicitDefEqProofs only[go_sem,↓reduceIte,Nat.reduceEqDiff,Nat.reduceLT,Int.reduceLE,Int.reduceLT,Int.reduceToNat,BitVec.reduceOfInt,reduceCtorEq,q2,ne_eq,not_true,decide_false];repeat refine aI ?_
 simp -implicitDefEqProofs only[go_sem,↓reduceIte,hkw,decide_false];repeat refine aI ?_
 refine au (hL2) ?_;simp -implicitDefEqProofs only[go_sem,↓reduceIte,Nat.reduceLT,Nat.reduceAdd,reduceCtorEq,hg,q8];repeat refine aI ?_
 have sl:∀ (N1:Nat) (i1:Nat),True:=fun _ _=>trivial
 refine bq (fun jj st=>∃ (m:Nat) (Hi:List (Option Blk)),m+jj=c.ps.length/\Cx K H (fun _=>False) K Hi/\(∀ k (h:k<m) (h2:k<N.Ps.length),(kI id N.Ps[k]).isSome=false)/\st=⟨[(0,.ptr c.d 0),(1,.u32 fr),(2,.str (cY id k z)),(7,.u64 (BitVec.ofInt 64 k)),(8,.u32 id),(33,.slice c.arr 0 c.ps.length 1),(34,.i64 c.ps.length),(35,.i64 m)],Hi⟩) ?_ ?_
 ·exact bJ c.ps.length ⟨[(0,.ptr c.d 0),(1,.u32 fr),(2,.str (cY id k z)),(7,.u64 (BitVec.ofInt 64 k)),(8,.u32 id),(33,.slice c.arr 0 c.ps.length 1),(34,.i64 c.ps.length),(35,.i64 (0:Nat))],H⟩ (by simp[St.get,aj]) rfl (fun _ _ h=>h) ⟨0,H,aa,hC.start _,fun k h=>by omega,rfl⟩
 clear sl;rintro jj st ⟨m,Hi,hij,hCi,hno,rfl⟩-;have hNi:NodeAt K Hi j c N:=hN.offF hCi;by_cases hi:m<c.ps.length
 rotate_left
 ·have hi':¬ (m:Int)<c.ps.length:=aa;rw[Bc (p:=fun P=>(kI id P).isSome) (l:=N.Ps) fun k hk=>hno k aa hk] at hRes;subst hRes;simp -implicitDefEqProofs only[go_sem,↓reduceIte,Nat.reduceEqDiff,Nat.reduceLT,reduceCtorEq,hi'];exact Ex.of (hCi.mono fun _ h=>h.elim) trivial ⟨rfl,hNi⟩
 have hi':(m:Int)<c.ps.length:=aa;have hw1:=dw (i:=m) aa;have hm2:m<N.Ps.length:=aa;have hq:(c.ps.map (fun p=>V.ptr p 0)).getD m .junk= .ptr c.ps[m] 0:=by
  rw[aW,ci,aF hi];rfl
 have hPo:=ho.Ps _ (dd hm2);obtain⟨tm,wv,bg,ol,se,ne,hP⟩:=hNi.peer m hi hm2;have hgq:=hP.gp;have hgai:=(hCi.get hD.ka (hC.lt hD.ka) (fun h=>h)).trans hga;unfold PeS.cs at hgq;obtain⟨e1,e2⟩:=SesAt.shape hP.fse;obtain⟨e3,e4⟩:=SesAt.shape hP.fol;obtain⟨e5,e6⟩:=SesAt.shape hP.fne;have f1:=e1;have f3:=e3;have f5:=e5;unfold V.cells at f1 f3 f5;have g1:=SesAt.solid hP.fse;have g3:=SesAt.solid hP.fol;have g5:=SesAt.solid hP.fne;unfold V.solid at g1 g3 g5;simp -implicitDefEqProofs only[go_sem,↓reduceIte,Nat.reduceEqDiff,Nat.reduceLT,Nat.reduceLeDiff,Nat.reduceAdd,reduceCtorEq,hi',hgai,hq,hgq,ba,↓e1,↓e3,↓e5,g1,g3,g5];repeat refine aI ?_
 have hlow:af (Hi.length+1) [se,ol,ne]:=ma (nj _) _ ⟨SesAt.low hCi hP.fse,SesAt.low hCi hP.fol,SesAt.low hCi hP.fne,trivial⟩;have hCm:=hCi.junk (vs:=[se,ol,ne]) (mm:=none) hlow;have hJo:=((hCi.start (fun _=>False)).junk (vs:=[se,ol,ne]) (mm:=none) hlow).off;have hgl:=kj Hi (bK [se,ol,ne]) [];have hL:∀ u,u<3->([se,ol,ne]:List V).getD u .junk=uZ se ol ne u:=fun u hu=>by
  match u,hu with
  |0,_=>rfl
  |1,_=>rfl
  |2,_=>rfl
 have hL3:([se,ol,ne]:List V).length=3:=rfl;generalize Hi.length=W at*;generalize [se,ol,ne]=L at*;generalize Hi++[bK L]=M at*;have hPm:=hP.offF hJo;have hNm:NodeAt K M j c N:=hN.offF hCm;have hDm:=hD.offF hCm.off;generalize hpe:c.ps[m]=p at*;generalize hPi:N.Ps[m]=P at*;refine bq (fun jj st=>∃ u:Nat,u+jj=3/\(∀ u',u'<u->iN id P u'=false)/\st=⟨[(10,.ptr p 0),(0,.ptr c.d 0),(1,.u32 fr),(2,.str (cY id k z)),(7,.u64 (BitVec.ofInt 64 k)),(8,.u32 id),(33,.slice c.arr 0 c.ps.length 1),(34,.i64 c.ps.length),(35,.i64 m),(51,.slice W 0 3 1),(52,.i64 3),(53,.i64 u)],M⟩) ?_ ?_
 ·exact bJ 3 ⟨[(10,.ptr p 0),(0,.ptr c.d 0),(1,.u32 fr),(2,.str (cY id k z)),(7,.u64 (BitVec.ofInt 64 k)),(8,.u32 id),(33,.slice c.arr 0 c.ps.length 1),(34,.i64 c.ps.length),(35,.i64 m),(51,.slice W 0 3 1),(52,.i64 3),(53,.i64 (0:Nat))],M⟩ (by simp[St.get,aj]) rfl (fun _ _ h=>h) ⟨0,aa,fun u h=>by omega,rfl⟩
 rintro j3 st ⟨u,huj,hnu,rfl⟩-;by_cases hu:u<3
 rotate_left
 ·have hu':¬ (u:Int)<3:=aa;simp -implicitDefEqProofs only[go_sem,↓reduceIte,Nat.reduceEqDiff,Nat.reduceLT,reduceCtorEq,hu'];exact bx (jj-1) ⟨[(0,.ptr c.d 0),(1,.u32 fr),(2,.str (cY id k z)),(7,.u64 (BitVec.ofInt 64 k)),(8,.u32 id),(33,.slice c.arr 0 c.ps.length 1),(34,.i64 c.ps.length),(35,.i64 (m+1:Nat))],M⟩ aa (by simp[St.get,aj,hw1]) rfl (fun _ _ h=>h) ⟨m+1,M,aa,hCm,fun k h h2=>by
   by_cases hk:k=m
   ·subst hk;rw[hPi,acn fun u hu3=>hnu u aa];rfl
   ·exact hno k aa h2,rfl⟩
 have hu':(u:Int)<3:=aa;have hw2:=dw (i:=u) aa;have hsa:=hPm.slotAt hu;have hLu:=hL u hu;have hnext:iN id P u=false->∀ t,aj t 10= .ptr p 0->aj t 0= .ptr c.d 0->aj t 1= .u32 fr->aj t 2= .str (cY id k z)->aj t 7= .u64 (BitVec.ofInt 64 k)->aj t 8= .u32 id->aj t 33= .slice c.arr 0 c.ps.length 1->aj t 34= .i64 c.ps.length->aj t 35= .i64 m->aj t 51= .slice W 0 3 1->aj t 52= .i64 3->aj t 53= .i64 (ao ((u:Int)+1))->
   jS H.length 77 (fun jj st=>∃ u:Nat,u+jj=3/\(∀ u',u'<u->iN id P u'=false)/\st=⟨[(10,.ptr p 0),(0,.ptr c.d 0),(1,.u32 fr),(2,.str (cY id k z)),(7,.u64 (BitVec.ofInt 64 k)),(8,.u32 id),(33,.slice c.arr 0 c.ps.length 1),(34,.i64 c.ps.length),(35,.i64 m),(51,.slice W 0 3 1),(52,.i64 3),(53,.i64 u)],M⟩) j3 ⟨t,M⟩:=fun hf t a1 a2 a3 a4 a5 a6 a7 a8 a9 a10 a11 a12=>
  bx (j3-1) ⟨[(10,.ptr p 0),(0,.ptr c.d 0),(1,.u32 fr),(2,.str (cY id k z)),(7,.u64 (BitVec.ofInt 64 k)),(8,.u32 id),(33,.slice c.arr 0 c.ps.length 1),(34,.i64 c.ps.length),(35,.i64 m),(51,.slice W 0 3 1),(52,.i64 3),(53,.i64 (u+1:Nat))],M⟩ aa (by simp[St.get,a1,a2,a3,a4,a5,a6,a7,a8,a9,a10,a11,a12,hw2]) rfl (fun _ _ h=>h) ⟨u+1,aa,fun u' h=>by
   by_cases hk:u'=u
   ·subst hk;exact hf
   ·exact hnu u' aa,rfl⟩
 cases hSl:P.slot u with
 |none=>
  rw[hSl] at hsa;have hv:uZ se ol ne u= .nilPtr:=hsa;rw[hv] at hLu;simp -implicitDefEqProofs only[go_sem,↓reduceIte,Nat.reduceEqDiff,Nat.reduceLT,reduceCtorEq,hu',hgl,hLu,hL3];repeat refine aI ?_
  exact hnext (by unfold iN;rw[hSl]) _ rfl rfl rfl rfl rfl rfl rfl rfl rfl rfl rfl rfl
 |some S=>
  rw[hSl] at hsa;obtain⟨a,q,w',hv,hs⟩:=hsa;rw[hv] at hLu;have hgs:=hs.ga;unfold SeS.sc at hgs;by_cases hm:S.mine=id
  ·have hfi:N.Ps.findIdx? (fun P=>(kI id P).isSome)=some m:=DF hm2 (by rw[hPi];subst hm;rw[I8 hu (by unfold iN;rw[hSl];simp) hnu];rfl) fun k hk=>hno k hk aa
   have hso:kI id P=some u:=by subst hm;exact I8 hu (by unfold iN;rw[hSl];simp) hnu
   rw[hfi] at hRes;dsimp only at hRes;rw[aF hm2,hPi] at hRes;dsimp only at hRes;rw[hso] at hRes;dsimp only at hRes;rw[hSl] at hRes;dsimp only at hRes;subst hRes;have hPm':=hNm.pth;have hx:=RH hCm hDm hPm hPo ho.D aa hPm' hu hv hs hSl k z fr;simp -implicitDefEqProofs only[go_sem,↓reduceIte,Nat.reduceEqDiff,Nat.reduceLT,Nat.reduceAdd,Int.reduceLE,Int.reduceToNat,reduceCtorEq,hu',hgl,hLu,hL3,hgs,hm,decide_true];repeat refine aI ?_
   have ek:ao ((BitVec.ofInt 64 k).toNat:Int)=k:=by rw[q9,Int.toNat_of_nonneg hk.1];exact az aa aa
   rw[ek,q6];refine bA (hx) ac rfl (by simp[af,V.low,hCm.lt hPm.kp,hCm.lt hs.ka]) hCm.sane ?_;rintro _ K2 H2 hC2 hl2 ⟨rfl,hD2,hP2⟩;simp -implicitDefEqProofs only[go_sem,↓reduceIte,Nat.reduceLT];exact Ex.of ((hCm.mono fun _ h=>h.elim).call hC2 re) trivial ⟨rfl,hNm.one hC2 hD2 hi (by rw[hpe];exact hP2)⟩
  ·simp -implicitDefEqProofs only[go_sem,↓reduceIte,Nat.reduceEqDiff,Nat.reduceLT,Nat.reduceAdd,reduceCtorEq,hu',hgl,hLu,hL3,hgs,hm,decide_false];repeat refine aI ?_
   exact hnext (by unfold iN;rw[hSl];exact decide_eq_false hm) _ rfl rfl rfl rfl rfl rfl rfl rfl rfl rfl rfl rfl
noncomputable def ns (N:NoS) (id:BitVec 32) (ck:List ai):Int×NoS:=match N.Ps.findIdx? (gM id) with
 |none=>(7,N)
 |some i=>match N.Ps[i]? with
  |none=>(7,N)
  |some P=>(0,{N with Ps:=N.Ps.set i {P with ck:=ck,un:=N.D.now+120}})
theorem aeP (hC:Cx K0 H0 Q0 K H)(hN:NodeAt K H j c N)(ho:N.ok n)(hp8:N.Ps.length<=8)(u nonce ck x b:List ai)(hu:u.length=32)(hnn:nonce.length=24)(hk:ck.length=16)(hx:6<=x.length)(hx2:x.length<=1000000)(hb:b.length=16)(id:BitVec 32)(hid:List.drop 2 (List.take 6 x)=cW id)(fr:BitVec 32)
  (hmatch:∀ i P,N.Ps.findIdx? (gM id)=some i->N.Ps[i]?=some P->P.pub=u/\∃ m:List ai,m.length=16/\P.bt=x++b++m):
  ∃ v K' H',Dx prog 71 [.ptr c.d 0,.u32 fr,.str (dj u nonce ck x b)] K H (qD j) v K' H'/\(v= .i64 (ns N id ck).1/\NodeAt K' H' j c (ns N id ck).2):=by
 obtain⟨out,got,hD⟩:=hN.dev;have hg:=hD.g;unfold DeS.cs at hg;have hnow:=ho.D.now;have hlen:=hN.len;have hdl:(3#8::0#8::List.drop 2 (List.take 6 x)).length=6:=by simp;omega
 obtain⟨-,qq2,-⟩:=EM (k:=jB u) (c:=nonce) (m:=b) (t:=ck) (IF u hu) hnn aa aa;have hrl:(dj u nonce ck x b).length=62:=by unfold dj;rw[aE,aE,hdl,qq2];omega
 have e6:List.drop 2 (List.take 6 (dj u nonce ck x b))=cW id:=by
  unfold dj;rw[dV,ja hdl,<-hid];rfl
 have hAc:=fun(m:List ai) (hm:m.length=16)=>afe u nonce ck x b m hu hnn hk hx hx2 hb hm
 have h6:¬ (((dj u nonce ck x b).length:Nat):Int)<6:=by rw[hrl];omega
 have hix:=ID hC hN hp8 (List.drop 2 (List.take 6 (dj u nonce ck x b))) id (by rw[e6];exact ar (by rw[fE];decide)) (by rw[e6,fE];decide) (by rw[e6,fE];decide);have hld:=hC.lt hD.kd;generalize dj u nonce ck x b=msg at*;generalize hRes:ns N id ck=R;unfold ns at hRes;generalize hfi:N.Ps.findIdx? (gM id)=fi at*;refine bV (Q:=qD j) (Post:=fun v K' H'=>v= .i64 R.1/\NodeAt K' H' j c R.2) ac (fn:=f71) func71 rfl am (ak ?_);simp -implicitDefEqProofs only[go_sem,seval];simp -implicitDefEqProofs only[go_sem,seval,h6,decide_false];repeat refine aI ?_
 refine bA (hix) ac rfl (by simp[af,V.low,hld]) hC.sane ?_;rintro _ K1 H1 hC1 hl1 ⟨rfl,rfl,rfl⟩;cases fi with
 |none=>
  subst hRes;simp -implicitDefEqProofs only[go_sem,seval,jh];exact Ex.of (hC.start _) trivial ⟨rfl,hN⟩
 |some i=>
 have hi2:i<N.Ps.length:=(sM.1 hfi).1;have hi:i<c.ps.length:=aa;rw[lp hi];have hPo:=ho.Ps _ (dd hi2);obtain⟨hpu,m,hm,hbt⟩:=hmatch i _ rfl (aF hi2);have hAm:=hAc m hm;rw[<-hpu,<-hbt] at hAm;obtain⟨tm,wv,bg,ol,se,ne,hP⟩:=hN.peer i hi hi2;dsimp only at hRes;rw[aF hi2] at hRes;dsimp only at hRes;subst hRes;generalize hpe:c.ps[i]=p at*;generalize hPi:N.Ps[i]=P at*;have hgq:=hP.gp;unfold PeS.cs at hgq;have hlp:=hC.lt hP.kp;have hpd:p≠c.d:=fun e=>by have :=hP.kp;rw[e,hD.kd] at this;cases this
 simp -implicitDefEqProofs only[go_sem,seval,hgq];repeat refine aI ?_
 refine aX (hAm) ?_;simp -implicitDefEqProofs only[go_sem,seval];repeat refine aI ?_
 have ew:ao (N.D.now+120)=N.D.now+120:=az aa aa;obtain⟨c1,hP1⟩:=hP.set hC (P':={P with ck:=ck,un:=N.D.now+120}) (wv':=wv) hP.fwv (PeS.low (hC.sane _ _ hP.gp).1 (aH _)).2.2.1 rfl rfl rfl rfl rfl rfl;have c2:=c1.mono (Q2:=qP j i) fun r h=>by subst h;exact⟨rfl,rfl⟩
 have hN1:=hN.one c2 ⟨_,_,hD.off c1.off ae ae ae ae⟩ hi (by rw[hpe];exact⟨_,_,_,_,_,_,hP1⟩);have c3:=c2.mono (Q2:=qD j) re;unfold PeS.cs at c3 hN1;dsimp only at c3 hN1;simp -implicitDefEqProofs only[go_sem,seval,hgq,hg,ew,bG hlp,iX];repeat refine aI ?_
 exact Ex.of c3 trivial ⟨rfl,hN1⟩
end
end
section
theorem QC {sec nano:Int}(h:l8 sec nano):aG prog 141 [.str (kv sec nano)] (.tup [.agg [.i64 sec,.i64 nano],.i64 0]):=by
 have k:=Vo (kv sec nano) (by rw[pZ];decide);have l:=(adl (kv sec nano) (by rw[pZ];decide) (4611686018427387904+sec.toNat) nano.toNat).1 rfl;have h':=h;unfold l8 at h';obtain⟨-,h1,h2⟩:=l;have m:ua (kv sec nano)=sec:=by
  unfold ua;rw[<-h1,gn aa];have :(BitVec.ofNat 64 (4611686018427387904+sec.toNat)-4611686018427387904#64).toNat=sec.toNat:=by
   rw[uv,cx,cx];omega
  rw[this,az aa aa];omega
 have o:vt (kv sec nano)=nano:=by unfold vt;rw[<-h2];omega
 rw[m,o,pZ,if_pos ⟨rfl,h⟩] at k;exact k
noncomputable def rN (P:PeS) (g:SeP) (fr:BitVec 32) (now:Int):PeS:=
 {P with stp:=true,sec:=g.f.sec,nano:=g.f.nano,kn:=g.f.best,at_:=fr,ne:=some (SeS.fresh g.f.su g.id2 g.f.id (g.key 1) (g.key 0) now false)}
noncomputable def oS (D:DeS) (P:PeS) (f:FiP) (fr:BitVec 32):DeS×PeS:=
 (({D with index:=D.index+1#32,fresh:=D.fresh+1#64}:DeS).goes fr ((rN P ⟨f,P.psk,D.keyV,D.best,D.index+1#32⟩ fr D.now).mkd D.now (SeP.text ⟨f,P.psk,D.keyV,D.best,D.index+1#32⟩)),
  rN P ⟨f,P.psk,D.keyV,D.best,D.index+1#32⟩ fr D.now)
noncomputable def mo (N:NoS) (f:FiP) (m:List ai) (fr:BitVec 32):Int×NoS:=
 if N.D.busy=true/\¬ ik (gV N.D.secret fr N.D.now) (f.text++bX N.D.pub f.text) 16=m then
  (14,{N with D:=({N.D with fresh:=N.D.fresh+1#64}:DeS).goes fr (dj N.D.pub (N.D.keyV.take 24) (gV N.D.secret fr N.D.now) f.text (bX N.D.pub f.text))})
 else if ¬ (iu N.B fr N.D.now).1=0 then((iu N.B fr N.D.now).1,{N with B:=(iu N.B fr N.D.now).2})
 else if N.D.best<f.su then(5,{N with B:=(iu N.B fr N.D.now).2})
 else match N.Ps.findIdx? (fun P=>decide (P.pub=aK f.own)) with
  |none=>(7,{N with B:=(iu N.B fr N.D.now).2})
  |some i=>match N.Ps[i]? with
   |none=>(7,{N with B:=(iu N.B fr N.D.now).2})
   |some P=>if P.stp=true/\¬ later f.sec f.nano P.sec P.nano then(11,{N with B:=(iu N.B fr N.D.now).2})
    else if f.su<P.pin then(10,{N with B:=(iu N.B fr N.D.now).2})
    else(0,{N with B:=(iu N.B fr N.D.now).2,D:=(oS N.D P f fr).1,Ps:=N.Ps.set i (oS N.D P f fr).2})
section
variable {K K0 K':RK}{H H0 H':List (Option Blk)}{Q0 Q:Rl->Prop}{j i d p tm n W a q w arr pb bk pw:Nat}{P P':PeS}{D D':DeS}{S S':SeS}{ps:List Nat}{f:FiP}{g:SeP}{c:NoK}{N:NoS}{out got wv bg ol se ne v:V}
noncomputable def vq (f:FiP):List V:=f.st.cs f.su++[.i64 f.su,.u32 f.id,.str (aK f.once),.str (aK f.own)]
theorem YO (h:Cx K0 H0 Q0 K H)(b:f.ok):
  ∃ v K' H',Dx prog 97 [.str f.q,.str f.text] K H (fun _=>False) v K' H'/\(∃ c,v= .tup [.agg [.i64 f.su,.u32 f.id,.str (aK f.own),.i64 f.sec,.i64 f.nano,.i64 f.best],.ptr c 0,.i64 0]/\K'=K/\c=H.length/\ag H' c=bK (vq f)):=by
 have k:=f.st.low f.su;have l:=zD (H:=H) (v':= .tup [.agg [.i64 f.su,.u32 f.id,.str (aK f.own),.i64 f.sec,.i64 f.nano,.i64 f.best],.ptr H.length 0,.i64 0]) (YV (id:=f.id) b.su b.best (QC b.time) b.q b.once b.own) (fun _=>rfl) (by simp[af,V.low]) (fun σ=>rfl) (fun σ e=>by simp[V.ren,rens,e]);exact⟨_,_,_,⟨l,(h.start (fun _=>False)).junk (by rw[oZ];exact⟨by rw[show(jN f.su f.q f.once f.own f.sec f.nano f.best).cs f.su=f.st.cs f.su from rfl,k];trivial,by simp[af,V.low]⟩),by simp[af,V.low]⟩,H.length,rfl,rfl,rfl,eY⟩
theorem aa6 (h:Cx K0 H0 Q0 K H)(b:g.ok){c:Nat}(k:ag H c=bK (vq g.f)):
  ∃ v K' H',Dx prog 99 [.ptr c 0,.str g.psk,.str g.e,.i64 g.best,.u32 g.id2] K H (fun _=>False) v K' H'/\(v= .tup [.str g.text,.agg [.str (g.key 1),.str (g.key 0)],.i64 0]/\K'=K/\H'=H):=by
 have l:=g.f.st.low g.f.su;exact Bs h k (Sy (id:=g.f.id) (id2:=g.id2) b.f.su b.best (FiP.st_ok b.f) b.e b.f.once b.f.own b.psk) (fun _=>rfl) (fun _=>by simp[af,V.low]) (fun σ=>rfl) (fun n=>by unfold vq;rw[oZ,l];simp[af,V.low]) (fun _=>rfl) (fun _=>by simp[af,V.low]) ⟨rfl,rfl,rfl⟩
def Ix (d i:Nat)(v:V)(b:Nat)(x:Option Blk):Prop:=b=d->∃ B,x=some B/\i<B.cs.length/\B.cs.getD i .junk=v
theorem Rj (hC:Cx K0 H0 Q K H)(hD:DevAt K H j d D arr ps pb bk out got)(hd:D.ok n)(x b m:List ai)(hx:6<=x.length)(hx2:x.length<=1000000)(hb:b.length=16)(hm16:m.length=16)(mine:List ai)(hmine:mine.length=16){t:List (Nat×V)}(h0:aj t 0= .ptr d 0)(h2:aj t 2= .str (x++b++m))(h7:aj t 7= .str mine){Q':Exit->St->Prop}{r0 r1 r2 s3 r5 r6 c7 c9 c10 e5:Code}{x44:Operand}
  (hc:f69.body=some (.seq r0 (.seq r1 (.seq r2 (.seq s3 (.seq (.seq r5 (.cond x44 (.seq (.seq r6 c7) c9) e5)) c10)))))) (hm:H0.length<=H.length)
  (hQ:∀ (H1:List (Option Blk)) (t1:List (Nat×V)),Cx K H (fun r=>r= .dev j) K H1->DevAt K H1 j d {D with fresh:=D.fresh+1#64} arr ps pb bk out got->aj t1 0= .ptr d 0->aj t1 1=aj t 1->aj t1 11= .str (dj D.pub (D.keyV.take 24) mine x b)->aj t1 12= .i64 0->Q' .normal ⟨t1,H1⟩):
  GP prog H0.length f69.ntmps r6 Q' ⟨t,H⟩:=by
 have hg:=hD.g;unfold DeS.cs at hg;have hpl:D.pub.length=32:=by rw[hd.pub,cB]
 have hkl:=(D.keyV_spec hd.seed).2;have hR:=Rp D.pub (D.keyV.take 24) mine x b m hpl (by rw[br,hkl];rfl) hmine hx hx2 hb hm16;obtain⟨_,K1,H1,hDn,rfl,rfl,hD1⟩:=x6 hC hD hd.seed;have hg1:=hD1.g;unfold DeS.cs at hg1;have hkv:D.keyV.length=32:=hkl;generalize hke:D.keyV=ks at*;generalize x++b++m=msg at*;generalize dj D.pub (ks.take 24) mine x b=o at*;have hld:=hC.lt hD.kd;simp only[f69,cf,Code.seq.injEq,Code.cond.injEq] at hc;obtain⟨-,-,-,-,⟨-,-,⟨⟨rfl,-⟩,-⟩,-⟩,-⟩:=hc;refine JG (J:=Ix d 2 (.str D.pub)) ac (fun b e=>by subst e;exact⟨_,hg,ae,rfl⟩) ?_;refine dN (by show(_:Nat)<184;decide) rfl (by simp -implicitDefEqProofs only[go_sem,h0];rfl) trivial rfl rfl ?_;refine dN (by show(_:Nat)<184;decide) rfl (by simp -implicitDefEqProofs only[go_sem,seval];rfl) trivial rfl rfl ?_;refine dN (by show(_:Nat)<184;decide) rfl (by simp -implicitDefEqProofs only[go_sem,seval];rfl) trivial rfl rfl ?_;refine Hu (b:=d) (i:=2) (v:= .str D.pub) (by show(_:Nat)<184;decide) rfl rfl (by simp -implicitDefEqProofs only[go_sem,seval]) ac (z:=1) ac (fun x hx=>hx rfl) ?_;refine dN (by show(_:Nat)<184;decide) rfl (by simp -implicitDefEqProofs only[go_sem,seval,h0];rfl) trivial rfl rfl ?_;refine Cb (fs:=[]) (cs:=[]) (args:=[.ptr d 0]) (by show(_:Nat)<184;decide) rfl rfl rfl rfl (hDn.whole (by simp[af,V.low,hld]) hC.sane) ac (by simp -implicitDefEqProofs only[go_sem,seval]) (fun b hb e=>by subst e;exact⟨_,hg1,ae,rfl⟩) ?_;refine dN (by show(_:Nat)<184;decide) rfl (by simp -implicitDefEqProofs only[go_sem,seval];rfl) (by simp;omega) rfl rfl ?_;refine dN (by show(_:Nat)<184;decide) rfl (by simp -implicitDefEqProofs only[go_sem,seval,h7];rfl) trivial rfl rfl ?_;refine dN (by show(_:Nat)<184;decide) rfl (by simp -implicitDefEqProofs only[go_sem,seval,h2];rfl) trivial rfl rfl ?_;refine Xf (fs:=[]) (cs:=[]) (by show(_:Nat)<184;decide) rfl rfl rfl rfl (by simp -implicitDefEqProofs only[go_sem,seval];exact hR) ?_;refine dN (by show(_:Nat)<184;decide) rfl (by simp -implicitDefEqProofs only[go_sem,seval];rfl) trivial rfl rfl ?_;refine dN (by show(_:Nat)<184;decide) rfl (by simp -implicitDefEqProofs only[go_sem,seval];rfl) trivial rfl rfl ?_;refine dN (by show(_:Nat)<184;decide) rfl (by simp -implicitDefEqProofs only[go_sem,seval];rfl) trivial rfl rfl ?_;refine dN (by show(_:Nat)<184;decide) rfl (by simp -implicitDefEqProofs only[go_sem,seval];rfl) trivial rfl rfl ?_;refine dN (by show(_:Nat)<184;decide) rfl (by simp -implicitDefEqProofs only[go_sem,seval];rfl) trivial rfl rfl ?_;refine G8 ?_ ⟨fF hm hDn.cur.len,hQ H1 _ hDn.cur hD1 ?_ ?_ ?_ ?_⟩
 ·show iA _ [([],[]),([],[]),([],[]),([],[]),([],[]),(List.range H.length,nE (Wr (fun r=>r= .dev j) K1) H.length++List.range' H.length (H1.length-H.length)),([],[]),([],[]),([],[]),([],[]),([],[]),([],[]),([],[]),([],[]),([],[])]=true;have hw:=wM (K:=K1) (Q:=fun r=>r= .dev j) (Q2:=fun r=>r= .dev j) (N:=H.length) (n:=H.length) (k:=H1.length-H.length) (aH _) (fun _ h=>h);refine eC (ia K1 (fun r=>r= .dev j) H.length) [([],[]),([],[]),([],[]),([],[]),([],[]),([0,1,2],[1,2]),([0],[]),([],[]),([],[]),([],[]),([],[]),([],[]),([],[]),([],[]),([],[])] ac (by simp only[eO,eG,bh,tY,and_true,hw])
 all_goals simp -implicitDefEqProofs only[go_sem,seval,h0]
end
end
section
section
variable {K K0 K':RK}{H H0 H':List (Option Blk)}{Q0 Q:Rl->Prop}{j i d p tm n W a q w arr pb bk pw c:Nat}{P P':PeS}{D D':DeS}{S S':SeS}{ps:List Nat}{f:FiP}{g:SeP}{out got wv bg ol se ne v:V}
noncomputable def DC (K:RK) (Q:Rl->Prop) (N e x:Nat):Nat:=if x=e then 3 else ia K Q N x
theorem sI {N e x:Nat}{l:List Nat}(b:x=e->3∈l)(h:x≠e->ia K Q N x∈l):DC K Q N e x∈l:=by
 unfold DC;split
 ·exact b ‹_›
 ·exact h ‹_›
theorem PB (hC:Cx K0 H0 Q K H)(hD:DevAt K H j d D arr ps pb bk out got)(hd:D.ok n)(hP:PeerAt K H j i d p P tm wv bg ol se ne)(hpk:P.psk.length=32)(hf:f.ok)(hh:ag H c=bK (vq f))(hKc:K c=none)
  (ix:BitVec 32) {t:List (Nat×V)} (h0:aj t 0= .ptr d 0) (h15:aj t 15= .ptr c 0) (h16:aj t 16= .ptr p 0) (h17:aj t 17= .u32 ix) {Q':Exit->St->Prop} {r0 r1 r2 s3 s5 s10 r13 s14 r16 b17 r25 r26 r27 c28:Code}
  (hc:f69.body=some (.seq r0 (.seq r1 (.seq r2 (.seq s3 (.seq s5 (.seq s10 (.seq r13 (.seq s14 (.seq r16 (.seq b17 (.seq r25 (.seq r26 (.seq r27 c28)))))))))))))) (hm:H0.length<=H.length)
  (hQ:∀ (N:Nat) (H3:List (Option Blk)) (t1:List (Nat×V)),Cx K H (fun r=>r= .dev j) K H3->DevAt K H3 j d {D with fresh:=D.fresh+1#64} arr ps pb bk out got->H.length<=N->ag H3 N=bK [.str (SeP.key ⟨f,P.psk,D.keyV,D.best,ix⟩ 1),.str (SeP.key ⟨f,P.psk,D.keyV,D.best,ix⟩ 0)]->(∀ k,k≠10->k≠18->k≠19->k<147->aj t1 k=aj t k)->aj t1 10= .i64 0->aj t1 18= .str (SeP.text ⟨f,P.psk,D.keyV,D.best,ix⟩)->aj t1 19= .ptr N 0->Q' .normal ⟨t1,H3⟩):
  GP prog H0.length f69.ntmps r27 Q' ⟨t,H⟩:=by
 have hg:=hD.g;have hgq:=hP.gp;unfold DeS.cs at hg;unfold PeS.cs at hgq;have hdc:d≠c:=fun e=>by subst e;rw[hD.kd] at hKc;cases hKc
 have hpd:p≠d:=fun e=>by have :=hP.kp;rw[e,hD.kd] at this;cases this
 have hld:=hC.lt hD.kd;have hlp:=hC.lt hP.kp;have hlc:=aU hh;have hKp:=hP.kp;obtain⟨_,K1,H1,hDn,rfl,rfl,hD1⟩:=x6 hC hD hd.seed;have hg1:=hD1.g;unfold DeS.cs at hg1;have hh1:=(hDn.cur.getN hKc hlc).trans hh;have hgo:SeP.ok ⟨f,P.psk,D.keyV,D.best,ix⟩:=⟨hf,hpk,(D.keyV_spec hd.seed).2,hd.best⟩;obtain⟨_,K2,H2,hAn,rfl,rfl,rfl⟩:=aa6 hDn.cur hgo hh1;generalize SeP.key ⟨f,P.psk,D.keyV,D.best,ix⟩ 1=ka at*;generalize SeP.key ⟨f,P.psk,D.keyV,D.best,ix⟩ 0=kb at*;generalize SeP.text ⟨f,P.psk,D.keyV,D.best,ix⟩=sec at*;dsimp only at hAn;generalize D.keyV=ks at*;simp only[f69,cf,Code.seq.injEq] at hc;obtain⟨-,-,-,-,-,-,-,-,-,-,-,-,rfl,-⟩:=hc;refine JG (J:=Ix d 4 (.i64 D.best)) ac (fun b e=>by subst e;exact⟨_,hg,ae,rfl⟩) ?_;refine dN (by show(_:Nat)<184;decide) rfl (by simp -implicitDefEqProofs only[go_sem,h15];rfl) trivial rfl rfl ?_;refine dN (by show(_:Nat)<184;decide) rfl (by simp -implicitDefEqProofs only[go_sem,seval,h16];rfl) trivial rfl rfl ?_;refine dN (by show(_:Nat)<184;decide) rfl (by simp -implicitDefEqProofs only[go_sem,seval];rfl) trivial rfl rfl ?_;refine dN (by show(_:Nat)<184;decide) rfl (by simp -implicitDefEqProofs only[go_sem,seval];rfl) trivial rfl rfl ?_;refine dN (by show(_:Nat)<184;decide) rfl (by simp -implicitDefEqProofs only[go_sem,seval,hgq];rfl) ae rfl rfl ?_;refine dN (by show(_:Nat)<184;decide) rfl (by simp -implicitDefEqProofs only[go_sem,seval,h0];rfl) trivial rfl rfl ?_;simp -implicitDefEqProofs only[go_sem,ff,fO];refine Cb (fs:=[]) (cs:=[]) (args:=[.ptr d 0]) (by show(_:Nat)<184;decide) rfl rfl rfl rfl (hDn.whole (by simp[af,V.low,hld]) hC.sane) ac (by simp -implicitDefEqProofs only[go_sem,seval]) (fun b hb e=>by subst e;exact⟨_,hg1,ae,rfl⟩) ?_;refine dN (by show(_:Nat)<184;decide) rfl (by simp -implicitDefEqProofs only[go_sem,seval,h0];rfl) trivial rfl rfl ?_;refine dN (by show(_:Nat)<184;decide) rfl (by simp -implicitDefEqProofs only[go_sem,seval];rfl) trivial rfl rfl ?_;refine dN (by show(_:Nat)<184;decide) rfl (by simp -implicitDefEqProofs only[go_sem,seval];rfl) trivial rfl rfl ?_;refine Hu (b:=d) (i:=4) (v:= .i64 D.best) (by show(_:Nat)<184;decide) rfl rfl (by simp -implicitDefEqProofs only[go_sem,seval]) ac (z:=1) ac (fun x hx=>hx rfl) ?_;refine dN (by show(_:Nat)<184;decide) rfl (by simp -implicitDefEqProofs only[go_sem,seval,h17];rfl) trivial rfl rfl ?_;simp -implicitDefEqProofs only[go_sem,ff,fO];have hl1:=hDn.cur.len;refine Cb (fs:=[]) (cs:=[]) (args:=[.ptr c 0,.str P.psk,.str ks,.i64 D.best,.u32 ix]) (by show(_:Nat)<184;decide) rfl rfl rfl rfl (hAn.whole (by simp[af,V.low];omega) hDn.cur.sane) ac (by simp -implicitDefEqProofs only[go_sem,seval]) (fun b hb e2=>?_) ?_
 ·subst e2;rcases hb with hb|hb
  ·obtain⟨_,_,h⟩:=(xj.1 hb).2;exact h.elim
  ·have :H2.length<=b:=hb;omega
 refine dN (by show(_:Nat)<184;decide) rfl (by simp -implicitDefEqProofs only[go_sem,seval];rfl) trivial rfl rfl ?_;refine dN (by show(_:Nat)<184;decide) rfl (by simp -implicitDefEqProofs only[go_sem,seval];rfl) trivial rfl rfl ?_;refine dN (by show(_:Nat)<184;decide) rfl (by simp -implicitDefEqProofs only[go_sem,seval];rfl) trivial rfl rfl ?_;refine dN (by show(_:Nat)<184;decide) rfl (by simp -implicitDefEqProofs only[go_sem,seval];rfl) trivial rfl rfl ?_;simp -implicitDefEqProofs only[go_sem,ff,fO];refine KT (by show(_:Nat)<184;decide) rfl (by simp -implicitDefEqProofs only[go_sem];rfl) trivial ae (fun b x hx e2=>?_) ?_
 ·subst e2;exfalso;unfold gk at hx;rw[if_neg (fun h=>by have :H2.length<=b:=h.1;omega),if_neg (fun h=>by have :=h.2;simp at this)] at hx;cases hx
 refine dN (by show(_:Nat)<184;decide) rfl (by simp -implicitDefEqProofs only[go_sem,seval];rfl) trivial rfl rfl ?_;simp -implicitDefEqProofs only[go_sem,ff,fO];refine KT (by show True;trivial) rfl (by simp -implicitDefEqProofs only[go_sem,seval,kj];rfl) ae (fun y hy=>?_) (fun b x hx e2=>?_) ?_
 ·have hy2:y=(H2.length,bK [.str ka,.str kb]):=by simpa using hy
  subst hy2;show H2.length<(H2++[bK [.str [],.str []]]).length;simp
 ·subst e2;exfalso;unfold gk at hx;rw[if_neg (fun h=>by have h1:(H2++[bK [.str [],.str []]]).length<=b:=h.1;simp at h1;omega),if_neg (fun h=>by have :=h.2;simp at this;omega)] at hx;cases hx
 refine dN (by show(_:Nat)<184;decide) rfl (by simp -implicitDefEqProofs only[go_sem,seval];rfl) trivial rfl rfl ?_;simp -implicitDefEqProofs only[go_sem,ff,fO];refine G8 ?_ ⟨?_,?_⟩
 ·show iA _ [([],[]),([],[]),([],[]),([],[]),([p],[]),([],[]),(List.range H.length,nE (Wr (fun r=>r= .dev j) K2) H.length++List.range' H.length (H2.length-H.length)),([],[]),([],[]),([],[]),([],[]),([],[]),(List.range H2.length,nE (Wr (fun _=>False) K2) H2.length++List.range' H2.length (H2.length-H2.length)),([],[]),([],[]),([],[]),([],[]),([],[H2.length]),([],[]),([H2.length],[H2.length]),([],[])]=true;have hw:=wM (K:=K2) (Q:=fun r=>r= .dev j) (Q2:=fun r=>r= .dev j) (N:=H.length) (n:=H.length) (k:=H2.length-H.length) (aH _) (fun _ h=>h);refine eC (DC K2 (fun r=>r= .dev j) H.length H2.length) [([],[]),([],[]),([],[]),([],[]),([0],[]),([],[]),([0,2],[1,2]),([],[]),([],[]),([],[]),([],[]),([],[]),([0,1,2],[]),([],[]),([],[]),([],[]),([],[]),([],[3]),([],[]),([3],[3]),([],[])] ac ?_;rw[pO,gf];simp only[eO,eG,bh,all_cons,and_true,true_and,ff,List.range'_zero];have any3:∀ x,ia K2 (fun r=>r= .dev j) H.length x∈[0,1,2]:=fun x=>by unfold ia;split <;>(try split)<;>simp
  refine⟨sI aa fun _=>by rw[vp hKp hlp ae];simp,⟨fun b hb=>by
   rw[zM] at hb;refine sI aa fun _=>?_
   unfold ia;rw[if_pos hb];split <;>simp,fun b hb=>sI (fun e=>?_) fun _=>of_eq_true hw b hb⟩,fun b hb=>?_,sI ae ae,sI ae ae,sI ae ae⟩
  ·subst e;exfalso;rcases eB.1 hb with hb|hb
   ·have :=(xj.1 hb).1;omega
   ·rw[qf] at hb;omega
  ·rw[zM] at hb;exact sI aa fun _=>any3 b
 ·show H0.length<=((H2++[bK [.str [],.str []]]).set H2.length (bK [.str ka,.str kb])).length;simp;omega
 ·have hB:=(hDn.cur.start (fun _=>False)).boxed (zs:=[.str [],.str []]) (ys:=[.str ka,.str kb]) (by simp[af,V.low]) (by simp[af,V.low]);refine hQ H2.length _ _ (hDn.cur.call hB fun _ h=>h.elim) (hD1.offF hB.off) hl1 (bG ae _) (fun k k1 k2 k3 k4=>?_) rfl rfl rfl;simp only[aj];iterate 20 rw[if_neg aa]
end
end
section
section
variable {K K0 K':RK}{H H0 H':List (Option Blk)}{Q0 Q:Rl->Prop}{j i d p tm n W q Nn:Nat}{P P':PeS}{D D':DeS}{f:FiP}{g:SeP}{c:NoK}{N:NoS}{R:Int×NoS}
theorem NodeAt.bkOff (h:NodeAt K H j c N)(a:Cx K H (fun r=>r= .bk j\/r= .bm j) K' H'){B':BkS}(b:BkAt K' H' j c.bk B'):NodeAt K' H' j c {N with B:=B'}:=
 ⟨by obtain⟨_,_,e⟩:=h.dev;exact⟨_,_,e.off a.off ae ae ae ae⟩,h.len,fun i h1 h2=>(h.peer i h1 h2).off a.off ae ae ae ae ae ae,b,h.pth.off a.off a.len ae⟩
theorem NodeAt.devJ (h:NodeAt K H j c N)(a:Cx K H (fun r=>r= .dev j) K' H')(b:fm K' H' j c.d D' c.arr c.ps c.paths c.bk):NodeAt K' H' j c {N with D:=D'}:=h.devO (a.mono yS) b
theorem QF (hC:Cx K0 H0 (qD j) K H)(hN:NodeAt K H j c N)(hi:i<c.ps.length)(hi2:i<N.Ps.length)(hP1:N.Ps[i]=P)(hp:P.ok)(hd:N.D.ok n)(hn:n<=900000000)(hg:g.ok)(hq:ag H q=bK [.i64 g.f.su,.u32 g.f.id,.str (aK g.f.own),.i64 g.f.sec,.i64 g.f.nano,.i64 g.f.best])(hqN:K q=none)
  (hNn:ag H Nn=bK [.str (g.key 1),.str (g.key 0)]) {t:List (Nat×V)}
  (h0:aj t 0= .ptr c.d 0) (h10:aj t 10= .i64 0) (h14:aj t 14= .ptr q 0) (h16:aj t 16= .ptr c.ps[i] 0) (h17:aj t 17= .u32 g.id2) (h18:aj t 18= .str g.text) (h19:aj t 19= .ptr Nn 0) {r0 r1 r2 s3 s5 s10 r13 s14 r16 b17 r25 r26 r27 c28:Code}
  (hc:f69.body=some (.seq r0 (.seq r1 (.seq r2 (.seq s3 (.seq s5 (.seq s10 (.seq r13 (.seq s14 (.seq r16 (.seq b17 (.seq r25 (.seq r26 (.seq r27 c28))))))))))))))
  (hR:R=(0,{N with D:=N.D.goes P.at_ (P.mkd N.D.now g.text),Ps:=N.Ps.set i {P with ne:=some (SeS.fresh g.f.su g.id2 g.f.id (g.key 1) (g.key 0) N.D.now false)}})):
  vc prog H0.length f69.ntmps c28 (eW prog f69 (Ex K0 H0 (qD j) fun v K' H'=>v= .i64 R.1/\NodeAt K' H' j c R.2)) ⟨t,H⟩:=by
 obtain⟨out,got,hD⟩:=hN.dev;obtain⟨tm,wv,bg,ol,se,ne,hP⟩:=hN.peer i hi hi2;rw[hP1] at hP;have hnow:=hd.now;have hgd:=hD.g;have hgq:=hP.gp;unfold DeS.cs at hgd;unfold PeS.cs at hgq;generalize hpe:c.ps[i]=p at*;have hlp:=hC.lt hP.kp;have hld:=hC.lt hD.kd;have hlq:=aU hq;have hlN:=aU hNn;have hpd:p≠c.d:=fun e=>by have :=hP.kp;rw[e,hD.kd] at this;cases this
 simp only[f69,cf,Code.seq.injEq] at hc;obtain⟨-,-,-,-,-,-,-,-,-,-,-,-,-,rfl⟩:=hc;refine ak ?_;simp -implicitDefEqProofs only[go_sem,seval,h10];repeat refine aI ?_
 simp -implicitDefEqProofs only[go_sem,seval,h0,h14,h16,h17,h19,hq,hNn,hgd];repeat refine aI ?_
 refine cN (I1 hC g.f.su hg.f.su (g.key 1) (g.key 0) (g.key_length hg ah) (g.key_length hg ah) N.D.now hnow.1 hnow.2 false g.id2 g.f.id j i) ac rfl (by simp[af,V.low]) hC.sane ?_;rintro _ K1 H1 hC1 hl1 ⟨a6,q6,w6,rfl,hla6,hS6⟩;have hE1:=hC.call hC1 fun _ h=>h.elim
 have hN1:=hN.offF hC1;have hPa:=hP.offF hC1.off;have hDa:=hD.offF hC1.off;have hg1:=hPa.gp;unfold PeS.cs at hg1;have hlp1:=hE1.lt hPa.kp;have hap:∀ {v:V} {o:Option SeS},SesAt K H j i v o->Apart v (.ptr a6 0):=fun h=>SesAt.apart hC h hla6
 obtain⟨l1,l2,l3,l4,l5,l6,l7⟩:=PeS.low (hE1.sane _ _ hPa.gp).1 (aH _);obtain⟨c2,hP2⟩:=hPa.putS hE1 (P':={P with ne:=some (SeS.fresh g.f.su g.id2 g.f.id (g.key 1) (g.key 0) N.D.now false)}) (bg':=bg) (ol':=ol) (se':=se) (ne':= .ptr a6 0) rfl rfl hPa.fbg hPa.fol hPa.fse ⟨a6,q6,w6,rfl,hS6⟩ hPa.d1 (hap hP.fol) (hap hP.fse) ⟨l4,l5,l6,hE1.lt hS6.ka,trivial⟩;have hX2:=c2.mono (Q2:=qP j i) fun r h=>by subst h;exact⟨rfl,rfl⟩
 have hE2:=hE1.call c2 fun r h=>by subst h;exact rfl
 have hD2:=hDa.off c2.off ae ae ae ae;unfold PeS.cs at c2 hP2 hX2 hE2 hD2;dsimp only at c2 hP2 hX2 hE2 hD2;simp -implicitDefEqProofs only[go_sem,seval,hg1,hlp1,h16,h18];repeat refine aI ?_
 refine And.intro ?_ ?_
 ·refine eC (fw H.length) [([],[]),([],[]),([0],[]),([0],[]),([],[]),([],[]),([],[]),([0],[]),([],[]),([],[]),([0],[]),([0,1],[1]),([],[]),([],[]),([0],[0])] ac (by simp only[eO,eG,bh,mz,all_cons,pO,ff,w8,dU hlp,dU hld,dU hlq,dU hlN,fC,and_true])
 have hpok:({P with ne:=some (SeS.fresh g.f.su g.id2 g.f.id (g.key 1) (g.key 0) N.D.now false)}:PeS).ok:=⟨hp.q,hp.pub,hp.psk,hp.kn,hp.pin,hp.ck,hp.un,hp.wl,hp.ws,hp.bg,hp.bt,hp.ol,hp.se,fun S e=>by
  cases e;exact⟨hg.f.su,g.key_length hg ah,g.key_length hg ah,hnow,by show(0:Int)<=0/\(0:Int)<=1000;omega,by show(0:Int)<=0/\(0:Int)<=1099511627777;omega⟩,hp.tm⟩
 refine bA (W9 hE2 hD2 hP2 hpok g.text (by rw[(g.facts hg).1];decide) (by have :=hd.out;omega)) ac rfl (by simp[af,V.low,hlp1]) hE2.sane ?_;rintro _ K3 H3 hC3 hl3 ⟨rfl,hD3⟩;simp -implicitDefEqProofs only[go_sem,seval];have hP3:=hP2.offO hC3.off;have hX3:=hX2.call hC3 zm;subst hR;refine Ex.of (hE2.call hC3 fun r h=>re (i:=i) _ (zm _ h)) trivial ⟨rfl,?_⟩;exact hN1.one hX3 hD3 hi (by rw[hpe];exact⟨_,_,_,_,_,_,hP3⟩)
theorem Tb (hC:Cx K0 H0 (qD j) K H)(hN:NodeAt K H j c N)(hi:i<c.ps.length)(hi2:i<N.Ps.length)(hP1:N.Ps[i]=P)(hp:P.ok)(hd:N.D.ok n)(hn:n<=900000000)(hf:f.ok)(hq:ag H q=bK [.i64 f.su,.u32 f.id,.str (aK f.own),.i64 f.sec,.i64 f.nano,.i64 f.best])(hqN:K q=none)
  {hc':Nat} (hh:ag H hc'=bK (vq f)) (hKc:K hc'=none) (hcq:hc'≠q) {fr:BitVec 32} {t:List (Nat×V)}
  (h0:aj t 0= .ptr c.d 0) (h1:aj t 1= .u32 fr) (h14:aj t 14= .ptr q 0) (h15:aj t 15= .ptr hc' 0) (h16:aj t 16= .ptr c.ps[i] 0) {r0 r1 r2 s3 s5 s10 r13 s14 r16 b17 c25:Code}
  (hc:f69.body=some (.seq r0 (.seq r1 (.seq r2 (.seq s3 (.seq s5 (.seq s10 (.seq r13 (.seq s14 (.seq r16 (.seq b17 c25))))))))))) (hm:H0.length<=H.length)
  (hR:R=(0,{N with D:=(oS N.D P f fr).1,Ps:=N.Ps.set i (oS N.D P f fr).2})):
  GP prog H0.length f69.ntmps c25 (eW prog f69 (Ex K0 H0 (qD j) fun v K' H'=>v= .i64 R.1/\NodeAt K' H' j c R.2)) ⟨t,H⟩:=by
 obtain⟨out,got,hD⟩:=hN.dev;obtain⟨tm,wv,bg,ol,se,ne,hP⟩:=hN.peer i hi hi2;rw[hP1] at hP;have hgq:=hP.gp;unfold PeS.cs at hgq;generalize hpe:c.ps[i]=p at*;have hlp:=hC.lt hP.kp;have hld:=hC.lt hD.kd;have hlq:=aU hq;have hpq:p≠q:=fun e=>by have :=hP.kp;rw[e,hqN] at this;cases this
 have hdq:c.d≠q:=fun e=>by have :=hD.kd;rw[e,hqN] at this;cases this
 have hpd:p≠c.d:=fun e=>by have :=hP.kp;rw[e,hD.kd] at this;cases this
 have hph:p≠hc':=fun e=>by have :=hP.kp;rw[e,hKc] at this;cases this
 simp only[f69,cf,Code.seq.injEq] at hc;obtain⟨-,-,-,-,-,-,-,-,-,-,rfl⟩:=hc;refine ld ac hm (ak ?_);simp -implicitDefEqProofs only[go_sem,seval,h1,h14,h16,hq,hgq,bG hlp,aY,hlp,iX,splice];repeat refine aI ?_
 refine And.intro ?_ ?_
 ·refine eC (iD q H.length) [([],[]),([],[]),([],[]),([],[]),([],[]),([2],[]),([],[]),([2],[]),([],[]),([],[]),([],[]),([0],[0]),([],[]),([],[]),([0],[0]),([],[]),([],[]),([0],[0]),([],[]),([],[]),([0],[0])] ac (by simp only[eO,eG,bh,all_cons,wx,om hlp hpq,SD,fC,and_true])
 obtain⟨c1,hP2⟩:=hP.set hC (P':={P with stp:=true,sec:=f.sec,nano:=f.nano,kn:=f.best,at_:=fr}) (wv':=wv) hP.fwv (PeS.low (hC.sane _ _ hP.gp).1 (aH _)).2.2.1 rfl rfl rfl rfl rfl rfl;have hX1:=c1.mono (Q2:=qP j i) fun r h=>by subst h;exact⟨rfl,rfl⟩
 have hC1:=hC.call c1 fun r h=>by subst h;exact rfl
 have hD1:=hD.off c1.off ae ae ae ae;have hN1:=hN.one hX1 ⟨_,_,hD1⟩ hi (by rw[hpe];exact⟨_,_,_,_,_,_,hP2⟩);have hq1:=(c1.getN hqN hlq).trans hq;have hh1:=(c1.getN hKc (aU hh)).trans hh;have hl1:(H.set p (bK (({P with stp:=true,sec:=f.sec,nano:=f.nano,kn:=f.best,at_:=fr}:PeS).cs c.d tm wv bg ol se ne))).length=H.length:=aY;unfold PeS.cs at c1 hP2 hX1 hC1 hD1 hN1 hq1 hh1 hl1;dsimp only at c1 hP2 hX1 hC1 hD1 hN1 hq1 hh1 hl1;generalize H.set p (bK [.ptr c.d 0,.ptr tm 0,.i64 P.num,.str P.pub,.str P.psk,.u32 fr,.i64 f.best,.i64 P.pin,.bool true,.i64 f.sec,.i64 f.nano,.str P.ck,.i64 P.un,wv,bg,.u32 P.bi,.str P.bt,ol,se,ne])=M at*;intro hm1;have hlq1:=aU hq1;refine ld ac (by show H0.length<=M.length;omega) (ak ?_);simp -implicitDefEqProofs only[go_sem,seval,h0];repeat refine aI ?_
 refine bA (LD hC1 hD1) ac rfl (by simp[af,V.low,hC1.lt hD1.kd]) hC1.sane ?_;rintro _ K2 H2 hC2 hl2 ⟨rfl,rfl,hD2⟩;have hE2:=hC1.call hC2 fun r h=>by subst h;exact rfl
 have hN2:=hN1.devJ hC2 ⟨_,_,hD2⟩;have hPb:=hP2.off hC2.off ae ae ae ae ae ae;have hq2:=(hC2.getN hqN hlq1).trans hq1;have hh2:=(hC2.getN hKc (aU hh1)).trans hh1;have hlq2:=aU hq2;simp -implicitDefEqProofs only[go_sem,seval];intro hm2;have hdk:({N.D with index:=N.D.index+1#32}:DeS).ok n:=⟨hd.own,hd.pub,hd.seed,hd.best,hd.secret,hd.now,hd.firsts,hd.out,hd.got⟩;refine wA (K:=fun s'=>H0.length<=s'.H.length->GP _ _ _ _ _ s') (PB hE2 hD2 hdk hPb hp.psk hf hh2 hKc (N.D.index+1#32) (t:=_) ?_ ?_ ?_ ?_ (hc:=rfl) hm2 ?_) fun s' q1 q2=>q2 q1
 ·simp -implicitDefEqProofs only[go_sem,seval,h0]
 ·simp -implicitDefEqProofs only[go_sem,seval,h15]
 ·simp -implicitDefEqProofs only[go_sem,seval,h16]
 ·simp -implicitDefEqProofs only[go_sem,seval]
 intro N3 H3 t1 hC3 hD3 hlN3 hN3 hk h10 h18 h19 hm3;have hE3:=hE2.call hC3 fun r h=>by subst h;exact rfl
 have hNA:=hN2.devJ hC3 ⟨_,_,hD3⟩;have hq3:=(hC3.getN hqN hlq2).trans hq2;have e0:=hk 0 ah ah ah ah;have e14:=hk 14 ah ah ah ah;have e16:=hk 16 ah ah ah ah;have e17:=hk 17 ah ah ah ah;simp -implicitDefEqProofs only[go_sem,seval,h0,h14,h16] at e0 e14 e16 e17;have eK:∀ (x:BitVec 32),DeS.keyV {N.D with index:=x}=N.D.keyV:=fun x=>rfl
 dsimp only at hN3 h18 hNA;rw[eK] at hN3 h18;have hgo:SeP.ok ⟨f,P.psk,N.D.keyV,N.D.best,N.D.index+1#32⟩:=⟨hf,hp.psk,(N.D.keyV_spec hd.seed).2,hd.best⟩;have hdk2:({N.D with index:=N.D.index+1#32,fresh:=N.D.fresh+1#64}:DeS).ok n:=⟨hd.own,hd.pub,hd.seed,hd.best,hd.secret,hd.now,hd.firsts,hd.out,hd.got⟩;have hpk2:({P with stp:=true,sec:=f.sec,nano:=f.nano,kn:=f.best,at_:=fr}:PeS).ok:=⟨hp.q,hp.pub,hp.psk,hf.best,hp.pin,hp.ck,hp.un,hp.wl,hp.ws,hp.bg,hp.bt,hp.ol,hp.se,hp.ne,hp.tm⟩;refine ve ac hm3 (QF (g:=⟨f,P.psk,N.D.keyV,N.D.best,N.D.index+1#32⟩) (P:={P with stp:=true,sec:=f.sec,nano:=f.nano,kn:=f.best,at_:=fr}) hE3 hNA hi (by show i<(N.Ps.set i _).length;rw[aY];exact hi2) (sR ..) hpk2 hdk2 hn hgo hq3 hqN hN3 e0 h10 e14 (by rw[e16,hpe]) e17 h18 h19 (hc:=rfl) ?_);subst hR;unfold oS rN;dsimp only;rw[iX];rfl
end
end
section
section
variable {K K0 K':RK}{H H0 H':List (Option Blk)}{Q0 Q:Rl->Prop}{j i d p tm n W q Nn:Nat}{P P':PeS}{D D':DeS}{f:FiP}{g:SeP}{c:NoK}{N:NoS}{R:Int×NoS}
noncomputable def yr (N:NoS) (f:FiP) (fr:BitVec 32):Int×NoS:=if N.D.best<f.su then(5,N)
 else match N.Ps.findIdx? (fun P=>decide (P.pub=aK f.own)) with
  |none=>(7,N)
  |some i=>match N.Ps[i]? with
   |none=>(7,N)
   |some P=>if P.stp=true/\¬ later f.sec f.nano P.sec P.nano then(11,N)
    else if f.su<P.pin then(10,N)
    else(0,{N with D:=(oS N.D P f fr).1,Ps:=N.Ps.set i (oS N.D P f fr).2})
theorem abF (hC:Cx K0 H0 (qD j) K H)(hN:NodeAt K H j c N)(ho:N.ok n)(hn:n<=900000000)(hp8:N.Ps.length<=8)(hf:f.ok)(hq:ag H q=bK [.i64 f.su,.u32 f.id,.str (aK f.own),.i64 f.sec,.i64 f.nano,.i64 f.best])(hqN:K q=none)
  {hc':Nat} (hh:ag H hc'=bK (vq f)) (hKc:K hc'=none) (hcq:hc'≠q) {fr:BitVec 32} {t:List (Nat×V)}
  (h0:aj t 0= .ptr c.d 0) (h1:aj t 1= .u32 fr) (h14:aj t 14= .ptr q 0) (h15:aj t 15= .ptr hc' 0) {r0 r1 r2 s3 s5 s10 r13 s14 c16:Code}
  (hc:f69.body=some (.seq r0 (.seq r1 (.seq r2 (.seq s3 (.seq s5 (.seq s10 (.seq r13 (.seq s14 c16))))))))) (hm:H0.length<=H.length) (hR:yr N f fr=R):
  GP prog H0.length f69.ntmps c16 (eW prog f69 (Ex K0 H0 (qD j) fun v K' H'=>v= .i64 R.1/\NodeAt K' H' j c R.2)) ⟨t,H⟩:=by
 obtain⟨out,got,hD⟩:=hN.dev;have hg:=hD.g;unfold DeS.cs at hg;have hld:=hC.lt hD.kd;have hlq:=aU hq;have hlen:=hN.len;have hfsu:=hf.su;simp only[f69,cf,Code.seq.injEq] at hc;obtain⟨-,-,-,-,-,-,-,-,rfl⟩:=hc;have ret_:∀ (t:List (Nat×V)) (e:Int),R=(e,N)->Ex K0 H0 (qD j) (fun v K' H'=>v= .i64 R.1/\NodeAt K' H' j c R.2) (.i64 e) ⟨t,H⟩:=fun t e h=>by subst h;exact Ex.of (s:=⟨t,H⟩) hC trivial ⟨rfl,hN⟩
 unfold yr at hR;refine ld ac hm (ak ?_);simp -implicitDefEqProofs only[go_sem,seval,h0,h14,hq];repeat refine aI ?_
 refine bA (JC hC hN hp8 (aK f.own)) ac rfl (by simp[af,V.low,hld]) hC.sane ?_;rintro _ K1 H1 hC1 hl1 ⟨rfl,rfl,rfl⟩;generalize hfi:N.Ps.findIdx? (fun P=>decide (P.pub=aK f.own))=fi at*;cases fi with
 |none=>
  simp -implicitDefEqProofs only[go_sem,seval,jh];intro hm1;refine ld ac hm1 (ak ?_);simp -implicitDefEqProofs only[go_sem,seval,h0,h14,hq,hg];repeat refine aJ ?_
  by_cases hsb:N.D.best<f.su
  ·rw[if_pos hsb] at hR;simp -implicitDefEqProofs only[go_sem,seval,hsb,decide_true];exact ret_ _ _ hR.symm
  ·rw[if_neg hsb] at hR;simp -implicitDefEqProofs only[go_sem,seval,hsb,decide_false];repeat refine aJ ?_
   exact ret_ _ _ hR.symm
 |some i=>
 have hi2:i<N.Ps.length:=(sM.1 hfi).1;have hi:i<c.ps.length:=aa;rw[lp hi];have hPo:=ho.Ps _ (dd hi2);obtain⟨tm,wv,bg,ol,se,ne,hP⟩:=hN.peer i hi hi2;dsimp only at hR;rw[aF hi2] at hR;dsimp only at hR;have hPi:N.Ps[i]=N.Ps[i]:=rfl;generalize hPe:N.Ps[i]=P at hP hR hPo;have hgq:=hP.gp;unfold PeS.cs at hgq;generalize hpe:c.ps[i]=p at*;have hlp:=hC.lt hP.kp;have hpq:p≠q:=fun e=>by have :=hP.kp;rw[e,hqN] at this;cases this
 have hpd:p≠c.d:=fun e=>by have :=hP.kp;rw[e,hD.kd] at this;cases this
 simp -implicitDefEqProofs only[go_sem,seval];intro hm1;refine ld ac hm1 (ak ?_);simp -implicitDefEqProofs only[go_sem,seval,h0,h14,hq,hg];repeat refine aJ ?_
 by_cases hsb:N.D.best<f.su
 ·rw[if_pos hsb] at hR;simp -implicitDefEqProofs only[go_sem,seval,hsb,decide_true];exact ret_ _ _ hR.symm
 rw[if_neg hsb] at hR;simp -implicitDefEqProofs only[go_sem,seval,h14,hsb,decide_false,hgq];repeat refine aJ ?_
 have go_on:¬ f.su<P.pin->¬ (P.stp=true/\¬ later f.sec f.nano P.sec P.nano)->∀ (t2:List (Nat×V)),aj t2 0= .ptr c.d 0->aj t2 1= .u32 fr->aj t2 14= .ptr q 0->aj t2 15= .ptr hc' 0->aj t2 16= .ptr p 0->_->_:=fun hs hl t2 e0 e1 e14 e15 e16 hm2=>
  Tb (R:=R) hC hN hi hi2 hPe hPo ho.D hn hf hq hqN hh hKc hcq e0 e1 e14 e15 (by rw[e16,hpe]) (hc:=rfl) hm2 (by rw[if_neg hl,if_neg hs] at hR;exact hR.symm)
 cases hst:P.stp
 ·simp -implicitDefEqProofs only[go_sem,seval,h14,hq,hgq,hst];repeat refine aJ ?_
  have hns:¬ (P.stp=true/\¬ later f.sec f.nano P.sec P.nano):=by rw[hst];simp
  rw[if_neg hns] at hR;split
  ·rename_i h;rw[if_pos (by simpa using h)] at hR;exact ret_ _ _ hR.symm
  ·rename_i h;have hs:¬ f.su<P.pin:=by simpa using h
   refine fun hm2=>go_on hs hns _ ?_ ?_ ?_ ?_ ?_ hm2<;>simp -implicitDefEqProofs only[go_sem,seval,h0,h1,h14,h15]
 ·simp -implicitDefEqProofs only[go_sem,seval,hq,hgq,hst];repeat refine aJ ?_
  refine aX (R1 f.sec f.nano P.sec P.nano) ?_;simp -implicitDefEqProofs only[go_sem,seval];repeat refine aJ ?_
  by_cases hlt:later f.sec f.nano P.sec P.nano
  rotate_left
  ·rw[if_pos ⟨hst,hlt⟩] at hR;simp -implicitDefEqProofs only[go_sem,seval,hlt,decide_false,qY];repeat refine aJ ?_
   exact ret_ _ _ hR.symm
  ·have hns:¬ (P.stp=true/\¬ later f.sec f.nano P.sec P.nano):=fun h=>h.2 hlt
   rw[if_neg hns] at hR;simp -implicitDefEqProofs only[go_sem,seval,h14,hq,hgq,hst,hlt,decide_true,jI];repeat refine aJ ?_
   split
   ·rename_i h;rw[if_pos (by simpa using h)] at hR;exact ret_ _ _ hR.symm
   ·rename_i h;have hs:¬ f.su<P.pin:=by simpa using h
    refine fun hm2=>go_on hs hns _ ?_ ?_ ?_ ?_ ?_ hm2<;>simp -implicitDefEqProofs only[go_sem,seval,h0,h1,h14,h15]
end
end
section
section
variable {K K0 K':RK}{H H0 H':List (Option Blk)}{Q0 Q:Rl->Prop}{j i d p tm n W q Nn:Nat}{P P':PeS}{D D':DeS}{f:FiP}{g:SeP}{c:NoK}{N:NoS}{R:Int×NoS}
theorem agW {Pr:Program}{a:FuncId}{args:List V}{fn:Func}{b:Code}{Q:Rl->Prop}{Post:V->RK->List (Option Blk)->Prop}(h:Pr.funcs[a]?=some fn)(k:fn.body=some b)(l:args.length<=fn.ntmps)
  (m:GP Pr H.length fn.ntmps b (eW Pr fn (Ex K H Q Post)) ⟨gU args 0,H⟩):∃ v K' H',Dx Pr a args K H Q v K' H'/\Post v K' H':=by
 obtain⟨e,s',h1,h2,o⟩:=m;obtain⟨v,⟨K',g1,g2,g3⟩,g4⟩:=JL h2;refine⟨v,K',s'.H,⟨yn h k l (Bl o ?_),g1,g2⟩,g3⟩;rintro _ _ ⟨rfl,rfl⟩;exact yp (fun v2 s2 r=>by obtain⟨rfl,rfl⟩:=r;exact Fin.id h1) g4
noncomputable def xL (N:NoS) (f:FiP) (fr:BitVec 32):Int×NoS:=
 if ¬ (iu N.B fr N.D.now).1=0 then((iu N.B fr N.D.now).1,{N with B:=(iu N.B fr N.D.now).2}) else yr {N with B:=(iu N.B fr N.D.now).2} f fr
theorem Fe (hC:Cx K0 H0 (qD j) K H)(hN:NodeAt K H j c N)(ho:N.ok n)(hn:n<=900000000)(hp8:N.Ps.length<=8)(hf:f.ok)(hfq:f.q=N.D.own){fr:BitVec 32}{t:List (Nat×V)}
  (h0:aj t 0= .ptr c.d 0) (h1:aj t 1= .u32 fr) (h8:aj t 8= .str f.text) {r0 r1 r2 s3 s5 c10:Code}
  (hc:f69.body=some (.seq r0 (.seq r1 (.seq r2 (.seq s3 (.seq s5 c10)))))) (hm:H0.length<=H.length) (hR:xL N f fr=R):
  GP prog H0.length f69.ntmps c10 (eW prog f69 (Ex K0 H0 (qD j) fun v K' H'=>v= .i64 R.1/\NodeAt K' H' j c R.2)) ⟨t,H⟩:=by
 obtain⟨out,got,hD⟩:=hN.dev;have hg:=hD.g;unfold DeS.cs at hg;have hld:=hC.lt hD.kd;simp only[f69,cf,Code.seq.injEq] at hc;obtain⟨-,-,-,-,-,rfl⟩:=hc;unfold xL at hR;have hT:=abn hC hN.bkt ho.B fr N.D.now;have hTo:=Lf ho.B fr N.D.now;generalize iu N.B fr N.D.now=T at*;obtain⟨e1,B1⟩:=T;dsimp only at hT hTo hR;refine ld ac hm (ak ?_);simp -implicitDefEqProofs only[go_sem,seval,h0,h1,hg];repeat refine aI ?_
 have hlb:c.bk<H.length:=by obtain⟨_,kb,-⟩:=hN.bkt;exact hC.lt kb
 refine cN (hT) ac rfl (by simp[af,V.low,hlb]) hC.sane ?_;rintro _ K1 H1 hC1 hl1 ⟨rfl,rfl,hB1⟩;have hN1:=hN.bkOff hC1 hB1;have hE1:=hC.call hC1 fun r h=>by rcases h with rfl|rfl<;>exact rfl
 simp -implicitDefEqProofs only[go_sem,seval];repeat refine aI ?_
 by_cases he1:e1=0
 rotate_left
 ·rw[if_pos he1] at hR;subst hR;simp -implicitDefEqProofs only[go_sem,seval,he1,not_false_eq_true,decide_true];exact Ex.of hE1 trivial ⟨rfl,hN1⟩
 rw[if_neg (by simp[he1])] at hR;simp -implicitDefEqProofs only[go_sem,seval,he1,not_true,decide_false];intro hm2;have hD1:=hD.off hC1.off ae ae ae ae;have hg1:=hD1.g;unfold DeS.cs at hg1;have hld1:=hE1.lt hD1.kd;refine ld ac hm2 (ak ?_);simp -implicitDefEqProofs only[go_sem,seval,h0,h8,hg1];repeat refine aI ?_
 have hHx:=YO hE1 hf;rw[hfq] at hHx;refine bA (hHx) ac rfl (by simp[af,V.low]) hE1.sane ?_;rintro _ K3 H3 hC3 hl3 ⟨hb,rfl,rfl,rfl,hh3⟩;have hE3:=hE1.call hC3 fun _ h=>h.elim
 have hN3:=hN1.offF hC3;have hKh:=hE1.fresh _ (aH _);simp -implicitDefEqProofs only[go_sem,seval];repeat refine aI ?_
 have hlh:=aU hh3;have hbx:=(hE3.start (fun _=>False)).boxed (zs:=[.i64 0,.u32 0#32,.str [],.i64 0,.i64 0,.i64 0]) (ys:=[.i64 f.su,.u32 f.id,.str (aK f.own),.i64 f.sec,.i64 f.nano,.i64 f.best]) (by simp[af,V.low]) (by simp[af,V.low]);have hD4:=hE3.boxed (zs:=[.i64 0,.u32 0#32,.str [],.i64 0,.i64 0,.i64 0]) (ys:=[.i64 f.su,.u32 f.id,.str (aK f.own),.i64 f.sec,.i64 f.nano,.i64 f.best]) (by simp[af,V.low]) (by simp[af,V.low]);have hh4:=(lc (x:=bK [.i64 0,.u32 0#32,.str [],.i64 0,.i64 0,.i64 0]) (y:=bK [.i64 f.su,.u32 f.id,.str (aK f.own),.i64 f.sec,.i64 f.nano,.i64 f.best]) hlh).trans hh3;have hb4:=lF (H:=H3) (x:=bK [.i64 0,.u32 0#32,.str [],.i64 0,.i64 0,.i64 0]) (y:=bK [.i64 f.su,.u32 f.id,.str (aK f.own),.i64 f.sec,.i64 f.nano,.i64 f.best]);have hlM:((H3++[bK [.i64 0,.u32 0#32,.str [],.i64 0,.i64 0,.i64 0]]).set H3.length (bK [.i64 f.su,.u32 f.id,.str (aK f.own),.i64 f.sec,.i64 f.nano,.i64 f.best])).length=H3.length+1:=ae;generalize ((H3++[bK [.i64 0,.u32 0#32,.str [],.i64 0,.i64 0,.i64 0]]).set H3.length (bK [.i64 f.su,.u32 f.id,.str (aK f.own),.i64 f.sec,.i64 f.nano,.i64 f.best]))=M at*;intro hm3;have hqn:=hE3.fresh _ (aH _);have hNM:=hN3.offF hbx;refine ld ac (by show H0.length<=M.length;omega) (ak ?_);simp -implicitDefEqProofs only[go_sem,seval];intro hm4;exact abF (R:=R) (fr:=fr) hD4 hNM ⟨ho.D,ho.Ps,hTo,ho.num⟩ hn hp8 hf hb4 hqn hh4 hKh aa (by simp -implicitDefEqProofs only[go_sem,seval,h0]) (by simp -implicitDefEqProofs only[go_sem,seval,h1]) (by simp -implicitDefEqProofs only[go_sem,seval]) (by simp -implicitDefEqProofs only[go_sem,seval]) (hc:=rfl) (by show H0.length<=M.length;omega) hR
theorem Zk (N:NoS)(f:FiP)(m:List ai)(fr:BitVec 32):mo N f m fr=if N.D.busy=true/\¬ ik (gV N.D.secret fr N.D.now) (f.text++bX N.D.pub f.text) 16=m then
  (14,{N with D:=({N.D with fresh:=N.D.fresh+1#64}:DeS).goes fr (dj N.D.pub (N.D.keyV.take 24) (gV N.D.secret fr N.D.now) f.text (bX N.D.pub f.text))}) else xL N f fr:=by
 unfold mo xL yr;rfl
theorem YU (hC:Cx K0 H0 Q0 K H)(hN:NodeAt K H j c N)(ho:N.ok n)(hn:n<=900000000)(hp8:N.Ps.length<=8)(hf:f.ok)(hfq:f.q=N.D.own)(m:List ai)(hm16:m.length=16)(fr:BitVec 32):
  ∃ v K' H',Dx prog 69 [.ptr c.d 0,.u32 fr,.str (f.text++bX N.D.pub f.text++m)] K H (qD j) v K' H'/\(v= .i64 (mo N f m fr).1/\NodeAt K' H' j c (mo N f m fr).2):=by
 obtain⟨out,got,hD⟩:=hN.dev;have hg:=hD.g;unfold DeS.cs at hg;have hld:=hC.lt hD.kd;have hpl:N.D.pub.length=32:=by rw[ho.D.pub,cB]
 have hft:=FiP.text_length hf;have hml:=vK N.D.pub f.text aa aa;have hck:=DR fr N.D.now ho.D.secret;have hCh:=GH N.D.pub (gV N.D.secret fr N.D.now) f.text m hpl hck aa hm16;have hcx:=Hz hC hD ho.D fr;generalize hRe:mo N f m fr=R;rw[Zk] at hRe;have hR6:=fun(t:List (Nat×V))=>Rj (K0:=K) (H0:=H) (Q:=qD j) (t:=t) (hC.start (qD j)) hD ho.D f.text (bX N.D.pub f.text) m aa aa hml hm16 (gV N.D.secret fr N.D.now) hck
 generalize hbb:decide (ik (gV N.D.secret fr N.D.now) (f.text++bX N.D.pub f.text) 16=m)=pr at*;generalize dj N.D.pub (N.D.keyV.take 24) (gV N.D.secret fr N.D.now) f.text (bX N.D.pub f.text)=rp at*;have hbb2:(¬ ik (gV N.D.secret fr N.D.now) (f.text++bX N.D.pub f.text) 16=m)↔pr=false:=by rw[<-hbb];simp
 have hRe2:(N.D.busy=true/\pr=false->R=(14,{N with D:=({N.D with fresh:=N.D.fresh+1#64}:DeS).goes fr rp}))/\(¬ (N.D.busy=true/\pr=false)->xL N f fr=R):=
  ⟨fun h=>by rw[if_pos ⟨h.1,hbb2.2 h.2⟩] at hRe;exact hRe.symm,fun h=>by rw[if_neg (fun h2=>h ⟨h2.1,hbb2.1 h2.2⟩)] at hRe;exact hRe⟩
 clear hbb hbb2 hRe;generalize f.text++bX N.D.pub f.text++m=msg at*;generalize gV N.D.secret fr N.D.now=ck at*;have hC0:=hC.start (qD j);refine agW (Q:=qD j) (Post:=fun v K' H'=>v= .i64 R.1/\NodeAt K' H' j c R.2) (fn:=f69) func69 rfl am ?_;refine ld ac (aH _) (ak ?_);simp -implicitDefEqProofs only[go_sem,seval];intro _;refine ld ac (aH _) (ak ?_);simp -implicitDefEqProofs only[go_sem,seval];repeat refine aI ?_
 refine bA (hcx) ac rfl (by simp[af,V.low,hld]) hC.sane ?_;rintro _ K1 H1 hC1 hl1 ⟨rfl,rfl,rfl⟩;simp -implicitDefEqProofs only[go_sem,seval];intro hm1;refine ld ac (aH _) (ak ?_);simp -implicitDefEqProofs only[go_sem,seval,hg];repeat refine aI ?_
 refine au (hCh) ?_;simp -implicitDefEqProofs only[go_sem,seval];intro hm2;refine ld ac (aH _) (ak ?_);simp -implicitDefEqProofs only[go_sem,seval,ne_eq,not_true,decide_false];intro hm3;refine wA (K:=fun s'=>H1.length<=s'.H.length->GP _ _ _ _ _ s') ?_ (fun s' q1 q2=>q2 q1);refine ld ac (aH _) (ak ?_);simp -implicitDefEqProofs only[go_sem,seval,hg];repeat refine aI ?_
 have hB:=hRe2.2;cases hbu:N.D.busy
 ·simp -implicitDefEqProofs only[go_sem,seval,ct];intro hm4;refine BM (b:=false) (by simp -implicitDefEqProofs only[go_sem,seval]) (ve ac (aH _) ?_);simp only[ct,if_false];refine ak ?_;simp -implicitDefEqProofs only[go_sem];intro hm5;exact Fe (R:=R) (fr:=fr) hC0 hN ho hn hp8 hf hfq (by simp -implicitDefEqProofs only[go_sem,seval]) (by simp -implicitDefEqProofs only[go_sem,seval]) (by simp -implicitDefEqProofs only[go_sem,seval]) (hc:=rfl) (aH _) (hB (by rw[hbu];simp))
 cases pr
 rotate_left
 ·simp -implicitDefEqProofs only[go_sem,seval,jI];intro hm4;refine BM (b:=false) (by simp -implicitDefEqProofs only[go_sem,seval]) (ve ac (aH _) ?_);simp only[ct,if_false];refine ak ?_;simp -implicitDefEqProofs only[go_sem];intro hm5;exact Fe (R:=R) (fr:=fr) hC0 hN ho hn hp8 hf hfq (by simp -implicitDefEqProofs only[go_sem,seval]) (by simp -implicitDefEqProofs only[go_sem,seval]) (by simp -implicitDefEqProofs only[go_sem,seval]) (hc:=rfl) (aH _) (hB ae)
 have hRR:=hRe2.1 ⟨hbu,rfl⟩;subst hRR;simp -implicitDefEqProofs only[go_sem,seval,qY];intro hm4;refine BM (b:=true) (by simp -implicitDefEqProofs only[go_sem,seval]) ?_;simp only[if_true];refine wA (K:=fun s'=>H1.length<=s'.H.length->GP _ _ _ _ _ s') ?_ (fun s' q1 q2=>q2 q1);refine wA (K:=fun s'=>H1.length<=s'.H.length->GP _ _ _ _ _ s') ?_ (fun s' q1 q2=>q2 q1);refine hR6 _ (by simp -implicitDefEqProofs only[go_sem,seval]) (by simp -implicitDefEqProofs only[go_sem,seval]) (by simp -implicitDefEqProofs only[go_sem,seval]) (hc:=rfl) (aH _) ?_;intro H2 t1 hC2 hD2 e0 e1 e11 e12 hm5;have hN2:=hN.devJ hC2 ⟨_,_,hD2⟩;simp -implicitDefEqProofs only[go_sem,seval] at e1;refine ve ac hm5 (ak ?_);simp -implicitDefEqProofs only[go_sem,seval,e0,e1,e11,e12];repeat refine aI ?_
 have hE2:=hC0.call hC2 fun r h=>by subst h;exact rfl
 refine bA (yZ hE2 hD2 fr rp (by have :=ho.D.out;show N.D.out.length<=_;omega)) ac rfl (by simp[af,V.low,hE2.lt hD2.kd]) hE2.sane ?_;rintro _ K7 H7 hC7 hl7 ⟨rfl,hD7⟩;have hN7:=hN2.devO hC7 hD7;have hE7:=hE2.call hC7 fun r h=>re (i:=0) _ (zm _ h)
 simp -implicitDefEqProofs only[go_sem];intro hm6;refine ve ac hm6 (ak ?_);simp -implicitDefEqProofs only[go_sem,seval];exact Ex.of hE7 trivial ⟨rfl,hN7⟩
end
end
section
inductive Msg where
 |first(f:FiP) (pub m:List ai)
 |second (g:SeP) (pub m:List ai)
 |reply (u nonce ck x b:List ai) (id:BitVec 32)
 |data (id:BitVec 32) (k:Int) (z:List ai)
noncomputable def Msg.text:Msg->List ai
 | .first f pub m=>f.text++bX pub f.text++m
 | .second g pub m=>g.text++bX pub g.text++m
 | .reply u a ck x b _=>dj u a ck x b
 | .data id k z=>cY id k z
def Msg.fits (N:NoS):Msg->Prop
 | .first f pub m=>f.ok/\f.q=N.D.own/\pub=N.D.pub/\m.length=16
 | .second g pub m=>g.ok/\pub=N.D.pub/\m.length=16/\∀ i P,N.Ps.findIdx? (gM g.f.id)=some i->N.Ps[i]?=some P->P.bg=some g.f/\P.psk=g.psk
 | .reply u d ck x b id=>u.length=32/\d.length=24/\ck.length=16/\6<=x.length/\x.length<=1000000/\b.length=16/\List.drop 2 (List.take 6 x)=cW id/\∀ i P,N.Ps.findIdx? (gM id)=some i->N.Ps[i]?=some P->P.pub=u/\∃ m:List ai,m.length=16/\P.bt=x++b++m
 | .data _ k z=>(0<=k/\k<=1099511627776)/\16<=z.length/\z.length<=1000000
noncomputable def vi (N:NoS) (F:BitVec 32->Int×Bool) (fr:BitVec 32):Msg->Int×NoS
 | .first f _ m=>mo N f m fr
 | .second g _ _=>nr N g fr
 | .reply _ _ ck _ _ id=>ns N id ck
 | .data id k z=>mR N F id k z fr
section
variable {K K0 K':RK}{H H0 H':List (Option Blk)}{Q0 Q:Rl->Prop}{j n:Nat}{c:NoK}{N:NoS}
theorem R2 (hC:Cx K0 H0 Q0 K H)(hN:NodeAt K H j c N)(ho:N.ok n)(hn:n<=900000000)(hp8:N.Ps.length<=8)(M:Msg)(hM:M.fits N)(fr:BitVec 32):
  ∃ v K' H',Dx prog 50 [.ptr c.d 0,.u32 fr,.str M.text] K H (qD j) v K' H'/\(v= .i64 (vi N c.F fr M).1/\NodeAt K' H' j c (vi N c.F fr M).2):=by
 have hld:c.d<H.length:=by obtain⟨_,_,hD⟩:=hN.dev;exact hC.lt hD.kd
 have hJ:=(hC.start (fun _=>False)).boxed (zs:=[.nilFn,.nilFn,.nilFn,.nilFn,.nilFn]) (ys:=[.nilFn,.fn 69 [] [],.fn 70 [] [],.fn 71 [] [],.fn 72 [] []]) (by simp[af,V.low]) (by simp[af,V.low]);have hlM:((H++[bK [.nilFn,.nilFn,.nilFn,.nilFn,.nilFn]]).set H.length (bK [.nilFn,.fn 69 [] [],.fn 70 [] [],.fn 71 [] [],.fn 72 [] []])).length=H.length+1:=ae;have hNJ:=hN.offF hJ;have hld2:c.d<H.length+1:=aa;have hQ:=hJ.mono (Q2:=qD j) fun _ h=>h.elim
 match M,hM with
 | .first f pub m,⟨hf,hfq,hpu,hm⟩=>
  subst hpu;have e0:((f.text++bX N.D.pub f.text++m).getD 0 0).toNat=1:=rfl;have hne:f.text++bX N.D.pub f.text++m≠[]:=fun e=>by rw[e] at e0;cases e0
  have hx2:(0:Int)<(f.text++bX N.D.pub f.text++m).length:=by have :=rH.2 hne;omega
  have hX:=YU hJ hNJ ho hn hp8 hf hfq m hm fr;show ∃ v K' H',Dx prog 50 [.ptr c.d 0,.u32 fr,.str (f.text++bX N.D.pub f.text++m)] K H (qD j) v K' H'/\(v= .i64 (mo N f m fr).1/\NodeAt K' H' j c (mo N f m fr).2);generalize f.text++bX N.D.pub f.text++m=x at*;refine bV (Q:=qD j) (Post:=fun v K' H'=>v= .i64 (mo N f m fr).1/\NodeAt K' H' j c (mo N f m fr).2) ac (fn:=f50) func50 rfl am (ak ?_);simp -implicitDefEqProofs only[go_sem,↓reduceIte,Nat.reduceEqDiff,Nat.reduceLT,Nat.reduceLeDiff,Nat.reduceAdd,Int.reduceToNat,reduceCtorEq,hne];repeat refine aI ?_
  simp -implicitDefEqProofs only[go_sem,↓reduceIte,Nat.reduceEqDiff,Nat.reduceLT,Nat.reduceAdd,Int.reduceLE,Int.reduceLT,Int.reduceToNat,reduceCtorEq,hx2,e0,lF];repeat refine aI ?_
  refine bA (hX) ac rfl (by simp[af,V.low,hld2]) hJ.sane ?_;rintro _ K1 H1 hC1 hl1 ⟨rfl,hN1⟩;simp -implicitDefEqProofs only[go_sem,↓reduceIte,Nat.reduceLT];exact Ex.of (hQ.call hC1 fun _ h=>h) trivial ⟨rfl,hN1⟩
 | .second g pub m,⟨hg,hpu,hm,hmt⟩=>
  subst hpu;have e0:((g.text++bX N.D.pub g.text++m).getD 0 0).toNat=2:=rfl;have hne:g.text++bX N.D.pub g.text++m≠[]:=fun e=>by rw[e] at e0;cases e0
  have hx2:(0:Int)<(g.text++bX N.D.pub g.text++m).length:=by have :=rH.2 hne;omega
  have hX:=agR hJ hNJ ho hn hp8 hg m hm fr hmt;show ∃ v K' H',Dx prog 50 [.ptr c.d 0,.u32 fr,.str (g.text++bX N.D.pub g.text++m)] K H (qD j) v K' H'/\(v= .i64 (nr N g fr).1/\NodeAt K' H' j c (nr N g fr).2);generalize g.text++bX N.D.pub g.text++m=x at*;refine bV (Q:=qD j) (Post:=fun v K' H'=>v= .i64 (nr N g fr).1/\NodeAt K' H' j c (nr N g fr).2) ac (fn:=f50) func50 rfl am (ak ?_);simp -implicitDefEqProofs only[go_sem,↓reduceIte,Nat.reduceEqDiff,Nat.reduceLT,Nat.reduceLeDiff,Nat.reduceAdd,Int.reduceToNat,reduceCtorEq,hne];repeat refine aI ?_
  simp -implicitDefEqProofs only[go_sem,↓reduceIte,Nat.reduceEqDiff,Nat.reduceLT,Nat.reduceAdd,Int.reduceLE,Int.reduceLT,Int.reduceToNat,reduceCtorEq,hx2,e0,lF];repeat refine aI ?_
  refine bA (hX) ac rfl (by simp[af,V.low,hld2]) hJ.sane ?_;rintro _ K1 H1 hC1 hl1 ⟨rfl,hN1⟩;simp -implicitDefEqProofs only[go_sem,↓reduceIte,Nat.reduceLT];exact Ex.of (hQ.call hC1 fun _ h=>h) trivial ⟨rfl,hN1⟩
 | .reply u nonce ck x b id,⟨h1,h2,h3,h4,h5,h6,h7,h8⟩=>
  have e0:((dj u nonce ck x b).getD 0 0).toNat=3:=rfl;have hne:dj u nonce ck x b≠[]:=fun e=>by rw[e] at e0;cases e0
  have hx2:(0:Int)<(dj u nonce ck x b).length:=by have :=rH.2 hne;omega
  have hX:=aeP hJ hNJ ho hp8 u nonce ck x b h1 h2 h3 h4 h5 h6 id h7 fr h8;show ∃ v K' H',Dx prog 50 [.ptr c.d 0,.u32 fr,.str (dj u nonce ck x b)] K H (qD j) v K' H'/\(v= .i64 (ns N id ck).1/\NodeAt K' H' j c (ns N id ck).2);generalize dj u nonce ck x b=y at*;refine bV (Q:=qD j) (Post:=fun v K' H'=>v= .i64 (ns N id ck).1/\NodeAt K' H' j c (ns N id ck).2) ac (fn:=f50) func50 rfl am (ak ?_);simp -implicitDefEqProofs only[go_sem,↓reduceIte,Nat.reduceEqDiff,Nat.reduceLT,Nat.reduceLeDiff,Nat.reduceAdd,Int.reduceToNat,reduceCtorEq,hne];repeat refine aI ?_
  simp -implicitDefEqProofs only[go_sem,↓reduceIte,Nat.reduceEqDiff,Nat.reduceLT,Nat.reduceAdd,Int.reduceLE,Int.reduceLT,Int.reduceToNat,reduceCtorEq,hx2,e0,lF];repeat refine aI ?_
  refine bA (hX) ac rfl (by simp[af,V.low,hld2]) hJ.sane ?_;rintro _ K1 H1 hC1 hl1 ⟨rfl,hN1⟩;simp -implicitDefEqProofs only[go_sem,↓reduceIte,Nat.reduceLT];exact Ex.of (hQ.call hC1 fun _ h=>h) trivial ⟨rfl,hN1⟩
 | .data id k z,⟨h1,h2,h3⟩=>
  have e0:((cY id k z).getD 0 0).toNat=4:=rfl;have hne:cY id k z≠[]:=fun e=>by rw[e] at e0;cases e0
  have hx2:(0:Int)<(cY id k z).length:=by have :=rH.2 hne;omega
  have hX:=PA hJ hNJ ho hn hp8 id k h1 z ⟨h2,h3⟩ fr;show ∃ v K' H',Dx prog 50 [.ptr c.d 0,.u32 fr,.str (cY id k z)] K H (qD j) v K' H'/\(v= .i64 (mR N c.F id k z fr).1/\NodeAt K' H' j c (mR N c.F id k z fr).2);generalize cY id k z=y at*;refine bV (Q:=qD j) (Post:=fun v K' H'=>v= .i64 (mR N c.F id k z fr).1/\NodeAt K' H' j c (mR N c.F id k z fr).2) ac (fn:=f50) func50 rfl am (ak ?_);simp -implicitDefEqProofs only[go_sem,↓reduceIte,Nat.reduceEqDiff,Nat.reduceLT,Nat.reduceLeDiff,Nat.reduceAdd,Int.reduceToNat,reduceCtorEq,hne];repeat refine aI ?_
  simp -implicitDefEqProofs only[go_sem,↓reduceIte,Nat.reduceEqDiff,Nat.reduceLT,Nat.reduceAdd,Int.reduceLE,Int.reduceLT,Int.reduceToNat,reduceCtorEq,hx2,e0,lF];repeat refine aI ?_
  refine bA (hX) ac rfl (by simp[af,V.low,hld2]) hJ.sane ?_;rintro _ K1 H1 hC1 hl1 ⟨rfl,hN1⟩;simp -implicitDefEqProofs only[go_sem,↓reduceIte,Nat.reduceLT];exact Ex.of (hQ.call hC1 fun _ h=>h) trivial ⟨rfl,hN1⟩
end
end
section
structure LnK where
 l:Nat
 na:Nat
 xs:List Nat
 cs:List NoK
structure LnS where
 N:List NoS
 air:List Gr
 all:List (List Pk)
def AirX (K:RK)(H:List (Option Blk))(v:V)(air:List Gr):Prop:=(v= .nilSlice/\air=[])\/∃ a,v= .slice a 0 air.length 3/\K a=some .air/\ag H a=bK (cg air)
def NdAt (K:RK)(H:List (Option Blk))(j x:Nat)(c:NoK)(N:NoS)(all:List Pk):Prop:=∃ v,K x=some (.node j)/\ag H x=bK [.ptr c.d 0,v]/\RwAt K H (.all j) v all.length (cS all)/\NodeAt K H j c N
structure LnAt (K:RK) (H:List (Option Blk)) (k:LnK) (L:LnS):Prop where
 kl:K k.l=some .link
 ka:K k.na=some .nodes
 gl:∃ v,ag H k.l=bK [.slice k.na 0 k.xs.length 1,v]/\AirX K H v L.air
 ga:ag H k.na=bK (k.xs.map (fun x=> .ptr x 0))
 l1:k.cs.length=k.xs.length
 l2:L.N.length=k.xs.length
 l3:L.all.length=k.xs.length
 nd:∀ j (_:j<k.xs.length) (h1:j<k.cs.length) (h2:j<L.N.length) (h3:j<L.all.length),NdAt K H j k.xs[j] k.cs[j] L.N[j] L.all[j]
section
variable {K K0 K':RK}{H H0 H':List (Option Blk)}{Q0 Q:Rl->Prop}{i j j' n x:Nat}{c:NoK}{N N':NoS}{k:LnK}{L:LnS}{v:V}{air:List Gr}{all:List Pk}
theorem AirX.off (h:AirX K H v air)(b:Off Q K H K' H')(d:¬ Q .air):AirX K' H' v air:=by
 rcases h with h|⟨a,h1,h2,e⟩
 ·exact .inl h
 ·exact .inr ⟨a,h1,b.k _ _ h2 d,(b.h _ _ h2 d).trans e⟩
structure NoD (Q:Rl->Prop) (j:Nat):Prop where
 d:¬ Q (.dev j)/\¬ Q (.parr j)/\¬ Q (.out j)/\¬ Q (.got j)/\¬ Q (.bk j)/\¬ Q (.bm j)/\¬ Q (.path j)
 p:∀ i,¬ Q (.peer j i)/\¬ Q (.tm j i)/\¬ Q (.wt j i)/\¬ Q (.bg j i)/\¬ Q (.ses j i)/\∀ a,¬ Q (.pair j i a)/\¬ Q (.win j i a)
theorem NodeAt.off (h:NodeAt K H j c N)(a:Off Q K H K' H')(e:H.length<=H'.length)(b:NoD Q j):NodeAt K' H' j c N:=by
 obtain⟨d1,d2,d3,d4,d5,d6,d7⟩:=b.d;refine⟨?_,h.len,fun i h1 h2=>?_,h.bkt.off a d5 d6,h.pth.off a e d7⟩
 ·obtain⟨_,_,f⟩:=h.dev;exact⟨_,_,f.off a d1 d2 d3 d4⟩
 ·obtain⟨g,p2,p3,l,p5,m⟩:=b.p i;exact(h.peer i h1 h2).off a g p2 p3 l p5 m
theorem NdAt.off (h:NdAt K H j x c N all)(a:Off Q K H K' H')(b:H.length<=H'.length)(h1:¬ Q (.node j))(h2:¬ Q (.all j))(d:NoD Q j):NdAt K' H' j x c N all:=by
 obtain⟨v,g1,g2,g3,g4⟩:=h;exact⟨v,a.k _ _ g1 h1,(a.h _ _ g1 h1).trans g2,g3.off a h2,g4.off a b d⟩
theorem nX:NoD (fun _=>False) j:=⟨⟨id,id,id,id,id,id,id⟩,fun _=>⟨id,id,id,id,id,fun _=>⟨id,id⟩⟩⟩
theorem Ku (h:j≠j'):NoD (qD j') j:=⟨⟨h,h,h,h,h,h,h⟩,fun _=>⟨h,h,h,h,h,fun _=>⟨h,h⟩⟩⟩
theorem LnAt.offF (h:LnAt K H k L)(d:Cx K H (fun _=>False) K' H'):LnAt K' H' k L:=by
 have b:=d.off;obtain⟨v,g1,g2⟩:=h.gl;exact⟨b.k _ _ h.kl id,b.k _ _ h.ka id,⟨v,(b.h _ _ h.kl id).trans g1,g2.off b id⟩,(b.h _ _ h.ka id).trans h.ga,h.l1,h.l2,h.l3,fun j a h1 h2 e=>(h.nd j a h1 h2 e).off b d.len id id nX⟩
theorem LnAt.one (h:LnAt K H k L)(g:Cx K H (qD j) K' H')(t:j<k.xs.length)(o:j<k.cs.length)(p:NodeAt K' H' j k.cs[j] N'):LnAt K' H' k {L with N:=L.N.set j N'}:=by
 have b:=g.off;obtain⟨v,g1,g2⟩:=h.gl;have q:=h.l2;refine⟨b.k _ _ h.kl id,b.k _ _ h.ka id,⟨v,(b.h _ _ h.kl id).trans g1,g2.off b id⟩,(b.h _ _ h.ka id).trans h.ga,h.l1,by show(L.N.set j N').length=_;rw[aY];exact h.l2,h.l3,fun j' a h1 h2 l=>?_⟩;have d:j'<L.N.length:=aa;show NdAt K' H' j' k.xs[j'] k.cs[j'] ((L.N.set j N')[j']'(by rw[aY];exact d)) L.all[j'];by_cases e:j'=j
 ·subst e;rw[sR];obtain⟨v,m,r,s,u⟩:=h.nd j' a h1 d l;exact⟨v,b.k _ _ m id,(b.h _ _ m id).trans r,s.off b id,p⟩
 ·rw[uT (fun h=>e h.symm)];exact(h.nd j' a h1 d l).off b g.len id id (Ku e)
theorem En (b:Cx K0 H0 Q0 K H)(a:LnAt K H k L)(n:Int):
  ∃ v K' H',Dx prog 21 [.ptr k.l 0,.i64 n] K H (fun _=>False) v K' H'/\(v=jh k.xs (if n<0\/(k.xs.length:Int)<=n then none else some n.toNat)/\K'=K/\H'=H):=by
 obtain⟨av,m,-⟩:=a.gl;have e:=a.ga;refine bV (Q:=fun _=>False) (Post:=fun v K' H'=>v=jh k.xs (if n<0\/(k.xs.length:Int)<=n then none else some n.toNat)/\K'=K/\H'=H) ac (fn:=f21) func21 rfl am (ak ?_);simp -implicitDefEqProofs only[go_sem,seval,m];repeat refine aI ?_
 by_cases h1:n<0
 ·simp -implicitDefEqProofs only[go_sem,seval,h1,decide_true];repeat refine aI ?_
  exact Ex.of (b.start _) trivial ⟨by simp;rfl,rfl,rfl⟩
 by_cases h2:(k.xs.length:Int)<=n
 ·simp -implicitDefEqProofs only[go_sem,seval,h1,h2,decide_true,decide_false];repeat refine aI ?_
  exact Ex.of (b.start _) trivial ⟨by simp;rfl,rfl,rfl⟩
 obtain⟨i,rfl⟩:∃ i:Nat,n=(i:Int):=⟨n.toNat,aa⟩;have d:i<k.xs.length:=aa;have f:(i:Int)<k.xs.length:=aa;have g:(0:Int)<=(i:Int):=aa;have o:(k.xs.map (fun p=>V.ptr p 0)).getD i .junk= .ptr k.xs[i] 0:=by
  rw[aW,ci,aF d];rfl
 have q:=a.l1;have r:=a.l2;have s:=a.l3;obtain⟨_,h,-,-,-⟩:=a.nd i d aa aa aa;simp -implicitDefEqProofs only[go_sem,seval,h1,h2,f,g,decide_false,m,e,o,ba];repeat refine aI ?_
 refine Ex.of (b.start _) (b.lt h) ⟨?_,rfl,rfl⟩;first
  |exact(lp d).symm
  |rw[if_neg aa,cT,lp d]
end
end
end Go.Vm
end
