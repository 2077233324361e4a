/- Proved: laws of a machine of values, or what a function answers; no conditions but each theorem's own. -/
import Derived.Below
import Derived.Test.YtgnnehmeciepaaaGreatDoorVmXToVmQ
import Derived.Test.YtgnnehmeciepaaaGreatDoorVmZToVmS
set_option linter.unusedVariables false
set_option linter.unusedSimpArgs false
set_option linter.unusedSectionVars false
set_option maxRecDepth 20000
set_option maxHeartbeats 8000000
section
namespace Go.Vm
section
open Go.RowKit
def lH:List (Option Blk)→Prop
 |[]=>True
 |none::_=>False
 |some _::l=>lH l
def gm:List (Option Blk)→Prop
 |[]=>True
 |none::l=>gm l
 |some B::l=>B.ro=false∧gm l
theorem yE:∀ {l:List (Option Blk)},lH l→∀ b,b<l.length→∃ B,ab l b=some B
 |none::_,h,_,_=>h.elim
 |some B::l,h,0,_=>⟨B,rfl⟩
 |some B::l,h,b+1,hb=>by
  obtain⟨C,hC⟩:=yE (l:=l) h b (by simpa using hb)
  exact⟨C,by simpa [ab] using hC⟩
theorem vv:∀ {l:List (Option Blk)},gm l→∀ (b:Nat) B,ab l b=some B→B.ro=false
 |[],_,b,B,h=>by simp[ab] at h
 |none::l,hl,0,B,h=>by simp[ab] at h
 |none::l,hl,b+1,B,h=>vv (l:=l) hl b B (by simpa [ab] using h)
 |some C::l,hl,0,B,h=>by simp[ab] at h;subst h;exact hl.1
 |some C::l,hl,b+1,B,h=>vv (l:=l) hl.2 b B (by simpa [ab] using h)
theorem zl {l:List (Option Blk)}{k:Nat}(h:gm (l.drop k))(b:Nat)(B:Blk)(e:ab l b=some B)(hk:k≤b):B.ro=false:=by
 refine vv h (b-k) B ?_
 unfold ab at e ⊢
 rw[List.getElem?_drop,show k+(b-k)=b by omega];exact e
section
variable {P:Program}{m n:Nat}{R:Exit→St→Prop}{k:List Fr}{s:St}{l:List Oper}{ops:Array Oper}{dst:Option Tmp}
variable {f:FuncId}{fs cs args args0:List V}{v:V}{h h':List (Option Blk)}
def dR (sg:List Nat)(nid:Nat)(v:V)(h':List (Option Blk)):Res:={v:=v.ren (ah (az sg nid h')),pre:=True,fp:=sg,old:=cZ (ah (az sg nid h')) sg h',news:=cu (ah (az sg nid h')) sg h'}
theorem vY (sg:List Nat)(hs:ag P f args0 h v h')(hc:cW P f=true)(ha:rens (ah sg) args0=fs++args++cs)(hlen:sg.length=h.length)(hlow:aa h.length args0)(hnd:sg.Nodup)
  (hsg:∀ b∈sg,b<s.H.length) (hall:lH h) (hblk:eu (ah sg) h.length s h 0) (hro:gm (h'.drop h.length)) (hle:h.length≤h'.length):VCall P (.fn f fs cs) args (ab s.H) s.H.length (dR sg s.H.length v h'):=
 .inl ⟨f,fs,cs,rfl,hc,trivial,by
  rw[←ha]
  exact EV hs hlen hlow hnd hsg (yE hall) (fun b B e=>by have :=nH hblk b B e;rw[Nat.zero_add] at this;exact this) (fun b B e hb=>zl hro b B e hb) hle⟩
theorem aq (sg:List Nat)(hs:ag P f args0 h v h')(hc:cW P f=true)(ha:rens (ah sg) args0=fs++args++cs)(hlen:sg.length=h.length)(hlow:aa h.length args0)(hnd:sg.Nodup)
  (hsg:∀ b∈sg,b<s.H.length) (hall:lH h) (hblk:eu (ah sg) h.length s h 0) (hro:gm (h'.drop h.length)) (hle:h.length≤h'.length)
  (hk:dW P m n R l ops k (s.after dst (dR sg s.H.length v h'))):jO P m n R (.fn f fs cs) args dst l ops k s:=
 ⟨_,vY sg hs hc ha hlen hlow hnd hsg hall hblk hro hle,hk⟩
theorem bh {tr:Tr}(sg:List Nat)(hs:ag P f args0 h v h')(hc:cW P f=true)(ha:rens (ah sg) args0=fs++args++cs)(hlen:sg.length=h.length)(hlow:aa h.length args0)(hnd:sg.Nodup)
  (hsg:∀ b∈sg,b<s.H.length) (hall:lH h) (hblk:eu (ah sg) h.length s h 0) (hro:gm (h'.drop h.length)) (hle:h.length≤h'.length)
  (hk:(∀ x∈(dR sg s.H.length v h').old,x.1<s.H.length)∧eN P m n R l (tr++[bc s (dR sg s.H.length v h')]) ops k (s.after dst (dR sg s.H.length v h'))):iN P m n R (.fn f fs cs) args dst l tr ops k s:=
 ⟨_,vY sg hs hc ha hlen hlow hnd hsg hall hblk hro hle,hk⟩
theorem Fin.ren (sg:List Nat){v':V}(hl:sg.length=h'.length)(hm:m≤sg.length)(hp:sg.take m=List.range m)(hnd:sg.Nodup)(hv:v'.ren (ah sg)=v∧v'.low h'.length)
  (hH:eu (ah sg) h'.length s h' 0):Fin m v' h' v s:=by
 obtain⟨rfl,hv⟩:=hv
 have hσm:∀ b,b<m→ah sg b=b:=fun b hb=>by
  unfold ah
  have h1:(sg.take m)[b]?=some b:=by rw[hp,List.getElem?_range hb]
  rw[List.getElem?_take_of_lt hb] at h1
  rw[List.getD_eq_getElem?_getD,h1];rfl
 have hinj:∀ b b',b<h'.length→b'<h'.length→b≠b'→ah sg b≠ah sg b':=fun b b' hb hb' hne e=>by
  have e1:=ef (sg:=sg) (b:=b) (by omega)
  have e2:=ef (sg:=sg) (b:=b') (by omega)
  rw[e] at e1
  rw[List.getElem?_eq_getElem (by omega)] at e1 e2
  exact hne ((List.getElem_inj hnd).1 (by rw[Option.some.inj e1,Option.some.inj e2]))
 have hg:∀ b B,ab h' b=some B→ab s.H (ah sg b)=some ⟨B.ro,rens (ah sg) B.cs,B.mp⟩∧aa h'.length B.cs:=fun b B e=>by have :=nH hH b B e;rw[Nat.zero_add] at this;exact this
 refine⟨by omega,fun ρ w r h1 h2 _=>⟨fun b=>ρ (ah sg b),h1.unren hv,?_,fun b hb=>by show ρ (ah sg b)=ρ b;rw[hσm b hb],fun b B e hr=>⟨_,_,(hg b B e).1,hr,rfl⟩⟩⟩
 refine⟨fun b B e=>aM e,fun b B e=>h2.lt _ _ (hg b B e).1,fun b b' B B' e e' hr hne=>h2.inj _ _ _ _ (hg b B e).1 (hg b' B' e').1 hr (hinj b b' (aM e) (aM e') hne),fun b B e i u hu=>?_,fun b B e hr i hi=>?_,fun b B mm e hmp=>mK (h2.mapc _ _ mm (hg b B e).1 hmp) (by show B.cs.length=(rens (ah sg) B.cs).length;rw[cX,List.length_map])⟩
 ·have h3:(rens (ah sg) B.cs)[i]?=some (u.ren (ah sg)):=by rw[cX,List.getElem?_map,hu];rfl
  obtain⟨r,g1,g2⟩:=h2.cell _ _ (hg b B e).1 i _ h3
  exact⟨r,g1,g2.unren (pR (hg b B e).2 hu)⟩
 ·exact h2.free _ _ (hg b B e).1 hr i (by show i<(rens (ah sg) B.cs).length;rw[cX,List.length_map];exact hi)
theorem xY (hc:cW P f=true)(ha:aa 0 args)(hb:v.low 0)
  (hs:∀ (w:World) (rargs:Array Value),VRs (fun _=>(0,0)) (fun _=>False) w args rargs.toList→Calls P f rargs w fun e w'=>∃ r,e= .returned r∧VR (fun _=>(0,0)) (fun _=>False) w' v r∧Below w.heap.size w w'):ao P f args v:=by
 refine qH hc ha fun ρ w rargs hr hm=>?_
 have hr':VRs (fun _=>(0,0)) (fun _=>False) w args rargs.toList:=hr.mono (fun b (hb:b<0)=>by omega) (fun b (hb:b<0)=>by omega) (Lasts.refl _)
 refine(hs w rargs hr').mono ?_
 rintro e w' ⟨r,rfl,h1,h2⟩
 have hcell:∀ p:Addr,p.block<w.heap.size→w'.cell? p=w.cell? p:=fun p hp=>h2.cell hp
 have hfroz:∀ p:Addr,p.block<w.heap.size→w'.frozen? p=w.frozen? p:=fun p hp=>h2.frozen hp
 refine⟨r,ρ,rfl,h1.mono (fun b hb=>hb.elim) (fun b hb=>hb.elim) (Lasts.refl _),⟨fun b B e=>by simp[ab] at e,fun b B e=>by simp[ab] at e,fun b b' B B' e=>by simp[ab] at e,fun b B e=>by simp[ab] at e,fun b B e=>by simp[ab] at e,fun b B mm e=>by simp[ab] at e⟩,Nat.le_refl _,fun _ _=>rfl,?_⟩
 refine⟨h2.os,h2.output,h2.tape,h2.size,fun r hr _=>h2.block r hr,fun b o hs=>?_,fun b B e=>by simp[ab] at e⟩
 have hlt:b<w.heap.size:=by
  obtain⟨u,hu⟩:=Option.isSome_iff_exists.1 hs
  exact World.block_lt_of_cell? (a:=⟨b,o,none⟩) w hu
 exact⟨by rw[hcell ⟨b,o,none⟩ hlt];exact hs,fun hf=>by rw[hfroz ⟨b,o,none⟩ hlt];exact hf⟩
end
theorem GH (σ:Nat→Nat)(i:Nat)(sg:List Nat)(x:Option Blk)(h:List (Option Blk)):cZ σ (i::sg) (x::h)=(i,db σ x)::cZ σ sg h:=by rw[cZ]
theorem HR (σ:Nat→Nat)(h:List (Option Blk)):cZ σ [] h=[]:=by unfold cZ;rfl
theorem fU (σ:Nat→Nat)(i:Nat)(sg:List Nat)(x:Option Blk)(h:List (Option Blk)):cu σ (i::sg) (x::h)=cu σ sg h:=rfl
theorem fX (σ:Nat→Nat)(h:List (Option Blk)):cu σ [] h=h.map (db σ):=rfl
theorem ge (σ:Nat→Nat)(ro:Bool)(cs:List V)(mp:Option MapC):db σ (some ⟨ro,cs,mp⟩)=some ⟨ro,rens σ cs,mp⟩:=rfl
theorem vw (σ:Nat→Nat):db σ none=none:=rfl
theorem Ad (i:Nat)(l:List Nat):ah (i::l) 0=i:=rfl
theorem Ae (i:Nat)(l:List Nat)(b:Nat):ah (i::l) (b+1)=ah l b:=rfl
theorem zm (σ:Nat→Nat)(N:Nat)(s:St)(i:Nat):eu σ N s [] i=True:=rfl
theorem yF (σ:Nat→Nat)(N:Nat)(s:St)(l:List (Option Blk))(i:Nat):eu σ N s (none::l) i=eu σ N s l (i+1):=rfl
theorem yG (σ:Nat→Nat)(N:Nat)(s:St)(B:Blk)(l:List (Option Blk))(i:Nat):eu σ N s (some B::l) i=((ab s.H (σ i)=some ⟨B.ro,rens σ B.cs,B.mp⟩∧aa N B.cs)∧eu σ N s l (i+1)):=rfl
theorem pU {α:Type}(σ:Nat→Nat)(mk:α→V)(hmk:∀ x,(mk x).ren σ=mk x)(l:List α):rens σ (l.map mk)=l.map mk:=by
 rw[cX,List.map_map];exact List.map_congr_left fun x _=>hmk x
theorem pV {α:Type}(N:Nat)(mk:α→V)(hmk:∀ x,(mk x).low N)(l:List α):aa N (l.map mk):=by
 induction l with
 |nil=>trivial
 |cons x l ih=>exact⟨hmk x,ih⟩
theorem Ch (σ:Nat→Nat)(l:List (BitVec 8)):rens σ (l.map .u8)=l.map .u8:=pU σ _ (fun _=>by unfold V.ren;rfl) l
theorem Bi (σ:Nat→Nat)(l:List (BitVec 32)):rens σ (l.map .u32)=l.map .u32:=pU σ _ (fun _=>by unfold V.ren;rfl) l
theorem Bj (σ:Nat→Nat)(l:List (BitVec 64)):rens σ (l.map .u64)=l.map .u64:=pU σ _ (fun _=>by unfold V.ren;rfl) l
theorem Bk (σ:Nat→Nat)(l:List Int):rens σ (l.map .i64)=l.map .i64:=pU σ _ (fun _=>by unfold V.ren;rfl) l
theorem Bl (σ:Nat→Nat)(l:List (List (BitVec 8))):rens σ (l.map .str)=l.map .str:=pU σ _ (fun _=>by unfold V.ren;rfl) l
theorem Ci (N:Nat)(l:List (BitVec 8)):aa N (l.map .u8)=True:=eq_true (pV N _ (fun _=>by simp[V.low]) l)
theorem pW (N:Nat)(l:List (BitVec 32)):aa N (l.map .u32)=True:=eq_true (pV N _ (fun _=>by simp[V.low]) l)
theorem iM (N:Nat)(l:List (BitVec 64)):aa N (l.map .u64)=True:=eq_true (pV N _ (fun _=>by simp[V.low]) l)
theorem Bm (N:Nat)(l:List Int):aa N (l.map .i64)=True:=eq_true (pV N _ (fun _=>by simp[V.low]) l)
theorem Bn (N:Nat)(l:List (List (BitVec 8))):aa N (l.map .str)=True:=eq_true (pV N _ (fun _=>by simp[V.low]) l)
attribute [go_sem] dR GH HR fU fX ge vw Ad Ae az Ch Bi Bj Bk Bl Ci pW iM Bm Bn V.ren rens lH gm zm yF yG List.range'_succ
theorem mt (σ:Nat→Nat)(a b:List V):rens σ (a++b)=rens σ a++rens σ b:=by rw[cX,cX,cX,List.map_append]
theorem jH (N:Nat):∀ a b:List V,aa N (a++b)=(aa N a∧aa N b)
 |[],b=>by simp[aa]
 |x::a,b=>by rw[List.cons_append,aa,jH N a b,aa,and_assoc]
theorem Rh:((some true:Option Bool)==some true)=true:=rfl
theorem Ri:((some true:Option Bool)==some false)=false:=rfl
theorem Rj:((some false:Option Bool)==some true)=false:=rfl
theorem Rk:((some false:Option Bool)==some false)=true:=rfl
attribute [go_sem] sv lY Rh Ri Rj Rk
theorem lv {s:List (BitVec 32)}{i:Nat}(h:i<s.length):(s.map V.u32).getD i .junk= .u32 (s.getD i 0):=by
 rw[List.getD_eq_getElem?_getD,List.getD_eq_getElem?_getD,List.getElem?_map,List.getElem?_eq_getElem h];rfl
theorem dQ {s:List (BitVec 64)}{i:Nat}(h:i<s.length):(s.map V.u64).getD i .junk= .u64 (s.getD i 0):=by
 rw[List.getD_eq_getElem?_getD,List.getD_eq_getElem?_getD,List.getElem?_map,List.getElem?_eq_getElem h];rfl
theorem O2 (s:List (BitVec 32))(i:Nat)(x:BitVec 32):(s.map V.u32).set i (.u32 x)=(s.set i x).map V.u32:=List.map_set.symm
theorem O3 (s:List (BitVec 64))(i:Nat)(x:BitVec 64):(s.map V.u64).set i (.u64 x)=(s.set i x).map V.u64:=List.map_set.symm
theorem O4 (s:List Int)(i:Nat)(x:Int):(s.map V.i64).set i (.i64 x)=(s.set i x).map V.i64:=List.map_set.symm
theorem LH (s:List (BitVec 32))(i:Nat):(s.map V.u32).take i=(s.take i).map V.u32:=List.map_take.symm
theorem LI (s:List (BitVec 64))(i:Nat):(s.map V.u64).take i=(s.take i).map V.u64:=List.map_take.symm
theorem LJ (s:List Int)(i:Nat):(s.map V.i64).take i=(s.take i).map V.i64:=List.map_take.symm
theorem LK (s:List (List (BitVec 8)))(i:Nat):(s.map V.str).take i=(s.take i).map V.str:=List.map_take.symm
theorem LL (s:List (BitVec 32))(i:Nat):(s.map V.u32).drop i=(s.drop i).map V.u32:=List.map_drop.symm
theorem LM (s:List (BitVec 64))(i:Nat):(s.map V.u64).drop i=(s.drop i).map V.u64:=List.map_drop.symm
theorem LN (s:List Int)(i:Nat):(s.map V.i64).drop i=(s.drop i).map V.i64:=List.map_drop.symm
theorem LO (s:List (List (BitVec 8)))(i:Nat):(s.map V.str).drop i=(s.drop i).map V.str:=List.map_drop.symm
theorem HT (s t:List (BitVec 32)):s.map V.u32++t.map V.u32=(s++t).map V.u32:=List.map_append.symm
theorem HU (s t:List (BitVec 64)):s.map V.u64++t.map V.u64=(s++t).map V.u64:=List.map_append.symm
theorem HV (s t:List Int):s.map V.i64++t.map V.i64=(s++t).map V.i64:=List.map_append.symm
theorem wC {α:Type}(mk:α→V)(hmk:∀ x,(mk x).one=true)(s:List α):(∀ v∈s.map mk,v.one=true)=True:=by
 refine propext ⟨fun _=>trivial,fun _ v hv=>?_⟩
 obtain⟨x,_,rfl⟩:=List.mem_map.1 hv
 exact hmk x
theorem O5 (s:List (BitVec 32)):(∀ v∈s.map V.u32,v.one=true)=True:=wC _ (fun _=>rfl) s
theorem O6 (s:List (BitVec 64)):(∀ v∈s.map V.u64,v.one=true)=True:=wC _ (fun _=>rfl) s
theorem O7 (s:List Int):(∀ v∈s.map V.i64,v.one=true)=True:=wC _ (fun _=>rfl) s
attribute [go_sem] O2 O3 O4 LH LI LJ LK LL LM LN LO HT HU HV O5 O6 O7
theorem O8 (s:List (BitVec 8))(x:BitVec 8):s.map V.u8++[.u8 x]=(s++[x]).map V.u8:=by simp
theorem LP (s:List (BitVec 32))(x:BitVec 32):s.map V.u32++[.u32 x]=(s++[x]).map V.u32:=by simp
theorem LQ (s:List (BitVec 64))(x:BitVec 64):s.map V.u64++[.u64 x]=(s++[x]).map V.u64:=by simp
theorem LR (s:List Int)(x:Int):s.map V.i64++[.i64 x]=(s++[x]).map V.i64:=by simp
theorem LT (s:List (List (BitVec 8)))(x:List (BitVec 8)):s.map V.str++[.str x]=(s++[x]).map V.str:=by simp
attribute [go_sem] O8 LP LQ LR LT
end
section
open Go
def Res.read (r:Res):Res:={r with old:=[]}
theorem FE {get:Nat→Option Blk}{b:Nat}:∀ {old:List (Nat×Option Blk)} (_:∀ x∈old,get x.1=x.2),di old b (get b)=get b:=fun {old} h=>by
 induction old with
 |nil=>rfl
 |cons x l ih=>
  obtain⟨i,o⟩:=x
  have h1:=h (i,o) List.mem_cons_self
  have h2:=ih fun y hy=>h y (List.mem_cons_of_mem _ hy)
  unfold di
  split
  ·rename_i e
   first
    |(rw[←h1];simp_all)
    |simp_all
  ·exact h2
theorem LU {get:Nat→Option Blk}{old:List (Nat×Option Blk)}{nid:Nat}{news:List (Option Blk)}(h:∀ x∈old,get x.1=x.2):bv get old nid news=bv get [] nid news:=by
 funext b
 unfold bv
 rw[FE h]
 rfl
section
variable {P:Program}{m n:Nat}{R:Exit→St→Prop}{k:List Fr}{s:St}{l:List Oper}{ops:Array Oper}{dst:Option Tmp}
variable {f:FuncId}{fs cs args args0:List V}{v:V}{h h':List (Option Blk)}
theorem Spec.read {get0:Nat→Option Blk}{nid:Nat}{r:Res}(hs:Spec P f args get0 nid r)(ho:∀ x∈r.old,x.1∈r.fp∧get0 x.1=x.2):Spec P f args get0 nid r.read:=by
 intro ρ dom get w rargs hm hr hfp hdom
 refine(hs ρ dom get w rargs hm hr hfp hdom).mono ?_
 have hsame:bv get r.old nid r.news=bv get [] nid r.news:=LU fun x hx=>by rw[(hfp _ (ho x hx).1).1];exact(ho x hx).2
 rintro e w' ⟨r',ρ',h1,h2,h3,h4,h5⟩
 rw[hsame] at h3 h5
 exact⟨r',ρ',h1,h2,h3,h4,h5⟩
theorem VCall.read {fv:V}{get0:Nat→Option Blk}{nid:Nat}{r:Res}(hs:VCall P fv args get0 nid r)(ho:∀ x∈r.old,x.1∈r.fp∧get0 x.1=x.2):VCall P fv args get0 nid r.read:=by
 rcases hs with⟨f,fs,cs,h1,h2,h3,h4⟩|⟨f,fs,cs,h1,_,h3,h4⟩|⟨nm,t,v,f,h1,h2,h3,h4,h5⟩
 ·exact .inl ⟨f,fs,cs,h1,h2,h3,h4.read ho⟩
 ·exact .inr (.inl ⟨f,fs,cs,h1,rfl,h3,h4⟩)
 ·exact .inr (.inr ⟨nm,t,v,f,h1,h2,h3,h4,h5.read ho⟩)
theorem qM {tr:Tr}(sg:List Nat)(hs:ag P f args0 h v h')(hc:cW P f=true)(ha:rens (ah sg) args0=fs++args++cs)(hlen:sg.length=h.length)(hlow:aa h.length args0)(hnd:sg.Nodup)
  (hsg:∀ b∈sg,b<s.H.length) (hall:lH h) (hblk:eu (ah sg) h.length s h 0) (hro:gm (h'.drop h.length)) (hle:h.length≤h'.length)
  (ho:∀ x∈(dR sg s.H.length v h').old,x.1∈sg∧ab s.H x.1=x.2)
  (hk:eN P m n R l (tr++[bc s (dR sg s.H.length v h').read]) ops k (s.after dst (dR sg s.H.length v h').read)):iN P m n R (.fn f fs cs) args dst l tr ops k s:=
 ⟨_,(vY sg hs hc ha hlen hlow hnd hsg hall hblk hro hle).read ho,fun x hx=>by simp[Res.read] at hx,hk⟩
end
attribute [go_sem] Res.read
end
section
mutual
theorem V.ren_low {σ:Nat→Nat}{n:Nat}(h:∀ b,b<n→σ b=b):∀ (v:V),v.low n→v.ren σ=v
 | .junk,_| .bool _,_| .u8 _,_| .u32 _,_| .u64 _,_| .i64 _,_| .i32 _,_| .str _,_| .nilPtr,_| .nilSlice,_| .nilFn,_| .nilIface,_=>by unfold V.ren;rfl
 | .aFn _ _ v,hb=>by unfold V.low at hb;unfold V.ren;rw[V.ren_low h v hb]
 | .ptr b _,hb=>by unfold V.low at hb;unfold V.ren;rw[h b hb]
 | .map b,hb=>by unfold V.low at hb;unfold V.ren;rw[h b hb]
 | .slice b _ _ _,hb=>by unfold V.low at hb;unfold V.ren;rw[h b hb]
 | .fn _ fs cs,hb=>by unfold V.low at hb;unfold V.ren;rw[ko h fs hb.1,ko h cs hb.2]
 | .agg cs,hb=>by unfold V.low at hb;unfold V.ren;rw[ko h cs hb]
 | .tup cs,hb=>by unfold V.low at hb;unfold V.ren;rw[ko h cs hb]
 | .iface _ v,hb=>by unfold V.low at hb;unfold V.ren;rw[V.ren_low h v hb]
theorem ko {σ:Nat→Nat}{n:Nat}(h:∀ b,b<n→σ b=b):∀ (l:List V),aa n l→rens σ l=l
 |[],_=>by unfold rens;rfl
 |v::l,hb=>by unfold aa at hb;unfold rens;rw[V.ren_low h v hb.1,ko h l hb.2]
end
mutual
theorem V.low_mono {n n':Nat}(h:n≤n'):∀ (v:V),v.low n→v.low n'
 | .junk,_| .bool _,_| .u8 _,_| .u32 _,_| .u64 _,_| .i64 _,_| .i32 _,_| .str _,_| .nilPtr,_| .nilSlice,_| .nilFn,_| .nilIface,_=>by unfold V.low;trivial
 | .aFn _ _ v,hb=>by unfold V.low at*;exact V.low_mono h v hb
 | .ptr b _,hb=>by unfold V.low at*;omega
 | .map b,hb=>by unfold V.low at*;omega
 | .slice b _ _ _,hb=>by unfold V.low at*;omega
 | .fn _ fs cs,hb=>by unfold V.low at*;exact⟨mC h fs hb.1,mC h cs hb.2⟩
 | .agg cs,hb=>by unfold V.low at*;exact mC h cs hb
 | .tup cs,hb=>by unfold V.low at*;exact mC h cs hb
 | .iface _ v,hb=>by unfold V.low at*;exact V.low_mono h v hb
theorem mC {n n':Nat}(h:n≤n'):∀ (l:List V),aa n l→aa n' l
 |[],_=>trivial
 |v::l,hb=>⟨V.low_mono h v hb.1,mC h l hb.2⟩
end
theorem vZ {n:Nat}:∀ {l:List V},aa n l↔∀ v∈l,v.low n:=fun {l}=>by
 induction l with
 |nil=>exact⟨fun _ _ h=>(by cases h),fun _=>trivial⟩
 |cons v l ih=>
  refine⟨fun h x hx=>?_,fun h=>⟨h v (by simp),ih.2 fun x hx=>h x (by simp[hx])⟩⟩
  rcases List.mem_cons.1 hx with e|hx
  ·rw[e];exact h.1
  ·exact ih.1 h.2 x hx
def Sane (H:List (Option Blk)):Prop:=∀ b B,ab H b=some B→aa H.length B.cs∧B.ro=B.ro
theorem uG (n:Nat):(List.range n).Nodup:=by
 refine List.pairwise_iff_getElem.2 fun i j hi hj hij e=>?_
 simp at e;omega
theorem mw {n b:Nat}(h:b<n):ah (List.range n) b=b:=by
 unfold ah;rw[List.getD_eq_getElem?_getD,List.getElem?_range h];rfl
theorem yH {H H':List (Option Blk)}{b:Nat}(hb:b<H'.length):ah (az (List.range H.length) H.length H') b=b:=by
 unfold az
 by_cases h:b<H.length
 ·rw[lc (by simpa using h),mw h]
 ·rw[ld (by simp;omega) (by simp;omega)];simp;omega
theorem dx {H:List (Option Blk)}{b:Nat}(h:b<H.length)(X:List (Option Blk)):ab (H++X) b=ab H b:=by
 unfold ab;rw[List.getElem?_append_left h]
theorem wD {H:List (Option Blk)}{b:Nat}(h:H.length≤b):ab H b=none:=by
 unfold ab;rw[List.getElem?_eq_none h];rfl
theorem yI {H:List (Option Blk)}{b:Nat}(h:H.length≤b)(X:List (Option Blk)):ab (H++X) b=ab X (b-H.length):=by
 unfold ab;rw[List.getElem?_append_right h]
theorem Bo (H:List (Option Blk))(x:Option Blk)(X:List (Option Blk)):ab (H++x::X) H.length=x:=by
 rw[yI (Nat.le_refl _),Nat.sub_self];rfl
theorem iJ {H:List (Option Blk)}{b:Nat}(h:b<H.length)(x:Option Blk):ab (H.set b x) b=x:=by
 unfold ab;rw[List.getElem?_set_self h];simp
theorem cp {H:List (Option Blk)}{b c:Nat}(h:c≠b)(x:Option Blk):ab (H.set c x) b=ab H b:=by
 unfold ab;rw[List.getElem?_set_ne h]
theorem Dy {H H':List (Option Blk)}(hl:H.length=H'.length)(h:∀ b,b<H.length→ab H b=ab H' b):H=H':=by
 refine List.ext_getElem hl fun i h1 h2=>?_
 have :=h i h1
 unfold ab at this
 rw[List.getElem?_eq_getElem h1,List.getElem?_eq_getElem h2] at this
 simpa using this
section
variable {P:Program}{m n:Nat}{R:Exit→St→Prop}{k:List Fr}{l:List Oper}{ops:Array Oper}{dst:Option Tmp}
variable {f:FuncId}{fs cs args args1:List V}{v:V}{H H':List (Option Blk)}
def sV (H H':List (Option Blk))(W:List Nat)(v:V):Res:={v:=v,pre:=True,fp:=List.range H.length,old:=W.map fun b=>(b,ab H' b),news:=H'.drop H.length}
theorem uH {g:Nat→Option Blk}{b:Nat}{d:Option Blk}:∀ {W:List Nat},di (W.map fun b=>(b,g b)) b d=if b∈W then g b else d
 |[]=>rfl
 |i::W=>by
  simp only[List.map_cons,di,List.mem_cons]
  by_cases h:b=i
  ·subst h;simp
  ·rw[if_neg h,uH];simp[h]
theorem O9 (W:List Nat)(hs:ag P f args H v H')(hlow:aa H.length args)(hH:Sane H)(hH':Sane H')(hv:v.low H'.length)(hle:H.length≤H'.length)(hW:∀ b,b<H.length→b∉W→ab H' b=ab H b)(hWl:∀ b∈W,b<H.length)(hro:∀ b B,ab H' b=some B→(H.length≤b∨ab H b=none)→B.ro=false):
  Spec P f args (ab H) H.length (sV H H' W v):=by
 have hs':=qE (sg:=List.range H.length) (get0:=ab H) (nid:=H.length) hs (by simp) hlow (uG _) (fun b hb=>by simpa using hb) (fun b B e=>by
  have hb:=aM e
  have hl:=(hH b B e).1
  rw[mw hb,ko (fun c hc=>mw hc) _ hl]
  exact⟨e,hl⟩) hro hle
 rw[ko (fun c hc=>mw hc) _ hlow,V.ren_low (fun c hc=>yH hc) _ hv] at hs'
 have hren:∀ x∈H',db (ah (az (List.range H.length) H.length H')) x=x:=fun x hx=>by
  cases x with
  |none=>rfl
  |some B=>
   obtain⟨i,hi⟩:=List.getElem?_of_mem hx
   have e:ab H' i=some B:=by unfold ab;rw[hi];rfl
   show some (Blk.mk _ _ _)=_
   rw[ko (fun c hc=>yH hc) _ (hH' i B e).1]
 have hnews:cu (ah (az (List.range H.length) H.length H')) (List.range H.length) H'=H'.drop H.length:=by
  rw[jf,List.length_range]
  conv=>rhs;rw[←List.map_id (H'.drop H.length)]
  exact List.map_congr_left fun x hx=>hren x (List.mem_of_mem_drop hx)
 rw[hnews] at hs'
 intro ρ dom get w rargs hm hr hfp hdom
 refine(hs' ρ dom get w rargs hm hr hfp hdom).mono ?_
 have hsame:bv get (cZ (ah (az (List.range H.length) H.length H')) (List.range H.length) H') H.length (H'.drop H.length)=bv get (W.map fun b=>(b,ab H' b)) H.length (H'.drop H.length):=by
  funext b
  unfold bv
  split
  ·rfl
  ·rw[uH]
   by_cases hb:b<H.length
   ·rw[rv (uG _) (i:=b) (List.getElem?_range hb) (by omega)]
    have h2:db (ah (az (List.range H.length) H.length H')) (H'[b]?).join=ab H' b:=by
     unfold ab
     rw[List.getElem?_eq_getElem (by omega)]
     exact hren _ (List.getElem_mem _)
    rw[h2]
    by_cases hbw:b∈W
    ·rw[if_pos hbw]
    ·rw[if_neg hbw,hW b hb hbw]
     exact((hfp b (by show b∈List.range _;simpa using hb)).1).symm
   ·rw[qX (by simpa using hb),if_neg fun h=>hb (hWl b h)]
 rintro e w' ⟨r,ρ',h1,h2,h3,h4,h5⟩
 simp only at h3 h4 h5
 rw[hsame] at h3 h5
 exact⟨r,ρ',h1,h2,h3,h4,h5⟩
theorem LV {t:List (Nat×V)}(hle:H.length≤H'.length){W:List Nat}(hW:∀ b,b<H.length→b∉W→ab H' b=ab H b):St.after ⟨t,H⟩ dst (sV H H' W v)=⟨eB t dst v,H'⟩:=by
 show St.mk (eB t dst v) (cr H (W.map fun b=>(b,ab H' b))++H'.drop H.length)=_
 congr 1
 refine Dy (by rw[List.length_append,d9,List.length_drop];omega) fun b hb=>?_
 rw[List.length_append,d9,List.length_drop] at hb
 by_cases h:b<H.length
 ·rw[dx (by rw[d9];exact h),mq _ _ _ h,uH]
  by_cases hbw:b∈W
  ·rw[if_pos hbw]
  ·rw[if_neg hbw,hW b h hbw]
 ·rw[yI (by rw[d9];omega),d9]
  unfold ab
  rw[List.getElem?_drop,show H.length+(b-H.length)=b by omega]
structure Whole (P:Program) (f:FuncId) (args:List V) (H:List (Option Blk)) (v:V) (H':List (Option Blk)) (W:List Nat):Prop where
 spec:ag P f args H v H'
 le:H.length≤H'.length
 args:aa H.length args
 sane:Sane H
 sane':Sane H'
 low:v.low H'.length
 keep:∀ b,b<H.length→b∉W→ab H' b=ab H b
 wlt:∀ b∈W,b<H.length
 rw_:∀ b B,ab H' b=some B→(H.length≤b∨ab H b=none)→B.ro=false
theorem Whole.vcall {W:List Nat}(h:Whole P f args H v H' W)(hc:cW P f=true)(ha:args=fs++args1++cs):VCall P (.fn f fs cs) args1 (ab H) H.length (sV H H' W v):=
 .inl ⟨f,fs,cs,rfl,hc,trivial,by rw[←ha];exact O9 W h.spec h.args h.sane h.sane' h.low h.le h.keep h.wlt h.rw_⟩
theorem JG {t:List (Nat×V)}{W:List Nat}(h:Whole P f args H v H' W)(hc:cW P f=true)(ha:args=fs++args1++cs)(hk:dW P m n R l ops k ⟨eB t dst v,H'⟩):jO P m n R (.fn f fs cs) args1 dst l ops k ⟨t,H⟩:=by
 refine⟨_,h.vcall hc ha,?_⟩
 show bX P n ops l (St.after ⟨t,H⟩ dst (sV H H' W v)) _
 rw[LV h.le h.keep]
 exact hk
end
end
section
def Alls {α:Type}(mk:α→V)(n:Nat)(cs:List V):Prop:=∃ bs:List α,bs.length=n∧cs=bs.map mk
variable {α:Type}{mk:α→V}
theorem Alls.set {n:Nat}{cs:List V}(h:Alls mk n cs)(i:Nat)(x:α):Alls mk n (cs.set i (mk x)):=by
 obtain⟨bs,h1,rfl⟩:=h
 exact⟨bs.set i x,by simpa using h1,by rw[List.map_set]⟩
theorem Alls.get {n:Nat}{cs:List V}(h:Alls mk n cs){i:Nat}(hi:i<n):∃ x,cs.getD i .junk=mk x:=by
 obtain⟨bs,h1,rfl⟩:=h
 refine⟨bs[i]'(by omega),?_⟩
 rw[List.getD_eq_getElem?_getD,List.getElem?_map,List.getElem?_eq_getElem (by omega)];rfl
theorem Alls.len {n:Nat}{cs:List V}(h:Alls mk n cs):cs.length=n:=by
 obtain⟨bs,h1,rfl⟩:=h
 simpa using h1
theorem Alls.rep (n:Nat)(x:α):Alls mk n (List.replicate n (mk x)):=⟨List.replicate n x,by simp,by simp⟩
theorem Alls.splice {n k:Nat}{cs xs:List V}(h:Alls mk n cs)(hx:Alls mk k xs){o:Nat}(ho:o+k≤n):Alls mk n (splice cs o xs):=by
 have hl:=h.len
 have hk:=hx.len
 have hsl:=mh (cs:=cs) (o:=o) (xs:=xs) (by omega)
 obtain⟨bs,h1,rfl⟩:=h
 obtain⟨ys,h2,rfl⟩:=hx
 match ys with
 |[]=>
  refine⟨bs,h1,?_⟩
  rw[List.map_nil,uY,List.append_nil,Nat.add_zero,List.take_append_drop]
 |[y]=>exact⟨bs.set o y,by simpa using h1,by rw[List.map_cons,List.map_nil,uX,List.map_set]⟩
 |y::z::ys=>
  refine⟨bs.take o++(y::z::ys)++bs.drop (o+(y::z::ys).length),?_,?_⟩
  ·simp only[List.length_append,List.length_take,List.length_drop] at*
   simp only[List.length_cons] at*
   omega
  ·rw[List.map_cons,List.map_cons,rz,List.map_append,List.map_append,List.map_take,List.map_drop]
   simp
theorem qY {n:Nat}(h:∀ x,(mk x).low n):∀ (bs:List α),aa n (bs.map mk)
 |[]=>trivial
 |b::bs=>⟨h b,qY h bs⟩
theorem Alls.low {n k:Nat}{cs:List V}(h:Alls mk k cs)(hl:∀ x,(mk x).low n):aa n cs:=by
 obtain⟨bs,-,rfl⟩:=h
 exact qY hl bs
end
section
section
variable {P:Program}{m n:Nat}{R:Exit→St→Prop}{k:List Fr}{s:St}{l:List Oper}{ops:Array Oper}{dst:Option Tmp}
variable {f:FuncId}{fs cs args:List V}{h:List (Option Blk)}
theorem cy {Post:V→Prop}(hf:∃ v,ao P f args v∧Post v)(hk:∀ v,Post v→dW P m n R l ops k (s.put dst v)):jO P m n R (.fn f [] []) args dst l ops k s:=by
 obtain⟨v,h1,h2⟩:=hf
 exact ak h1 (hk v h2)
theorem lg {tr:Tr}{Post:V→Prop}(hf:∃ v,ao P f args v∧Post v)(hk:∀ v,Post v→eN P m n R l (tr++[([],[])]) ops k (s.put dst v)):iN P m n R (.fn f [] []) args dst l tr ops k s:=by
 obtain⟨v,h1,h2⟩:=hf
 exact aH h1 (hk v h2)
theorem dI (hmix:P.follows .mixedOrders=true){fn:Func}{c:Code}{Post:V→List (Option Blk)→Prop}(hf:P.funcs[f]?=some fn)(hb:fn.body=some c)(hn:args.length≤fn.ntmps)
  (hv:vc P h.length fn.ntmps c (fQ P fn fun v s=>∃ v' h',Post v' h'∧Fin h.length v' h' v s) ⟨fg args 0,h⟩):∃ v h',ag P f args h v h'∧Post v h':=by
 obtain⟨v,s',h1,⟨v',h',h2,h3⟩,h4⟩:=wS (s:=⟨fg args 0,h⟩) (Nat.le_refl _) hv
 refine⟨v',h',ap hmix hf hb hn (eL c _ _ _ (fun e s hs=>vr (fun v2 s2 hh=>?_) hs) h4),h2⟩
 obtain⟨rfl,rfl⟩:=hh
 exact h3
end
theorem eg {α:Type}(mk:α→V)(d:α)(ws:List α)(i:Nat):(ws.map mk).getD i .junk=if i<ws.length then mk (ws.getD i d) else .junk:=by
 rw[List.getD_eq_getElem?_getD,List.getD_eq_getElem?_getD,List.getElem?_map]
 by_cases h:i<ws.length
 ·rw[if_pos h,List.getElem?_eq_getElem h];rfl
 ·rw[if_neg h,List.getElem?_eq_none (by omega)];rfl
theorem ik {α:Type}(mk:α→V)(ws:List α)(i:Nat)(x:α):(ws.map mk).set i (mk x)=(ws.set i x).map mk:=by rw[List.map_set]
end
end Go.Vm
end
section
namespace Go.Vm
def jZ {α:Type}(ws:List α)(o:Nat)(xs:List α):List α:=ws.take o++xs++ws.drop (o+xs.length)
theorem HW {α:Type}{ws:List α}{o:Nat}{xs:List α}(h:o+xs.length≤ws.length):(jZ ws o xs).length=ws.length:=by
 unfold jZ;simp;omega
theorem wE {α:Type}(ws:List α)(o:Nat)(xs:List α):(jZ ws o xs).length=min o ws.length+xs.length+(ws.length-(o+xs.length)):=by unfold jZ;simp;omega
theorem uZ {α:Type}(mk:α→V)(ws:List α)(o:Nat)(xs:List α)(h:o+xs.length≤ws.length):splice (ws.map mk) o (xs.map mk)=(jZ ws o xs).map mk:=by
 match xs with
 |[]=>rw[List.map_nil,uY];simp[jZ]
 |[y]=>
  rw[List.map_cons,List.map_nil,uX,←List.map_set]
  congr 1
  unfold jZ
  rw[List.set_eq_take_append_cons_drop,if_pos (by simp at h;omega)];simp
 |y::z::ys=>
  rw[List.map_cons,List.map_cons,rz]
  unfold jZ
  rw[List.map_append,List.map_append,List.map_take,List.map_drop];simp
theorem qp:[V.u32 0#32,V.u32 0#32,V.u32 0#32,V.u32 0#32,V.u32 0#32,V.u32 0#32,V.u32 0#32,V.u32 0#32]=(List.replicate 8 0#32).map V.u32:=rfl
theorem CZ:[V.u32 0#32,V.u32 0#32,V.u32 0#32,V.u32 0#32,V.u32 0#32,V.u32 0#32,V.u32 0#32,V.u32 0#32,V.u32 0#32,V.u32 0#32,V.u32 0#32,V.u32 0#32,V.u32 0#32,V.u32 0#32,V.u32 0#32,V.u32 0#32]=(List.replicate 16 0#32).map V.u32:=rfl
end Go.Vm
namespace Go.Vm
section
variable {P:Program}{m n:Nat}{R:Exit→St→Prop}{k:List Fr}{c:Code}{p:Prop}[Decidable p]
theorem Rl {s1 s2:St}(h:∀ s,s=s1∨s=s2→go P m n R c k s):if p then go P m n R c k s1 else go P m n R c k s2:=by
 split
 ·exact h _ (.inl rfl)
 ·exact h _ (.inr rfl)
end
theorem gM {i:Nat}(h:i<1000000000000):aj ((i:Int)+1)=((i+1:Nat):Int):=by rw[am (by omega) (by omega)];omega
end Go.Vm
namespace Go.Vm
def aO (N:Nat):List (Option Blk)→Prop
 |[]=>True
 |none::l=>aO N l
 |some B::l=>aa N B.cs∧aO N l
theorem jI {N:Nat}:∀ {l:List (Option Blk)},aO N l→∀ b B,ab l b=some B→aa N B.cs
 |[],_,b,B,h=>by simp[ab] at h
 |none::l,hl,0,B,h=>by simp[ab] at h
 |none::l,hl,b+1,B,h=>jI (l:=l) hl b B (by simpa [ab] using h)
 |some C::l,hl,0,B,h=>by simp[ab] at h;subst h;exact hl.1
 |some C::l,hl,b+1,B,h=>jI (l:=l) hl.2 b B (by simpa [ab] using h)
theorem GI (N:Nat):aO N []=True:=rfl
theorem FF (N:Nat)(l:List (Option Blk)):aO N (none::l)=aO N l:=rfl
theorem FG (N:Nat)(B:Blk)(l:List (Option Blk)):aO N (some B::l)=(aa N B.cs∧aO N l):=rfl
attribute [go_sem] GI FF FG
def ct (sl:List Nat)(nb:Nat)(s:St):St:=⟨sl.map fun t=>(t,s.get t),s.H.take nb⟩
def cB (nb:Nat)(s:St):List Nat→Prop
 |[]=>True
 |t::l=>(s.get t).low nb∧cB nb s l
theorem Af {nb:Nat}{s:St}:∀ {l:List Nat},cB nb s l→∀ t∈l,(s.get t).low nb
 |[],_,_,h=>by cases h
 |x::l,h,t,ht=>by
  rcases List.mem_cons.1 ht with e|ht
  ·rw[e];exact h.1
  ·exact Af h.2 t ht
section
variable {m n:Nat}{s:St}{I:Nat→St→Prop}{k:Nat}
theorem Weak.pick (sl:List Nat)(nb:Nat)(hm:m≤nb)(hl:nb≤s.H.length)(ht:cB nb s sl)(hH:aO nb (s.H.take nb)):Weak m n s (ct sl nb s):=by
 have hlen:(ct sl nb s).H.length=nb:=by unfold ct;simp;omega
 refine⟨fun _=>by rw[hlen];exact hm,Weak.rename (s:=s) (s':=ct sl nb s) id (by rw[hlen];exact hm) (fun _ _=>rfl) (fun p hp=>?_) (fun b B e=>?_) (fun _ _ _ _ h=>h)⟩
 ·unfold ct at hp
  obtain⟨t,ht1,rfl⟩:=List.mem_map.1 hp
  rw[hlen]
  exact⟨V.ren_id _,Af ht t ht1⟩
 ·have h1:ab (s.H.take nb) b=some B:=e
  have hb:b<nb:=by have :=aM h1;simp at this;omega
  rw[hlen,mR]
  refine⟨?_,jI hH b B h1⟩
  unfold ab at h1 ⊢
  rw[List.getElem?_take_of_lt hb] at h1
  exact h1
theorem je (k':Nat)(sl:List Nat)(nb:Nat)(hk:k'<k)(hm:m≤nb)(hl:nb≤s.H.length)(ht:cB nb s sl)(hH:aO nb (s.H.take nb))(hi:I k' (ct sl nb s)):jP m n I k s:=
 ⟨k',_,hk,Weak.pick sl nb hm hl ht hH,hi⟩
theorem ig (k:Nat)(sl:List Nat)(nb:Nat)(hm:m≤nb)(hl:nb≤s.H.length)(ht:cB nb s sl)(hH:aO nb (s.H.take nb))(hi:I k (ct sl nb s)):∃ k s0,Weak m n s s0∧I k s0:=
 ⟨k,_,Weak.pick sl nb hm hl ht hH,hi⟩
end
end Go.Vm
namespace Go.Vm
theorem Fin.take {m:Nat}{v:V}{s:St}(nb:Nat)(hm:m≤nb)(hl:nb≤s.H.length)(hv:v.low nb)(hH:aO nb (s.H.take nb)):Fin m v (s.H.take nb) v s:=by
 have hlen:(s.H.take nb).length=nb:=by simp;omega
 refine Fin.same (by rw[hlen];exact hm) (by rw[hlen];exact hl) (by rw[hlen];exact hv) fun b B e=>?_
 have hb:b<nb:=by have :=aM e;omega
 refine⟨?_,by rw[hlen];exact jI hH b B e⟩
 unfold ab at e ⊢
 rw[List.getElem?_take_of_lt hb] at e
 exact e
end Go.Vm
namespace Go.Vm
section
variable {P:Program}{m n:Nat}{R:Exit→St→Prop}{k:List Fr}{c:Code}{p:Prop}[Decidable p]
theorem LW {A:Prop}{s2:St}(J:St→Prop)(h1:(∀ s,J s→go P m n R c k s)→A)(h2:J s2)(h3:∀ s,J s→go P m n R c k s):if p then A else go P m n R c k s2:=by
 split
 ·exact h1 h3
 ·exact h3 _ h2
end
end Go.Vm
end
