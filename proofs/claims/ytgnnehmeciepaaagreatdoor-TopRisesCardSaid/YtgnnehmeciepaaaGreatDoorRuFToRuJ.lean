/- Proved: laws of a machine of values, or what a function answers; no conditions but each theorem's own. -/
import Derived.Test.YtgnnehmeciepaaaGreatDoorDxMToRuE
import Derived.Test.YtgnnehmeciepaaaGreatDoorVmZ2ToVmH1
set_option linter.unusedVariables false
set_option linter.unusedSimpArgs false
set_option linter.unusedSectionVars false
set_option maxRecDepth 20000
set_option maxHeartbeats 8000000
section
namespace Go.Vm
open Go.Proofs
section
variable {K K0:Nat→Nat}{H H0 H':List (Option Blk)}{K':Nat→Nat}{l kk kX kY kX' kY' n lb fb:Nat}{g:Option G3}{g1:G3}{dX dY dX' dY' dX1:cV}{e i:Int}
theorem Dn (hC:CurL K0 H0 K H)(hS:LX i K H l dX dY none kX kY)(glb:ab H lb=bK [.ptr l 0])(gfb:ab H fb=bK [.i64 i])(klb:K lb=0)(kfb:K fb=0){x:List ac}
  (hA:DAct 26 [.u32 (if i=0 then 167772160#32 else 167772416#32),.u32 (if 1-i=0 then 167772160#32 else 167772416#32),.str x] dX 0 (some g1) 0 dX1) (hR:AirRun i n dX1 dY (some g1) kX kY dX' dY' kX' kY') (hn:n≤100) (hI:jD dY) (hkX:kX≤900) (hkY:kY≤900):
  ∃ v K' H',DoneL Tryz.prog 8 [.str x,.ptr lb 0,.ptr fb 0] K H v K' H'∧(v= .bool true∧LX i K' H' l dX' dY' none kX' kY'):=by
 have hll:=hC.lt (b:=l) (by rw[hS.kl];decide)
 have hlb:=aM glb
 have hfb:=aM gfb
 have hDo:=QZ hC hS _ _ x hA (hI hS.dv.2) (by omega) (by omega)
 have hi:i=0∨i=1:=by
  rcases hS with⟨h,-⟩|⟨h,-⟩
  ·exact .inl h
  ·exact .inr h
 refine dg (Post:=fun v K' H'=>v= .bool true∧LX i K' H' l dX' dY' none kX' kY') (by kernel_rfl) (fn:=Tryz.f8) Tryz.func8 rfl (by show 3≤26;decide) (ae ?_)
 simp only[go_sem,seval,glb,gfb]
 repeat refine aI ?_
 rcases hi with rfl|rfl
 ·simp only[seval,show ¬ (1-0:Int)=0 by decide] at hDo
  simp only[go_sem,seval]
  repeat refine aI ?_
  refine bx (hDo) (by kernel_rfl) rfl (by simp[aa,V.low,hll]) hC.sane ?_
  rintro _ K1 H1 hC1 hl1 ⟨rfl,hS1⟩
  have glb1:=(hC1.keep lb hlb klb).trans glb
  have hll1:=hC1.lt (b:=l) (by rw[hS1.kl];decide)
  simp only[go_sem,seval,glb1]
  repeat refine aI ?_
  refine bx (wR hC1 hS1 hR hn) (by kernel_rfl) rfl (by simp[aa,V.low,hll1]) hC1.sane ?_
  rintro _ K2 H2 hC2 hl2 ⟨rfl,hS2⟩
  simp only[go_sem,seval]
  repeat refine aI ?_
  exact EndL.of (hC1.trans hC2) trivial ⟨rfl,hS2⟩
 ·simp only[seval,show ¬ (1:Int)=0 by decide,show(1-1:Int)=0 by decide] at hDo
  simp only[go_sem,seval]
  repeat refine aI ?_
  refine bx (hDo) (by kernel_rfl) rfl (by simp[aa,V.low,hll]) hC.sane ?_
  rintro _ K1 H1 hC1 hl1 ⟨rfl,hS1⟩
  have glb1:=(hC1.keep lb hlb klb).trans glb
  have hll1:=hC1.lt (b:=l) (by rw[hS1.kl];decide)
  simp only[go_sem,seval,glb1]
  repeat refine aI ?_
  refine bx (wR hC1 hS1 hR hn) (by kernel_rfl) rfl (by simp[aa,V.low,hll1]) hC1.sane ?_
  rintro _ K2 H2 hC2 hl2 ⟨rfl,hS2⟩
  simp only[go_sem,seval]
  repeat refine aI ?_
  exact EndL.of (hC1.trans hC2) trivial ⟨rfl,hS2⟩
theorem I9 (hC:CurL K0 H0 K H)(hS:LX i K H l dX dY none kX kY)(hX:DAct 28 [.i64 200] dX 0 none 0 dX')(hY:DAct 28 [.i64 200] dY 0 none 0 dY')(hkX:kX≤900)(hkY:kY≤900):
  ∃ v K' H',DoneL Tryz.prog 12 [.ptr l 0,.i64 1,.i64 200] K H v K' H'∧(v= .bool true∧LX i K' H' l dX' dY' none kX kY):=by
 have hll:=hC.lt (b:=l) (by rw[hS.kl];decide)
 have hDo:=Q0 hC hS hX hY (by omega) (by omega)
 refine dg (Post:=fun v K' H'=>v= .bool true∧LX i K' H' l dX' dY' none kX kY) (by kernel_rfl) (fn:=Tryz.f12) Tryz.func12 rfl (by show 3≤21;decide) (ae ?_)
 simp only[go_sem,seval]
 repeat refine aI ?_
 refine aY 2 ?_
 simp only[go_sem,seval]
 repeat refine aI ?_
 refine bx (hDo) (by kernel_rfl) rfl (by simp[aa,V.low,hll]) hC.sane ?_
 rintro _ K1 H1 hC1 hl1 ⟨rfl,hS1⟩
 have hll1:=hC1.lt (b:=l) (by rw[hS1.kl];decide)
 simp only[go_sem,seval]
 repeat refine aI ?_
 refine bx (wR hC1 hS1 (.done _ _ _ _) (by decide)) (by kernel_rfl) rfl (by simp[aa,V.low,hll1]) hC1.sane ?_
 rintro _ K2 H2 hC2 hl2 ⟨rfl,hS2⟩
 simp only[go_sem,seval]
 repeat refine aI ?_
 exact EndL.of (hC1.trans hC2) trivial ⟨rfl,hS2⟩
end
section
variable {K K0:Nat→Nat}{H H0 H':List (Option Blk)}{K':Nat→Nat}{l kk kX kY kX' kY' n lb fb bs:Nat}{g:Option G3}{g1:G3}{dX dY dX' dY' dX1 d0 d1:cV}{e i:Int}
theorem OJ (n:Int):∃ v,ao Tryz.prog 7 [.i64 n,.i64 2] v∧(v= .i64 0∨v= .i64 1):=by
 have h1:=Int.tmod_lt_of_pos n (show(0:Int)<2 by decide)
 have h2:=Int.lt_tmod_of_pos n (show(0:Int)<2 by decide)
 have h3:n.tmod 2=0∨n.tmod 2=1∨n.tmod 2=-1:=by omega
 refine eW (Post:=fun v=>v= .i64 0∨v= .i64 1) (by kernel_rfl) (by kernel_rfl) (fn:=Tryz.f7) Tryz.func7 rfl (by show 2≤15;decide) (by simp[aa,V.low]) (fun v h=>h.elim (fun e=>by rw[e];simp[V.low]) (fun e=>by rw[e];simp[V.low])) (ae ?_)
 simp only[go_sem,seval]
 rcases h3 with h3|h3|h3
 ·simp only[go_sem,seval,h3]
  repeat refine aI ?_
  exact .inl trivial
 ·simp only[go_sem,seval,h3]
  repeat refine aI ?_
  exact .inr trivial
 ·simp only[go_sem,seval,h3]
  repeat refine aI ?_
  exact .inr trivial
theorem La (s:List ac)(hs:s.length≤140737488355328):∃ v,ao Tryz.prog 4 [.str s] v∧∃ t:List ac,v= .str t∧t.length=32:=by
 refine eW (Post:=fun v=>∃ t:List ac,v= .str t∧t.length=32) (by kernel_rfl) (by kernel_rfl) (fn:=Tryz.f4) Tryz.func4 rfl (by show 1≤10;decide) (by simp[aa,V.low]) (fun v h=>by obtain⟨t,rfl,-⟩:=h;simp[V.low]) (ae ?_)
 simp only[go_sem,seval]
 refine bf (fun j st=>∃ t:List ac,j=32-t.length∧t.length≤140737488355328∧st=⟨[(0,.str t)],[]⟩) ?_ ?_
 ·exact bP (32-s.length) ⟨[(0,.str s)],[]⟩ (by simp[St.get,af]) rfl (fun _ _ h=>h) ⟨s,rfl,hs,rfl⟩
 rintro j st ⟨t,rfl,ht,rfl⟩-
 have hz:bytesOf ⟨#[0]⟩=[0#8]:=rfl
 by_cases h:(t.length:Int)<32
 ·simp only[go_sem,seval,h,hz,List.length_cons,List.length_nil]
  repeat refine aI ?_
  refine bL (32-(t++[0#8]).length) ⟨[(0,.str (t++[0#8]))],[]⟩ (show 32-(t++[0#8]).length<32-t.length by simp;omega) (by simp[St.get,af]) rfl (fun _ _ h=>h) ⟨t++[0#8],rfl,by simp;omega,rfl⟩
 ·have h2:(32:Int)≤t.length:=by omega
  simp only[go_sem,seval,h,h2]
  repeat refine aI ?_
  exact⟨_,rfl,by simp;omega⟩
theorem A7 (hC:CurL K0 H0 K H)(hS:LX i K H l dX dY g kX kY){su:Int}(hX:Stp Tryz.prog 20 [.ptr 0 0,.i64 0] dX (.i64 su) dX)(hY:Stp Tryz.prog 20 [.ptr 0 0,.i64 0] dY (.i64 su) dY):
  ∃ v K' H',DoneL Tryz.prog 11 [.ptr l 0,.i64 0,.i64 1] K H v K' H'∧(v= .i64 su∧LX i K' H' l dX dY g kX kY):=by
 rcases hS with⟨rfl,hS⟩|⟨rfl,hS⟩
 ·obtain⟨v,K',H',h1,h2,h3⟩:=CV hC hS hX
  exact⟨v,K',H',h1,h2,.inl ⟨rfl,h3⟩⟩
 ·obtain⟨v,K',H',h1,h2,h3⟩:=CV hC hS hY
  exact⟨v,K',H',h1,h2,.inr ⟨rfl,h3⟩⟩
theorem A8 (hC:CurL K0 H0 K H)(hS:LX i K H l dX dY g kX kY){su:Int}(hX:Stp Tryz.prog 20 [.ptr 0 0,.i64 0] dX (.i64 su) dX)(hY:Stp Tryz.prog 20 [.ptr 0 0,.i64 0] dY (.i64 su) dY):
  ∃ v K' H',DoneL Tryz.prog 11 [.ptr l 0,.i64 1,.i64 0] K H v K' H'∧(v= .i64 su∧LX i K' H' l dX dY g kX kY):=by
 rcases hS with⟨rfl,hS⟩|⟨rfl,hS⟩
 ·obtain⟨v,K',H',h1,h2,h3⟩:=CW hC hS hY
  exact⟨v,K',H',h1,h2,.inl ⟨rfl,h3⟩⟩
 ·obtain⟨v,K',H',h1,h2,h3⟩:=CW hC hS hX
  exact⟨v,K',H',h1,h2,.inr ⟨rfl,h3⟩⟩
theorem xn (hC:CurL K0 H0 K H)(hS:LX i K H l dX dY g kX kY)(hk:kX≤1000):
  ∃ v K' H',DoneL Tryz.prog 13 [.ptr l 0,.i64 i] K H v K' H'∧(jY kX v∧LX i K' H' l dX dY g kX kY):=by
 rcases hS with⟨rfl,hS⟩|⟨rfl,hS⟩
 ·obtain⟨na,x0,x1,va,sg0,sg1,v0,v1,hL,hN0,hN1⟩:=hS.ex
  obtain⟨v,K',H',h1,h2,h3⟩:=Dj hC hL hN0 hk (by decide) (.inl ⟨rfl,rfl⟩)
  exact⟨v,K',H',h1,h2,.inl ⟨rfl,hS.keep h3⟩⟩
 ·obtain⟨na,x0,x1,va,sg0,sg1,v0,v1,hL,hN0,hN1⟩:=hS.ex
  obtain⟨v,K',H',h1,h2,h3⟩:=Dj hC hL hN1 hk (by decide) (.inr ⟨rfl,rfl⟩)
  exact⟨v,K',H',h1,h2,.inr ⟨rfl,hS.keep h3⟩⟩
theorem Dp (hC:CurL K0 H0 K H)(hS:LX i K H l dX dY g kX kY)(hk:kY≤1000):
  ∃ v K' H',DoneL Tryz.prog 13 [.ptr l 0,.i64 (1-i)] K H v K' H'∧(jY kY v∧LX i K' H' l dX dY g kX kY):=by
 obtain⟨v,K',H',h1,h2,h3⟩:=xn hC hS.swap hk
 exact⟨v,K',H',h1,h2,h3.back⟩
theorem wx (k:Int)(d:DS)(p:PS):jD (fG k d p):=iL _ _ _ _ _ _ _
theorem Q9 {seed:List ac}(hs:seed.length=32)(hne:ai (kN seed 1)≠ai (kN seed 0))(hC:CurL K0 H0 fF H)(hb:ab H bs=bK [.i64 2,.i64 2]):
  ∃ v K' H',DoneL Tryz.prog 5 [.slice bs 0 2 1,.str seed] fF H v K' H'∧∃ l,v= .ptr l 0∧LS K' H' l (fG 1 (oZ seed) (o6 seed)) (fG 0 (o0 seed) (o7 seed)) none 0 0:=by
 have hlb:=aM hb
 refine dg (Post:=fun v K' H'=>∃ l,v= .ptr l 0∧LS K' H' l (fG 1 (oZ seed) (o6 seed)) (fG 0 (o0 seed) (o7 seed)) none 0 0) (by kernel_rfl) (fn:=Tryz.f5) Tryz.func5 rfl (by show 2≤26;decide) (ae ?_)
 simp only[go_sem,seval]
 repeat refine aI ?_
 refine bx (Q8 hs hne hC hb) (by kernel_rfl) rfl (by simp[aa,V.low,hlb]) hC.sane ?_
 rintro _ K1 H1 hC1 hl1 ⟨l,rfl,hS1⟩
 have hX:LX 0 K1 H1 l (fG 1 (oZ seed) (o6 seed)) (fG 0 (o0 seed) (o7 seed)) none 0 0:= .inl ⟨rfl,hS1⟩
 have hll1:=hC1.lt (b:=l) (by rw[hX.kl];decide)
 simp only[go_sem,seval]
 repeat refine aI ?_
 refine bx (Q1 hC1 hX (wx _ _ _ hX.dv.1) (wx _ _ _ hX.dv.2) (by decide) (by decide)) (by kernel_rfl) rfl (by simp[aa,V.low,hll1]) hC1.sane ?_
 rintro _ K2 H2 hC2 hl2 ⟨rfl,hS2⟩
 have hll2:=hC2.lt (b:=l) (by rw[hS2.kl];decide)
 simp only[go_sem,seval]
 repeat refine aI ?_
 rcases hS2 with⟨-,hS2⟩|⟨h,-⟩
 ·exact EndL.of (hC1.trans hC2) hll2 ⟨l,rfl,hS2⟩
 ·cases h
theorem CurL.forget (h:CurL K0 H0 K H):CurL K0 H0 fF H:=⟨h.len,h.keep,fun _ _ _=>rfl,h.ro,h.sane,fun _ _=>rfl⟩
theorem OK {seed:List ac}(hs:seed.length=32)(he:ai (kN seed 1)=ai (kN seed 0))(hC:CurL K0 H0 fF H)(hb:ab H bs=bK [.i64 2,.i64 2]):
  ∃ v K' H',DoneL Tryz.prog 5 [.slice bs 0 2 1,.str seed] fF H v K' H'∧(v= .nilPtr∧K'=fF):=by
 have hlb:=aM hb
 refine dg (Post:=fun v K' H'=>v= .nilPtr∧K'=fF) (by kernel_rfl) (fn:=Tryz.f5) Tryz.func5 rfl (by show 2≤26;decide) (ae ?_)
 simp only[go_sem,seval]
 repeat refine aI ?_
 refine bx (Cc hs he hC hb) (by kernel_rfl) rfl (by simp[aa,V.low,hlb]) hC.sane ?_
 rintro _ K1 H1 hC1 hl1 hv
 subst hv
 simp only[go_sem,seval]
 repeat refine aI ?_
 exact EndL.of (hC1.forget) trivial ⟨rfl,rfl⟩
theorem Hj {seed:List ac}(hs:seed.length=32)(he:ai (kN seed 1)=ai (kN seed 0))(hC:CurL K0 H0 fF H)(hb:ab H bs=bK [.i64 2,.i64 2]):
  ∃ v K' H',DoneL Tryz.prog 6 [.slice bs 0 2 1,.str seed] fF H v K' H'∧v= .bool true:=by
 have hlb:=aM hb
 refine dg (Post:=fun v K' H'=>v= .bool true) (by kernel_rfl) (fn:=Tryz.f6) Tryz.func6 rfl (by show 2≤19;decide) (ae ?_)
 simp only[go_sem,seval]
 repeat refine aI ?_
 refine bx (Cc hs he hC hb) (by kernel_rfl) rfl (by simp[aa,V.low,hlb]) hC.sane ?_
 rintro _ K1 H1 hC1 hl1 hv
 subst hv
 simp only[go_sem,seval]
 repeat refine aI ?_
 exact EndL.of hC1 trivial rfl
end
section
variable {K K0:Nat→Nat}{H H0 H':List (Option Blk)}{K':Nat→Nat}{l kk kX kY n lb fb bs:Nat}{dX dY:cV}{i:Int}
structure Two (i:Int) (h h':BitVec 32) (a b c s s' u u':List ac):Prop where
 hh:i=0∧h=1#32∧h'=2#32∨i=1∧h=2#32∧h'=1#32
 ha:a.length=32
 hb:b.length=32
 hc:c.length=32
 hs:s.length=32
 hs':s'.length=32
 hu:u.length=32
 hu':u'.length=32
theorem OL {seed:List ac}(hs:seed.length=32)(hS:LS K H l (fG 1 (oZ seed) (o6 seed)) (fG 0 (o0 seed) (o7 seed)) none 0 0)(hi:i=0∨i=1):
  ∃ h h' a b c s s' u u',Two i h h' a b c s s' u u'∧LX i K H l (fG (1-i) (DD h a s u 1#64 0#32 0 0) ⟨ai b,c,h',1,1,false,0,0,0#32,[]⟩) (fG i (DD h' b s' u' 1#64 0#32 0 0) ⟨ai a,c,h,1,1,false,0,0,0#32,[]⟩) none 0 0:=by
 have k0:=((⟨1#32,kN seed 0,ai (kN seed 0),kN seed 10,2,0#64,[],0#32,0,0⟩:DS).keyV_spec (cY hs 10).2).2
 have k1:=((⟨2#32,kN seed 1,ai (kN seed 1),kN seed 11,2,0#64,[],0#32,0,0⟩:DS).keyV_spec (cY hs 11).2).2
 rcases hi with rfl|rfl
 ·exact⟨1#32,2#32,kN seed 0,kN seed 1,kN seed 21,kN seed 10,kN seed 11,_,_,⟨.inl ⟨rfl,rfl,rfl⟩,(cY hs 0).2,(cY hs 1).2,(cY hs 21).2,(cY hs 10).2,(cY hs 11).2,k0,k1⟩,.inl ⟨rfl,hS⟩⟩
 ·exact⟨2#32,1#32,kN seed 1,kN seed 0,kN seed 21,kN seed 11,kN seed 10,_,_,⟨.inr ⟨rfl,rfl,rfl⟩,(cY hs 1).2,(cY hs 0).2,(cY hs 21).2,(cY hs 11).2,(cY hs 10).2,k1,k0⟩,.inr ⟨rfl,hS⟩⟩
section
variable {h h':BitVec 32}{a b c s s' u u':List ac}
def Ph (m:Nat)(i:Int)(h h':BitVec 32)(a b c s s' u u':List ac)(dX dY:cV):Prop:=
 (m=0∧StX1 (1-i) h a s u h' b c 200 dX∧StY1 i h' b s' u' h a c 200 false dY)∨(0<m∧∃ key ix2,StX2 (1-i) h a s u h' key ix2 (m:Nat) dX∧StY2 i h' b s' u' h key ix2 (m:Nat) dY)
theorem Ph.idle {m:Nat}(hP:Ph m i h h' a b c s s' u u' dX dY):jD dX∧jD dY:=by
 rcases hP with⟨-,h1,h2⟩|⟨-,key,ix2,h1,h2⟩
 ·exact⟨h1.idle,h2.idle⟩
 ·exact⟨h1.idle,h2.idle⟩
theorem Ph.suite {m:Nat}(hP:Ph m i h h' a b c s s' u u' dX dY)(hm:0<m)(hi:i=0∨i=1):Stp Tryz.prog 20 [.ptr 0 0,.i64 0] dX (.i64 2) dX∧Stp Tryz.prog 20 [.ptr 0 0,.i64 0] dY (.i64 2) dY:=by
 rcases hP with⟨rfl,-⟩|⟨-,key,ix2,h1,h2⟩
 ·omega
 ·exact⟨h1.suite (by omega),h2.suite hi⟩
theorem Ph.next {m:Nat}(hT:Two i h h' a b c s s' u u')(hP:Ph m i h h' a b c s s' u u' dX dY)(hm:m≤100){x:List ac}(hx:x.length≤1000):
  ∃ X1 g1 X2 Y2 r,DAct 26 [.u32 (if i=0 then 167772160#32 else 167772416#32),.u32 (if 1-i=0 then 167772160#32 else 167772416#32),.str x] dX 0 (some g1) 0 X1∧
   AirRun i r X1 dY (some g1) 0 (m+1) X2 Y2 0 (m+1+1)∧r≤3∧Ph (m+1) i h h' a b c s s' u u' X2 Y2:=by
 rcases hP with⟨rfl,h1,h2⟩|⟨hm0,key,ix2,h1,h2⟩
 ·obtain⟨X1,g1,X2,Y2,key,ix2,q1,q2,q3,q4⟩:=Xd hT.hh hT.ha hT.hb hT.hc hT.hs hT.hs' hT.hu hT.hu' h1 h2 hx (kx:=0) (ky:=0+1) (by omega) (by omega)
  exact⟨X1,g1,X2,Y2,3,q1,q2,by decide,.inr ⟨by decide,key,ix2,q3,q4⟩⟩
 ·obtain⟨X1,g1,X2,Y2,q1,q2,q3,q4⟩:=Xc hT.hh h1 h2 (by omega) (by omega) hx (kx:=0) (ky:=m+1) (by omega) (by omega)
  exact⟨X1,g1,X2,Y2,1,q1,q2,by decide,.inr ⟨by omega,key,ix2,q3,q4⟩⟩
end
end
section
variable {K K0:Nat→Nat}{H H0 H':List (Option Blk)}{K':Nat→Nat}{l kk kX kY n lb fb bs α:Nat}{dX dY:cV}{i:Int}
def CX (H:List (Option Blk))(α:Nat)(av:V)(strs:List (List ac)):Prop:=
 (av= .nilSlice∧strs=[])∨(av= .slice α 0 strs.length 1∧α<H.length∧(0<strs.length→ab H α=some ⟨true,strs.map V.str,none⟩))
theorem OM (hs0:Sane H)(t:List ac)(ht:t.length≤140737488355328)(n:Int){av:V}{strs:List (List ac)}(hav:CX H α av strs)(hlen:strs.length≤140737488355328)(hsl:∀ x∈strs,x.length≤140737488355328):
  ∃ v K' H',DoneL Tryz.prog 3 [.str t,.i64 n,av] fF H v K' H'∧v= .bool true:=by
 have hC0:CurL fF H fF H:= .refl hs0 fun _ _=>rfl
 have hJ:=(hC0.junk (vs:=[.i64 n]) (by simp[aa,V.low])).junk (vs:=[.i64 2,.i64 2]) (by simp[aa,V.low])
 refine dg (Post:=fun v K' H'=>v= .bool true) (by kernel_rfl) (fn:=Tryz.f3) Tryz.func3 rfl (by show 3≤90;decide) (ae ?_)
 simp only[go_sem,seval]
 repeat refine aI ?_
 refine cy (La t ht) ?_
 rintro _ ⟨seed,rfl,hs⟩
 simp only[go_sem,seval]
 repeat refine aI ?_
 have gfb:=nZ (H:=H) (x:=bK [.i64 n]) (Y:=[bK [.i64 2,.i64 2]])
 have gbs:ab (H++[bK [.i64 n]]++[bK [.i64 2,.i64 2]]) (H.length+1)=bK [.i64 2,.i64 2]:=by
  have :=cP (H:=H++[bK [.i64 n]]) (x:=bK [.i64 2,.i64 2])
  simpa using this
 have gold:∀ b,b<H.length→ab (H++[bK [.i64 n]]++[bK [.i64 2,.i64 2]]) b=ab H b:=fun b hb=>mS hb
 have hl2:(H++[bK [.i64 n]]++[bK [.i64 2,.i64 2]]).length=H.length+2:=by simp
 generalize (H++[bK [.i64 n]]++[bK [.i64 2,.i64 2]])=M at*
 have hbl:=aM gbs
 by_cases he:ai (kN seed 1)=ai (kN seed 0)
 ·refine bx (OK hs he hJ gbs) (by kernel_rfl) rfl (by simp[aa,V.low,hbl]) hJ.sane ?_
  rintro _ K1 H1 hC1 hl1 ⟨rfl,hK⟩
  subst hK
  have gbs1:=(hC1.keep _ hbl rfl).trans gbs
  have hJ1:=hJ.trans hC1
  have hB:=hJ1.boxed (zs:=[.nilPtr]) (ys:=[.nilPtr]) (by simp[aa,V.low]) (by simp[aa,V.low])
  have gbs2:=(pI (x:=bK [.nilPtr]) (y:=bK [.nilPtr]) (aM gbs1)).trans gbs1
  simp only[go_sem,seval,rA]
  repeat refine aI ?_
  generalize (H1++[bK [.nilPtr]]).set H1.length (bK [.nilPtr])=M2 at*
  refine bx (Hj hs he hB gbs2) (by kernel_rfl) rfl (by simp[aa,V.low,(aM gbs2)]) hB.sane ?_
  rintro _ K2 H2 hC2 hl2 rfl
  simp only[go_sem,seval]
  repeat refine aI ?_
  exact EndL.of (hB.trans hC2) trivial rfl
 refine bx (Q9 hs he hJ gbs) (by kernel_rfl) rfl (by simp[aa,V.low,hbl]) hJ.sane ?_
 rintro _ K1 H1 hC1 hl1 ⟨l,rfl,hS1⟩
 have hfl:=aM gfb
 have hJ1:=hJ.trans hC1
 have hle1:=hC1.len
 have gfb1:=(hC1.keep _ hfl rfl).trans gfb
 have kfb1:=hC1.kin _ hfl rfl
 have gold1:∀ b,b<H.length→ab H1 b=ab H b:=fun b hb=>(hC1.keep b (by omega) rfl).trans (gold b hb)
 have hll1:=hC1.lt (b:=l) (by obtain⟨_,_,_,_,_,_,_,_,h,-⟩:=hS1.ex;rw[h.kl];decide)
 have hB:=hJ1.boxed (zs:=[.nilPtr]) (ys:=[.ptr l 0]) (by simp[aa,V.low]) (by simp[aa,V.low];omega)
 have hSB:=hS1.keep (hC1.kpBox (x:=bK [.nilPtr]) (y:=bK [.ptr l 0]))
 have glb:=rA (H:=H1) (x:=bK [.nilPtr]) (y:=bK [.ptr l 0])
 have gfb2:=(pI (x:=bK [.nilPtr]) (y:=bK [.ptr l 0]) (aM gfb1)).trans gfb1
 have gold2:∀ b,b<H.length→ab ((H1++[bK [.nilPtr]]).set H1.length (bK [.ptr l 0])) b=ab H b:=fun b hb=>(pI (by omega)).trans (gold1 b hb)
 have klb:K1 H1.length=0:=hC1.fresh _ (Nat.le_refl _)
 have hl1n:=hC1.len
 simp only[go_sem,seval,glb]
 repeat refine aI ?_
 have lM2:((H1++[bK [.nilPtr]]).set H1.length (bK [.ptr l 0])).length=H1.length+1:=by simp
 generalize (H1++[bK [.nilPtr]]).set H1.length (bK [.ptr l 0])=M2 at*
 simp only[go_sem,seval,gfb2]
 repeat refine aI ?_
 refine cy (OJ n) ?_
 intro v hv
 obtain⟨i,rfl,hi⟩:∃ i:Int,v= .i64 i∧(i=0∨i=1):=by
  rcases hv with rfl|rfl
  ·exact⟨0,rfl,.inl rfl⟩
  ·exact⟨1,rfl,.inr rfl⟩
 simp only[go_sem,seval,gfb2]
 repeat refine aI ?_
 have hD:=hB.jput (b:=H.length) (vs:=[.i64 i]) (Nat.le_refl _) (by simp[aa,V.low])
 have hSD:=hSB.keep ((hB.kpPut (b:=H.length) (x:=bK [.i64 i])).mono fun r h=>⟨h,by rw[kfb1];exact h⟩)
 have gfb3:ab (M2.set H.length (bK [.i64 i])) H.length=bK [.i64 i]:=iJ (by omega) _
 have glb3:ab (M2.set H.length (bK [.i64 i])) H1.length=bK [.ptr l 0]:=(cp (by omega) _).trans glb
 have gold3:∀ b,b<H.length→ab (M2.set H.length (bK [.i64 i])) b=ab H b:=fun b hb=>(cp (by omega) _).trans (gold2 b hb)
 generalize M2.set H.length (bK [.i64 i])=M3 at*
 obtain⟨h,h',a,b,c,s,s',u,u',hT,hLX⟩:=OL hs hSD hi
 obtain⟨X1,g1,X2,Y2,r1,r2,r3,r4⟩:=Xb hT.hh hT.ha hT.hb hT.hc hT.hs hT.hs' hT.hu hT.hu' (x:=bytesOf ⟨#[102,105,114,115,116]⟩) (by decide) (kx:=0) (ky:=0) (by decide) (by decide)
 have hib:1-i=0∨1-i=1:=by omega
 refine bx (Dn hD hLX glb3 gfb3 klb kfb1 r1 r2 (by decide) (wx _ _ _) (by decide) (by decide)) (by kernel_rfl) rfl (by simp[aa,V.low,(aM glb3),(aM gfb3)]) hD.sane ?_
 rintro _ K2 H2 hC2 hl2 ⟨rfl,hS2⟩
 have hD2:=hD.trans hC2
 have glb4:=(hC2.keep _ (aM glb3) klb).trans glb3
 have hll2:=hC2.lt (b:=l) (by rw[hS2.kl];decide)
 simp only[go_sem,seval,glb4]
 repeat refine aI ?_
 refine bx (A7 hC2 hS2 (r3.suite hib) (r4.suite hi)) (by kernel_rfl) rfl (by simp[aa,V.low,hll2]) hC2.sane ?_
 rintro _ K3 H3 hC3 hl3 ⟨rfl,hS3⟩
 have glb5:=(hC3.keep _ (aM glb4) (hC2.kin _ (aM glb3) klb)).trans glb4
 have hll3:=hC3.lt (b:=l) (by rw[hS3.kl];decide)
 simp only[go_sem,seval,glb5]
 repeat refine aI ?_
 refine bx (A8 hC3 hS3 (r3.suite hib) (r4.suite hi)) (by kernel_rfl) rfl (by simp[aa,V.low,hll3]) hC3.sane ?_
 rintro _ K4 H4 hC4 hl4 ⟨rfl,hS4⟩
 have hC24:=(hC2.trans hC3).trans hC4
 have glb6:=(hC24.keep _ (aM glb3) klb).trans glb3
 have hll4:=hC4.lt (b:=l) (by rw[hS4.kl];decide)
 obtain⟨X3,t1,t2⟩:=r3.tick hib
 obtain⟨Y3,t3,t4⟩:=r4.tick hi
 simp only[go_sem,seval,glb6]
 repeat refine aI ?_
 refine bx (I9 hC4 hS4 t1 t3 (by decide) (by decide)) (by kernel_rfl) rfl (by simp[aa,V.low,hll4]) hC4.sane ?_
 rintro _ K5 H5 hC5 hl5 ⟨rfl,hS5⟩
 have hC25:=hC24.trans hC5
 have hD5:=hD.trans hC25
 have glb7:=(hC25.keep _ (aM glb3) klb).trans glb3
 have gfb7:=(hC25.keep _ (aM gfb3) kfb1).trans gfb3
 have klb7:=hC25.kin _ (aM glb3) klb
 have kfb7:=hC25.kin _ (aM gfb3) kfb1
 have hPh:Ph 0 i h h' a b c s s' u u' X3 Y3:= .inl ⟨rfl,t2,t4⟩
 have hlen5:=hC25.len
 have hH3:=hD.len
 have gold7:∀ b,b<H.length→ab H5 b=ab H b:=fun b hb=>hD5.keep b hb rfl
 simp only[go_sem,seval]
 repeat refine aI ?_
 have hw:aj (1-i)=1-i:=am (by omega) (by omega)
 rcases hav with⟨rfl,rfl⟩|⟨rfl,hα,hg⟩
 ·simp only[go_sem,seval]
  repeat refine aI ?_
  refine aY 1 ?_
  simp only[go_sem,seval,glb7,gfb7,hw]
  repeat refine aI ?_
  refine bx (Dp hC5 hS5 (by omega)) (by kernel_rfl) rfl (by simp[aa,V.low,(hC5.lt (b:=l) (by rw[hS5.kl];decide))]) hC5.sane ?_
  rintro _ K6 H6 hC6 hl6 ⟨hrow,hS6⟩
  have hq:((0+1:Nat):Int)=1:=rfl
  rcases hrow with⟨-,h0⟩|⟨rb,rfl⟩
  ·omega
  have gl6:=(hC6.keep _ (aM glb7) klb7).trans glb7
  have gf6:=(hC6.keep _ (aM gfb7) kfb7).trans gfb7
  simp only[go_sem,seval,hq,gl6,gf6]
  repeat refine aI ?_
  refine bx (xn hC6 hS6 (by decide)) (by kernel_rfl) rfl (by simp[aa,V.low,(hC6.lt (b:=l) (by rw[hS6.kl];decide))]) hC6.sane ?_
  rintro _ K7 H7 hC7 hl7 ⟨hrow2,hS7⟩
  rcases hrow2 with⟨rfl,-⟩|⟨rb2,rfl⟩
  ·simp only[go_sem,seval]
   repeat refine aI ?_
   exact EndL.of ((hD5.trans hC6).trans hC7) trivial rfl
  ·simp only[go_sem,seval]
   repeat refine aI ?_
   exact EndL.of ((hD5.trans hC6).trans hC7) trivial rfl
 ·have hα5:α<H5.length:=by omega
  simp only[go_sem,seval]
  repeat refine aI ?_
  obtain⟨M,hM,hM8,hMl⟩:∃ M:Nat,((if(8:Int)<(strs.length:Int) then 8 else(strs.length:Int))-0).toNat=M∧M≤8∧M≤strs.length:=⟨_,rfl,by split <;>omega,by split <;>omega⟩
  simp only[hM]
  refine bf (fun j st=>∃ (m:Nat) (Km:Nat→Nat) (Hm:List (Option Blk)) (X Y:cV),m+j=M∧CurL fF H Km Hm∧LX i Km Hm l X Y none 0 (m+1)∧Ph m i h h' a b c s s' u u' X Y∧(ab Hm H1.length=bK [.ptr l 0]∧ab Hm H.length=bK [.i64 i]∧Km H1.length=0∧Km H.length=0)∧st=⟨[(4,.ptr H.length 0),(8,.ptr H1.length 0),(9,.fn 8 [] [.ptr H1.length 0,.ptr H.length 0]),(10,.i64 ((1+m:Nat))),(49,.slice α 0 M 1),(50,.i64 M),(51,.i64 m)],Hm⟩) ?_ ?_
  ·exact bP M ⟨[(4,.ptr H.length 0),(8,.ptr H1.length 0),(9,.fn 8 [] [.ptr H1.length 0,.ptr H.length 0]),(10,.i64 ((1+0:Nat))),(49,.slice α 0 M 1),(50,.i64 M),(51,.i64 (0:Nat))],H5⟩ (by simp[St.get,af]) rfl (fun _ _ h=>h) ⟨0,K5,H5,X3,Y3,by omega,hD5,hS5,hPh,⟨glb7,gfb7,klb7,kfb7⟩,rfl⟩
  rintro j st ⟨m,Km,Hm,X,Y,hmj,hCm,hSm,hPm,⟨glm,gfm,klm,kfm⟩,rfl⟩-
  have hllm:=hCm.lt (b:=l) (by rw[hSm.kl];decide)
  by_cases hm:m<M
  rotate_left
  ·have hm':¬ (m:Int)<(M:Int):=by omega
   simp only[go_sem,seval,glm,gfm,hm',hw]
   repeat refine aI ?_
   refine bx (Dp hCm hSm (by omega)) (by kernel_rfl) rfl (by simp[aa,V.low,(hCm.lt (b:=l) (by rw[hSm.kl];decide))]) hCm.sane ?_
   rintro _ K6 H6 hC6 hl6 ⟨hrow,hS6⟩
   have hq:((m+1:Nat):Int)=((1+m:Nat):Int):=by omega
   rcases hrow with⟨-,h0⟩|⟨rb,rfl⟩
   ·omega
   have gl6:=(hC6.keep _ (aM glm) klm).trans glm
   have gf6:=(hC6.keep _ (aM gfm) kfm).trans gfm
   simp only[go_sem,seval,hq,gl6,gf6]
   repeat refine aI ?_
   refine bx (xn hC6 hS6 (by decide)) (by kernel_rfl) rfl (by simp[aa,V.low,(hC6.lt (b:=l) (by rw[hS6.kl];decide))]) hC6.sane ?_
   rintro _ K7 H7 hC7 hl7 ⟨hrow2,hS7⟩
   rcases hrow2 with⟨rfl,-⟩|⟨rb2,rfl⟩
   ·simp only[go_sem,seval]
    repeat refine aI ?_
    exact EndL.of ((hCm.trans hC6).trans hC7) trivial rfl
   ·simp only[go_sem,seval]
    repeat refine aI ?_
    exact EndL.of ((hCm.trans hC6).trans hC7) trivial rfl
  have hm':(m:Int)<(M:Int):=by omega
  have hm0:(0:Int)≤(m:Int):=by omega
  have hgm:=(hCm.keep α hα rfl).trans (hg (by omega))
  obtain⟨x,hx⟩:∃ x,strs[m]?=some x:=⟨strs[m],List.getElem?_eq_getElem (by omega)⟩
  have hxg:(strs.map V.str).getD m .junk= .str x:=by rw[List.getD_eq_getElem?_getD,List.getElem?_map,hx];rfl
  have hxl:=hsl x (List.mem_of_getElem? hx)
  have hml:m<strs.length:=by omega
  simp only[go_sem,seval,hm',hm0,hgm,hxg,List.length_map,hml]
  repeat refine aI ?_
  have hyl:(List.take (if(1000:Int)<(x.length:Int) then 1000 else(x.length:Int)).toNat x).length≤1000:=by
   rw[List.length_take]
   split <;>omega
  generalize List.take (if(1000:Int)<(x.length:Int) then 1000 else(x.length:Int)).toNat x=y at*
  obtain⟨Z1,gz,Z2,W2,r,p1,p2,p3,p4⟩:=hPm.next hT (by omega) hyl
  refine bx (Dn hCm hSm glm gfm klm kfm p1 p2 (by omega) hPm.idle.2 (by decide) (by omega)) (by kernel_rfl) rfl (by simp[aa,V.low,(aM glm),(aM gfm)]) hCm.sane ?_
  rintro _ K6 H6 hC6 hl6 ⟨rfl,hS6⟩
  obtain⟨pX,pY⟩:=p4.suite (by omega) hi
  have gl6:=(hC6.keep _ (aM glm) klm).trans glm
  have hll6:=hC6.lt (b:=l) (by rw[hS6.kl];decide)
  simp only[go_sem,seval,gl6]
  repeat refine aI ?_
  refine bx (A7 hC6 hS6 pX pY) (by kernel_rfl) rfl (by simp[aa,V.low,hll6]) hC6.sane ?_
  rintro _ K7 H7 hC7 hl7 ⟨rfl,hS7⟩
  have hC67:=hC6.trans hC7
  have gl7:=(hC67.keep _ (aM glm) klm).trans glm
  have hll7:=hC7.lt (b:=l) (by rw[hS7.kl];decide)
  simp only[go_sem,seval,gl7]
  repeat refine aI ?_
  refine bx (A8 hC7 hS7 pX pY) (by kernel_rfl) rfl (by simp[aa,V.low,hll7]) hC7.sane ?_
  rintro _ K8 H8 hC8 hl8 ⟨rfl,hS8⟩
  have hC68:=hC67.trans hC8
  have gl8:=(hC68.keep _ (aM glm) klm).trans glm
  have gf8:=(hC68.keep _ (aM gfm) kfm).trans gfm
  have w1:=gM (i:=1+m) (by omega)
  have w2:=gM (i:=m) (by omega)
  simp only[go_sem,seval,w1,w2]
  refine bL (j-1) ⟨[(4,.ptr H.length 0),(8,.ptr H1.length 0),(9,.fn 8 [] [.ptr H1.length 0,.ptr H.length 0]),(10,.i64 ((1+(m+1):Nat))),(49,.slice α 0 M 1),(50,.i64 M),(51,.i64 (m+1:Nat))],H8⟩ (by omega) (by simp[St.get,af];omega) rfl (fun _ _ h=>h) ⟨m+1,K8,H8,_,_,by omega,hCm.trans hC68,hS8,p4,⟨gl8,gf8,hC68.kin _ (aM glm) klm,hC68.kin _ (aM gfm) kfm⟩,rfl⟩
end
theorem Cd:∀ {rows:List (List V)},(∀ r∈rows,Kinds [.str] r)→∃ strs:List (List ac),rows.flatten=strs.map V.str∧strs.length=rows.length∧∀ x∈strs,x.length≤140737488355328
 |[],_=>⟨[],rfl,rfl,by simp⟩
 |r::rows,h=>by
  obtain⟨strs,h1,h2,h3⟩:=Cd (rows:=rows) fun r hr=>h r (by simp[hr])
  obtain⟨v,l',rfl,⟨s,rfl,hs⟩,rfl⟩:=h r (by simp)
  refine⟨s::strs,by rw[List.flatten_cons,h1];rfl,by simp[h2],fun x hx=>?_⟩
  rcases List.mem_cons.1 hx with rfl|hx
  ·omega
  ·exact h3 x hx
theorem Ce:∀ (strs:List (List ac)) (n:Nat),aa n (strs.map V.str)
 |[],_=>trivial
 |_::l,n=>⟨trivial,Ce l n⟩
end Go.Vm
end
