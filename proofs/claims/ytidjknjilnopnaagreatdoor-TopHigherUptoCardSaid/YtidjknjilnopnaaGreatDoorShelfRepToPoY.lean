/- Proved: laws of a machine of values; no conditions but each theorem's own. -/
import Derived.Shelf.Strings.Repeat
import Derived.Test.YtidjknjilnopnaaGreatDoorHeadToShA
set_option linter.unusedVariables false
set_option linter.unusedSimpArgs false
set_option maxRecDepth 20000
set_option maxHeartbeats 8000000
section
namespace Go.Vm
open Go.Proofs Go.Shelf
section
def shelf_lays105_ren:Go.Shelf.Ren:=⟨fun |105=>36|212=>55|99=>56|165=>57|166=>58|170=>59|169=>60|263=>83|264=>84|206=>85|240=>86|241=>87|276=>116|277=>117|n=>n,fun |9=>9|3=>3|4=>4|20=>20|0=>0|46=>38|109=>121|5=>5|72=>126|76=>130|51=>29|146=>160|53=>81|148=>162|70=>124|37=>66|75=>129|127=>164|164=>210|80=>108|n=>n,fun |n=>n⟩
theorem shelf_lays105:Go.Proofs.Lays.n105 Tryz.prog shelf_lays105_ren:={
 mixed:=ac
 f99:=Tryz.func56.trans (congrArg some ac)
 f105:=Tryz.func36.trans (congrArg some ac)
 f165:=Tryz.func57.trans (congrArg some ac)
 f166:=Tryz.func58.trans (congrArg some ac)
 f169:=Tryz.func60.trans (congrArg some ac)
 f170:=Tryz.func59.trans (congrArg some ac)
 f206:=Tryz.func85.trans (congrArg some ac)
 f212:=Tryz.func55.trans (congrArg some ac)
 f240:=Tryz.func86.trans (congrArg some ac)
 f241:=Tryz.func87.trans (congrArg some ac)
 f263:=Tryz.func83.trans (congrArg some ac)
 f264:=Tryz.func84.trans (congrArg some ac)
 f276:=Tryz.func116.trans (congrArg some ac)
 f277:=Tryz.func117.trans (congrArg some ac)
 t0:=Tryz.underlying0
 a0:=Tryz.isAgg0
 z0:=Tryz.sizeOf0
 v0:=Tryz.zeroValue0
 t3:=Tryz.underlying3
 a3:=Tryz.isAgg3
 z3:=Tryz.sizeOf3
 v3:=Tryz.zeroValue3
 t4:=Tryz.underlying4
 a4:=Tryz.isAgg4
 z4:=Tryz.sizeOf4
 v4:=Tryz.zeroValue4
 t5:=Tryz.underlying5
 a5:=Tryz.isAgg5
 z5:=Tryz.sizeOf5
 v5:=Tryz.zeroValue5
 t9:=Tryz.underlying9
 a9:=Tryz.isAgg9
 z9:=Tryz.sizeOf9
 v9:=Tryz.zeroValue9
 t20:=Tryz.underlying20
 a20:=Tryz.isAgg20
 z20:=Tryz.sizeOf20
 v20:=Tryz.zeroValue20
 t37:=Tryz.underlying66
 a37:=Tryz.isAgg66
 z37:=Tryz.sizeOf66
 v37:=Tryz.zeroValue66
 t46:=Tryz.underlying38
 a46:=Tryz.isAgg38
 z46:=Tryz.sizeOf38
 v46:=Tryz.zeroValue38
 t51:=Tryz.underlying29
 a51:=Tryz.isAgg29
 z51:=Tryz.sizeOf29
 v51:=Tryz.zeroValue29
 t53:=Tryz.underlying81
 a53:=Tryz.isAgg81
 z53:=Tryz.sizeOf81
 v53:=Tryz.zeroValue81
 t70:=Tryz.underlying124
 a70:=Tryz.isAgg124
 z70:=Tryz.sizeOf124
 v70:=Tryz.zeroValue124
 t72:=Tryz.underlying126
 a72:=Tryz.isAgg126
 z72:=Tryz.sizeOf126
 v72:=Tryz.zeroValue126
 t75:=Tryz.underlying129
 a75:=Tryz.isAgg129
 z75:=Tryz.sizeOf129
 v75:=Tryz.zeroValue129
 t76:=Tryz.underlying130
 a76:=Tryz.isAgg130
 z76:=Tryz.sizeOf130
 v76:=Tryz.zeroValue130
 t109:=Tryz.underlying121
 a109:=Tryz.isAgg121
 z109:=Tryz.sizeOf121
 v109:=Tryz.zeroValue121
 t127:=Tryz.underlying164
 a127:=Tryz.isAgg164
 z127:=Tryz.sizeOf164
 v127:=Tryz.zeroValue164
 t146:=Tryz.underlying160
 a146:=Tryz.isAgg160
 z146:=Tryz.sizeOf160
 v146:=Tryz.zeroValue160
 t148:=Tryz.underlying162
 a148:=Tryz.isAgg162
 z148:=Tryz.sizeOf162
 v148:=Tryz.zeroValue162
 t164:=Tryz.underlying210
 a164:=Tryz.isAgg210
 z164:=Tryz.sizeOf210
 v164:=Tryz.zeroValue210}
theorem CA:Builder.Extra Tryz.prog shelf_lays105_ren:={
 sizeBuilder:=ac
 liesBuilder:=ac
 t5:=Tryz.underlying5
 a5:=Tryz.isAgg5
 z5:=Tryz.sizeOf5
 v5:=Tryz.zeroValue5
 infoByte:=ac
 cellsByte:=ac
 sizeByte:=ac
 neB5:=by decide}
open Go.RowKit Go.Lib in
theorem Vd (s:ByteArray)(c:Nat)(w:World)(hc:c<=9223372036854775807)(a:s.size*c<=140737488355328):
  Calls Tryz.prog 36 #[.string s,.int .i64 c] w fun e w'=>e= .returned (.string ⟨(Lib.repeatL s.data.toList c).toArray⟩)/\Below w.heap.size w w':=Any.strings_Repeat shelf_lays105 CA s c w hc a
end
end Go.Vm
end
section
namespace Go.Vm
open Go.Proofs Go.Proofs.Tryz
def sH (s:List (BitVec 8)):List (BitVec 8):=s++List.replicate ((16-s.length%16)%16) 0
theorem yJ (s:List (BitVec 8)):(sH s).length=16*((s.length+15)/16):=by unfold sH;rw[aE,gv];omega
theorem acQ (k:Nat):∀ (l:List UInt8),l.map UInt8.toBitVec=[0#8]->(Lib.repeatL l k).map UInt8.toBitVec=List.replicate k 0#8:=by
 intro l h;induction k with
 |zero=>rfl
 |succ k ih=>rw[Lib.repeatL,gD,ih,h,pz];rfl
theorem vD (k:Nat)(l:k<=1000):aG prog 36 [.str [0#8],.i64 k] (.str (List.replicate k 0#8)):=by
 refine EZ ac (by simp[af,V.low]) (by simp[V.low]) fun w a c=>?_
 unfold VRs at c;obtain⟨r1,rs,m,h1,c⟩:=c;unfold VRs at c;obtain⟨r2,h,i,h2,c⟩:=c;unfold VRs at c;unfold VR at h1 h2;obtain⟨b,rfl,g⟩:=h1;subst h2 c i;have j:a=#[.string b,.int .i64 k]:=by cases a;simp_all
 subst j;have d:b.size=1:=by
  have :=congrArg List.length g;unfold bytesOf at this;rw[ba,xv] at this;exact this
 refine(Vd b k w aa (by rw[d];omega)).mono ?_;rintro e w' ⟨rfl,f⟩;refine⟨_,rfl,?_,f⟩;unfold VR;exact⟨_,rfl,acQ k _ g⟩
def SumK (key:List ai)(many:Int)(v:V):Prop:=(v= .tup [.str [],.i64 1]/\(many<1\/32<many\/32<key.length))\/(1<=many/\many<=32/\key.length<=32/\∃ o:List ai,(o.length:Int)=many/\v= .tup [.str o,.i64 0])
theorem SumK.low {key:List ai}{many:Int}{v:V}(h:SumK key many v):v.low 0:=by
 rcases h with⟨rfl,-⟩|⟨-,-,-,o,-,rfl⟩<;>simp[V.low,af]
theorem Ky (key s0:List ai)(many:Int)(hk:key.length<=1099511627776)(hs0:s0.length<=1099511627776):∃ v,aG prog 74 [.str key,.str s0,.i64 many] v/\SumK key many v:=by
 by_cases g1:many<1
 ·refine jm (Post:=SumK key many) ac ac (fn:=f74) func74 rfl am (by simp[af,V.low]) (fun v h=>h.low) (ak ?_);simp -implicitDefEqProofs only[go_sem,↓reduceIte,Nat.reduceEqDiff,Nat.reduceLT,Nat.reduceAdd,reduceCtorEq,g1];exact .inl ⟨rfl,aa⟩
 by_cases g2:32<many
 ·refine jm (Post:=SumK key many) ac ac (fn:=f74) func74 rfl am (by simp[af,V.low]) (fun v h=>h.low) (ak ?_);simp -implicitDefEqProofs only[go_sem,↓reduceIte,Nat.reduceEqDiff,Nat.reduceLT,Nat.reduceAdd,reduceCtorEq,g1,g2];exact .inl ⟨rfl,aa⟩
 by_cases g3:32<(key.length:Int)
 ·refine jm (Post:=SumK key many) ac ac (fn:=f74) func74 rfl am (by simp[af,V.low]) (fun v h=>h.low) (ak ?_);simp -implicitDefEqProofs only[go_sem,↓reduceIte,Nat.reduceEqDiff,Nat.reduceLT,Nat.reduceAdd,reduceCtorEq,g1,g2,g3];exact .inl ⟨rfl,aa⟩
 have ek:ao (64-(key.length:Int))=((64-key.length:Nat):Int):=by rw[az aa aa];omega
 refine jm (Post:=SumK key many) ac ac (fn:=f74) func74 rfl am (by simp[af,V.low]) (fun v h=>h.low) (ak ?_);simp -implicitDefEqProofs only[go_sem,↓reduceIte,Nat.reduceEqDiff,Nat.reduceLT,Nat.reduceAdd,reduceCtorEq,g1,g2,g3];refine dZ (GA) ?_;rintro _ ⟨hs,hhs,rfl⟩;simp -implicitDefEqProofs only[go_sem,↓reduceIte,Nat.reduceEqDiff,Nat.reduceLT,Nat.reduceLeDiff,Int.reduceLE,Int.reduceLT,Int.reduceToNat,BitVec.reduceOfInt,BitVec.reduceToNat,reduceCtorEq,↓xz,hhs,bL,gv,ba,fJ V.u32 0#32,lM,ek];repeat refine aJ ?_
 refine ab6 (fun s=>∃ (t:List (Nat×V)) (s1:List ai) (hs:List (BitVec 32)),hs.length=8/\s1.length<=2199023255552/\s=⟨t,[bK (hs.map .u32)]⟩/\aj t 1= .str s1/\aj t 2= .i64 many/\aj t 8= .ptr 0 0/\aj t 9= .u64 0#64) (fun rest=>?_) ⟨_,s0,_,by rw[aY];exact hhs,aa,rfl,rfl,rfl,rfl,rfl⟩ ?_
 ·refine au (vD (64-key.length) aa) ?_;simp -implicitDefEqProofs only[go_sem,↓reduceIte,Nat.reduceEqDiff,Nat.reduceLT,Int.reduceLT,BitVec.reduceOfInt];repeat refine aJ ?_
  exact rest _ ⟨_,_,_,by rw[aY];exact hhs,by simp;omega,rfl,rfl,rfl,rfl,rfl⟩
 clear hhs hs ek;rintro s ⟨t,s1,hs,hhs,hs1,rfl,h1,h2,h8,h9⟩;refine bq (fun j st=>∃ (s1:List ai) (hs:List (BitVec 32)) (x:BitVec 64),s1.length=j/\s1.length<=2199023255552/\hs.length=8/\st=⟨[(1,.str s1),(2,.i64 many),(8,.ptr 0 0),(9,.u64 x)],[bK (hs.map .u32)]⟩) ?_ ?_
 ·refine k7 (s1.length) [1,2,8,9] 1 ae ae (by simp[dG,St.get,V.low,-List.map_take,-List.map_drop,-List.map_map,-List.map_set,h1,h2,h8,h9]) (by simp[bD,-List.map_take,-List.map_drop,-List.map_map,-List.map_set]) ?_;simp only[dt,bN,cO,St.get,cj,ez,h1,h2,h8,h9];exact⟨_,_,_,rfl,hs1,hhs,rfl⟩
 clear hs1 hhs h1 h2 h8 h9 t s1 hs;rintro j st ⟨s1,hs,x,rfl,hs1,hhs,rfl⟩-;by_cases h64:64<(s1.length:Int)
 ·simp -implicitDefEqProofs only[go_sem,↓reduceIte,Nat.reduceEqDiff,Nat.reduceLT,Int.reduceLE,Int.reduceLT,Int.reduceToNat,BitVec.reduceOfInt,h64,ba,hhs,ar (show hs.length<=8 by omega)];repeat refine aJ ?_
  refine pQ (F8 hs hhs (s1.take 64) (by simp;omega) _ _) ?_;rintro _ ⟨hs',rfl,hhs'⟩;simp -implicitDefEqProofs only[go_sem,↓reduceIte,Nat.reduceEqDiff,Nat.reduceLT,Int.reduceLE,Int.reduceToNat,bL,ba,hhs,hhs'];repeat refine aJ ?_
  refine nh (s1.length-64) [1,2,8,9] 1 aa ae ae (by simp[dG,St.get,aj,V.low,-List.map_take,-List.map_drop,-List.map_map,-List.map_set]) (by simp[bD,-List.map_take,-List.map_drop,-List.map_map,-List.map_set]) ?_;simp only[dt,bN,cO,St.get,aj,↓reduceIte,Nat.reduceEqDiff,cj,ez];exact⟨_,_,_,ae,by simp;omega,hhs',rfl⟩
 have e2:ao (64-(s1.length:Int))=((64-s1.length:Nat):Int):=by rw[az aa aa];omega
 simp -implicitDefEqProofs only[go_sem,↓reduceIte,Nat.reduceEqDiff,Nat.reduceLT,h64,ba,hhs,ar (show hs.length<=8 by omega),e2];repeat refine aJ ?_
 refine aX (vD (64-s1.length) aa) ?_;simp -implicitDefEqProofs only[go_sem,↓reduceIte,Nat.reduceEqDiff,Nat.reduceLT];repeat refine aJ ?_
 refine pQ (F8 hs hhs _ (by simp;omega) _ _) ?_;rintro _ ⟨hs',rfl,hhs'⟩;simp -implicitDefEqProofs only[go_sem,↓reduceIte,Nat.reduceEqDiff,Nat.reduceLT,bL,ba,hhs,hhs',ar (show hs'.length<=8 by omega)];repeat refine aJ ?_
 obtain⟨mn,rfl⟩:∃ mn:Nat,many=(mn:Int):=⟨many.toNat,aa⟩;refine bq (fun j st=>∃ i:Nat,i+j=8/\((i=0/\st=⟨[(2,.i64 mn),(8,.ptr 0 0),(72,.agg (hs'.map .u32)),(73,.i64 (0:Nat)),(10,.nilSlice)],[bK (hs'.map .u32)]⟩)\/(0<i/\∃ bs:List ai,bs.length=4*i/\st=⟨[(2,.i64 mn),(8,.ptr 0 0),(72,.agg (hs'.map .u32)),(73,.i64 i),(10,.slice 1 0 bs.length 1)],[bK (hs'.map .u32),bK (bs.map .u8)]⟩))) ?_ ?_
 ·refine k7 (8) [2,8,72,73,10] 1 ae ae (by simp[dG,St.get,aj,V.low,-List.map_take,-List.map_drop,-List.map_map,-List.map_set]) (by simp[bD,-List.map_take,-List.map_drop,-List.map_map,-List.map_set]) ?_;simp only[dt,bN,cO,St.get,aj,↓reduceIte,Nat.reduceEqDiff,cj,ez];exact⟨0,aa,.inl ⟨rfl,rfl⟩⟩
 clear hs1 hhs h64 e2 s1 hs x;rintro j st ⟨i,hij,hcase⟩-;by_cases hi:i<8
 ·have hi':(i:Int)<8:=aa;have hw1:=dw (i:=i) aa;rcases hcase with⟨rfl,rfl⟩|⟨hi0,bs,hbs,rfl⟩
  ·simp -implicitDefEqProofs only[go_sem,↓reduceIte,Nat.reduceEqDiff,Nat.reduceLT,Int.reduceLT,Int.reduceToNat,ba,hhs',fJ V.u32 0#32];repeat refine aJ ?_
   refine aS [] (zt ((hs'.getD 0 0#32).setWidth 64)) ac ae rfl ae aM ae ae ae ae ae ?_;simp -implicitDefEqProofs only[go_sem,↓reduceIte,Nat.reduceEqDiff,Nat.reduceLT,Nat.reduceAdd,Nat.reduceSub,Int.reduceLE,Int.reduceAdd,Int.reduceNeg];exact fZ (j-1) ⟨[(2,.i64 mn),(8,.ptr 0 0),(72,.agg (hs'.map .u32)),(73,.i64 (0+1:Nat)),(10,.slice 1 0 (aV ((hs'.getD 0 0#32).setWidth 64).toNat 4).length 1)],[bK (hs'.map .u32),bK ((aV ((hs'.getD 0 0#32).setWidth 64).toNat 4).map .u8)]⟩ [0,1] aa rfl ae rfl ah (by simp[dJ,St.get,aj,bT,-List.map_map,-List.map_set]) ae ⟨0+1,aa,.inr ⟨aa,_,by simp[bT],rfl⟩⟩
  ·simp -implicitDefEqProofs only[go_sem,↓reduceIte,Nat.reduceEqDiff,Nat.reduceLT,hi',ba,hhs',fJ V.u32 0#32,hi];repeat refine aJ ?_
   refine aS [1] (Ew bs ((hs'.getD i 0#32).setWidth 64) aa) ac ae rfl ae aM ae ae ae ae ae ?_;simp -implicitDefEqProofs only[go_sem,↓reduceIte,Nat.reduceEqDiff,Nat.reduceLT,Nat.reduceAdd,Nat.reduceSub,hw1];exact fZ (j-1) ⟨[(2,.i64 mn),(8,.ptr 0 0),(72,.agg (hs'.map .u32)),(73,.i64 (i+1:Nat)),(10,.slice 1 0 (bs++aV ((hs'.getD i 0#32).setWidth 64).toNat 4).length 1)],[bK (hs'.map .u32),bK ((bs++aV ((hs'.getD i 0#32).setWidth 64).toNat 4).map .u8)]⟩ [0,2] aa rfl ae rfl ah (by simp[dJ,St.get,aj,bT,-List.map_map,-List.map_set]) ae ⟨i+1,aa,.inr ⟨aa,_,by simp[bT,hbs];omega,rfl⟩⟩
 have hi':¬ (i:Int)<8:=aa;rcases hcase with⟨rfl,rfl⟩|⟨hi0,bs,hbs,rfl⟩
 ·omega
 simp -implicitDefEqProofs only[go_sem,↓reduceIte,Nat.reduceEqDiff,Nat.reduceLT,Int.reduceToNat,hi',ba];repeat refine aJ ?_
 exact .inr ⟨aa,aa,aa,_,by simp;omega,rfl⟩
theorem eight {j:List (BitVec 32)}(h:j.length=8):∃ a b c d e f g i:BitVec 32,j=[a,b,c,d,e,f,g,i]:=by
 match j,h with
 |[a,b,c,d,e,f,g,i],_=>exact⟨a,b,c,d,e,f,g,i,rfl⟩
def dR (a b c d e f g i:BitVec 32)(r:List ai)(m:BitVec 64):List V:=[.u32 a,.u32 b,.u32 c,.u32 d,.u32 e,.u32 f,.u32 g,.u32 i,.str r,.u64 m]
def uJ (n:Nat)(cs:List V):Prop:=∃ a b c d e f g i r m,cs=dR a b c d e f g i r m/\r.length<n
theorem Y5 (σ:Nat->Nat)(a b c d e f g i:BitVec 32)(r:List ai)(m:BitVec 64):rens σ (dR a b c d e f g i r m)=dR a b c d e f g i r m:=by simp[dR,rens,V.ren]
theorem abP (n:Nat)(a b c d e f g i:BitVec 32)(r:List ai)(m:BitVec 64):af n (dR a b c d e f g i r m)=True:=by simp[dR,af,V.low]
attribute [go_sem, simp] Y5 abP
theorem aax:∃ v h',aq prog 110 [] [] v h'/\(v= .ptr 0 0/\∃ cs,uJ 1 cs/\h'=[bK cs]):=by
 refine fP (Post:=fun v h'=>v= .ptr 0 0/\∃ cs,uJ 1 cs/\h'=[bK cs]) ac (fn:=f110) func110 rfl am (ak ?_);simp -implicitDefEqProofs only[go_sem,seval];refine dZ YJ ?_;rintro _ ⟨j,h,rfl⟩;obtain⟨a,b,c,d,e,f,g,i,rfl⟩:=eight h;simp -implicitDefEqProofs only[go_sem,seval];repeat refine aJ ?_
 refine⟨_,_,?_,Fin.take 1 ae ae (by simp[V.low,-List.map_take,-List.map_drop,-List.map_map,-List.map_set]) (by simp[bD,af,V.low,-List.map_take,-List.map_drop,-List.map_map,-List.map_set])⟩;exact⟨rfl,_,⟨a,b,c,d,e,f,g,i,[],0#64,rfl,ae⟩,rfl⟩
theorem acv (cs:List V)(h:uJ 1 cs)(s:List ai)(hs:s.length<=4398046511104):∃ v h',aq prog 111 [.ptr 0 0,.str s] [bK cs] v h'/\(v= .tup []/\∃ cs,uJ 64 cs/\h'=[bK cs]):=by
 obtain⟨a,b,c,d,e,f,g,i,r,m,rfl,hr⟩:=h;refine fP (Post:=fun v h'=>v= .tup []/\∃ cs,uJ 64 cs/\h'=[bK cs]) ac (fn:=f111) func111 rfl am (ak ?_);simp -implicitDefEqProofs only[go_sem,seval,dR];repeat refine aJ ?_
 refine bq (fun j st=>∃ (a b c d e f g i:BitVec 32) (r:List ai) (m:BitVec 64),r.length=j/\r.length<=8796093022208/\st=⟨[(0,.ptr 0 0)],[bK (dR a b c d e f g i r m)]⟩) ?_ ?_
 ·refine k7 ((r++s).length) [0] 1 ae ae (by simp[dG,St.get,aj,V.low,-List.map_take,-List.map_drop,-List.map_map,-List.map_set]) (by simp[bD,af,V.low,-List.map_take,-List.map_drop,-List.map_map,-List.map_set]) ?_;simp only[dt,bN,cO,St.get,aj,seval,cj,ez];exact⟨a,b,c,d,e,f,g,i,_,_,rfl,by simp;omega,rfl⟩
 clear hr r a b c d e f g i m;rintro j st ⟨a,b,c,d,e,f,g,i,r,m,rfl,hr,rfl⟩-;by_cases h64:(64:Int)<=(r.length:Int)
 ·simp -implicitDefEqProofs only[go_sem,seval,dR,h64];repeat refine aJ ?_
  refine pQ (HN [a,b,c,d,e,f,g,i] rfl (r.take 64) (by simp;omega)) ?_;rintro _ ⟨hs,hhs,rfl⟩;obtain⟨a,b,c,d,e,f,g,i,rfl⟩:=eight hhs;simp -implicitDefEqProofs only[go_sem,seval];repeat refine aJ ?_
  refine nh (r.length-64) [0] 1 aa ae ae (by simp[dG,St.get,aj,V.low,-List.map_take,-List.map_drop,-List.map_map,-List.map_set]) (by simp[bD,af,V.low,-List.map_take,-List.map_drop,-List.map_map,-List.map_set]) ?_;simp only[dt,bN,cO,St.get,aj,seval,cj,ez];exact⟨a,b,c,d,e,f,g,i,_,_,ae,by simp;omega,rfl⟩
 ·simp -implicitDefEqProofs only[go_sem,seval,dR,h64];refine⟨_,_,?_,Fin.take 1 ae ae (by simp[eL,af,V.low,-List.map_take,-List.map_drop,-List.map_map,-List.map_set]) (by simp[bD,af,V.low,-List.map_take,-List.map_drop,-List.map_map,-List.map_set])⟩;exact⟨rfl,_,⟨a,b,c,d,e,f,g,i,r,m,rfl,aa⟩,rfl⟩
theorem agd (cs:List V)(h:uJ 64 cs):∃ v h',aq prog 112 [.ptr 0 0] [bK cs] v h'/\(∃ o:List ai,o.length=32/\v= .str o/\h'=[bK cs]):=by
 obtain⟨a,b,c,d,e,f,g,i,r,m,rfl,hr⟩:=h;refine fP (Post:=fun v h'=>∃ o:List ai,o.length=32/\v= .str o/\h'=[bK (dR a b c d e f g i r m)]) ac (fn:=f112) func112 rfl am (ak ?_);simp -implicitDefEqProofs only[go_sem,seval,dR,ba];repeat refine aJ ?_
 refine bq (fun j st=>∃ (bs:List ai),(bs.length+j)%64=56/\j<64/\bs.length+j<=192/\st=⟨[(0,.ptr 0 0),(3,.slice 1 0 bs.length 1)],[bK (dR a b c d e f g i r m),bK (bs.map .u8)]⟩) ?_ ?_
 ·exact Gc ((120-(r.length+1))%64) ⟨[(0,.ptr 0 0),(3,.slice 1 0 (r++[128#8]).length 1)],[bK (dR a b c d e f g i r m),bK ((r++[128#8]).map .u8)]⟩ [0,3] rfl ae rfl ah (by simp[dJ,St.get,aj,-List.map_map,-List.map_set]) (by simp[dR,-List.map_map,-List.map_set]) ⟨_,by simp;omega,aa,by simp;omega,rfl⟩
 clear hr;rintro j st ⟨bs,hb1,hb2,hb3,rfl⟩-;by_cases hx:bs.length%64=56
 ·have hx':(bs.length:Int).tmod 64=56:=by rw[Int.tmod_eq_emod_of_nonneg aa];omega
  simp -implicitDefEqProofs only[go_sem,seval,hx',dR];repeat refine aJ ?_
  refine aS [1] (yX bs (8#64*m) aa) ac ae rfl ae aM ae ae ae ae ae ?_;simp -implicitDefEqProofs only[go_sem,seval];repeat refine aJ ?_
  refine And.intro (by rw[cF];omega) ?_;refine bq (fun j st=>∃ (s1:List ai) (a' b' c' d' e' f' g' i':BitVec 32),s1.length=j/\s1.length%64=0/\s1.length<=200/\st=⟨[(0,.ptr 0 0),(4,.ptr 2 0),(5,.str s1)],[bK (dR a b c d e f g i r m),none,bK [.u32 a',.u32 b',.u32 c',.u32 d',.u32 e',.u32 f',.u32 g',.u32 i']]⟩) ?_ ?_
  ·refine k7 ((List.take (bs.length+8) (bs++bu (8#64*m).toNat 8)).length) [0,4,5] 3 ae ae (by simp[dG,St.get,aj,V.low,-List.map_take,-List.map_drop,-List.map_map,-List.map_set]) (by simp[bD,af,V.low,-List.map_take,-List.map_drop,-List.map_map,-List.map_set]) ?_;simp only[dt,bN,cO,St.get,aj,seval,cj,ez];exact⟨_,_,_,_,_,_,_,_,_,rfl,by simp[cF];omega,by simp[cF];omega,rfl⟩
  clear hx hx' hb1 hb2 hb3 bs;rintro j st ⟨s1,a',b',c',d',e',f',g',i',rfl,hs1,hs2,rfl⟩-;by_cases h0:s1=[]
  ·subst h0;simp -implicitDefEqProofs only[go_sem,seval,dR];obtain⟨hs,hhs,ee⟩:∃ hs:List (BitVec 32),hs.length=8/\[V.u32 a',V.u32 b',V.u32 c',V.u32 d',V.u32 e',V.u32 f',V.u32 g',V.u32 i']=hs.map V.u32:=⟨[a',b',c',d',e',f',g',i'],rfl,rfl⟩;rw[ee];refine bq (fun j st=>∃ k:Nat,k+j=8/\((k=0/\st=⟨[(43,.agg (hs.map .u32)),(44,.i64 (0:Nat)),(6,.nilSlice)],[bK (dR a b c d e f g i r m)]⟩)\/(0<k/\∃ bs:List ai,bs.length=4*k/\st=⟨[(43,.agg (hs.map .u32)),(44,.i64 k),(6,.slice 1 0 bs.length 1)],[bK (dR a b c d e f g i r m),bK (bs.map .u8)]⟩))) ?_ ?_
   ·refine k7 (8) [43,44,6] 1 ae ae (by simp[dG,St.get,aj,V.low,-List.map_take,-List.map_drop,-List.map_map,-List.map_set]) (by simp[bD,af,V.low,-List.map_take,-List.map_drop,-List.map_map,-List.map_set]) ?_;simp only[dt,bN,cO,St.get,aj,seval,cj,ez];exact⟨0,aa,.inl ⟨rfl,rfl⟩⟩
   clear hs1 hs2 ee;rintro j st ⟨k,hij,hcase⟩-;by_cases hi:k<8
   ·have hi':(k:Int)<8:=aa;have hw1:=dw (i:=k) aa;rcases hcase with⟨rfl,rfl⟩|⟨hi0,bs,hbs,rfl⟩
    ·simp -implicitDefEqProofs only[go_sem,seval,ba,hhs,fJ V.u32 0#32];repeat refine aJ ?_
     refine aS [] (La ((hs.getD 0 0#32).setWidth 64)) ac ae rfl ae aM ae ae ae ae ae ?_;simp -implicitDefEqProofs only[go_sem,seval];exact fZ (j-1) ⟨[(43,.agg (hs.map .u32)),(44,.i64 (0+1:Nat)),(6,.slice 1 0 (bu ((hs.getD 0 0#32).setWidth 64).toNat 4).length 1)],[bK (dR a b c d e f g i r m),bK ((bu ((hs.getD 0 0#32).setWidth 64).toNat 4).map .u8)]⟩ [0,1] aa rfl ae rfl ah (by simp[dJ,St.get,aj,cF,-List.map_map,-List.map_set]) (by simp[dR,-List.map_map,-List.map_set]) ⟨0+1,aa,.inr ⟨aa,_,by simp[cF],rfl⟩⟩
    ·simp -implicitDefEqProofs only[go_sem,seval,hi',ba,hhs,fJ V.u32 0#32,hi];repeat refine aJ ?_
     refine aS [1] (ym bs ((hs.getD k 0#32).setWidth 64) aa) ac ae rfl ae aM ae ae ae ae ae ?_;simp -implicitDefEqProofs only[go_sem,seval,hw1];exact fZ (j-1) ⟨[(43,.agg (hs.map .u32)),(44,.i64 (k+1:Nat)),(6,.slice 1 0 (bs++bu ((hs.getD k 0#32).setWidth 64).toNat 4).length 1)],[bK (dR a b c d e f g i r m),bK ((bs++bu ((hs.getD k 0#32).setWidth 64).toNat 4).map .u8)]⟩ [0,2] aa rfl ae rfl ah (by simp[dJ,St.get,aj,cF,-List.map_map,-List.map_set]) (by simp[dR,-List.map_map,-List.map_set]) ⟨k+1,aa,.inr ⟨aa,_,by simp[cF,hbs];omega,rfl⟩⟩
   have hi':¬ (k:Int)<8:=aa;rcases hcase with⟨rfl,rfl⟩|⟨hi0,bs,hbs,rfl⟩
   ·omega
   simp -implicitDefEqProofs only[go_sem,seval,hi',ba];repeat refine aJ ?_
   refine⟨_,_,?_,Fin.take 1 ae ae (by simp[V.low,-List.map_take,-List.map_drop,-List.map_map,-List.map_set]) (by simp[bD,-List.map_take,-List.map_drop,-List.map_map,-List.map_set])⟩;refine⟨_,?_,rfl,rfl⟩;rw[hbs];omega
  ·have hpos:0<s1.length:=rH.2 h0;simp -implicitDefEqProofs only[go_sem,seval,h0];repeat refine aJ ?_
   refine pQ (HN [a',b',c',d',e',f',g',i'] rfl (s1.take 64) (by simp;omega)) ?_;rintro _ ⟨hs,hhs,rfl⟩;obtain⟨a',b',c',d',e',f',g',i',rfl⟩:=eight hhs;simp -implicitDefEqProofs only[go_sem,seval];repeat refine aJ ?_
   refine nh (s1.length-64) [0,4,5] 3 aa ae ae (by simp[dG,St.get,aj,V.low,-List.map_take,-List.map_drop,-List.map_map,-List.map_set]) (by simp[bD,af,V.low,-List.map_take,-List.map_drop,-List.map_map,-List.map_set,dR]) ?_;simp only[dt,bN,cO,St.get,aj,seval,cj,ez,dR];exact⟨_,_,_,_,_,_,_,_,_,ae,by simp;omega,by simp;omega,rfl⟩
 ·have hx':¬ (bs.length:Int).tmod 64=56:=by rw[Int.tmod_eq_emod_of_nonneg aa];omega
  simp -implicitDefEqProofs only[go_sem,seval,hx',ba];repeat refine aJ ?_
  exact fZ (j-1) ⟨[(0,.ptr 0 0),(3,.slice 1 0 (bs++[0#8]).length 1)],[bK (dR a b c d e f g i r m),bK ((bs++[0#8]).map .u8)]⟩ [0,3] aa rfl ae rfl ah (by simp[dJ,St.get,aj,-List.map_map,-List.map_set]) (by simp[dR,-List.map_map,-List.map_set]) ⟨_,by simp;omega,aa,by simp;omega,rfl⟩
theorem adO (s:List ai)(b:s.length<=4398046511104):∃ v,aG prog 75 [.str s] v/\∃ o:List ai,o.length=32/\v= .str o:=by
 obtain⟨_,_,c,rfl,d,h1,rfl⟩:=aax;obtain⟨_,_,hw,rfl,e,h2,rfl⟩:=acv d h1 s b;obtain⟨_,_,a,o,f,rfl,rfl⟩:=agd e h2;obtain⟨g,i,d1,j,f1,g1,k1,l1,r1,m1,rfl,-⟩:=h1;obtain⟨a2,k,d2,l,f2,g2,k2,l2,r2,m,rfl,-⟩:=h2;refine jm (Post:=fun v=>∃ o:List ai,o.length=32/\v= .str o) ac ac (fn:=f75) func75 rfl am (by simp[af,V.low]) (fun v h=>by first|(obtain⟨s,rfl,h⟩:=h;simp[af,V.low])|(obtain⟨s,h,rfl⟩:=h;simp[V.low])) (ak ?_);simp -implicitDefEqProofs only[go_sem,seval];refine aS [] (c) ac ae rfl ae aM ae ae ae ae ae ?_;simp -implicitDefEqProofs only[go_sem,seval];refine aS [0] (hw) ac ae rfl ae aM ae ae ae ae ae ?_;simp -implicitDefEqProofs only[go_sem,seval];refine aS [0] (a) ac ae rfl ae aM ae ae ae ae ae ?_;simp -implicitDefEqProofs only[go_sem,seval];exact⟨o,f,rfl⟩
def agU (f:V):Prop:=∃ n,f= .fn n [] []/\∀ s:List ai,s.length<=1099511627776->∃ v,aG prog n [.str s] v/\∃ o:List ai,o.length=32/\v= .str o
theorem Mj (s:List ai)(a:s.length<=1099511627776):∃ v,aG prog 73 [.str s] v/\∃ o:List ai,o.length=32/\v= .str o:=by
 refine jm (Post:=fun v=>∃ o:List ai,o.length=32/\v= .str o) ac ac (fn:=f73) func73 rfl am (by simp[af,V.low]) (fun v h=>by first|(obtain⟨s,rfl,h⟩:=h;simp[af,V.low])|(obtain⟨s,h,rfl⟩:=h;simp[V.low])) (ak ?_);simp -implicitDefEqProofs only[go_sem,seval];refine dZ (Ky [] s 32 ae a) ?_;rintro _ (⟨-,h⟩|⟨-,-,-,o,b,rfl⟩)
 ·exact absurd h ae
 ·simp -implicitDefEqProofs only[go_sem,seval];exact⟨o,aa,rfl⟩
theorem Jw (k:Int)(a:k=1\/k=2):∃ v,aG prog 51 [.i64 k] v/\agU v:=by
 rcases a with rfl|rfl
 ·refine⟨.fn 73 [] [],?_,_,rfl,Mj⟩;refine aQ ac (fn:=f51) ac func51 rfl am (by simp[af,V.low]) (by simp[af,V.low]) (ak ?_);simp -implicitDefEqProofs only[go_sem,seval,ntmps51,results51]
 ·refine⟨.fn 75 [] [],?_,_,rfl,fun s b=>adO s aa⟩;refine aQ ac (fn:=f51) ac func51 rfl am (by simp[af,V.low]) (by simp[af,V.low]) (ak ?_);simp -implicitDefEqProofs only[go_sem,seval,ntmps51,results51]
theorem P6 (k:Int)(a:k=1\/k=2)(s:List ai)(b:s.length<=1099511627776):∃ v,aG prog 172 [.i64 k,.str s] v/\∃ o:List ai,o.length=32/\v= .tup [.str o,.i64 0]:=by
 refine jm (Post:=fun v=>∃ o:List ai,o.length=32/\v= .tup [.str o,.i64 0]) ac ac (fn:=f172) func172 rfl am (by simp[af,V.low]) (fun v h=>by first|(obtain⟨s,rfl,h⟩:=h;simp[af,V.low])|(obtain⟨s,h,rfl⟩:=h;simp[af,V.low])) (ak ?_);simp -implicitDefEqProofs only[go_sem,seval];refine dZ (Jw k a) ?_;rintro _ ⟨f,rfl,c⟩;simp -implicitDefEqProofs only[go_sem,seval];refine dZ (c s b) ?_;rintro _ ⟨o,d,rfl⟩;simp -implicitDefEqProofs only[go_sem,seval];exact⟨o,d,rfl⟩
theorem Dd (k:Int)(i:k=1\/k=2)(key s:List ai)(e:key.length<=1099511627776)(m:s.length<=549755813888):∃ v,aG prog 34 [.i64 k,.str key,.str s] v/\∃ o:List ai,o.length=32/\v= .tup [.str o,.i64 0]:=by
 refine jm (Post:=fun v=>∃ o:List ai,o.length=32/\v= .tup [.str o,.i64 0]) ac ac (fn:=f34) func34 rfl am (by simp[af,V.low]) (fun v h=>by first|(obtain⟨s,rfl,h⟩:=h;simp[af,V.low])|(obtain⟨s,h,rfl⟩:=h;simp[af,V.low])) (ak ?_);simp -implicitDefEqProofs only[go_sem,seval];refine dZ (Jw k i) ?_;rintro _ ⟨f,rfl,b⟩;by_cases c:(64:Int)<key.length
 ·simp -implicitDefEqProofs only[go_sem,seval,c];refine dZ (b key e) ?_;rintro _ ⟨a,g,rfl⟩;simp -implicitDefEqProofs only[go_sem,seval];refine dZ (Ak a 92#8) ?_;rintro _ ⟨p,j,rfl⟩;simp -implicitDefEqProofs only[go_sem,seval];refine dZ (Ak a 54#8) ?_;rintro _ ⟨q,l,rfl⟩;simp -implicitDefEqProofs only[go_sem,seval];repeat refine aJ ?_
  refine dZ (b (q++s) (by simp;omega)) ?_;rintro _ ⟨o,d,rfl⟩;simp -implicitDefEqProofs only[go_sem,seval];repeat refine aJ ?_
  refine dZ (b (p++o) (by simp;omega)) ?_;rintro _ ⟨o,d,rfl⟩;simp -implicitDefEqProofs only[go_sem,seval];exact⟨o,d,rfl⟩
 ·simp -implicitDefEqProofs only[go_sem,seval,c];refine dZ (Ak key 92#8) ?_;rintro _ ⟨p,j,rfl⟩;simp -implicitDefEqProofs only[go_sem,seval];refine dZ (Ak key 54#8) ?_;rintro _ ⟨q,l,rfl⟩;simp -implicitDefEqProofs only[go_sem,seval];repeat refine aJ ?_
  refine dZ (b (q++s) (by simp;omega)) ?_;rintro _ ⟨o,d,rfl⟩;simp -implicitDefEqProofs only[go_sem,seval];repeat refine aJ ?_
  refine dZ (b (p++o) (by simp;omega)) ?_;rintro _ ⟨o,d,rfl⟩;simp -implicitDefEqProofs only[go_sem,seval];exact⟨o,d,rfl⟩
theorem Mf (k:Int)(hk:k=1\/k=2)(key s:List ai)(hk2:key.length<=1099511627776)(hs:s.length<=549755813888)(n:Nat)(hn:0<n)(hn3:n<=3):∃ v h',aq prog 25 [.i64 k,.str key,.str s,.i64 n] [] v h'/\(v= .tup [.slice 0 0 n 1,.i64 0]/\∃ os:List (List ai),os.length=n/\(∀ o∈os,o.length=32)/\h'=[bK (os.map .str)]):=by
 have g1:¬ (n:Int)<1:=aa;have g2:¬ 3<(n:Int):=aa;refine fP (Post:=fun v h'=>v= .tup [.slice 0 0 n 1,.i64 0]/\∃ os:List (List ai),os.length=n/\(∀ o∈os,o.length=32)/\h'=[bK (os.map .str)]) ac (fn:=f25) func25 rfl am (ak ?_);simp -implicitDefEqProofs only[go_sem,seval];refine dZ (Dd k hk key s hk2 hs) ?_;rintro _ ⟨p,hp,rfl⟩;simp -implicitDefEqProofs only[go_sem,seval,g1,g2];refine bq (fun j st=>∃ (i:Nat) (last:List ai),i+j=n/\last.length<=32/\((i=0/\st=⟨[(0,.i64 k),(10,.str p),(13,.str last),(32,.i64 n),(33,.i64 (0:Nat)),(12,.nilSlice)],[]⟩)\/(0<i/\∃ os:List (List ai),os.length=i/\(∀ o∈os,o.length=32)/\st=⟨[(0,.i64 k),(10,.str p),(13,.str last),(32,.i64 n),(33,.i64 i),(12,.slice 0 0 i 1)],[bK (os.map .str)]⟩))) ?_ ?_
 ·refine k7 (n) [0,10,13,32,33,12] 0 ae ae (by simp[dG,St.get,aj,V.low,-List.map_take,-List.map_drop,-List.map_map,-List.map_set]) (by simp[bD,-List.map_take,-List.map_drop,-List.map_map,-List.map_set]) ?_;simp only[dt,bN,cO,St.get,aj,seval,ez];exact⟨0,_,aa,ae,.inl ⟨rfl,rfl⟩⟩
 rintro j st ⟨i,last,hij,hlast,hcase⟩-;by_cases hi:i<n
 ·have hi':(i:Int)<n:=aa;have hw1:=dw (i:=i) aa;rcases hcase with⟨rfl,rfl⟩|⟨hi0,os,hos,hos2,rfl⟩
  ·have hi2:(0:Int)<n:=aa;simp -implicitDefEqProofs only[go_sem,seval,hi2];repeat refine aJ ?_
   refine dZ (Dd k hk p (last++[BitVec.ofInt 8 (ao (0+1))]) aa (by simp;omega)) ?_;rintro _ ⟨o,ho,rfl⟩;simp -implicitDefEqProofs only[go_sem,seval];repeat refine aJ ?_
   exact fZ (j-1) ⟨[(0,.i64 k),(10,.str p),(13,.str o),(32,.i64 n),(33,.i64 (0+1:Nat)),(12,.slice 0 0 (0+1) 1)],[bK ([o].map .str)]⟩ [2] aa rfl ae rfl ah (by simp[dJ,St.get,aj,-List.map_map,-List.map_set]) ae ⟨0+1,o,aa,aa,.inr ⟨aa,[o],rfl,by simpa using ho,rfl⟩⟩
  ·simp -implicitDefEqProofs only[go_sem,seval,hi'];repeat refine aJ ?_
   refine dZ (Dd k hk p (last++[BitVec.ofInt 8 (ao ((i:Int)+1))]) aa (by simp;omega)) ?_;rintro _ ⟨o,ho,rfl⟩;simp -implicitDefEqProofs only[go_sem,seval,ba,hos,hw1,ar (show(os.map V.str).length<=i by simp;omega),jC];repeat refine aJ ?_
   exact fZ (j-1) ⟨[(0,.i64 k),(10,.str p),(13,.str o),(32,.i64 n),(33,.i64 (i+1:Nat)),(12,.slice 0 0 (i+1) 1)],[bK ((os++[o]).map .str)]⟩ [3] aa rfl ae rfl ah (by simp[dJ,St.get,aj,-List.map_map,-List.map_set]) ae ⟨i+1,o,aa,aa,.inr ⟨aa,os++[o],by simp[hos],fun x hx=>by rcases eB.1 hx with hx|hx;exact hos2 x hx;rw[lh.1 hx];exact ho,rfl⟩⟩
 have hi':¬ (i:Int)<n:=aa;rcases hcase with⟨rfl,rfl⟩|⟨hi0,os,hos,hos2,rfl⟩
 ·omega
 obtain rfl:i=n:=aa;simp -implicitDefEqProofs only[go_sem,seval,hi'];refine⟨_,_,?_,Fin.take 1 ae ae (by simp[af,V.low,-List.map_take,-List.map_drop,-List.map_map,-List.map_set]) (by simp[bD,-List.map_take,-List.map_drop,-List.map_map,-List.map_set])⟩;exact⟨rfl,os,hos,hos2,rfl⟩
theorem RT:fU prog 261 "souterrain/noise.kind"=some 235:=ac
theorem Ti:fU prog 262 "souterrain/noise.kind"=some 239:=ac
theorem afp:aG prog 235 [.agg []] (.i64 1):=by
 refine aQ ac (fn:=f235) ac func235 rfl am (by simp[af,V.low]) (by simp[V.low]) (ak ?_);simp -implicitDefEqProofs only[go_sem,seval,ntmps235,results235]
theorem aal:aG prog 239 [.agg []] (.i64 2):=by
 refine aQ ac (fn:=f239) ac func239 rfl am (by simp[af,V.low]) (by simp[V.low]) (ak ?_);simp -implicitDefEqProofs only[go_sem,seval,ntmps239,results239]
def cr (s:V)(h c k:List ai)(n:BitVec 64):List V:=[s,.str h,.str c,.str k,.u64 n]
theorem two {os:List (List ai)}(h:os.length=2)(h2:∀ o∈os,o.length=32):∃ a b,os=[a,b]/\a.length=32/\b.length=32:=by
 match os,h with
 |[a,b],_=>exact⟨a,b,rfl,h2 a ae,h2 b ae⟩
theorem three {os:List (List ai)}(h:os.length=3)(h2:∀ o∈os,o.length=32):∃ a b c,os=[a,b,c]/\a.length=32/\b.length=32/\c.length=32:=by
 match os,h with
 |[a,b,c],_=>exact⟨a,b,c,rfl,h2 a ae,h2 b ae,h2 c ae⟩
theorem J6 {os:List (List ai)}(h:os.length=1)(h2:∀ o∈os,o.length=32):∃ a,os=[a]/\a.length=32:=by
 match os,h with
 |[a],_=>exact⟨a,rfl,h2 a ae⟩
theorem vM:ofValue Value.nilIface=V.nilIface:=rfl
theorem ab3:yF prog 261=true:=ac
theorem aga:yF prog 262=true:=ac
theorem aaf:aG prog 118 [.i64 1] (.iface 261 (.agg [])):=by
 refine aQ ac (fn:=f118) ac func118 rfl am (by simp[af,V.low]) (by simp[af,V.low]) (ak ?_);simp -implicitDefEqProofs only[go_sem,seval,ntmps118,results118,ab3,vM]
theorem R4:aG prog 118 [.i64 2] (.iface 262 (.agg [])):=by
 refine aQ ac (fn:=f118) ac func118 rfl am (by simp[af,V.low]) (by simp[af,V.low]) (ak ?_);simp -implicitDefEqProofs only[go_sem,seval,ntmps118,results118,aga,vM]
theorem Vb (w:List (BitVec 32))(i k:Nat)(a:k<4):dH w (8*i+(k+1))=qE (dH w (8*i+k)) k (4+k) (8+k) (12+k):=by
 have h1:(8*i+k)%4=k:=aa;have h2:(8*i+k)/4%2=0:=aa;rw[<-kh,dH];unfold ue;rw[h1,h2];congr 1<;>omega
theorem ads (w:List (BitVec 32))(i k:Nat)(a:k<4):dH w (8*i+4+(k+1))=qE (dH w (8*i+4+k)) k (4+(k+1)%4) (8+(k+2)%4) (12+(k+3)%4):=by
 have h1:(8*i+4+k)%4=k:=aa;have h2:(8*i+4+k)/4%2=1:=aa;rw[<-kh,dH];unfold ue;rw[h1,h2];congr 1<;>omega
theorem CV (k c:Nat)(h:k+c<1000):(ao ((k:Int)+(c:Int))).tmod 4=(((k+c)%4:Nat):Int):=by
 rw[<-sV,az aa aa,show(4:Int)=((4:Nat):Int) from rfl,I7]
theorem IK (w:List (BitVec 32))(hw:w.length=16):aG prog 188 [.agg (w.map .u32)] (.agg ((dH w 80).map .u32)):=by
 have f:∀ n,(dH w n).length=16:=fun n=>by rw[xG];exact hw
 refine aQ ac (fn:=f188) ac func188 rfl am (by simp[wQ,af,V.low]) (by simp[wQ,V.low]) (ak ?_);simp only[go_sem,seval,ntmps188];refine bq (fun g st=>∃ i:Nat,i+g=10/\st=⟨[(1,.ptr 0 0),(2,.ptr 1 0),(3,.fn 198 [] [.ptr 0 0]),(7,.i64 i)],[bK ((dH w (8*i)).map .u32),bK [.u32 0#32,.u32 0#32,.u32 0#32,.u32 0#32,.u32 0#32,.u32 0#32,.u32 0#32,.u32 0#32,.u32 0#32,.u32 0#32,.u32 0#32,.u32 0#32,.u32 0#32,.u32 0#32,.u32 0#32,.u32 0#32]]⟩) ?_ ?_
 ·exact bJ (10) ⟨[(1,.ptr 0 0),(2,.ptr 1 0),(3,.fn 198 [] [.ptr 0 0]),(7,.i64 (0:Nat))],[bK ((dH w (8*(0:Nat))).map .u32),bK [.u32 0#32,.u32 0#32,.u32 0#32,.u32 0#32,.u32 0#32,.u32 0#32,.u32 0#32,.u32 0#32,.u32 0#32,.u32 0#32,.u32 0#32,.u32 0#32,.u32 0#32,.u32 0#32,.u32 0#32,.u32 0#32]]⟩ (by simp[St.get,aj,-List.map_set,-List.map_map]) rfl (fun _ _ h=>h) ⟨0,aa,rfl⟩
 rintro g st ⟨i,r,rfl⟩ _;simp only[go_sem,seval];by_cases h0:i<10
 ·have e:(i:Int)<10:=aa;simp only[go_sem,seval,e];refine bq (fun c st=>∃ k:Nat,k+c=4/\st=⟨[(1,.ptr 0 0),(2,.ptr 1 0),(3,.fn 198 [] [.ptr 0 0]),(7,.i64 i),(9,.i64 k)],[bK ((dH w (8*i+k)).map .u32),bK [.u32 0#32,.u32 0#32,.u32 0#32,.u32 0#32,.u32 0#32,.u32 0#32,.u32 0#32,.u32 0#32,.u32 0#32,.u32 0#32,.u32 0#32,.u32 0#32,.u32 0#32,.u32 0#32,.u32 0#32,.u32 0#32]]⟩) ?_ ?_
  ·exact bJ 4 ⟨[(1,.ptr 0 0),(2,.ptr 1 0),(3,.fn 198 [] [.ptr 0 0]),(7,.i64 i),(9,.i64 (0:Nat))],[bK ((dH w (8*i)).map .u32),bK [.u32 0#32,.u32 0#32,.u32 0#32,.u32 0#32,.u32 0#32,.u32 0#32,.u32 0#32,.u32 0#32,.u32 0#32,.u32 0#32,.u32 0#32,.u32 0#32,.u32 0#32,.u32 0#32,.u32 0#32,.u32 0#32]]⟩ (by simp[St.get,aj]) rfl (fun _ _ h=>h) ⟨0,aa,rfl⟩
  rintro c st ⟨k,p,rfl⟩ _;simp only[go_sem,seval];by_cases d:k<4
  ·have a:(k:Int)<4:=aa;have j:ao (4+(k:Int))=((4+k:Nat):Int):=by rw[az aa aa];omega
   have l:ao (8+(k:Int))=((8+k:Nat):Int):=by rw[az aa aa];omega
   have m:ao (12+(k:Int))=((12+k:Nat):Int):=by rw[az aa aa];omega
   simp only[go_sem,seval,a,j,l,m];refine aS [0] (KV (dH w (8*i+k)) (f _) k (4+k) (8+k) (12+k) aa aa aa aa) ac ae rfl ae aM ae ae ae ae ae ?_;simp only[go_sem,seval,<-Vb w i k d];refine bx (c-1) ⟨[(1,.ptr 0 0),(2,.ptr 1 0),(3,.fn 198 [] [.ptr 0 0]),(7,.i64 i),(9,.i64 (k+1:Nat))],[bK ((dH w (8*i+(k+1:Nat))).map .u32),bK [.u32 0#32,.u32 0#32,.u32 0#32,.u32 0#32,.u32 0#32,.u32 0#32,.u32 0#32,.u32 0#32,.u32 0#32,.u32 0#32,.u32 0#32,.u32 0#32,.u32 0#32,.u32 0#32,.u32 0#32,.u32 0#32]]⟩ aa ?_ rfl (fun _ _ h=>h) ⟨k+1,aa,rfl⟩;have b:ao ((k:Int)+1)=((k+1:Nat):Int):=by rw[az aa aa];omega
   simp[St.get,aj,b,-List.map_set,-List.map_map]
  ·have a:¬ (k:Int)<4:=aa;simp only[go_sem,seval,a];obtain rfl:k=4:=aa;refine bq (fun c st=>∃ k:Nat,k+c=4/\st=⟨[(1,.ptr 0 0),(2,.ptr 1 0),(3,.fn 198 [] [.ptr 0 0]),(7,.i64 i),(22,.i64 k)],[bK ((dH w (8*i+4+k)).map .u32),bK [.u32 0#32,.u32 0#32,.u32 0#32,.u32 0#32,.u32 0#32,.u32 0#32,.u32 0#32,.u32 0#32,.u32 0#32,.u32 0#32,.u32 0#32,.u32 0#32,.u32 0#32,.u32 0#32,.u32 0#32,.u32 0#32]]⟩) ?_ ?_
   ·exact bJ 4 ⟨[(1,.ptr 0 0),(2,.ptr 1 0),(3,.fn 198 [] [.ptr 0 0]),(7,.i64 i),(22,.i64 (0:Nat))],[bK ((dH w (8*i+4)).map .u32),bK [.u32 0#32,.u32 0#32,.u32 0#32,.u32 0#32,.u32 0#32,.u32 0#32,.u32 0#32,.u32 0#32,.u32 0#32,.u32 0#32,.u32 0#32,.u32 0#32,.u32 0#32,.u32 0#32,.u32 0#32,.u32 0#32]]⟩ (by simp[St.get,aj]) rfl (fun _ _ h=>h) ⟨0,aa,rfl⟩
   rintro c st ⟨k,p,rfl⟩ _;simp only[go_sem,seval];by_cases d:k<4
   ·have a:(k:Int)<4:=aa;have d1:(ao ((k:Int)+1)).tmod 4=(((k+1)%4:Nat):Int):=CV k 1 aa;have j:ao (4+(((k+1)%4:Nat):Int))=((4+(k+1)%4:Nat):Int):=by rw[az aa aa];omega
    have d2:(ao ((k:Int)+2)).tmod 4=(((k+2)%4:Nat):Int):=CV k 2 aa;have l:ao (8+(((k+2)%4:Nat):Int))=((8+(k+2)%4:Nat):Int):=by rw[az aa aa];omega
    have d3:(ao ((k:Int)+3)).tmod 4=(((k+3)%4:Nat):Int):=CV k 3 aa;have m:ao (12+(((k+3)%4:Nat):Int))=((12+(k+3)%4:Nat):Int):=by rw[az aa aa];omega
    simp only[go_sem,seval,a,d1,d2,d3,j,l,m];refine aS [0] (KV (dH w (8*i+4+k)) (f _) k (4+(k+1)%4) (8+(k+2)%4) (12+(k+3)%4) aa aa aa aa) ac ae rfl ae aM ae ae ae ae ae ?_;simp only[go_sem,seval,<-ads w i k d];refine bx (c-1) ⟨[(1,.ptr 0 0),(2,.ptr 1 0),(3,.fn 198 [] [.ptr 0 0]),(7,.i64 i),(22,.i64 (k+1:Nat))],[bK ((dH w (8*i+4+(k+1:Nat))).map .u32),bK [.u32 0#32,.u32 0#32,.u32 0#32,.u32 0#32,.u32 0#32,.u32 0#32,.u32 0#32,.u32 0#32,.u32 0#32,.u32 0#32,.u32 0#32,.u32 0#32,.u32 0#32,.u32 0#32,.u32 0#32,.u32 0#32]]⟩ aa ?_ rfl (fun _ _ h=>h) ⟨k+1,aa,rfl⟩;have b:ao ((k:Int)+1)=((k+1:Nat):Int):=by rw[az aa aa];omega
    simp[St.get,aj,b,-List.map_set,-List.map_map]
   ·have a:¬ (k:Int)<4:=aa;simp only[go_sem,seval,a];obtain rfl:k=4:=aa;refine bx (g-1) ⟨[(1,.ptr 0 0),(2,.ptr 1 0),(3,.fn 198 [] [.ptr 0 0]),(7,.i64 (i+1:Nat))],[bK ((dH w (8*(i+1:Nat))).map .u32),bK [.u32 0#32,.u32 0#32,.u32 0#32,.u32 0#32,.u32 0#32,.u32 0#32,.u32 0#32,.u32 0#32,.u32 0#32,.u32 0#32,.u32 0#32,.u32 0#32,.u32 0#32,.u32 0#32,.u32 0#32,.u32 0#32]]⟩ aa ?_ rfl (fun _ _ h=>h) ⟨i+1,aa,rfl⟩;have b:ao ((i:Int)+1)=((i+1:Nat):Int):=by rw[az aa aa];omega
    simp[St.get,aj,b,-List.map_set,-List.map_map]
 ·have e:¬ (i:Int)<10:=aa;obtain rfl:i=10:=aa;have o:=f 80;have q:min 16 16=16:=rfl;simp only[go_sem,seval,o,ar,bL,q]
def Bh (s:List (BitVec 8))(i:Nat):BitVec 32:=BitVec.ofNat 32 (le ((s.drop (4*i)).take 4))
def vC (s:List (BitVec 8)):Nat->List (BitVec 32)
 |0=>[]
 |i+1=>vC s i++[Bh s i]
theorem Ik (s:List (BitVec 8))(n:Nat):(vC s n).length=n:=by
 induction n with
 |zero=>rfl
 |succ n ih=>rw[vC,aE,ih];rfl
def gN (l:List (BitVec 32)):List (BitVec 8):=l.flatMap fun x=>aV x.toNat 4
theorem Jo (l:List (BitVec 32))(x:BitVec 32):gN (l++[x])=gN l++aV x.toNat 4:=by unfold gN;rw[List.flatMap_append];simp
theorem tR (l:List (BitVec 32)):(gN l).length=4*l.length:=by
 induction l using Bt with
 |h0=>rfl
 |h1 l a ih=>rw[Jo,aE,ih,bT,aE];simp;omega
theorem BL (k n:List (BitVec 8))(a:Int):aG prog 186 [.str k,.str n,.i64 a] (.i64 (if k.length=32/\(n.length:Int)=a then 0 else 1)):=by
 by_cases h1:k.length=32
 ·by_cases h2:(n.length:Int)=a
  ·refine aQ ac (fn:=f186) ac func186 rfl am (by simp[af,V.low]) (by simp[V.low]) (ak ?_);simp only[go_sem,seval,ntmps186,results186,h1,h2]
  ·refine aQ ac (fn:=f186) ac func186 rfl am (by simp[af,V.low]) (by simp[V.low]) (ak ?_);simp only[go_sem,seval,ntmps186,results186,h1,h2]
 ·have h1':¬ (k.length:Int)=32:=aa;refine aQ ac (fn:=f186) ac func186 rfl am (by simp[af,V.low]) (by simp[V.low]) (ak ?_);simp only[go_sem,seval,ntmps186,results186,h1,h1',false_and]
def arr (s:List (BitVec 8))(i:Nat):List (BitVec 32):=[1634760805#32,857760878#32,2036477234#32,1797285236#32]++vC s i++List.replicate (12-i) 0#32
theorem vA (s:List (BitVec 8))(i:Nat)(h:i<=12):(arr s i).length=16:=by
 unfold arr;rw[aE,aE,Ik,gv];simp;omega
theorem MR (s:List (BitVec 8))(i:Nat)(h:i<12):(arr s i).set (4+i) (Bh s i)=arr s (i+1):=by
 unfold arr;rw[vC,show 12-i=(12-(i+1))+1 by omega,pz];have a:([1634760805#32,857760878#32,2036477234#32,1797285236#32]++vC s i).length=4+i:=by rw[aE,Ik];rfl
 rw[ou _ _ aa,a,gf,iI];simp
theorem aew (n:Nat):(BitVec.ofNat 64 n).setWidth 32=BitVec.ofNat 32 n:=by
 apply eE;rw[mL,cx,cx,Nat.mod_mod_of_dvd _ (by decide:2^32∣2^64)]
theorem Ip (k r:List (BitVec 8))(h:(k++r).length=48):aG prog 187 [.str k,.str r] (.agg ((arr (k++r) 12).map .u32)):=by
 have f:k.length+r.length=48:=by rw[<-aE];exact h
 refine aQ ac (fn:=f187) ac func187 rfl am (by simp[af,V.low]) (by simp[wQ,V.low]) (ak ?_);simp only[go_sem,seval,ntmps187,f];generalize k++r=s at h |-
 refine bq (fun j st=>∃ i:Nat,i+j=12/\st=⟨[(4,.ptr 0 0),(5,.ptr 1 0),(6,.i64 i),(7,.str (s.drop (4*i)))],[bK [.u32 0#32,.u32 0#32,.u32 0#32,.u32 0#32,.u32 0#32,.u32 0#32,.u32 0#32,.u32 0#32,.u32 0#32,.u32 0#32,.u32 0#32,.u32 0#32,.u32 0#32,.u32 0#32,.u32 0#32,.u32 0#32],bK ((arr s i).map .u32)]⟩) ?_ ?_
 ·exact bJ 12 ⟨[(4,.ptr 0 0),(5,.ptr 1 0),(6,.i64 (0:Nat)),(7,.str (s.drop (4*0)))],[bK [.u32 0#32,.u32 0#32,.u32 0#32,.u32 0#32,.u32 0#32,.u32 0#32,.u32 0#32,.u32 0#32,.u32 0#32,.u32 0#32,.u32 0#32,.u32 0#32,.u32 0#32,.u32 0#32,.u32 0#32,.u32 0#32],bK ((arr s 0).map .u32)]⟩ (by simp[St.get,aj]) rfl (fun _ _ h=>h) ⟨0,aa,rfl⟩
 rintro j st ⟨i,w,rfl⟩ _;have d:(s.drop (4*i)).length=48-4*i:=by rw[bU,h]
 by_cases h0:i<12
 ·have g:¬ s.drop (4*i)=[]:=fun e=>by rw[e] at d;simp at d;omega
  have t:(4:Int)<=((s.drop (4*i)).length:Int):=aa;have a:(4:Int)<=((48-4*i:Nat):Int):=aa;have u:ao (4+(i:Int))=((4+i:Nat):Int):=by rw[az aa aa];omega
  have l:((4+i:Nat):Int)<16:=aa;have v:4+i<16:=aa;have b:=vA s i aa;have q:min 4 (48-4*i)=4:=aa;have m:BitVec.ofNat 32 (le ((s.drop (4*i)).take 4))=Bh s i:=rfl;have n:((s.drop (4*i)).take 4).take 8=(s.drop (4*i)).take 4:=ar (by simp;omega);simp only[go_sem,seval,g,d,a];refine au (iJ _ (by simp;omega)) ?_;simp only[go_sem,seval,u,l,b,n,ar,d,aew,m,MR s i h0,a,hO];refine⟨aa,aa,ac,?_⟩;refine bx (j-1) ⟨[(4,.ptr 0 0),(5,.ptr 1 0),(6,.i64 (i+1:Nat)),(7,.str (s.drop (4*(i+1))))],[bK [.u32 0#32,.u32 0#32,.u32 0#32,.u32 0#32,.u32 0#32,.u32 0#32,.u32 0#32,.u32 0#32,.u32 0#32,.u32 0#32,.u32 0#32,.u32 0#32,.u32 0#32,.u32 0#32,.u32 0#32,.u32 0#32],bK ((arr s (i+1)).map .u32)]⟩ aa ?_ rfl (fun _ _ h=>h) ⟨i+1,aa,rfl⟩;have o:ao ((i:Int)+1)=((i+1:Nat):Int):=by rw[az aa aa];omega
  simp[St.get,aj,o,km]
 ·have c:i=12:=aa;have p:s.drop (4*i)=[]:=gP aa;have b:=vA s 12 aa;have x:min 16 16=16:=rfl;subst c;simp only[go_sem,seval,p,b,ar,bL]
theorem Gn {l:List (BitVec 32)}{i:Nat}(h:i<l.length):l.take (i+1)=l.take i++[l.getD i 0]:=by
 rw[o7 h,aW,aF h];rfl
theorem DK (x:BitVec 32):(x.setWidth 64).toNat=x.toNat:=by
 have :=x.isLt;rw[mL];omega
theorem adm (w:List (BitVec 32))(o i:Nat):(w.drop o).getD i 0=w.getD (o+i) 0:=by
 rw[aW,aW,il]
theorem DS (w:List (BitVec 32))(o n:Nat)(h:o+n<=w.length)(r:0<n)(hw:w.length<=16):aq prog 189 [.slice 0 o n 1] [bK (w.map .u32)] (.str (gN ((w.drop o).take n))) [bK (w.map .u32)]:=by
 refine bf ac (fn:=f189) func189 rfl am (ak ?_);simp only[go_sem,seval,ntmps189];refine bq (fun j st=>∃ i:Nat,i+j=n/\((i=0/\st=⟨[(3,.nilSlice),(6,.slice 0 o n 1),(7,.i64 n),(8,.i64 (0:Nat))],[bK (w.map .u32)]⟩)\/
  (0<i/\st=⟨[(3,.slice 1 0 (gN ((w.drop o).take i)).length 1),(6,.slice 0 o n 1),(7,.i64 n),(8,.i64 i)],[bK (w.map .u32),bK ((gN ((w.drop o).take i)).map .u8)]⟩))) ?_ ?_
 ·exact bJ n ⟨[(3,.nilSlice),(6,.slice 0 o n 1),(7,.i64 n),(8,.i64 (0:Nat))],[bK (w.map .u32)]⟩ (by simp[St.get,aj]) rfl (fun _ _ h=>h) ⟨0,aa,.inl ⟨rfl,rfl⟩⟩
 rintro j st ⟨i,s,a⟩ _;by_cases h0:i<n
 ·have b:(i:Int)<(n:Int):=aa;have p:o+i<w.length:=aa;have e:i<(w.drop o).length:=by rw[bU];omega
  have f:ao ((i:Int)+1)=((i+1:Nat):Int):=by rw[az aa aa];omega
  have g:gN ((w.drop o).take (i+1))=gN ((w.drop o).take i)++aV (w.getD (o+i) 0).toNat 4:=by rw[Gn e,Jo,adm]
  have q:(gN ((w.drop o).take i)).length=4*i:=by rw[tR,br,iM aa]
  rcases a with⟨rfl,rfl⟩|⟨k,rfl⟩
  ·have l:(0:Int)<(n:Int):=aa;have c:o<w.length:=aa;have d:gN ((w.drop o).take (0+1))=aV (w.getD o 0).toNat 4:=g;simp only[go_sem,seval,l,c,pF c];refine aS [] (zt ((w.getD o 0).setWidth 64)) ac ae rfl ae aM ae ae ae ae ae ?_;simp only[go_sem,seval,DK];refine fZ (j-1) ⟨[(3,.slice 1 0 (gN ((w.drop o).take (0+1))).length 1),(6,.slice 0 o n 1),(7,.i64 n),(8,.i64 (0+1:Nat))],[bK (w.map .u32),bK ((gN ((w.drop o).take (0+1))).map .u8)]⟩ [0,1] aa rfl ae rfl ah ?_ ?_ ⟨0+1,aa,.inr ⟨aa,rfl⟩⟩
   ·rw[d];simp[dJ,St.get,aj,bT,-List.map_map,-List.map_set]
   ·rw[d];simp
  ·simp only[go_sem,seval,b,p,pF p];refine⟨aa,?_⟩;refine aS [1] (Ew (gN ((w.drop o).take i)) ((w.getD (o+i) 0).setWidth 64) aa) ac ae rfl ae aM ae ae ae ae ae ?_;simp only[go_sem,seval,DK];refine fZ (j-1) ⟨[(3,.slice 1 0 (gN ((w.drop o).take (i+1))).length 1),(6,.slice 0 o n 1),(7,.i64 n),(8,.i64 (i+1:Nat))],[bK (w.map .u32),bK ((gN ((w.drop o).take (i+1))).map .u8)]⟩ [0,2] aa rfl ae rfl ah ?_ ?_ ⟨i+1,aa,.inr ⟨aa,rfl⟩⟩
   ·rw[g];simp[dJ,St.get,aj,f,bT,-List.map_map,-List.map_set]
   ·rw[g];simp
 ·obtain rfl:i=n:=aa;have b:¬ (i:Int)<(i:Int):=aa;rcases a with⟨rfl,rfl⟩|⟨k,rfl⟩
  ·omega
  ·simp only[go_sem,seval,b,ar];exact Fin.ren [0] ae ae aZ ah ae ae
def oD (a b:List (BitVec 32)):List (BitVec 32):=List.zipWith (· +·) a b
theorem ui (a b:List (BitVec 32)):(oD a b).length=min a.length b.length:=CZ
theorem Rm (a b:List (BitVec 32))(i:Nat)(h1:i<a.length)(h2:i<b.length):(oD a b).getD i 0=a.getD i 0+b.getD i 0:=by
 unfold oD;rw[aW,aW,aW,pK,aF h1,aF h2];rfl
def kG (a b:List (BitVec 32))(i:Nat):List (BitVec 32):=(oD a b).take i++a.drop i
theorem GW (a b:List (BitVec 32))(i:Nat)(h:a.length=b.length)(c:i<=a.length):(kG a b i).length=a.length:=by
 unfold kG;rw[aE,br,ui,bU];omega
theorem Sk (a b:List (BitVec 32))(i:Nat)(h:a.length=b.length)(d:i<a.length):(kG a b i).getD i 0=a.getD i 0:=by
 unfold kG;have c:((oD a b).take i).length=i:=by rw[br,ui];omega
 rw[aW,dL aa,c,gf,il,iQ,<-aW]
theorem abT (a b:List (BitVec 32))(i:Nat)(h:a.length=b.length)(c:i<a.length):(kG a b i).set i (a.getD i 0+b.getD i 0)=kG a b (i+1):=by
 unfold kG;have d:((oD a b).take i).length=i:=by rw[br,ui];omega
 rw[ou _ _ aa,d,gf,sO c,iI,Gn (l:=oD a b) (by rw[ui];omega),Rm a b i c aa];simp
def AU (s:List (BitVec 8)):List (BitVec 32):=oD (dH (arr s 12) 80) (arr s 12)
def fh (key a:List (BitVec 8))(n:BitVec 32):List (BitVec 8):=gN (AU (key++(aV n.toNat 4++a)))
theorem CJ (key b:List (BitVec 8))(n:BitVec 32)(h1:key.length=32)(h2:b.length=12):aG prog 190 [.str key,.str b,.u32 n] (.tup [.str (fh key b n),.i64 0]):=by
 have o:(b.length:Int)=12:=aa;have f:(key++(aV n.toNat 4++b)).length=48:=by rw[aE,aE,bT];omega
 have c:=vA (key++(aV n.toNat 4++b)) 12 aa;have d:(dH (arr (key++(aV n.toNat 4++b)) 12) 80).length=16:=by rw[xG];exact c
 unfold fh AU;refine aQ ac (fn:=f190) ac func190 rfl am (by simp[af,V.low]) (by simp[af,V.low]) (ak ?_);simp only[go_sem,↓reduceIte,Nat.reduceEqDiff,Nat.reduceLT,Nat.reduceAdd,reduceCtorEq,ntmps190];refine au (BL _ _ _) ?_;simp only[go_sem,↓reduceIte,Nat.reduceEqDiff,Nat.reduceLT,reduceCtorEq,h1,o];refine aS [] (zt (n.setWidth 64)) ac ae rfl ae aM ae ae ae ae ae ?_;simp only[go_sem,↓reduceIte,Nat.reduceEqDiff,Nat.reduceLT,Nat.reduceLeDiff,Nat.reduceAdd,Nat.reduceSub,DK,bT,ar,h2];refine au (Ip _ _ f) ?_;simp only[go_sem,↓reduceIte,Nat.reduceEqDiff,Nat.reduceLT,Nat.reduceAdd];generalize arr (key++(aV n.toNat 4++b)) 12=a at c d |-
 have w:min 16 16=16:=rfl;have v:=bL;simp only[go_sem,↓reduceIte,Nat.reduceLT,Nat.reduceAdd,c,bL,ar];have g:=IK a c;generalize dH a 80=s at d g |-
 refine au (g) ?_;simp only[go_sem,↓reduceIte,Nat.reduceEqDiff,Nat.reduceLT,Nat.reduceAdd,d,bL];refine bq (fun p st=>∃ i:Nat,i+p=16/\st=⟨[(9,.ptr 1 0),(10,.ptr 2 0),(28,.i64 i)],[bK ((aV n.toNat 4).map .u8),bK (a.map .u32),bK ((kG s a i).map .u32)]⟩) ?_ ?_
 ·exact bJ (16) ⟨[(9,.ptr 1 0),(10,.ptr 2 0),(28,.i64 (0:Nat))],[bK ((aV n.toNat 4).map .u8),bK (a.map .u32),bK ((kG s a (0:Nat)).map .u32)]⟩ (by simp[St.get,aj,-List.map_set,-List.map_map]) rfl (fun _ _ h=>h) ⟨0,aa,rfl⟩
 rintro p st ⟨i,x,rfl⟩ _;simp only[go_sem,↓reduceIte,Nat.reduceEqDiff,Nat.reduceLT,Nat.reduceAdd,Int.reduceLE,Int.reduceToNat,Int.reduceSub];by_cases h0:i<16
 ·have j:(i:Int)<16:=aa;have e:=GW s a i aa aa;have k:=Sk s a i aa aa;have l:=abT s a i aa aa;have q:i<a.length:=aa;have r:i<(kG s a i).length:=aa;simp only[go_sem,↓reduceIte,Nat.reduceEqDiff,Nat.reduceLT,Nat.reduceLeDiff,Nat.reduceAdd,j,e,c,d,h0,pF q,pF r,k,l];refine⟨aa,aa,aa,aa,ac,?_⟩;refine bx (p-1) ⟨[(9,.ptr 1 0),(10,.ptr 2 0),(28,.i64 (i+1:Nat))],[bK ((aV n.toNat 4).map .u8),bK (a.map .u32),bK ((kG s a (i+1:Nat)).map .u32)]⟩ aa ?_ rfl (fun _ _ h=>h) ⟨i+1,aa,rfl⟩;have t:ao ((i:Int)+1)=((i+1:Nat):Int):=by rw[az aa aa];omega
  simp[St.get,aj,t,-List.map_set,-List.map_map]
 ·have j:¬ (i:Int)<16:=aa;obtain rfl:i=16:=aa;have e:=GW s a 16 aa aa;have m:((kG s a 16).drop 0).take 16=oD s a:=by
   unfold kG;rw[jC,gP aa,iw,sN,Nat.min_self,ar (by rw[ui];omega)]
  have u:=DS (kG s a 16) 0 16 aa ah aa;rw[m] at u;simp only[go_sem,↓reduceIte,Int.reduceLT,e,d];refine aS [2] (u) ac ae rfl ae aM ae ae ae ae ae ?_;simp only[go_sem,↓reduceIte,Nat.reduceLT,Nat.reduceAdd,Nat.reduceSub]
def u0 (key a:List (BitVec 8)):List (BitVec 8):=
 let w:=dH (arr (key++a) 12) 80
 gN (w.take 4)++gN (w.drop 12)
theorem ZJ (key b:List (BitVec 8))(h1:key.length=32)(h2:b.length=16):aG prog 175 [.str key,.str b] (.tup [.str (u0 key b),.i64 0]):=by
 have j:(b.length:Int)=16:=aa;have f:(key++b).length=48:=by rw[aE];omega
 have e:=vA (key++b) 12 aa;have c:(dH (arr (key++b) 12) 80).length=16:=by rw[xG];exact e
 unfold u0;refine aQ ac (fn:=f175) ac func175 rfl am (by simp[af,V.low]) (by simp[af,V.low]) (ak ?_);simp only[go_sem,seval,ntmps175];refine au (BL _ _ _) ?_;simp only[go_sem,seval,h1,j];refine au (Ip _ _ f) ?_;simp only[go_sem,seval];generalize arr (key++b) 12=a at e c |-
 have n:min 16 16=16:=rfl;have g:=IK a e;generalize dH a 80=s at c g |-
 have k:(s.drop 0).take 4=s.take 4:=by rw[jC]
 have h:(s.drop 12).take 4=s.drop 12:=ar (by rw[bU];omega);have l:(gN (s.take 4)).length=16:=by rw[tR,br];omega
 have m:(gN (s.drop 12)).length=16:=by rw[tR,bU];omega
 refine au (g) ?_;simp only[go_sem,seval,c,bL];have i:=DS s 0 4 aa ah aa;have d:=DS s 12 4 aa ah aa;rw[k] at i;rw[h] at d;refine vv [0] (i) ac ae rfl ae ah ae ae ae ae ae (by first|(simp[gJ,cR,bd,dx,Blk.ren,-List.map_map,-List.map_set];done)|simp[go_sem,gJ]) ?_;simp only[go_sem,seval,c];refine vv [0] (d) ac ae rfl ae ah ae ae ae ae ae (by first|(simp[gJ,cR,bd,dx,Blk.ren,-List.map_map,-List.map_set];done)|simp[go_sem,gJ]) ?_;simp only[go_sem,seval,l,m];kernel_rfl
end Go.Vm
end
section
namespace Go.Vm
open Go.Proofs
end Go.Vm
end
section
namespace Go.Vm
open Go.Proofs Go.Proofs.Tryz
def bj (a b:List (BitVec 8)):List (BitVec 8):=List.zipWith (· ^^^ ·) a b
theorem jU (a b:List (BitVec 8)):(bj a b).length=min a.length b.length:=CZ
theorem Zm (a b:List (BitVec 8))(i:Nat)(h1:i<a.length)(h2:i<b.length):(bj a b).getD i 0=a.getD i 0 ^^^ b.getD i 0:=by
 unfold bj;rw[aW,aW,aW,pK,aF h1,aF h2];rfl
theorem E2 (a s b:List (BitVec 8))(h:s.length<=a.length):bj a (s++b)=bj a s++bj (a.drop s.length) b:=by
 unfold bj
 calc List.zipWith (· ^^^ ·) a (s++b)=List.zipWith (· ^^^ ·) (a.take s.length++a.drop s.length) (s++b):=by rw[wC]
  _=List.zipWith (· ^^^ ·) (a.take s.length) s++List.zipWith (· ^^^ ·) (a.drop s.length) b:=List.zipWith_append (by rw[br];omega)
  _=_:=by
   congr 1;apply qM;intro i;rw[pK,pK];by_cases c:i<s.length
   ·rw[sP c]
   ·rw[gi (l:=s) aa];split <;>simp_all
def lr (a b:List (BitVec 8))(i:Nat):List (BitVec 8):=(bj a b).take i++List.replicate ((bj a b).length-i) 0
theorem aaz (a b:List (BitVec 8))(i:Nat)(h:i<=(bj a b).length):(lr a b i).length=(bj a b).length:=by
 unfold lr;rw[aE,br,gv];omega
theorem afj (a b:List (BitVec 8))(i:Nat)(h:i<(bj a b).length):(lr a b i).set i (a.getD i 0 ^^^ b.getD i 0)=lr a b (i+1):=by
 have c:=jU a b;unfold lr;have h2:((bj a b).take i).length=i:=by rw[br];omega
 rw[ou _ _ aa,h2,gf,show(bj a b).length-i=((bj a b).length-(i+1))+1 by omega,pz,iI,u9 h,Zm a b i aa aa];simp
theorem TR (a b:List (BitVec 8)):lr a b (bj a b).length=bj a b:=by
 unfold lr;rw[o0,gf];simp
theorem Ap (a b:List (BitVec 8))(t:a.length<=4611686018427387904)(u:b.length<=140737488351232):aG prog 191 [.str a,.str b] (.str (bj a b)):=by
 have q:=jU a b;generalize j:(bj a b).length=n at q;have d:(if(b.length:Int)<(a.length:Int) then(b.length:Int) else(a.length:Int))=(n:Int):=by split <;>omega
 refine aQ ac (fn:=f191) ac func191 rfl am (by simp[af,V.low]) (by simp[V.low]) (ak ?_);simp only[go_sem,↓reduceIte,Nat.reduceEqDiff,Nat.reduceLT,reduceCtorEq,ntmps191,d];refine⟨⟨aa,aa,aa⟩,?_⟩;have l:jr [V.u8 0#8] n=(lr a b 0).map V.u8:=by
  have r:∀ k,jr [V.u8 0#8] k=List.replicate k (V.u8 0#8):=fun k=>by
   induction k with
   |zero=>rfl
   |succ k ih=>rw[jr,ih];rfl
  unfold lr;rw[j,r];simp
 rw[l];refine bq (fun m st=>∃ i:Nat,i+m=n/\st=⟨[(0,.str a),(1,.str b),(5,.slice 0 0 n 1),(14,.i64 n),(15,.i64 i)],[bK ((lr a b i).map .u8)]⟩) ?_ ?_
 ·exact bJ (n) ⟨[(0,.str a),(1,.str b),(5,.slice 0 0 n 1),(14,.i64 n),(15,.i64 (0:Nat))],[bK ((lr a b (0:Nat)).map .u8)]⟩ (by simp[St.get,aj,-List.map_set,-List.map_map]) rfl (fun _ _ h=>h) ⟨0,aa,rfl⟩
 rintro m st ⟨i,v,rfl⟩ _;simp only[go_sem,↓reduceIte,Nat.reduceEqDiff,Nat.reduceLT,reduceCtorEq];by_cases h0:i<n
 ·have c:(i:Int)<(n:Int):=aa;have h1:i<b.length:=aa;have h1':(i:Int)<(b.length:Int):=aa;have h2:i<a.length:=aa;have o:(i:Int)<(a.length:Int):=aa;have s:(0:Int)<=(i:Int):=aa;have e:=aaz a b i aa;rw[j] at e;have f:=afj a b i aa;simp only[go_sem,↓reduceIte,c,h1',o,s,e,f];refine⟨aa,ac,?_⟩;refine bx (m-1) ⟨[(0,.str a),(1,.str b),(5,.slice 0 0 n 1),(14,.i64 n),(15,.i64 (i+1:Nat))],[bK ((lr a b (i+1:Nat)).map .u8)]⟩ aa ?_ rfl (fun _ _ h=>h) ⟨i+1,aa,rfl⟩;have p:ao ((i:Int)+1)=((i+1:Nat):Int):=by rw[az aa aa];omega
  simp[St.get,aj,p,-List.map_set,-List.map_map]
 ·obtain rfl:i=n:=aa;have c:¬ (i:Int)<(i:Int):=aa;have g:lr a b i=bj a b:=by rw[<-j];exact TR a b
  simp only[go_sem,↓reduceIte,c,g,ar,j,aH,true_and]
theorem SN (n:BitVec 32)(i:Nat):n+BitVec.ofNat 32 i+1#32=n+BitVec.ofNat 32 (i+1):=by
 apply eE;simp[fk,cx];omega
def jL (B:BitVec 32->List (BitVec 8))(n:BitVec 32):Nat->List (BitVec 8)
 |0=>[]
 |i+1=>jL B n i++B (n+BitVec.ofNat 32 i)
theorem we (k c:List (BitVec 8))(n:BitVec 32)(h1:k.length=32)(h2:c.length=12):(fh k c n).length=64:=by
 unfold fh AU;rw[tR,ui,xG,vA _ _ ah];rfl
theorem AS (B:BitVec 32->List (BitVec 8))(a:∀ m,(B m).length=64)(n:BitVec 32)(i:Nat):(jL B n i).length=64*i:=by
 induction i with
 |zero=>rfl
 |succ i ih=>rw[jL,aE,ih,a];omega
def xored (B:BitVec 32->List (BitVec 8))(n:BitVec 32)(t:List (BitVec 8)):List (BitVec 8):=bj t (jL B n ((t.length+63)/64))
theorem Ff (k c:List (BitVec 8))(n:BitVec 32)(t:List (BitVec 8))(B:BitVec 32->List (BitVec 8))(u:∀ m,(B m).length=64)(f:∀ m,aG prog 190 [.str k,.str c,.u32 m] (.tup [.str (B m),.i64 0]))(h1:k.length=32)(h2:c.length=12)(h:t.length<=2000):aG prog 177 [.str k,.str c,.u32 n,.str t] (.tup [.str (xored B n t),.i64 0]):=by
 have g:(c.length:Int)=12:=aa;have h':¬ (2000:Int)<(t.length:Int):=aa;have a:=AS B u n;unfold xored;refine aQ ac (fn:=f177) ac func177 rfl am (by simp[af,V.low]) (by simp[af,V.low]) (ak ?_);simp only[go_sem,seval,ntmps177];refine au (BL _ _ _) ?_;simp only[go_sem,seval,h1,g,h'];refine bq (fun j st=>∃ i:Nat,i+j=(t.length+63)/64/\st=⟨[(0,.str k),(1,.str c),(2,.u32 (n+BitVec.ofNat 32 i)),(3,.str (t.drop (64*i))),(11,.str (bj t (jL B n i)))],[]⟩) ?_ ?_
 ·exact bJ ((t.length+63)/64) ⟨[(0,.str k),(1,.str c),(2,.u32 (n+BitVec.ofNat 32 (0:Nat))),(3,.str (t.drop (64*(0:Nat)))),(11,.str (bj t (jL B n (0:Nat))))],[]⟩ (by simp[St.get,aj,-List.map_set,-List.map_map,jL,bj]) rfl (fun _ _ h=>h) ⟨0,aa,rfl⟩
 rintro j st ⟨i,A,rfl⟩ _;simp only[go_sem,seval];have d:(t.drop (64*i)).length=t.length-64*i:=bU;by_cases h0:64*i<t.length
 ·have l:¬ t.drop (64*i)=[]:=fun e=>by rw[e] at d;simp at d;omega
  have v:=f (n+BitVec.ofNat 32 i);have o:=u (n+BitVec.ofNat 32 i);have p:=Ap (t.drop (64*i)) (B (n+BitVec.ofNat 32 i)) aa aa;have q:bj t (jL B n i)++bj (t.drop (64*i)) (B (n+BitVec.ofNat 32 i))=bj t (jL B n (i+1)):=by
   rw[jL,E2 _ _ _ (by rw[a];omega),a]
  have b:=jU (t.drop (64*i)) (B (n+BitVec.ofNat 32 i));rw[o,d] at b;have r:(t.drop (64*i)).drop (min (t.length-64*i) 64)=t.drop (64*(i+1)):=by
   rw[hO];by_cases w:64<=t.length-64*i
   ·rw[nY w,km]
   ·rw[iM aa,gP aa,gP aa]
  have x:(bj t (jL B n i)).length<=2000:=by rw[jU];omega
  simp only[go_sem,seval,l];refine au (v) ?_;simp only[go_sem,seval];have s:(t.drop (64*i)).take (t.length-64*i)=t.drop (64*i):=ar aa;refine au (p) ?_;simp only[go_sem,seval,q,b,d,s,r];refine⟨aa,⟨aa,aa⟩,?_⟩;refine bx (j-1) ⟨[(0,.str k),(1,.str c),(2,.u32 (n+BitVec.ofNat 32 (i+1:Nat))),(3,.str (t.drop (64*(i+1:Nat)))),(11,.str (bj t (jL B n (i+1:Nat))))],[]⟩ aa ?_ rfl (fun _ _ h=>h) ⟨i+1,aa,rfl⟩;have y:ao ((i:Int)+1)=((i+1:Nat):Int):=by rw[az aa aa];omega
  simp[St.get,aj,-List.map_set,-List.map_map,SN]
 ·have z:t.drop (64*i)=[]:=gP aa;obtain rfl:i=(t.length+63)/64:=aa;simp only[go_sem,seval,z]
end Go.Vm
end
section
namespace Go.Vm
open Go.Proofs
end Go.Vm
end
