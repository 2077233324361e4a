/- Proved: laws of a machine of values, or what a function answers; no conditions but each theorem's own. -/
import Derived.Shelf.Strings.Repeat
import Derived.Test.YtgnnehmeciepaaaGreatDoorTypesToLsE
import Derived.Test.YtgnnehmeciepaaaGreatDoorHeadToShA
import Derived.Test.YtgnnehmeciepaaaGreatDoorVmTToTot2
set_option linter.unusedVariables false
set_option linter.unusedSimpArgs false
set_option linter.unusedSectionVars false
set_option maxRecDepth 20000
set_option maxHeartbeats 8000000
section
namespace Go.Vm
section
open Go.Proofs Go.Shelf
def shelf_lays105_ren:Go.Shelf.Ren:=⟨fun |105=>34|212=>53|99=>54|165=>55|166=>56|170=>57|169=>58|263=>81|264=>82|206=>83|240=>84|241=>85|276=>114|277=>115|n=>n,fun |9=>9|3=>3|4=>4|20=>20|0=>0|46=>32|109=>117|5=>5|72=>122|76=>126|51=>31|146=>156|53=>78|148=>158|70=>120|37=>63|75=>125|127=>160|164=>206|80=>105|n=>n,fun |n=>n⟩
theorem shelf_lays105:Go.Proofs.Lays.n105 Tryz.prog shelf_lays105_ren:={
 mixed:=by kernel_rfl
 f99:=Tryz.func54.trans (congrArg some (by kernel_rfl))
 f105:=Tryz.func34.trans (congrArg some (by kernel_rfl))
 f165:=Tryz.func55.trans (congrArg some (by kernel_rfl))
 f166:=Tryz.func56.trans (congrArg some (by kernel_rfl))
 f169:=Tryz.func58.trans (congrArg some (by kernel_rfl))
 f170:=Tryz.func57.trans (congrArg some (by kernel_rfl))
 f206:=Tryz.func83.trans (congrArg some (by kernel_rfl))
 f212:=Tryz.func53.trans (congrArg some (by kernel_rfl))
 f240:=Tryz.func84.trans (congrArg some (by kernel_rfl))
 f241:=Tryz.func85.trans (congrArg some (by kernel_rfl))
 f263:=Tryz.func81.trans (congrArg some (by kernel_rfl))
 f264:=Tryz.func82.trans (congrArg some (by kernel_rfl))
 f276:=Tryz.func114.trans (congrArg some (by kernel_rfl))
 f277:=Tryz.func115.trans (congrArg some (by kernel_rfl))
 t0:=Tryz.underlying0
 a0:=Tryz.isAgg0
 z0:=Tryz.sizeOf0
 v0:=Tryz.zeroValue0
 t3:=Tryz.underlying3
 a3:=Tryz.isAgg3
 z3:=Tryz.sizeOf3
 v3:=Tryz.zeroValue3
 t4:=Tryz.underlying4
 a4:=Tryz.isAgg4
 z4:=Tryz.sizeOf4
 v4:=Tryz.zeroValue4
 t5:=Tryz.underlying5
 a5:=Tryz.isAgg5
 z5:=Tryz.sizeOf5
 v5:=Tryz.zeroValue5
 t9:=Tryz.underlying9
 a9:=Tryz.isAgg9
 z9:=Tryz.sizeOf9
 v9:=Tryz.zeroValue9
 t20:=Tryz.underlying20
 a20:=Tryz.isAgg20
 z20:=Tryz.sizeOf20
 v20:=Tryz.zeroValue20
 t37:=Tryz.underlying63
 a37:=Tryz.isAgg63
 z37:=Tryz.sizeOf63
 v37:=Tryz.zeroValue63
 t46:=Tryz.underlying32
 a46:=Tryz.isAgg32
 z46:=Tryz.sizeOf32
 v46:=Tryz.zeroValue32
 t51:=Tryz.underlying31
 a51:=Tryz.isAgg31
 z51:=Tryz.sizeOf31
 v51:=Tryz.zeroValue31
 t53:=Tryz.underlying78
 a53:=Tryz.isAgg78
 z53:=Tryz.sizeOf78
 v53:=Tryz.zeroValue78
 t70:=Tryz.underlying120
 a70:=Tryz.isAgg120
 z70:=Tryz.sizeOf120
 v70:=Tryz.zeroValue120
 t72:=Tryz.underlying122
 a72:=Tryz.isAgg122
 z72:=Tryz.sizeOf122
 v72:=Tryz.zeroValue122
 t75:=Tryz.underlying125
 a75:=Tryz.isAgg125
 z75:=Tryz.sizeOf125
 v75:=Tryz.zeroValue125
 t76:=Tryz.underlying126
 a76:=Tryz.isAgg126
 z76:=Tryz.sizeOf126
 v76:=Tryz.zeroValue126
 t109:=Tryz.underlying117
 a109:=Tryz.isAgg117
 z109:=Tryz.sizeOf117
 v109:=Tryz.zeroValue117
 t127:=Tryz.underlying160
 a127:=Tryz.isAgg160
 z127:=Tryz.sizeOf160
 v127:=Tryz.zeroValue160
 t146:=Tryz.underlying156
 a146:=Tryz.isAgg156
 z146:=Tryz.sizeOf156
 v146:=Tryz.zeroValue156
 t148:=Tryz.underlying158
 a148:=Tryz.isAgg158
 z148:=Tryz.sizeOf158
 v148:=Tryz.zeroValue158
 t164:=Tryz.underlying206
 a164:=Tryz.isAgg206
 z164:=Tryz.sizeOf206
 v164:=Tryz.zeroValue206}
theorem ub:Builder.Extra Tryz.prog shelf_lays105_ren:={
 sizeBuilder:=by kernel_rfl
 liesBuilder:=by kernel_rfl
 t5:=Tryz.underlying5
 a5:=Tryz.isAgg5
 z5:=Tryz.sizeOf5
 v5:=Tryz.zeroValue5
 infoByte:=by kernel_rfl
 cellsByte:=by kernel_rfl
 sizeByte:=by kernel_rfl
 neB5:=by decide}
open Go.RowKit Go.Lib in
theorem D7 (s:ByteArray)(c:Nat)(w:World)(hc:c≤9223372036854775807)(hlen:s.size*c≤140737488355328):
  Calls Tryz.prog 34 #[.string s,.int .i64 c] w fun e w'=>e= .returned (.string ⟨(Lib.repeatL s.data.toList c).toArray⟩)∧Below w.heap.size w w':=Any.strings_Repeat shelf_lays105 ub s c w hc hlen
end
end Go.Vm
end
section
namespace Go.Vm
open Go.Proofs
def mY (s:List (BitVec 8)):List (BitVec 8):=s++List.replicate ((16-s.length%16)%16) 0
theorem qQ (s:List (BitVec 8)):(mY s).length=16*((s.length+15)/16):=by unfold mY;rw[List.length_append,List.length_replicate];omega
theorem GO (k:Nat):∀ (l:List UInt8),l.map UInt8.toBitVec=[0#8]→(Lib.repeatL l k).map UInt8.toBitVec=List.replicate k 0#8:=by
 intro l h
 induction k with
 |zero=>rfl
 |succ k ih=>rw[Lib.repeatL,List.map_append,ih,h,List.replicate_succ];rfl
theorem nz (k:Nat)(hk:k≤1000):ao Tryz.prog 34 [.str [0#8],.i64 k] (.str (List.replicate k 0#8)):=by
 refine xY (by kernel_rfl) (by simp[aa,V.low]) (by simp[V.low]) fun w rargs hr=>?_
 unfold VRs at hr
 obtain⟨r1,rs,e1,h1,hr⟩:=hr
 unfold VRs at hr
 obtain⟨r2,rs2,e2,h2,hr⟩:=hr
 unfold VRs at hr
 unfold VR at h1 h2
 obtain⟨b,rfl,hb⟩:=h1
 subst h2 hr e2
 have ha:rargs=#[.string b,.int .i64 k]:=by cases rargs;simp_all
 subst ha
 have hsz:b.size=1:=by
  have :=congrArg List.length hb
  unfold bytesOf at this
  rw[List.length_map,Array.length_toList] at this
  exact this
 refine(D7 b k w (by omega) (by rw[hsz];omega)).mono ?_
 rintro e w' ⟨rfl,hbl⟩
 refine⟨_,rfl,?_,hbl⟩
 unfold VR
 exact⟨_,rfl,GO k _ hb⟩
def SumK (key:List ac)(many:Int)(v:V):Prop:=(v= .tup [.str [],.i64 1]∧(many<1∨32<many∨32<key.length))∨(1≤many∧many≤32∧key.length≤32∧∃ o:List ac,(o.length:Int)=many∧v= .tup [.str o,.i64 0])
theorem SumK.low {key:List ac}{many:Int}{v:V}(h:SumK key many v):v.low 0:=by
 rcases h with⟨rfl,-⟩|⟨-,-,-,o,-,rfl⟩<;>simp[V.low,aa]
theorem yg (key s0:List ac)(many:Int)(hk:key.length≤1099511627776)(hs0:s0.length≤1099511627776):∃ v,ao Tryz.prog 72 [.str key,.str s0,.i64 many] v∧SumK key many v:=by
 by_cases g1:many<1
 ·refine eW (Post:=SumK key many) (by kernel_rfl) (by kernel_rfl) (fn:=Tryz.f72) Tryz.func72 rfl (by show 3≤85;decide) (by simp[aa,V.low]) (fun v h=>h.low) (ae ?_)
  simp only[go_sem,↓reduceIte,Nat.reduceEqDiff,Nat.reduceLT,Nat.reduceAdd,reduceCtorEq,g1]
  exact .inl ⟨rfl,by omega⟩
 by_cases g2:32<many
 ·refine eW (Post:=SumK key many) (by kernel_rfl) (by kernel_rfl) (fn:=Tryz.f72) Tryz.func72 rfl (by show 3≤85;decide) (by simp[aa,V.low]) (fun v h=>h.low) (ae ?_)
  simp only[go_sem,↓reduceIte,Nat.reduceEqDiff,Nat.reduceLT,Nat.reduceAdd,reduceCtorEq,g1,g2]
  exact .inl ⟨rfl,by omega⟩
 by_cases g3:32<(key.length:Int)
 ·refine eW (Post:=SumK key many) (by kernel_rfl) (by kernel_rfl) (fn:=Tryz.f72) Tryz.func72 rfl (by show 3≤85;decide) (by simp[aa,V.low]) (fun v h=>h.low) (ae ?_)
  simp only[go_sem,↓reduceIte,Nat.reduceEqDiff,Nat.reduceLT,Nat.reduceAdd,reduceCtorEq,g1,g2,g3]
  exact .inl ⟨rfl,by omega⟩
 have ek:aj (64-(key.length:Int))=((64-key.length:Nat):Int):=by rw[am (by omega) (by omega)];omega
 refine eW (Post:=SumK key many) (by kernel_rfl) (by kernel_rfl) (fn:=Tryz.f72) Tryz.func72 rfl (by show 3≤85;decide) (by simp[aa,V.low]) (fun v h=>h.low) (ae ?_)
 simp only[go_sem,↓reduceIte,Nat.reduceEqDiff,Nat.reduceLT,Nat.reduceAdd,reduceCtorEq,g1,g2,g3]
 refine cy (C3) ?_
 rintro _ ⟨hs,hhs,rfl⟩
 simp only[go_sem,↓reduceIte,Nat.reduceEqDiff,Nat.reduceLT,Nat.reduceLeDiff,Int.reduceLE,Int.reduceLT,Int.reduceToNat,BitVec.reduceOfInt,BitVec.reduceToNat,reduceCtorEq,↓qp,hhs,bi,List.length_replicate,List.length_map,eg V.u32 0#32,ik,ek]
 repeat refine aJ ?_
 refine LW (fun s=>∃ (t:List (Nat×V)) (s1:List ac) (hs:List (BitVec 32)),hs.length=8∧s1.length≤2199023255552∧s=⟨t,[bK (hs.map .u32)]⟩∧af t 1= .str s1∧af t 2= .i64 many∧af t 8= .ptr 0 0∧af t 9= .u64 0#64) (fun rest=>?_) ⟨_,s0,_,by rw[List.length_set];exact hhs,by omega,rfl,rfl,rfl,rfl,rfl⟩ ?_
 ·refine ak (nz (64-key.length) (by omega)) ?_
  simp only[go_sem,↓reduceIte,Nat.reduceEqDiff,Nat.reduceLT,Int.reduceLT,BitVec.reduceOfInt]
  repeat refine aJ ?_
  exact rest _ ⟨_,_,_,by rw[List.length_set];exact hhs,by simp;omega,rfl,rfl,rfl,rfl,rfl⟩
 clear hhs hs ek
 rintro s ⟨t,s1,hs,hhs,hs1,rfl,h1,h2,h8,h9⟩
 refine bf (fun j st=>∃ (s1:List ac) (hs:List (BitVec 32)) (x:BitVec 64),s1.length=j∧s1.length≤2199023255552∧hs.length=8∧st=⟨[(1,.str s1),(2,.i64 many),(8,.ptr 0 0),(9,.u64 x)],[bK (hs.map .u32)]⟩) ?_ ?_
 ·refine ig (s1.length) [1,2,8,9] 1 (by simp) (by simp) (by simp[cB,St.get,V.low,-List.map_take,-List.map_drop,-List.map_map,-List.map_set,h1,h2,h8,h9]) (by simp[aO,-List.map_take,-List.map_drop,-List.map_map,-List.map_set]) ?_
  simp only[ct,List.map_cons,List.map_nil,St.get,List.take_succ_cons,List.take_zero,h1,h2,h8,h9]
  exact⟨_,_,_,rfl,hs1,hhs,rfl⟩
 clear hs1 hhs h1 h2 h8 h9 t s1 hs
 rintro j st ⟨s1,hs,x,rfl,hs1,hhs,rfl⟩-
 by_cases h64:64<(s1.length:Int)
 ·simp only[go_sem,↓reduceIte,Nat.reduceEqDiff,Nat.reduceLT,Int.reduceLE,Int.reduceLT,Int.reduceToNat,BitVec.reduceOfInt,h64,List.length_map,hhs,List.take_of_length_le (show hs.length≤8 by omega)]
  repeat refine aJ ?_
  refine lg (Ao hs hhs (s1.take 64) (by simp;omega) _ _) ?_
  rintro _ ⟨hs',rfl,hhs'⟩
  simp only[go_sem,↓reduceIte,Nat.reduceEqDiff,Nat.reduceLT,Int.reduceLE,Int.reduceToNat,bi,List.length_map,hhs,hhs']
  repeat refine aJ ?_
  refine je (s1.length-64) [1,2,8,9] 1 (by omega) (by simp) (by simp) (by simp[cB,St.get,af,V.low,-List.map_take,-List.map_drop,-List.map_map,-List.map_set]) (by simp[aO,-List.map_take,-List.map_drop,-List.map_map,-List.map_set]) ?_
  simp only[ct,List.map_cons,List.map_nil,St.get,af,↓reduceIte,Nat.reduceEqDiff,List.take_succ_cons,List.take_zero]
  exact⟨_,_,_,by simp,by simp;omega,hhs',rfl⟩
 have e2:aj (64-(s1.length:Int))=((64-s1.length:Nat):Int):=by rw[am (by omega) (by omega)];omega
 simp only[go_sem,↓reduceIte,Nat.reduceEqDiff,Nat.reduceLT,h64,List.length_map,hhs,List.take_of_length_le (show hs.length≤8 by omega),e2]
 repeat refine aJ ?_
 refine aH (nz (64-s1.length) (by omega)) ?_
 simp only[go_sem,↓reduceIte,Nat.reduceEqDiff,Nat.reduceLT]
 repeat refine aJ ?_
 refine lg (Ao hs hhs _ (by simp;omega) _ _) ?_
 rintro _ ⟨hs',rfl,hhs'⟩
 simp only[go_sem,↓reduceIte,Nat.reduceEqDiff,Nat.reduceLT,bi,List.length_map,hhs,hhs',List.take_of_length_le (show hs'.length≤8 by omega)]
 repeat refine aJ ?_
 obtain⟨mn,rfl⟩:∃ mn:Nat,many=(mn:Int):=⟨many.toNat,by omega⟩
 refine bf (fun j st=>∃ i:Nat,i+j=8∧((i=0∧st=⟨[(2,.i64 mn),(8,.ptr 0 0),(72,.agg (hs'.map .u32)),(73,.i64 (0:Nat)),(10,.nilSlice)],[bK (hs'.map .u32)]⟩)∨(0<i∧∃ bs:List ac,bs.length=4*i∧st=⟨[(2,.i64 mn),(8,.ptr 0 0),(72,.agg (hs'.map .u32)),(73,.i64 i),(10,.slice 1 0 bs.length 1)],[bK (hs'.map .u32),bK (bs.map .u8)]⟩))) ?_ ?_
 ·refine ig (8) [2,8,72,73,10] 1 (by simp) (by simp) (by simp[cB,St.get,af,V.low,-List.map_take,-List.map_drop,-List.map_map,-List.map_set]) (by simp[aO,-List.map_take,-List.map_drop,-List.map_map,-List.map_set]) ?_
  simp only[ct,List.map_cons,List.map_nil,St.get,af,↓reduceIte,Nat.reduceEqDiff,List.take_succ_cons,List.take_zero]
  exact⟨0,by omega,.inl ⟨rfl,rfl⟩⟩
 clear hs1 hhs h64 e2 s1 hs x
 rintro j st ⟨i,hij,hcase⟩-
 by_cases hi:i<8
 ·have hi':(i:Int)<8:=by omega
  have hw1:=gM (i:=i) (by omega)
  rcases hcase with⟨rfl,rfl⟩|⟨hi0,bs,hbs,rfl⟩
  ·simp only[go_sem,↓reduceIte,Nat.reduceEqDiff,Nat.reduceLT,Int.reduceLT,Int.reduceToNat,List.length_map,hhs',eg V.u32 0#32]
   repeat refine aJ ?_
   refine aq [] (qF ((hs'.getD 0 0#32).setWidth 64)) (by kernel_rfl) (by simp) rfl (by simp) (by first|decide|simp) (by simp) (by simp) (by simp) (by simp) (by simp) ?_
   simp only[go_sem,↓reduceIte,Nat.reduceEqDiff,Nat.reduceLT,Nat.reduceAdd,Nat.reduceSub,Int.reduceLE,Int.reduceAdd,Int.reduceNeg]
   exact dP (j-1) ⟨[(2,.i64 mn),(8,.ptr 0 0),(72,.agg (hs'.map .u32)),(73,.i64 (0+1:Nat)),(10,.slice 1 0 (aE ((hs'.getD 0 0#32).setWidth 64).toNat 4).length 1)],[bK (hs'.map .u32),bK ((aE ((hs'.getD 0 0#32).setWidth 64).toNat 4).map .u8)]⟩ [0,1] (by omega) rfl (by simp) rfl (by decide) (by simp[cz,St.get,af,br,-List.map_map,-List.map_set]) (by simp) ⟨0+1,by omega,.inr ⟨by omega,_,by simp[br],rfl⟩⟩
  ·simp only[go_sem,↓reduceIte,Nat.reduceEqDiff,Nat.reduceLT,hi',List.length_map,hhs',eg V.u32 0#32,hi]
   repeat refine aJ ?_
   refine aq [1] (qC bs ((hs'.getD i 0#32).setWidth 64) (by omega)) (by kernel_rfl) (by simp) rfl (by simp) (by first|decide|simp) (by simp) (by simp) (by simp) (by simp) (by simp) ?_
   simp only[go_sem,↓reduceIte,Nat.reduceEqDiff,Nat.reduceLT,Nat.reduceAdd,Nat.reduceSub,hw1]
   exact dP (j-1) ⟨[(2,.i64 mn),(8,.ptr 0 0),(72,.agg (hs'.map .u32)),(73,.i64 (i+1:Nat)),(10,.slice 1 0 (bs++aE ((hs'.getD i 0#32).setWidth 64).toNat 4).length 1)],[bK (hs'.map .u32),bK ((bs++aE ((hs'.getD i 0#32).setWidth 64).toNat 4).map .u8)]⟩ [0,2] (by omega) rfl (by simp) rfl (by decide) (by simp[cz,St.get,af,br,-List.map_map,-List.map_set]) (by simp) ⟨i+1,by omega,.inr ⟨by omega,_,by simp[br,hbs];omega,rfl⟩⟩
 have hi':¬ (i:Int)<8:=by omega
 rcases hcase with⟨rfl,rfl⟩|⟨hi0,bs,hbs,rfl⟩
 ·omega
 simp only[go_sem,↓reduceIte,Nat.reduceEqDiff,Nat.reduceLT,Int.reduceToNat,hi',List.length_map]
 repeat refine aJ ?_
 exact .inr ⟨by omega,by omega,by omega,_,by simp;omega,rfl⟩
theorem eight {hs:List (BitVec 32)}(h:hs.length=8):∃ a b c d e f g i:BitVec 32,hs=[a,b,c,d,e,f,g,i]:=by
 match hs,h with
 |[a,b,c,d,e,f,g,i],_=>exact⟨a,b,c,d,e,f,g,i,rfl⟩
def cM (a b c d e f g i:BitVec 32)(r:List ac)(m:BitVec 64):List V:=[.u32 a,.u32 b,.u32 c,.u32 d,.u32 e,.u32 f,.u32 g,.u32 i,.str r,.u64 m]
def oH (n:Nat)(cs:List V):Prop:=∃ a b c d e f g i r m,cs=cM a b c d e f g i r m∧r.length<n
theorem Nl (σ:Nat→Nat)(a b c d e f g i:BitVec 32)(r:List ac)(m:BitVec 64):rens σ (cM a b c d e f g i r m)=cM a b c d e f g i r m:=by simp[cM,rens,V.ren]
theorem Ql (n:Nat)(a b c d e f g i:BitVec 32)(r:List ac)(m:BitVec 64):aa n (cM a b c d e f g i r m)=True:=by simp[cM,aa,V.low]
attribute [go_sem, simp] Nl Ql
theorem Id:∃ v h',ag Tryz.prog 108 [] [] v h'∧(v= .ptr 0 0∧∃ cs,oH 1 cs∧h'=[bK cs]):=by
 refine dI (Post:=fun v h'=>v= .ptr 0 0∧∃ cs,oH 1 cs∧h'=[bK cs]) (by kernel_rfl) (fn:=Tryz.f108) Tryz.func108 rfl (by show 0≤4;decide) (ae ?_)
 simp only[go_sem,seval]
 refine cy FO ?_
 rintro _ ⟨hs,hhs,rfl⟩
 obtain⟨a,b,c,d,e,f,g,i,rfl⟩:=eight hhs
 simp only[go_sem,seval]
 repeat refine aJ ?_
 refine⟨_,_,?_,Fin.take 1 (by simp) (by simp) (by simp[V.low,-List.map_take,-List.map_drop,-List.map_map,-List.map_set]) (by simp[aO,aa,V.low,-List.map_take,-List.map_drop,-List.map_map,-List.map_set])⟩
 exact⟨rfl,_,⟨a,b,c,d,e,f,g,i,[],0#64,rfl,by simp⟩,rfl⟩
theorem FP (cs:List V)(h:oH 1 cs)(s:List ac)(hs:s.length≤4398046511104):∃ v h',ag Tryz.prog 109 [.ptr 0 0,.str s] [bK cs] v h'∧(v= .tup []∧∃ cs,oH 64 cs∧h'=[bK cs]):=by
 obtain⟨a,b,c,d,e,f,g,i,r,m,rfl,hr⟩:=h
 refine dI (Post:=fun v h'=>v= .tup []∧∃ cs,oH 64 cs∧h'=[bK cs]) (by kernel_rfl) (fn:=Tryz.f109) Tryz.func109 rfl (by show 2≤49;decide) (ae ?_)
 simp only[go_sem,seval,cM]
 repeat refine aJ ?_
 refine bf (fun j st=>∃ (a b c d e f g i:BitVec 32) (r:List ac) (m:BitVec 64),r.length=j∧r.length≤8796093022208∧st=⟨[(0,.ptr 0 0)],[bK (cM a b c d e f g i r m)]⟩) ?_ ?_
 ·refine ig ((r++s).length) [0] 1 (by simp) (by simp) (by simp[cB,St.get,af,V.low,-List.map_take,-List.map_drop,-List.map_map,-List.map_set]) (by simp[aO,aa,V.low,-List.map_take,-List.map_drop,-List.map_map,-List.map_set]) ?_
  simp only[ct,List.map_cons,List.map_nil,St.get,af,seval,List.take_succ_cons,List.take_zero]
  exact⟨a,b,c,d,e,f,g,i,_,_,rfl,by simp;omega,rfl⟩
 clear hr r a b c d e f g i m
 rintro j st ⟨a,b,c,d,e,f,g,i,r,m,rfl,hr,rfl⟩-
 by_cases h64:(64:Int)≤(r.length:Int)
 ·simp only[go_sem,seval,cM,h64]
  repeat refine aJ ?_
  refine lg (Ap [a,b,c,d,e,f,g,i] rfl (r.take 64) (by simp;omega)) ?_
  rintro _ ⟨hs,hhs,rfl⟩
  obtain⟨a,b,c,d,e,f,g,i,rfl⟩:=eight hhs
  simp only[go_sem,seval]
  repeat refine aJ ?_
  refine je (r.length-64) [0] 1 (by omega) (by simp) (by simp) (by simp[cB,St.get,af,V.low,-List.map_take,-List.map_drop,-List.map_map,-List.map_set]) (by simp[aO,aa,V.low,-List.map_take,-List.map_drop,-List.map_map,-List.map_set]) ?_
  simp only[ct,List.map_cons,List.map_nil,St.get,af,seval,List.take_succ_cons,List.take_zero]
  exact⟨a,b,c,d,e,f,g,i,_,_,by simp,by simp;omega,rfl⟩
 ·simp only[go_sem,seval,cM,h64]
  refine⟨_,_,?_,Fin.take 1 (by simp) (by simp) (by simp[eo,aa,V.low,-List.map_take,-List.map_drop,-List.map_map,-List.map_set]) (by simp[aO,aa,V.low,-List.map_take,-List.map_drop,-List.map_map,-List.map_set])⟩
  exact⟨rfl,_,⟨a,b,c,d,e,f,g,i,r,m,rfl,by omega⟩,rfl⟩
theorem GQ (cs:List V)(h:oH 64 cs):∃ v h',ag Tryz.prog 110 [.ptr 0 0] [bK cs] v h'∧(∃ o:List ac,o.length=32∧v= .str o∧h'=[bK cs]):=by
 obtain⟨a,b,c,d,e,f,g,i,r,m,rfl,hr⟩:=h
 refine dI (Post:=fun v h'=>∃ o:List ac,o.length=32∧v= .str o∧h'=[bK (cM a b c d e f g i r m)]) (by kernel_rfl) (fn:=Tryz.f110) Tryz.func110 rfl (by show 1≤54;decide) (ae ?_)
 simp only[go_sem,seval,cM,List.length_map]
 repeat refine aJ ?_
 refine bf (fun j st=>∃ (bs:List ac),(bs.length+j)%64=56∧j<64∧bs.length+j≤192∧st=⟨[(0,.ptr 0 0),(3,.slice 1 0 bs.length 1)],[bK (cM a b c d e f g i r m),bK (bs.map .u8)]⟩) ?_ ?_
 ·exact Aa ((120-(r.length+1))%64) ⟨[(0,.ptr 0 0),(3,.slice 1 0 (r++[128#8]).length 1)],[bK (cM a b c d e f g i r m),bK ((r++[128#8]).map .u8)]⟩ [0,3] rfl (by simp) rfl (by decide) (by simp[cz,St.get,af,-List.map_map,-List.map_set]) (by simp[cM,-List.map_map,-List.map_set]) ⟨_,by simp;omega,by omega,by simp;omega,rfl⟩
 clear hr
 rintro j st ⟨bs,hb1,hb2,hb3,rfl⟩-
 by_cases hx:bs.length%64=56
 ·have hx':(bs.length:Int).tmod 64=56:=by rw[Int.tmod_eq_emod_of_nonneg (by omega)];omega
  simp only[go_sem,seval,hx',cM]
  repeat refine aJ ?_
  refine aq [1] (qO bs (8#64*m) (by omega)) (by kernel_rfl) (by simp) rfl (by simp) (by first|decide|simp) (by simp) (by simp) (by simp) (by simp) (by simp) ?_
  simp only[go_sem,seval]
  repeat refine aJ ?_
  refine And.intro (by rw[aW];omega) ?_
  refine bf (fun j st=>∃ (s1:List ac) (a' b' c' d' e' f' g' i':BitVec 32),s1.length=j∧s1.length%64=0∧s1.length≤200∧st=⟨[(0,.ptr 0 0),(4,.ptr 2 0),(5,.str s1)],[bK (cM a b c d e f g i r m),none,bK [.u32 a',.u32 b',.u32 c',.u32 d',.u32 e',.u32 f',.u32 g',.u32 i']]⟩) ?_ ?_
  ·refine ig ((List.take (bs.length+8) (bs++ar (8#64*m).toNat 8)).length) [0,4,5] 3 (by simp) (by simp) (by simp[cB,St.get,af,V.low,-List.map_take,-List.map_drop,-List.map_map,-List.map_set]) (by simp[aO,aa,V.low,-List.map_take,-List.map_drop,-List.map_map,-List.map_set]) ?_
   simp only[ct,List.map_cons,List.map_nil,St.get,af,seval,List.take_succ_cons,List.take_zero]
   exact⟨_,_,_,_,_,_,_,_,_,rfl,by simp[aW];omega,by simp[aW];omega,rfl⟩
  clear hx hx' hb1 hb2 hb3 bs
  rintro j st ⟨s1,a',b',c',d',e',f',g',i',rfl,hs1,hs2,rfl⟩-
  by_cases h0:s1=[]
  ·subst h0
   simp only[go_sem,seval,cM]
   obtain⟨hs,hhs,ee⟩:∃ hs:List (BitVec 32),hs.length=8∧[V.u32 a',V.u32 b',V.u32 c',V.u32 d',V.u32 e',V.u32 f',V.u32 g',V.u32 i']=hs.map V.u32:=⟨[a',b',c',d',e',f',g',i'],rfl,rfl⟩
   rw[ee]
   refine bf (fun j st=>∃ k:Nat,k+j=8∧((k=0∧st=⟨[(43,.agg (hs.map .u32)),(44,.i64 (0:Nat)),(6,.nilSlice)],[bK (cM a b c d e f g i r m)]⟩)∨(0<k∧∃ bs:List ac,bs.length=4*k∧st=⟨[(43,.agg (hs.map .u32)),(44,.i64 k),(6,.slice 1 0 bs.length 1)],[bK (cM a b c d e f g i r m),bK (bs.map .u8)]⟩))) ?_ ?_
   ·refine ig (8) [43,44,6] 1 (by simp) (by simp) (by simp[cB,St.get,af,V.low,-List.map_take,-List.map_drop,-List.map_map,-List.map_set]) (by simp[aO,aa,V.low,-List.map_take,-List.map_drop,-List.map_map,-List.map_set]) ?_
    simp only[ct,List.map_cons,List.map_nil,St.get,af,seval,List.take_succ_cons,List.take_zero]
    exact⟨0,by omega,.inl ⟨rfl,rfl⟩⟩
   clear hs1 hs2 ee
   rintro j st ⟨k,hij,hcase⟩-
   by_cases hi:k<8
   ·have hi':(k:Int)<8:=by omega
    have hw1:=gM (i:=k) (by omega)
    rcases hcase with⟨rfl,rfl⟩|⟨hi0,bs,hbs,rfl⟩
    ·simp only[go_sem,seval,List.length_map,hhs,eg V.u32 0#32]
     repeat refine aJ ?_
     refine aq [] (q8 ((hs.getD 0 0#32).setWidth 64)) (by kernel_rfl) (by simp) rfl (by simp) (by first|decide|simp) (by simp) (by simp) (by simp) (by simp) (by simp) ?_
     simp only[go_sem,seval]
     exact dP (j-1) ⟨[(43,.agg (hs.map .u32)),(44,.i64 (0+1:Nat)),(6,.slice 1 0 (ar ((hs.getD 0 0#32).setWidth 64).toNat 4).length 1)],[bK (cM a b c d e f g i r m),bK ((ar ((hs.getD 0 0#32).setWidth 64).toNat 4).map .u8)]⟩ [0,1] (by omega) rfl (by simp) rfl (by decide) (by simp[cz,St.get,af,aW,-List.map_map,-List.map_set]) (by simp[cM,-List.map_map,-List.map_set]) ⟨0+1,by omega,.inr ⟨by omega,_,by simp[aW],rfl⟩⟩
    ·simp only[go_sem,seval,hi',List.length_map,hhs,eg V.u32 0#32,hi]
     repeat refine aJ ?_
     refine aq [1] (qP bs ((hs.getD k 0#32).setWidth 64) (by omega)) (by kernel_rfl) (by simp) rfl (by simp) (by first|decide|simp) (by simp) (by simp) (by simp) (by simp) (by simp) ?_
     simp only[go_sem,seval,hw1]
     exact dP (j-1) ⟨[(43,.agg (hs.map .u32)),(44,.i64 (k+1:Nat)),(6,.slice 1 0 (bs++ar ((hs.getD k 0#32).setWidth 64).toNat 4).length 1)],[bK (cM a b c d e f g i r m),bK ((bs++ar ((hs.getD k 0#32).setWidth 64).toNat 4).map .u8)]⟩ [0,2] (by omega) rfl (by simp) rfl (by decide) (by simp[cz,St.get,af,aW,-List.map_map,-List.map_set]) (by simp[cM,-List.map_map,-List.map_set]) ⟨k+1,by omega,.inr ⟨by omega,_,by simp[aW,hbs];omega,rfl⟩⟩
   have hi':¬ (k:Int)<8:=by omega
   rcases hcase with⟨rfl,rfl⟩|⟨hi0,bs,hbs,rfl⟩
   ·omega
   simp only[go_sem,seval,hi',List.length_map]
   repeat refine aJ ?_
   refine⟨_,_,?_,Fin.take 1 (by simp) (by simp) (by simp[V.low,-List.map_take,-List.map_drop,-List.map_map,-List.map_set]) (by simp[aO,-List.map_take,-List.map_drop,-List.map_map,-List.map_set])⟩
   refine⟨_,?_,rfl,rfl⟩
   rw[hbs];omega
  ·have hpos:0<s1.length:=List.length_pos_iff.2 h0
   simp only[go_sem,seval,h0]
   repeat refine aJ ?_
   refine lg (Ap [a',b',c',d',e',f',g',i'] rfl (s1.take 64) (by simp;omega)) ?_
   rintro _ ⟨hs,hhs,rfl⟩
   obtain⟨a',b',c',d',e',f',g',i',rfl⟩:=eight hhs
   simp only[go_sem,seval]
   repeat refine aJ ?_
   refine je (s1.length-64) [0,4,5] 3 (by omega) (by simp) (by simp) (by simp[cB,St.get,af,V.low,-List.map_take,-List.map_drop,-List.map_map,-List.map_set]) (by simp[aO,aa,V.low,-List.map_take,-List.map_drop,-List.map_map,-List.map_set,cM]) ?_
   simp only[ct,List.map_cons,List.map_nil,St.get,af,seval,List.take_succ_cons,List.take_zero,cM]
   exact⟨_,_,_,_,_,_,_,_,_,by simp,by simp;omega,by simp;omega,rfl⟩
 ·have hx':¬ (bs.length:Int).tmod 64=56:=by rw[Int.tmod_eq_emod_of_nonneg (by omega)];omega
  simp only[go_sem,seval,hx',List.length_map]
  repeat refine aJ ?_
  exact dP (j-1) ⟨[(0,.ptr 0 0),(3,.slice 1 0 (bs++[0#8]).length 1)],[bK (cM a b c d e f g i r m),bK ((bs++[0#8]).map .u8)]⟩ [0,3] (by omega) rfl (by simp) rfl (by decide) (by simp[cz,St.get,af,-List.map_map,-List.map_set]) (by simp[cM,-List.map_map,-List.map_set]) ⟨_,by simp;omega,by omega,by simp;omega,rfl⟩
theorem Ie (s:List ac)(hs:s.length≤4398046511104):∃ v,ao Tryz.prog 73 [.str s] v∧∃ o:List ac,o.length=32∧v= .str o:=by
 obtain⟨_,_,hn,rfl,c1,h1,rfl⟩:=Id
 obtain⟨_,_,hw,rfl,c2,h2,rfl⟩:=FP c1 h1 s hs
 obtain⟨_,_,hsum,o,ho,rfl,rfl⟩:=GQ c2 h2
 obtain⟨a1,b1,d1,e1,f1,g1,k1,l1,r1,m1,rfl,-⟩:=h1
 obtain⟨a2,b2,d2,e2,f2,g2,k2,l2,r2,m2,rfl,-⟩:=h2
 refine eW (Post:=fun v=>∃ o:List ac,o.length=32∧v= .str o) (by kernel_rfl) (by kernel_rfl) (fn:=Tryz.f73) Tryz.func73 rfl (by show 1≤10;decide) (by simp[aa,V.low]) (fun v h=>by first|(obtain⟨s,rfl,h⟩:=h;simp[aa,V.low])|(obtain⟨s,h,rfl⟩:=h;simp[V.low])) (ae ?_)
 simp only[go_sem,seval]
 refine aq [] (hn) (by kernel_rfl) (by simp) rfl (by simp) (by first|decide|simp) (by simp) (by simp) (by simp) (by simp) (by simp) ?_
 simp only[go_sem,seval]
 refine aq [0] (hw) (by kernel_rfl) (by simp) rfl (by simp) (by first|decide|simp) (by simp) (by simp) (by simp) (by simp) (by simp) ?_
 simp only[go_sem,seval]
 refine aq [0] (hsum) (by kernel_rfl) (by simp) rfl (by simp) (by first|decide|simp) (by simp) (by simp) (by simp) (by simp) (by simp) ?_
 simp only[go_sem,seval]
 exact⟨o,ho,rfl⟩
def S6 (f:V):Prop:=∃ n,f= .fn n [] []∧∀ s:List ac,s.length≤1099511627776→∃ v,ao Tryz.prog n [.str s] v∧∃ o:List ac,o.length=32∧v= .str o
theorem JQ (s:List ac)(hs:s.length≤1099511627776):∃ v,ao Tryz.prog 71 [.str s] v∧∃ o:List ac,o.length=32∧v= .str o:=by
 refine eW (Post:=fun v=>∃ o:List ac,o.length=32∧v= .str o) (by kernel_rfl) (by kernel_rfl) (fn:=Tryz.f71) Tryz.func71 rfl (by show 1≤11;decide) (by simp[aa,V.low]) (fun v h=>by first|(obtain⟨s,rfl,h⟩:=h;simp[aa,V.low])|(obtain⟨s,h,rfl⟩:=h;simp[V.low])) (ae ?_)
 simp only[go_sem,seval]
 refine cy (yg [] s 32 (by simp) hs) ?_
 rintro _ (⟨-,h⟩|⟨-,-,-,o,ho,rfl⟩)
 ·exact absurd h (by simp)
 ·simp only[go_sem,seval]
  exact⟨o,by omega,rfl⟩
theorem yN (k:Int)(hk:k=1∨k=2):∃ v,ao Tryz.prog 49 [.i64 k] v∧S6 v:=by
 rcases hk with rfl|rfl
 ·refine⟨.fn 71 [] [],?_,_,rfl,JQ⟩
  refine aB (by kernel_rfl) (fn:=Tryz.f49) (by kernel_rfl) Tryz.func49 rfl (by show 1≤8;decide) (by simp[aa,V.low]) (by simp[aa,V.low]) (ae ?_)
  simp only[go_sem,seval,Tryz.ntmps49,Tryz.results49]
 ·refine⟨.fn 73 [] [],?_,_,rfl,fun s hs=>Ie s (by omega)⟩
  refine aB (by kernel_rfl) (fn:=Tryz.f49) (by kernel_rfl) Tryz.func49 rfl (by show 1≤8;decide) (by simp[aa,V.low]) (by simp[aa,V.low]) (ae ?_)
  simp only[go_sem,seval,Tryz.ntmps49,Tryz.results49]
theorem If (k:Int)(hk:k=1∨k=2)(s:List ac)(hs:s.length≤1099511627776):∃ v,ao Tryz.prog 170 [.i64 k,.str s] v∧∃ o:List ac,o.length=32∧v= .tup [.str o,.i64 0]:=by
 refine eW (Post:=fun v=>∃ o:List ac,o.length=32∧v= .tup [.str o,.i64 0]) (by kernel_rfl) (by kernel_rfl) (fn:=Tryz.f170) Tryz.func170 rfl (by show 2≤14;decide) (by simp[aa,V.low]) (fun v h=>by first|(obtain⟨s,rfl,h⟩:=h;simp[aa,V.low])|(obtain⟨s,h,rfl⟩:=h;simp[aa,V.low])) (ae ?_)
 simp only[go_sem,seval]
 refine cy (yN k hk) ?_
 rintro _ ⟨f,rfl,hf⟩
 simp only[go_sem,seval]
 refine cy (hf s hs) ?_
 rintro _ ⟨o,ho,rfl⟩
 simp only[go_sem,seval]
 exact⟨o,ho,rfl⟩
theorem wG (k:Int)(hk:k=1∨k=2)(key s:List ac)(hk2:key.length≤1099511627776)(hs:s.length≤549755813888):∃ v,ao Tryz.prog 32 [.i64 k,.str key,.str s] v∧∃ o:List ac,o.length=32∧v= .tup [.str o,.i64 0]:=by
 refine eW (Post:=fun v=>∃ o:List ac,o.length=32∧v= .tup [.str o,.i64 0]) (by kernel_rfl) (by kernel_rfl) (fn:=Tryz.f32) Tryz.func32 rfl (by show 3≤30;decide) (by simp[aa,V.low]) (fun v h=>by first|(obtain⟨s,rfl,h⟩:=h;simp[aa,V.low])|(obtain⟨s,h,rfl⟩:=h;simp[aa,V.low])) (ae ?_)
 simp only[go_sem,seval]
 refine cy (yN k hk) ?_
 rintro _ ⟨f,rfl,hf⟩
 by_cases h64:(64:Int)<key.length
 ·simp only[go_sem,seval,h64]
  refine cy (hf key hk2) ?_
  rintro _ ⟨key2,hkey2,rfl⟩
  simp only[go_sem,seval]
  refine cy (rY key2 92#8) ?_
  rintro _ ⟨p,hp,rfl⟩
  simp only[go_sem,seval]
  refine cy (rY key2 54#8) ?_
  rintro _ ⟨q,hq,rfl⟩
  simp only[go_sem,seval]
  repeat refine aJ ?_
  refine cy (hf (q++s) (by simp;omega)) ?_
  rintro _ ⟨o,ho,rfl⟩
  simp only[go_sem,seval]
  repeat refine aJ ?_
  refine cy (hf (p++o) (by simp;omega)) ?_
  rintro _ ⟨o,ho,rfl⟩
  simp only[go_sem,seval]
  exact⟨o,ho,rfl⟩
 ·simp only[go_sem,seval,h64]
  refine cy (rY key 92#8) ?_
  rintro _ ⟨p,hp,rfl⟩
  simp only[go_sem,seval]
  refine cy (rY key 54#8) ?_
  rintro _ ⟨q,hq,rfl⟩
  simp only[go_sem,seval]
  repeat refine aJ ?_
  refine cy (hf (q++s) (by simp;omega)) ?_
  rintro _ ⟨o,ho,rfl⟩
  simp only[go_sem,seval]
  repeat refine aJ ?_
  refine cy (hf (p++o) (by simp;omega)) ?_
  rintro _ ⟨o,ho,rfl⟩
  simp only[go_sem,seval]
  exact⟨o,ho,rfl⟩
theorem Ig (k:Int)(hk:k=1∨k=2)(key s:List ac)(hk2:key.length≤1099511627776)(hs:s.length≤549755813888)(n:Nat)(hn:0<n)(hn3:n≤3):∃ v h',ag Tryz.prog 23 [.i64 k,.str key,.str s,.i64 n] [] v h'∧(v= .tup [.slice 0 0 n 1,.i64 0]∧∃ os:List (List ac),os.length=n∧(∀ o∈os,o.length=32)∧h'=[bK (os.map .str)]):=by
 have g1:¬ (n:Int)<1:=by omega
 have g2:¬ 3<(n:Int):=by omega
 refine dI (Post:=fun v h'=>v= .tup [.slice 0 0 n 1,.i64 0]∧∃ os:List (List ac),os.length=n∧(∀ o∈os,o.length=32)∧h'=[bK (os.map .str)]) (by kernel_rfl) (fn:=Tryz.f23) Tryz.func23 rfl (by show 4≤55;decide) (ae ?_)
 simp only[go_sem,seval]
 refine cy (wG k hk key s hk2 hs) ?_
 rintro _ ⟨p,hp,rfl⟩
 simp only[go_sem,seval,g1,g2]
 refine bf (fun j st=>∃ (i:Nat) (last:List ac),i+j=n∧last.length≤32∧((i=0∧st=⟨[(0,.i64 k),(10,.str p),(13,.str last),(32,.i64 n),(33,.i64 (0:Nat)),(12,.nilSlice)],[]⟩)∨(0<i∧∃ os:List (List ac),os.length=i∧(∀ o∈os,o.length=32)∧st=⟨[(0,.i64 k),(10,.str p),(13,.str last),(32,.i64 n),(33,.i64 i),(12,.slice 0 0 i 1)],[bK (os.map .str)]⟩))) ?_ ?_
 ·refine ig (n) [0,10,13,32,33,12] 0 (by simp) (by simp) (by simp[cB,St.get,af,V.low,-List.map_take,-List.map_drop,-List.map_map,-List.map_set]) (by simp[aO,-List.map_take,-List.map_drop,-List.map_map,-List.map_set]) ?_
  simp only[ct,List.map_cons,List.map_nil,St.get,af,seval,List.take_zero]
  exact⟨0,_,by omega,by simp,.inl ⟨rfl,rfl⟩⟩
 rintro j st ⟨i,last,hij,hlast,hcase⟩-
 by_cases hi:i<n
 ·have hi':(i:Int)<n:=by omega
  have hw1:=gM (i:=i) (by omega)
  rcases hcase with⟨rfl,rfl⟩|⟨hi0,os,hos,hos2,rfl⟩
  ·have hi2:(0:Int)<n:=by omega
   simp only[go_sem,seval,hi2]
   repeat refine aJ ?_
   refine cy (wG k hk p (last++[BitVec.ofInt 8 (aj (0+1))]) (by omega) (by simp;omega)) ?_
   rintro _ ⟨o,ho,rfl⟩
   simp only[go_sem,seval]
   repeat refine aJ ?_
   exact dP (j-1) ⟨[(0,.i64 k),(10,.str p),(13,.str o),(32,.i64 n),(33,.i64 (0+1:Nat)),(12,.slice 0 0 (0+1) 1)],[bK ([o].map .str)]⟩ [2] (by omega) rfl (by simp) rfl (by decide) (by simp[cz,St.get,af,-List.map_map,-List.map_set]) (by simp) ⟨0+1,o,by omega,by omega,.inr ⟨by omega,[o],rfl,by simpa using ho,rfl⟩⟩
  ·simp only[go_sem,seval,hi']
   repeat refine aJ ?_
   refine cy (wG k hk p (last++[BitVec.ofInt 8 (aj ((i:Int)+1))]) (by omega) (by simp;omega)) ?_
   rintro _ ⟨o,ho,rfl⟩
   simp only[go_sem,seval,List.length_map,hos,hw1,List.take_of_length_le (show(os.map V.str).length≤i by simp;omega),List.drop_zero]
   repeat refine aJ ?_
   exact dP (j-1) ⟨[(0,.i64 k),(10,.str p),(13,.str o),(32,.i64 n),(33,.i64 (i+1:Nat)),(12,.slice 0 0 (i+1) 1)],[bK ((os++[o]).map .str)]⟩ [3] (by omega) rfl (by simp) rfl (by decide) (by simp[cz,St.get,af,-List.map_map,-List.map_set]) (by simp) ⟨i+1,o,by omega,by omega,.inr ⟨by omega,os++[o],by simp[hos],fun x hx=>by rcases List.mem_append.1 hx with hx|hx;exact hos2 x hx;rw[List.mem_singleton.1 hx];exact ho,rfl⟩⟩
 have hi':¬ (i:Int)<n:=by omega
 rcases hcase with⟨rfl,rfl⟩|⟨hi0,os,hos,hos2,rfl⟩
 ·omega
 obtain rfl:i=n:=by omega
 simp only[go_sem,seval,hi']
 refine⟨_,_,?_,Fin.take 1 (by simp) (by simp) (by simp[aa,V.low,-List.map_take,-List.map_drop,-List.map_map,-List.map_set]) (by simp[aO,-List.map_take,-List.map_drop,-List.map_map,-List.map_set])⟩
 exact⟨rfl,os,hos,hos2,rfl⟩
theorem Vb:dK Tryz.prog 257 "souterrain/noise.kind"=some 233:=by kernel_rfl
theorem Vc:dK Tryz.prog 258 "souterrain/noise.kind"=some 237:=by kernel_rfl
theorem Ih:ao Tryz.prog 233 [.agg []] (.i64 1):=by
 refine aB (by kernel_rfl) (fn:=Tryz.f233) (by kernel_rfl) Tryz.func233 rfl (by show 1≤3;decide) (by simp[aa,V.low]) (by simp[V.low]) (ae ?_)
 simp only[go_sem,seval,Tryz.ntmps233,Tryz.results233]
theorem Ii:ao Tryz.prog 237 [.agg []] (.i64 2):=by
 refine aB (by kernel_rfl) (fn:=Tryz.f237) (by kernel_rfl) Tryz.func237 rfl (by show 1≤3;decide) (by simp[aa,V.low]) (by simp[V.low]) (ae ?_)
 simp only[go_sem,seval,Tryz.ntmps237,Tryz.results237]
def bN (s:V)(h c k:List ac)(n:BitVec 64):List V:=[s,.str h,.str c,.str k,.u64 n]
theorem two {os:List (List ac)}(h:os.length=2)(h2:∀ o∈os,o.length=32):∃ a b,os=[a,b]∧a.length=32∧b.length=32:=by
 match os,h with
 |[a,b],_=>exact⟨a,b,rfl,h2 a (by simp),h2 b (by simp)⟩
theorem three {os:List (List ac)}(h:os.length=3)(h2:∀ o∈os,o.length=32):∃ a b c,os=[a,b,c]∧a.length=32∧b.length=32∧c.length=32:=by
 match os,h with
 |[a,b,c],_=>exact⟨a,b,c,rfl,h2 a (by simp),h2 b (by simp),h2 c (by simp)⟩
theorem DQ {os:List (List ac)}(h:os.length=1)(h2:∀ o∈os,o.length=32):∃ a,os=[a]∧a.length=32:=by
 match os,h with
 |[a],_=>exact⟨a,rfl,h2 a (by simp)⟩
theorem p8:ofValue Value.nilIface=V.nilIface:=rfl
theorem Vd:rW Tryz.prog 257=true:=by kernel_rfl
theorem Ve:rW Tryz.prog 258=true:=by kernel_rfl
theorem Wy:ao Tryz.prog 116 [.i64 1] (.iface 257 (.agg [])):=by
 refine aB (by kernel_rfl) (fn:=Tryz.f116) (by kernel_rfl) Tryz.func116 rfl (by show 1≤12;decide) (by simp[aa,V.low]) (by simp[aa,V.low]) (ae ?_)
 simp only[go_sem,seval,Tryz.ntmps116,Tryz.results116,Vd,p8]
theorem Wz:ao Tryz.prog 116 [.i64 2] (.iface 258 (.agg [])):=by
 refine aB (by kernel_rfl) (fn:=Tryz.f116) (by kernel_rfl) Tryz.func116 rfl (by show 1≤12;decide) (by simp[aa,V.low]) (by simp[aa,V.low]) (ae ?_)
 simp only[go_sem,seval,Tryz.ntmps116,Tryz.results116,Ve,p8]
theorem Nm (w:List (BitVec 32))(i k:Nat)(hk:k<4):dr w (8*i+(k+1))=lP (dr w (8*i+k)) k (4+k) (8+k) (12+k):=by
 have h1:(8*i+k)%4=k:=by omega
 have h2:(8*i+k)/4%2=0:=by omega
 rw[←Nat.add_assoc,dr]
 unfold o8
 rw[h1,h2]
 congr 1<;>omega
theorem JR (w:List (BitVec 32))(i k:Nat)(hk:k<4):dr w (8*i+4+(k+1))=lP (dr w (8*i+4+k)) k (4+(k+1)%4) (8+(k+2)%4) (12+(k+3)%4):=by
 have h1:(8*i+4+k)%4=k:=by omega
 have h2:(8*i+4+k)/4%2=1:=by omega
 rw[←Nat.add_assoc,dr]
 unfold o8
 rw[h1,h2]
 congr 1<;>omega
theorem xq (k c:Nat)(h:k+c<1000):(aj ((k:Int)+(c:Int))).tmod 4=(((k+c)%4:Nat):Int):=by
 rw[←Int.natCast_add,am (by omega) (by omega),show(4:Int)=((4:Nat):Int) from rfl,Bf]
theorem FQ (w:List (BitVec 32))(hw:w.length=16):ao Tryz.prog 186 [.agg (w.map .u32)] (.agg ((dr w 80).map .u32)):=by
 have hs:∀ n,(dr w n).length=16:=fun n=>by rw[uK];exact hw
 refine aB (by kernel_rfl) (fn:=Tryz.f186) (by kernel_rfl) Tryz.func186 rfl (by show 1≤43;decide) (by simp[pW,aa,V.low]) (by simp[pW,V.low]) (ae ?_)
 simp only[go_sem,seval,Tryz.ntmps186]
 refine bf (fun ji st=>∃ i:Nat,i+ji=10∧st=⟨[(1,.ptr 0 0),(2,.ptr 1 0),(3,.fn 196 [] [.ptr 0 0]),(7,.i64 i)],[bK ((dr w (8*i)).map .u32),bK [.u32 0#32,.u32 0#32,.u32 0#32,.u32 0#32,.u32 0#32,.u32 0#32,.u32 0#32,.u32 0#32,.u32 0#32,.u32 0#32,.u32 0#32,.u32 0#32,.u32 0#32,.u32 0#32,.u32 0#32,.u32 0#32]]⟩) ?_ ?_
 ·exact bP (10) ⟨[(1,.ptr 0 0),(2,.ptr 1 0),(3,.fn 196 [] [.ptr 0 0]),(7,.i64 (0:Nat))],[bK ((dr w (8*(0:Nat))).map .u32),bK [.u32 0#32,.u32 0#32,.u32 0#32,.u32 0#32,.u32 0#32,.u32 0#32,.u32 0#32,.u32 0#32,.u32 0#32,.u32 0#32,.u32 0#32,.u32 0#32,.u32 0#32,.u32 0#32,.u32 0#32,.u32 0#32]]⟩ (by simp[St.get,af,-List.map_set,-List.map_map]) rfl (fun _ _ h=>h) ⟨0,by omega,rfl⟩
 rintro ji st ⟨i,hi,rfl⟩ _
 simp only[go_sem,seval]
 by_cases h0:i<10
 ·have h0':(i:Int)<10:=by omega
  simp only[go_sem,seval,h0']
  refine bf (fun jk st=>∃ k:Nat,k+jk=4∧st=⟨[(1,.ptr 0 0),(2,.ptr 1 0),(3,.fn 196 [] [.ptr 0 0]),(7,.i64 i),(9,.i64 k)],[bK ((dr w (8*i+k)).map .u32),bK [.u32 0#32,.u32 0#32,.u32 0#32,.u32 0#32,.u32 0#32,.u32 0#32,.u32 0#32,.u32 0#32,.u32 0#32,.u32 0#32,.u32 0#32,.u32 0#32,.u32 0#32,.u32 0#32,.u32 0#32,.u32 0#32]]⟩) ?_ ?_
  ·exact bP 4 ⟨[(1,.ptr 0 0),(2,.ptr 1 0),(3,.fn 196 [] [.ptr 0 0]),(7,.i64 i),(9,.i64 (0:Nat))],[bK ((dr w (8*i)).map .u32),bK [.u32 0#32,.u32 0#32,.u32 0#32,.u32 0#32,.u32 0#32,.u32 0#32,.u32 0#32,.u32 0#32,.u32 0#32,.u32 0#32,.u32 0#32,.u32 0#32,.u32 0#32,.u32 0#32,.u32 0#32,.u32 0#32]]⟩ (by simp[St.get,af]) rfl (fun _ _ h=>h) ⟨0,by omega,rfl⟩
  rintro jk st ⟨k,hk,rfl⟩ _
  simp only[go_sem,seval]
  by_cases hk4:k<4
  ·have hk4':(k:Int)<4:=by omega
   have e1:aj (4+(k:Int))=((4+k:Nat):Int):=by rw[am (by omega) (by omega)];omega
   have e2:aj (8+(k:Int))=((8+k:Nat):Int):=by rw[am (by omega) (by omega)];omega
   have e3:aj (12+(k:Int))=((12+k:Nat):Int):=by rw[am (by omega) (by omega)];omega
   simp only[go_sem,seval,hk4',e1,e2,e3]
   refine aq [0] (Am (dr w (8*i+k)) (hs _) k (4+k) (8+k) (12+k) (by omega) (by omega) (by omega) (by omega)) (by kernel_rfl) (by simp) rfl (by simp) (by first|decide|simp) (by simp) (by simp) (by simp) (by simp) (by simp) ?_
   simp only[go_sem,seval,←Nm w i k hk4]
   refine bL (jk-1) ⟨[(1,.ptr 0 0),(2,.ptr 1 0),(3,.fn 196 [] [.ptr 0 0]),(7,.i64 i),(9,.i64 (k+1:Nat))],[bK ((dr w (8*i+(k+1:Nat))).map .u32),bK [.u32 0#32,.u32 0#32,.u32 0#32,.u32 0#32,.u32 0#32,.u32 0#32,.u32 0#32,.u32 0#32,.u32 0#32,.u32 0#32,.u32 0#32,.u32 0#32,.u32 0#32,.u32 0#32,.u32 0#32,.u32 0#32]]⟩ (by omega) ?_ rfl (fun _ _ h=>h) ⟨k+1,by omega,rfl⟩
   have hw1:aj ((k:Int)+1)=((k+1:Nat):Int):=by rw[am (by omega) (by omega)];omega
   simp[St.get,af,hw1,-List.map_set,-List.map_map]
  ·have hk4':¬ (k:Int)<4:=by omega
   simp only[go_sem,seval,hk4']
   obtain rfl:k=4:=by omega
   refine bf (fun jk st=>∃ k:Nat,k+jk=4∧st=⟨[(1,.ptr 0 0),(2,.ptr 1 0),(3,.fn 196 [] [.ptr 0 0]),(7,.i64 i),(22,.i64 k)],[bK ((dr w (8*i+4+k)).map .u32),bK [.u32 0#32,.u32 0#32,.u32 0#32,.u32 0#32,.u32 0#32,.u32 0#32,.u32 0#32,.u32 0#32,.u32 0#32,.u32 0#32,.u32 0#32,.u32 0#32,.u32 0#32,.u32 0#32,.u32 0#32,.u32 0#32]]⟩) ?_ ?_
   ·exact bP 4 ⟨[(1,.ptr 0 0),(2,.ptr 1 0),(3,.fn 196 [] [.ptr 0 0]),(7,.i64 i),(22,.i64 (0:Nat))],[bK ((dr w (8*i+4)).map .u32),bK [.u32 0#32,.u32 0#32,.u32 0#32,.u32 0#32,.u32 0#32,.u32 0#32,.u32 0#32,.u32 0#32,.u32 0#32,.u32 0#32,.u32 0#32,.u32 0#32,.u32 0#32,.u32 0#32,.u32 0#32,.u32 0#32]]⟩ (by simp[St.get,af]) rfl (fun _ _ h=>h) ⟨0,by omega,rfl⟩
   rintro jk st ⟨k,hk,rfl⟩ _
   simp only[go_sem,seval]
   by_cases hk4:k<4
   ·have hk4':(k:Int)<4:=by omega
    have d1:(aj ((k:Int)+1)).tmod 4=(((k+1)%4:Nat):Int):=xq k 1 (by omega)
    have e1:aj (4+(((k+1)%4:Nat):Int))=((4+(k+1)%4:Nat):Int):=by rw[am (by omega) (by omega)];omega
    have d2:(aj ((k:Int)+2)).tmod 4=(((k+2)%4:Nat):Int):=xq k 2 (by omega)
    have e2:aj (8+(((k+2)%4:Nat):Int))=((8+(k+2)%4:Nat):Int):=by rw[am (by omega) (by omega)];omega
    have d3:(aj ((k:Int)+3)).tmod 4=(((k+3)%4:Nat):Int):=xq k 3 (by omega)
    have e3:aj (12+(((k+3)%4:Nat):Int))=((12+(k+3)%4:Nat):Int):=by rw[am (by omega) (by omega)];omega
    simp only[go_sem,seval,hk4',d1,d2,d3,e1,e2,e3]
    refine aq [0] (Am (dr w (8*i+4+k)) (hs _) k (4+(k+1)%4) (8+(k+2)%4) (12+(k+3)%4) (by omega) (by omega) (by omega) (by omega)) (by kernel_rfl) (by simp) rfl (by simp) (by first|decide|simp) (by simp) (by simp) (by simp) (by simp) (by simp) ?_
    simp only[go_sem,seval,←JR w i k hk4]
    refine bL (jk-1) ⟨[(1,.ptr 0 0),(2,.ptr 1 0),(3,.fn 196 [] [.ptr 0 0]),(7,.i64 i),(22,.i64 (k+1:Nat))],[bK ((dr w (8*i+4+(k+1:Nat))).map .u32),bK [.u32 0#32,.u32 0#32,.u32 0#32,.u32 0#32,.u32 0#32,.u32 0#32,.u32 0#32,.u32 0#32,.u32 0#32,.u32 0#32,.u32 0#32,.u32 0#32,.u32 0#32,.u32 0#32,.u32 0#32,.u32 0#32]]⟩ (by omega) ?_ rfl (fun _ _ h=>h) ⟨k+1,by omega,rfl⟩
    have hw1:aj ((k:Int)+1)=((k+1:Nat):Int):=by rw[am (by omega) (by omega)];omega
    simp[St.get,af,hw1,-List.map_set,-List.map_map]
   ·have hk4':¬ (k:Int)<4:=by omega
    simp only[go_sem,seval,hk4']
    obtain rfl:k=4:=by omega
    refine bL (ji-1) ⟨[(1,.ptr 0 0),(2,.ptr 1 0),(3,.fn 196 [] [.ptr 0 0]),(7,.i64 (i+1:Nat))],[bK ((dr w (8*(i+1:Nat))).map .u32),bK [.u32 0#32,.u32 0#32,.u32 0#32,.u32 0#32,.u32 0#32,.u32 0#32,.u32 0#32,.u32 0#32,.u32 0#32,.u32 0#32,.u32 0#32,.u32 0#32,.u32 0#32,.u32 0#32,.u32 0#32,.u32 0#32]]⟩ (by omega) ?_ rfl (fun _ _ h=>h) ⟨i+1,by omega,rfl⟩
    have hw1:aj ((i:Int)+1)=((i+1:Nat):Int):=by rw[am (by omega) (by omega)];omega
    simp[St.get,af,hw1,-List.map_set,-List.map_map]
 ·have h0':¬ (i:Int)<10:=by omega
  obtain rfl:i=10:=by omega
  have h16:=hs 80
  have hm:min 16 16=16:=rfl
  simp only[go_sem,seval,h16,List.take_of_length_le,bi,hm]
def wW (s:List (BitVec 8))(i:Nat):BitVec 32:=BitVec.ofNat 32 (le ((s.drop (4*i)).take 4))
def oo (s:List (BitVec 8)):Nat→List (BitVec 32)
 |0=>[]
 |i+1=>oo s i++[wW s i]
theorem x7 (s:List (BitVec 8))(n:Nat):(oo s n).length=n:=by
 induction n with
 |zero=>rfl
 |succ n ih=>rw[oo,List.length_append,ih];rfl
def fe (l:List (BitVec 32)):List (BitVec 8):=l.flatMap fun x=>aE x.toNat 4
theorem yO (l:List (BitVec 32))(x:BitVec 32):fe (l++[x])=fe l++aE x.toNat 4:=by unfold fe;rw[List.flatMap_append];simp
theorem x8 (l:List (BitVec 32)):(fe l).length=4*l.length:=by
 induction l using Bu with
 |h0=>rfl
 |h1 l a ih=>rw[yO,List.length_append,ih,br,List.length_append];simp;omega
theorem zq (k n:List (BitVec 8))(sz:Int):ao Tryz.prog 184 [.str k,.str n,.i64 sz] (.i64 (if k.length=32∧(n.length:Int)=sz then 0 else 1)):=by
 by_cases h1:k.length=32
 ·by_cases h2:(n.length:Int)=sz
  ·refine aB (by kernel_rfl) (fn:=Tryz.f184) (by kernel_rfl) Tryz.func184 rfl (by show 3≤16;decide) (by simp[aa,V.low]) (by simp[V.low]) (ae ?_)
   simp only[go_sem,seval,Tryz.ntmps184,Tryz.results184,h1,h2]
  ·refine aB (by kernel_rfl) (fn:=Tryz.f184) (by kernel_rfl) Tryz.func184 rfl (by show 3≤16;decide) (by simp[aa,V.low]) (by simp[V.low]) (ae ?_)
   simp only[go_sem,seval,Tryz.ntmps184,Tryz.results184,h1,h2]
 ·have h1':¬ (k.length:Int)=32:=by omega
  refine aB (by kernel_rfl) (fn:=Tryz.f184) (by kernel_rfl) Tryz.func184 rfl (by show 3≤16;decide) (by simp[aa,V.low]) (by simp[V.low]) (ae ?_)
  simp only[go_sem,seval,Tryz.ntmps184,Tryz.results184,h1,h1',false_and]
def iE (s:List (BitVec 8))(i:Nat):List (BitVec 32):=[1634760805#32,857760878#32,2036477234#32,1797285236#32]++oo s i++List.replicate (12-i) 0#32
theorem rB (s:List (BitVec 8))(i:Nat)(h:i≤12):(iE s i).length=16:=by
 unfold iE;rw[List.length_append,List.length_append,x7,List.length_replicate];simp;omega
theorem Qm (s:List (BitVec 8))(i:Nat)(h:i<12):(iE s i).set (4+i) (wW s i)=iE s (i+1):=by
 unfold iE
 rw[oo,show 12-i=(12-(i+1))+1 by omega,List.replicate_succ]
 have hl:([1634760805#32,857760878#32,2036477234#32,1797285236#32]++oo s i).length=4+i:=by rw[List.length_append,x7];rfl
 rw[List.set_append_right _ _ (by omega),hl,Nat.sub_self,List.set_cons_zero]
 simp
theorem Vf (n:Nat):(BitVec.ofNat 64 n).setWidth 32=BitVec.ofNat 32 n:=by
 apply BitVec.eq_of_toNat_eq
 rw[BitVec.toNat_setWidth,BitVec.toNat_ofNat,BitVec.toNat_ofNat,Nat.mod_mod_of_dvd _ (by decide:2^32∣2^64)]
theorem Ij (k r:List (BitVec 8))(h:(k++r).length=48):ao Tryz.prog 185 [.str k,.str r] (.agg ((iE (k++r) 12).map .u32)):=by
 have hkr:k.length+r.length=48:=by rw[←List.length_append];exact h
 refine aB (by kernel_rfl) (fn:=Tryz.f185) (by kernel_rfl) Tryz.func185 rfl (by show 2≤26;decide) (by simp[aa,V.low]) (by simp[pW,V.low]) (ae ?_)
 simp only[go_sem,seval,Tryz.ntmps185,hkr]
 generalize k++r=s at h ⊢
 refine bf (fun j st=>∃ i:Nat,i+j=12∧st=⟨[(4,.ptr 0 0),(5,.ptr 1 0),(6,.i64 i),(7,.str (s.drop (4*i)))],[bK [.u32 0#32,.u32 0#32,.u32 0#32,.u32 0#32,.u32 0#32,.u32 0#32,.u32 0#32,.u32 0#32,.u32 0#32,.u32 0#32,.u32 0#32,.u32 0#32,.u32 0#32,.u32 0#32,.u32 0#32,.u32 0#32],bK ((iE s i).map .u32)]⟩) ?_ ?_
 ·exact bP 12 ⟨[(4,.ptr 0 0),(5,.ptr 1 0),(6,.i64 (0:Nat)),(7,.str (s.drop (4*0)))],[bK [.u32 0#32,.u32 0#32,.u32 0#32,.u32 0#32,.u32 0#32,.u32 0#32,.u32 0#32,.u32 0#32,.u32 0#32,.u32 0#32,.u32 0#32,.u32 0#32,.u32 0#32,.u32 0#32,.u32 0#32,.u32 0#32],bK ((iE s 0).map .u32)]⟩ (by simp[St.get,af]) rfl (fun _ _ h=>h) ⟨0,by omega,rfl⟩
 rintro j st ⟨i,hi,rfl⟩ _
 have hd:(s.drop (4*i)).length=48-4*i:=by rw[List.length_drop,h]
 by_cases h0:i<12
 ·have hne:¬ s.drop (4*i)=[]:=fun e=>by rw[e] at hd;simp at hd;omega
  have hdl:(4:Int)≤((s.drop (4*i)).length:Int):=by omega
  have hdl':(4:Int)≤((48-4*i:Nat):Int):=by omega
  have e1:aj (4+(i:Int))=((4+i:Nat):Int):=by rw[am (by omega) (by omega)];omega
  have hi1:((4+i:Nat):Int)<16:=by omega
  have hi2:4+i<16:=by omega
  have hal:=rB s i (by omega)
  have hmin:min 4 (48-4*i)=4:=by omega
  have hwd:BitVec.ofNat 32 (le ((s.drop (4*i)).take 4))=wW s i:=rfl
  have ht8:((s.drop (4*i)).take 4).take 8=(s.drop (4*i)).take 4:=List.take_of_length_le (by simp;omega)
  simp only[go_sem,seval,hne,hd,hdl']
  refine ak (eT _ (by simp;omega)) ?_
  simp only[go_sem,seval,e1,hi1,hal,ht8,List.take_of_length_le,hd,Vf,hwd,Qm s i h0,hdl',List.drop_drop]
  refine⟨by omega,by omega,by kernel_rfl,?_⟩
  refine bL (j-1) ⟨[(4,.ptr 0 0),(5,.ptr 1 0),(6,.i64 (i+1:Nat)),(7,.str (s.drop (4*(i+1))))],[bK [.u32 0#32,.u32 0#32,.u32 0#32,.u32 0#32,.u32 0#32,.u32 0#32,.u32 0#32,.u32 0#32,.u32 0#32,.u32 0#32,.u32 0#32,.u32 0#32,.u32 0#32,.u32 0#32,.u32 0#32,.u32 0#32],bK ((iE s (i+1)).map .u32)]⟩ (by omega) ?_ rfl (fun _ _ h=>h) ⟨i+1,by omega,rfl⟩
  have hw1:aj ((i:Int)+1)=((i+1:Nat):Int):=by rw[am (by omega) (by omega)];omega
  simp[St.get,af,hw1,Nat.mul_add]
 ·have hi12:i=12:=by omega
  have hde:s.drop (4*i)=[]:=List.drop_of_length_le (by omega)
  have hal:=rB s 12 (by omega)
  have hm:min 16 16=16:=rfl
  subst hi12
  simp only[go_sem,seval,hde,hal,List.take_of_length_le,bi]
theorem yP {l:List (BitVec 32)}{i:Nat}(h:i<l.length):l.take (i+1)=l.take i++[l.getD i 0]:=by
 rw[List.take_succ_eq_append_getElem h,List.getD_eq_getElem?_getD,List.getElem?_eq_getElem h];rfl
theorem xr (x:BitVec 32):(x.setWidth 64).toNat=x.toNat:=by
 have :=x.isLt
 rw[BitVec.toNat_setWidth];omega
theorem JS (w:List (BitVec 32))(o i:Nat):(w.drop o).getD i 0=w.getD (o+i) 0:=by
 rw[List.getD_eq_getElem?_getD,List.getD_eq_getElem?_getD,List.getElem?_drop]
theorem JT (w:List (BitVec 32))(o n:Nat)(h:o+n≤w.length)(hn:0<n)(hw:w.length≤16):ag Tryz.prog 187 [.slice 0 o n 1] [bK (w.map .u32)] (.str (fe ((w.drop o).take n))) [bK (w.map .u32)]:=by
 refine ap (by kernel_rfl) (fn:=Tryz.f187) Tryz.func187 rfl (by show 1≤19;decide) (ae ?_)
 simp only[go_sem,seval,Tryz.ntmps187]
 refine bf (fun j st=>∃ i:Nat,i+j=n∧((i=0∧st=⟨[(3,.nilSlice),(6,.slice 0 o n 1),(7,.i64 n),(8,.i64 (0:Nat))],[bK (w.map .u32)]⟩)∨
  (0<i∧st=⟨[(3,.slice 1 0 (fe ((w.drop o).take i)).length 1),(6,.slice 0 o n 1),(7,.i64 n),(8,.i64 i)],[bK (w.map .u32),bK ((fe ((w.drop o).take i)).map .u8)]⟩))) ?_ ?_
 ·exact bP n ⟨[(3,.nilSlice),(6,.slice 0 o n 1),(7,.i64 n),(8,.i64 (0:Nat))],[bK (w.map .u32)]⟩ (by simp[St.get,af]) rfl (fun _ _ h=>h) ⟨0,by omega,.inl ⟨rfl,rfl⟩⟩
 rintro j st ⟨i,hi,hcase⟩ _
 by_cases h0:i<n
 ·have h0':(i:Int)<(n:Int):=by omega
  have ho:o+i<w.length:=by omega
  have hoi:i<(w.drop o).length:=by rw[List.length_drop];omega
  have hw1:aj ((i:Int)+1)=((i+1:Nat):Int):=by rw[am (by omega) (by omega)];omega
  have hs:fe ((w.drop o).take (i+1))=fe ((w.drop o).take i)++aE (w.getD (o+i) 0).toNat 4:=by rw[yP hoi,yO,JS]
  have hl4:(fe ((w.drop o).take i)).length=4*i:=by rw[x8,List.length_take,Nat.min_eq_left (by omega)]
  rcases hcase with⟨rfl,rfl⟩|⟨hi0,rfl⟩
  ·have h00:(0:Int)<(n:Int):=by omega
   have ho':o<w.length:=by omega
   have hs':fe ((w.drop o).take (0+1))=aE (w.getD o 0).toNat 4:=hs
   simp only[go_sem,seval,h00,ho',lv ho']
   refine aq [] (qF ((w.getD o 0).setWidth 64)) (by kernel_rfl) (by simp) rfl (by simp) (by first|decide|simp) (by simp) (by simp) (by simp) (by simp) (by simp) ?_
   simp only[go_sem,seval,xr]
   refine dP (j-1) ⟨[(3,.slice 1 0 (fe ((w.drop o).take (0+1))).length 1),(6,.slice 0 o n 1),(7,.i64 n),(8,.i64 (0+1:Nat))],[bK (w.map .u32),bK ((fe ((w.drop o).take (0+1))).map .u8)]⟩ [0,1] (by omega) rfl (by simp) rfl (by decide) ?_ ?_ ⟨0+1,by omega,.inr ⟨by omega,rfl⟩⟩
   ·rw[hs'];simp[cz,St.get,af,br,-List.map_map,-List.map_set]
   ·rw[hs'];simp
  ·simp only[go_sem,seval,h0',ho,lv ho]
   refine⟨by omega,?_⟩
   refine aq [1] (qC (fe ((w.drop o).take i)) ((w.getD (o+i) 0).setWidth 64) (by omega)) (by kernel_rfl) (by simp) rfl (by simp) (by first|decide|simp) (by simp) (by simp) (by simp) (by simp) (by simp) ?_
   simp only[go_sem,seval,xr]
   refine dP (j-1) ⟨[(3,.slice 1 0 (fe ((w.drop o).take (i+1))).length 1),(6,.slice 0 o n 1),(7,.i64 n),(8,.i64 (i+1:Nat))],[bK (w.map .u32),bK ((fe ((w.drop o).take (i+1))).map .u8)]⟩ [0,2] (by omega) rfl (by simp) rfl (by decide) ?_ ?_ ⟨i+1,by omega,.inr ⟨by omega,rfl⟩⟩
   ·rw[hs];simp[cz,St.get,af,hw1,br,-List.map_map,-List.map_set]
   ·rw[hs];simp
 ·obtain rfl:i=n:=by omega
  have h0':¬ (i:Int)<(i:Int):=by omega
  rcases hcase with⟨rfl,rfl⟩|⟨hi0,rfl⟩
  ·omega
  ·simp only[go_sem,seval,h0',List.take_of_length_le]
   exact Fin.ren [0] (by simp) (by simp) (by rfl) (by decide) (by simp) (by simp)
def kK (a b:List (BitVec 32)):List (BitVec 32):=List.zipWith (· +·) a b
theorem nA (a b:List (BitVec 32)):(kK a b).length=min a.length b.length:=List.length_zipWith
theorem JU (a b:List (BitVec 32))(i:Nat)(h1:i<a.length)(h2:i<b.length):(kK a b).getD i 0=a.getD i 0+b.getD i 0:=by
 unfold kK
 rw[List.getD_eq_getElem?_getD,List.getD_eq_getElem?_getD,List.getD_eq_getElem?_getD,List.getElem?_zipWith,List.getElem?_eq_getElem h1,List.getElem?_eq_getElem h2];rfl
def gR (a b:List (BitVec 32))(i:Nat):List (BitVec 32):=(kK a b).take i++a.drop i
theorem yh (a b:List (BitVec 32))(i:Nat)(h:a.length=b.length)(hi:i≤a.length):(gR a b i).length=a.length:=by
 unfold gR;rw[List.length_append,List.length_take,nA,List.length_drop];omega
theorem JV (a b:List (BitVec 32))(i:Nat)(h:a.length=b.length)(hi:i<a.length):(gR a b i).getD i 0=a.getD i 0:=by
 unfold gR
 have hl:((kK a b).take i).length=i:=by rw[List.length_take,nA];omega
 rw[List.getD_eq_getElem?_getD,List.getElem?_append_right (by omega),hl,Nat.sub_self,List.getElem?_drop,Nat.add_zero,←List.getD_eq_getElem?_getD]
theorem JW (a b:List (BitVec 32))(i:Nat)(h:a.length=b.length)(hi:i<a.length):(gR a b i).set i (a.getD i 0+b.getD i 0)=gR a b (i+1):=by
 unfold gR
 have hl:((kK a b).take i).length=i:=by rw[List.length_take,nA];omega
 rw[List.set_append_right _ _ (by omega),hl,Nat.sub_self,List.drop_eq_getElem_cons hi,List.set_cons_zero,yP (l:=kK a b) (by rw[nA];omega),JU a b i hi (by omega)]
 simp
def wX (s:List (BitVec 8)):List (BitVec 32):=kK (dr (iE s 12) 80) (iE s 12)
def dS (key nonce:List (BitVec 8))(n:BitVec 32):List (BitVec 8):=fe (wX (key++(aE n.toNat 4++nonce)))
theorem u5 (key nonce:List (BitVec 8))(n:BitVec 32)(h1:key.length=32)(h2:nonce.length=12):ao Tryz.prog 188 [.str key,.str nonce,.u32 n] (.tup [.str (dS key nonce n),.i64 0]):=by
 have h2':(nonce.length:Int)=12:=by omega
 have hlen:(key++(aE n.toNat 4++nonce)).length=48:=by rw[List.length_append,List.length_append,br];omega
 have hal:=rB (key++(aE n.toNat 4++nonce)) 12 (by omega)
 have hsl:(dr (iE (key++(aE n.toNat 4++nonce)) 12) 80).length=16:=by rw[uK];exact hal
 unfold dS wX
 refine aB (by kernel_rfl) (fn:=Tryz.f188) (by kernel_rfl) Tryz.func188 rfl (by show 3≤42;decide) (by simp[aa,V.low]) (by simp[aa,V.low]) (ae ?_)
 simp only[go_sem,↓reduceIte,Nat.reduceEqDiff,Nat.reduceLT,Nat.reduceAdd,reduceCtorEq,Tryz.ntmps188]
 refine ak (zq _ _ _) ?_
 simp only[go_sem,↓reduceIte,Nat.reduceEqDiff,Nat.reduceLT,reduceCtorEq,h1,h2']
 refine aq [] (qF (n.setWidth 64)) (by kernel_rfl) (by simp) rfl (by simp) (by first|decide|simp) (by simp) (by simp) (by simp) (by simp) (by simp) ?_
 simp only[go_sem,↓reduceIte,Nat.reduceEqDiff,Nat.reduceLT,Nat.reduceLeDiff,Nat.reduceAdd,Nat.reduceSub,xr,br,List.take_of_length_le,h2]
 refine ak (Ij _ _ hlen) ?_
 simp only[go_sem,↓reduceIte,Nat.reduceEqDiff,Nat.reduceLT,Nat.reduceAdd]
 generalize iE (key++(aE n.toNat 4++nonce)) 12=a at hal hsl ⊢
 have hm:min 16 16=16:=rfl
 have hml:=bi
 simp only[go_sem,↓reduceIte,Nat.reduceLT,Nat.reduceAdd,hal,bi,List.take_of_length_le]
 have hst:=FQ a hal
 generalize dr a 80=s at hsl hst ⊢
 refine ak (hst) ?_
 simp only[go_sem,↓reduceIte,Nat.reduceEqDiff,Nat.reduceLT,Nat.reduceAdd,hsl,bi]
 refine bf (fun ji st=>∃ i:Nat,i+ji=16∧st=⟨[(9,.ptr 1 0),(10,.ptr 2 0),(28,.i64 i)],[bK ((aE n.toNat 4).map .u8),bK (a.map .u32),bK ((gR s a i).map .u32)]⟩) ?_ ?_
 ·exact bP (16) ⟨[(9,.ptr 1 0),(10,.ptr 2 0),(28,.i64 (0:Nat))],[bK ((aE n.toNat 4).map .u8),bK (a.map .u32),bK ((gR s a (0:Nat)).map .u32)]⟩ (by simp[St.get,af,-List.map_set,-List.map_map]) rfl (fun _ _ h=>h) ⟨0,by omega,rfl⟩
 rintro ji st ⟨i,hi,rfl⟩ _
 simp only[go_sem,↓reduceIte,Nat.reduceEqDiff,Nat.reduceLT,Nat.reduceAdd,Int.reduceLE,Int.reduceToNat,Int.reduceSub]
 by_cases h0:i<16
 ·have h0':(i:Int)<16:=by omega
  have hadd:=yh s a i (by omega) (by omega)
  have hget:=JV s a i (by omega) (by omega)
  have hset:=JW s a i (by omega) (by omega)
  have hi1:i<a.length:=by omega
  have hi2:i<(gR s a i).length:=by omega
  simp only[go_sem,↓reduceIte,Nat.reduceEqDiff,Nat.reduceLT,Nat.reduceLeDiff,Nat.reduceAdd,h0',hadd,hal,hsl,h0,lv hi1,lv hi2,hget,hset]
  refine⟨by omega,by omega,by omega,by omega,by kernel_rfl,?_⟩
  refine bL (ji-1) ⟨[(9,.ptr 1 0),(10,.ptr 2 0),(28,.i64 (i+1:Nat))],[bK ((aE n.toNat 4).map .u8),bK (a.map .u32),bK ((gR s a (i+1:Nat)).map .u32)]⟩ (by omega) ?_ rfl (fun _ _ h=>h) ⟨i+1,by omega,rfl⟩
  have hw1:aj ((i:Int)+1)=((i+1:Nat):Int):=by rw[am (by omega) (by omega)];omega
  simp[St.get,af,hw1,-List.map_set,-List.map_map]
 ·have h0':¬ (i:Int)<16:=by omega
  obtain rfl:i=16:=by omega
  have hadd:=yh s a 16 (by omega) (by omega)
  have hall:((gR s a 16).drop 0).take 16=kK s a:=by
   unfold gR
   rw[List.drop_zero,List.drop_of_length_le (by omega),List.append_nil,List.take_take,Nat.min_self,List.take_of_length_le (by rw[nA];omega)]
  have ht:=JT (gR s a 16) 0 16 (by omega) (by decide) (by omega)
  rw[hall] at ht
  simp only[go_sem,↓reduceIte,Int.reduceLT,hadd,hsl]
  refine aq [2] (ht) (by kernel_rfl) (by simp) rfl (by simp) (by first|decide|simp) (by simp) (by simp) (by simp) (by simp) (by simp) ?_
  simp only[go_sem,↓reduceIte,Nat.reduceLT,Nat.reduceAdd,Nat.reduceSub]
def aQ (a b:List (BitVec 8)):List (BitVec 8):=List.zipWith (· ^^^ ·) a b
theorem fV (a b:List (BitVec 8)):(aQ a b).length=min a.length b.length:=List.length_zipWith
theorem JX (a b:List (BitVec 8))(i:Nat)(h1:i<a.length)(h2:i<b.length):(aQ a b).getD i 0=a.getD i 0 ^^^ b.getD i 0:=by
 unfold aQ
 rw[List.getD_eq_getElem?_getD,List.getD_eq_getElem?_getD,List.getD_eq_getElem?_getD,List.getElem?_zipWith,List.getElem?_eq_getElem h1,List.getElem?_eq_getElem h2];rfl
theorem Bx (a s b:List (BitVec 8))(h:s.length≤a.length):aQ a (s++b)=aQ a s++aQ (a.drop s.length) b:=by
 unfold aQ
 calc List.zipWith (· ^^^ ·) a (s++b)=List.zipWith (· ^^^ ·) (a.take s.length++a.drop s.length) (s++b):=by rw[List.take_append_drop]
  _=List.zipWith (· ^^^ ·) (a.take s.length) s++List.zipWith (· ^^^ ·) (a.drop s.length) b:=List.zipWith_append (by rw[List.length_take];omega)
  _=_:=by
   congr 1
   apply List.ext_getElem?
   intro i
   rw[List.getElem?_zipWith,List.getElem?_zipWith]
   by_cases hi:i<s.length
   ·rw[List.getElem?_take_of_lt hi]
   ·rw[List.getElem?_eq_none (l:=s) (by omega)];split <;>simp_all
def iu (a b:List (BitVec 8))(i:Nat):List (BitVec 8):=(aQ a b).take i++List.replicate ((aQ a b).length-i) 0
theorem FR (a b:List (BitVec 8))(i:Nat)(h:i≤(aQ a b).length):(iu a b i).length=(aQ a b).length:=by
 unfold iu;rw[List.length_append,List.length_take,List.length_replicate];omega
theorem JY (a b:List (BitVec 8))(i:Nat)(h:i<(aQ a b).length):(iu a b i).set i (a.getD i 0 ^^^ b.getD i 0)=iu a b (i+1):=by
 have hl:=fV a b
 unfold iu
 have h2:((aQ a b).take i).length=i:=by rw[List.length_take];omega
 rw[List.set_append_right _ _ (by omega),h2,Nat.sub_self,show(aQ a b).length-i=((aQ a b).length-(i+1))+1 by omega,List.replicate_succ,List.set_cons_zero,nT h,JX a b i (by omega) (by omega)]
 simp
theorem JZ (a b:List (BitVec 8)):iu a b (aQ a b).length=aQ a b:=by
 unfold iu;rw[List.take_length,Nat.sub_self];simp
theorem rT (a b:List (BitVec 8))(ha:a.length≤4611686018427387904)(hb:b.length≤140737488351232):ao Tryz.prog 189 [.str a,.str b] (.str (aQ a b)):=by
 have hl:=fV a b
 generalize hn:(aQ a b).length=n at hl
 have hmin:(if(b.length:Int)<(a.length:Int) then(b.length:Int) else(a.length:Int))=(n:Int):=by split <;>omega
 refine aB (by kernel_rfl) (fn:=Tryz.f189) (by kernel_rfl) Tryz.func189 rfl (by show 2≤31;decide) (by simp[aa,V.low]) (by simp[V.low]) (ae ?_)
 simp only[go_sem,↓reduceIte,Nat.reduceEqDiff,Nat.reduceLT,reduceCtorEq,Tryz.ntmps189,hmin]
 refine⟨⟨by omega,by omega,by omega⟩,?_⟩
 have hz0:fP [V.u8 0#8] n=(iu a b 0).map V.u8:=by
  have hr:∀ k,fP [V.u8 0#8] k=List.replicate k (V.u8 0#8):=fun k=>by
   induction k with
   |zero=>rfl
   |succ k ih=>rw[fP,ih];rfl
  unfold iu;rw[hn,hr];simp
 rw[hz0]
 refine bf (fun ji st=>∃ i:Nat,i+ji=n∧st=⟨[(0,.str a),(1,.str b),(5,.slice 0 0 n 1),(14,.i64 n),(15,.i64 i)],[bK ((iu a b i).map .u8)]⟩) ?_ ?_
 ·exact bP (n) ⟨[(0,.str a),(1,.str b),(5,.slice 0 0 n 1),(14,.i64 n),(15,.i64 (0:Nat))],[bK ((iu a b (0:Nat)).map .u8)]⟩ (by simp[St.get,af,-List.map_set,-List.map_map]) rfl (fun _ _ h=>h) ⟨0,by omega,rfl⟩
 rintro ji st ⟨i,hi,rfl⟩ _
 simp only[go_sem,↓reduceIte,Nat.reduceEqDiff,Nat.reduceLT,reduceCtorEq]
 by_cases h0:i<n
 ·have h0':(i:Int)<(n:Int):=by omega
  have h1:i<b.length:=by omega
  have h1':(i:Int)<(b.length:Int):=by omega
  have h2:i<a.length:=by omega
  have h2':(i:Int)<(a.length:Int):=by omega
  have hz:(0:Int)≤(i:Int):=by omega
  have hxl:=FR a b i (by omega)
  rw[hn] at hxl
  have hset:=JY a b i (by omega)
  simp only[go_sem,↓reduceIte,h0',h1',h2',hz,hxl,hset]
  refine⟨by omega,by kernel_rfl,?_⟩
  refine bL (ji-1) ⟨[(0,.str a),(1,.str b),(5,.slice 0 0 n 1),(14,.i64 n),(15,.i64 (i+1:Nat))],[bK ((iu a b (i+1:Nat)).map .u8)]⟩ (by omega) ?_ rfl (fun _ _ h=>h) ⟨i+1,by omega,rfl⟩
  have hw1:aj ((i:Int)+1)=((i+1:Nat):Int):=by rw[am (by omega) (by omega)];omega
  simp[St.get,af,hw1,-List.map_set,-List.map_map]
 ·obtain rfl:i=n:=by omega
  have h0':¬ (i:Int)<(i:Int):=by omega
  have hall:iu a b i=aQ a b:=by rw[←hn];exact JZ a b
  simp only[go_sem,↓reduceIte,h0',hall,List.take_of_length_le,hn,Nat.le_refl,true_and]
theorem Nn (n:BitVec 32)(i:Nat):n+BitVec.ofNat 32 i+1#32=n+BitVec.ofNat 32 (i+1):=by
 apply BitVec.eq_of_toNat_eq
 simp[BitVec.toNat_add,BitVec.toNat_ofNat];omega
def gg (B:BitVec 32→List (BitVec 8))(n:BitVec 32):Nat→List (BitVec 8)
 |0=>[]
 |i+1=>gg B n i++B (n+BitVec.ofNat 32 i)
theorem qJ (k c:List (BitVec 8))(n:BitVec 32)(h1:k.length=32)(h2:c.length=12):(dS k c n).length=64:=by
 unfold dS wX
 rw[x8,nA,uK,rB _ _ (by decide)];rfl
theorem uj (B:BitVec 32→List (BitVec 8))(hB:∀ m,(B m).length=64)(n:BitVec 32)(i:Nat):(gg B n i).length=64*i:=by
 induction i with
 |zero=>rfl
 |succ i ih=>rw[gg,List.length_append,ih,hB];omega
def xored (B:BitVec 32→List (BitVec 8))(n:BitVec 32)(t:List (BitVec 8)):List (BitVec 8):=aQ t (gg B n ((t.length+63)/64))
theorem yQ (k c:List (BitVec 8))(n:BitVec 32)(t:List (BitVec 8))(B:BitVec 32→List (BitVec 8))(hB:∀ m,(B m).length=64)(hBs:∀ m,ao Tryz.prog 188 [.str k,.str c,.u32 m] (.tup [.str (B m),.i64 0]))(h1:k.length=32)(h2:c.length=12)(h:t.length≤2000):ao Tryz.prog 175 [.str k,.str c,.u32 n,.str t] (.tup [.str (xored B n t),.i64 0]):=by
 have h2':(c.length:Int)=12:=by omega
 have h':¬ (2000:Int)<(t.length:Int):=by omega
 have hsl:=uj B hB n
 unfold xored
 refine aB (by kernel_rfl) (fn:=Tryz.f175) (by kernel_rfl) Tryz.func175 rfl (by show 4≤48;decide) (by simp[aa,V.low]) (by simp[aa,V.low]) (ae ?_)
 simp only[go_sem,seval,Tryz.ntmps175]
 refine ak (zq _ _ _) ?_
 simp only[go_sem,seval,h1,h2',h']
 refine bf (fun ji st=>∃ i:Nat,i+ji=(t.length+63)/64∧st=⟨[(0,.str k),(1,.str c),(2,.u32 (n+BitVec.ofNat 32 i)),(3,.str (t.drop (64*i))),(11,.str (aQ t (gg B n i)))],[]⟩) ?_ ?_
 ·exact bP ((t.length+63)/64) ⟨[(0,.str k),(1,.str c),(2,.u32 (n+BitVec.ofNat 32 (0:Nat))),(3,.str (t.drop (64*(0:Nat)))),(11,.str (aQ t (gg B n (0:Nat))))],[]⟩ (by simp[St.get,af,-List.map_set,-List.map_map,gg,aQ]) rfl (fun _ _ h=>h) ⟨0,by omega,rfl⟩
 rintro ji st ⟨i,hi,rfl⟩ _
 simp only[go_sem,seval]
 have hd:(t.drop (64*i)).length=t.length-64*i:=List.length_drop
 by_cases h0:64*i<t.length
 ·have hne:¬ t.drop (64*i)=[]:=fun e=>by rw[e] at hd;simp at hd;omega
  have hb:=hBs (n+BitVec.ofNat 32 i)
  have hbl:=hB (n+BitVec.ofNat 32 i)
  have hxs:=rT (t.drop (64*i)) (B (n+BitVec.ofNat 32 i)) (by omega) (by omega)
  have hap:aQ t (gg B n i)++aQ (t.drop (64*i)) (B (n+BitVec.ofNat 32 i))=aQ t (gg B n (i+1)):=by
   rw[gg,Bx _ _ _ (by rw[hsl];omega),hsl]
  have hxl:=fV (t.drop (64*i)) (B (n+BitVec.ofNat 32 i))
  rw[hbl,hd] at hxl
  have hdr:(t.drop (64*i)).drop (min (t.length-64*i) 64)=t.drop (64*(i+1)):=by
   rw[List.drop_drop]
   by_cases hh:64≤t.length-64*i
   ·rw[Nat.min_eq_right hh,Nat.mul_add]
   ·rw[Nat.min_eq_left (by omega),List.drop_of_length_le (by omega),List.drop_of_length_le (by omega)]
  have hll:(aQ t (gg B n i)).length≤2000:=by rw[fV];omega
  simp only[go_sem,seval,hne]
  refine ak (hb) ?_
  simp only[go_sem,seval]
  have htk:(t.drop (64*i)).take (t.length-64*i)=t.drop (64*i):=List.take_of_length_le (by omega)
  refine ak (hxs) ?_
  simp only[go_sem,seval,hap,hxl,hd,htk,hdr]
  refine⟨by omega,⟨by omega,by omega⟩,?_⟩
  refine bL (ji-1) ⟨[(0,.str k),(1,.str c),(2,.u32 (n+BitVec.ofNat 32 (i+1:Nat))),(3,.str (t.drop (64*(i+1:Nat)))),(11,.str (aQ t (gg B n (i+1:Nat))))],[]⟩ (by omega) ?_ rfl (fun _ _ h=>h) ⟨i+1,by omega,rfl⟩
  have hw1:aj ((i:Int)+1)=((i+1:Nat):Int):=by rw[am (by omega) (by omega)];omega
  simp[St.get,af,-List.map_set,-List.map_map,Nn]
 ·have he:t.drop (64*i)=[]:=List.drop_of_length_le (by omega)
  obtain rfl:i=(t.length+63)/64:=by omega
  simp only[go_sem,seval,he]
end Go.Vm
end
