/- A part of the proof: laws of a small machine of values, or what one function answers, proved against the model; no conditions beyond those in each theorem. -/
import Derived.Shelf.Strings.Repeat
import Derived.Test.YtgffdnniifmglaaGreatDoorHeadToShA
import Derived.Test.YtgffdnniifmglaaGreatDoorVmTToTot2
set_option linter.unusedVariables false
set_option linter.unusedSimpArgs false
set_option linter.unusedSectionVars false
set_option maxRecDepth 20000
set_option maxHeartbeats 8000000
section
namespace Go.Vm
section
open Go.Proofs Go.Shelf
def shelf_lays105_ren:Go.Shelf.Ren:=⟨fun |105=>29|212=>48|99=>49|165=>50|166=>51|170=>52|169=>53|263=>76|264=>77|206=>78|240=>79|241=>80|276=>109|277=>110|n=>n,fun |9=>9|3=>3|4=>4|20=>20|0=>0|46=>67|109=>113|5=>5|72=>118|76=>122|51=>27|146=>156|53=>78|148=>158|70=>116|37=>62|75=>121|127=>160|164=>206|80=>100|n=>n,fun |n=>n⟩
theorem shelf_lays105:Go.Proofs.Lays.n105 Tryz.prog shelf_lays105_ren:={
 mixed:=by kernel_rfl
 f99:=Tryz.func49.trans (congrArg some (by kernel_rfl))
 f105:=Tryz.func29.trans (congrArg some (by kernel_rfl))
 f165:=Tryz.func50.trans (congrArg some (by kernel_rfl))
 f166:=Tryz.func51.trans (congrArg some (by kernel_rfl))
 f169:=Tryz.func53.trans (congrArg some (by kernel_rfl))
 f170:=Tryz.func52.trans (congrArg some (by kernel_rfl))
 f206:=Tryz.func78.trans (congrArg some (by kernel_rfl))
 f212:=Tryz.func48.trans (congrArg some (by kernel_rfl))
 f240:=Tryz.func79.trans (congrArg some (by kernel_rfl))
 f241:=Tryz.func80.trans (congrArg some (by kernel_rfl))
 f263:=Tryz.func76.trans (congrArg some (by kernel_rfl))
 f264:=Tryz.func77.trans (congrArg some (by kernel_rfl))
 f276:=Tryz.func109.trans (congrArg some (by kernel_rfl))
 f277:=Tryz.func110.trans (congrArg some (by kernel_rfl))
 t0:=Tryz.underlying0
 a0:=Tryz.isAgg0
 z0:=Tryz.sizeOf0
 v0:=Tryz.zeroValue0
 t3:=Tryz.underlying3
 a3:=Tryz.isAgg3
 z3:=Tryz.sizeOf3
 v3:=Tryz.zeroValue3
 t4:=Tryz.underlying4
 a4:=Tryz.isAgg4
 z4:=Tryz.sizeOf4
 v4:=Tryz.zeroValue4
 t5:=Tryz.underlying5
 a5:=Tryz.isAgg5
 z5:=Tryz.sizeOf5
 v5:=Tryz.zeroValue5
 t9:=Tryz.underlying9
 a9:=Tryz.isAgg9
 z9:=Tryz.sizeOf9
 v9:=Tryz.zeroValue9
 t20:=Tryz.underlying20
 a20:=Tryz.isAgg20
 z20:=Tryz.sizeOf20
 v20:=Tryz.zeroValue20
 t37:=Tryz.underlying62
 a37:=Tryz.isAgg62
 z37:=Tryz.sizeOf62
 v37:=Tryz.zeroValue62
 t46:=Tryz.underlying67
 a46:=Tryz.isAgg67
 z46:=Tryz.sizeOf67
 v46:=Tryz.zeroValue67
 t51:=Tryz.underlying27
 a51:=Tryz.isAgg27
 z51:=Tryz.sizeOf27
 v51:=Tryz.zeroValue27
 t53:=Tryz.underlying78
 a53:=Tryz.isAgg78
 z53:=Tryz.sizeOf78
 v53:=Tryz.zeroValue78
 t70:=Tryz.underlying116
 a70:=Tryz.isAgg116
 z70:=Tryz.sizeOf116
 v70:=Tryz.zeroValue116
 t72:=Tryz.underlying118
 a72:=Tryz.isAgg118
 z72:=Tryz.sizeOf118
 v72:=Tryz.zeroValue118
 t75:=Tryz.underlying121
 a75:=Tryz.isAgg121
 z75:=Tryz.sizeOf121
 v75:=Tryz.zeroValue121
 t76:=Tryz.underlying122
 a76:=Tryz.isAgg122
 z76:=Tryz.sizeOf122
 v76:=Tryz.zeroValue122
 t109:=Tryz.underlying113
 a109:=Tryz.isAgg113
 z109:=Tryz.sizeOf113
 v109:=Tryz.zeroValue113
 t127:=Tryz.underlying160
 a127:=Tryz.isAgg160
 z127:=Tryz.sizeOf160
 v127:=Tryz.zeroValue160
 t146:=Tryz.underlying156
 a146:=Tryz.isAgg156
 z146:=Tryz.sizeOf156
 v146:=Tryz.zeroValue156
 t148:=Tryz.underlying158
 a148:=Tryz.isAgg158
 z148:=Tryz.sizeOf158
 v148:=Tryz.zeroValue158
 t164:=Tryz.underlying206
 a164:=Tryz.isAgg206
 z164:=Tryz.sizeOf206
 v164:=Tryz.zeroValue206}
theorem pU:Builder.Extra Tryz.prog shelf_lays105_ren:={
 sizeBuilder:=by kernel_rfl
 liesBuilder:=by kernel_rfl
 t5:=Tryz.underlying5
 a5:=Tryz.isAgg5
 z5:=Tryz.sizeOf5
 v5:=Tryz.zeroValue5
 infoByte:=by kernel_rfl
 cellsByte:=by kernel_rfl
 sizeByte:=by kernel_rfl
 neB5:=by decide}
open Go.RowKit Go.Lib in
theorem Ad (s:ByteArray)(c:Nat)(w:World)(hc:c≤9223372036854775807)(hlen:s.size*c≤140737488355328):
  Calls Tryz.prog 29 #[.string s,.int .i64 c] w fun e w'=>e= .returned (.string ⟨(Lib.repeatL s.data.toList c).toArray⟩)∧Below w.heap.size w w':=Any.strings_Repeat shelf_lays105 pU s c w hc hlen
end
end Go.Vm
end
section
namespace Go.Vm
open Go.Proofs
def j0 (s:List (BitVec 8)):List (BitVec 8):=s++List.replicate ((16-s.length%16)%16) 0
theorem nR (s:List (BitVec 8)):(j0 s).length=16*((s.length+15)/16):=by unfold j0;rw[List.length_append,List.length_replicate];omega
theorem CN (k:Nat):∀ (l:List UInt8),l.map UInt8.toBitVec=[0#8]→(Lib.repeatL l k).map UInt8.toBitVec=List.replicate k 0#8:=by
 intro l h
 induction k with
 |zero=>rfl
 |succ k ih=>rw[Lib.repeatL,List.map_append,ih,h,List.replicate_succ];rfl
theorem jA (k:Nat)(hk:k≤1000):am Tryz.prog 29 [.str [0#8],.i64 k] (.str (List.replicate k 0#8)):=by
 refine uA (by kernel_rfl) (by simp[ac,V.low]) (by simp[V.low]) fun w rargs hr=>?_
 unfold VRs at hr
 obtain⟨r1,rs,e1,h1,hr⟩:=hr
 unfold VRs at hr
 obtain⟨r2,rs2,e2,h2,hr⟩:=hr
 unfold VRs at hr
 unfold VR at h1 h2
 obtain⟨b,rfl,hb⟩:=h1
 subst h2 hr e2
 have ha:rargs=#[.string b,.int .i64 k]:=by cases rargs;simp_all
 subst ha
 have hsz:b.size=1:=by
  have :=congrArg List.length hb
  unfold bytesOf at this
  rw[List.length_map,Array.length_toList] at this
  exact this
 refine(Ad b k w (by omega) (by rw[hsz];omega)).mono ?_
 rintro e w' ⟨rfl,hbl⟩
 refine⟨_,rfl,?_,hbl⟩
 unfold VR
 exact⟨_,rfl,CN k _ hb⟩
def SumK (key:List af)(many:Int)(v:V):Prop:=(v= .tup [.str [],.i64 1]∧(many<1∨32<many∨32<key.length))∨(1≤many∧many≤32∧key.length≤32∧∃ o:List af,(o.length:Int)=many∧v= .tup [.str o,.i64 0])
theorem SumK.low {key:List af}{many:Int}{v:V}(h:SumK key many v):v.low 0:=by
 rcases h with⟨rfl,-⟩|⟨-,-,-,o,-,rfl⟩<;>simp[V.low,ac]
theorem uL (key s0:List af)(many:Int)(hk:key.length≤1099511627776)(hs0:s0.length≤1099511627776):∃ v,am Tryz.prog 67 [.str key,.str s0,.i64 many] v∧SumK key many v:=by
 by_cases g1:many<1
 ·refine ct (Post:=SumK key many) (by kernel_rfl) (by kernel_rfl) (fn:=Tryz.f67) Tryz.func67 rfl (by show 3≤85;decide) (by simp[ac,V.low]) (fun v h=>h.low) (ag ?_)
  simp -implicitDefEqProofs only[go_sem,↓reduceIte,Nat.reduceEqDiff,Nat.reduceLT,Nat.reduceAdd,reduceCtorEq,g1]
  exact .inl ⟨rfl,by omega⟩
 by_cases g2:32<many
 ·refine ct (Post:=SumK key many) (by kernel_rfl) (by kernel_rfl) (fn:=Tryz.f67) Tryz.func67 rfl (by show 3≤85;decide) (by simp[ac,V.low]) (fun v h=>h.low) (ag ?_)
  simp -implicitDefEqProofs only[go_sem,↓reduceIte,Nat.reduceEqDiff,Nat.reduceLT,Nat.reduceAdd,reduceCtorEq,g1,g2]
  exact .inl ⟨rfl,by omega⟩
 by_cases g3:32<(key.length:Int)
 ·refine ct (Post:=SumK key many) (by kernel_rfl) (by kernel_rfl) (fn:=Tryz.f67) Tryz.func67 rfl (by show 3≤85;decide) (by simp[ac,V.low]) (fun v h=>h.low) (ag ?_)
  simp -implicitDefEqProofs only[go_sem,↓reduceIte,Nat.reduceEqDiff,Nat.reduceLT,Nat.reduceAdd,reduceCtorEq,g1,g2,g3]
  exact .inl ⟨rfl,by omega⟩
 have ek:ai (64-(key.length:Int))=((64-key.length:Nat):Int):=by rw[al (by omega) (by omega)];omega
 refine ct (Post:=SumK key many) (by kernel_rfl) (by kernel_rfl) (fn:=Tryz.f67) Tryz.func67 rfl (by show 3≤85;decide) (by simp[ac,V.low]) (fun v h=>h.low) (ag ?_)
 simp -implicitDefEqProofs only[go_sem,↓reduceIte,Nat.reduceEqDiff,Nat.reduceLT,Nat.reduceAdd,reduceCtorEq,g1,g2,g3]
 refine bh (zh) ?_
 rintro _ ⟨hs,hhs,rfl⟩
 simp -implicitDefEqProofs only[go_sem,↓reduceIte,Nat.reduceEqDiff,Nat.reduceLT,Nat.reduceLeDiff,Int.reduceLE,Int.reduceLT,Int.reduceToNat,BitVec.reduceOfInt,BitVec.reduceToNat,reduceCtorEq,↓np,hhs,bd,List.length_replicate,List.length_map,dg V.u32 0#32,fk,ek]
 repeat refine aJ ?_
 refine Hr (fun s=>∃ (t:List (Nat×V)) (s1:List af) (hs:List (BitVec 32)),hs.length=8∧s1.length≤2199023255552∧s=⟨t,[some ⟨false,hs.map .u32,none⟩]⟩∧ae t 1= .str s1∧ae t 2= .i64 many∧ae t 8= .ptr 0 0∧ae t 9= .u64 0#64) (fun rest=>?_) ⟨_,s0,_,by rw[List.length_set];exact hhs,by omega,rfl,rfl,rfl,rfl,rfl⟩ ?_
 ·refine ak (jA (64-key.length) (by omega)) ?_
  simp -implicitDefEqProofs only[go_sem,↓reduceIte,Nat.reduceEqDiff,Nat.reduceLT,Int.reduceLT,BitVec.reduceOfInt]
  repeat refine aJ ?_
  exact rest _ ⟨_,_,_,by rw[List.length_set];exact hhs,by simp;omega,rfl,rfl,rfl,rfl,rfl⟩
 clear hhs hs ek
 rintro s ⟨t,s1,hs,hhs,hs1,rfl,h1,h2,h8,h9⟩
 refine aH (fun j st=>∃ (s1:List af) (hs:List (BitVec 32)) (x:BitVec 64),s1.length=j∧s1.length≤2199023255552∧hs.length=8∧st=⟨[(1,.str s1),(2,.i64 many),(8,.ptr 0 0),(9,.u64 x)],[some ⟨false,hs.map .u32,none⟩]⟩) ?_ ?_
 ·refine fg (s1.length) [1,2,8,9] 1 (by simp) (by simp) (by simp[cy,St.get,V.low,-List.map_take,-List.map_drop,-List.map_map,-List.map_set,h1,h2,h8,h9]) (by simp[aF,-List.map_take,-List.map_drop,-List.map_map,-List.map_set]) ?_
  simp only[cq,List.map_cons,List.map_nil,St.get,List.take_succ_cons,List.take_zero,h1,h2,h8,h9]
  exact⟨_,_,_,rfl,hs1,hhs,rfl⟩
 clear hs1 hhs h1 h2 h8 h9 t s1 hs
 rintro j st ⟨s1,hs,x,rfl,hs1,hhs,rfl⟩-
 by_cases h64:64<(s1.length:Int)
 ·simp -implicitDefEqProofs only[go_sem,↓reduceIte,Nat.reduceEqDiff,Nat.reduceLT,Int.reduceLE,Int.reduceLT,Int.reduceToNat,BitVec.reduceOfInt,h64,List.length_map,hhs,List.take_of_length_le (show hs.length≤8 by omega)]
  repeat refine aJ ?_
  refine dN (wV hs hhs (s1.take 64) (by simp;omega) _ _) ?_
  rintro _ ⟨hs',rfl,hhs'⟩
  simp -implicitDefEqProofs only[go_sem,↓reduceIte,Nat.reduceEqDiff,Nat.reduceLT,Int.reduceLE,Int.reduceToNat,bd,List.length_map,hhs,hhs']
  repeat refine aJ ?_
  refine gd (s1.length-64) [1,2,8,9] 1 (by omega) (by simp) (by simp) (by simp[cy,St.get,ae,V.low,-List.map_take,-List.map_drop,-List.map_map,-List.map_set]) (by simp[aF,-List.map_take,-List.map_drop,-List.map_map,-List.map_set]) ?_
  simp only[cq,List.map_cons,List.map_nil,St.get,ae,↓reduceIte,Nat.reduceEqDiff,List.take_succ_cons,List.take_zero]
  exact⟨_,_,_,by simp,by simp;omega,hhs',rfl⟩
 have e2:ai (64-(s1.length:Int))=((64-s1.length:Nat):Int):=by rw[al (by omega) (by omega)];omega
 simp -implicitDefEqProofs only[go_sem,↓reduceIte,Nat.reduceEqDiff,Nat.reduceLT,h64,List.length_map,hhs,List.take_of_length_le (show hs.length≤8 by omega),e2]
 repeat refine aJ ?_
 refine aC (jA (64-s1.length) (by omega)) ?_
 simp -implicitDefEqProofs only[go_sem,↓reduceIte,Nat.reduceEqDiff,Nat.reduceLT]
 repeat refine aJ ?_
 refine dN (wV hs hhs _ (by simp;omega) _ _) ?_
 rintro _ ⟨hs',rfl,hhs'⟩
 simp -implicitDefEqProofs only[go_sem,↓reduceIte,Nat.reduceEqDiff,Nat.reduceLT,bd,List.length_map,hhs,hhs',List.take_of_length_le (show hs'.length≤8 by omega)]
 repeat refine aJ ?_
 obtain⟨mn,rfl⟩:∃ mn:Nat,many=(mn:Int):=⟨many.toNat,by omega⟩
 refine aH (fun j st=>∃ i:Nat,i+j=8∧((i=0∧st=⟨[(2,.i64 mn),(8,.ptr 0 0),(72,.agg (hs'.map .u32)),(73,.i64 (0:Nat)),(10,.nilSlice)],[some ⟨false,hs'.map .u32,none⟩]⟩)∨(0<i∧∃ bs:List af,bs.length=4*i∧st=⟨[(2,.i64 mn),(8,.ptr 0 0),(72,.agg (hs'.map .u32)),(73,.i64 i),(10,.slice 1 0 bs.length 1)],[some ⟨false,hs'.map .u32,none⟩,some ⟨false,bs.map .u8,none⟩]⟩))) ?_ ?_
 ·refine fg (8) [2,8,72,73,10] 1 (by simp) (by simp) (by simp[cy,St.get,ae,V.low,-List.map_take,-List.map_drop,-List.map_map,-List.map_set]) (by simp[aF,-List.map_take,-List.map_drop,-List.map_map,-List.map_set]) ?_
  simp only[cq,List.map_cons,List.map_nil,St.get,ae,↓reduceIte,Nat.reduceEqDiff,List.take_succ_cons,List.take_zero]
  exact⟨0,by omega,.inl ⟨rfl,rfl⟩⟩
 clear hs1 hhs h64 e2 s1 hs x
 rintro j st ⟨i,hij,hcase⟩-
 by_cases hi:i<8
 ·have hi':(i:Int)<8:=by omega
  have hw1:=cd (i:=i) (by omega)
  rcases hcase with⟨rfl,rfl⟩|⟨hi0,bs,hbs,rfl⟩
  ·simp -implicitDefEqProofs only[go_sem,↓reduceIte,Nat.reduceEqDiff,Nat.reduceLT,Int.reduceLT,Int.reduceToNat,List.length_map,hhs',dg V.u32 0#32]
   repeat refine aJ ?_
   refine aA [] (nJ ((hs'.getD 0 0#32).setWidth 64)) (by kernel_rfl) (by simp[-List.map_map,-List.map_set]) rfl (by simp[-List.map_map,-List.map_set]) (by first|decide|simp) (by simp[-List.map_map,-List.map_set]) (by simp[-List.map_map,-List.map_set]) (by simp[-List.map_map,-List.map_set]) (by simp[-List.map_map,-List.map_set]) (by simp) ?_
   simp -implicitDefEqProofs only[go_sem,↓reduceIte,Nat.reduceEqDiff,Nat.reduceLT,Nat.reduceAdd,Nat.reduceSub,Int.reduceLE,Int.reduceAdd,Int.reduceNeg]
   exact db (j-1) ⟨[(2,.i64 mn),(8,.ptr 0 0),(72,.agg (hs'.map .u32)),(73,.i64 (0+1:Nat)),(10,.slice 1 0 (aE ((hs'.getD 0 0#32).setWidth 64).toNat 4).length 1)],[some ⟨false,hs'.map .u32,none⟩,some ⟨false,(aE ((hs'.getD 0 0#32).setWidth 64).toNat 4).map .u8,none⟩]⟩ [0,1] (by omega) rfl (by simp) rfl (by decide) (by simp[cp,St.get,ae,bL,-List.map_map,-List.map_set]) (by simp[-List.map_map,-List.map_set]) ⟨0+1,by omega,.inr ⟨by omega,_,by simp[bL],rfl⟩⟩
  ·simp -implicitDefEqProofs only[go_sem,↓reduceIte,Nat.reduceEqDiff,Nat.reduceLT,hi',List.length_map,hhs',dg V.u32 0#32,hi]
   repeat refine aJ ?_
   refine aA [1] (pV bs ((hs'.getD i 0#32).setWidth 64) (by omega)) (by kernel_rfl) (by simp[-List.map_map,-List.map_set]) rfl (by simp[-List.map_map,-List.map_set]) (by first|decide|simp) (by simp[-List.map_map,-List.map_set]) (by simp[-List.map_map,-List.map_set]) (by simp[-List.map_map,-List.map_set]) (by simp[-List.map_map,-List.map_set]) (by simp) ?_
   simp -implicitDefEqProofs only[go_sem,↓reduceIte,Nat.reduceEqDiff,Nat.reduceLT,Nat.reduceAdd,Nat.reduceSub,hw1]
   exact db (j-1) ⟨[(2,.i64 mn),(8,.ptr 0 0),(72,.agg (hs'.map .u32)),(73,.i64 (i+1:Nat)),(10,.slice 1 0 (bs++aE ((hs'.getD i 0#32).setWidth 64).toNat 4).length 1)],[some ⟨false,hs'.map .u32,none⟩,some ⟨false,(bs++aE ((hs'.getD i 0#32).setWidth 64).toNat 4).map .u8,none⟩]⟩ [0,2] (by omega) rfl (by simp) rfl (by decide) (by simp[cp,St.get,ae,bL,-List.map_map,-List.map_set]) (by simp[-List.map_map,-List.map_set]) ⟨i+1,by omega,.inr ⟨by omega,_,by simp[bL,hbs];omega,rfl⟩⟩
 have hi':¬ (i:Int)<8:=by omega
 rcases hcase with⟨rfl,rfl⟩|⟨hi0,bs,hbs,rfl⟩
 ·omega
 simp -implicitDefEqProofs only[go_sem,↓reduceIte,Nat.reduceEqDiff,Nat.reduceLT,Int.reduceToNat,hi',List.length_map]
 repeat refine aJ ?_
 exact .inr ⟨by omega,by omega,by omega,_,by simp;omega,rfl⟩
theorem eight {hs:List (BitVec 32)}(h:hs.length=8):∃ a b c d e f g i:BitVec 32,hs=[a,b,c,d,e,f,g,i]:=by
 match hs,h with
 |[a,b,c,d,e,f,g,i],_=>exact⟨a,b,c,d,e,f,g,i,rfl⟩
def cI (a b c d e f g i:BitVec 32)(r:List af)(m:BitVec 64):List V:=[.u32 a,.u32 b,.u32 c,.u32 d,.u32 e,.u32 f,.u32 g,.u32 i,.str r,.u64 m]
def lJ (n:Nat)(cs:List V):Prop:=∃ a b c d e f g i r m,cs=cI a b c d e f g i r m∧r.length<n
theorem IZ (σ:Nat→Nat)(a b c d e f g i:BitVec 32)(r:List af)(m:BitVec 64):rens σ (cI a b c d e f g i r m)=cI a b c d e f g i r m:=by simp[cI,rens,V.ren]
theorem Mu (n:Nat)(a b c d e f g i:BitVec 32)(r:List af)(m:BitVec 64):ac n (cI a b c d e f g i r m)=True:=by simp[cI,ac,V.low]
attribute [go_sem, simp] IZ Mu
theorem DU:∃ v h',ao Tryz.prog 103 [] [] v h'∧(v= .ptr 0 0∧∃ cs,lJ 1 cs∧h'=[some ⟨false,cs,none⟩]):=by
 refine cb (Post:=fun v h'=>v= .ptr 0 0∧∃ cs,lJ 1 cs∧h'=[some ⟨false,cs,none⟩]) (by kernel_rfl) (fn:=Tryz.f103) Tryz.func103 rfl (by show 0≤4;decide) (ag ?_)
 simp only[go_sem,seval]
 refine bh BP ?_
 rintro _ ⟨hs,hhs,rfl⟩
 obtain⟨a,b,c,d,e,f,g,i,rfl⟩:=eight hhs
 simp only[go_sem,seval]
 repeat refine aJ ?_
 refine⟨_,_,?_,Fin.take 1 (by simp) (by simp) (by simp[V.low,-List.map_take,-List.map_drop,-List.map_map,-List.map_set]) (by simp[aF,ac,V.low,-List.map_take,-List.map_drop,-List.map_map,-List.map_set])⟩
 exact⟨rfl,_,⟨a,b,c,d,e,f,g,i,[],0#64,rfl,by simp⟩,rfl⟩
theorem BR (cs:List V)(h:lJ 1 cs)(s:List af)(hs:s.length≤4398046511104):∃ v h',ao Tryz.prog 104 [.ptr 0 0,.str s] [some ⟨false,cs,none⟩] v h'∧(v= .tup []∧∃ cs,lJ 64 cs∧h'=[some ⟨false,cs,none⟩]):=by
 obtain⟨a,b,c,d,e,f,g,i,r,m,rfl,hr⟩:=h
 refine cb (Post:=fun v h'=>v= .tup []∧∃ cs,lJ 64 cs∧h'=[some ⟨false,cs,none⟩]) (by kernel_rfl) (fn:=Tryz.f104) Tryz.func104 rfl (by show 2≤49;decide) (ag ?_)
 simp only[go_sem,seval,cI]
 repeat refine aJ ?_
 refine aH (fun j st=>∃ (a b c d e f g i:BitVec 32) (r:List af) (m:BitVec 64),r.length=j∧r.length≤8796093022208∧st=⟨[(0,.ptr 0 0)],[some ⟨false,cI a b c d e f g i r m,none⟩]⟩) ?_ ?_
 ·refine fg ((r++s).length) [0] 1 (by simp) (by simp) (by simp[cy,St.get,ae,V.low,-List.map_take,-List.map_drop,-List.map_map,-List.map_set]) (by simp[aF,ac,V.low,-List.map_take,-List.map_drop,-List.map_map,-List.map_set]) ?_
  simp only[cq,List.map_cons,List.map_nil,St.get,ae,seval,List.take_succ_cons,List.take_zero]
  exact⟨a,b,c,d,e,f,g,i,_,_,rfl,by simp;omega,rfl⟩
 clear hr r a b c d e f g i m
 rintro j st ⟨a,b,c,d,e,f,g,i,r,m,rfl,hr,rfl⟩-
 by_cases h64:(64:Int)≤(r.length:Int)
 ·simp only[go_sem,seval,cI,h64]
  repeat refine aJ ?_
  refine dN (wW [a,b,c,d,e,f,g,i] rfl (r.take 64) (by simp;omega)) ?_
  rintro _ ⟨hs,hhs,rfl⟩
  obtain⟨a,b,c,d,e,f,g,i,rfl⟩:=eight hhs
  simp only[go_sem,seval]
  repeat refine aJ ?_
  refine gd (r.length-64) [0] 1 (by omega) (by simp) (by simp) (by simp[cy,St.get,ae,V.low,-List.map_take,-List.map_drop,-List.map_map,-List.map_set]) (by simp[aF,ac,V.low,-List.map_take,-List.map_drop,-List.map_map,-List.map_set]) ?_
  simp only[cq,List.map_cons,List.map_nil,St.get,ae,seval,List.take_succ_cons,List.take_zero]
  exact⟨a,b,c,d,e,f,g,i,_,_,by simp,by simp;omega,rfl⟩
 ·simp only[go_sem,seval,cI,h64]
  refine⟨_,_,?_,Fin.take 1 (by simp) (by simp) (by simp[cN,ac,V.low,-List.map_take,-List.map_drop,-List.map_map,-List.map_set]) (by simp[aF,ac,V.low,-List.map_take,-List.map_drop,-List.map_map,-List.map_set])⟩
  exact⟨rfl,_,⟨a,b,c,d,e,f,g,i,r,m,rfl,by omega⟩,rfl⟩
theorem CO (cs:List V)(h:lJ 64 cs):∃ v h',ao Tryz.prog 105 [.ptr 0 0] [some ⟨false,cs,none⟩] v h'∧(∃ o:List af,o.length=32∧v= .str o∧h'=[some ⟨false,cs,none⟩]):=by
 obtain⟨a,b,c,d,e,f,g,i,r,m,rfl,hr⟩:=h
 refine cb (Post:=fun v h'=>∃ o:List af,o.length=32∧v= .str o∧h'=[some ⟨false,cI a b c d e f g i r m,none⟩]) (by kernel_rfl) (fn:=Tryz.f105) Tryz.func105 rfl (by show 1≤54;decide) (ag ?_)
 simp only[go_sem,seval,cI,List.length_map]
 repeat refine aJ ?_
 refine aH (fun j st=>∃ (bs:List af),(bs.length+j)%64=56∧j<64∧bs.length+j≤192∧st=⟨[(0,.ptr 0 0),(3,.slice 1 0 bs.length 1)],[some ⟨false,cI a b c d e f g i r m,none⟩,some ⟨false,bs.map .u8,none⟩]⟩) ?_ ?_
 ·exact wM ((120-(r.length+1))%64) ⟨[(0,.ptr 0 0),(3,.slice 1 0 (r++[128#8]).length 1)],[some ⟨false,cI a b c d e f g i r m,none⟩,some ⟨false,(r++[128#8]).map .u8,none⟩]⟩ [0,3] rfl (by simp) rfl (by decide) (by simp[cp,St.get,ae,-List.map_map,-List.map_set]) (by simp[cI,-List.map_map,-List.map_set]) ⟨_,by simp;omega,by omega,by simp;omega,rfl⟩
 clear hr
 rintro j st ⟨bs,hb1,hb2,hb3,rfl⟩-
 by_cases hx:bs.length%64=56
 ·have hx':(bs.length:Int).tmod 64=56:=by rw[Int.tmod_eq_emod_of_nonneg (by omega)];omega
  simp only[go_sem,seval,hx',cI]
  repeat refine aJ ?_
  refine aA [1] (nP bs (8#64*m) (by omega)) (by kernel_rfl) (by simp) rfl (by simp) (by first|decide|simp) (by simp) (by simp) (by simp) (by simp) (by simp) ?_
  simp only[go_sem,seval]
  repeat refine aJ ?_
  refine And.intro (by rw[cn];omega) ?_
  refine aH (fun j st=>∃ (s1:List af) (a' b' c' d' e' f' g' i':BitVec 32),s1.length=j∧s1.length%64=0∧s1.length≤200∧st=⟨[(0,.ptr 0 0),(4,.ptr 2 0),(5,.str s1)],[some ⟨false,cI a b c d e f g i r m,none⟩,none,some ⟨false,[.u32 a',.u32 b',.u32 c',.u32 d',.u32 e',.u32 f',.u32 g',.u32 i'],none⟩]⟩) ?_ ?_
  ·refine fg ((List.take (bs.length+8) (bs++bz (8#64*m).toNat 8)).length) [0,4,5] 3 (by simp) (by simp) (by simp[cy,St.get,ae,V.low,-List.map_take,-List.map_drop,-List.map_map,-List.map_set]) (by simp[aF,ac,V.low,-List.map_take,-List.map_drop,-List.map_map,-List.map_set]) ?_
   simp only[cq,List.map_cons,List.map_nil,St.get,ae,seval,List.take_succ_cons,List.take_zero]
   exact⟨_,_,_,_,_,_,_,_,_,rfl,by simp[cn];omega,by simp[cn];omega,rfl⟩
  clear hx hx' hb1 hb2 hb3 bs
  rintro j st ⟨s1,a',b',c',d',e',f',g',i',rfl,hs1,hs2,rfl⟩-
  by_cases h0:s1=[]
  ·subst h0
   simp only[go_sem,seval,cI]
   obtain⟨hs,hhs,ee⟩:∃ hs:List (BitVec 32),hs.length=8∧[V.u32 a',V.u32 b',V.u32 c',V.u32 d',V.u32 e',V.u32 f',V.u32 g',V.u32 i']=hs.map V.u32:=⟨[a',b',c',d',e',f',g',i'],rfl,rfl⟩
   rw[ee]
   refine aH (fun j st=>∃ k:Nat,k+j=8∧((k=0∧st=⟨[(43,.agg (hs.map .u32)),(44,.i64 (0:Nat)),(6,.nilSlice)],[some ⟨false,cI a b c d e f g i r m,none⟩]⟩)∨(0<k∧∃ bs:List af,bs.length=4*k∧st=⟨[(43,.agg (hs.map .u32)),(44,.i64 k),(6,.slice 1 0 bs.length 1)],[some ⟨false,cI a b c d e f g i r m,none⟩,some ⟨false,bs.map .u8,none⟩]⟩))) ?_ ?_
   ·refine fg (8) [43,44,6] 1 (by simp) (by simp) (by simp[cy,St.get,ae,V.low,-List.map_take,-List.map_drop,-List.map_map,-List.map_set]) (by simp[aF,ac,V.low,-List.map_take,-List.map_drop,-List.map_map,-List.map_set]) ?_
    simp only[cq,List.map_cons,List.map_nil,St.get,ae,seval,List.take_succ_cons,List.take_zero]
    exact⟨0,by omega,.inl ⟨rfl,rfl⟩⟩
   clear hs1 hs2 ee
   rintro j st ⟨k,hij,hcase⟩-
   by_cases hi:k<8
   ·have hi':(k:Int)<8:=by omega
    have hw1:=cd (i:=k) (by omega)
    rcases hcase with⟨rfl,rfl⟩|⟨hi0,bs,hbs,rfl⟩
    ·simp only[go_sem,seval,List.length_map,hhs,dg V.u32 0#32]
     repeat refine aJ ?_
     refine aA [] (vo ((hs.getD 0 0#32).setWidth 64)) (by kernel_rfl) (by simp) rfl (by simp) (by first|decide|simp) (by simp) (by simp) (by simp) (by simp) (by simp) ?_
     simp only[go_sem,seval]
     exact db (j-1) ⟨[(43,.agg (hs.map .u32)),(44,.i64 (0+1:Nat)),(6,.slice 1 0 (bz ((hs.getD 0 0#32).setWidth 64).toNat 4).length 1)],[some ⟨false,cI a b c d e f g i r m,none⟩,some ⟨false,(bz ((hs.getD 0 0#32).setWidth 64).toNat 4).map .u8,none⟩]⟩ [0,1] (by omega) rfl (by simp) rfl (by decide) (by simp[cp,St.get,ae,cn,-List.map_map,-List.map_set]) (by simp[cI,-List.map_map,-List.map_set]) ⟨0+1,by omega,.inr ⟨by omega,_,by simp[cn],rfl⟩⟩
    ·simp only[go_sem,seval,hi',List.length_map,hhs,dg V.u32 0#32,hi]
     repeat refine aJ ?_
     refine aA [1] (nQ bs ((hs.getD k 0#32).setWidth 64) (by omega)) (by kernel_rfl) (by simp) rfl (by simp) (by first|decide|simp) (by simp) (by simp) (by simp) (by simp) (by simp) ?_
     simp only[go_sem,seval,hw1]
     exact db (j-1) ⟨[(43,.agg (hs.map .u32)),(44,.i64 (k+1:Nat)),(6,.slice 1 0 (bs++bz ((hs.getD k 0#32).setWidth 64).toNat 4).length 1)],[some ⟨false,cI a b c d e f g i r m,none⟩,some ⟨false,(bs++bz ((hs.getD k 0#32).setWidth 64).toNat 4).map .u8,none⟩]⟩ [0,2] (by omega) rfl (by simp) rfl (by decide) (by simp[cp,St.get,ae,cn,-List.map_map,-List.map_set]) (by simp[cI,-List.map_map,-List.map_set]) ⟨k+1,by omega,.inr ⟨by omega,_,by simp[cn,hbs];omega,rfl⟩⟩
   have hi':¬ (k:Int)<8:=by omega
   rcases hcase with⟨rfl,rfl⟩|⟨hi0,bs,hbs,rfl⟩
   ·omega
   simp only[go_sem,seval,hi',List.length_map]
   repeat refine aJ ?_
   refine⟨_,_,?_,Fin.take 1 (by simp) (by simp) (by simp[V.low,-List.map_take,-List.map_drop,-List.map_map,-List.map_set]) (by simp[aF,-List.map_take,-List.map_drop,-List.map_map,-List.map_set])⟩
   refine⟨_,?_,rfl,rfl⟩
   rw[hbs];omega
  ·have hpos:0<s1.length:=List.length_pos_iff.2 h0
   simp only[go_sem,seval,h0]
   repeat refine aJ ?_
   refine dN (wW [a',b',c',d',e',f',g',i'] rfl (s1.take 64) (by simp;omega)) ?_
   rintro _ ⟨hs,hhs,rfl⟩
   obtain⟨a',b',c',d',e',f',g',i',rfl⟩:=eight hhs
   simp only[go_sem,seval]
   repeat refine aJ ?_
   refine gd (s1.length-64) [0,4,5] 3 (by omega) (by simp) (by simp) (by simp[cy,St.get,ae,V.low,-List.map_take,-List.map_drop,-List.map_map,-List.map_set]) (by simp[aF,ac,V.low,-List.map_take,-List.map_drop,-List.map_map,-List.map_set,cI]) ?_
   simp only[cq,List.map_cons,List.map_nil,St.get,ae,seval,List.take_succ_cons,List.take_zero,cI]
   exact⟨_,_,_,_,_,_,_,_,_,by simp,by simp;omega,by simp;omega,rfl⟩
 ·have hx':¬ (bs.length:Int).tmod 64=56:=by rw[Int.tmod_eq_emod_of_nonneg (by omega)];omega
  simp only[go_sem,seval,hx',List.length_map]
  repeat refine aJ ?_
  exact db (j-1) ⟨[(0,.ptr 0 0),(3,.slice 1 0 (bs++[0#8]).length 1)],[some ⟨false,cI a b c d e f g i r m,none⟩,some ⟨false,(bs++[0#8]).map .u8,none⟩]⟩ [0,3] (by omega) rfl (by simp) rfl (by decide) (by simp[cp,St.get,ae,-List.map_map,-List.map_set]) (by simp[cI,-List.map_map,-List.map_set]) ⟨_,by simp;omega,by omega,by simp;omega,rfl⟩
theorem DV (s:List af)(hs:s.length≤4398046511104):∃ v,am Tryz.prog 68 [.str s] v∧∃ o:List af,o.length=32∧v= .str o:=by
 obtain⟨_,_,hn,rfl,c1,h1,rfl⟩:=DU
 obtain⟨_,_,hw,rfl,c2,h2,rfl⟩:=BR c1 h1 s hs
 obtain⟨_,_,hsum,o,ho,rfl,rfl⟩:=CO c2 h2
 obtain⟨a1,b1,d1,e1,f1,g1,k1,l1,r1,m1,rfl,-⟩:=h1
 obtain⟨a2,b2,d2,e2,f2,g2,k2,l2,r2,m2,rfl,-⟩:=h2
 refine ct (Post:=fun v=>∃ o:List af,o.length=32∧v= .str o) (by kernel_rfl) (by kernel_rfl) (fn:=Tryz.f68) Tryz.func68 rfl (by show 1≤10;decide) (by simp[ac,V.low]) (fun v h=>by first|(obtain⟨s,rfl,h⟩:=h;simp[ac,V.low])|(obtain⟨s,h,rfl⟩:=h;simp[V.low])) (ag ?_)
 simp only[go_sem,seval]
 refine aA [] (hn) (by kernel_rfl) (by simp) rfl (by simp) (by first|decide|simp) (by simp) (by simp) (by simp) (by simp) (by simp) ?_
 simp only[go_sem,seval]
 refine aA [0] (hw) (by kernel_rfl) (by simp) rfl (by simp) (by first|decide|simp) (by simp) (by simp) (by simp) (by simp) (by simp) ?_
 simp only[go_sem,seval]
 refine aA [0] (hsum) (by kernel_rfl) (by simp) rfl (by simp) (by first|decide|simp) (by simp) (by simp) (by simp) (by simp) (by simp) ?_
 simp only[go_sem,seval]
 exact⟨o,ho,rfl⟩
def Pi (f:V):Prop:=∃ n,f= .fn n [] []∧∀ s:List af,s.length≤1099511627776→∃ v,am Tryz.prog n [.str s] v∧∃ o:List af,o.length=32∧v= .str o
theorem Fm (s:List af)(hs:s.length≤1099511627776):∃ v,am Tryz.prog 66 [.str s] v∧∃ o:List af,o.length=32∧v= .str o:=by
 refine ct (Post:=fun v=>∃ o:List af,o.length=32∧v= .str o) (by kernel_rfl) (by kernel_rfl) (fn:=Tryz.f66) Tryz.func66 rfl (by show 1≤11;decide) (by simp[ac,V.low]) (fun v h=>by first|(obtain⟨s,rfl,h⟩:=h;simp[ac,V.low])|(obtain⟨s,h,rfl⟩:=h;simp[V.low])) (ag ?_)
 simp only[go_sem,seval]
 refine bh (uL [] s 32 (by simp) hs) ?_
 rintro _ (⟨-,h⟩|⟨-,-,-,o,ho,rfl⟩)
 ·exact absurd h (by simp)
 ·simp only[go_sem,seval]
  exact⟨o,by omega,rfl⟩
theorem vp (k:Int)(hk:k=1∨k=2):∃ v,am Tryz.prog 44 [.i64 k] v∧Pi v:=by
 rcases hk with rfl|rfl
 ·refine⟨.fn 66 [] [],?_,_,rfl,Fm⟩
  refine aw (by kernel_rfl) (fn:=Tryz.f44) (by kernel_rfl) Tryz.func44 rfl (by show 1≤8;decide) (by simp[ac,V.low]) (by simp[ac,V.low]) (ag ?_)
  simp only[go_sem,seval,Tryz.ntmps44,Tryz.results44]
 ·refine⟨.fn 68 [] [],?_,_,rfl,fun s hs=>DV s (by omega)⟩
  refine aw (by kernel_rfl) (fn:=Tryz.f44) (by kernel_rfl) Tryz.func44 rfl (by show 1≤8;decide) (by simp[ac,V.low]) (by simp[ac,V.low]) (ag ?_)
  simp only[go_sem,seval,Tryz.ntmps44,Tryz.results44]
theorem qR (k:Int)(hk:k=1∨k=2)(s:List af)(hs:s.length≤1099511627776):∃ v,am Tryz.prog 165 [.i64 k,.str s] v∧∃ o:List af,o.length=32∧v= .tup [.str o,.i64 0]:=by
 refine ct (Post:=fun v=>∃ o:List af,o.length=32∧v= .tup [.str o,.i64 0]) (by kernel_rfl) (by kernel_rfl) (fn:=Tryz.f165) Tryz.func165 rfl (by show 2≤14;decide) (by simp[ac,V.low]) (fun v h=>by first|(obtain⟨s,rfl,h⟩:=h;simp[ac,V.low])|(obtain⟨s,h,rfl⟩:=h;simp[ac,V.low])) (ag ?_)
 simp only[go_sem,seval]
 refine bh (vp k hk) ?_
 rintro _ ⟨f,rfl,hf⟩
 simp only[go_sem,seval]
 refine bh (hf s hs) ?_
 rintro _ ⟨o,ho,rfl⟩
 simp only[go_sem,seval]
 exact⟨o,ho,rfl⟩
theorem sN (k:Int)(hk:k=1∨k=2)(key s:List af)(hk2:key.length≤1099511627776)(hs:s.length≤549755813888):∃ v,am Tryz.prog 27 [.i64 k,.str key,.str s] v∧∃ o:List af,o.length=32∧v= .tup [.str o,.i64 0]:=by
 refine ct (Post:=fun v=>∃ o:List af,o.length=32∧v= .tup [.str o,.i64 0]) (by kernel_rfl) (by kernel_rfl) (fn:=Tryz.f27) Tryz.func27 rfl (by show 3≤30;decide) (by simp[ac,V.low]) (fun v h=>by first|(obtain⟨s,rfl,h⟩:=h;simp[ac,V.low])|(obtain⟨s,h,rfl⟩:=h;simp[ac,V.low])) (ag ?_)
 simp only[go_sem,seval]
 refine bh (vp k hk) ?_
 rintro _ ⟨f,rfl,hf⟩
 by_cases h64:(64:Int)<key.length
 ·simp only[go_sem,seval,h64]
  refine bh (hf key hk2) ?_
  rintro _ ⟨key2,hkey2,rfl⟩
  simp only[go_sem,seval]
  refine bh (o8 key2 92#8) ?_
  rintro _ ⟨p,hp,rfl⟩
  simp only[go_sem,seval]
  refine bh (o8 key2 54#8) ?_
  rintro _ ⟨q,hq,rfl⟩
  simp only[go_sem,seval]
  repeat refine aJ ?_
  refine bh (hf (q++s) (by simp;omega)) ?_
  rintro _ ⟨o,ho,rfl⟩
  simp only[go_sem,seval]
  repeat refine aJ ?_
  refine bh (hf (p++o) (by simp;omega)) ?_
  rintro _ ⟨o,ho,rfl⟩
  simp only[go_sem,seval]
  exact⟨o,ho,rfl⟩
 ·simp only[go_sem,seval,h64]
  refine bh (o8 key 92#8) ?_
  rintro _ ⟨p,hp,rfl⟩
  simp only[go_sem,seval]
  refine bh (o8 key 54#8) ?_
  rintro _ ⟨q,hq,rfl⟩
  simp only[go_sem,seval]
  repeat refine aJ ?_
  refine bh (hf (q++s) (by simp;omega)) ?_
  rintro _ ⟨o,ho,rfl⟩
  simp only[go_sem,seval]
  repeat refine aJ ?_
  refine bh (hf (p++o) (by simp;omega)) ?_
  rintro _ ⟨o,ho,rfl⟩
  simp only[go_sem,seval]
  exact⟨o,ho,rfl⟩
theorem jD (k:Int)(hk:k=1∨k=2)(key s:List af)(hk2:key.length≤1099511627776)(hs:s.length≤549755813888)(n:Nat)(hn:0<n)(hn3:n≤3):∃ v h',ao Tryz.prog 20 [.i64 k,.str key,.str s,.i64 n] [] v h'∧(v= .tup [.slice 0 0 n 1,.i64 0]∧∃ os:List (List af),os.length=n∧(∀ o∈os,o.length=32)∧h'=[some ⟨false,os.map .str,none⟩]):=by
 have g1:¬ (n:Int)<1:=by omega
 have g2:¬ 3<(n:Int):=by omega
 refine cb (Post:=fun v h'=>v= .tup [.slice 0 0 n 1,.i64 0]∧∃ os:List (List af),os.length=n∧(∀ o∈os,o.length=32)∧h'=[some ⟨false,os.map .str,none⟩]) (by kernel_rfl) (fn:=Tryz.f20) Tryz.func20 rfl (by show 4≤55;decide) (ag ?_)
 simp only[go_sem,seval]
 refine bh (sN k hk key s hk2 hs) ?_
 rintro _ ⟨p,hp,rfl⟩
 simp only[go_sem,seval,g1,g2]
 refine aH (fun j st=>∃ (i:Nat) (last:List af),i+j=n∧last.length≤32∧((i=0∧st=⟨[(0,.i64 k),(10,.str p),(13,.str last),(32,.i64 n),(33,.i64 (0:Nat)),(12,.nilSlice)],[]⟩)∨(0<i∧∃ os:List (List af),os.length=i∧(∀ o∈os,o.length=32)∧st=⟨[(0,.i64 k),(10,.str p),(13,.str last),(32,.i64 n),(33,.i64 i),(12,.slice 0 0 i 1)],[some ⟨false,os.map .str,none⟩]⟩))) ?_ ?_
 ·refine fg (n) [0,10,13,32,33,12] 0 (by simp) (by simp) (by simp[cy,St.get,ae,V.low,-List.map_take,-List.map_drop,-List.map_map,-List.map_set]) (by simp[aF,-List.map_take,-List.map_drop,-List.map_map,-List.map_set]) ?_
  simp only[cq,List.map_cons,List.map_nil,St.get,ae,seval,List.take_zero]
  exact⟨0,_,by omega,by simp,.inl ⟨rfl,rfl⟩⟩
 rintro j st ⟨i,last,hij,hlast,hcase⟩-
 by_cases hi:i<n
 ·have hi':(i:Int)<n:=by omega
  have hw1:=cd (i:=i) (by omega)
  rcases hcase with⟨rfl,rfl⟩|⟨hi0,os,hos,hos2,rfl⟩
  ·have hi2:(0:Int)<n:=by omega
   simp only[go_sem,seval,hi2]
   repeat refine aJ ?_
   refine bh (sN k hk p (last++[BitVec.ofInt 8 (ai (0+1))]) (by omega) (by simp;omega)) ?_
   rintro _ ⟨o,ho,rfl⟩
   simp only[go_sem,seval]
   repeat refine aJ ?_
   exact db (j-1) ⟨[(0,.i64 k),(10,.str p),(13,.str o),(32,.i64 n),(33,.i64 (0+1:Nat)),(12,.slice 0 0 (0+1) 1)],[some ⟨false,[o].map .str,none⟩]⟩ [2] (by omega) rfl (by simp) rfl (by decide) (by simp[cp,St.get,ae,-List.map_map,-List.map_set]) (by simp) ⟨0+1,o,by omega,by omega,.inr ⟨by omega,[o],rfl,by simpa using ho,rfl⟩⟩
  ·simp only[go_sem,seval,hi']
   repeat refine aJ ?_
   refine bh (sN k hk p (last++[BitVec.ofInt 8 (ai ((i:Int)+1))]) (by omega) (by simp;omega)) ?_
   rintro _ ⟨o,ho,rfl⟩
   simp only[go_sem,seval,List.length_map,hos,hw1,List.take_of_length_le (show(os.map V.str).length≤i by simp;omega),List.drop_zero]
   repeat refine aJ ?_
   exact db (j-1) ⟨[(0,.i64 k),(10,.str p),(13,.str o),(32,.i64 n),(33,.i64 (i+1:Nat)),(12,.slice 0 0 (i+1) 1)],[some ⟨false,(os++[o]).map .str,none⟩]⟩ [3] (by omega) rfl (by simp) rfl (by decide) (by simp[cp,St.get,ae,-List.map_map,-List.map_set]) (by simp) ⟨i+1,o,by omega,by omega,.inr ⟨by omega,os++[o],by simp[hos],fun x hx=>by rcases List.mem_append.1 hx with hx|hx;exact hos2 x hx;rw[List.mem_singleton.1 hx];exact ho,rfl⟩⟩
 have hi':¬ (i:Int)<n:=by omega
 rcases hcase with⟨rfl,rfl⟩|⟨hi0,os,hos,hos2,rfl⟩
 ·omega
 obtain rfl:i=n:=by omega
 simp only[go_sem,seval,hi']
 refine⟨_,_,?_,Fin.take 1 (by simp) (by simp) (by simp[ac,V.low,-List.map_take,-List.map_drop,-List.map_map,-List.map_set]) (by simp[aF,-List.map_take,-List.map_drop,-List.map_map,-List.map_set])⟩
 exact⟨rfl,os,hos,hos2,rfl⟩
theorem tv:cV Tryz.prog 258 "souterrain/noise.kind"=some 229:=by kernel_rfl
theorem tw:cV Tryz.prog 259 "souterrain/noise.kind"=some 233:=by kernel_rfl
theorem qU:am Tryz.prog 229 [.agg []] (.i64 1):=by
 refine aw (by kernel_rfl) (fn:=Tryz.f229) (by kernel_rfl) Tryz.func229 rfl (by show 1≤3;decide) (by simp[ac,V.low]) (by simp[V.low]) (ag ?_)
 simp only[go_sem,seval,Tryz.ntmps229,Tryz.results229]
theorem qV:am Tryz.prog 233 [.agg []] (.i64 2):=by
 refine aw (by kernel_rfl) (fn:=Tryz.f233) (by kernel_rfl) Tryz.func233 rfl (by show 1≤3;decide) (by simp[ac,V.low]) (by simp[V.low]) (ag ?_)
 simp only[go_sem,seval,Tryz.ntmps233,Tryz.results233]
def bD (s:V)(h c k:List af)(n:BitVec 64):List V:=[s,.str h,.str c,.str k,.u64 n]
def ib (s:V):Prop:=s= .iface 258 (.agg [])∨s= .iface 259 (.agg [])
structure StOk (s:V) (h c k:List af):Prop where
 s:ib s
 h:h.length=32
 c:c.length=32
 k:k.length≤32
def IsSt (cs:List V):Prop:=∃ s h c k n,StOk s h c k∧cs=bD s h c k n
theorem d8 {s:V}(h:ib s)(σ:Nat→Nat):s.ren σ=s:=by rcases h with rfl|rfl<;>rfl
theorem eR {s:V}(h:ib s)(n:Nat):s.low n=True:=by rcases h with rfl|rfl<;>simp[V.low,ac]
theorem wX {s:V}(h:ib s):s.one=true:=by rcases h with rfl|rfl<;>rfl
theorem Mv {s:V}(hs:ib s)(σ:Nat→Nat)(h c k:List af)(n:BitVec 64):rens σ (bD s h c k n)=bD s h c k n:=by simp[bD,rens,V.ren,d8 hs]
theorem Pj {s:V}(hs:ib s)(m:Nat)(h c k:List af)(n:BitVec 64):ac m (bD s h c k n)=True:=by simp[bD,ac,V.low,eR hs]
theorem IsSt.rens {cs:List V}(h:IsSt cs)(σ:Nat→Nat):Go.Vm.rens σ cs=cs:=by
 obtain⟨s,h,c,k,n,ho,rfl⟩:=h
 exact Mv ho.s σ h c k n
theorem IsSt.low {cs:List V}(h:IsSt cs)(m:Nat):ac m cs=True:=by
 obtain⟨s,h,c,k,n,ho,rfl⟩:=h
 exact Pj ho.s m h c k n
theorem kv (cs:List V)(hst:IsSt cs)(t:List af)(ht:t.length≤549755813888):∃ v h',ao Tryz.prog 149 [.ptr 0 0,.str t] [some ⟨false,cs,none⟩] v h'∧(v= .tup []∧∃ cs',IsSt cs'∧h'=[some ⟨false,cs',none⟩]):=by
 obtain⟨s,h,c,k,n,⟨hs,h1,h2,h3⟩,rfl⟩:=hst
 rcases hs with rfl|rfl
 ·refine cb (Post:=fun v h'=>v= .tup []∧∃ cs',IsSt cs'∧h'=[some ⟨false,cs',none⟩]) (by kernel_rfl) (fn:=Tryz.f149) Tryz.func149 rfl (by show 2≤22;decide) (ag ?_)
  simp only[go_sem,seval,bD,fY tv]
  repeat refine aJ ?_
  refine aC (qU) ?_
  simp only[go_sem,seval]
  repeat refine aJ ?_
  refine dN (qR 1 (.inl rfl) (h++t) (by simp;omega)) ?_
  rintro _ ⟨o,ho,rfl⟩
  simp only[go_sem,seval]
  repeat refine aJ ?_
  refine⟨_,_,?_,Fin.take 1 (by simp) (by simp) (by simp[cN,ac,V.low,-List.map_take,-List.map_drop,-List.map_map,-List.map_set]) (by simp[aF,ac,V.low,-List.map_take,-List.map_drop,-List.map_map,-List.map_set])⟩
  exact⟨rfl,_,⟨_,o,c,k,n,⟨.inl rfl,ho,h2,h3⟩,rfl⟩,rfl⟩
 ·refine cb (Post:=fun v h'=>v= .tup []∧∃ cs',IsSt cs'∧h'=[some ⟨false,cs',none⟩]) (by kernel_rfl) (fn:=Tryz.f149) Tryz.func149 rfl (by show 2≤22;decide) (ag ?_)
  simp only[go_sem,seval,bD,fY tw]
  repeat refine aJ ?_
  refine aC (qV) ?_
  simp only[go_sem,seval]
  repeat refine aJ ?_
  refine dN (qR 2 (.inr rfl) (h++t) (by simp;omega)) ?_
  rintro _ ⟨o,ho,rfl⟩
  simp only[go_sem,seval]
  repeat refine aJ ?_
  refine⟨_,_,?_,Fin.take 1 (by simp) (by simp) (by simp[cN,ac,V.low,-List.map_take,-List.map_drop,-List.map_map,-List.map_set]) (by simp[aF,ac,V.low,-List.map_take,-List.map_drop,-List.map_map,-List.map_set])⟩
  exact⟨rfl,_,⟨_,o,c,k,n,⟨.inr rfl,ho,h2,h3⟩,rfl⟩,rfl⟩
theorem two {os:List (List af)}(h:os.length=2)(h2:∀ o∈os,o.length=32):∃ a b,os=[a,b]∧a.length=32∧b.length=32:=by
 match os,h with
 |[a,b],_=>exact⟨a,b,rfl,h2 a (by simp),h2 b (by simp)⟩
theorem three {os:List (List af)}(h:os.length=3)(h2:∀ o∈os,o.length=32):∃ a b c,os=[a,b,c]∧a.length=32∧b.length=32∧c.length=32:=by
 match os,h with
 |[a,b,c],_=>exact⟨a,b,c,rfl,h2 a (by simp),h2 b (by simp),h2 c (by simp)⟩
theorem tW {os:List (List af)}(h:os.length=1)(h2:∀ o∈os,o.length=32):∃ a,os=[a]∧a.length=32:=by
 match os,h with
 |[a],_=>exact⟨a,rfl,h2 a (by simp)⟩
theorem vQ (cs:List V)(hst:IsSt cs)(t:List af)(ht:t.length≤549755813888):∃ v h',ao Tryz.prog 150 [.ptr 0 0,.str t] [some ⟨false,cs,none⟩] v h'∧(v= .tup []∧∃ cs',IsSt cs'∧h'=[some ⟨false,cs',none⟩]):=by
 obtain⟨s,h,c,k,n,⟨hs,h1,h2,h3⟩,rfl⟩:=hst
 rcases hs with rfl|rfl
 ·obtain⟨_,_,hd,rfl,os,ho1,ho2,rfl⟩:=jD 1 (.inl rfl) c t (by omega) ht 2 (by omega) (by omega)
  obtain⟨a,b,rfl,ha,hb⟩:=two ho1 ho2
  refine cb (Post:=fun v h'=>v= .tup []∧∃ cs',IsSt cs'∧h'=[some ⟨false,cs',none⟩]) (by kernel_rfl) (fn:=Tryz.f150) Tryz.func150 rfl (by show 2≤35;decide) (ag ?_)
  simp only[go_sem,seval,bD,fY tv]
  repeat refine aJ ?_
  refine aC (qU) ?_
  simp only[go_sem,seval]
  refine dj [] (hd) (by kernel_rfl) (by simp) rfl (by simp) (by first|decide|simp) (by simp) (by simp) (by simp) (by simp) (by simp) ?_
  simp only[go_sem,seval]
  repeat refine aJ ?_
  refine⟨_,_,?_,Fin.take 1 (by simp) (by simp) (by simp[cN,ac,V.low,-List.map_take,-List.map_drop,-List.map_map,-List.map_set]) (by simp[aF,ac,V.low,-List.map_take,-List.map_drop,-List.map_map,-List.map_set])⟩
  exact⟨rfl,_,⟨_,h,a,b,_,⟨.inl rfl,h1,ha,by omega⟩,rfl⟩,rfl⟩
 ·obtain⟨_,_,hd,rfl,os,ho1,ho2,rfl⟩:=jD 2 (.inr rfl) c t (by omega) ht 2 (by omega) (by omega)
  obtain⟨a,b,rfl,ha,hb⟩:=two ho1 ho2
  refine cb (Post:=fun v h'=>v= .tup []∧∃ cs',IsSt cs'∧h'=[some ⟨false,cs',none⟩]) (by kernel_rfl) (fn:=Tryz.f150) Tryz.func150 rfl (by show 2≤35;decide) (ag ?_)
  simp only[go_sem,seval,bD,fY tw]
  repeat refine aJ ?_
  refine aC (qV) ?_
  simp only[go_sem,seval]
  refine dj [] (hd) (by kernel_rfl) (by simp) rfl (by simp) (by first|decide|simp) (by simp) (by simp) (by simp) (by simp) (by simp) ?_
  simp only[go_sem,seval]
  repeat refine aJ ?_
  refine⟨_,_,?_,Fin.take 1 (by simp) (by simp) (by simp[cN,ac,V.low,-List.map_take,-List.map_drop,-List.map_map,-List.map_set]) (by simp[aF,ac,V.low,-List.map_take,-List.map_drop,-List.map_map,-List.map_set])⟩
  exact⟨rfl,_,⟨_,h,a,b,_,⟨.inr rfl,h1,ha,by omega⟩,rfl⟩,rfl⟩
theorem yF {s:V}(hs:ib s):∃ t f x,s= .iface t (.agg [])∧cV Tryz.prog t "souterrain/noise.kind"=some f∧am Tryz.prog f [.agg []] (.i64 x)∧(x=1∨x=2):=by
 rcases hs with rfl|rfl
 ·exact⟨258,_,1,rfl,tv,qU,.inl rfl⟩
 ·exact⟨259,_,2,rfl,tw,qV,.inr rfl⟩
theorem vq (cs:List V)(hst:IsSt cs)(t:List af)(ht:t.length≤549755813888):∃ v h',ao Tryz.prog 137 [.ptr 0 0,.str t] [some ⟨false,cs,none⟩] v h'∧(v= .tup []∧∃ cs',IsSt cs'∧h'=[some ⟨false,cs',none⟩]):=by
 obtain⟨s,h,c,k,n,⟨hs,h1,h2,h3⟩,rfl⟩:=hst
 obtain⟨ty,f,x,rfl,hm,hk,hx⟩:=yF hs
 obtain⟨_,_,hd,rfl,os,ho1,ho2,rfl⟩:=jD x hx c t (by omega) ht 3 (by omega) (by omega)
 obtain⟨a,b,d,rfl,ha,hb,hdd⟩:=three ho1 ho2
 have hsr:=fun σ=>d8 hs σ
 have hsl:=fun n=>eR hs n
 obtain⟨_,_,hmix,rfl,_,⟨s2,h2',c2,k2,n2,⟨hs2,g1,g2,g3⟩,rfl⟩,rfl⟩:=kv (bD (.iface ty (.agg [])) h c k n) ⟨_,h,c,k,n,⟨hs,h1,h2,h3⟩,rfl⟩ b (by omega)
 have hsr2:=fun σ=>d8 hs2 σ
 have hsl2:=fun n=>eR hs2 n
 refine cb (Post:=fun v h'=>v= .tup []∧∃ cs',IsSt cs'∧h'=[some ⟨false,cs',none⟩]) (by kernel_rfl) (fn:=Tryz.f137) Tryz.func137 rfl (by show 2≤40;decide) (ag ?_)
 simp only[go_sem,seval,bD,fY hm]
 repeat refine aJ ?_
 refine aC (hk) ?_
 simp only[go_sem,seval]
 refine dj [] (hd) (by kernel_rfl) (by simp) rfl (by simp) (by first|decide|simp) (by simp) (by simp) (by simp) (by simp) (by simp) ?_
 simp only[go_sem,seval]
 repeat refine aJ ?_
 refine aA [0] (hmix) (by kernel_rfl) (by simp) rfl (by simp[bD]) (by first|decide|simp) (by simp) (by simp) (by simp[bD]) (by simp[bD]) (by simp) ?_
 simp only[go_sem,seval,bD,hsr2]
 repeat refine aJ ?_
 refine⟨_,_,?_,Fin.take 1 (by simp) (by simp) (by simp[cN,ac,V.low,-List.map_take,-List.map_drop,-List.map_map,-List.map_set]) (by simp[aF,ac,V.low,-List.map_take,-List.map_drop,-List.map_map,-List.map_set,hsl2])⟩
 exact⟨rfl,_,⟨_,h2',a,d,_,⟨hs2,g1,ha,by omega⟩,rfl⟩,rfl⟩
theorem wY (cs:List V)(hst:IsSt cs):∃ v h',ao Tryz.prog 138 [.ptr 0 0] [some ⟨false,cs,none⟩] v h'∧((∃ a b:List af,a.length=32∧b.length=32∧v= .tup [.str a,.str b])∧h'=[some ⟨false,cs,none⟩]):=by
 obtain⟨s,h,c,k,n,⟨hs,h1,h2,h3⟩,rfl⟩:=hst
 obtain⟨ty,f,x,rfl,hm,hk,hx⟩:=yF hs
 obtain⟨_,_,hd,rfl,os,ho1,ho2,rfl⟩:=jD x hx c [] (by omega) (by simp) 2 (by omega) (by omega)
 obtain⟨a,b,rfl,ha,hb⟩:=two ho1 ho2
 refine cb (Post:=fun v h'=>(∃ a b:List af,a.length=32∧b.length=32∧v= .tup [.str a,.str b])∧h'=[some ⟨false,bD (.iface ty (.agg [])) h c k n,none⟩]) (by kernel_rfl) (fn:=Tryz.f138) Tryz.func138 rfl (by show 1≤25;decide) (ag ?_)
 simp only[go_sem,seval,bD,fY hm]
 repeat refine aJ ?_
 refine aC (hk) ?_
 simp only[go_sem,seval]
 refine dj [] (hd) (by kernel_rfl) (by simp) rfl (by simp) (by first|decide|simp) (by simp) (by simp) (by simp) (by simp) (by simp) ?_
 simp only[go_sem,seval]
 repeat refine aJ ?_
 refine⟨_,_,?_,Fin.take 1 (by simp) (by simp) (by simp[ac,V.low,-List.map_take,-List.map_drop,-List.map_map,-List.map_set]) (by simp[aF,ac,V.low,-List.map_take,-List.map_drop,-List.map_map,-List.map_set])⟩
 exact⟨⟨a,b,ha,hb,rfl⟩,rfl⟩
theorem mW:ofValue Value.nilIface=V.nilIface:=rfl
theorem Q7:o0 Tryz.prog 258=true:=by kernel_rfl
theorem Q8:o0 Tryz.prog 259=true:=by kernel_rfl
theorem Sd:am Tryz.prog 111 [.i64 1] (.iface 258 (.agg [])):=by
 refine aw (by kernel_rfl) (fn:=Tryz.f111) (by kernel_rfl) Tryz.func111 rfl (by show 1≤12;decide) (by simp[ac,V.low]) (by simp[ac,V.low]) (ag ?_)
 simp only[go_sem,seval,Tryz.ntmps111,Tryz.results111,Q7,mW]
theorem Se:am Tryz.prog 111 [.i64 2] (.iface 259 (.agg [])):=by
 refine aw (by kernel_rfl) (fn:=Tryz.f111) (by kernel_rfl) Tryz.func111 rfl (by show 1≤12;decide) (by simp[ac,V.low]) (by simp[ac,V.low]) (ag ?_)
 simp only[go_sem,seval,Tryz.ntmps111,Tryz.results111,Q8,mW]
theorem ue {x:Int}(hx:x=1∨x=2):∃ v,am Tryz.prog 111 [.i64 x] v∧ib v∧∃ t,v= .iface t (.agg []):=by
 rcases hx with rfl|rfl
 ·exact⟨_,Sd,.inl rfl,_,rfl⟩
 ·exact⟨_,Se,.inr rfl,_,rfl⟩
theorem Fo (x:Int)(hx:x=1∨x=2)(t:List af)(ht:t.length≤549755813888):∃ v h',ao Tryz.prog 148 [.i64 x,.str t] [] v h'∧(v= .tup [.ptr 0 0,.i64 0]∧∃ cs',IsSt cs'∧h'=[some ⟨false,cs',none⟩]):=by
 refine cb (Post:=fun v h'=>v= .tup [.ptr 0 0,.i64 0]∧∃ cs',IsSt cs'∧h'=[some ⟨false,cs',none⟩]) (by kernel_rfl) (fn:=Tryz.f148) Tryz.func148 rfl (by show 2≤34;decide) (ag ?_)
 simp only[go_sem,seval]
 refine bh (ue hx) ?_
 rintro _ ⟨hs,ty,rfl⟩
 simp only[go_sem,seval,mW]
 repeat refine aJ ?_
 refine bh (qR x hx _ (by rw[List.length_append];simp[bytesOf])) ?_
 rintro _ ⟨o,ho,rfl⟩
 obtain⟨_,_,hmix,rfl,_,⟨s2,h2',c2,k2,n2,⟨hs2,g1,g2,g3⟩,rfl⟩,rfl⟩:=kv (bD (.iface ty (.agg [])) o o [] 0#64) ⟨_,o,o,[],0#64,⟨hs,ho,ho,by simp⟩,rfl⟩ t ht
 have hsr:=fun σ=>d8 hs σ
 have hsl:=fun n=>eR hs n
 have hsr2:=fun σ=>d8 hs2 σ
 have hsl2:=fun n=>eR hs2 n
 simp only[go_sem,seval]
 repeat refine aJ ?_
 refine aA [1] (hmix) (by kernel_rfl) (by simp) rfl (by simp[bD]) (by first|decide|simp) (by simp) (by simp) (by simp[bD]) (by simp[bD]) (by simp) ?_
 simp only[go_sem,seval,bD,hsr2]
 refine⟨_,_,⟨rfl,_,⟨s2,h2',c2,k2,n2,⟨hs2,g1,g2,g3⟩,rfl⟩,rfl⟩,?_⟩
 exact Fin.ren [1] (by simp) (by simp) (by rfl) (by decide) (by simp[bD]) (by simp[bD,hsr2,hsl2])
theorem I0 (w:List (BitVec 32))(i k:Nat)(hk:k<4):cH w (8*i+(k+1))=i9 (cH w (8*i+k)) k (4+k) (8+k) (12+k):=by
 have h1:(8*i+k)%4=k:=by omega
 have h2:(8*i+k)/4%2=0:=by omega
 rw[←Nat.add_assoc,cH]
 unfold ma
 rw[h1,h2]
 congr 1<;>omega
theorem Fp (w:List (BitVec 32))(i k:Nat)(hk:k<4):cH w (8*i+4+(k+1))=i9 (cH w (8*i+4+k)) k (4+(k+1)%4) (8+(k+2)%4) (12+(k+3)%4):=by
 have h1:(8*i+4+k)%4=k:=by omega
 have h2:(8*i+4+k)/4%2=1:=by omega
 rw[←Nat.add_assoc,cH]
 unfold ma
 rw[h1,h2]
 congr 1<;>omega
theorem tF (k c:Nat)(h:k+c<1000):(ai ((k:Int)+(c:Int))).tmod 4=(((k+c)%4:Nat):Int):=by
 rw[←Int.natCast_add,al (by omega) (by omega),show(4:Int)=((4:Nat):Int) from rfl,xI]
theorem uM (w:List (BitVec 32))(hw:w.length=16):am Tryz.prog 181 [.agg (w.map .u32)] (.agg ((cH w 80).map .u32)):=by
 have hs:∀ n,(cH w n).length=16:=fun n=>by rw[n9];exact hw
 refine aw (by kernel_rfl) (fn:=Tryz.f181) (by kernel_rfl) Tryz.func181 rfl (by show 1≤43;decide) (by simp[mV,ac,V.low]) (by simp[mV,V.low]) (ag ?_)
 simp only[go_sem,seval,Tryz.ntmps181]
 refine aH (fun ji st=>∃ i:Nat,i+ji=10∧st=⟨[(1,.ptr 0 0),(2,.ptr 1 0),(3,.fn 191 [] [.ptr 0 0]),(7,.i64 i)],[some ⟨false,(cH w (8*i)).map .u32,none⟩,some ⟨false,[.u32 0#32,.u32 0#32,.u32 0#32,.u32 0#32,.u32 0#32,.u32 0#32,.u32 0#32,.u32 0#32,.u32 0#32,.u32 0#32,.u32 0#32,.u32 0#32,.u32 0#32,.u32 0#32,.u32 0#32,.u32 0#32],none⟩]⟩) ?_ ?_
 ·exact aX (10) ⟨[(1,.ptr 0 0),(2,.ptr 1 0),(3,.fn 191 [] [.ptr 0 0]),(7,.i64 (0:Nat))],[some ⟨false,(cH w (8*(0:Nat))).map .u32,none⟩,some ⟨false,[.u32 0#32,.u32 0#32,.u32 0#32,.u32 0#32,.u32 0#32,.u32 0#32,.u32 0#32,.u32 0#32,.u32 0#32,.u32 0#32,.u32 0#32,.u32 0#32,.u32 0#32,.u32 0#32,.u32 0#32,.u32 0#32],none⟩]⟩ (by simp[St.get,ae,-List.map_set,-List.map_map]) rfl (fun _ _ h=>h) ⟨0,by omega,rfl⟩
 rintro ji st ⟨i,hi,rfl⟩ _
 simp only[go_sem,seval]
 by_cases h0:i<10
 ·have h0':(i:Int)<10:=by omega
  simp only[go_sem,seval,h0']
  refine aH (fun jk st=>∃ k:Nat,k+jk=4∧st=⟨[(1,.ptr 0 0),(2,.ptr 1 0),(3,.fn 191 [] [.ptr 0 0]),(7,.i64 i),(9,.i64 k)],[some ⟨false,(cH w (8*i+k)).map .u32,none⟩,some ⟨false,[.u32 0#32,.u32 0#32,.u32 0#32,.u32 0#32,.u32 0#32,.u32 0#32,.u32 0#32,.u32 0#32,.u32 0#32,.u32 0#32,.u32 0#32,.u32 0#32,.u32 0#32,.u32 0#32,.u32 0#32,.u32 0#32],none⟩]⟩) ?_ ?_
  ·exact aX 4 ⟨[(1,.ptr 0 0),(2,.ptr 1 0),(3,.fn 191 [] [.ptr 0 0]),(7,.i64 i),(9,.i64 (0:Nat))],[some ⟨false,(cH w (8*i)).map .u32,none⟩,some ⟨false,[.u32 0#32,.u32 0#32,.u32 0#32,.u32 0#32,.u32 0#32,.u32 0#32,.u32 0#32,.u32 0#32,.u32 0#32,.u32 0#32,.u32 0#32,.u32 0#32,.u32 0#32,.u32 0#32,.u32 0#32,.u32 0#32],none⟩]⟩ (by simp[St.get,ae]) rfl (fun _ _ h=>h) ⟨0,by omega,rfl⟩
  rintro jk st ⟨k,hk,rfl⟩ _
  simp only[go_sem,seval]
  by_cases hk4:k<4
  ·have hk4':(k:Int)<4:=by omega
   have e1:ai (4+(k:Int))=((4+k:Nat):Int):=by rw[al (by omega) (by omega)];omega
   have e2:ai (8+(k:Int))=((8+k:Nat):Int):=by rw[al (by omega) (by omega)];omega
   have e3:ai (12+(k:Int))=((12+k:Nat):Int):=by rw[al (by omega) (by omega)];omega
   simp only[go_sem,seval,hk4',e1,e2,e3]
   refine aA [0] (wU (cH w (8*i+k)) (hs _) k (4+k) (8+k) (12+k) (by omega) (by omega) (by omega) (by omega)) (by kernel_rfl) (by simp) rfl (by simp) (by first|decide|simp) (by simp) (by simp) (by simp) (by simp) (by simp) ?_
   simp only[go_sem,seval,←I0 w i k hk4]
   refine aS (jk-1) ⟨[(1,.ptr 0 0),(2,.ptr 1 0),(3,.fn 191 [] [.ptr 0 0]),(7,.i64 i),(9,.i64 (k+1:Nat))],[some ⟨false,(cH w (8*i+(k+1:Nat))).map .u32,none⟩,some ⟨false,[.u32 0#32,.u32 0#32,.u32 0#32,.u32 0#32,.u32 0#32,.u32 0#32,.u32 0#32,.u32 0#32,.u32 0#32,.u32 0#32,.u32 0#32,.u32 0#32,.u32 0#32,.u32 0#32,.u32 0#32,.u32 0#32],none⟩]⟩ (by omega) ?_ rfl (fun _ _ h=>h) ⟨k+1,by omega,rfl⟩
   have hw1:ai ((k:Int)+1)=((k+1:Nat):Int):=by rw[al (by omega) (by omega)];omega
   simp[St.get,ae,hw1,-List.map_set,-List.map_map]
  ·have hk4':¬ (k:Int)<4:=by omega
   simp only[go_sem,seval,hk4']
   obtain rfl:k=4:=by omega
   refine aH (fun jk st=>∃ k:Nat,k+jk=4∧st=⟨[(1,.ptr 0 0),(2,.ptr 1 0),(3,.fn 191 [] [.ptr 0 0]),(7,.i64 i),(22,.i64 k)],[some ⟨false,(cH w (8*i+4+k)).map .u32,none⟩,some ⟨false,[.u32 0#32,.u32 0#32,.u32 0#32,.u32 0#32,.u32 0#32,.u32 0#32,.u32 0#32,.u32 0#32,.u32 0#32,.u32 0#32,.u32 0#32,.u32 0#32,.u32 0#32,.u32 0#32,.u32 0#32,.u32 0#32],none⟩]⟩) ?_ ?_
   ·exact aX 4 ⟨[(1,.ptr 0 0),(2,.ptr 1 0),(3,.fn 191 [] [.ptr 0 0]),(7,.i64 i),(22,.i64 (0:Nat))],[some ⟨false,(cH w (8*i+4)).map .u32,none⟩,some ⟨false,[.u32 0#32,.u32 0#32,.u32 0#32,.u32 0#32,.u32 0#32,.u32 0#32,.u32 0#32,.u32 0#32,.u32 0#32,.u32 0#32,.u32 0#32,.u32 0#32,.u32 0#32,.u32 0#32,.u32 0#32,.u32 0#32],none⟩]⟩ (by simp[St.get,ae]) rfl (fun _ _ h=>h) ⟨0,by omega,rfl⟩
   rintro jk st ⟨k,hk,rfl⟩ _
   simp only[go_sem,seval]
   by_cases hk4:k<4
   ·have hk4':(k:Int)<4:=by omega
    have d1:(ai ((k:Int)+1)).tmod 4=(((k+1)%4:Nat):Int):=tF k 1 (by omega)
    have e1:ai (4+(((k+1)%4:Nat):Int))=((4+(k+1)%4:Nat):Int):=by rw[al (by omega) (by omega)];omega
    have d2:(ai ((k:Int)+2)).tmod 4=(((k+2)%4:Nat):Int):=tF k 2 (by omega)
    have e2:ai (8+(((k+2)%4:Nat):Int))=((8+(k+2)%4:Nat):Int):=by rw[al (by omega) (by omega)];omega
    have d3:(ai ((k:Int)+3)).tmod 4=(((k+3)%4:Nat):Int):=tF k 3 (by omega)
    have e3:ai (12+(((k+3)%4:Nat):Int))=((12+(k+3)%4:Nat):Int):=by rw[al (by omega) (by omega)];omega
    simp only[go_sem,seval,hk4',d1,d2,d3,e1,e2,e3]
    refine aA [0] (wU (cH w (8*i+4+k)) (hs _) k (4+(k+1)%4) (8+(k+2)%4) (12+(k+3)%4) (by omega) (by omega) (by omega) (by omega)) (by kernel_rfl) (by simp) rfl (by simp) (by first|decide|simp) (by simp) (by simp) (by simp) (by simp) (by simp) ?_
    simp only[go_sem,seval,←Fp w i k hk4]
    refine aS (jk-1) ⟨[(1,.ptr 0 0),(2,.ptr 1 0),(3,.fn 191 [] [.ptr 0 0]),(7,.i64 i),(22,.i64 (k+1:Nat))],[some ⟨false,(cH w (8*i+4+(k+1:Nat))).map .u32,none⟩,some ⟨false,[.u32 0#32,.u32 0#32,.u32 0#32,.u32 0#32,.u32 0#32,.u32 0#32,.u32 0#32,.u32 0#32,.u32 0#32,.u32 0#32,.u32 0#32,.u32 0#32,.u32 0#32,.u32 0#32,.u32 0#32,.u32 0#32],none⟩]⟩ (by omega) ?_ rfl (fun _ _ h=>h) ⟨k+1,by omega,rfl⟩
    have hw1:ai ((k:Int)+1)=((k+1:Nat):Int):=by rw[al (by omega) (by omega)];omega
    simp[St.get,ae,hw1,-List.map_set,-List.map_map]
   ·have hk4':¬ (k:Int)<4:=by omega
    simp only[go_sem,seval,hk4']
    obtain rfl:k=4:=by omega
    refine aS (ji-1) ⟨[(1,.ptr 0 0),(2,.ptr 1 0),(3,.fn 191 [] [.ptr 0 0]),(7,.i64 (i+1:Nat))],[some ⟨false,(cH w (8*(i+1:Nat))).map .u32,none⟩,some ⟨false,[.u32 0#32,.u32 0#32,.u32 0#32,.u32 0#32,.u32 0#32,.u32 0#32,.u32 0#32,.u32 0#32,.u32 0#32,.u32 0#32,.u32 0#32,.u32 0#32,.u32 0#32,.u32 0#32,.u32 0#32,.u32 0#32],none⟩]⟩ (by omega) ?_ rfl (fun _ _ h=>h) ⟨i+1,by omega,rfl⟩
    have hw1:ai ((i:Int)+1)=((i+1:Nat):Int):=by rw[al (by omega) (by omega)];omega
    simp[St.get,ae,hw1,-List.map_set,-List.map_map]
 ·have h0':¬ (i:Int)<10:=by omega
  obtain rfl:i=10:=by omega
  have h16:=hs 80
  have hm:min 16 16=16:=rfl
  simp only[go_sem,seval,h16,List.take_of_length_le,bd,hm]
def s9 (s:List (BitVec 8))(i:Nat):BitVec 32:=BitVec.ofNat 32 (le ((s.drop (4*i)).take 4))
def lr (s:List (BitVec 8)):Nat→List (BitVec 32)
 |0=>[]
 |i+1=>lr s i++[s9 s i]
theorem uD (s:List (BitVec 8))(n:Nat):(lr s n).length=n:=by
 induction n with
 |zero=>rfl
 |succ n ih=>rw[lr,List.length_append,ih];rfl
def dv (l:List (BitVec 32)):List (BitVec 8):=l.flatMap fun x=>aE x.toNat 4
theorem vr (l:List (BitVec 32))(x:BitVec 32):dv (l++[x])=dv l++aE x.toNat 4:=by unfold dv;rw[List.flatMap_append];simp
theorem nM (l:List (BitVec 32)):(dv l).length=4*l.length:=by
 induction l using xV with
 |h0=>rfl
 |h1 l a ih=>rw[vr,List.length_append,ih,bL,List.length_append];simp;omega
theorem qW (k n:List (BitVec 8))(sz:Int):am Tryz.prog 179 [.str k,.str n,.i64 sz] (.i64 (if k.length=32∧(n.length:Int)=sz then 0 else 1)):=by
 by_cases h1:k.length=32
 ·by_cases h2:(n.length:Int)=sz
  ·refine aw (by kernel_rfl) (fn:=Tryz.f179) (by kernel_rfl) Tryz.func179 rfl (by show 3≤16;decide) (by simp[ac,V.low]) (by simp[V.low]) (ag ?_)
   simp only[go_sem,seval,Tryz.ntmps179,Tryz.results179,h1,h2]
  ·refine aw (by kernel_rfl) (fn:=Tryz.f179) (by kernel_rfl) Tryz.func179 rfl (by show 3≤16;decide) (by simp[ac,V.low]) (by simp[V.low]) (ag ?_)
   simp only[go_sem,seval,Tryz.ntmps179,Tryz.results179,h1,h2]
 ·have h1':¬ (k.length:Int)=32:=by omega
  refine aw (by kernel_rfl) (fn:=Tryz.f179) (by kernel_rfl) Tryz.func179 rfl (by show 3≤16;decide) (by simp[ac,V.low]) (by simp[V.low]) (ag ?_)
  simp only[go_sem,seval,Tryz.ntmps179,Tryz.results179,h1,h1',false_and]
def eA (s:List (BitVec 8))(i:Nat):List (BitVec 32):=[1634760805#32,857760878#32,2036477234#32,1797285236#32]++lr s i++List.replicate (12-i) 0#32
theorem mC (s:List (BitVec 8))(i:Nat)(h:i≤12):(eA s i).length=16:=by
 unfold eA;rw[List.length_append,List.length_append,uD,List.length_replicate];simp;omega
theorem Mw (s:List (BitVec 8))(i:Nat)(h:i<12):(eA s i).set (4+i) (s9 s i)=eA s (i+1):=by
 unfold eA
 rw[lr,show 12-i=(12-(i+1))+1 by omega,List.replicate_succ]
 have hl:([1634760805#32,857760878#32,2036477234#32,1797285236#32]++lr s i).length=4+i:=by rw[List.length_append,uD];rfl
 rw[List.set_append_right _ _ (by omega),hl,Nat.sub_self,List.set_cons_zero]
 simp
theorem Q9 (n:Nat):(BitVec.ofNat 64 n).setWidth 32=BitVec.ofNat 32 n:=by
 apply BitVec.eq_of_toNat_eq
 rw[BitVec.toNat_setWidth,BitVec.toNat_ofNat,BitVec.toNat_ofNat,Nat.mod_mod_of_dvd _ (by decide:2^32∣2^64)]
theorem vR (k r:List (BitVec 8))(h:(k++r).length=48):am Tryz.prog 180 [.str k,.str r] (.agg ((eA (k++r) 12).map .u32)):=by
 have hkr:k.length+r.length=48:=by rw[←List.length_append];exact h
 refine aw (by kernel_rfl) (fn:=Tryz.f180) (by kernel_rfl) Tryz.func180 rfl (by show 2≤26;decide) (by simp[ac,V.low]) (by simp[mV,V.low]) (ag ?_)
 simp only[go_sem,seval,Tryz.ntmps180,hkr]
 generalize k++r=s at h ⊢
 refine aH (fun j st=>∃ i:Nat,i+j=12∧st=⟨[(4,.ptr 0 0),(5,.ptr 1 0),(6,.i64 i),(7,.str (s.drop (4*i)))],[some ⟨false,[.u32 0#32,.u32 0#32,.u32 0#32,.u32 0#32,.u32 0#32,.u32 0#32,.u32 0#32,.u32 0#32,.u32 0#32,.u32 0#32,.u32 0#32,.u32 0#32,.u32 0#32,.u32 0#32,.u32 0#32,.u32 0#32],none⟩,some ⟨false,(eA s i).map .u32,none⟩]⟩) ?_ ?_
 ·exact aX 12 ⟨[(4,.ptr 0 0),(5,.ptr 1 0),(6,.i64 (0:Nat)),(7,.str (s.drop (4*0)))],[some ⟨false,[.u32 0#32,.u32 0#32,.u32 0#32,.u32 0#32,.u32 0#32,.u32 0#32,.u32 0#32,.u32 0#32,.u32 0#32,.u32 0#32,.u32 0#32,.u32 0#32,.u32 0#32,.u32 0#32,.u32 0#32,.u32 0#32],none⟩,some ⟨false,(eA s 0).map .u32,none⟩]⟩ (by simp[St.get,ae]) rfl (fun _ _ h=>h) ⟨0,by omega,rfl⟩
 rintro j st ⟨i,hi,rfl⟩ _
 have hd:(s.drop (4*i)).length=48-4*i:=by rw[List.length_drop,h]
 by_cases h0:i<12
 ·have hne:¬ s.drop (4*i)=[]:=fun e=>by rw[e] at hd;simp at hd;omega
  have hdl:(4:Int)≤((s.drop (4*i)).length:Int):=by omega
  have hdl':(4:Int)≤((48-4*i:Nat):Int):=by omega
  have e1:ai (4+(i:Int))=((4+i:Nat):Int):=by rw[al (by omega) (by omega)];omega
  have hi1:((4+i:Nat):Int)<16:=by omega
  have hi2:4+i<16:=by omega
  have hal:=mC s i (by omega)
  have hmin:min 4 (48-4*i)=4:=by omega
  have hwd:BitVec.ofNat 32 (le ((s.drop (4*i)).take 4))=s9 s i:=rfl
  have ht8:((s.drop (4*i)).take 4).take 8=(s.drop (4*i)).take 4:=List.take_of_length_le (by simp;omega)
  simp only[go_sem,seval,hne,hd,hdl']
  refine ak (dF _ (by simp;omega)) ?_
  simp only[go_sem,seval,e1,hi1,hal,ht8,List.take_of_length_le,hd,Q9,hwd,Mw s i h0,hdl',List.drop_drop]
  refine⟨by omega,by omega,by kernel_rfl,?_⟩
  refine aS (j-1) ⟨[(4,.ptr 0 0),(5,.ptr 1 0),(6,.i64 (i+1:Nat)),(7,.str (s.drop (4*(i+1))))],[some ⟨false,[.u32 0#32,.u32 0#32,.u32 0#32,.u32 0#32,.u32 0#32,.u32 0#32,.u32 0#32,.u32 0#32,.u32 0#32,.u32 0#32,.u32 0#32,.u32 0#32,.u32 0#32,.u32 0#32,.u32 0#32,.u32 0#32],none⟩,some ⟨false,(eA s (i+1)).map .u32,none⟩]⟩ (by omega) ?_ rfl (fun _ _ h=>h) ⟨i+1,by omega,rfl⟩
  have hw1:ai ((i:Int)+1)=((i+1:Nat):Int):=by rw[al (by omega) (by omega)];omega
  simp[St.get,ae,hw1,Nat.mul_add]
 ·have hi12:i=12:=by omega
  have hde:s.drop (4*i)=[]:=List.drop_of_length_le (by omega)
  have hal:=mC s 12 (by omega)
  have hm:min 16 16=16:=rfl
  subst hi12
  simp only[go_sem,seval,hde,hal,List.take_of_length_le,bd]
theorem vt {l:List (BitVec 32)}{i:Nat}(h:i<l.length):l.take (i+1)=l.take i++[l.getD i 0]:=by
 rw[List.take_succ_eq_append_getElem h,List.getD_eq_getElem?_getD,List.getElem?_eq_getElem h];rfl
theorem tG (x:BitVec 32):(x.setWidth 64).toNat=x.toNat:=by
 have :=x.isLt
 rw[BitVec.toNat_setWidth];omega
theorem Fq (w:List (BitVec 32))(o i:Nat):(w.drop o).getD i 0=w.getD (o+i) 0:=by
 rw[List.getD_eq_getElem?_getD,List.getD_eq_getElem?_getD,List.getElem?_drop]
theorem rD (w:List (BitVec 32))(o n:Nat)(h:o+n≤w.length)(hn:0<n)(hw:w.length≤16):ao Tryz.prog 182 [.slice 0 o n 1] [some ⟨false,w.map .u32,none⟩] (.str (dv ((w.drop o).take n))) [some ⟨false,w.map .u32,none⟩]:=by
 refine aR (by kernel_rfl) (fn:=Tryz.f182) Tryz.func182 rfl (by show 1≤19;decide) (ag ?_)
 simp only[go_sem,↓reduceIte,Nat.reduceLT,reduceCtorEq,Tryz.ntmps182]
 refine aH (fun j st=>∃ i:Nat,i+j=n∧((i=0∧st=⟨[(3,.nilSlice),(6,.slice 0 o n 1),(7,.i64 n),(8,.i64 (0:Nat))],[some ⟨false,w.map .u32,none⟩]⟩)∨
  (0<i∧st=⟨[(3,.slice 1 0 (dv ((w.drop o).take i)).length 1),(6,.slice 0 o n 1),(7,.i64 n),(8,.i64 i)],[some ⟨false,w.map .u32,none⟩,some ⟨false,(dv ((w.drop o).take i)).map .u8,none⟩]⟩))) ?_ ?_
 ·exact aX n ⟨[(3,.nilSlice),(6,.slice 0 o n 1),(7,.i64 n),(8,.i64 (0:Nat))],[some ⟨false,w.map .u32,none⟩]⟩ (by simp[St.get,ae]) rfl (fun _ _ h=>h) ⟨0,by omega,.inl ⟨rfl,rfl⟩⟩
 rintro j st ⟨i,hi,hcase⟩ _
 by_cases h0:i<n
 ·have h0':(i:Int)<(n:Int):=by omega
  have ho:o+i<w.length:=by omega
  have hoi:i<(w.drop o).length:=by rw[List.length_drop];omega
  have hw1:ai ((i:Int)+1)=((i+1:Nat):Int):=by rw[al (by omega) (by omega)];omega
  have hs:dv ((w.drop o).take (i+1))=dv ((w.drop o).take i)++aE (w.getD (o+i) 0).toNat 4:=by rw[vt hoi,vr,Fq]
  have hl4:(dv ((w.drop o).take i)).length=4*i:=by rw[nM,List.length_take,Nat.min_eq_left (by omega)]
  rcases hcase with⟨rfl,rfl⟩|⟨hi0,rfl⟩
  ·have h00:(0:Int)<(n:Int):=by omega
   have ho':o<w.length:=by omega
   have hs':dv ((w.drop o).take (0+1))=aE (w.getD o 0).toNat 4:=hs
   simp only[go_sem,↓reduceIte,Nat.reduceEqDiff,Nat.reduceLT,Int.reduceToNat,h00,ho',iQ ho']
   refine aA [] (nJ ((w.getD o 0).setWidth 64)) (by kernel_rfl) (by simp[-List.map_map,-List.map_set]) rfl (by simp[-List.map_map,-List.map_set]) (by first|decide|simp) (by simp[-List.map_map,-List.map_set]) (by simp[-List.map_map,-List.map_set]) (by simp[-List.map_map,-List.map_set]) (by simp[-List.map_map,-List.map_set]) (by simp) ?_
   simp only[go_sem,↓reduceIte,Nat.reduceEqDiff,Nat.reduceLT,Nat.reduceAdd,Nat.reduceSub,Int.reduceLE,Int.reduceAdd,Int.reduceNeg,tG]
   refine db (j-1) ⟨[(3,.slice 1 0 (dv ((w.drop o).take (0+1))).length 1),(6,.slice 0 o n 1),(7,.i64 n),(8,.i64 (0+1:Nat))],[some ⟨false,w.map .u32,none⟩,some ⟨false,(dv ((w.drop o).take (0+1))).map .u8,none⟩]⟩ [0,1] (by omega) rfl (by simp) rfl (by decide) ?_ ?_ ⟨0+1,by omega,.inr ⟨by omega,rfl⟩⟩
   ·rw[hs'];simp[cp,St.get,ae,bL,-List.map_map,-List.map_set]
   ·rw[hs'];simp[-List.map_map,-List.map_set]
  ·simp only[go_sem,↓reduceIte,Nat.reduceEqDiff,Nat.reduceLT,h0',ho,iQ ho]
   refine⟨by omega,?_⟩
   refine aA [1] (pV (dv ((w.drop o).take i)) ((w.getD (o+i) 0).setWidth 64) (by omega)) (by kernel_rfl) (by simp[-List.map_map,-List.map_set]) rfl (by simp[-List.map_map,-List.map_set]) (by first|decide|simp) (by simp[-List.map_map,-List.map_set]) (by simp[-List.map_map,-List.map_set]) (by simp[-List.map_map,-List.map_set]) (by simp[-List.map_map,-List.map_set]) (by simp) ?_
   simp only[go_sem,↓reduceIte,Nat.reduceEqDiff,Nat.reduceLT,Nat.reduceAdd,Nat.reduceSub,tG]
   refine db (j-1) ⟨[(3,.slice 1 0 (dv ((w.drop o).take (i+1))).length 1),(6,.slice 0 o n 1),(7,.i64 n),(8,.i64 (i+1:Nat))],[some ⟨false,w.map .u32,none⟩,some ⟨false,(dv ((w.drop o).take (i+1))).map .u8,none⟩]⟩ [0,2] (by omega) rfl (by simp) rfl (by decide) ?_ ?_ ⟨i+1,by omega,.inr ⟨by omega,rfl⟩⟩
   ·rw[hs];simp[cp,St.get,ae,hw1,bL,-List.map_map,-List.map_set]
   ·rw[hs];simp[-List.map_map,-List.map_set]
 ·obtain rfl:i=n:=by omega
  have h0':¬ (i:Int)<(i:Int):=by omega
  rcases hcase with⟨rfl,rfl⟩|⟨hi0,rfl⟩
  ·omega
  ·simp only[go_sem,↓reduceIte,Nat.reduceEqDiff,Nat.reduceLT,h0',List.take_of_length_le]
   exact Fin.ren [0] (by simp) (by simp) (by rfl) (by decide) (by simp[-List.map_map,-List.map_set]) (by simp[-List.map_map,-List.map_set])
def ir (a b:List (BitVec 32)):List (BitVec 32):=List.zipWith (· +·) a b
theorem kw (a b:List (BitVec 32)):(ir a b).length=min a.length b.length:=List.length_zipWith
theorem Fu (a b:List (BitVec 32))(i:Nat)(h1:i<a.length)(h2:i<b.length):(ir a b).getD i 0=a.getD i 0+b.getD i 0:=by
 unfold ir
 rw[List.getD_eq_getElem?_getD,List.getD_eq_getElem?_getD,List.getD_eq_getElem?_getD,List.getElem?_zipWith,List.getElem?_eq_getElem h1,List.getElem?_eq_getElem h2];rfl
def eY (a b:List (BitVec 32))(i:Nat):List (BitVec 32):=(ir a b).take i++a.drop i
theorem uN (a b:List (BitVec 32))(i:Nat)(h:a.length=b.length)(hi:i≤a.length):(eY a b i).length=a.length:=by
 unfold eY;rw[List.length_append,List.length_take,kw,List.length_drop];omega
theorem Fv (a b:List (BitVec 32))(i:Nat)(h:a.length=b.length)(hi:i<a.length):(eY a b i).getD i 0=a.getD i 0:=by
 unfold eY
 have hl:((ir a b).take i).length=i:=by rw[List.length_take,kw];omega
 rw[List.getD_eq_getElem?_getD,List.getElem?_append_right (by omega),hl,Nat.sub_self,List.getElem?_drop,Nat.add_zero,←List.getD_eq_getElem?_getD]
theorem Fw (a b:List (BitVec 32))(i:Nat)(h:a.length=b.length)(hi:i<a.length):(eY a b i).set i (a.getD i 0+b.getD i 0)=eY a b (i+1):=by
 unfold eY
 have hl:((ir a b).take i).length=i:=by rw[List.length_take,kw];omega
 rw[List.set_append_right _ _ (by omega),hl,Nat.sub_self,List.drop_eq_getElem_cons hi,List.set_cons_zero,vt (l:=ir a b) (by rw[kw];omega),Fu a b i hi (by omega)]
 simp
def ta (s:List (BitVec 8)):List (BitVec 32):=ir (cH (eA s 12) 80) (eA s 12)
def dC (key nonce:List (BitVec 8))(n:BitVec 32):List (BitVec 8):=dv (ta (key++(aE n.toNat 4++nonce)))
theorem qX (key nonce:List (BitVec 8))(n:BitVec 32)(h1:key.length=32)(h2:nonce.length=12):am Tryz.prog 183 [.str key,.str nonce,.u32 n] (.tup [.str (dC key nonce n),.i64 0]):=by
 have h2':(nonce.length:Int)=12:=by omega
 have hlen:(key++(aE n.toNat 4++nonce)).length=48:=by rw[List.length_append,List.length_append,bL];omega
 have hal:=mC (key++(aE n.toNat 4++nonce)) 12 (by omega)
 have hsl:(cH (eA (key++(aE n.toNat 4++nonce)) 12) 80).length=16:=by rw[n9];exact hal
 unfold dC ta
 refine aw (by kernel_rfl) (fn:=Tryz.f183) (by kernel_rfl) Tryz.func183 rfl (by show 3≤42;decide) (by simp[ac,V.low]) (by simp[ac,V.low]) (ag ?_)
 simp only[go_sem,↓reduceIte,Nat.reduceEqDiff,Nat.reduceLT,Nat.reduceAdd,reduceCtorEq,Tryz.ntmps183]
 refine ak (qW _ _ _) ?_
 simp only[go_sem,↓reduceIte,Nat.reduceEqDiff,Nat.reduceLT,reduceCtorEq,h1,h2']
 refine aA [] (nJ (n.setWidth 64)) (by kernel_rfl) (by simp[-List.map_map,-List.map_set]) rfl (by simp[-List.map_map,-List.map_set]) (by first|decide|simp) (by simp[-List.map_map,-List.map_set]) (by simp[-List.map_map,-List.map_set]) (by simp[-List.map_map,-List.map_set]) (by simp[-List.map_map,-List.map_set]) (by simp) ?_
 simp only[go_sem,↓reduceIte,Nat.reduceEqDiff,Nat.reduceLT,Nat.reduceLeDiff,Nat.reduceAdd,Nat.reduceSub,tG,bL,List.take_of_length_le,h2]
 refine ak (vR _ _ hlen) ?_
 simp only[go_sem,↓reduceIte,Nat.reduceEqDiff,Nat.reduceLT,Nat.reduceAdd]
 generalize eA (key++(aE n.toNat 4++nonce)) 12=a at hal hsl ⊢
 have hm:min 16 16=16:=rfl
 have hml:=bd
 simp only[go_sem,↓reduceIte,Nat.reduceLT,Nat.reduceAdd,hal,bd,List.take_of_length_le]
 have hst:=uM a hal
 generalize cH a 80=s at hsl hst ⊢
 refine ak (hst) ?_
 simp only[go_sem,↓reduceIte,Nat.reduceEqDiff,Nat.reduceLT,Nat.reduceAdd,hsl,bd]
 refine aH (fun ji st=>∃ i:Nat,i+ji=16∧st=⟨[(9,.ptr 1 0),(10,.ptr 2 0),(28,.i64 i)],[some ⟨false,(aE n.toNat 4).map .u8,none⟩,some ⟨false,a.map .u32,none⟩,some ⟨false,(eY s a i).map .u32,none⟩]⟩) ?_ ?_
 ·exact aX (16) ⟨[(9,.ptr 1 0),(10,.ptr 2 0),(28,.i64 (0:Nat))],[some ⟨false,(aE n.toNat 4).map .u8,none⟩,some ⟨false,a.map .u32,none⟩,some ⟨false,(eY s a (0:Nat)).map .u32,none⟩]⟩ (by simp[St.get,ae,-List.map_set,-List.map_map]) rfl (fun _ _ h=>h) ⟨0,by omega,rfl⟩
 rintro ji st ⟨i,hi,rfl⟩ _
 simp only[go_sem,↓reduceIte,Nat.reduceEqDiff,Nat.reduceLT,Nat.reduceAdd,Int.reduceLE,Int.reduceToNat,Int.reduceSub]
 by_cases h0:i<16
 ·have h0':(i:Int)<16:=by omega
  have hadd:=uN s a i (by omega) (by omega)
  have hget:=Fv s a i (by omega) (by omega)
  have hset:=Fw s a i (by omega) (by omega)
  have hi1:i<a.length:=by omega
  have hi2:i<(eY s a i).length:=by omega
  simp only[go_sem,↓reduceIte,Nat.reduceEqDiff,Nat.reduceLT,Nat.reduceLeDiff,Nat.reduceAdd,h0',hadd,hal,hsl,h0,iQ hi1,iQ hi2,hget,hset]
  refine⟨by omega,by omega,by omega,by omega,by kernel_rfl,?_⟩
  refine aS (ji-1) ⟨[(9,.ptr 1 0),(10,.ptr 2 0),(28,.i64 (i+1:Nat))],[some ⟨false,(aE n.toNat 4).map .u8,none⟩,some ⟨false,a.map .u32,none⟩,some ⟨false,(eY s a (i+1:Nat)).map .u32,none⟩]⟩ (by omega) ?_ rfl (fun _ _ h=>h) ⟨i+1,by omega,rfl⟩
  have hw1:ai ((i:Int)+1)=((i+1:Nat):Int):=by rw[al (by omega) (by omega)];omega
  simp[St.get,ae,hw1,-List.map_set,-List.map_map]
 ·have h0':¬ (i:Int)<16:=by omega
  obtain rfl:i=16:=by omega
  have hadd:=uN s a 16 (by omega) (by omega)
  have hall:((eY s a 16).drop 0).take 16=ir s a:=by
   unfold eY
   rw[List.drop_zero,List.drop_of_length_le (by omega),List.append_nil,List.take_take,Nat.min_self,List.take_of_length_le (by rw[kw];omega)]
  have ht:=rD (eY s a 16) 0 16 (by omega) (by decide) (by omega)
  rw[hall] at ht
  simp only[go_sem,↓reduceIte,Int.reduceLT,hadd,hsl]
  refine aA [2] (ht) (by kernel_rfl) (by simp[-List.map_map,-List.map_set]) rfl (by simp[-List.map_map,-List.map_set]) (by first|decide|simp) (by simp[-List.map_map,-List.map_set]) (by simp[-List.map_map,-List.map_set]) (by simp[-List.map_map,-List.map_set]) (by simp[-List.map_map,-List.map_set]) (by simp) ?_
  simp only[go_sem,↓reduceIte,Nat.reduceLT,Nat.reduceAdd,Nat.reduceSub]
def pO (key nonce:List (BitVec 8)):List (BitVec 8):=
 let w:=cH (eA (key++nonce) 12) 80
 dv (w.take 4)++dv (w.drop 12)
theorem Fx (key nonce:List (BitVec 8))(h1:key.length=32)(h2:nonce.length=16):am Tryz.prog 168 [.str key,.str nonce] (.tup [.str (pO key nonce),.i64 0]):=by
 have h2':(nonce.length:Int)=16:=by omega
 have hlen:(key++nonce).length=48:=by rw[List.length_append];omega
 have hal:=mC (key++nonce) 12 (by omega)
 have hsl:(cH (eA (key++nonce) 12) 80).length=16:=by rw[n9];exact hal
 unfold pO
 refine aw (by kernel_rfl) (fn:=Tryz.f168) (by kernel_rfl) Tryz.func168 rfl (by show 2≤23;decide) (by simp[ac,V.low]) (by simp[ac,V.low]) (ag ?_)
 simp only[go_sem,↓reduceIte,Nat.reduceEqDiff,Nat.reduceLT,reduceCtorEq,Tryz.ntmps168]
 refine ak (qW _ _ _) ?_
 simp only[go_sem,↓reduceIte,Nat.reduceEqDiff,Nat.reduceLT,reduceCtorEq,h1,h2']
 refine ak (vR _ _ hlen) ?_
 simp only[go_sem,↓reduceIte,Nat.reduceLT]
 generalize eA (key++nonce) 12=a at hal hsl ⊢
 have hm:min 16 16=16:=rfl
 have hst:=uM a hal
 generalize cH a 80=s at hsl hst ⊢
 have hd0:(s.drop 0).take 4=s.take 4:=by rw[List.drop_zero]
 have hd12:(s.drop 12).take 4=s.drop 12:=List.take_of_length_le (by rw[List.length_drop];omega)
 have hb1:(dv (s.take 4)).length=16:=by rw[nM,List.length_take];omega
 have hb2:(dv (s.drop 12)).length=16:=by rw[nM,List.length_drop];omega
 refine ak (hst) ?_
 simp only[go_sem,↓reduceIte,Nat.reduceEqDiff,Nat.reduceLT,Nat.reduceAdd,Int.reduceLE,Int.reduceToNat,Int.reduceSub,hsl,bd]
 have ht0:=rD s 0 4 (by omega) (by decide) (by omega)
 have ht12:=rD s 12 4 (by omega) (by decide) (by omega)
 rw[hd0] at ht0
 rw[hd12] at ht12
 refine kl [0] (ht0) (by kernel_rfl) (by simp[-List.map_map,-List.map_set]) rfl (by simp[-List.map_map,-List.map_set]) (by decide) (by simp[-List.map_map,-List.map_set]) (by simp[-List.map_map,-List.map_set]) (by simp[-List.map_map,-List.map_set]) (by simp[-List.map_map,-List.map_set]) (by simp) (by first|(simp[cO,bR,au,cY,Blk.ren,-List.map_map,-List.map_set];done)|simp[go_sem,cO]) ?_
 simp only[go_sem,↓reduceIte,Nat.reduceEqDiff,Nat.reduceLT,Nat.reduceSub,Int.reduceLE,Int.reduceToNat,Int.reduceSub,hsl]
 refine kl [0] (ht12) (by kernel_rfl) (by simp[-List.map_map,-List.map_set]) rfl (by simp[-List.map_map,-List.map_set]) (by decide) (by simp[-List.map_map,-List.map_set]) (by simp[-List.map_map,-List.map_set]) (by simp[-List.map_map,-List.map_set]) (by simp[-List.map_map,-List.map_set]) (by simp) (by first|(simp[cO,bR,au,cY,Blk.ren,-List.map_map,-List.map_set];done)|simp[go_sem,cO]) ?_
 simp only[go_sem,↓reduceIte,Nat.reduceEqDiff,Nat.reduceLT,Nat.reduceLeDiff,Nat.reduceAdd,Nat.reduceSub,hb1,hb2]
 kernel_rfl
def aO (a b:List (BitVec 8)):List (BitVec 8):=List.zipWith (· ^^^ ·) a b
theorem eC (a b:List (BitVec 8)):(aO a b).length=min a.length b.length:=List.length_zipWith
theorem Fy (a b:List (BitVec 8))(i:Nat)(h1:i<a.length)(h2:i<b.length):(aO a b).getD i 0=a.getD i 0 ^^^ b.getD i 0:=by
 unfold aO
 rw[List.getD_eq_getElem?_getD,List.getD_eq_getElem?_getD,List.getD_eq_getElem?_getD,List.getElem?_zipWith,List.getElem?_eq_getElem h1,List.getElem?_eq_getElem h2];rfl
theorem xW (a s b:List (BitVec 8))(h:s.length≤a.length):aO a (s++b)=aO a s++aO (a.drop s.length) b:=by
 unfold aO
 calc List.zipWith (· ^^^ ·) a (s++b)=List.zipWith (· ^^^ ·) (a.take s.length++a.drop s.length) (s++b):=by rw[List.take_append_drop]
  _=List.zipWith (· ^^^ ·) (a.take s.length) s++List.zipWith (· ^^^ ·) (a.drop s.length) b:=List.zipWith_append (by rw[List.length_take];omega)
  _=_:=by
   congr 1
   apply List.ext_getElem?
   intro i
   rw[List.getElem?_zipWith,List.getElem?_zipWith]
   by_cases hi:i<s.length
   ·rw[List.getElem?_take_of_lt hi]
   ·rw[List.getElem?_eq_none (l:=s) (by omega)];split <;>simp_all
def fy (a b:List (BitVec 8))(i:Nat):List (BitVec 8):=(aO a b).take i++List.replicate ((aO a b).length-i) 0
theorem BS (a b:List (BitVec 8))(i:Nat)(h:i≤(aO a b).length):(fy a b i).length=(aO a b).length:=by
 unfold fy;rw[List.length_append,List.length_take,List.length_replicate];omega
theorem Fz (a b:List (BitVec 8))(i:Nat)(h:i<(aO a b).length):(fy a b i).set i (a.getD i 0 ^^^ b.getD i 0)=fy a b (i+1):=by
 have hl:=eC a b
 unfold fy
 have h2:((aO a b).take i).length=i:=by rw[List.length_take];omega
 rw[List.set_append_right _ _ (by omega),h2,Nat.sub_self,show(aO a b).length-i=((aO a b).length-(i+1))+1 by omega,List.replicate_succ,List.set_cons_zero,oJ h,Fy a b i (by omega) (by omega)]
 simp
theorem FA (a b:List (BitVec 8)):fy a b (aO a b).length=aO a b:=by
 unfold fy;rw[List.take_length,Nat.sub_self];simp
theorem oU (a b:List (BitVec 8))(ha:a.length≤4611686018427387904)(hb:b.length≤140737488351232):am Tryz.prog 184 [.str a,.str b] (.str (aO a b)):=by
 have hl:=eC a b
 generalize hn:(aO a b).length=n at hl
 have hmin:(if(b.length:Int)<(a.length:Int) then(b.length:Int) else(a.length:Int))=(n:Int):=by split <;>omega
 refine aw (by kernel_rfl) (fn:=Tryz.f184) (by kernel_rfl) Tryz.func184 rfl (by show 2≤31;decide) (by simp[ac,V.low]) (by simp[V.low]) (ag ?_)
 simp only[go_sem,↓reduceIte,Nat.reduceEqDiff,Nat.reduceLT,reduceCtorEq,Tryz.ntmps184,hmin]
 refine⟨⟨by omega,by omega,by omega⟩,?_⟩
 have hz0:ez [V.u8 0#8] n=(fy a b 0).map V.u8:=by
  have hr:∀ k,ez [V.u8 0#8] k=List.replicate k (V.u8 0#8):=fun k=>by
   induction k with
   |zero=>rfl
   |succ k ih=>rw[ez,ih];rfl
  unfold fy;rw[hn,hr];simp
 rw[hz0]
 refine aH (fun ji st=>∃ i:Nat,i+ji=n∧st=⟨[(0,.str a),(1,.str b),(5,.slice 0 0 n 1),(14,.i64 n),(15,.i64 i)],[some ⟨false,(fy a b i).map .u8,none⟩]⟩) ?_ ?_
 ·exact aX (n) ⟨[(0,.str a),(1,.str b),(5,.slice 0 0 n 1),(14,.i64 n),(15,.i64 (0:Nat))],[some ⟨false,(fy a b (0:Nat)).map .u8,none⟩]⟩ (by simp[St.get,ae,-List.map_set,-List.map_map]) rfl (fun _ _ h=>h) ⟨0,by omega,rfl⟩
 rintro ji st ⟨i,hi,rfl⟩ _
 simp only[go_sem,↓reduceIte,Nat.reduceEqDiff,Nat.reduceLT,reduceCtorEq]
 by_cases h0:i<n
 ·have h0':(i:Int)<(n:Int):=by omega
  have h1:i<b.length:=by omega
  have h1':(i:Int)<(b.length:Int):=by omega
  have h2:i<a.length:=by omega
  have h2':(i:Int)<(a.length:Int):=by omega
  have hz:(0:Int)≤(i:Int):=by omega
  have hxl:=BS a b i (by omega)
  rw[hn] at hxl
  have hset:=Fz a b i (by omega)
  simp only[go_sem,↓reduceIte,h0',h1',h2',hz,hxl,hset]
  refine⟨by omega,by kernel_rfl,?_⟩
  refine aS (ji-1) ⟨[(0,.str a),(1,.str b),(5,.slice 0 0 n 1),(14,.i64 n),(15,.i64 (i+1:Nat))],[some ⟨false,(fy a b (i+1:Nat)).map .u8,none⟩]⟩ (by omega) ?_ rfl (fun _ _ h=>h) ⟨i+1,by omega,rfl⟩
  have hw1:ai ((i:Int)+1)=((i+1:Nat):Int):=by rw[al (by omega) (by omega)];omega
  simp[St.get,ae,hw1,-List.map_set,-List.map_map]
 ·obtain rfl:i=n:=by omega
  have h0':¬ (i:Int)<(i:Int):=by omega
  have hall:fy a b i=aO a b:=by rw[←hn];exact FA a b
  simp only[go_sem,↓reduceIte,h0',hall,List.take_of_length_le,hn,Nat.le_refl,true_and]
theorem I1 (n:BitVec 32)(i:Nat):n+BitVec.ofNat 32 i+1#32=n+BitVec.ofNat 32 (i+1):=by
 apply BitVec.eq_of_toNat_eq
 simp[BitVec.toNat_add,BitVec.toNat_ofNat];omega
def fP (B:BitVec 32→List (BitVec 8))(n:BitVec 32):Nat→List (BitVec 8)
 |0=>[]
 |i+1=>fP B n i++B (n+BitVec.ofNat 32 i)
theorem mf (k c:List (BitVec 8))(n:BitVec 32)(h1:k.length=32)(h2:c.length=12):(dC k c n).length=64:=by
 unfold dC ta
 rw[nM,kw,n9,mC _ _ (by decide)];rfl
theorem uE (B:BitVec 32→List (BitVec 8))(hB:∀ m,(B m).length=64)(n:BitVec 32)(i:Nat):(fP B n i).length=64*i:=by
 induction i with
 |zero=>rfl
 |succ i ih=>rw[fP,List.length_append,ih,hB];omega
def xored (B:BitVec 32→List (BitVec 8))(n:BitVec 32)(t:List (BitVec 8)):List (BitVec 8):=aO t (fP B n ((t.length+63)/64))
theorem vu (k c:List (BitVec 8))(n:BitVec 32)(t:List (BitVec 8))(B:BitVec 32→List (BitVec 8))(hB:∀ m,(B m).length=64)(hBs:∀ m,am Tryz.prog 183 [.str k,.str c,.u32 m] (.tup [.str (B m),.i64 0]))(h1:k.length=32)(h2:c.length=12)(h:t.length≤2000):am Tryz.prog 170 [.str k,.str c,.u32 n,.str t] (.tup [.str (xored B n t),.i64 0]):=by
 have h2':(c.length:Int)=12:=by omega
 have h':¬ (2000:Int)<(t.length:Int):=by omega
 have hsl:=uE B hB n
 unfold xored
 refine aw (by kernel_rfl) (fn:=Tryz.f170) (by kernel_rfl) Tryz.func170 rfl (by show 4≤48;decide) (by simp[ac,V.low]) (by simp[ac,V.low]) (ag ?_)
 simp only[go_sem,seval,Tryz.ntmps170]
 refine ak (qW _ _ _) ?_
 simp only[go_sem,seval,h1,h2',h']
 refine aH (fun ji st=>∃ i:Nat,i+ji=(t.length+63)/64∧st=⟨[(0,.str k),(1,.str c),(2,.u32 (n+BitVec.ofNat 32 i)),(3,.str (t.drop (64*i))),(11,.str (aO t (fP B n i)))],[]⟩) ?_ ?_
 ·exact aX ((t.length+63)/64) ⟨[(0,.str k),(1,.str c),(2,.u32 (n+BitVec.ofNat 32 (0:Nat))),(3,.str (t.drop (64*(0:Nat)))),(11,.str (aO t (fP B n (0:Nat))))],[]⟩ (by simp[St.get,ae,-List.map_set,-List.map_map,fP,aO]) rfl (fun _ _ h=>h) ⟨0,by omega,rfl⟩
 rintro ji st ⟨i,hi,rfl⟩ _
 simp only[go_sem,seval]
 have hd:(t.drop (64*i)).length=t.length-64*i:=List.length_drop
 by_cases h0:64*i<t.length
 ·have hne:¬ t.drop (64*i)=[]:=fun e=>by rw[e] at hd;simp at hd;omega
  have hb:=hBs (n+BitVec.ofNat 32 i)
  have hbl:=hB (n+BitVec.ofNat 32 i)
  have hxs:=oU (t.drop (64*i)) (B (n+BitVec.ofNat 32 i)) (by omega) (by omega)
  have hap:aO t (fP B n i)++aO (t.drop (64*i)) (B (n+BitVec.ofNat 32 i))=aO t (fP B n (i+1)):=by
   rw[fP,xW _ _ _ (by rw[hsl];omega),hsl]
  have hxl:=eC (t.drop (64*i)) (B (n+BitVec.ofNat 32 i))
  rw[hbl,hd] at hxl
  have hdr:(t.drop (64*i)).drop (min (t.length-64*i) 64)=t.drop (64*(i+1)):=by
   rw[List.drop_drop]
   by_cases hh:64≤t.length-64*i
   ·rw[Nat.min_eq_right hh,Nat.mul_add]
   ·rw[Nat.min_eq_left (by omega),List.drop_of_length_le (by omega),List.drop_of_length_le (by omega)]
  have hll:(aO t (fP B n i)).length≤2000:=by rw[eC];omega
  simp only[go_sem,seval,hne]
  refine ak (hb) ?_
  simp only[go_sem,seval]
  have htk:(t.drop (64*i)).take (t.length-64*i)=t.drop (64*i):=List.take_of_length_le (by omega)
  refine ak (hxs) ?_
  simp only[go_sem,seval,hap,hxl,hd,htk,hdr]
  refine⟨by omega,⟨by omega,by omega⟩,?_⟩
  refine aS (ji-1) ⟨[(0,.str k),(1,.str c),(2,.u32 (n+BitVec.ofNat 32 (i+1:Nat))),(3,.str (t.drop (64*(i+1:Nat)))),(11,.str (aO t (fP B n (i+1:Nat))))],[]⟩ (by omega) ?_ rfl (fun _ _ h=>h) ⟨i+1,by omega,rfl⟩
  have hw1:ai ((i:Int)+1)=((i+1:Nat):Int):=by rw[al (by omega) (by omega)];omega
  simp[St.get,ae,-List.map_set,-List.map_map,I1]
 ·have he:t.drop (64*i)=[]:=List.drop_of_length_le (by omega)
  obtain rfl:i=(t.length+63)/64:=by omega
  simp only[go_sem,seval,he]
def i7 (w:List (BitVec 64)):Nat→List (BitVec 64)×BitVec 64
 |0=>(w,0#64)
 |k+1=>((i7 w k).1.set k (((i7 w k).1.getD k 0+(i7 w k).2)%8192#64),((i7 w k).1.getD k 0+(i7 w k).2)/8192#64)
def pass (w:List (BitVec 64)):List (BitVec 64):=(i7 w 10).1.set 0 ((i7 w 10).1.getD 0 0+5#64*(i7 w 10).2)
def Ra (a b w:List (BitVec 64))(i k:Nat):List (BitVec 64):=if i+k<10 then w.set (i+k) (w.getD (i+k) 0+a.getD i 0*b.getD k 0) else w.set (i+k-10) (w.getD (i+k-10) 0+5#64*a.getD i 0*b.getD k 0)
def rowM (a b w:List (BitVec 64))(i:Nat):Nat→List (BitVec 64)
 |0=>w
 |k+1=>Ra a b (rowM a b w i k) i k
end Go.Vm
end
