/- A part of the proof: laws of a small machine of values, or what one function answers, proved against the model; no conditions beyond those in each theorem. -/
import Derived.Test.YtgffdnniifmglaaGreatDoorChecked
import Derived.Test.YtgffdnniifmglaaGreatDoorRows
import Derived.Test.YtgffdnniifmglaaGreatDoorTypesToVmH1
import Derived.Test.YtgffdnniifmglaaGreatDoorVmTToTot2
import Derived.Test.YtgffdnniifmglaaGreatDoorVmZ2ToVmZ3
import Derived.Test.YtgffdnniifmglaaGreatDoorVmYToKh3
import Derived.Test.YtgffdnniifmglaaGreatDoorVmZToVmS
set_option linter.unusedVariables false
set_option linter.unusedSimpArgs false
set_option linter.unusedSectionVars false
set_option maxRecDepth 20000
set_option maxHeartbeats 8000000
section
namespace Go.Proofs.YtgffdnniifmglaaGreatDoor.head
open Go.Vm
def codes:List Nat:=[
 104,97,114,110,101,115,115,32,102,53,48,57,97,53,98,99,55,101,98,100,48,100,100,51,49,55,52,49,98,53,99,54,49,55,97,101,97,102,98,100,52,48,98,52,50,55,
 56,101,57,57,101,54,56,52,101,100,98,50,100,50,55,49,53,102,53,52,99,52,56,57,52,100,32,99,117,116,32,97,116,32,115,111,117,116,101,114,114,97,105,110,47,
 115,111,117,116,101,114,114,97,105,110,116,111,112,46,84,111,112,83,97,109,101]
theorem io:Tryz.prog.initOrder=String.ofList (codes.map Char.ofNat):=by kernel_rfl
theorem Q5:Tryz.prog.initOrder.toList=codes.map Char.ofNat:=by rw[io,String.toList_ofList]
def words:List (List Char):=behindMainWord (wordsSigns (codes.map Char.ofNat))
theorem Q6:words= "cut".toList::words.tail:=by kernel_rfl
theorem cut:behindMainWord (wordsSigns Tryz.prog.initOrder.toList)= "cut".toList::words.tail:=by rw[Q5];exact Q6
theorem later:Tryz.prog.laysLater=false:=by kernel_rfl
theorem bears:Tryz.prog.bearsReflect=false:=by kernel_rfl
theorem fits:Tryz.prog.doorFits []=true:=by kernel_rfl
theorem mayEnter:Tryz.prog.mayEnter=true:=BM cut later bears fits
theorem make:Tryz.prog.make=some .cut:=CL cut
theorem lifts:Tryz.prog.liftsFinal=false:=BL cut
theorem laidOut:laidOutB Tryz.prog=true:=by kernel_rfl
theorem rowed:mapsRowed Tryz.prog=true:=by kernel_rfl
theorem stops:(Tryz.prog.stops==[])=true:=by kernel_rfl
theorem knobs:(Tryz.prog.stopKnobs==[])=true:=by kernel_rfl
theorem plain:Tryz.prog.plainKeys=true:=by kernel_rfl
theorem heard:Tryz.prog.stopsHeard=true:=by kernel_rfl
theorem own:ownKnob Tryz.prog.godebug=none:=by kernel_rfl
theorem mixed:Tryz.prog.follows .mixedOrders=true:=by kernel_rfl
end Go.Proofs.YtgffdnniifmglaaGreatDoor.head
end
section
namespace Go.Vm
open Go.Proofs
theorem o8 (key:List af)(w:BitVec 8):∃ v,am Tryz.prog 45 [.str key,.u8 w] v∧∃ s:List af,s.length=64∧v= .str s:=by
 refine ct (by kernel_rfl) (by kernel_rfl) (fn:=Tryz.f45) Tryz.func45 rfl (by show 2≤22;decide) (by simp[ac,V.low]) (by rintro v ⟨s,-,rfl⟩;trivial) (ag ?_)
 simp only[go_sem,seval]
 generalize hcs:splice _ 0 _=cs
 have hcs:Alls V.u8 64 cs:=by
  rw[←hcs]
  exact Alls.splice (k:=min key.length 64) (Alls.rep 64 0#8) ⟨key.take (min key.length 64),by simp,rfl⟩ (by omega)
 refine aH (fun j st=>∃ (i:Nat) (cs:List V),i+j=64∧Alls V.u8 64 cs∧st=⟨[(1,.u8 w),(5,.ptr 0 0),(10,.i64 i)],[some ⟨false,cs,none⟩]⟩) ?_ ?_
 ·exact aX 64 ⟨[(1,.u8 w),(5,.ptr 0 0),(10,.i64 (0:Nat))],[some ⟨false,cs,none⟩]⟩ (by simp[St.get,ae]) rfl (fun _ _ h=>h) ⟨0,cs,by omega,hcs,rfl⟩
 rintro j st ⟨i,cs,hij,hcs,rfl⟩ _
 by_cases hi:i<64
 ·have hi':(i:Int)<64:=by omega
  have hw1:ai ((i:Int)+1)=((i+1:Nat):Int):=by rw[al (by omega) (by omega)];omega
  obtain⟨x,hx⟩:=hcs.get hi
  have hl:=hcs.len
  simp only[go_sem,seval,hi',hx]
  refine⟨by omega,by omega,by omega,by omega,?_⟩
  exact aS (j-1) ⟨[(1,.u8 w),(5,.ptr 0 0),(10,.i64 (i+1:Nat))],[some ⟨false,cs.set i (.u8 (x ^^^ w)),none⟩]⟩ (by omega) (by simp[St.get,ae,hw1]) rfl (fun _ _ h=>h) ⟨i+1,_,by omega,hcs.set i _,rfl⟩
 ·have hi':¬ (i:Int)<64:=by omega
  obtain⟨bs,hb,rfl⟩:=hcs
  simp only[go_sem,seval,hi']
  exact⟨by omega,by omega,_,by simp;omega,rfl⟩
end Go.Vm
end
section
namespace Go.Vm
theorem xV {α:Type}{p:List α→Prop}(h0:p [])(h1:∀ l a,p l→p (l++[a]))(l:List α):p l:=by
 have :∀ l:List α,p l.reverse:=by
  intro l
  induction l with
  |nil=>exact h0
  |cons a l ih=>rw[List.reverse_cons];exact h1 _ _ ih
 have h:=this l.reverse
 rwa [List.reverse_reverse] at h
theorem i6 (k:Nat):256^(k+1)=256*256^k:=by rw[Nat.pow_succ,Nat.mul_comm]
def be (s:List (BitVec 8)):Nat:=s.foldl (fun n b=>256*n+b.toNat) 0
def le:List (BitVec 8)→Nat
 |[]=>0
 |b::l=>b.toNat+256*le l
def bz (n:Nat):Nat→List (BitVec 8)
 |0=>[]
 |k+1=>bz (n/256) k++[BitVec.ofNat 8 n]
def aE (n:Nat):Nat→List (BitVec 8)
 |0=>[]
 |k+1=>BitVec.ofNat 8 n::aE (n/256) k
theorem yD (s:List (BitVec 8))(b:BitVec 8):be (s++[b])=256*be s+b.toNat:=by unfold be;rw[List.foldl_append];rfl
theorem Pb:be []=0:=rfl
theorem zy (s:List (BitVec 8)):be s<256^s.length:=by
 induction s using xV with
 |h0=>exact Nat.one_pos
 |h1 s b ih=>
  rw[yD,List.length_append,List.length_singleton,i6]
  have :=b.isLt
  omega
theorem nq (s:List (BitVec 8)):le s<256^s.length:=by
 induction s with
 |nil=>exact Nat.one_pos
 |cons b s ih=>
  rw[le,List.length_cons,i6]
  have :=b.isLt
  omega
theorem cn (n k:Nat):(bz n k).length=k:=by
 induction k generalizing n with
 |zero=>rfl
 |succ k ih=>rw[bz,List.length_append,ih];rfl
theorem bL (n k:Nat):(aE n k).length=k:=by
 induction k generalizing n with
 |zero=>rfl
 |succ k ih=>rw[aE,List.length_cons,ih]
theorem Pc (n k:Nat):le (aE n k)=n%256^k:=by
 induction k generalizing n with
 |zero=>simp[aE,le,Nat.mod_one]
 |succ k ih=>
  rw[aE,le,ih,BitVec.toNat_ofNat,i6,Nat.mod_mul]
theorem DS (m:Nat)(b:BitVec 8):BitVec.ofNat 8 (256*m+b.toNat)=b:=by
 apply BitVec.eq_of_toNat_eq
 have :=b.isLt
 rw[BitVec.toNat_ofNat]
 show(256*m+b.toNat)%256=_
 omega
theorem Pd (s:List (BitVec 8)):aE (le s) s.length=s:=by
 induction s with
 |nil=>rfl
 |cons b s ih=>
  have hb:=b.isLt
  rw[List.length_cons,aE,le,show(b.toNat+256*le s)/256=le s by omega,ih,show b.toNat+256*le s=256*le s+b.toNat by omega,DS]
theorem li (n k:Nat):aE (n%256^k) k=aE n k:=by
 have h:=Pd (aE n k)
 rw[Pc,bL] at h;exact h
theorem oJ {s:List (BitVec 8)}{i:Nat}(h:i<s.length):s.take (i+1)=s.take i++[s.getD i 0]:=by
 rw[List.take_succ_eq_append_getElem h,List.getD_eq_getElem?_getD,List.getElem?_eq_getElem h];rfl
theorem Mp {n:Nat}(h:n<72057594037927936)(b:BitVec 8):BitVec.ofNat 64 n<<<8|||b.setWidth 64=BitVec.ofNat 64 (256*n+b.toNat):=by
 apply BitVec.eq_of_toNat_eq
 have hb:=b.isLt
 rw[BitVec.toNat_or,BitVec.toNat_shiftLeft,BitVec.toNat_ofNat,BitVec.toNat_setWidth,BitVec.toNat_ofNat,Nat.mod_eq_of_lt (by omega :n<2^64),Nat.mod_eq_of_lt (by omega :b.toNat<2^64),Nat.mod_eq_of_lt (by omega :256*n+b.toNat<2^64),
  Nat.mod_eq_of_lt (by rw[Nat.shiftLeft_eq];omega),←Nat.shiftLeft_add_eq_or_of_lt (by omega :b.toNat<2^8),Nat.shiftLeft_eq]
 omega
end Go.Vm
end
section
namespace Go.Vm
open Go.Proofs
theorem k7 (s:List (BitVec 8))(h8:s.length≤8):am Tryz.prog 142 [.str s] (.u64 (BitVec.ofNat 64 (be s))):=by
 have h8':¬ (8:Int)<(s.length:Int):=by omega
 refine aw (by kernel_rfl) (fn:=Tryz.f142) (by kernel_rfl) Tryz.func142 rfl (by show 1≤20;decide) (by simp[ac,V.low]) (by simp[V.low]) (ag ?_)
 simp only[go_sem,seval,Tryz.ntmps142,h8']
 refine aH (fun j st=>∃ i:Nat,i+j=s.length∧st=⟨[(0,.str s),(3,.u64 (BitVec.ofNat 64 (be (s.take i)))),(7,.i64 s.length),(8,.i64 i)],[]⟩) ?_ ?_
 ·exact aX (s.length) ⟨[(0,.str s),(3,.u64 (BitVec.ofNat 64 (be (s.take (0:Nat))))),(7,.i64 s.length),(8,.i64 (0:Nat))],[]⟩ (by simp[St.get,ae,Pb]) rfl (fun _ _ h=>h) ⟨0,by omega,rfl⟩
 rintro j st ⟨i,hi,rfl⟩ _
 simp only[go_sem,seval]
 by_cases h0:i<s.length
 ·have h0':(i:Int)<(s.length:Int):=by omega
  have hl:=zy (s.take i)
  have hp:256^(s.take i).length≤256^7:=Nat.pow_le_pow_right (by omega) (by simp;omega)
  simp only[go_sem,seval,h0']
  refine⟨by omega,?_⟩
  refine aS (j-1) ⟨[(0,.str s),(3,.u64 (BitVec.ofNat 64 (be (s.take (i+1:Nat))))),(7,.i64 s.length),(8,.i64 (i+1:Nat))],[]⟩ (by omega) ?_ rfl (fun _ _ h=>h) ⟨i+1,by omega,rfl⟩
  have hw1:ai ((i:Int)+1)=((i+1:Nat):Int):=by rw[al (by omega) (by omega)];omega
  simp[St.get,ae,hw1,oJ h0,yD]
  exact(Mp (Nat.lt_of_lt_of_le hl hp) _).symm
 ·have h0':¬ (i:Int)<(s.length:Int):=by omega
  simp only[go_sem,seval,h0']
  rw[List.take_of_length_le (by omega)]
theorem Mq (s:List (BitVec 8))(b:BitVec 8):le (s++[b])=le s+256^s.length*b.toNat:=by
 induction s with
 |nil=>simp[le]
 |cons a s ih=>rw[List.cons_append,le,ih,le,List.length_cons,i6,Nat.mul_add,Nat.mul_assoc];omega
theorem Pe {n i:Nat}(h:n<256^i)(hi:i<8)(b:BitVec 8):BitVec.ofNat 64 n|||b.setWidth 64<<<(8*i)=BitVec.ofNat 64 (n+256^i*b.toNat):=by
 have hp:(256:Nat)^i=2^(8*i):=by rw[Nat.pow_mul]
 have h8:(256:Nat)^i*256≤256^8:=by
  have :(256:Nat)^(i+1)≤256^8:=Nat.pow_le_pow_right (by omega) (by omega)
  rwa [Nat.pow_succ] at this
 have hb:=b.isLt
 have hm:256^i*b.toNat≤256^i*255:=Nat.mul_le_mul_left _ (by omega)
 have hpos:0<(256:Nat)^i:=Nat.pow_pos (by omega)
 have e8:(256:Nat)^8=18446744073709551616:=by decide
 have e64:(2:Nat)^64=18446744073709551616:=by decide
 apply BitVec.eq_of_toNat_eq
 rw[BitVec.toNat_or,BitVec.toNat_shiftLeft,BitVec.toNat_ofNat,BitVec.toNat_setWidth,BitVec.toNat_ofNat,Nat.shiftLeft_eq,←hp]
 rw[Nat.mod_eq_of_lt (by omega :n<2^64),Nat.mod_eq_of_lt (by omega :b.toNat<2^64),Nat.mul_comm b.toNat,Nat.mod_eq_of_lt (by omega :256^i*b.toNat<2^64),Nat.mod_eq_of_lt (by omega :n+256^i*b.toNat<2^64)]
 rw[Nat.or_comm,hp,←Nat.two_pow_add_eq_or_of_lt (by rw[←hp];exact h),Nat.add_comm]
theorem dF (s:List (BitVec 8))(hs:s.length≤4611686018427387904):am Tryz.prog 99 [.str s] (.u64 (BitVec.ofNat 64 (le (s.take 8)))):=by
 obtain⟨N,hN,hN8,hNs,hif⟩:∃ N:Nat,(N=if 8<s.length then 8 else s.length)∧N≤8∧N≤s.length∧(if(8:Int)<(s.length:Int) then(8:Int) else(s.length:Int))=(N:Int):=by
  by_cases h:8<s.length
  ·exact⟨8,by rw[if_pos h],by omega,by omega,by rw[if_pos (by omega)];rfl⟩
  ·exact⟨s.length,by rw[if_neg h],by omega,by omega,by rw[if_neg (by omega)]⟩
 have ht:s.take 8=s.take N:=by
  by_cases h:8<s.length
  ·rw[if_pos h] at hN;rw[hN]
  ·rw[if_neg h] at hN;rw[hN,List.take_of_length_le (by omega),List.take_of_length_le (by omega)]
 rw[ht]
 refine aw (by kernel_rfl) (fn:=Tryz.f99) (by kernel_rfl) Tryz.func99 rfl (by show 1≤22;decide) (by simp[ac,V.low]) (by simp[V.low]) (ag ?_)
 simp only[go_sem,seval,Tryz.ntmps99,hif]
 refine aH (fun j st=>∃ i:Nat,i+j=N∧st=⟨[(0,.str s),(3,.u64 (BitVec.ofNat 64 (le (s.take i)))),(7,.i64 N),(8,.i64 i)],[]⟩) ?_ ?_
 ·exact aX (N) ⟨[(0,.str s),(3,.u64 (BitVec.ofNat 64 (le (s.take (0:Nat))))),(7,.i64 N),(8,.i64 (0:Nat))],[]⟩ (by simp[St.get,ae,le]) rfl (fun _ _ h=>h) ⟨0,by omega,rfl⟩
 rintro j st ⟨i,hi,rfl⟩ _
 simp only[go_sem,seval]
 by_cases h0:i<N
 ·have h0':(i:Int)<(N:Int):=by omega
  have h1':(i:Int)<(s.length:Int):=by omega
  have hi8:i<s.length:=by omega
  have hw8:ai (8*(i:Int))=((8*i:Nat):Int):=by rw[al (by omega) (by omega)];omega
  have hl:=nq (s.take i)
  have htl:(s.take i).length=i:=by simp;omega
  rw[htl] at hl
  simp only[go_sem,seval,h0',h1',hw8]
  refine⟨by omega,by omega,?_⟩
  refine aS (j-1) ⟨[(0,.str s),(3,.u64 (BitVec.ofNat 64 (le (s.take (i+1:Nat))))),(7,.i64 N),(8,.i64 (i+1:Nat))],[]⟩ (by omega) ?_ rfl (fun _ _ h=>h) ⟨i+1,by omega,rfl⟩
  have hw1:ai ((i:Int)+1)=((i+1:Nat):Int):=by rw[al (by omega) (by omega)];omega
  simp[St.get,ae,hw1,oJ hi8,Mq,htl]
  have :=Pe hl (by omega) (s.getD i 0)
  rw[List.getD_eq_getElem?_getD] at this
  exact this.symm
 ·have h0':¬ (i:Int)<(N:Int):=by omega
  simp only[go_sem,seval,h0']
  rw[show i=N by omega]
theorem pw (n:BitVec 64)(k:Nat):(n>>>k).setWidth 8=BitVec.ofNat 8 (n.toNat/2^k):=by
 apply BitVec.eq_of_toNat_eq
 rw[BitVec.toNat_setWidth,BitVec.toNat_ushiftRight,BitVec.toNat_ofNat,Nat.shiftRight_eq_div_pow]
theorem zO (n:BitVec 64):bz n.toNat 8=[(n>>>56).setWidth 8,(n>>>48).setWidth 8,(n>>>40).setWidth 8,(n>>>32).setWidth 8,(n>>>24).setWidth 8,(n>>>16).setWidth 8,(n>>>8).setWidth 8,(n>>>0).setWidth 8]:=by
 simp only[pw,bz,Nat.div_div_eq_div_mul,List.nil_append,List.cons_append,seval,Nat.reducePow,Nat.div_one]
theorem tV (n:BitVec 64):bz n.toNat 4=[(n>>>24).setWidth 8,(n>>>16).setWidth 8,(n>>>8).setWidth 8,(n>>>0).setWidth 8]:=by
 simp only[pw,bz,Nat.div_div_eq_div_mul,List.nil_append,List.cons_append,seval,Nat.reducePow,Nat.div_one]
theorem zP (n:BitVec 64):aE n.toNat 8=[(n>>>0).setWidth 8,(n>>>8).setWidth 8,(n>>>16).setWidth 8,(n>>>24).setWidth 8,(n>>>32).setWidth 8,(n>>>40).setWidth 8,(n>>>48).setWidth 8,(n>>>56).setWidth 8]:=by
 simp only[pw,aE,Nat.div_div_eq_div_mul,seval,Nat.reducePow,Nat.div_one]
theorem zQ (n:BitVec 64):aE n.toNat 4=[(n>>>0).setWidth 8,(n>>>8).setWidth 8,(n>>>16).setWidth 8,(n>>>24).setWidth 8]:=by
 simp only[pw,aE,Nat.div_div_eq_div_mul,seval,Nat.reducePow,Nat.div_one]
theorem ku (n:BitVec 64):ao Tryz.prog 37 [.nilSlice,.u64 n,.i64 8] [] (.slice 0 0 8 1) [some ⟨false,(bz n.toNat 8).map .u8,none⟩]:=by
 rw[zO]
 refine aR (by kernel_rfl) (fn:=Tryz.f37) Tryz.func37 rfl (by show 3≤25;decide) (ag ?_)
 simp only[go_sem,seval,Tryz.ntmps37]
 refine bI 9 ?_
 simp only[go_sem,seval]
 exact Fin.ren [15] (by simp) (by simp) (by rfl) (by decide) (by simp) (by simp)
theorem nP (bs:List (BitVec 8))(n:BitVec 64)(hb:bs.length≤140737488351232):ao Tryz.prog 37 [.slice 0 0 bs.length 1,.u64 n,.i64 8] [some ⟨false,bs.map .u8,none⟩] (.slice 1 0 (bs.length+8) 1) [none,some ⟨false,(bs++bz n.toNat 8).map .u8,none⟩]:=by
 rw[zO]
 refine aR (by kernel_rfl) (fn:=Tryz.f37) Tryz.func37 rfl (by show 3≤25;decide) (ag ?_)
 simp only[go_sem,seval,Tryz.ntmps37]
 refine bI 9 ?_
 simp only[go_sem,seval,List.take_of_length_le]
 refine⟨by omega,by omega,by omega,by omega,by omega,by omega,by omega,by omega,?_⟩
 exact Fin.ren [0,16] (by simp) (by simp) (by rfl) (by decide) (by simp) (by simp)
theorem vo (n:BitVec 64):ao Tryz.prog 37 [.nilSlice,.u64 n,.i64 4] [] (.slice 0 0 4 1) [some ⟨false,(bz n.toNat 4).map .u8,none⟩]:=by
 rw[tV]
 refine aR (by kernel_rfl) (fn:=Tryz.f37) Tryz.func37 rfl (by show 3≤25;decide) (ag ?_)
 simp only[go_sem,seval,Tryz.ntmps37]
 refine bI 5 ?_
 simp only[go_sem,seval]
 exact Fin.ren [7] (by simp) (by simp) (by rfl) (by decide) (by simp) (by simp)
theorem nQ (bs:List (BitVec 8))(n:BitVec 64)(hb:bs.length≤140737488351232):ao Tryz.prog 37 [.slice 0 0 bs.length 1,.u64 n,.i64 4] [some ⟨false,bs.map .u8,none⟩] (.slice 1 0 (bs.length+4) 1) [none,some ⟨false,(bs++bz n.toNat 4).map .u8,none⟩]:=by
 rw[tV]
 refine aR (by kernel_rfl) (fn:=Tryz.f37) Tryz.func37 rfl (by show 3≤25;decide) (ag ?_)
 simp only[go_sem,seval,Tryz.ntmps37]
 refine bI 5 ?_
 simp only[go_sem,seval,List.take_of_length_le]
 refine⟨by omega,by omega,by omega,by omega,?_⟩
 exact Fin.ren [0,8] (by simp) (by simp) (by rfl) (by decide) (by simp) (by simp)
theorem nJ (n:BitVec 64):ao Tryz.prog 57 [.nilSlice,.u64 n,.i64 4] [] (.slice 0 0 4 1) [some ⟨false,(aE n.toNat 4).map .u8,none⟩]:=by
 rw[zQ]
 refine aR (by kernel_rfl) (fn:=Tryz.f57) Tryz.func57 rfl (by show 3≤22;decide) (ag ?_)
 simp only[go_sem,seval,Tryz.ntmps57]
 refine bI 5 ?_
 simp only[go_sem,seval]
 exact Fin.ren [7] (by simp) (by simp) (by rfl) (by decide) (by simp) (by simp)
theorem pV (bs:List (BitVec 8))(n:BitVec 64)(hb:bs.length≤140737488351232):ao Tryz.prog 57 [.slice 0 0 bs.length 1,.u64 n,.i64 4] [some ⟨false,bs.map .u8,none⟩] (.slice 1 0 (bs.length+4) 1) [none,some ⟨false,(bs++aE n.toNat 4).map .u8,none⟩]:=by
 rw[zQ]
 refine aR (by kernel_rfl) (fn:=Tryz.f57) Tryz.func57 rfl (by show 3≤22;decide) (ag ?_)
 simp only[go_sem,seval,Tryz.ntmps57]
 refine bI 5 ?_
 simp only[go_sem,seval,List.take_of_length_le]
 refine⟨by omega,by omega,by omega,by omega,?_⟩
 exact Fin.ren [0,8] (by simp) (by simp) (by rfl) (by decide) (by simp) (by simp)
theorem pY (n:BitVec 64):ao Tryz.prog 57 [.nilSlice,.u64 n,.i64 8] [] (.slice 0 0 8 1) [some ⟨false,(aE n.toNat 8).map .u8,none⟩]:=by
 rw[zP]
 refine aR (by kernel_rfl) (fn:=Tryz.f57) Tryz.func57 rfl (by show 3≤22;decide) (ag ?_)
 simp only[go_sem,seval,Tryz.ntmps57]
 refine bI 9 ?_
 simp only[go_sem,seval]
 exact Fin.ren [15] (by simp) (by simp) (by rfl) (by decide) (by simp) (by simp)
theorem js (bs:List (BitVec 8))(n:BitVec 64)(hb:bs.length≤140737488351232):ao Tryz.prog 57 [.slice 0 0 bs.length 1,.u64 n,.i64 8] [some ⟨false,bs.map .u8,none⟩] (.slice 1 0 (bs.length+8) 1) [none,some ⟨false,(bs++aE n.toNat 8).map .u8,none⟩]:=by
 rw[zP]
 refine aR (by kernel_rfl) (fn:=Tryz.f57) Tryz.func57 rfl (by show 3≤22;decide) (ag ?_)
 simp only[go_sem,seval,Tryz.ntmps57]
 refine bI 9 ?_
 simp only[go_sem,seval,List.take_of_length_le]
 refine⟨by omega,by omega,by omega,by omega,by omega,by omega,by omega,by omega,?_⟩
 exact Fin.ren [0,16] (by simp) (by simp) (by rfl) (by decide) (by simp) (by simp)
def nE (x:BitVec 32)(k:Nat):BitVec 32:=x<<<k|||x>>>(32-k)
theorem Mr (n:Int):(BitVec.ofInt 64 n&&&31#64).toNat=(n%32).toNat:=by
 rw[BitVec.toNat_and,BitVec.toNat_ofInt,show(31#64).toNat=2^5-1 from rfl,Nat.and_two_pow_sub_one_eq_mod]
 omega
theorem gZ (x:BitVec 32)(n:Int):am Tryz.prog 162 [.u32 x,.i64 n] (.u32 (nE x (n%32).toNat)):=by
 have e:=Mr n
 have e2:(32#64-(BitVec.ofInt 64 n&&&31#64)).toNat=32-(n%32).toNat:=by
  rw[BitVec.toNat_sub,e]
  have :(32#64).toNat=32:=rfl
  rw[this];omega
 refine aw (by kernel_rfl) (fn:=Tryz.f162) (by kernel_rfl) Tryz.func162 rfl (by show 2≤17;decide) (by simp[ac,V.low]) (by simp[V.low]) (ag ?_)
 simp only[go_sem,seval,Tryz.ntmps162,Tryz.results162,e,e2]
 rfl
def oT (a b c d:BitVec 32):List (BitVec 32):=
 let a1:=a+b;let d1:=nE (d ^^^ a1) 16
 let c1:=c+d1;let b1:=nE (b ^^^ c1) 12
 let a2:=a1+b1;let d2:=nE (d1 ^^^ a2) 8
 let c2:=c1+d2;let b2:=nE (b1 ^^^ c2) 7
 [a2,b2,c2,d2]
theorem BN (a b c d:BitVec 32):am Tryz.prog 192 [.u32 a,.u32 b,.u32 c,.u32 d] (.tup ((oT a b c d).map .u32)):=by
 refine aw (by kernel_rfl) (fn:=Tryz.f192) (by kernel_rfl) Tryz.func192 rfl (by show 4≤43;decide) (by simp[ac,V.low]) (by simp[oT,ac,V.low]) (ag ?_)
 simp only[go_sem,seval,Tryz.ntmps192]
 refine bI 3 ?_
 simp only[go_sem,seval]
 refine ak (gZ _ _) ?_
 simp only[go_sem,seval,Int.reduceMod]
 refine ak (gZ _ _) ?_
 simp only[go_sem,seval,Int.reduceMod]
 refine ak (gZ _ _) ?_
 simp only[go_sem,seval,Int.reduceMod]
 refine ak (gZ _ _) ?_
 simp only[go_sem,seval,Int.reduceMod]
 rfl
def i9 (w:List (BitVec 32))(a b c d:Nat):List (BitVec 32):=
 let q:=oT (w.getD a 0) (w.getD b 0) (w.getD c 0) (w.getD d 0)
 (((w.set a (q.getD 0 0)).set b (q.getD 1 0)).set c (q.getD 2 0)).set d (q.getD 3 0)
theorem BO (w:List (BitVec 32))(a b c d:Nat):(i9 w a b c d).length=w.length:=by simp[i9]
def ma (i r:Nat):Nat:=4*r+(i%4+r*(i/4%2))%4
def cH (w:List (BitVec 32)):Nat→List (BitVec 32)
 |0=>w
 |i+1=>i9 (cH w i) (ma i 0) (ma i 1) (ma i 2) (ma i 3)
theorem n9 (w:List (BitVec 32))(i:Nat):(cH w i).length=w.length:=by
 induction i with
 |zero=>rfl
 |succ i ih=>rw[cH,BO,ih]
theorem wU (w:List (BitVec 32))(hw:w.length=16)(a b c d:Nat)(ha:a<16)(hb:b<16)(hc:c<16)(hd:d<16):
  ao Tryz.prog 191 [.i64 a,.i64 b,.i64 c,.i64 d,.ptr 0 0] [some ⟨false,w.map .u32,none⟩] (.tup []) [some ⟨false,(i9 w a b c d).map .u32,none⟩]:=by
 have ha':(a:Int)<16:=by omega
 have hb':(b:Int)<16:=by omega
 have hc':(c:Int)<16:=by omega
 have hd':(d:Int)<16:=by omega
 have za:(0:Int)≤a:=by omega
 have zb:(0:Int)≤b:=by omega
 have zc:(0:Int)≤c:=by omega
 have zd:(0:Int)≤d:=by omega
 refine aR (by kernel_rfl) (fn:=Tryz.f191) Tryz.func191 rfl (by show 5≤35;decide) (ag ?_)
 simp only[go_sem,seval,Tryz.ntmps191,ha',hb',hc',hd',za,zb,zc,zd,hw,ha,hb,hc,hd,iQ (hw▸ha),iQ (hw▸hb),iQ (hw▸hc),iQ (hw▸hd)]
 have hq:∃ x y z t,oT (w.getD a 0) (w.getD b 0) (w.getD c 0) (w.getD d 0)=[x,y,z,t]:=⟨_,_,_,_,rfl⟩
 obtain⟨x,y,z,t,hq⟩:=hq
 have hqs:=BN (w.getD a 0) (w.getD b 0) (w.getD c 0) (w.getD d 0)
 rw[hq] at hqs
 have hst:i9 w a b c d=(((w.set a x).set b y).set c z).set d t:=by unfold i9;rw[hq];rfl
 rw[hst]
 refine aC (hqs) ?_
 simp only[go_sem,seval,ha',hb',hc',hd',za,zb,zc,zd,hw]
 refine⟨by omega,by omega,by omega,by omega,by kernel_rfl,?_⟩
 exact Fin.ren [0] (by simp) (by simp) (by rfl) (by decide) (by simp[-List.map_map,-List.map_set]) (by simp[-List.map_map,-List.map_set])
theorem Ms:am Tryz.prog 101 [] (.agg [.u32 1779033703#32,.u32 3144134277#32,.u32 1013904242#32,.u32 2773480762#32,.u32 1359893119#32,.u32 2600822924#32,.u32 528734635#32,.u32 1541459225#32]):=by
 refine aw (by kernel_rfl) (fn:=Tryz.f101) (by kernel_rfl) Tryz.func101 rfl (by show 0≤2;decide) (by simp[ac]) (by simp[ac,V.low]) (ag ?_)
 simp only[go_sem,seval,Tryz.ntmps101,Tryz.results101]
theorem Mt (a b c d:Nat)(x y:BitVec 32)(ws:List (BitVec 32))(hl:ws.length=16)(ha:a<16)(hb:b<16)(hc:c<16)(hd:d<16):
  ∃ v h',ao Tryz.prog 144 [.ptr 0 0,.agg [.i64 a,.i64 b,.i64 c,.i64 d],.u32 x,.u32 y] [some ⟨false,ws.map .u32,none⟩] v h'∧v= .tup []∧∃ ws':List (BitVec 32),ws'.length=16∧h'=[some ⟨false,ws'.map .u32,none⟩]:=by
 refine cb (Post:=fun v h'=>v= .tup []∧∃ ws':List (BitVec 32),ws'.length=16∧h'=[some ⟨false,ws'.map .u32,none⟩]) (by kernel_rfl) (fn:=Tryz.f144) Tryz.func144 rfl (by show 4≤108;decide) (ag ?_)
 simp only[go_sem,seval,dg V.u32 0#32,fk,List.length_map,List.length_set,hl,ha,hb,hd]
 refine⟨by omega,by omega,by omega,by omega,by kernel_rfl,by omega,by kernel_rfl,?_⟩
 generalize hw1:List.set ws a _=w1
 have hl1:w1.length=16:=by rw[←hw1];simp[hl]
 refine aC (gZ _ _) ?_
 simp only[go_sem,seval,dg V.u32 0#32,fk,List.length_map,List.length_set,hb,hc,hd,hl1]
 refine⟨by omega,by kernel_rfl,by omega,by kernel_rfl,?_⟩
 generalize hw2:List.set (List.set w1 d _) c _=w2
 have hl2:w2.length=16:=by rw[←hw2];simp[hl1]
 refine aC (gZ _ _) ?_
 simp only[go_sem,seval,dg V.u32 0#32,fk,List.length_map,List.length_set,ha,hb,hd,hl2]
 refine⟨by omega,by kernel_rfl,by omega,by kernel_rfl,?_⟩
 generalize hw3:List.set (List.set w2 b _) a _=w3
 have hl3:w3.length=16:=by rw[←hw3];simp[hl2]
 refine aC (gZ _ _) ?_
 simp only[go_sem,seval,dg V.u32 0#32,fk,List.length_map,List.length_set,hb,hc,hd,hl3]
 refine⟨by omega,by kernel_rfl,by omega,by kernel_rfl,?_⟩
 generalize hw4:List.set (List.set w3 d _) c _=w4
 have hl4:w4.length=16:=by rw[←hw4];simp[hl3]
 refine aC (gZ _ _) ?_
 simp only[go_sem,seval,fk,List.length_map,hl4]
 repeat refine aJ ?_
 refine⟨_,_,?_,Fin.take 1 (by simp) (by simp) (by simp[cN,ac,V.low,-List.map_take,-List.map_drop,-List.map_map,-List.map_set]) (by simp[aF,-List.map_take,-List.map_drop,-List.map_map,-List.map_set])⟩
 exact⟨rfl,_,by rw[List.length_set];exact hl4,rfl⟩
def Sq:V→BitVec 8
 | .u8 x=>x
 |_=>0#8
def s8 (cs:List V)(n k:Nat):Bool:=(List.range n).all fun i=>match cs.getD i .junk with
 | .u8 x=>decide (x.toNat<k)
 |_=>false
theorem vP {cs:List V}{n k:Nat}(h:s8 cs n k=true)(i:Nat)(hi:i<n):∃ x:BitVec 8,cs.getD i .junk= .u8 x∧x.toNat<k:=by
 unfold s8 at h
 rw[List.all_eq_true] at h
 have :=h i (List.mem_range.2 hi)
 split at this
 ·rename_i x hx
  exact⟨x,hx,of_decide_eq_true this⟩
 ·cases this
theorem CM {cs:List V}{n k:Nat}(hl:cs.length=n)(h:s8 cs n k=true):Alls V.u8 n cs:=by
 refine⟨cs.map Sq,by simpa using hl,List.ext_getElem (by simp) fun i h1 h2=>?_⟩
 obtain⟨x,hx,-⟩:=vP h i (by omega)
 rw[List.getD_eq_getElem?_getD,List.getElem?_eq_getElem h1] at hx
 have hx:cs[i]= .u8 x:=hx
 rw[List.getElem_map,List.getElem_map,hx];rfl
theorem Fj:∃ v,am Tryz.prog 143 [] v∧∃ cs,v= .agg cs∧Alls V.u8 160 cs∧∀ i,i<160→∃ x:BitVec 8,cs.getD i .junk= .u8 x∧x.toNat<16:=by
 refine ct (Post:=fun v=>∃ cs,v= .agg cs∧Alls V.u8 160 cs∧∀ i,i<160→∃ x:BitVec 8,cs.getD i .junk= .u8 x∧x.toNat<16) (by kernel_rfl) (by kernel_rfl) (fn:=Tryz.f143) Tryz.func143 rfl (by show 0≤12;decide) trivial (by
  rintro v ⟨cs,rfl,h,-⟩
  exact h.low fun _=>trivial) (ag ?_)
 simp -implicitDefEqProofs only[go_sem,↓reduceIte,Nat.reduceEqDiff,Nat.reduceLT,Nat.reduceLeDiff,Nat.reduceAdd,Nat.reduceSub,Nat.reduceMul,Int.reduceLE,Int.reduceLT,BitVec.reduceOfInt,reduceCtorEq]
 exact⟨fun x hx=>by simp at hx,_,rfl,CM (k:=16) (by kernel_rfl) (by kernel_rfl),vP (by kernel_rfl)⟩
theorem zh:∃ v,am Tryz.prog 101 [] v∧∃ hs:List (BitVec 32),hs.length=8∧v= .agg (hs.map .u32):=⟨_,Ms,[_,_,_,_,_,_,_,_],rfl,rfl⟩
theorem DT:∃ v,am Tryz.prog 143 [] v∧∃ ls:List (BitVec 8),ls.length=160∧v= .agg (ls.map .u8)∧∀ i,i<160→(ls.getD i 0#8).toNat<16:=by
 obtain⟨v,hf,cs,rfl,⟨ls,hl,rfl⟩,h2⟩:=Fj
 refine⟨_,hf,ls,hl,rfl,fun i hi=>?_⟩
 obtain⟨x,h3,h4⟩:=h2 i hi
 rw[dg V.u8 0#8,if_pos (by omega)] at h3
 rw[V.u8.inj h3];exact h4
def plc:List V:=[.i64 0,.i64 4,.i64 8,.i64 12,.i64 1,.i64 5,.i64 9,.i64 13,.i64 2,.i64 6,.i64 10,.i64 14,.i64 3,.i64 7,.i64 11,.i64 15,.i64 0,.i64 5,.i64 10,.i64 15,.i64 1,.i64 6,.i64 11,.i64 12,.i64 2,.i64 7,.i64 8,.i64 13,.i64 3,.i64 4,.i64 9,.i64 14]
theorem Pf:[V.i64 0,V.i64 4,V.i64 8,V.i64 12,V.i64 1,V.i64 5,V.i64 9,V.i64 13,V.i64 2,V.i64 6,V.i64 10,V.i64 14,V.i64 3,V.i64 7,V.i64 11,V.i64 15,V.i64 0,V.i64 5,V.i64 10,V.i64 15,V.i64 1,V.i64 6,V.i64 11,V.i64 12,V.i64 2,V.i64 7,V.i64 8,V.i64 13,V.i64 3,V.i64 4,V.i64 9,V.i64 14]=plc:=rfl
theorem lj (N:Nat):ac N plc=True:=by unfold plc;simp[ac,V.low]
theorem yE:plc.take 32=plc:=rfl
theorem Pg (i:Nat)(h:i<8):∃ a b c d:Nat,a<16∧b<16∧c<16∧d<16∧(plc.drop (i*4)).take 4=[.i64 a,.i64 b,.i64 c,.i64 d]:=by
 match i,h with
 |0,_=>exact⟨0,4,8,12,by decide,by decide,by decide,by decide,rfl⟩
 |1,_=>exact⟨1,5,9,13,by decide,by decide,by decide,by decide,rfl⟩
 |2,_=>exact⟨2,6,10,14,by decide,by decide,by decide,by decide,rfl⟩
 |3,_=>exact⟨3,7,11,15,by decide,by decide,by decide,by decide,rfl⟩
 |4,_=>exact⟨0,5,10,15,by decide,by decide,by decide,by decide,rfl⟩
 |5,_=>exact⟨1,6,11,12,by decide,by decide,by decide,by decide,rfl⟩
 |6,_=>exact⟨2,7,8,13,by decide,by decide,by decide,by decide,rfl⟩
 |7,_=>exact⟨3,4,9,14,by decide,by decide,by decide,by decide,rfl⟩
theorem zz {ls:List (BitVec 8)}(h2:∀ i,i<160→(ls.getD i 0#8).toNat<16){k i:Nat}(hk:k<10)(hi:i<16):(((ls.drop (k*16)).take 16).getD i 0#8).toNat<16:=by
 rw[List.getD_eq_getElem?_getD,List.getElem?_take_of_lt hi,List.getElem?_drop,←List.getD_eq_getElem?_getD]
 exact h2 _ (by omega)
theorem wV (hs0:List (BitVec 32))(hl:hs0.length=8)(b:List af)(hb:b.length=64)(many:BitVec 64)(last:Bool):∃ v,am Tryz.prog 102 [.agg (hs0.map .u32),.str b,.u64 many,.bool last] v∧∃ hs':List (BitVec 32),v= .agg (hs'.map .u32)∧hs'.length=8:=by
 refine ct (Post:=fun v=>∃ hs':List (BitVec 32),v= .agg (hs'.map .u32)∧hs'.length=8) (by kernel_rfl) (by kernel_rfl) (fn:=Tryz.f102) Tryz.func102 rfl (by show 4≤112;decide) (by simp[ac,V.low]) (fun v h=>by first|(obtain⟨s,rfl,h⟩:=h;simp[V.low])|(obtain⟨s,h,rfl⟩:=h;simp[ac,V.low])) (ag ?_)
 simp -implicitDefEqProofs only[go_sem,↓reduceIte,Nat.reduceEqDiff,Nat.reduceLT,Nat.reduceLeDiff,Nat.reduceAdd,Int.reduceLE,Int.reduceToNat,Int.reduceSub,List.length_map,hl,↓zg,↓np,List.length_replicate,List.length_take,←List.map_take,qO,Nat.min_self,Nat.zero_add]
 repeat refine aJ ?_
 refine bh (zh) ?_
 rintro _ ⟨vs,hvs,rfl⟩
 simp -implicitDefEqProofs only[go_sem,↓reduceIte,Nat.reduceEqDiff,Nat.reduceLT,Nat.reduceLeDiff,Nat.reduceAdd,Int.reduceLE,Int.reduceLT,Int.reduceToNat,Int.reduceSub,BitVec.reduceOfInt,BitVec.reduceToNat,reduceCtorEq,↓zg,↓np,qO,List.length_replicate,hl,hvs,List.length_map,List.length_take,←List.map_take,Nat.min_self,Nat.zero_add,dg V.u32 0#32,fk,DP]
 repeat refine aJ ?_
 refine Nv fun s hs=>?_
 obtain⟨t,w,hw,rfl,h1,h4,h8,h9,h11,h44⟩:∃ (t:List (Nat×V)) (w:List (BitVec 32)),w.length=16∧s=⟨t,[some ⟨false,hs0.map .u32,none⟩,some ⟨false,(List.replicate 8 0#32).map .u32,none⟩,some ⟨false,w.map .u32,none⟩,some ⟨false,(gU (List.replicate 8 0#32) 0 vs).map .u32,none⟩,some ⟨false,(List.replicate 16 0#32).map .u32,none⟩]⟩∧ae t 1= .str b∧ae t 4= .ptr 0 0∧ae t 8= .ptr 1 0∧ae t 9= .ptr 2 0∧ae t 11= .ptr 4 0∧ae t 44= .i64 (0:Nat):=by
  rcases hs with rfl|rfl
  ·exact⟨_,_,by simp only[List.length_set,sK,List.length_take,List.length_replicate,hl,hvs];rfl,rfl,rfl,rfl,rfl,rfl,rfl,rfl⟩
  ·exact⟨_,_,by simp only[List.length_set,sK,List.length_take,List.length_replicate,hl,hvs];rfl,rfl,rfl,rfl,rfl,rfl,rfl,rfl⟩
 refine aH (fun j st=>∃ (i:Nat) (vs ms:List (BitVec 32)),i+j=16∧ms.length=16∧st=⟨[(1,.str b),(4,.ptr 0 0),(8,.ptr 1 0),(9,.ptr 2 0),(11,.ptr 4 0),(44,.i64 i)],[some ⟨false,hs0.map .u32,none⟩,some ⟨false,(List.replicate 8 0#32).map .u32,none⟩,some ⟨false,w.map .u32,none⟩,some ⟨false,vs.map .u32,none⟩,some ⟨false,ms.map .u32,none⟩]⟩) ?_ ?_
 ·refine fg (16) [1,4,8,9,11,44] 5 (by simp) (by simp) (by simp[cy,St.get,V.low,-List.map_take,-List.map_drop,-List.map_map,-List.map_set,h1,h4,h8,h9,h11,h44]) (by simp[aF,ac,V.low,-List.map_take,-List.map_drop,-List.map_map,-List.map_set]) ?_
  simp only[cq,List.map_cons,List.map_nil,St.get,Nat.reduceEqDiff,List.take_succ_cons,List.take_zero,h1,h4,h8,h9,h11,h44]
  exact⟨0,_,_,by omega,by simp,rfl⟩
 clear hs h1 h4 h8 h9 h11 h44
 rintro j st ⟨i,vs,ms,hij,hms,rfl⟩-
 by_cases hi:i<16
 ·have hi':(i:Int)<16:=by omega
  have hw1:=cd (i:=i) (by omega)
  have e4:ai (4*(i:Int))=((4*i:Nat):Int):=by rw[al (by omega) (by omega)];omega
  have e5:ai (((4*i:Nat):Int)+4)=((4*i+4:Nat):Int):=by rw[al (by omega) (by omega)];omega
  simp -implicitDefEqProofs only[go_sem,↓reduceIte,Nat.reduceEqDiff,Nat.reduceLT,hi',e4,e5,hb]
  repeat refine aJ ?_
  refine ak (dF _ (by simp;omega)) ?_
  simp -implicitDefEqProofs only[go_sem,↓reduceIte,Nat.reduceEqDiff,Nat.reduceLT,Nat.reduceLeDiff,List.length_map,hms,fk,hw1]
  repeat refine aJ ?_
  refine gd (j-1) [1,4,8,9,11,44] 5 (by omega) (by simp) (by simp) (by simp[cy,St.get,ae,V.low,-List.map_take,-List.map_drop,-List.map_map,-List.map_set]) (by simp[aF,ac,V.low,-List.map_take,-List.map_drop,-List.map_map,-List.map_set]) ?_
  simp only[cq,List.map_cons,List.map_nil,St.get,ae,↓reduceIte,Nat.reduceEqDiff,List.take_succ_cons,List.take_zero]
  exact⟨i+1,_,_,by omega,by simpa using hms,rfl⟩
 ·have hi':¬ (i:Int)<16:=by omega
  simp -implicitDefEqProofs only[go_sem,↓reduceIte,Nat.reduceEqDiff,Nat.reduceLT,Nat.reduceLeDiff,Nat.reduceAdd,Nat.reduceMul,hi']
  refine bh (DT) ?_
  rintro _ ⟨ls,hls,rfl,hls2⟩
  simp -implicitDefEqProofs only[go_sem,Nat.reduceLT,↓Pf]
  refine aH (fun j st=>∃ (i:Nat) (ws:List (BitVec 32)),i+j=10∧ws.length=16∧st=⟨[(4,.ptr 0 0),(8,.ptr 1 0),(9,.ptr 2 0),(11,.ptr 4 0),(13,.ptr 5 0),(68,.agg (ls.map .u8)),(69,.i64 i)],[some ⟨false,hs0.map .u32,none⟩,some ⟨false,(List.replicate 8 0#32).map .u32,none⟩,some ⟨false,ws.map .u32,none⟩,some ⟨false,vs.map .u32,none⟩,some ⟨false,ms.map .u32,none⟩,some ⟨false,plc,none⟩]⟩) ?_ ?_
  ·refine fg (10) [4,8,9,11,13,68,69] 6 (by simp) (by simp) (by simp[cy,St.get,ae,V.low,-List.map_take,-List.map_drop,-List.map_map,-List.map_set]) (by simp[aF,ac,V.low,-List.map_take,-List.map_drop,-List.map_map,-List.map_set,lj]) ?_
   simp only[cq,List.map_cons,List.map_nil,St.get,ae,↓reduceIte,Nat.reduceEqDiff,List.take_succ_cons,List.take_zero]
   exact⟨0,_,by omega,hw,rfl⟩
  clear hw w
  rintro j st ⟨i,ws,hij,hws,rfl⟩-
  by_cases hi:i<10
  ·have hi':(i:Int)<10:=by omega
   have hw1:=cd (i:=i) (by omega)
   have hm16:min 16 (160-i*16)=16:=by omega
   simp -implicitDefEqProofs only[go_sem,↓reduceIte,Nat.reduceEqDiff,Nat.reduceLT,Nat.reduceAdd,hi',hls,hm16,bd,List.length_cons,List.length_nil,List.length_map,List.length_take,List.length_drop]
   repeat refine aJ ?_
   refine aH (fun j2 st=>∃ (c:Nat) (ws:List (BitVec 32)),c+j2=8∧ws.length=16∧st=⟨[(4,.ptr 0 0),(8,.ptr 1 0),(9,.ptr 2 0),(11,.ptr 4 0),(13,.ptr 5 0),(68,.agg (ls.map .u8)),(69,.i64 i),(15,.ptr 6 0),(72,.agg plc),(73,.i64 c)],[some ⟨false,hs0.map .u32,none⟩,some ⟨false,(List.replicate 8 0#32).map .u32,none⟩,some ⟨false,ws.map .u32,none⟩,some ⟨false,vs.map .u32,none⟩,some ⟨false,ms.map .u32,none⟩,some ⟨false,plc,none⟩,some ⟨false,((ls.drop (i*16)).take 16).map .u8,none⟩]⟩) ?_ ?_
   ·refine fg (8) [4,8,9,11,13,68,69,15,72,73] 7 (by simp) (by simp) (by simp[cy,St.get,ae,V.low,-List.map_take,-List.map_drop,-List.map_map,-List.map_set,lj,yE]) (by simp[aF,ac,V.low,-List.map_take,-List.map_drop,-List.map_map,-List.map_set,lj]) ?_
    simp only[cq,List.map_cons,List.map_nil,St.get,ae,↓reduceIte,Nat.reduceEqDiff,List.take_succ_cons,List.take_zero,yE]
    exact⟨0,_,by omega,hws,rfl⟩
   clear hws ws
   rintro j2 st ⟨c,ws,hcj,hws,rfl⟩-
   by_cases hc:c<8
   ·have hc':(c:Int)<8:=by omega
    have hw2:=cd (i:=c) (by omega)
    obtain⟨a1,a2,a3,a4,g1,g2,g3,g4,ep⟩:=Pg c hc
    have e2:ai (2*(c:Int))=((2*c:Nat):Int):=by rw[al (by omega) (by omega)];omega
    have e3:ai (((2*c:Nat):Int)+1)=((2*c+1:Nat):Int):=by rw[al (by omega) (by omega)];omega
    have q1:=zz hls2 hi (i:=2*c) (by omega)
    have q2:=zz hls2 hi (i:=2*c+1) (by omega)
    simp -implicitDefEqProofs only[go_sem,↓reduceIte,Nat.reduceEqDiff,Nat.reduceLT,Nat.reduceAdd,hc',ep,e2,e3,bd,List.length_cons,List.length_nil,hls,hm16,dg V.u8 0#8,List.length_map,List.length_take,List.length_drop,show 2*c<16 by omega,show 2*c+1<16 by omega,dg V.u32 0#32,hms,q1,q2]
    repeat refine aJ ?_
    obtain⟨_,_,hmix,rfl,ws',hws',rfl⟩:=Mt a1 a2 a3 a4 (ms.getD (((ls.drop (i*16)).take 16).getD (2*c) 0#8).toNat 0#32) (ms.getD (((ls.drop (i*16)).take 16).getD (2*c+1) 0#8).toNat 0#32) ws hws g1 g2 g3 g4
    refine dj [2] (hmix) (by kernel_rfl) (by simp[-List.map_map,-List.map_set]) rfl (by simp[-List.map_map,-List.map_set]) (by first|decide|simp) (by simp[-List.map_map,-List.map_set]) (by simp[-List.map_map,-List.map_set]) (by simp[-List.map_map,-List.map_set]) (by simp[-List.map_map,-List.map_set]) (by simp) ?_
    simp -implicitDefEqProofs only[go_sem,↓reduceIte,Nat.reduceEqDiff,Nat.reduceLT,Nat.reduceAdd,Nat.reduceSub,hw2]
    repeat refine aJ ?_
    refine gd (j2-1) [4,8,9,11,13,68,69,15,72,73] 7 (by omega) (by simp) (by simp) (by simp[cy,St.get,ae,V.low,-List.map_take,-List.map_drop,-List.map_map,-List.map_set,lj]) (by simp[aF,ac,V.low,-List.map_take,-List.map_drop,-List.map_map,-List.map_set,lj]) ?_
    simp only[cq,List.map_cons,List.map_nil,St.get,ae,↓reduceIte,Nat.reduceEqDiff,List.take_succ_cons,List.take_zero]
    exact⟨c+1,_,by omega,hws',rfl⟩
   ·have hc':¬ (c:Int)<8:=by omega
    simp -implicitDefEqProofs only[go_sem,↓reduceIte,Nat.reduceEqDiff,Nat.reduceLT,hc',hw1]
    refine gd (j-1) [4,8,9,11,13,68,69] 6 (by omega) (by simp) (by simp) (by simp[cy,St.get,ae,V.low,-List.map_take,-List.map_drop,-List.map_map,-List.map_set]) (by simp[aF,ac,V.low,-List.map_take,-List.map_drop,-List.map_map,-List.map_set,lj]) ?_
    simp only[cq,List.map_cons,List.map_nil,St.get,ae,↓reduceIte,Nat.reduceEqDiff,List.take_succ_cons,List.take_zero]
    exact⟨i+1,_,by omega,hws,rfl⟩
  ·have hi':¬ (i:Int)<10:=by omega
   simp -implicitDefEqProofs only[go_sem,↓reduceIte,Nat.reduceEqDiff,Nat.reduceLT,hi']
   refine aH (fun j st=>∃ (i:Nat) (hs:List (BitVec 32)),i+j=8∧hs.length=8∧st=⟨[(4,.ptr 0 0),(8,.ptr 1 0),(9,.ptr 2 0),(94,.i64 i)],[some ⟨false,hs.map .u32,none⟩,some ⟨false,(List.replicate 8 0#32).map .u32,none⟩,some ⟨false,ws.map .u32,none⟩]⟩) ?_ ?_
   ·refine fg (8) [4,8,9,94] 3 (by simp) (by simp) (by simp[cy,St.get,ae,V.low,-List.map_take,-List.map_drop,-List.map_map,-List.map_set]) (by simp[aF,ac,V.low,-List.map_take,-List.map_drop,-List.map_map,-List.map_set]) ?_
    simp only[cq,List.map_cons,List.map_nil,St.get,ae,↓reduceIte,Nat.reduceEqDiff,List.take_succ_cons,List.take_zero]
    exact⟨0,_,by omega,hl,rfl⟩
   rintro j st ⟨i,hs,hij,hhs,rfl⟩-
   by_cases hi:i<8
   ·have hi':(i:Int)<8:=by omega
    have hw1:=cd (i:=i) (by omega)
    have e8:ai ((i:Int)+8)=((i+8:Nat):Int):=by rw[al (by omega) (by omega)];omega
    simp -implicitDefEqProofs only[go_sem,↓reduceIte,Nat.reduceEqDiff,Nat.reduceLT,Nat.reduceLeDiff,Nat.reduceAdd,hi',e8,List.length_map,hhs,hws,dg V.u32 0#32,fk,show i+8<16 by omega,show i<16 by omega,hi,hw1]
    repeat refine aJ ?_
    refine gd (j-1) [4,8,9,94] 3 (by omega) (by simp) (by simp) (by simp[cy,St.get,ae,V.low,-List.map_take,-List.map_drop,-List.map_map,-List.map_set]) (by simp[aF,ac,V.low,-List.map_take,-List.map_drop,-List.map_map,-List.map_set]) ?_
    simp only[cq,List.map_cons,List.map_nil,St.get,ae,↓reduceIte,Nat.reduceEqDiff,List.take_succ_cons,List.take_zero]
    exact⟨i+1,_,by omega,by simpa using hhs,rfl⟩
   ·have hi':¬ (i:Int)<8:=by omega
    simp -implicitDefEqProofs only[go_sem,↓reduceIte,Nat.reduceEqDiff,Nat.reduceLT,hi',bd,List.length_map,hhs,List.length_replicate,List.take_of_length_le (show hs.length≤8 by omega)]
    repeat refine aJ ?_
    exact⟨hs,rfl,hhs⟩
section
theorem kR (x:BitVec 32)(n:Int):∃ v,am Tryz.prog 162 [.u32 x,.i64 n] v∧∃ y:BitVec 32,v= .u32 y:=⟨_,gZ x n,_,rfl⟩
theorem oK (x:BitVec 32)(a b c:Int):∃ v,am Tryz.prog 163 [.u32 x,.i64 a,.i64 b,.i64 c] v∧∃ y:BitVec 32,v= .u32 y:=by
 by_cases h:0<c
 ·refine ct (Post:=fun v=>∃ y:BitVec 32,v= .u32 y) (by kernel_rfl) (by kernel_rfl) (fn:=Tryz.f163) Tryz.func163 rfl (by show 4≤29;decide) (by simp[ac,V.low]) (fun v h=>by obtain⟨y,rfl⟩:=h;trivial) (ag ?_)
  simp -implicitDefEqProofs only[go_sem,↓reduceIte,Nat.reduceEqDiff,Nat.reduceLT,Nat.reduceAdd,Int.reduceLT,BitVec.reduceOfInt,reduceCtorEq]
  refine bh (kR _ _) ?_
  rintro _ ⟨y1,rfl⟩
  simp -implicitDefEqProofs only[go_sem,↓reduceIte,Nat.reduceEqDiff,Nat.reduceLT,reduceCtorEq,h]
  repeat refine aJ ?_
  refine bh (kR _ _) ?_
  rintro _ ⟨y2,rfl⟩
  simp -implicitDefEqProofs only[go_sem,↓reduceIte,Nat.reduceEqDiff,Nat.reduceLT,reduceCtorEq]
  refine bh (kR _ _) ?_
  rintro _ ⟨y3,rfl⟩
  simp -implicitDefEqProofs only[go_sem,↓reduceIte,Nat.reduceEqDiff,Nat.reduceLT]
  exact⟨_,rfl⟩
 ·refine ct (Post:=fun v=>∃ y:BitVec 32,v= .u32 y) (by kernel_rfl) (by kernel_rfl) (fn:=Tryz.f163) Tryz.func163 rfl (by show 4≤29;decide) (by simp[ac,V.low]) (fun v h=>by obtain⟨y,rfl⟩:=h;trivial) (ag ?_)
  simp -implicitDefEqProofs only[go_sem,↓reduceIte,Nat.reduceEqDiff,Nat.reduceLT,Nat.reduceAdd,Int.reduceLT,BitVec.reduceOfInt,reduceCtorEq]
  refine bh (kR _ _) ?_
  rintro _ ⟨y1,rfl⟩
  simp -implicitDefEqProofs only[go_sem,↓reduceIte,Nat.reduceEqDiff,Nat.reduceLT,reduceCtorEq,h]
  refine bh (kR _ _) ?_
  rintro _ ⟨y2,rfl⟩
  simp -implicitDefEqProofs only[go_sem,↓reduceIte,Nat.reduceEqDiff,Nat.reduceLT,reduceCtorEq]
  refine bh (kR _ _) ?_
  rintro _ ⟨y3,rfl⟩
  simp -implicitDefEqProofs only[go_sem,↓reduceIte,Nat.reduceEqDiff,Nat.reduceLT]
  exact⟨_,rfl⟩
theorem BP:∃ v,am Tryz.prog 145 [] v∧∃ hs:List (BitVec 32),hs.length=8∧v= .agg (hs.map .u32):=by
 refine ct (Post:=fun v=>∃ hs:List (BitVec 32),hs.length=8∧v= .agg (hs.map .u32)) (by kernel_rfl) (by kernel_rfl) (fn:=Tryz.f145) Tryz.func145 rfl (by show 0≤2;decide) (trivial) (fun v h=>by obtain⟨hs,-,rfl⟩:=h;exact nY (mk:=V.u32) (fun _=>trivial) hs) (ag ?_)
 simp -implicitDefEqProofs only[go_sem,↓reduceIte,Nat.reduceLT,Nat.reduceLeDiff,Nat.reduceAdd,Int.reduceLE,Int.reduceLT,BitVec.reduceOfInt]
 exact⟨[_,_,_,_,_,_,_,_],rfl,rfl⟩
def zR:V→BitVec 32
 | .u32 x=>x
 |_=>0#32
def tu (cs:List V):Bool:=cs.all fun | .u32 _=>true|_=>false
theorem Fk {cs:List V}(h:tu cs=true):cs=(cs.map zR).map .u32:=by
 unfold tu at h
 rw[List.all_eq_true] at h
 refine List.ext_getElem (by simp) fun i h1 h2=>?_
 have :=h cs[i] (List.getElem_mem _)
 rw[List.getElem_map,List.getElem_map]
 split at this
 ·rename_i x hx;rw[hx];rfl
 ·cases this
theorem Fl {cs:List V}{n:Nat}(h:tu cs=true)(hl:cs.length=n):∃ hs:List (BitVec 32),hs.length=n∧V.agg cs= .agg (hs.map .u32):=
 ⟨cs.map zR,by rw[List.length_map];exact hl,congrArg V.agg (Fk h)⟩
set_option maxRecDepth 200000 in
theorem Bg:∃ v,am Tryz.prog 164 [] v∧∃ hs:List (BitVec 32),hs.length=64∧v= .agg (hs.map .u32):=by
 refine ct (Post:=fun v=>∃ hs:List (BitVec 32),hs.length=64∧v= .agg (hs.map .u32)) (by kernel_rfl) (by kernel_rfl) (fn:=Tryz.f164) Tryz.func164 rfl (by show 0≤2;decide) (trivial) (fun v h=>by obtain⟨hs,-,rfl⟩:=h;exact nY (mk:=V.u32) (fun _=>trivial) hs) (ag ?_)
 simp -implicitDefEqProofs only[go_sem,↓reduceIte,Nat.reduceLT,Nat.reduceLeDiff,Nat.reduceAdd,Int.reduceLE,Int.reduceLT,BitVec.reduceOfInt]
 exact Fl (by kernel_rfl) (by kernel_rfl)
theorem Ph:[V.u32 0#32,V.u32 0#32,V.u32 0#32,V.u32 0#32,V.u32 0#32,V.u32 0#32,V.u32 0#32,V.u32 0#32,V.u32 0#32,V.u32 0#32,V.u32 0#32,V.u32 0#32,V.u32 0#32,V.u32 0#32,V.u32 0#32,V.u32 0#32,V.u32 0#32,V.u32 0#32,V.u32 0#32,V.u32 0#32,V.u32 0#32,V.u32 0#32,V.u32 0#32,V.u32 0#32,V.u32 0#32,V.u32 0#32,V.u32 0#32,V.u32 0#32,V.u32 0#32,V.u32 0#32,V.u32 0#32,V.u32 0#32,V.u32 0#32,V.u32 0#32,V.u32 0#32,V.u32 0#32,V.u32 0#32,V.u32 0#32,V.u32 0#32,V.u32 0#32,V.u32 0#32,V.u32 0#32,V.u32 0#32,V.u32 0#32,V.u32 0#32,V.u32 0#32,V.u32 0#32,V.u32 0#32,V.u32 0#32,V.u32 0#32,V.u32 0#32,V.u32 0#32,V.u32 0#32,V.u32 0#32,V.u32 0#32,V.u32 0#32,V.u32 0#32,V.u32 0#32,V.u32 0#32,V.u32 0#32,V.u32 0#32,V.u32 0#32,V.u32 0#32,V.u32 0#32]=(List.replicate 64 0#32).map V.u32:=rfl
theorem wW (hs0:List (BitVec 32))(hl:hs0.length=8)(b:List af)(hb:b.length=64):∃ v,am Tryz.prog 146 [.agg (hs0.map .u32),.str b] v∧∃ hs':List (BitVec 32),hs'.length=8∧v= .agg (hs'.map .u32):=by
 refine ct (Post:=fun v=>∃ hs':List (BitVec 32),hs'.length=8∧v= .agg (hs'.map .u32)) (by kernel_rfl) (by kernel_rfl) (fn:=Tryz.f146) Tryz.func146 rfl (by show 2≤131;decide) (by simp[ac,V.low]) (fun v h=>by first|(obtain⟨s,rfl,h⟩:=h;simp[ac,V.low])|(obtain⟨s,h,rfl⟩:=h;simp[V.low])) (ag ?_)
 simp -implicitDefEqProofs only[go_sem,↓reduceIte,Nat.reduceLT,Nat.reduceAdd,Int.reduceNeg,↓Ph,↓np]
 refine aH (fun j st=>∃ (i:Nat) (ws:List (BitVec 32)),i+j=64∧ws.length=64∧st=⟨[(1,.str b),(2,.ptr 0 0),(4,.ptr 1 0),(5,.ptr 2 0),(15,.i64 i)],[some ⟨false,hs0.map .u32,none⟩,some ⟨false,(List.replicate 8 0#32).map .u32,none⟩,some ⟨false,ws.map .u32,none⟩]⟩) ?_ ?_
 ·refine fg (64) [1,2,4,5,15] 3 (by simp) (by simp) (by simp[cy,St.get,ae,V.low,-List.map_take,-List.map_drop,-List.map_map,-List.map_set]) (by simp[aF,ac,V.low,-List.map_take,-List.map_drop,-List.map_map,-List.map_set]) ?_
  simp only[cq,List.map_cons,List.map_nil,St.get,ae,↓reduceIte,Nat.reduceEqDiff,List.take_succ_cons,List.take_zero]
  exact⟨0,List.replicate 64 0#32,by omega,by rw[List.length_replicate],rfl⟩
 rintro j st ⟨i,ws,hij,hws,rfl⟩-
 by_cases hi:i<64
 ·have hi':(i:Int)<64:=by omega
  have hw1:=cd (i:=i) (by omega)
  by_cases h16:i<16
  ·have h16':(i:Int)<16:=by omega
   have e4:ai (4*(i:Int))=((4*i:Nat):Int):=by rw[al (by omega) (by omega)];omega
   have e5:ai (((4*i:Nat):Int)+4)=((4*i+4:Nat):Int):=by rw[al (by omega) (by omega)];omega
   simp -implicitDefEqProofs only[go_sem,↓reduceIte,Nat.reduceEqDiff,Nat.reduceLT,Int.reduceNeg,hi',h16',e4,e5,hb]
   repeat refine aJ ?_
   refine ak (k7 _ (by simp;omega)) ?_
   simp -implicitDefEqProofs only[go_sem,↓reduceIte,Nat.reduceEqDiff,Nat.reduceLT,Nat.reduceLeDiff,Int.reduceNeg,List.length_map,hws,fk,hw1]
   repeat refine aJ ?_
   refine gd (j-1) [1,2,4,5,15] 3 (by omega) (by simp) (by simp) (by simp[cy,St.get,ae,V.low,-List.map_take,-List.map_drop,-List.map_map,-List.map_set]) (by simp[aF,ac,V.low,-List.map_take,-List.map_drop,-List.map_map,-List.map_set]) ?_
   simp only[cq,List.map_cons,List.map_nil,St.get,ae,↓reduceIte,Nat.reduceEqDiff,List.take_succ_cons,List.take_zero]
   exact⟨i+1,_,by omega,by simpa using hws,rfl⟩
  ·have h16':¬ (i:Int)<16:=by omega
   have f1:ai ((i:Int)-16)=((i-16:Nat):Int):=by rw[al (by omega) (by omega)];omega
   have f2:ai ((i:Int)-7)=((i-7:Nat):Int):=by rw[al (by omega) (by omega)];omega
   have f3:ai ((i:Int)-15)=((i-15:Nat):Int):=by rw[al (by omega) (by omega)];omega
   have f4:ai ((i:Int)-2)=((i-2:Nat):Int):=by rw[al (by omega) (by omega)];omega
   simp -implicitDefEqProofs only[go_sem,↓reduceIte,Nat.reduceEqDiff,Nat.reduceLT,Nat.reduceAdd,Int.reduceNeg,hi',h16',f1,f2,f3,hws,List.length_map,dg V.u32 0#32,show i-16<64 by omega,show i-7<64 by omega,show i-15<64 by omega]
   repeat refine aJ ?_
   refine dN (oK _ _ _ _) ?_
   rintro _ ⟨y1,rfl⟩
   simp -implicitDefEqProofs only[go_sem,↓reduceIte,Nat.reduceEqDiff,Nat.reduceLT,Nat.reduceAdd,Int.reduceNeg,f4,hws,List.length_map,dg V.u32 0#32,show i-2<64 by omega]
   repeat refine aJ ?_
   refine dN (oK _ _ _ _) ?_
   rintro _ ⟨y2,rfl⟩
   simp -implicitDefEqProofs only[go_sem,↓reduceIte,Nat.reduceEqDiff,Nat.reduceLT,Nat.reduceLeDiff,Nat.reduceAdd,Int.reduceNeg,hws,List.length_map,fk,hw1]
   repeat refine aJ ?_
   refine gd (j-1) [1,2,4,5,15] 3 (by omega) (by simp) (by simp) (by simp[cy,St.get,ae,V.low,-List.map_take,-List.map_drop,-List.map_map,-List.map_set]) (by simp[aF,ac,V.low,-List.map_take,-List.map_drop,-List.map_map,-List.map_set]) ?_
   simp only[cq,List.map_cons,List.map_nil,St.get,ae,↓reduceIte,Nat.reduceEqDiff,List.take_succ_cons,List.take_zero]
   exact⟨i+1,_,by omega,by simpa using hws,rfl⟩
 have hi':¬ (i:Int)<64:=by omega
 simp -implicitDefEqProofs only[go_sem,↓reduceIte,Nat.reduceEqDiff,Nat.reduceLT,Nat.reduceAdd,Int.reduceNeg,hi',List.length_map,hl,↓np,bd,List.length_replicate,List.take_of_length_le (show hs0.length≤8 by omega)]
 repeat refine aJ ?_
 refine bh (Bg) ?_
 rintro _ ⟨ks,hks,rfl⟩
 simp -implicitDefEqProofs only[go_sem,Nat.reduceLT,Int.reduceNeg]
 refine aH (fun j st=>∃ (i:Nat) (vs:List (BitVec 32)),i+j=64∧vs.length=8∧st=⟨[(2,.ptr 0 0),(4,.ptr 1 0),(5,.ptr 2 0),(7,.ptr 3 0),(56,.agg (ks.map .u32)),(57,.i64 i)],[some ⟨false,hs0.map .u32,none⟩,some ⟨false,(List.replicate 8 0#32).map .u32,none⟩,some ⟨false,ws.map .u32,none⟩,some ⟨false,vs.map .u32,none⟩]⟩) ?_ ?_
 ·refine fg (64) [2,4,5,7,56,57] 4 (by simp) (by simp) (by simp[cy,St.get,ae,V.low,-List.map_take,-List.map_drop,-List.map_map,-List.map_set]) (by simp[aF,ac,V.low,-List.map_take,-List.map_drop,-List.map_map,-List.map_set]) ?_
  simp only[cq,List.map_cons,List.map_nil,St.get,ae,↓reduceIte,Nat.reduceEqDiff,List.take_succ_cons,List.take_zero]
  exact⟨0,_,by omega,hl,rfl⟩
 clear hij hi hi' i
 rintro j st ⟨i,vs,hij,hvs,rfl⟩-
 by_cases hi:i<64
 ·have hi':(i:Int)<64:=by omega
  have hw1:=cd (i:=i) (by omega)
  have hsp:=qO V.u32 vs 1 (List.take (min 7 7) (List.take 7 vs)) (by simp;omega)
  have hsl:(gU vs 1 (List.take (min 7 7) (List.take 7 vs))).length=8:=by simp[sK,hvs]
  simp -implicitDefEqProofs only[go_sem,↓reduceIte,Nat.reduceEqDiff,Nat.reduceLT,Nat.reduceAdd,Int.reduceLE,Int.reduceLT,Int.reduceToNat,Int.reduceNeg,hi',hks,hvs,List.length_map,dg V.u32 0#32,hi]
  repeat refine aJ ?_
  refine dN (oK _ _ _ _) ?_
  rintro _ ⟨y1,rfl⟩
  simp -implicitDefEqProofs only[go_sem,↓reduceIte,Nat.reduceEqDiff,Nat.reduceLT,Nat.reduceAdd,Int.reduceLE,Int.reduceLT,Int.reduceToNat,Int.reduceNeg,hvs,hws,List.length_map,dg V.u32 0#32,hi]
  repeat refine aJ ?_
  refine dN (oK _ _ _ _) ?_
  rintro _ ⟨y2,rfl⟩
  simp -implicitDefEqProofs only[go_sem,↓reduceIte,Nat.reduceEqDiff,Nat.reduceLT,Nat.reduceLeDiff,Nat.reduceAdd,Int.reduceLE,Int.reduceLT,Int.reduceToNat,Int.reduceSub,Int.reduceNeg,hvs,List.length_map,dg V.u32 0#32,hsp,hsl,fk,List.length_set,hw1]
  repeat refine aJ ?_
  refine gd (j-1) [2,4,5,7,56,57] 4 (by omega) (by simp) (by simp) (by simp[cy,St.get,ae,V.low,-List.map_take,-List.map_drop,-List.map_map,-List.map_set]) (by simp[aF,ac,V.low,-List.map_take,-List.map_drop,-List.map_map,-List.map_set]) ?_
  simp only[cq,List.map_cons,List.map_nil,St.get,ae,↓reduceIte,Nat.reduceEqDiff,List.take_succ_cons,List.take_zero]
  exact⟨i+1,_,by omega,by rw[List.length_set,List.length_set];exact hsl,rfl⟩
 have hi':¬ (i:Int)<64:=by omega
 simp -implicitDefEqProofs only[go_sem,↓reduceIte,Nat.reduceEqDiff,Nat.reduceLT,Int.reduceNeg,hi']
 refine aH (fun j st=>∃ (i:Nat) (hs:List (BitVec 32)),i+j=8∧hs.length=8∧st=⟨[(2,.ptr 0 0),(4,.ptr 1 0),(7,.ptr 3 0),(118,.i64 i)],[some ⟨false,hs.map .u32,none⟩,some ⟨false,(List.replicate 8 0#32).map .u32,none⟩,some ⟨false,ws.map .u32,none⟩,some ⟨false,vs.map .u32,none⟩]⟩) ?_ ?_
 ·refine fg (8) [2,4,7,118] 4 (by simp) (by simp) (by simp[cy,St.get,ae,V.low,-List.map_take,-List.map_drop,-List.map_map,-List.map_set]) (by simp[aF,ac,V.low,-List.map_take,-List.map_drop,-List.map_map,-List.map_set]) ?_
  simp only[cq,List.map_cons,List.map_nil,St.get,ae,↓reduceIte,Nat.reduceEqDiff,List.take_succ_cons,List.take_zero]
  exact⟨0,_,by omega,hl,rfl⟩
 clear hij hi hi' i
 rintro j st ⟨i,hs,hij,hhs,rfl⟩-
 by_cases hi:i<8
 ·have hi':(i:Int)<8:=by omega
  have hw1:=cd (i:=i) (by omega)
  simp -implicitDefEqProofs only[go_sem,↓reduceIte,Nat.reduceEqDiff,Nat.reduceLT,Nat.reduceLeDiff,Nat.reduceAdd,hi',List.length_map,hhs,hvs,dg V.u32 0#32,fk,hi,hw1]
  repeat refine aJ ?_
  refine gd (j-1) [2,4,7,118] 4 (by omega) (by simp) (by simp) (by simp[cy,St.get,ae,V.low,-List.map_take,-List.map_drop,-List.map_map,-List.map_set]) (by simp[aF,ac,V.low,-List.map_take,-List.map_drop,-List.map_map,-List.map_set]) ?_
  simp only[cq,List.map_cons,List.map_nil,St.get,ae,↓reduceIte,Nat.reduceEqDiff,List.take_succ_cons,List.take_zero]
  exact⟨i+1,_,by omega,by simpa using hhs,rfl⟩
 have hi':¬ (i:Int)<8:=by omega
 simp -implicitDefEqProofs only[go_sem,↓reduceIte,Nat.reduceEqDiff,Nat.reduceLT,hi',bd,List.length_map,hhs,List.length_replicate,List.take_of_length_le (show hs.length≤8 by omega)]
 repeat refine aJ ?_
 exact⟨hs,hhs,rfl⟩
end
end Go.Vm
end
