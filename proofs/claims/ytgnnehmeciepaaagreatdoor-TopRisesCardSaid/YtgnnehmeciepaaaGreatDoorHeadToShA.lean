/- Proved: laws of a machine of values, or what a function answers; no conditions but each theorem's own. -/
import Derived.Test.YtgnnehmeciepaaaGreatDoorChecked
import Derived.Test.YtgnnehmeciepaaaGreatDoorRows
import Derived.Test.YtgnnehmeciepaaaGreatDoorVmZ2ToVmH1
import Derived.Test.YtgnnehmeciepaaaGreatDoorVmTToTot2
import Derived.Test.YtgnnehmeciepaaaGreatDoorVmYToNum
import Derived.Test.YtgnnehmeciepaaaGreatDoorTypesToLsE
set_option linter.unusedVariables false
set_option linter.unusedSimpArgs false
set_option linter.unusedSectionVars false
set_option maxRecDepth 20000
set_option maxHeartbeats 8000000
section
namespace Go.Proofs.YtgnnehmeciepaaaGreatDoor.head
open Go.Vm
def codes:List Nat:=[
 104,97,114,110,101,115,115,32,53,52,102,98,54,102,100,51,102,55,98,56,101,56,55,56,99,52,57,102,99,48,99,101,50,101,99,51,102,98,56,54,54,97,100,49,99,54,
 50,98,100,48,53,101,48,98,48,99,51,55,100,51,56,101,53,48,48,98,101,102,56,97,100,51,32,99,117,116,32,97,116,32,115,111,117,116,101,114,114,97,105,110,47,
 115,111,117,116,101,114,114,97,105,110,116,111,112,46,84,111,112,82,105,115,101,115]
theorem io:Tryz.prog.initOrder=String.ofList (codes.map Char.ofNat):=by kernel_rfl
theorem U9:Tryz.prog.initOrder.toList=codes.map Char.ofNat:=by rw[io,String.toList_ofList]
def words:List (List Char):=behindMainWord (wordsSigns (codes.map Char.ofNat))
theorem Va:words= "cut".toList::words.tail:=by kernel_rfl
theorem cut:behindMainWord (wordsSigns Tryz.prog.initOrder.toList)= "cut".toList::words.tail:=by rw[U9];exact Va
theorem later:Tryz.prog.laysLater=false:=by kernel_rfl
theorem bears:Tryz.prog.bearsReflect=false:=by kernel_rfl
theorem fits:Tryz.prog.doorFits []=true:=by kernel_rfl
theorem mayEnter:Tryz.prog.mayEnter=true:=Xu cut later bears fits
theorem make:Tryz.prog.make=some .cut:=Xv cut
theorem lifts:Tryz.prog.liftsFinal=false:=Xt cut
theorem laidOut:laidOutB Tryz.prog=true:=by kernel_rfl
theorem rowed:mapsRowed Tryz.prog=true:=by kernel_rfl
theorem stops:(Tryz.prog.stops==[])=true:=by kernel_rfl
theorem knobs:(Tryz.prog.stopKnobs==[])=true:=by kernel_rfl
theorem plain:Tryz.prog.plainKeys=true:=by kernel_rfl
theorem heard:Tryz.prog.stopsHeard=true:=by kernel_rfl
theorem own:ownKnob Tryz.prog.godebug=none:=by kernel_rfl
theorem mixed:Tryz.prog.follows .mixedOrders=true:=by kernel_rfl
end Go.Proofs.YtgnnehmeciepaaaGreatDoor.head
end
section
namespace Go.Vm
open Go.Proofs
theorem rY (key:List ac)(w:BitVec 8):∃ v,ao Tryz.prog 50 [.str key,.u8 w] v∧∃ s:List ac,s.length=64∧v= .str s:=by
 refine eW (by kernel_rfl) (by kernel_rfl) (fn:=Tryz.f50) Tryz.func50 rfl (by show 2≤22;decide) (by simp[aa,V.low]) (by rintro v ⟨s,-,rfl⟩;trivial) (ae ?_)
 simp only[go_sem,seval]
 generalize hcs:splice _ 0 _=cs
 have hcs:Alls V.u8 64 cs:=by
  rw[←hcs]
  exact Alls.splice (k:=min key.length 64) (Alls.rep 64 0#8) ⟨key.take (min key.length 64),by simp,rfl⟩ (by omega)
 refine bf (fun j st=>∃ (i:Nat) (cs:List V),i+j=64∧Alls V.u8 64 cs∧st=⟨[(1,.u8 w),(5,.ptr 0 0),(10,.i64 i)],[bK cs]⟩) ?_ ?_
 ·exact bP 64 ⟨[(1,.u8 w),(5,.ptr 0 0),(10,.i64 (0:Nat))],[bK cs]⟩ (by simp[St.get,af]) rfl (fun _ _ h=>h) ⟨0,cs,by omega,hcs,rfl⟩
 rintro j st ⟨i,cs,hij,hcs,rfl⟩ _
 by_cases hi:i<64
 ·have hi':(i:Int)<64:=by omega
  have hw1:aj ((i:Int)+1)=((i+1:Nat):Int):=by rw[am (by omega) (by omega)];omega
  obtain⟨x,hx⟩:=hcs.get hi
  have hl:=hcs.len
  simp only[go_sem,seval,hi',hx]
  refine⟨by omega,by omega,by omega,by omega,?_⟩
  exact bL (j-1) ⟨[(1,.u8 w),(5,.ptr 0 0),(10,.i64 (i+1:Nat))],[bK (cs.set i (.u8 (x ^^^ w)))]⟩ (by omega) (by simp[St.get,af,hw1]) rfl (fun _ _ h=>h) ⟨i+1,_,by omega,hcs.set i _,rfl⟩
 ·have hi':¬ (i:Int)<64:=by omega
  obtain⟨bs,hb,rfl⟩:=hcs
  simp only[go_sem,seval,hi']
  exact⟨by omega,by omega,_,by simp;omega,rfl⟩
theorem Qh (s:List (BitVec 8))(b:BitVec 8):le (s++[b])=le s+256^s.length*b.toNat:=by
 induction s with
 |nil=>simp[le]
 |cons a s ih=>rw[List.cons_append,le,ih,le,List.length_cons,lM,Nat.mul_add,Nat.mul_assoc];omega
theorem S2 {n i:Nat}(h:n<256^i)(hi:i<8)(b:BitVec 8):BitVec.ofNat 64 n|||b.setWidth 64<<<(8*i)=BitVec.ofNat 64 (n+256^i*b.toNat):=by
 have hp:(256:Nat)^i=2^(8*i):=by rw[Nat.pow_mul]
 have h8:(256:Nat)^i*256≤256^8:=by
  have :(256:Nat)^(i+1)≤256^8:=Nat.pow_le_pow_right (by omega) (by omega)
  rwa [Nat.pow_succ] at this
 have hb:=b.isLt
 have hm:256^i*b.toNat≤256^i*255:=Nat.mul_le_mul_left _ (by omega)
 have hpos:0<(256:Nat)^i:=Nat.pow_pos (by omega)
 have e8:(256:Nat)^8=18446744073709551616:=by decide
 have e64:(2:Nat)^64=18446744073709551616:=by decide
 apply BitVec.eq_of_toNat_eq
 rw[BitVec.toNat_or,BitVec.toNat_shiftLeft,BitVec.toNat_ofNat,BitVec.toNat_setWidth,BitVec.toNat_ofNat,Nat.shiftLeft_eq,←hp]
 rw[Nat.mod_eq_of_lt (by omega :n<2^64),Nat.mod_eq_of_lt (by omega :b.toNat<2^64),Nat.mul_comm b.toNat,Nat.mod_eq_of_lt (by omega :256^i*b.toNat<2^64),Nat.mod_eq_of_lt (by omega :n+256^i*b.toNat<2^64)]
 rw[Nat.or_comm,hp,←Nat.two_pow_add_eq_or_of_lt (by rw[←hp];exact h),Nat.add_comm]
theorem eT (s:List (BitVec 8))(hs:s.length≤4611686018427387904):ao Tryz.prog 104 [.str s] (.u64 (BitVec.ofNat 64 (le (s.take 8)))):=by
 obtain⟨N,hN,hN8,hNs,hif⟩:∃ N:Nat,(N=if 8<s.length then 8 else s.length)∧N≤8∧N≤s.length∧(if(8:Int)<(s.length:Int) then(8:Int) else(s.length:Int))=(N:Int):=by
  by_cases h:8<s.length
  ·exact⟨8,by rw[if_pos h],by omega,by omega,by rw[if_pos (by omega)];rfl⟩
  ·exact⟨s.length,by rw[if_neg h],by omega,by omega,by rw[if_neg (by omega)]⟩
 have ht:s.take 8=s.take N:=by
  by_cases h:8<s.length
  ·rw[if_pos h] at hN;rw[hN]
  ·rw[if_neg h] at hN;rw[hN,List.take_of_length_le (by omega),List.take_of_length_le (by omega)]
 rw[ht]
 refine aB (by kernel_rfl) (fn:=Tryz.f104) (by kernel_rfl) Tryz.func104 rfl (by show 1≤22;decide) (by simp[aa,V.low]) (by simp[V.low]) (ae ?_)
 simp only[go_sem,seval,Tryz.ntmps104,hif]
 refine bf (fun j st=>∃ i:Nat,i+j=N∧st=⟨[(0,.str s),(3,.u64 (BitVec.ofNat 64 (le (s.take i)))),(7,.i64 N),(8,.i64 i)],[]⟩) ?_ ?_
 ·exact bP (N) ⟨[(0,.str s),(3,.u64 (BitVec.ofNat 64 (le (s.take (0:Nat))))),(7,.i64 N),(8,.i64 (0:Nat))],[]⟩ (by simp[St.get,af,le]) rfl (fun _ _ h=>h) ⟨0,by omega,rfl⟩
 rintro j st ⟨i,hi,rfl⟩ _
 simp only[go_sem,seval]
 by_cases h0:i<N
 ·have h0':(i:Int)<(N:Int):=by omega
  have h1':(i:Int)<(s.length:Int):=by omega
  have hi8:i<s.length:=by omega
  have hw8:aj (8*(i:Int))=((8*i:Nat):Int):=by rw[am (by omega) (by omega)];omega
  have hl:=oG (s.take i)
  have htl:(s.take i).length=i:=by simp;omega
  rw[htl] at hl
  simp only[go_sem,seval,h0',h1',hw8]
  refine⟨by omega,by omega,?_⟩
  refine bL (j-1) ⟨[(0,.str s),(3,.u64 (BitVec.ofNat 64 (le (s.take (i+1:Nat))))),(7,.i64 N),(8,.i64 (i+1:Nat))],[]⟩ (by omega) ?_ rfl (fun _ _ h=>h) ⟨i+1,by omega,rfl⟩
  have hw1:aj ((i:Int)+1)=((i+1:Nat):Int):=by rw[am (by omega) (by omega)];omega
  simp[St.get,af,hw1,nT hi8,Qh,htl]
  have :=S2 hl (by omega) (s.getD i 0)
  rw[List.getD_eq_getElem?_getD] at this
  exact this.symm
 ·have h0':¬ (i:Int)<(N:Int):=by omega
  simp only[go_sem,seval,h0']
  rw[show i=N by omega]
theorem sJ (n:BitVec 64)(k:Nat):(n>>>k).setWidth 8=BitVec.ofNat 8 (n.toNat/2^k):=by
 apply BitVec.eq_of_toNat_eq
 rw[BitVec.toNat_setWidth,BitVec.toNat_ushiftRight,BitVec.toNat_ofNat,Nat.shiftRight_eq_div_pow]
theorem DM (n:BitVec 64):ar n.toNat 8=[(n>>>56).setWidth 8,(n>>>48).setWidth 8,(n>>>40).setWidth 8,(n>>>32).setWidth 8,(n>>>24).setWidth 8,(n>>>16).setWidth 8,(n>>>8).setWidth 8,(n>>>0).setWidth 8]:=by
 simp only[sJ,ar,Nat.div_div_eq_div_mul,List.nil_append,List.cons_append,seval,Nat.reducePow,Nat.div_one]
theorem xx (n:BitVec 64):ar n.toNat 4=[(n>>>24).setWidth 8,(n>>>16).setWidth 8,(n>>>8).setWidth 8,(n>>>0).setWidth 8]:=by
 simp only[sJ,ar,Nat.div_div_eq_div_mul,List.nil_append,List.cons_append,seval,Nat.reducePow,Nat.div_one]
theorem DN (n:BitVec 64):aE n.toNat 8=[(n>>>0).setWidth 8,(n>>>8).setWidth 8,(n>>>16).setWidth 8,(n>>>24).setWidth 8,(n>>>32).setWidth 8,(n>>>40).setWidth 8,(n>>>48).setWidth 8,(n>>>56).setWidth 8]:=by
 simp only[sJ,aE,Nat.div_div_eq_div_mul,seval,Nat.reducePow,Nat.div_one]
theorem DO (n:BitVec 64):aE n.toNat 4=[(n>>>0).setWidth 8,(n>>>8).setWidth 8,(n>>>16).setWidth 8,(n>>>24).setWidth 8]:=by
 simp only[sJ,aE,Nat.div_div_eq_div_mul,seval,Nat.reducePow,Nat.div_one]
theorem pi (n:BitVec 64):ag Tryz.prog 42 [.nilSlice,.u64 n,.i64 8] [] (.slice 0 0 8 1) [bK ((ar n.toNat 8).map .u8)]:=by
 rw[DM]
 refine ap (by kernel_rfl) (fn:=Tryz.f42) Tryz.func42 rfl (by show 3≤25;decide) (ae ?_)
 simp only[go_sem,seval,Tryz.ntmps42]
 refine aY 9 ?_
 simp only[go_sem,seval]
 exact Fin.ren [15] (by simp) (by simp) (by rfl) (by decide) (by simp) (by simp)
theorem qO (bs:List (BitVec 8))(n:BitVec 64)(hb:bs.length≤140737488351232):ag Tryz.prog 42 [.slice 0 0 bs.length 1,.u64 n,.i64 8] [bK (bs.map .u8)] (.slice 1 0 (bs.length+8) 1) [none,bK ((bs++ar n.toNat 8).map .u8)]:=by
 rw[DM]
 refine ap (by kernel_rfl) (fn:=Tryz.f42) Tryz.func42 rfl (by show 3≤25;decide) (ae ?_)
 simp only[go_sem,seval,Tryz.ntmps42]
 refine aY 9 ?_
 simp only[go_sem,seval,List.take_of_length_le]
 refine⟨by omega,by omega,by omega,by omega,by omega,by omega,by omega,by omega,?_⟩
 exact Fin.ren [0,16] (by simp) (by simp) (by rfl) (by decide) (by simp) (by simp)
theorem q8 (n:BitVec 64):ag Tryz.prog 42 [.nilSlice,.u64 n,.i64 4] [] (.slice 0 0 4 1) [bK ((ar n.toNat 4).map .u8)]:=by
 rw[xx]
 refine ap (by kernel_rfl) (fn:=Tryz.f42) Tryz.func42 rfl (by show 3≤25;decide) (ae ?_)
 simp only[go_sem,seval,Tryz.ntmps42]
 refine aY 5 ?_
 simp only[go_sem,seval]
 exact Fin.ren [7] (by simp) (by simp) (by rfl) (by decide) (by simp) (by simp)
theorem qP (bs:List (BitVec 8))(n:BitVec 64)(hb:bs.length≤140737488351232):ag Tryz.prog 42 [.slice 0 0 bs.length 1,.u64 n,.i64 4] [bK (bs.map .u8)] (.slice 1 0 (bs.length+4) 1) [none,bK ((bs++ar n.toNat 4).map .u8)]:=by
 rw[xx]
 refine ap (by kernel_rfl) (fn:=Tryz.f42) Tryz.func42 rfl (by show 3≤25;decide) (ae ?_)
 simp only[go_sem,seval,Tryz.ntmps42]
 refine aY 5 ?_
 simp only[go_sem,seval,List.take_of_length_le]
 refine⟨by omega,by omega,by omega,by omega,?_⟩
 exact Fin.ren [0,8] (by simp) (by simp) (by rfl) (by decide) (by simp) (by simp)
theorem qF (n:BitVec 64):ag Tryz.prog 62 [.nilSlice,.u64 n,.i64 4] [] (.slice 0 0 4 1) [bK ((aE n.toNat 4).map .u8)]:=by
 rw[DO]
 refine ap (by kernel_rfl) (fn:=Tryz.f62) Tryz.func62 rfl (by show 3≤22;decide) (ae ?_)
 simp only[go_sem,seval,Tryz.ntmps62]
 refine aY 5 ?_
 simp only[go_sem,seval]
 exact Fin.ren [7] (by simp) (by simp) (by rfl) (by decide) (by simp) (by simp)
theorem qC (bs:List (BitVec 8))(n:BitVec 64)(hb:bs.length≤140737488351232):ag Tryz.prog 62 [.slice 0 0 bs.length 1,.u64 n,.i64 4] [bK (bs.map .u8)] (.slice 1 0 (bs.length+4) 1) [none,bK ((bs++aE n.toNat 4).map .u8)]:=by
 rw[DO]
 refine ap (by kernel_rfl) (fn:=Tryz.f62) Tryz.func62 rfl (by show 3≤22;decide) (ae ?_)
 simp only[go_sem,seval,Tryz.ntmps62]
 refine aY 5 ?_
 simp only[go_sem,seval,List.take_of_length_le]
 refine⟨by omega,by omega,by omega,by omega,?_⟩
 exact Fin.ren [0,8] (by simp) (by simp) (by rfl) (by decide) (by simp) (by simp)
theorem ue (n:BitVec 64):ag Tryz.prog 62 [.nilSlice,.u64 n,.i64 8] [] (.slice 0 0 8 1) [bK ((aE n.toNat 8).map .u8)]:=by
 rw[DN]
 refine ap (by kernel_rfl) (fn:=Tryz.f62) Tryz.func62 rfl (by show 3≤22;decide) (ae ?_)
 simp only[go_sem,seval,Tryz.ntmps62]
 refine aY 9 ?_
 simp only[go_sem,seval]
 exact Fin.ren [15] (by simp) (by simp) (by rfl) (by decide) (by simp) (by simp)
theorem k8 (bs:List (BitVec 8))(n:BitVec 64)(hb:bs.length≤140737488351232):ag Tryz.prog 62 [.slice 0 0 bs.length 1,.u64 n,.i64 8] [bK (bs.map .u8)] (.slice 1 0 (bs.length+8) 1) [none,bK ((bs++aE n.toNat 8).map .u8)]:=by
 rw[DN]
 refine ap (by kernel_rfl) (fn:=Tryz.f62) Tryz.func62 rfl (by show 3≤22;decide) (ae ?_)
 simp only[go_sem,seval,Tryz.ntmps62]
 refine aY 9 ?_
 simp only[go_sem,seval,List.take_of_length_le]
 refine⟨by omega,by omega,by omega,by omega,by omega,by omega,by omega,by omega,?_⟩
 exact Fin.ren [0,16] (by simp) (by simp) (by rfl) (by decide) (by simp) (by simp)
def qy (x:BitVec 32)(k:Nat):BitVec 32:=x<<<k|||x>>>(32-k)
theorem Qi (n:Int):(BitVec.ofInt 64 n&&&31#64).toNat=(n%32).toNat:=by
 rw[BitVec.toNat_and,BitVec.toNat_ofInt,show(31#64).toNat=2^5-1 from rfl,Nat.and_two_pow_sub_one_eq_mod]
 omega
theorem ke (x:BitVec 32)(n:Int):ao Tryz.prog 167 [.u32 x,.i64 n] (.u32 (qy x (n%32).toNat)):=by
 have e:=Qi n
 have e2:(32#64-(BitVec.ofInt 64 n&&&31#64)).toNat=32-(n%32).toNat:=by
  rw[BitVec.toNat_sub,e]
  have :(32#64).toNat=32:=rfl
  rw[this];omega
 refine aB (by kernel_rfl) (fn:=Tryz.f167) (by kernel_rfl) Tryz.func167 rfl (by show 2≤17;decide) (by simp[aa,V.low]) (by simp[V.low]) (ae ?_)
 simp only[go_sem,seval,Tryz.ntmps167,Tryz.results167,e,e2]
 rfl
def rS (a b c d:BitVec 32):List (BitVec 32):=
 let a1:=a+b;let d1:=qy (d ^^^ a1) 16
 let c1:=c+d1;let b1:=qy (b ^^^ c1) 12
 let a2:=a1+b1;let d2:=qy (d1 ^^^ a2) 8
 let c2:=c1+d2;let b2:=qy (b1 ^^^ c2) 7
 [a2,b2,c2,d2]
theorem FM (a b c d:BitVec 32):ao Tryz.prog 197 [.u32 a,.u32 b,.u32 c,.u32 d] (.tup ((rS a b c d).map .u32)):=by
 refine aB (by kernel_rfl) (fn:=Tryz.f197) (by kernel_rfl) Tryz.func197 rfl (by show 4≤43;decide) (by simp[aa,V.low]) (by simp[rS,aa,V.low]) (ae ?_)
 simp only[go_sem,seval,Tryz.ntmps197]
 refine aY 3 ?_
 simp only[go_sem,seval]
 refine ak (ke _ _) ?_
 simp only[go_sem,seval,Int.reduceMod]
 refine ak (ke _ _) ?_
 simp only[go_sem,seval,Int.reduceMod]
 refine ak (ke _ _) ?_
 simp only[go_sem,seval,Int.reduceMod]
 refine ak (ke _ _) ?_
 simp only[go_sem,seval,Int.reduceMod]
 rfl
def lP (w:List (BitVec 32))(a b c d:Nat):List (BitVec 32):=
 let q:=rS (w.getD a 0) (w.getD b 0) (w.getD c 0) (w.getD d 0)
 (((w.set a (q.getD 0 0)).set b (q.getD 1 0)).set c (q.getD 2 0)).set d (q.getD 3 0)
theorem FN (w:List (BitVec 32))(a b c d:Nat):(lP w a b c d).length=w.length:=by simp[lP]
def o8 (i r:Nat):Nat:=4*r+(i%4+r*(i/4%2))%4
def dr (w:List (BitVec 32)):Nat→List (BitVec 32)
 |0=>w
 |i+1=>lP (dr w i) (o8 i 0) (o8 i 1) (o8 i 2) (o8 i 3)
theorem uK (w:List (BitVec 32))(i:Nat):(dr w i).length=w.length:=by
 induction i with
 |zero=>rfl
 |succ i ih=>rw[dr,FN,ih]
theorem Am (w:List (BitVec 32))(hw:w.length=16)(a b c d:Nat)(ha:a<16)(hb:b<16)(hc:c<16)(hd:d<16):
  ag Tryz.prog 196 [.i64 a,.i64 b,.i64 c,.i64 d,.ptr 0 0] [some ⟨false,w.map .u32,none⟩] (.tup []) [some ⟨false,(lP w a b c d).map .u32,none⟩]:=by
 have ha':(a:Int)<16:=by omega
 have hb':(b:Int)<16:=by omega
 have hc':(c:Int)<16:=by omega
 have hd':(d:Int)<16:=by omega
 have za:(0:Int)≤a:=by omega
 have zb:(0:Int)≤b:=by omega
 have zc:(0:Int)≤c:=by omega
 have zd:(0:Int)≤d:=by omega
 refine ap (by kernel_rfl) (fn:=Tryz.f196) Tryz.func196 rfl (by show 5≤35;decide) (ae ?_)
 simp only[go_sem,↓reduceIte,Nat.reduceEqDiff,Nat.reduceLT,Nat.reduceAdd,reduceCtorEq,Tryz.ntmps196,ha',hb',hc',hd',za,zb,zc,zd,hw,ha,hb,hc,hd,lv (hw▸ha),lv (hw▸hb),lv (hw▸hc),lv (hw▸hd)]
 have hq:∃ x y z t,rS (w.getD a 0) (w.getD b 0) (w.getD c 0) (w.getD d 0)=[x,y,z,t]:=⟨_,_,_,_,rfl⟩
 obtain⟨x,y,z,t,hq⟩:=hq
 have hqs:=FM (w.getD a 0) (w.getD b 0) (w.getD c 0) (w.getD d 0)
 rw[hq] at hqs
 have hst:lP w a b c d=(((w.set a x).set b y).set c z).set d t:=by unfold lP;rw[hq];rfl
 rw[hst]
 refine aH (hqs) ?_
 simp only[go_sem,↓reduceIte,Nat.reduceEqDiff,Nat.reduceLT,Nat.reduceLeDiff,reduceCtorEq,ha',hb',hc',hd',za,zb,zc,zd,hw]
 refine⟨by omega,by omega,by omega,by omega,by kernel_rfl,?_⟩
 exact Fin.ren [0] (by simp) (by simp) (by rfl) (by decide) (by simp[-List.map_map,-List.map_set]) (by simp[-List.map_map,-List.map_set])
theorem Qj:ao Tryz.prog 106 [] (.agg [.u32 1779033703#32,.u32 3144134277#32,.u32 1013904242#32,.u32 2773480762#32,.u32 1359893119#32,.u32 2600822924#32,.u32 528734635#32,.u32 1541459225#32]):=by
 refine aB (by kernel_rfl) (fn:=Tryz.f106) (by kernel_rfl) Tryz.func106 rfl (by show 0≤2;decide) (by simp[aa]) (by simp[aa,V.low]) (ae ?_)
 simp only[go_sem,seval,Tryz.ntmps106,Tryz.results106]
theorem Qk (a b c d:Nat)(x y:BitVec 32)(ws:List (BitVec 32))(hl:ws.length=16)(ha:a<16)(hb:b<16)(hc:c<16)(hd:d<16):
  ∃ v h',ag Tryz.prog 149 [.ptr 0 0,.agg [.i64 a,.i64 b,.i64 c,.i64 d],.u32 x,.u32 y] [bK (ws.map .u32)] v h'∧v= .tup []∧∃ ws':List (BitVec 32),ws'.length=16∧h'=[bK (ws'.map .u32)]:=by
 refine dI (Post:=fun v h'=>v= .tup []∧∃ ws':List (BitVec 32),ws'.length=16∧h'=[bK (ws'.map .u32)]) (by kernel_rfl) (fn:=Tryz.f149) Tryz.func149 rfl (by show 4≤108;decide) (ae ?_)
 simp only[go_sem,seval,eg V.u32 0#32,ik,List.length_map,List.length_set,hl,ha,hb,hd]
 refine⟨by omega,by omega,by omega,by omega,by kernel_rfl,by omega,by kernel_rfl,?_⟩
 generalize hw1:List.set ws a _=w1
 have hl1:w1.length=16:=by rw[←hw1];simp[hl]
 refine aH (ke _ _) ?_
 simp only[go_sem,seval,eg V.u32 0#32,ik,List.length_map,List.length_set,hb,hc,hd,hl1]
 refine⟨by omega,by kernel_rfl,by omega,by kernel_rfl,?_⟩
 generalize hw2:List.set (List.set w1 d _) c _=w2
 have hl2:w2.length=16:=by rw[←hw2];simp[hl1]
 refine aH (ke _ _) ?_
 simp only[go_sem,seval,eg V.u32 0#32,ik,List.length_map,List.length_set,ha,hb,hd,hl2]
 refine⟨by omega,by kernel_rfl,by omega,by kernel_rfl,?_⟩
 generalize hw3:List.set (List.set w2 b _) a _=w3
 have hl3:w3.length=16:=by rw[←hw3];simp[hl2]
 refine aH (ke _ _) ?_
 simp only[go_sem,seval,eg V.u32 0#32,ik,List.length_map,List.length_set,hb,hc,hd,hl3]
 refine⟨by omega,by kernel_rfl,by omega,by kernel_rfl,?_⟩
 generalize hw4:List.set (List.set w3 d _) c _=w4
 have hl4:w4.length=16:=by rw[←hw4];simp[hl3]
 refine aH (ke _ _) ?_
 simp only[go_sem,seval,ik,List.length_map,hl4]
 repeat refine aJ ?_
 refine⟨_,_,?_,Fin.take 1 (by simp) (by simp) (by simp[eo,aa,V.low,-List.map_take,-List.map_drop,-List.map_map,-List.map_set]) (by simp[aO,-List.map_take,-List.map_drop,-List.map_map,-List.map_set])⟩
 exact⟨rfl,_,by rw[List.length_set];exact hl4,rfl⟩
def Xi:V→BitVec 8
 | .u8 x=>x
 |_=>0#8
def wV (cs:List V)(n k:Nat):Bool:=(List.range n).all fun i=>match cs.getD i .junk with
 | .u8 x=>decide (x.toNat<k)
 |_=>false
theorem zp {cs:List V}{n k:Nat}(h:wV cs n k=true)(i:Nat)(hi:i<n):∃ x:BitVec 8,cs.getD i .junk= .u8 x∧x.toNat<k:=by
 unfold wV at h
 rw[List.all_eq_true] at h
 have :=h i (List.mem_range.2 hi)
 split at this
 ·rename_i x hx
  exact⟨x,hx,of_decide_eq_true this⟩
 ·cases this
theorem GN {cs:List V}{n k:Nat}(hl:cs.length=n)(h:wV cs n k=true):Alls V.u8 n cs:=by
 refine⟨cs.map Xi,by simpa using hl,List.ext_getElem (by simp) fun i h1 h2=>?_⟩
 obtain⟨x,hx,-⟩:=zp h i (by omega)
 rw[List.getD_eq_getElem?_getD,List.getElem?_eq_getElem h1] at hx
 have hx:cs[i]= .u8 x:=hx
 rw[List.getElem_map,List.getElem_map,hx];rfl
theorem JN:∃ v,ao Tryz.prog 148 [] v∧∃ cs,v= .agg cs∧Alls V.u8 160 cs∧∀ i,i<160→∃ x:BitVec 8,cs.getD i .junk= .u8 x∧x.toNat<16:=by
 refine eW (Post:=fun v=>∃ cs,v= .agg cs∧Alls V.u8 160 cs∧∀ i,i<160→∃ x:BitVec 8,cs.getD i .junk= .u8 x∧x.toNat<16) (by kernel_rfl) (by kernel_rfl) (fn:=Tryz.f148) Tryz.func148 rfl (by show 0≤12;decide) trivial (by
  rintro v ⟨cs,rfl,h,-⟩
  exact h.low fun _=>trivial) (ae ?_)
 simp only[go_sem,↓reduceIte,Nat.reduceEqDiff,Nat.reduceLT,Nat.reduceLeDiff,Nat.reduceAdd,Nat.reduceSub,Nat.reduceMul,Int.reduceLE,Int.reduceLT,BitVec.reduceOfInt,reduceCtorEq]
 exact⟨fun x hx=>by simp at hx,_,rfl,GN (k:=16) (by kernel_rfl) (by kernel_rfl),zp (by kernel_rfl)⟩
theorem C3:∃ v,ao Tryz.prog 106 [] v∧∃ hs:List (BitVec 32),hs.length=8∧v= .agg (hs.map .u32):=⟨_,Qj,[_,_,_,_,_,_,_,_],rfl,rfl⟩
theorem Ic:∃ v,ao Tryz.prog 148 [] v∧∃ ls:List (BitVec 8),ls.length=160∧v= .agg (ls.map .u8)∧∀ i,i<160→(ls.getD i 0#8).toNat<16:=by
 obtain⟨v,hf,cs,rfl,⟨ls,hl,rfl⟩,h2⟩:=JN
 refine⟨_,hf,ls,hl,rfl,fun i hi=>?_⟩
 obtain⟨x,h3,h4⟩:=h2 i hi
 rw[eg V.u8 0#8,if_pos (by omega)] at h3
 rw[V.u8.inj h3];exact h4
def plc:List V:=[.i64 0,.i64 4,.i64 8,.i64 12,.i64 1,.i64 5,.i64 9,.i64 13,.i64 2,.i64 6,.i64 10,.i64 14,.i64 3,.i64 7,.i64 11,.i64 15,.i64 0,.i64 5,.i64 10,.i64 15,.i64 1,.i64 6,.i64 11,.i64 12,.i64 2,.i64 7,.i64 8,.i64 13,.i64 3,.i64 4,.i64 9,.i64 14]
theorem S3:[V.i64 0,V.i64 4,V.i64 8,V.i64 12,V.i64 1,V.i64 5,V.i64 9,V.i64 13,V.i64 2,V.i64 6,V.i64 10,V.i64 14,V.i64 3,V.i64 7,V.i64 11,V.i64 15,V.i64 0,V.i64 5,V.i64 10,V.i64 15,V.i64 1,V.i64 6,V.i64 11,V.i64 12,V.i64 2,V.i64 7,V.i64 8,V.i64 13,V.i64 3,V.i64 4,V.i64 9,V.i64 14]=plc:=rfl
theorem od (N:Nat):aa N plc=True:=by unfold plc;simp[aa,V.low]
theorem Cp:plc.take 32=plc:=rfl
theorem S4 (i:Nat)(h:i<8):∃ a b c d:Nat,a<16∧b<16∧c<16∧d<16∧(plc.drop (i*4)).take 4=[.i64 a,.i64 b,.i64 c,.i64 d]:=by
 match i,h with
 |0,_=>exact⟨0,4,8,12,by decide,by decide,by decide,by decide,rfl⟩
 |1,_=>exact⟨1,5,9,13,by decide,by decide,by decide,by decide,rfl⟩
 |2,_=>exact⟨2,6,10,14,by decide,by decide,by decide,by decide,rfl⟩
 |3,_=>exact⟨3,7,11,15,by decide,by decide,by decide,by decide,rfl⟩
 |4,_=>exact⟨0,5,10,15,by decide,by decide,by decide,by decide,rfl⟩
 |5,_=>exact⟨1,6,11,12,by decide,by decide,by decide,by decide,rfl⟩
 |6,_=>exact⟨2,7,8,13,by decide,by decide,by decide,by decide,rfl⟩
 |7,_=>exact⟨3,4,9,14,by decide,by decide,by decide,by decide,rfl⟩
theorem DC {ls:List (BitVec 8)}(h2:∀ i,i<160→(ls.getD i 0#8).toNat<16){k i:Nat}(hk:k<10)(hi:i<16):(((ls.drop (k*16)).take 16).getD i 0#8).toNat<16:=by
 rw[List.getD_eq_getElem?_getD,List.getElem?_take_of_lt hi,List.getElem?_drop,←List.getD_eq_getElem?_getD]
 exact h2 _ (by omega)
theorem Ao (hs0:List (BitVec 32))(hl:hs0.length=8)(b:List ac)(hb:b.length=64)(many:BitVec 64)(last:Bool):∃ v,ao Tryz.prog 107 [.agg (hs0.map .u32),.str b,.u64 many,.bool last] v∧∃ hs':List (BitVec 32),v= .agg (hs'.map .u32)∧hs'.length=8:=by
 refine eW (Post:=fun v=>∃ hs':List (BitVec 32),v= .agg (hs'.map .u32)∧hs'.length=8) (by kernel_rfl) (by kernel_rfl) (fn:=Tryz.f107) Tryz.func107 rfl (by show 4≤112;decide) (by simp[aa,V.low]) (fun v h=>by first|(obtain⟨s,rfl,h⟩:=h;simp[V.low])|(obtain⟨s,h,rfl⟩:=h;simp[aa,V.low])) (ae ?_)
 simp only[go_sem,↓reduceIte,Nat.reduceEqDiff,Nat.reduceLT,Nat.reduceLeDiff,Nat.reduceAdd,Int.reduceLE,Int.reduceToNat,Int.reduceSub,List.length_map,hl,↓CZ,↓qp,List.length_replicate,List.length_take,←List.map_take,uZ,Nat.min_self,Nat.zero_add]
 repeat refine aJ ?_
 refine cy (C3) ?_
 rintro _ ⟨vs,hvs,rfl⟩
 simp only[go_sem,↓reduceIte,Nat.reduceEqDiff,Nat.reduceLT,Nat.reduceLeDiff,Nat.reduceAdd,Int.reduceLE,Int.reduceLT,Int.reduceToNat,Int.reduceSub,BitVec.reduceOfInt,BitVec.reduceToNat,reduceCtorEq,↓CZ,↓qp,uZ,List.length_replicate,hl,hvs,List.length_map,List.length_take,←List.map_take,Nat.min_self,Nat.zero_add,eg V.u32 0#32,ik,HW]
 repeat refine aJ ?_
 refine Rl fun s hs=>?_
 obtain⟨t,w,hw,rfl,h1,h4,h8,h9,h11,h44⟩:∃ (t:List (Nat×V)) (w:List (BitVec 32)),w.length=16∧s=⟨t,[bK (hs0.map .u32),bK ((List.replicate 8 0#32).map .u32),bK (w.map .u32),bK ((jZ (List.replicate 8 0#32) 0 vs).map .u32),bK ((List.replicate 16 0#32).map .u32)]⟩∧af t 1= .str b∧af t 4= .ptr 0 0∧af t 8= .ptr 1 0∧af t 9= .ptr 2 0∧af t 11= .ptr 4 0∧af t 44= .i64 (0:Nat):=by
  rcases hs with rfl|rfl
  ·exact⟨_,_,by simp only[List.length_set,wE,List.length_take,List.length_replicate,hl,hvs];rfl,rfl,rfl,rfl,rfl,rfl,rfl,rfl⟩
  ·exact⟨_,_,by simp only[List.length_set,wE,List.length_take,List.length_replicate,hl,hvs];rfl,rfl,rfl,rfl,rfl,rfl,rfl,rfl⟩
 refine bf (fun j st=>∃ (i:Nat) (vs ms:List (BitVec 32)),i+j=16∧ms.length=16∧st=⟨[(1,.str b),(4,.ptr 0 0),(8,.ptr 1 0),(9,.ptr 2 0),(11,.ptr 4 0),(44,.i64 i)],[bK (hs0.map .u32),bK ((List.replicate 8 0#32).map .u32),bK (w.map .u32),bK (vs.map .u32),bK (ms.map .u32)]⟩) ?_ ?_
 ·refine ig (16) [1,4,8,9,11,44] 5 (by simp) (by simp) (by simp[cB,St.get,V.low,-List.map_take,-List.map_drop,-List.map_map,-List.map_set,h1,h4,h8,h9,h11,h44]) (by simp[aO,aa,V.low,-List.map_take,-List.map_drop,-List.map_map,-List.map_set]) ?_
  simp only[ct,List.map_cons,List.map_nil,St.get,Nat.reduceEqDiff,List.take_succ_cons,List.take_zero,h1,h4,h8,h9,h11,h44]
  exact⟨0,_,_,by omega,by simp,rfl⟩
 clear hs h1 h4 h8 h9 h11 h44
 rintro j st ⟨i,vs,ms,hij,hms,rfl⟩-
 by_cases hi:i<16
 ·have hi':(i:Int)<16:=by omega
  have hw1:=gM (i:=i) (by omega)
  have e4:aj (4*(i:Int))=((4*i:Nat):Int):=by rw[am (by omega) (by omega)];omega
  have e5:aj (((4*i:Nat):Int)+4)=((4*i+4:Nat):Int):=by rw[am (by omega) (by omega)];omega
  simp only[go_sem,↓reduceIte,Nat.reduceEqDiff,Nat.reduceLT,hi',e4,e5,hb]
  repeat refine aJ ?_
  refine ak (eT _ (by simp;omega)) ?_
  simp only[go_sem,↓reduceIte,Nat.reduceEqDiff,Nat.reduceLT,Nat.reduceLeDiff,List.length_map,hms,ik,hw1]
  repeat refine aJ ?_
  refine je (j-1) [1,4,8,9,11,44] 5 (by omega) (by simp) (by simp) (by simp[cB,St.get,af,V.low,-List.map_take,-List.map_drop,-List.map_map,-List.map_set]) (by simp[aO,aa,V.low,-List.map_take,-List.map_drop,-List.map_map,-List.map_set]) ?_
  simp only[ct,List.map_cons,List.map_nil,St.get,af,↓reduceIte,Nat.reduceEqDiff,List.take_succ_cons,List.take_zero]
  exact⟨i+1,_,_,by omega,by simpa using hms,rfl⟩
 ·have hi':¬ (i:Int)<16:=by omega
  simp only[go_sem,↓reduceIte,Nat.reduceEqDiff,Nat.reduceLT,Nat.reduceLeDiff,Nat.reduceAdd,Nat.reduceMul,hi']
  refine cy (Ic) ?_
  rintro _ ⟨ls,hls,rfl,hls2⟩
  simp only[go_sem,Nat.reduceLT,↓S3]
  refine bf (fun j st=>∃ (i:Nat) (ws:List (BitVec 32)),i+j=10∧ws.length=16∧st=⟨[(4,.ptr 0 0),(8,.ptr 1 0),(9,.ptr 2 0),(11,.ptr 4 0),(13,.ptr 5 0),(68,.agg (ls.map .u8)),(69,.i64 i)],[bK (hs0.map .u32),bK ((List.replicate 8 0#32).map .u32),bK (ws.map .u32),bK (vs.map .u32),bK (ms.map .u32),bK plc]⟩) ?_ ?_
  ·refine ig (10) [4,8,9,11,13,68,69] 6 (by simp) (by simp) (by simp[cB,St.get,af,V.low,-List.map_take,-List.map_drop,-List.map_map,-List.map_set]) (by simp[aO,aa,V.low,-List.map_take,-List.map_drop,-List.map_map,-List.map_set,od]) ?_
   simp only[ct,List.map_cons,List.map_nil,St.get,af,↓reduceIte,Nat.reduceEqDiff,List.take_succ_cons,List.take_zero]
   exact⟨0,_,by omega,hw,rfl⟩
  clear hw w
  rintro j st ⟨i,ws,hij,hws,rfl⟩-
  by_cases hi:i<10
  ·have hi':(i:Int)<10:=by omega
   have hw1:=gM (i:=i) (by omega)
   have hm16:min 16 (160-i*16)=16:=by omega
   simp only[go_sem,↓reduceIte,Nat.reduceEqDiff,Nat.reduceLT,Nat.reduceAdd,hi',hls,hm16,bi,List.length_cons,List.length_nil,List.length_map,List.length_take,List.length_drop]
   repeat refine aJ ?_
   refine bf (fun j2 st=>∃ (c:Nat) (ws:List (BitVec 32)),c+j2=8∧ws.length=16∧st=⟨[(4,.ptr 0 0),(8,.ptr 1 0),(9,.ptr 2 0),(11,.ptr 4 0),(13,.ptr 5 0),(68,.agg (ls.map .u8)),(69,.i64 i),(15,.ptr 6 0),(72,.agg plc),(73,.i64 c)],[bK (hs0.map .u32),bK ((List.replicate 8 0#32).map .u32),bK (ws.map .u32),bK (vs.map .u32),bK (ms.map .u32),bK plc,bK (((ls.drop (i*16)).take 16).map .u8)]⟩) ?_ ?_
   ·refine ig (8) [4,8,9,11,13,68,69,15,72,73] 7 (by simp) (by simp) (by simp[cB,St.get,af,V.low,-List.map_take,-List.map_drop,-List.map_map,-List.map_set,od,Cp]) (by simp[aO,aa,V.low,-List.map_take,-List.map_drop,-List.map_map,-List.map_set,od]) ?_
    simp only[ct,List.map_cons,List.map_nil,St.get,af,↓reduceIte,Nat.reduceEqDiff,List.take_succ_cons,List.take_zero,Cp]
    exact⟨0,_,by omega,hws,rfl⟩
   clear hws ws
   rintro j2 st ⟨c,ws,hcj,hws,rfl⟩-
   by_cases hc:c<8
   ·have hc':(c:Int)<8:=by omega
    have hw2:=gM (i:=c) (by omega)
    obtain⟨a1,a2,a3,a4,g1,g2,g3,g4,ep⟩:=S4 c hc
    have e2:aj (2*(c:Int))=((2*c:Nat):Int):=by rw[am (by omega) (by omega)];omega
    have e3:aj (((2*c:Nat):Int)+1)=((2*c+1:Nat):Int):=by rw[am (by omega) (by omega)];omega
    have q1:=DC hls2 hi (i:=2*c) (by omega)
    have q2:=DC hls2 hi (i:=2*c+1) (by omega)
    simp only[go_sem,↓reduceIte,Nat.reduceEqDiff,Nat.reduceLT,Nat.reduceAdd,hc',ep,e2,e3,bi,List.length_cons,List.length_nil,hls,hm16,eg V.u8 0#8,List.length_map,List.length_take,List.length_drop,show 2*c<16 by omega,show 2*c+1<16 by omega,eg V.u32 0#32,hms,q1,q2]
    repeat refine aJ ?_
    obtain⟨_,_,hmix,rfl,ws',hws',rfl⟩:=Qk a1 a2 a3 a4 (ms.getD (((ls.drop (i*16)).take 16).getD (2*c) 0#8).toNat 0#32) (ms.getD (((ls.drop (i*16)).take 16).getD (2*c+1) 0#8).toNat 0#32) ws hws g1 g2 g3 g4
    refine bh [2] (hmix) (by kernel_rfl) (by simp) rfl (by simp) (by first|decide|simp) (by simp) (by simp) (by simp) (by simp) (by simp) ?_
    simp only[go_sem,↓reduceIte,Nat.reduceEqDiff,Nat.reduceLT,Nat.reduceAdd,Nat.reduceSub,hw2]
    repeat refine aJ ?_
    refine je (j2-1) [4,8,9,11,13,68,69,15,72,73] 7 (by omega) (by simp) (by simp) (by simp[cB,St.get,af,V.low,-List.map_take,-List.map_drop,-List.map_map,-List.map_set,od]) (by simp[aO,aa,V.low,-List.map_take,-List.map_drop,-List.map_map,-List.map_set,od]) ?_
    simp only[ct,List.map_cons,List.map_nil,St.get,af,↓reduceIte,Nat.reduceEqDiff,List.take_succ_cons,List.take_zero]
    exact⟨c+1,_,by omega,hws',rfl⟩
   ·have hc':¬ (c:Int)<8:=by omega
    simp only[go_sem,↓reduceIte,Nat.reduceEqDiff,Nat.reduceLT,hc',hw1]
    refine je (j-1) [4,8,9,11,13,68,69] 6 (by omega) (by simp) (by simp) (by simp[cB,St.get,af,V.low,-List.map_take,-List.map_drop,-List.map_map,-List.map_set]) (by simp[aO,aa,V.low,-List.map_take,-List.map_drop,-List.map_map,-List.map_set,od]) ?_
    simp only[ct,List.map_cons,List.map_nil,St.get,af,↓reduceIte,Nat.reduceEqDiff,List.take_succ_cons,List.take_zero]
    exact⟨i+1,_,by omega,hws,rfl⟩
  ·have hi':¬ (i:Int)<10:=by omega
   simp only[go_sem,↓reduceIte,Nat.reduceEqDiff,Nat.reduceLT,hi']
   refine bf (fun j st=>∃ (i:Nat) (hs:List (BitVec 32)),i+j=8∧hs.length=8∧st=⟨[(4,.ptr 0 0),(8,.ptr 1 0),(9,.ptr 2 0),(94,.i64 i)],[bK (hs.map .u32),bK ((List.replicate 8 0#32).map .u32),bK (ws.map .u32)]⟩) ?_ ?_
   ·refine ig (8) [4,8,9,94] 3 (by simp) (by simp) (by simp[cB,St.get,af,V.low,-List.map_take,-List.map_drop,-List.map_map,-List.map_set]) (by simp[aO,aa,V.low,-List.map_take,-List.map_drop,-List.map_map,-List.map_set]) ?_
    simp only[ct,List.map_cons,List.map_nil,St.get,af,↓reduceIte,Nat.reduceEqDiff,List.take_succ_cons,List.take_zero]
    exact⟨0,_,by omega,hl,rfl⟩
   rintro j st ⟨i,hs,hij,hhs,rfl⟩-
   by_cases hi:i<8
   ·have hi':(i:Int)<8:=by omega
    have hw1:=gM (i:=i) (by omega)
    have e8:aj ((i:Int)+8)=((i+8:Nat):Int):=by rw[am (by omega) (by omega)];omega
    simp only[go_sem,↓reduceIte,Nat.reduceEqDiff,Nat.reduceLT,Nat.reduceLeDiff,Nat.reduceAdd,hi',e8,List.length_map,hhs,hws,eg V.u32 0#32,ik,show i+8<16 by omega,show i<16 by omega,hi,hw1]
    repeat refine aJ ?_
    refine je (j-1) [4,8,9,94] 3 (by omega) (by simp) (by simp) (by simp[cB,St.get,af,V.low,-List.map_take,-List.map_drop,-List.map_map,-List.map_set]) (by simp[aO,aa,V.low,-List.map_take,-List.map_drop,-List.map_map,-List.map_set]) ?_
    simp only[ct,List.map_cons,List.map_nil,St.get,af,↓reduceIte,Nat.reduceEqDiff,List.take_succ_cons,List.take_zero]
    exact⟨i+1,_,by omega,by simpa using hhs,rfl⟩
   ·have hi':¬ (i:Int)<8:=by omega
    simp only[go_sem,↓reduceIte,Nat.reduceEqDiff,Nat.reduceLT,hi',bi,List.length_map,hhs,List.length_replicate,List.take_of_length_le (show hs.length≤8 by omega)]
    repeat refine aJ ?_
    exact⟨hs,rfl,hhs⟩
section
theorem nU (x:BitVec 32)(n:Int):∃ v,ao Tryz.prog 167 [.u32 x,.i64 n] v∧∃ y:BitVec 32,v= .u32 y:=⟨_,ke x n,_,rfl⟩
theorem rL (x:BitVec 32)(a b c:Int):∃ v,ao Tryz.prog 168 [.u32 x,.i64 a,.i64 b,.i64 c] v∧∃ y:BitVec 32,v= .u32 y:=by
 by_cases h:0<c
 ·refine eW (Post:=fun v=>∃ y:BitVec 32,v= .u32 y) (by kernel_rfl) (by kernel_rfl) (fn:=Tryz.f168) Tryz.func168 rfl (by show 4≤29;decide) (by simp[aa,V.low]) (fun v h=>by obtain⟨y,rfl⟩:=h;trivial) (ae ?_)
  simp -implicitDefEqProofs only[go_sem,seval]
  refine cy (nU _ _) ?_
  rintro _ ⟨y1,rfl⟩
  simp -implicitDefEqProofs only[go_sem,seval,h]
  repeat refine aJ ?_
  refine cy (nU _ _) ?_
  rintro _ ⟨y2,rfl⟩
  simp -implicitDefEqProofs only[go_sem,seval]
  refine cy (nU _ _) ?_
  rintro _ ⟨y3,rfl⟩
  simp -implicitDefEqProofs only[go_sem,seval]
  exact⟨_,rfl⟩
 ·refine eW (Post:=fun v=>∃ y:BitVec 32,v= .u32 y) (by kernel_rfl) (by kernel_rfl) (fn:=Tryz.f168) Tryz.func168 rfl (by show 4≤29;decide) (by simp[aa,V.low]) (fun v h=>by obtain⟨y,rfl⟩:=h;trivial) (ae ?_)
  simp -implicitDefEqProofs only[go_sem,seval]
  refine cy (nU _ _) ?_
  rintro _ ⟨y1,rfl⟩
  simp -implicitDefEqProofs only[go_sem,seval,h]
  refine cy (nU _ _) ?_
  rintro _ ⟨y2,rfl⟩
  simp -implicitDefEqProofs only[go_sem,seval]
  refine cy (nU _ _) ?_
  rintro _ ⟨y3,rfl⟩
  simp -implicitDefEqProofs only[go_sem,seval]
  exact⟨_,rfl⟩
theorem FO:∃ v,ao Tryz.prog 150 [] v∧∃ hs:List (BitVec 32),hs.length=8∧v= .agg (hs.map .u32):=by
 refine eW (Post:=fun v=>∃ hs:List (BitVec 32),hs.length=8∧v= .agg (hs.map .u32)) (by kernel_rfl) (by kernel_rfl) (fn:=Tryz.f150) Tryz.func150 rfl (by show 0≤2;decide) (trivial) (fun v h=>by obtain⟨hs,-,rfl⟩:=h;exact qY (mk:=V.u32) (fun _=>trivial) hs) (ae ?_)
 simp -implicitDefEqProofs only[go_sem,seval]
 exact⟨[_,_,_,_,_,_,_,_],rfl,rfl⟩
def DP:V→BitVec 32
 | .u32 x=>x
 |_=>0#32
def xp (cs:List V):Bool:=cs.all fun | .u32 _=>true|_=>false
theorem JO {cs:List V}(h:xp cs=true):cs=(cs.map DP).map .u32:=by
 unfold xp at h
 rw[List.all_eq_true] at h
 refine List.ext_getElem (by simp) fun i h1 h2=>?_
 have :=h cs[i] (List.getElem_mem _)
 rw[List.getElem_map,List.getElem_map]
 split at this
 ·rename_i x hx;rw[hx];rfl
 ·cases this
theorem JP {cs:List V}{n:Nat}(h:xp cs=true)(hl:cs.length=n):∃ hs:List (BitVec 32),hs.length=n∧V.agg cs= .agg (hs.map .u32):=
 ⟨cs.map DP,by rw[List.length_map];exact hl,congrArg V.agg (JO h)⟩
set_option maxRecDepth 200000 in
theorem Fb:∃ v,ao Tryz.prog 169 [] v∧∃ hs:List (BitVec 32),hs.length=64∧v= .agg (hs.map .u32):=by
 refine eW (Post:=fun v=>∃ hs:List (BitVec 32),hs.length=64∧v= .agg (hs.map .u32)) (by kernel_rfl) (by kernel_rfl) (fn:=Tryz.f169) Tryz.func169 rfl (by show 0≤2;decide) (trivial) (fun v h=>by obtain⟨hs,-,rfl⟩:=h;exact qY (mk:=V.u32) (fun _=>trivial) hs) (ae ?_)
 simp -implicitDefEqProofs only[go_sem,seval]
 exact JP (by kernel_rfl) (by kernel_rfl)
theorem S5:[V.u32 0#32,V.u32 0#32,V.u32 0#32,V.u32 0#32,V.u32 0#32,V.u32 0#32,V.u32 0#32,V.u32 0#32,V.u32 0#32,V.u32 0#32,V.u32 0#32,V.u32 0#32,V.u32 0#32,V.u32 0#32,V.u32 0#32,V.u32 0#32,V.u32 0#32,V.u32 0#32,V.u32 0#32,V.u32 0#32,V.u32 0#32,V.u32 0#32,V.u32 0#32,V.u32 0#32,V.u32 0#32,V.u32 0#32,V.u32 0#32,V.u32 0#32,V.u32 0#32,V.u32 0#32,V.u32 0#32,V.u32 0#32,V.u32 0#32,V.u32 0#32,V.u32 0#32,V.u32 0#32,V.u32 0#32,V.u32 0#32,V.u32 0#32,V.u32 0#32,V.u32 0#32,V.u32 0#32,V.u32 0#32,V.u32 0#32,V.u32 0#32,V.u32 0#32,V.u32 0#32,V.u32 0#32,V.u32 0#32,V.u32 0#32,V.u32 0#32,V.u32 0#32,V.u32 0#32,V.u32 0#32,V.u32 0#32,V.u32 0#32,V.u32 0#32,V.u32 0#32,V.u32 0#32,V.u32 0#32,V.u32 0#32,V.u32 0#32,V.u32 0#32,V.u32 0#32]=(List.replicate 64 0#32).map V.u32:=rfl
theorem Ap (hs0:List (BitVec 32))(hl:hs0.length=8)(b:List ac)(hb:b.length=64):∃ v,ao Tryz.prog 151 [.agg (hs0.map .u32),.str b] v∧∃ hs':List (BitVec 32),hs'.length=8∧v= .agg (hs'.map .u32):=by
 refine eW (Post:=fun v=>∃ hs':List (BitVec 32),hs'.length=8∧v= .agg (hs'.map .u32)) (by kernel_rfl) (by kernel_rfl) (fn:=Tryz.f151) Tryz.func151 rfl (by show 2≤131;decide) (by simp[aa,V.low]) (fun v h=>by first|(obtain⟨s,rfl,h⟩:=h;simp[aa,V.low])|(obtain⟨s,h,rfl⟩:=h;simp[V.low])) (ae ?_)
 simp only[go_sem,↓reduceIte,Nat.reduceLT,Nat.reduceAdd,Int.reduceNeg,↓S5,↓qp]
 refine bf (fun j st=>∃ (i:Nat) (ws:List (BitVec 32)),i+j=64∧ws.length=64∧st=⟨[(1,.str b),(2,.ptr 0 0),(4,.ptr 1 0),(5,.ptr 2 0),(15,.i64 i)],[bK (hs0.map .u32),bK ((List.replicate 8 0#32).map .u32),bK (ws.map .u32)]⟩) ?_ ?_
 ·refine ig (64) [1,2,4,5,15] 3 (by simp) (by simp) (by simp[cB,St.get,af,V.low,-List.map_take,-List.map_drop,-List.map_map,-List.map_set]) (by simp[aO,aa,V.low,-List.map_take,-List.map_drop,-List.map_map,-List.map_set]) ?_
  simp only[ct,List.map_cons,List.map_nil,St.get,af,↓reduceIte,Nat.reduceEqDiff,List.take_succ_cons,List.take_zero]
  exact⟨0,List.replicate 64 0#32,by omega,by rw[List.length_replicate],rfl⟩
 rintro j st ⟨i,ws,hij,hws,rfl⟩-
 by_cases hi:i<64
 ·have hi':(i:Int)<64:=by omega
  have hw1:=gM (i:=i) (by omega)
  by_cases h16:i<16
  ·have h16':(i:Int)<16:=by omega
   have e4:aj (4*(i:Int))=((4*i:Nat):Int):=by rw[am (by omega) (by omega)];omega
   have e5:aj (((4*i:Nat):Int)+4)=((4*i+4:Nat):Int):=by rw[am (by omega) (by omega)];omega
   simp only[go_sem,↓reduceIte,Nat.reduceEqDiff,Nat.reduceLT,Int.reduceNeg,hi',h16',e4,e5,hb]
   repeat refine aJ ?_
   refine ak (jn _ (by simp;omega)) ?_
   simp only[go_sem,↓reduceIte,Nat.reduceEqDiff,Nat.reduceLT,Nat.reduceLeDiff,Int.reduceNeg,List.length_map,hws,ik,hw1]
   repeat refine aJ ?_
   refine je (j-1) [1,2,4,5,15] 3 (by omega) (by simp) (by simp) (by simp[cB,St.get,af,V.low,-List.map_take,-List.map_drop,-List.map_map,-List.map_set]) (by simp[aO,aa,V.low,-List.map_take,-List.map_drop,-List.map_map,-List.map_set]) ?_
   simp only[ct,List.map_cons,List.map_nil,St.get,af,↓reduceIte,Nat.reduceEqDiff,List.take_succ_cons,List.take_zero]
   exact⟨i+1,_,by omega,by simpa using hws,rfl⟩
  ·have h16':¬ (i:Int)<16:=by omega
   have f1:aj ((i:Int)-16)=((i-16:Nat):Int):=by rw[am (by omega) (by omega)];omega
   have f2:aj ((i:Int)-7)=((i-7:Nat):Int):=by rw[am (by omega) (by omega)];omega
   have f3:aj ((i:Int)-15)=((i-15:Nat):Int):=by rw[am (by omega) (by omega)];omega
   have f4:aj ((i:Int)-2)=((i-2:Nat):Int):=by rw[am (by omega) (by omega)];omega
   simp only[go_sem,↓reduceIte,Nat.reduceEqDiff,Nat.reduceLT,Nat.reduceAdd,Int.reduceNeg,hi',h16',f1,f2,f3,hws,List.length_map,eg V.u32 0#32,show i-16<64 by omega,show i-7<64 by omega,show i-15<64 by omega]
   repeat refine aJ ?_
   refine lg (rL _ _ _ _) ?_
   rintro _ ⟨y1,rfl⟩
   simp only[go_sem,↓reduceIte,Nat.reduceEqDiff,Nat.reduceLT,Nat.reduceAdd,Int.reduceNeg,f4,hws,List.length_map,eg V.u32 0#32,show i-2<64 by omega]
   repeat refine aJ ?_
   refine lg (rL _ _ _ _) ?_
   rintro _ ⟨y2,rfl⟩
   simp only[go_sem,↓reduceIte,Nat.reduceEqDiff,Nat.reduceLT,Nat.reduceLeDiff,Nat.reduceAdd,Int.reduceNeg,hws,List.length_map,ik,hw1]
   repeat refine aJ ?_
   refine je (j-1) [1,2,4,5,15] 3 (by omega) (by simp) (by simp) (by simp[cB,St.get,af,V.low,-List.map_take,-List.map_drop,-List.map_map,-List.map_set]) (by simp[aO,aa,V.low,-List.map_take,-List.map_drop,-List.map_map,-List.map_set]) ?_
   simp only[ct,List.map_cons,List.map_nil,St.get,af,↓reduceIte,Nat.reduceEqDiff,List.take_succ_cons,List.take_zero]
   exact⟨i+1,_,by omega,by simpa using hws,rfl⟩
 have hi':¬ (i:Int)<64:=by omega
 simp only[go_sem,↓reduceIte,Nat.reduceEqDiff,Nat.reduceLT,Nat.reduceAdd,Int.reduceNeg,hi',List.length_map,hl,↓qp,bi,List.length_replicate,List.take_of_length_le (show hs0.length≤8 by omega)]
 repeat refine aJ ?_
 refine cy (Fb) ?_
 rintro _ ⟨ks,hks,rfl⟩
 simp only[go_sem,Nat.reduceLT,Int.reduceNeg]
 refine bf (fun j st=>∃ (i:Nat) (vs:List (BitVec 32)),i+j=64∧vs.length=8∧st=⟨[(2,.ptr 0 0),(4,.ptr 1 0),(5,.ptr 2 0),(7,.ptr 3 0),(56,.agg (ks.map .u32)),(57,.i64 i)],[bK (hs0.map .u32),bK ((List.replicate 8 0#32).map .u32),bK (ws.map .u32),bK (vs.map .u32)]⟩) ?_ ?_
 ·refine ig (64) [2,4,5,7,56,57] 4 (by simp) (by simp) (by simp[cB,St.get,af,V.low,-List.map_take,-List.map_drop,-List.map_map,-List.map_set]) (by simp[aO,aa,V.low,-List.map_take,-List.map_drop,-List.map_map,-List.map_set]) ?_
  simp only[ct,List.map_cons,List.map_nil,St.get,af,↓reduceIte,Nat.reduceEqDiff,List.take_succ_cons,List.take_zero]
  exact⟨0,_,by omega,hl,rfl⟩
 clear hij hi hi' i
 rintro j st ⟨i,vs,hij,hvs,rfl⟩-
 by_cases hi:i<64
 ·have hi':(i:Int)<64:=by omega
  have hw1:=gM (i:=i) (by omega)
  have hsp:=uZ V.u32 vs 1 (List.take (min 7 7) (List.take 7 vs)) (by simp;omega)
  have hsl:(jZ vs 1 (List.take (min 7 7) (List.take 7 vs))).length=8:=by simp[wE,hvs]
  simp only[go_sem,↓reduceIte,Nat.reduceEqDiff,Nat.reduceLT,Nat.reduceAdd,Int.reduceLE,Int.reduceLT,Int.reduceToNat,Int.reduceNeg,hi',hks,hvs,List.length_map,eg V.u32 0#32,hi]
  repeat refine aJ ?_
  refine lg (rL _ _ _ _) ?_
  rintro _ ⟨y1,rfl⟩
  simp only[go_sem,↓reduceIte,Nat.reduceEqDiff,Nat.reduceLT,Nat.reduceAdd,Int.reduceLE,Int.reduceLT,Int.reduceToNat,Int.reduceNeg,hvs,hws,List.length_map,eg V.u32 0#32,hi]
  repeat refine aJ ?_
  refine lg (rL _ _ _ _) ?_
  rintro _ ⟨y2,rfl⟩
  simp only[go_sem,↓reduceIte,Nat.reduceEqDiff,Nat.reduceLT,Nat.reduceLeDiff,Nat.reduceAdd,Int.reduceLE,Int.reduceLT,Int.reduceToNat,Int.reduceSub,Int.reduceNeg,hvs,List.length_map,eg V.u32 0#32,hsp,hsl,ik,List.length_set,hw1]
  repeat refine aJ ?_
  refine je (j-1) [2,4,5,7,56,57] 4 (by omega) (by simp) (by simp) (by simp[cB,St.get,af,V.low,-List.map_take,-List.map_drop,-List.map_map,-List.map_set]) (by simp[aO,aa,V.low,-List.map_take,-List.map_drop,-List.map_map,-List.map_set]) ?_
  simp only[ct,List.map_cons,List.map_nil,St.get,af,↓reduceIte,Nat.reduceEqDiff,List.take_succ_cons,List.take_zero]
  exact⟨i+1,_,by omega,by rw[List.length_set,List.length_set];exact hsl,rfl⟩
 have hi':¬ (i:Int)<64:=by omega
 simp only[go_sem,↓reduceIte,Nat.reduceEqDiff,Nat.reduceLT,Int.reduceNeg,hi']
 refine bf (fun j st=>∃ (i:Nat) (hs:List (BitVec 32)),i+j=8∧hs.length=8∧st=⟨[(2,.ptr 0 0),(4,.ptr 1 0),(7,.ptr 3 0),(118,.i64 i)],[bK (hs.map .u32),bK ((List.replicate 8 0#32).map .u32),bK (ws.map .u32),bK (vs.map .u32)]⟩) ?_ ?_
 ·refine ig (8) [2,4,7,118] 4 (by simp) (by simp) (by simp[cB,St.get,af,V.low,-List.map_take,-List.map_drop,-List.map_map,-List.map_set]) (by simp[aO,aa,V.low,-List.map_take,-List.map_drop,-List.map_map,-List.map_set]) ?_
  simp only[ct,List.map_cons,List.map_nil,St.get,af,↓reduceIte,Nat.reduceEqDiff,List.take_succ_cons,List.take_zero]
  exact⟨0,_,by omega,hl,rfl⟩
 clear hij hi hi' i
 rintro j st ⟨i,hs,hij,hhs,rfl⟩-
 by_cases hi:i<8
 ·have hi':(i:Int)<8:=by omega
  have hw1:=gM (i:=i) (by omega)
  simp only[go_sem,↓reduceIte,Nat.reduceEqDiff,Nat.reduceLT,Nat.reduceLeDiff,Nat.reduceAdd,hi',List.length_map,hhs,hvs,eg V.u32 0#32,ik,hi,hw1]
  repeat refine aJ ?_
  refine je (j-1) [2,4,7,118] 4 (by omega) (by simp) (by simp) (by simp[cB,St.get,af,V.low,-List.map_take,-List.map_drop,-List.map_map,-List.map_set]) (by simp[aO,aa,V.low,-List.map_take,-List.map_drop,-List.map_map,-List.map_set]) ?_
  simp only[ct,List.map_cons,List.map_nil,St.get,af,↓reduceIte,Nat.reduceEqDiff,List.take_succ_cons,List.take_zero]
  exact⟨i+1,_,by omega,by simpa using hhs,rfl⟩
 have hi':¬ (i:Int)<8:=by omega
 simp only[go_sem,↓reduceIte,Nat.reduceEqDiff,Nat.reduceLT,hi',bi,List.length_map,hhs,List.length_replicate,List.take_of_length_le (show hs.length≤8 by omega)]
 repeat refine aJ ?_
 exact⟨hs,hhs,rfl⟩
end
end Go.Vm
end
