/- Proved: laws of a machine of values, or what a function answers; no conditions but each theorem's own. -/
import Derived.ProofKit
import Derived.OpenShut
import Derived.SizedLaws
import Derived.Deep.CondSized
import Derived.Test.YtgnnehmeciepaaaGreatDoorVmXToVmQ
set_option linter.unusedVariables false
set_option linter.unusedSimpArgs false
set_option linter.unusedSectionVars false
set_option maxRecDepth 20000
set_option maxHeartbeats 8000000
section
namespace Go.Vm
section
open Go.ChangeShapes Go.WideShapes Go.ChangeAt Go.RowKit
inductive AK where
 |u8|u32|u64|i64|i32|bool|str
def AK.fits (P:Program)(t:TypeId):AK→Prop
 | .u8=>P.underlying t=some (.int .u8)
 | .u32=>P.underlying t=some (.int .u32)
 | .u64=>P.underlying t=some (.int .u64)
 | .i64=>P.underlying t=some (.int .i64)
 | .i32=>P.underlying t=some (.int .i32)
 | .bool=>P.underlying t=some .bool
 | .str=>P.underlying t=some .string
def i6:List AK→(List V→Prop)→Prop
 |[],q=>q []
 | .u8::ks,q=>∀ x:BitVec 8,i6 ks fun l=>q (.u8 x::l)
 | .u32::ks,q=>∀ x:BitVec 32,i6 ks fun l=>q (.u32 x::l)
 | .u64::ks,q=>∀ x:BitVec 64,i6 ks fun l=>q (.u64 x::l)
 | .i64::ks,q=>∀ n:Int,-9223372036854775808≤n→n≤9223372036854775807→i6 ks fun l=>q (.i64 n::l)
 | .i32::ks,q=>∀ n:Int,-2147483648≤n→n≤2147483647→i6 ks fun l=>q (.i32 n::l)
 | .bool::ks,q=>∀ b:Bool,i6 ks fun l=>q (.bool b::l)
 | .str::ks,q=>∀ s:List (BitVec 8),s.length≤140737488351232→i6 ks fun l=>q (.str s::l)
theorem wU {k:IntKind}{n:Int}{w:Nat}(h:(Lit.int k n).wf=true)(h1:k.min=0)(h2:k.max=2^w-1):n=((BitVec.ofInt w n).toNat:Int):=by
 simp only[Lit.wf,Bool.and_eq_true,decide_eq_true_eq,h1,h2] at h
 rw[BitVec.toNat_ofInt]
 have :((2^w:Nat):Int)=2^w:=by simp
 rw[this,Int.emod_eq_of_lt h.1 (by omega)]
 omega
section
variable {H:Type}{enc:TypeId×Value→H}{P:Program}{W:World}{base:Nat}
end
end
theorem Bf (x y:Nat):(x:Int).tmod (y:Int)=((x%y:Nat):Int):=rfl
theorem Bg (x y:Nat):(x:Int).tdiv (y:Int)=((x/y:Nat):Int):=rfl
def tw (p:Nat→Bool):Nat→Bool:=fun k=>Nat.rec true (fun i ih=>and (p i) ih) k
theorem vX {p:Nat→Bool}:∀ {k:Nat},tw p k=true→∀ i,i<k→p i=true
 |k+1,h,i,hi=>by
  have h':(p k&&tw p k)=true:=h
  rw[Bool.and_eq_true] at h'
  by_cases e:i=k
  ·subst e;exact h'.1
  ·exact vX h'.2 i (by omega)
section
section
variable {P:Program}{m n:Nat}{R:Exit→St→Prop}{k:List Fr}{s:St}{c:Code}
def qB (P:Program)(m n:Nat)(R:Exit→St→Prop)(c:Code)(k:List Fr):Nat→St→Prop
 |0,_=>False
 |K+1,s=>go P m n (fo (qB P m n R c k K) (kQ P m n R k)) c [] s
theorem Ly (K:Nat)(h:(0<K)=True):qB P m n R c k K s=go P m n (fo (qB P m n R c k (K-1)) (kQ P m n R k)) c [] s:=by
 cases K with
 |zero=>simp at h
 |succ K=>rfl
theorem aY (K:Nat)(h:qB P m n R c k K s):go P m n R (.loop c) k s:=by
 refine bf (fun j s=>qB P m n R c k j s) ⟨K,s,Weak.refl _ _ _,h⟩ (fun j s hj _=>?_)
 cases j with
 |zero=>exact hj.elim
 |succ j=>
  refine eL c _ _ s (fun e s' he=>?_) hj
  cases e
  case normal=>exact⟨j,s',Nat.lt_succ_self j,Weak.refl _ _ _,he⟩
  all_goals exact he
theorem JD (P:Program)(s:St)(x t:Nat)(r:List ResultVar)(K:List V→Prop):cO P s (.cell x t::r) K=eH (bq P (.load t (.tmp x)) s.ev (ab s.H) s.H.length) (fun res=>cO P s r fun l=>K (res.v::l)):=rfl
attribute [go_sem] Ly JD Hs
end
end
attribute [go_sem] ip fP V.cells V.solid V.nat? iX jr eP iq ir oN fc kn oD ca l6 V.beq1 V.low aa
theorem OY (x:BitVec 8):V.one (.u8 x)=true:=rfl
theorem Lz (x:BitVec 32):V.one (.u32 x)=true:=rfl
theorem LA (x:BitVec 64):V.one (.u64 x)=true:=rfl
theorem LB (x:Int):V.one (.i64 x)=true:=rfl
theorem LC (x:Int):V.one (.i32 x)=true:=rfl
theorem JE (x:Bool):V.one (.bool x)=true:=rfl
theorem LD (x:List ac):V.one (.str x)=true:=rfl
theorem LE (b o:Nat):V.one (.ptr b o)=true:=rfl
theorem HO (b o l e:Nat):V.one (.slice b o l e)=true:=rfl
theorem OZ (f:FuncId)(a c:List V):V.one (.fn f a c)=true:=rfl
theorem HP (t:TypeId)(v:V):V.one (.iface t v)=true:=rfl
theorem GE:V.one .nilPtr=true:=rfl
theorem E7:V.one .nilSlice=true:=rfl
theorem HQ:V.one .nilFn=true:=rfl
theorem E8:V.one .nilIface=true:=rfl
theorem uX (cs:List V)(o:Nat)(x:V):splice cs o [x]=cs.set o x:=rfl
theorem uY (cs:List V)(o:Nat):splice cs o []=cs.take o++[]++cs.drop (o+0):=rfl
theorem rz (cs:List V)(o:Nat)(x y:V)(l:List V):splice cs o (x::y::l)=cs.take o++(x::y::l)++cs.drop (o+(x::y::l).length):=rfl
theorem bi (cs xs:List V)(h:xs.length=cs.length):splice cs 0 xs=xs:=by
 match xs,cs,h with
 |[],[],_=>rfl
 |[x],[c],_=>rfl
 |x::y::l,cs,h=>
  rw[rz,Nat.zero_add,List.drop_of_length_le (by omega)];simp
attribute [go_sem] OY Lz LA LB LC JE LD LE HO OZ HP GE E7 HQ E8 uX uY rz
theorem Bh (b:Nat):ab [] b=none:=rfl
theorem vu (x:Option Blk)(l:List (Option Blk)):ab (x::l) 0=x:=rfl
theorem Ac (x:Option Blk)(l:List (Option Blk))(b:Nat):ab (x::l) (b+1)=ab l b:=rfl
theorem fS (H:List (Option Blk))(b:Nat)(x:Option Blk)(l:List (Nat×Option Blk)):cr H ((b,x)::l)=(cr H l).set b x:=rfl
theorem GG:bytesOf {data:=#[]}=[]:=rfl
attribute [go_sem] GG bc List.range'_zero List.range'_one
attribute [go_sem] Bh vu Ac fS
theorem LF (n:Nat)(c:Prop)[Decidable c](a b:List V):aa n (if c then a else b)=if c then aa n a else aa n b:=apply_ite _ _ _ _
theorem fd {s:List (BitVec 8)}{i:Nat}(h:i<s.length):(s.map V.u8).getD i .junk= .u8 (s.getD i 0):=by
 rw[List.getD_eq_getElem?_getD,List.getD_eq_getElem?_getD,List.getElem?_map,List.getElem?_eq_getElem h];rfl
theorem Re (s:List (BitVec 8))(i:Nat)(x:BitVec 8):(s.map V.u8).set i (.u8 x)=(s.set i x).map V.u8:=List.map_set.symm
theorem O0 (s:List (BitVec 8))(i:Nat):(s.map V.u8).take i=(s.take i).map V.u8:=List.map_take.symm
theorem O1 (s:List (BitVec 8))(i:Nat):(s.map V.u8).drop i=(s.drop i).map V.u8:=List.map_drop.symm
theorem JF (s t:List (BitVec 8)):s.map V.u8++t.map V.u8=(s++t).map V.u8:=List.map_append.symm
theorem LG (s:List (BitVec 8)):(s.map V.u8).map V.byte=s:=by
 rw[List.map_map]
 have :V.byte∘V.u8=id:=rfl
 rw[this,List.map_id]
theorem Rf (s:List (BitVec 8)):(∀ v∈s.map V.u8,∃ x,v= .u8 x)=True:=by
 simp only[List.mem_map]
 exact propext ⟨fun _=>trivial,fun _ v ⟨x,_,e⟩=>⟨x,e.symm⟩⟩
theorem Rg (s:List (BitVec 8)):(∀ v∈s.map V.u8,v.one=true)=True:=by
 refine propext ⟨fun _=>trivial,fun _ v hv=>?_⟩
 obtain⟨x,_,rfl⟩:=List.mem_map.1 hv
 rfl
attribute [go_sem] Re O0 O1 JF LG Rf Rg V.byte List.length_map
end Go.Vm
end
