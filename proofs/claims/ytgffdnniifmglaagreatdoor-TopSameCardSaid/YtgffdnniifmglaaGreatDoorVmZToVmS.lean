/- A part of the proof: laws of a small machine of values, or what one function answers, proved against the model; no conditions beyond those in each theorem. -/
import Derived.ProofKit
import Derived.OpenShut
import Derived.SizedLaws
import Derived.Deep.CondSized
import Derived.Test.YtgffdnniifmglaaGreatDoorVmXToVmQ
set_option linter.unusedVariables false
set_option linter.unusedSimpArgs false
set_option linter.unusedSectionVars false
set_option maxRecDepth 20000
set_option maxHeartbeats 8000000
section
namespace Go.Vm
section
open Go.ChangeShapes Go.WideShapes Go.ChangeAt Go.RowKit
inductive AK where
 |u8|u32|u64|i64|i32|bool|str
def AK.fits (P:Program)(t:TypeId):AK→Prop
 | .u8=>P.underlying t=some (.int .u8)
 | .u32=>P.underlying t=some (.int .u32)
 | .u64=>P.underlying t=some (.int .u64)
 | .i64=>P.underlying t=some (.int .i64)
 | .i32=>P.underlying t=some (.int .i32)
 | .bool=>P.underlying t=some .bool
 | .str=>P.underlying t=some .string
def gR:List AK→(List V→Prop)→Prop
 |[],q=>q []
 | .u8::ks,q=>∀ x:BitVec 8,gR ks fun l=>q (.u8 x::l)
 | .u32::ks,q=>∀ x:BitVec 32,gR ks fun l=>q (.u32 x::l)
 | .u64::ks,q=>∀ x:BitVec 64,gR ks fun l=>q (.u64 x::l)
 | .i64::ks,q=>∀ n:Int,-9223372036854775808≤n→n≤9223372036854775807→gR ks fun l=>q (.i64 n::l)
 | .i32::ks,q=>∀ n:Int,-2147483648≤n→n≤2147483647→gR ks fun l=>q (.i32 n::l)
 | .bool::ks,q=>∀ b:Bool,gR ks fun l=>q (.bool b::l)
 | .str::ks,q=>∀ s:List (BitVec 8),s.length≤140737488351232→gR ks fun l=>q (.str s::l)
theorem s7 {k:IntKind}{n:Int}{w:Nat}(h:(Lit.int k n).wf=true)(h1:k.min=0)(h2:k.max=2^w-1):n=((BitVec.ofInt w n).toNat:Int):=by
 simp only[Lit.wf,Bool.and_eq_true,decide_eq_true_eq,h1,h2] at h
 rw[BitVec.toNat_ofInt]
 have :((2^w:Nat):Int)=2^w:=by simp
 rw[this,Int.emod_eq_of_lt h.1 (by omega)]
 omega
section
variable {H:Type}{enc:TypeId×Value→H}{P:Program}{W:World}{base:Nat}
end
end
theorem xI (x y:Nat):(x:Int).tmod (y:Int)=((x%y:Nat):Int):=rfl
theorem xJ (x y:Nat):(x:Int).tdiv (y:Int)=((x/y:Nat):Int):=rfl
section
section
variable {P:Program}{m n:Nat}{R:Exit→St→Prop}{k:List Fr}{s:St}{c:Code}
def nH (P:Program)(m n:Nat)(R:Exit→St→Prop)(c:Code)(k:List Fr):Nat→St→Prop
 |0,_=>False
 |K+1,s=>go P m n (eN (nH P m n R c k K) (kQ P m n R k)) c [] s
theorem GT (K:Nat)(h:(0<K)=True):nH P m n R c k K s=go P m n (eN (nH P m n R c k (K-1)) (kQ P m n R k)) c [] s:=by
 cases K with
 |zero=>simp at h
 |succ K=>rfl
theorem bI (K:Nat)(h:nH P m n R c k K s):go P m n R (.loop c) k s:=by
 refine aH (fun j s=>nH P m n R c k j s) ⟨K,s,Weak.refl _ _ _,h⟩ (fun j s hj _=>?_)
 cases j with
 |zero=>exact hj.elim
 |succ j=>
  refine dB c _ _ s (fun e s' he=>?_) hj
  cases e
  case normal=>exact⟨j,s',Nat.lt_succ_self j,Weak.refl _ _ _,he⟩
  all_goals exact he
theorem E9 (P:Program)(s:St)(x t:Nat)(r:List ResultVar)(K:List V→Prop):cJ P s (.cell x t::r) K=dD (bp P (.load t (.tmp x)) s.ev (aa s.H) s.H.length) (fun res=>cJ P s r fun l=>K (res.v::l)):=rfl
attribute [go_sem] GT E9 Dj
end
end
attribute [go_sem] fo ez V.cells V.solid V.nat? vlow gi dL fq fw lP dS hZ lF bY jh V.beq1 V.low ac
theorem J4 (x:BitVec 8):V.one (.u8 x)=true:=rfl
theorem GU (x:BitVec 32):V.one (.u32 x)=true:=rfl
theorem GV (x:BitVec 64):V.one (.u64 x)=true:=rfl
theorem GW (x:Int):V.one (.i64 x)=true:=rfl
theorem GX (x:Int):V.one (.i32 x)=true:=rfl
theorem Fa (x:Bool):V.one (.bool x)=true:=rfl
theorem GY (x:List af):V.one (.str x)=true:=rfl
theorem GZ (b o:Nat):V.one (.ptr b o)=true:=rfl
theorem DF (b o l e:Nat):V.one (.slice b o l e)=true:=rfl
theorem J5 (f:FuncId)(a c:List V):V.one (.fn f a c)=true:=rfl
theorem DG (t:TypeId)(v:V):V.one (.iface t v)=true:=rfl
theorem CE:V.one .nilPtr=true:=rfl
theorem Bb:V.one .nilSlice=true:=rfl
theorem DH:V.one .nilFn=true:=rfl
theorem Bc:V.one .nilIface=true:=rfl
theorem qM (cs:List V)(o:Nat)(x:V):splice cs o [x]=cs.set o x:=rfl
theorem qN (cs:List V)(o:Nat):splice cs o []=cs.take o++[]++cs.drop (o+0):=rfl
theorem oz (cs:List V)(o:Nat)(x y:V)(l:List V):splice cs o (x::y::l)=cs.take o++(x::y::l)++cs.drop (o+(x::y::l).length):=rfl
theorem bd (cs xs:List V)(h:xs.length=cs.length):splice cs 0 xs=xs:=by
 match xs,cs,h with
 |[],[],_=>rfl
 |[x],[c],_=>rfl
 |x::y::l,cs,h=>
  rw[oz,Nat.zero_add,List.drop_of_length_le (by omega)];simp
attribute [go_sem] J4 GU GV GW GX Fa GY GZ DF J5 DG CE Bb DH Bc qM qN oz
theorem xK (b:Nat):aa [] b=none:=rfl
theorem rz (x:Option Blk)(l:List (Option Blk)):aa (x::l) 0=x:=rfl
theorem wO (x:Option Blk)(l:List (Option Blk))(b:Nat):aa (x::l) (b+1)=aa l b:=rfl
theorem BE (H:List (Option Blk))(b:Nat)(x:Option Blk)(l:List (Nat×Option Blk)):bU H ((b,x)::l)=(bU H l).set b x:=rfl
theorem CF:bytesOf {data:=#[]}=[]:=rfl
attribute [go_sem] CF aZ List.range'_zero List.range'_one
attribute [go_sem] xK rz wO BE
theorem Ha (n:Nat)(c:Prop)[Decidable c](a b:List V):ac n (if c then a else b)=if c then ac n a else ac n b:=apply_ite _ _ _ _
theorem dT {s:List (BitVec 8)}{i:Nat}(h:i<s.length):(s.map V.u8).getD i .junk= .u8 (s.getD i 0):=by
 rw[List.getD_eq_getElem?_getD,List.getD_eq_getElem?_getD,List.getElem?_map,List.getElem?_eq_getElem h];rfl
theorem Nn (s:List (BitVec 8))(i:Nat)(x:BitVec 8):(s.map V.u8).set i (.u8 x)=(s.set i x).map V.u8:=List.map_set.symm
theorem J6 (s:List (BitVec 8))(i:Nat):(s.map V.u8).take i=(s.take i).map V.u8:=List.map_take.symm
theorem J7 (s:List (BitVec 8))(i:Nat):(s.map V.u8).drop i=(s.drop i).map V.u8:=List.map_drop.symm
theorem Fb (s t:List (BitVec 8)):s.map V.u8++t.map V.u8=(s++t).map V.u8:=List.map_append.symm
theorem Hb (s:List (BitVec 8)):(s.map V.u8).map V.byte=s:=by
 rw[List.map_map]
 have :V.byte∘V.u8=id:=rfl
 rw[this,List.map_id]
theorem Np (s:List (BitVec 8)):(∀ v∈s.map V.u8,∃ x,v= .u8 x)=True:=by
 simp only[List.mem_map]
 exact propext ⟨fun _=>trivial,fun _ v ⟨x,_,e⟩=>⟨x,e.symm⟩⟩
theorem Nq (s:List (BitVec 8)):(∀ v∈s.map V.u8,v.one=true)=True:=by
 refine propext ⟨fun _=>trivial,fun _ v hv=>?_⟩
 obtain⟨x,_,rfl⟩:=List.mem_map.1 hv
 rfl
attribute [go_sem] Nn J6 J7 Fb Hb Np Nq V.byte List.length_map
end Go.Vm
end
