/- Proved: laws of a machine of values; no conditions but each theorem's own. -/
import Derived.ProofKit
import Derived.OpenShut
import Derived.SizedLaws
import Derived.Deep.CondSized
import Derived.Test.YtidjknjilnopnaaGreatDoorVmXToVmQ
set_option linter.unusedVariables false
set_option linter.unusedSimpArgs false
set_option maxRecDepth 20000
set_option maxHeartbeats 8000000
section
namespace Go.Vm
section
open Go.ChangeShapes Go.WideShapes Go.ChangeAt Go.RowKit
inductive AK where
 |u8|u32|u64|i64|i32|bool|str
def AK.fits (P:Program)(t:TypeId):AK->Prop
 | .u8=>P.underlying t=some (.int .u8)
 | .u32=>P.underlying t=some (.int .u32)
 | .u64=>P.underlying t=some (.int .u64)
 | .i64=>P.underlying t=some (.int .i64)
 | .i32=>P.underlying t=some (.int .i32)
 | .bool=>P.underlying t=some .bool
 | .str=>P.underlying t=some .string
def ph:List AK->(List V->Prop)->Prop
 |[],q=>q []
 | .u8::c,q=>∀ x:BitVec 8,ph c fun l=>q (.u8 x::l)
 | .u32::c,q=>∀ x:aQ,ph c fun l=>q (.u32 x::l)
 | .u64::c,q=>∀ x:aS,ph c fun l=>q (.u64 x::l)
 | .i64::c,q=>∀ n:Int,-9223372036854775808<=n->n<=9223372036854775807->ph c fun l=>q (.i64 n::l)
 | .i32::c,q=>∀ n:Int,-2147483648<=n->n<=2147483647->ph c fun l=>q (.i32 n::l)
 | .bool::c,q=>∀ b:Bool,ph c fun l=>q (.bool b::l)
 | .str::c,q=>∀ s:Z,s.length<=140737488351232->ph c fun l=>q (.str s::l)
theorem Jq {k:IntKind}{n:Int}{w:Nat}(h:(Lit.int k n).wf=true)(h1:k.min=0)(h2:k.max=2^w-1):n=((BitVec.ofInt w n).toNat:Int):=by
 simp only[Lit.wf,lY,AG,h1,h2] at h;rw[rO];have :((2^w:Nat):Int)=2^w:=J;rw[this,C7 h.1 I];omega
section
variable {H:Type}{enc:TypeId×Value->H}{P:Program}{W:World}{base:Nat}
end
end
theorem L9 (x y:Nat):(x:Int).tmod (y:Int)=((x%y:Nat):Int):=rfl
theorem Mk (x y:Nat):(x:Int).tdiv (y:Int)=((x/y:Nat):Int):=rfl
def Ee (p:Nat->Bool):Nat->Bool:=fun k=>Nat.rec true (fun i ih=>and (p i) ih) k
theorem Jg {p:Nat->Bool}:∀ {k:Nat},Ee p k=true->∀ i,i<k->p i=true
 |k+1,h,i,b=>by
  have a:(p k&&Ee p k)=true:=h;rw[lY] at a;by_cases e:i=k
  .subst e;exact a.1
  .exact Jg a.2 i I
section
section
variable {P:Program}{m n:Nat}{R:Exit->St->Prop}{k:List Fr}{s:St}{c:Code}
def BX (P:Program)(m n:Nat)(R:Exit->St->Prop)(c:Code)(k:List Fr):Nat->St->Prop
 |0,_=>False
 |K+1,s=>go P m n (oA (BX P m n R c k K) (kQ P m n R k)) c [] s
theorem UH (K:Nat)(h:(0<K)=True):BX P m n R c k K s=go P m n (oA (BX P m n R c k (K-1)) (kQ P m n R k)) c [] s:=by
 cases K with
 |zero=>simp at h
 |succ K=>rfl
theorem ij (K:Nat)(h:BX P m n R c k K s):go P m n R (.loop c) k s:=by
 refine cG (fun j s=>BX P m n R c k j s) ⟨K,s,bJ.refl _ _ _,h⟩ (fun j s a _=>?_);cases j with
 |zero=>exact a.elim
 |succ j=>
  refine mT c _ _ s (fun e d b=>?_) a;cases e
  case normal=>exact⟨j,d,Hh j,bJ.refl _ _ _,b⟩
  all_goals exact b
theorem aau (P:Program)(s:St)(x t:Nat)(r:List ResultVar)(K:List V->Prop):jh P s (.cell x t::r) K=mi (dK P (.load t (.tmp x)) s.ev (ah s.H) s.H.length) (fun res=>jh P s r fun l=>K (res.v::l)):=rfl
attribute [go_sem] UH aau agw
end
end
attribute [go_sem] qx n9 V.cells V.tN V.nat? rU sH mD qm ql Ai nM vt yU gF v8 V.Fx V.low lows
theorem aij (x:BitVec 8):V.one (.u8 x)=true:=rfl
theorem aaW (x:aQ):V.one (.u32 x)=true:=rfl
theorem Zu (x:aS):V.one (.u64 x)=true:=rfl
theorem Zz (x:Int):V.one (.i64 x)=true:=rfl
theorem afK (x:Int):V.one (.i32 x)=true:=rfl
theorem ad0 (x:Bool):V.one (.bool x)=true:=rfl
theorem XH (x:Z):V.one (.str x)=true:=rfl
theorem afC (b o:Nat):V.one (.ptr b o)=true:=rfl
theorem ajN (b o l e:Nat):V.one (.slice b o l e)=true:=rfl
theorem ad9 (f:FuncId)(a c:List V):V.one (.fn f a c)=true:=rfl
theorem aar (t:TypeId)(v:V):V.one (.iface t v)=true:=rfl
theorem W6:V.one .nilPtr=true:=rfl
theorem aeS:V.one .bG=true:=rfl
theorem ae2:V.one .ff=true:=rfl
theorem ajY:V.one .nilIface=true:=rfl
theorem Kz (cs:List V)(o:Nat)(x:V):cC cs o [x]=cs.set o x:=rfl
theorem Ka (cs:List V)(o:Nat):cC cs o []=cs.take o++[]++cs.drop (o+0):=rfl
theorem Et (cs:List V)(o:Nat)(x y:V)(l:List V):cC cs o (x::y::l)=cs.take o++(x::y::l)++cs.drop (o+(x::y::l).length):=rfl
theorem dC (cs xs:List V)(h:xs.length=cs.length):cC cs 0 xs=xs:=by
 match xs,cs,h with
 |[],[],_=>rfl
 |[x],[c],_=>rfl
 |x::y::l,cs,h=>
  rw[Et,eX,lP I];simp
attribute [go_sem] aij aaW Zu Zz afK ad0 XH afC ajN ad9 aar W6 aeS ae2 ajY Kz Ka Et
theorem OC (b:Nat):ah [] b=none:=rfl
theorem Gi (x:Option aa)(l:aU):ah (x::l) 0=x:=rfl
theorem Qy (x:Option aa)(l:aU)(b:Nat):ah (x::l) (b+1)=ah l b:=rfl
theorem acF (H:aU)(b:Nat)(x:Option aa)(l:List (Nat×Option aa)):fX H ((b,x)::l)=(fX H l).set b x:=rfl
theorem WG:bytesOf {data:=#[]}=[]:=rfl
attribute [go_sem] WG dt List.range'_zero List.range'_one
attribute [go_sem] OC Gi Qy acF
theorem afq (n:Nat)(c:Prop)[Decidable c](a b:List V):lows n (if c then a else b)=if c then lows n a else lows n b:=apply_ite _ _ _ _
theorem nB {s:Z}{i:Nat}(h:i<s.length):(s.map V.u8).getD i .bH= .u8 (s.getD i 0):=by
 rw[bY,bY,dU,bn h];rfl
theorem VK (s:Z)(i:Nat)(x:BitVec 8):(s.map V.u8).set i (.u8 x)=(s.set i x).map V.u8:=wm.symm
theorem VA (s:Z)(i:Nat):(s.map V.u8).take i=(s.take i).map V.u8:=sS.symm
theorem aaU (s:Z)(i:Nat):(s.map V.u8).drop i=(s.drop i).map V.u8:=ve.symm
theorem Yc (s t:Z):s.map V.u8++t.map V.u8=(s++t).map V.u8:=lw.symm
theorem acT (s:Z):(s.map V.u8).map V.byte=s:=by
 rw[pQ];have :V.byte∘V.u8=id:=rfl;rw[this,zM]
theorem aii (s:Z):(∀ v∈s.map V.u8,∃ x,v= .u8 x)=True:=by
 simp only[eZ];exact propext ⟨fun _=>trivial,fun _ v ⟨x,_,e⟩=>⟨x,e.symm⟩⟩
theorem VI (s:Z):(∀ v∈s.map V.u8,v.one=true)=True:=by
 refine propext ⟨fun _=>trivial,fun _ v a=>?_⟩;obtain⟨x,_,rfl⟩:=eZ.1 a;rfl
attribute [go_sem] VK VA aaU Yc acT aii VI V.byte cq
end Go.Vm
end
