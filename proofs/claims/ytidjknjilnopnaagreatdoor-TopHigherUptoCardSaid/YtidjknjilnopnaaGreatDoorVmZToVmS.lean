/- Proved: laws of a machine of values; no conditions but each theorem's own. -/
import Derived.ProofKit
import Derived.OpenShut
import Derived.SizedLaws
import Derived.Deep.CondSized
import Derived.Test.YtidjknjilnopnaaGreatDoorVmXToVmQ
set_option linter.unusedVariables false
set_option linter.unusedSimpArgs false
set_option maxRecDepth 20000
set_option maxHeartbeats 8000000
section
namespace Go.Vm
section
open Go.ChangeShapes Go.WideShapes Go.ChangeAt Go.RowKit
inductive AK where
 |u8|u32|u64|i64|i32|bool|str
def AK.fits (P:Program)(t:TypeId):AK->Prop
 | .u8=>P.underlying t=some (.int .u8)
 | .u32=>P.underlying t=some (.int .u32)
 | .u64=>P.underlying t=some (.int .u64)
 | .i64=>P.underlying t=some (.int .i64)
 | .i32=>P.underlying t=some (.int .i32)
 | .bool=>P.underlying t=some .bool
 | .str=>P.underlying t=some .string
def mg:List AK->(List V->Prop)->Prop
 |[],q=>q []
 | .u8::ks,q=>∀ x:BitVec 8,mg ks fun l=>q (.u8 x::l)
 | .u32::ks,q=>∀ x:BitVec 32,mg ks fun l=>q (.u32 x::l)
 | .u64::ks,q=>∀ x:BitVec 64,mg ks fun l=>q (.u64 x::l)
 | .i64::ks,q=>∀ n:Int,-9223372036854775808<=n->n<=9223372036854775807->mg ks fun l=>q (.i64 n::l)
 | .i32::ks,q=>∀ n:Int,-2147483648<=n->n<=2147483647->mg ks fun l=>q (.i32 n::l)
 | .bool::ks,q=>∀ b:Bool,mg ks fun l=>q (.bool b::l)
 | .str::ks,q=>∀ s:List (BitVec 8),s.length<=140737488351232->mg ks fun l=>q (.str s::l)
theorem B4 {k:IntKind}{n:Int}{w:Nat}(h:(Lit.int k n).wf=true)(h1:k.min=0)(h2:k.max=2^w-1):n=((BitVec.ofInt w n).toNat:Int):=by
 simp only[Lit.wf,ic,decide_eq_true_eq,h1,h2] at h;rw[l9];have :((2^w:Nat):Int)=2^w:=ae;rw[this,y8 h.1 aa];omega
section
variable {H:Type}{enc:TypeId×Value->H}{P:Program}{W:World}{base:Nat}
end
end
theorem I7 (x y:Nat):(x:Int).tmod (y:Int)=((x%y:Nat):Int):=rfl
theorem Iv (x y:Nat):(x:Int).tdiv (y:Int)=((x/y:Nat):Int):=rfl
def ze (p:Nat->Bool):Nat->Bool:=fun k=>Nat.rec true (fun i ih=>and (p i) ih) k
theorem BN {p:Nat->Bool}:∀ {k:Nat},ze p k=true->∀ i,i<k->p i=true
 |k+1,h,i,a=>by
  have h':(p k&&ze p k)=true:=h;rw[ic] at h';by_cases e:i=k
  ·subst e;exact h'.1
  ·exact BN h'.2 i aa
section
section
variable {P:Program}{m n:Nat}{R:Exit->St->Prop}{k:List Fr}{s:St}{c:Code}
def xo (P:Program)(m n:Nat)(R:Exit->St->Prop)(c:Code)(k:List Fr):Nat->St->Prop
 |0,_=>False
 |K+1,s=>go P m n (jH (xo P m n R c k K) (kQ P m n R k)) c [] s
theorem afW (K:Nat)(h:(0<K)=True):xo P m n R c k K s=go P m n (jH (xo P m n R c k (K-1)) (kQ P m n R k)) c [] s:=by
 cases K with
 |zero=>simp at h
 |succ K=>rfl
theorem dz (K:Nat)(h:xo P m n R c k K s):go P m n R (.loop c) k s:=by
 refine bq (fun j s=>xo P m n R c k j s) ⟨K,s,Weak.refl _ _ _,h⟩ (fun j s a _=>?_);cases j with
 |zero=>exact a.elim
 |succ j=>
  refine im c _ _ s (fun e s' b=>?_) a;cases e
  case normal=>exact⟨j,s',DH j,Weak.refl _ _ _,b⟩
  all_goals exact b
theorem Rd (P:Program)(s:St)(x t:Nat)(r:List ResultVar)(K:List V->Prop):eg P s (.cell x t::r) K=gZ (bP P (.load t (.tmp x)) s.ev (ag s.H) s.H.length) (fun res=>eg P s r fun l=>K (res.v::l)):=rfl
attribute [go_sem] afW Rd Qk
end
end
attribute [go_sem] lw jr V.cells V.solid V.nat? nk mH iy lv kW u4 iZ oR uc da pC V.beq1 V.low af
theorem PU (x:BitVec 8):V.one (.u8 x)=true:=rfl
theorem PC (x:BitVec 32):V.one (.u32 x)=true:=rfl
theorem TE (x:BitVec 64):V.one (.u64 x)=true:=rfl
theorem Yo (x:Int):V.one (.i64 x)=true:=rfl
theorem OL (x:Int):V.one (.i32 x)=true:=rfl
theorem acG (x:Bool):V.one (.bool x)=true:=rfl
theorem UI (x:List ai):V.one (.str x)=true:=rfl
theorem abR (b o:Nat):V.one (.ptr b o)=true:=rfl
theorem Nw (b o l e:Nat):V.one (.slice b o l e)=true:=rfl
theorem WQ (f:FuncId)(a c:List V):V.one (.fn f a c)=true:=rfl
theorem V5 (t:TypeId)(v:V):V.one (.iface t v)=true:=rfl
theorem ad3:V.one .nilPtr=true:=rfl
theorem aaB:V.one .nilSlice=true:=rfl
theorem Zs:V.one .nilFn=true:=rfl
theorem agL:V.one .nilIface=true:=rfl
theorem CD (cs:List V)(o:Nat)(x:V):splice cs o [x]=cs.set o x:=rfl
theorem C1 (cs:List V)(o:Nat):splice cs o []=cs.take o++[]++cs.drop (o+0):=rfl
theorem yg (cs:List V)(o:Nat)(x y:V)(l:List V):splice cs o (x::y::l)=cs.take o++(x::y::l)++cs.drop (o+(x::y::l).length):=rfl
theorem bL (cs xs:List V)(h:xs.length=cs.length):splice cs 0 xs=xs:=by
 match xs,cs,h with
 |[],[],_=>rfl
 |[x],[c],_=>rfl
 |x::y::l,cs,h=>
  rw[yg,cw,gP aa];simp
attribute [go_sem] PU PC TE Yo OL acG UI abR Nw WQ V5 ad3 aaB Zs agL CD C1 yg
theorem Iz (b:Nat):ag [] b=none:=rfl
theorem C4 (x:Option Blk)(l:List (Option Blk)):ag (x::l) 0=x:=rfl
theorem Jh (x:Option Blk)(l:List (Option Blk))(b:Nat):ag (x::l) (b+1)=ag l b:=rfl
theorem aa2 (H:List (Option Blk))(b:Nat)(x:Option Blk)(l:List (Nat×Option Blk)):cK H ((b,x)::l)=(cK H l).set b x:=rfl
theorem ae7:bytesOf {data:=#[]}=[]:=rfl
attribute [go_sem] ae7 bI List.range'_zero List.range'_one
attribute [go_sem] Iz C4 Jh aa2
theorem adF (n:Nat)(c:Prop)[Decidable c](a b:List V):af n (if c then a else b)=if c then af n a else af n b:=apply_ite _ _ _ _
theorem iV {s:List (BitVec 8)}{i:Nat}(h:i<s.length):(s.map V.u8).getD i .junk= .u8 (s.getD i 0):=by
 rw[aW,aW,ci,aF h];rfl
theorem Uv (s:List (BitVec 8))(i:Nat)(x:BitVec 8):(s.map V.u8).set i (.u8 x)=(s.set i x).map V.u8:=pB.symm
theorem agQ (s:List (BitVec 8))(i:Nat):(s.map V.u8).take i=(s.take i).map V.u8:=nc.symm
theorem abf (s:List (BitVec 8))(i:Nat):(s.map V.u8).drop i=(s.drop i).map V.u8:=pg.symm
theorem afD (s t:List (BitVec 8)):s.map V.u8++t.map V.u8=(s++t).map V.u8:=gD.symm
theorem N2 (s:List (BitVec 8)):(s.map V.u8).map V.byte=s:=by
 rw[kH];have :V.byte∘V.u8=id:=rfl;rw[this,tK]
theorem ag8 (s:List (BitVec 8)):(∀ v∈s.map V.u8,∃ x,v= .u8 x)=True:=by
 simp only[cD];exact propext ⟨fun _=>trivial,fun _ v ⟨x,_,e⟩=>⟨x,e.symm⟩⟩
theorem afm (s:List (BitVec 8)):(∀ v∈s.map V.u8,v.one=true)=True:=by
 refine propext ⟨fun _=>trivial,fun _ v a=>?_⟩;obtain⟨x,_,rfl⟩:=cD.1 a;rfl
attribute [go_sem] Uv agQ abf afD N2 ag8 afm V.byte ba
end Go.Vm
end
