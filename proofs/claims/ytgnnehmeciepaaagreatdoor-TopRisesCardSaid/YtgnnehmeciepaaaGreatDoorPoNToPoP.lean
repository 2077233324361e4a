/- Proved: laws of a machine of values, or what a function answers; no conditions but each theorem's own. -/
import Derived.Laws.Externs
import Derived.Test.YtgnnehmeciepaaaGreatDoorTypesToLsE
import Derived.Test.YtgnnehmeciepaaaGreatDoorVmTToTot2
set_option linter.unusedVariables false
set_option linter.unusedSimpArgs false
set_option linter.unusedSectionVars false
set_option maxRecDepth 20000
set_option maxHeartbeats 8000000
section
namespace Go.Vm
open Go.Proofs
theorem Aq (x y c:BitVec 64)(hc:c.toNat≤1):oE Tryz.prog 113 [.u64 x,.u64 y,.u64 c] (.tup [.u64 (x+y+c),.u64 (BitVec.ofNat 64 ((x.toNat+y.toNat+c.toNat)/18446744073709551616))]):=by
 intro ρ dom w rargs hr
 unfold VRs at hr
 obtain⟨r1,rs1,e1,h1,hr⟩:=hr
 unfold VRs at hr
 obtain⟨r2,rs2,e2,h2,hr⟩:=hr
 unfold VRs at hr
 obtain⟨r3,rs3,e3,h3,hr⟩:=hr
 unfold VRs at hr
 unfold VR at h1 h2 h3
 subst h1 h2 h3 hr e3 e2
 have ha:rargs=#[.int .u64 x.toNat,.int .u64 y.toNat,.int .u64 c.toNat]:=by cases rargs;simp_all
 subst ha
 have hx:=x.isLt
 have hy:=y.isLt
 refine⟨.tuple #[.int .u64 (((x+y+c).toNat:Nat):Int),.int .u64 ((BitVec.ofNat 64 ((x.toNat+y.toNat+c.toNat)/18446744073709551616)).toNat:Int)],?_,?_⟩
 ·rw[run_callFunc_extern (e:=add64Entry) (by kernel_rfl) (fn:=Tryz.f113) (by kernel_rfl) (by kernel_rfl) (by kernel_rfl) (by kernel_rfl),run_add64 _ _ _ (by omega) (by omega) (by omega) (by omega)]
  simp only[Result.andThen]
  have k1:((x.toNat:Int)+(y.toNat:Int)+(c.toNat:Int))%18446744073709551616=(((x+y+c).toNat:Nat):Int):=by
   rw[BitVec.toNat_add,BitVec.toNat_add];omega
  have k2:((x.toNat:Int)+(y.toNat:Int)+(c.toNat:Int))/18446744073709551616=(((BitVec.ofNat 64 ((x.toNat+y.toNat+c.toNat)/18446744073709551616)).toNat:Nat):Int):=by
   rw[BitVec.toNat_ofNat];omega
  rw[k1,k2]
 ·unfold VR
  refine⟨_,rfl,?_⟩
  unfold VRs
  refine⟨_,_,rfl,by unfold VR;rfl,?_⟩
  unfold VRs
  refine⟨_,_,rfl,by unfold VR;rfl,?_⟩
  unfold VRs;rfl
def bn (x y c:BitVec 64):BitVec 64:=BitVec.ofNat 64 ((x.toNat+y.toNat+c.toNat)/18446744073709551616)
theorem gQ (x y c:BitVec 64)(h:c.toNat≤1):(bn x y c).toNat≤1:=by
 have :=x.isLt
 have :=y.isLt
 unfold bn
 rw[BitVec.toNat_ofNat];omega
theorem pE (x y c:BitVec 64)(hc:c.toNat≤1):oE Tryz.prog 113 [.u64 x,.u64 y,.u64 c] (.tup [.u64 (x+y+c),.u64 (bn x y c)]):=Aq x y c hc
theorem yi (a0 a1 a2 b0 b1 b2:BitVec 64):ao Tryz.prog 198 [.agg [.u64 a0,.u64 a1,.u64 a2],.agg [.u64 b0,.u64 b1,.u64 b2]]
  (.agg [.u64 (a0+b0+0#64),.u64 (a1+b1+bn a0 b0 0#64),.u64 (a2+b2+bn a1 b1 (bn a0 b0 0#64))]):=by
 have c1:=gQ a0 b0 0#64 (by decide)
 have c2:=gQ a1 b1 (bn a0 b0 0#64) c1
 refine aB (by kernel_rfl) (fn:=Tryz.f198) (by kernel_rfl) Tryz.func198 rfl (by show 2≤25;decide) (by simp[aa,V.low]) (by simp[aa,V.low]) (ae ?_)
 simp only[go_sem,seval,Tryz.ntmps198]
 refine aY 4 ?_
 simp only[go_sem,seval]
 refine uF (pE a0 b0 0#64 (by decide)) ?_
 simp only[go_sem,seval]
 refine⟨by kernel_rfl,?_⟩
 refine uF (pE a1 b1 (bn a0 b0 0#64) c1) ?_
 simp only[go_sem,seval]
 refine⟨by kernel_rfl,?_⟩
 refine uF (pE a2 b2 (bn a1 b1 (bn a0 b0 0#64)) c2) ?_
 simp only[go_sem,seval]
 kernel_rfl
theorem GR (a0 a1 a2:BitVec 64):ao Tryz.prog 204 [.agg [.u64 a0,.u64 a1,.u64 a2]]
  (.agg [.u64 (a0+5#64*(a2>>>2)+0#64),.u64 (a1+0#64+bn a0 (5#64*(a2>>>2)) 0#64),.u64 ((a2&&&3#64)+0#64+bn a1 0#64 (bn a0 (5#64*(a2>>>2)) 0#64))]):=by
 refine aB (by kernel_rfl) (fn:=Tryz.f204) (by kernel_rfl) Tryz.func204 rfl (by show 1≤16;decide) (by simp[aa,V.low]) (by simp[aa,V.low]) (ae ?_)
 simp only[go_sem,seval,Tryz.ntmps204]
 refine ak (yi a0 a1 (a2&&&3#64) (5#64*(a2>>>2)) 0#64 0#64) ?_
 simp only[go_sem,seval]
end Go.Vm
end
