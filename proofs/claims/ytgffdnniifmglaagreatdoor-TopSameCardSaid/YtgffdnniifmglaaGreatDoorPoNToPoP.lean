/- A part of the proof: laws of a small machine of values, or what one function answers, proved against the model; no conditions beyond those in each theorem. -/
import Derived.Laws.Externs
import Derived.Test.YtgffdnniifmglaaGreatDoorHeadToShA
import Derived.Test.YtgffdnniifmglaaGreatDoorVmTToTot2
set_option linter.unusedVariables false
set_option linter.unusedSimpArgs false
set_option linter.unusedSectionVars false
set_option maxRecDepth 20000
set_option maxHeartbeats 8000000
section
namespace Go.Vm
open Go.Proofs
theorem wZ (x y c:BitVec 64)(hc:c.toNat≤1):lG Tryz.prog 108 [.u64 x,.u64 y,.u64 c] (.tup [.u64 (x+y+c),.u64 (BitVec.ofNat 64 ((x.toNat+y.toNat+c.toNat)/18446744073709551616))]):=by
 intro ρ dom w rargs hr
 unfold VRs at hr
 obtain⟨r1,rs1,e1,h1,hr⟩:=hr
 unfold VRs at hr
 obtain⟨r2,rs2,e2,h2,hr⟩:=hr
 unfold VRs at hr
 obtain⟨r3,rs3,e3,h3,hr⟩:=hr
 unfold VRs at hr
 unfold VR at h1 h2 h3
 subst h1 h2 h3 hr e3 e2
 have ha:rargs=#[.int .u64 x.toNat,.int .u64 y.toNat,.int .u64 c.toNat]:=by cases rargs;simp_all
 subst ha
 have hx:=x.isLt
 have hy:=y.isLt
 refine⟨.tuple #[.int .u64 (((x+y+c).toNat:Nat):Int),.int .u64 ((BitVec.ofNat 64 ((x.toNat+y.toNat+c.toNat)/18446744073709551616)).toNat:Int)],?_,?_⟩
 ·rw[run_callFunc_extern (e:=add64Entry) (by kernel_rfl) (fn:=Tryz.f108) (by kernel_rfl) (by kernel_rfl) (by kernel_rfl) (by kernel_rfl),run_add64 _ _ _ (by omega) (by omega) (by omega) (by omega)]
  simp only[Result.andThen]
  have k1:((x.toNat:Int)+(y.toNat:Int)+(c.toNat:Int))%18446744073709551616=(((x+y+c).toNat:Nat):Int):=by
   rw[BitVec.toNat_add,BitVec.toNat_add];omega
  have k2:((x.toNat:Int)+(y.toNat:Int)+(c.toNat:Int))/18446744073709551616=(((BitVec.ofNat 64 ((x.toNat+y.toNat+c.toNat)/18446744073709551616)).toNat:Nat):Int):=by
   rw[BitVec.toNat_ofNat];omega
  rw[k1,k2]
 ·unfold VR
  refine⟨_,rfl,?_⟩
  unfold VRs
  refine⟨_,_,rfl,by unfold VR;rfl,?_⟩
  unfold VRs
  refine⟨_,_,rfl,by unfold VR;rfl,?_⟩
  unfold VRs;rfl
def bj (x y c:BitVec 64):BitVec 64:=BitVec.ofNat 64 ((x.toNat+y.toNat+c.toNat)/18446744073709551616)
theorem eV (x y c:BitVec 64)(h:c.toNat≤1):(bj x y c).toNat≤1:=by
 have :=x.isLt
 have :=y.isLt
 unfold bj
 rw[BitVec.toNat_ofNat];omega
theorem mD (x y c:BitVec 64)(hc:c.toNat≤1):lG Tryz.prog 108 [.u64 x,.u64 y,.u64 c] (.tup [.u64 (x+y+c),.u64 (bj x y c)]):=wZ x y c hc
theorem uO (a0 a1 a2 b0 b1 b2:BitVec 64):am Tryz.prog 193 [.agg [.u64 a0,.u64 a1,.u64 a2],.agg [.u64 b0,.u64 b1,.u64 b2]]
  (.agg [.u64 (a0+b0+0#64),.u64 (a1+b1+bj a0 b0 0#64),.u64 (a2+b2+bj a1 b1 (bj a0 b0 0#64))]):=by
 have c1:=eV a0 b0 0#64 (by decide)
 have c2:=eV a1 b1 (bj a0 b0 0#64) c1
 refine aw (by kernel_rfl) (fn:=Tryz.f193) (by kernel_rfl) Tryz.func193 rfl (by show 2≤25;decide) (by simp[ac,V.low]) (by simp[ac,V.low]) (ag ?_)
 simp only[go_sem,seval,Tryz.ntmps193]
 refine bI 4 ?_
 simp only[go_sem,seval]
 refine qq (mD a0 b0 0#64 (by decide)) ?_
 simp only[go_sem,seval]
 refine⟨by kernel_rfl,?_⟩
 refine qq (mD a1 b1 (bj a0 b0 0#64) c1) ?_
 simp only[go_sem,seval]
 refine⟨by kernel_rfl,?_⟩
 refine qq (mD a2 b2 (bj a1 b1 (bj a0 b0 0#64)) c2) ?_
 simp only[go_sem,seval]
 kernel_rfl
theorem CP (a0 a1 a2:BitVec 64):am Tryz.prog 199 [.agg [.u64 a0,.u64 a1,.u64 a2]]
  (.agg [.u64 (a0+5#64*(a2>>>2)+0#64),.u64 (a1+0#64+bj a0 (5#64*(a2>>>2)) 0#64),.u64 ((a2&&&3#64)+0#64+bj a1 0#64 (bj a0 (5#64*(a2>>>2)) 0#64))]):=by
 refine aw (by kernel_rfl) (fn:=Tryz.f199) (by kernel_rfl) Tryz.func199 rfl (by show 1≤16;decide) (by simp[ac,V.low]) (by simp[ac,V.low]) (ag ?_)
 simp only[go_sem,seval,Tryz.ntmps199]
 refine ak (uO a0 a1 (a2&&&3#64) (5#64*(a2>>>2)) 0#64 0#64) ?_
 simp only[go_sem,seval]
end Go.Vm
end
