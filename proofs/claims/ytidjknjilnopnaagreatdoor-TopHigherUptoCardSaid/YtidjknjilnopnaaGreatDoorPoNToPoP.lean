/- Proved: laws of a machine of values; no conditions but each theorem's own. -/
import Derived.Laws.Externs
import Derived.Test.YtidjknjilnopnaaGreatDoorHeadToShA
set_option linter.unusedVariables false
set_option linter.unusedSimpArgs false
set_option maxRecDepth 20000
set_option maxHeartbeats 8000000
section
namespace Go.Vm
open Go.Proofs Go.Proofs.Tryz
theorem GI (x y c:BitVec 64)(hc:c.toNat<=1):ta prog 115 [.u64 x,.u64 y,.u64 c] (.tup [.u64 (x+y+c),.u64 (BitVec.ofNat 64 ((x.toNat+y.toNat+c.toNat)/18446744073709551616))]):=by
 intro ρ dom w a b;unfold VRs at b;obtain⟨r1,g,m,h1,b⟩:=b;unfold VRs at b;obtain⟨r2,h,i,h2,b⟩:=b;unfold VRs at b;obtain⟨r3,j,k,f,b⟩:=b;unfold VRs at b;unfold VR at h1 h2 f;subst h1 h2 f b k i;have l:a=#[.int .u64 x.toNat,.int .u64 y.toNat,.int .u64 c.toNat]:=by cases a;simp_all
 subst l;have n:=x.isLt;have o:=y.isLt;refine⟨.tuple #[.int .u64 (((x+y+c).toNat:Nat):Int),.int .u64 ((BitVec.ofNat 64 ((x.toNat+y.toNat+c.toNat)/18446744073709551616)).toNat:Int)],?_,?_⟩
 ·rw[run_callFunc_extern (e:=add64Entry) ac (fn:=f115) ac ac ac ac,run_add64 _ _ _ aa aa aa aa];simp only[Result.andThen];have k1:((x.toNat:Int)+(y.toNat:Int)+(c.toNat:Int))%18446744073709551616=(((x+y+c).toNat:Nat):Int):=by
   rw[fk,fk];omega
  have k2:((x.toNat:Int)+(y.toNat:Int)+(c.toNat:Int))/18446744073709551616=(((BitVec.ofNat 64 ((x.toNat+y.toNat+c.toNat)/18446744073709551616)).toNat:Nat):Int):=by
   rw[cx];omega
  rw[k1,k2]
 ·unfold VR;refine⟨_,rfl,?_⟩;unfold VRs;refine⟨_,_,rfl,by unfold VR;rfl,?_⟩;unfold VRs;refine⟨_,_,rfl,by unfold VR;rfl,?_⟩;unfold VRs;rfl
def bO (x y c:BitVec 64):BitVec 64:=BitVec.ofNat 64 ((x.toNat+y.toNat+c.toNat)/18446744073709551616)
theorem kM (x y c:BitVec 64)(h:c.toNat<=1):(bO x y c).toNat<=1:=by
 have :=x.isLt;have :=y.isLt;unfold bO;rw[cx];omega
theorem wo (x y c:BitVec 64)(hc:c.toNat<=1):ta prog 115 [.u64 x,.u64 y,.u64 c] (.tup [.u64 (x+y+c),.u64 (bO x y c)]):=GI x y c hc
theorem Lx (a0 b a2 a c d:BitVec 64):aG prog 200 [.agg [.u64 a0,.u64 b,.u64 a2],.agg [.u64 a,.u64 c,.u64 d]]
  (.agg [.u64 (a0+a+0#64),.u64 (b+c+bO a0 a 0#64),.u64 (a2+d+bO b c (bO a0 a 0#64))]):=by
 have e:=kM a0 a 0#64 ah;have f:=kM b c (bO a0 a 0#64) e;refine aQ ac (fn:=f200) ac func200 rfl am (by simp[af,V.low]) (by simp[af,V.low]) (ak ?_);simp only[go_sem,seval,ntmps200];refine dz 4 ?_;simp only[go_sem,seval];refine Cg (wo a0 a 0#64 ah) ?_;simp only[go_sem,seval];refine⟨ac,?_⟩;refine Cg (wo b c (bO a0 a 0#64) e) ?_;simp only[go_sem,seval];refine⟨ac,?_⟩;refine Cg (wo a2 d (bO b c (bO a0 a 0#64)) f) ?_;simp only[go_sem,seval];kernel_rfl
theorem ZL (a0 a a2:BitVec 64):aG prog 206 [.agg [.u64 a0,.u64 a,.u64 a2]]
  (.agg [.u64 (a0+5#64*(a2>>>2)+0#64),.u64 (a+0#64+bO a0 (5#64*(a2>>>2)) 0#64),.u64 ((a2&&&3#64)+0#64+bO a 0#64 (bO a0 (5#64*(a2>>>2)) 0#64))]):=by
 refine aQ ac (fn:=f206) ac func206 rfl am (by simp[af,V.low]) (by simp[af,V.low]) (ak ?_);simp only[go_sem,seval,ntmps206];refine au (Lx a0 a (a2&&&3#64) (5#64*(a2>>>2)) 0#64 0#64) ?_;simp only[go_sem,seval]
end Go.Vm
end
