/- Proved: laws of a machine of values; no conditions but each theorem's own. -/
import Derived.Laws.Externs
import Derived.Test.YtidjknjilnopnaaGreatDoorHeadToShA
set_option linter.unusedVariables false
set_option linter.unusedSimpArgs false
set_option maxRecDepth 20000
set_option maxHeartbeats 8000000
section
namespace Go.Vm
open Go.Proofs Go.Proofs.Tryz
theorem Qh (x y c:BitVec 64)(hc:c.toNat<=1):zK prog 115 [.u64 x,.u64 y,.u64 c] (.aZ [.u64 (x+y+c),.u64 (BitVec.ofNat 64 ((x.toNat+y.toNat+c.toNat)/18446744073709551616))]):=by
 intro u t w a b;unfold ao at b;obtain⟨v,g,m,p,b⟩:=b;unfold ao at b;obtain⟨z,h,i,q,b⟩:=b;unfold ao at b;obtain⟨A,j,k,f,b⟩:=b;unfold ao at b;unfold VR at p q f;subst p q f b k i;have l:a=#[.int .u64 x.toNat,.int .u64 y.toNat,.int .u64 c.toNat]:=by cases a;simp_all
 subst l;have n:=x.isLt;have o:=y.isLt;refine⟨.tuple #[.int .u64 (((x+y+c).toNat:Nat):Int),.int .u64 ((BitVec.ofNat 64 ((x.toNat+y.toNat+c.toNat)/18446744073709551616)).toNat:Int)],?_,?_⟩
 .rw[run_callFunc_extern (e:=add64Entry) U (fn:=f115) U U U U,run_add64 _ _ _ I I I I];simp only[Result.andThen];have r:((x.toNat:Int)+(y.toNat:Int)+(c.toNat:Int))%18446744073709551616=(((x+y+c).toNat:Nat):Int):=by
   rw[jL,jL];omega
  have s:((x.toNat:Int)+(y.toNat:Int)+(c.toNat:Int))/18446744073709551616=(((BitVec.ofNat 64 ((x.toNat+y.toNat+c.toNat)/18446744073709551616)).toNat:Nat):Int):=by
   rw[fL];omega
  rw[r,s]
 .unfold VR;refine⟨_,rfl,?_⟩;unfold ao;refine⟨_,_,rfl,by unfold VR;rfl,?_⟩;unfold ao;refine⟨_,_,rfl,by unfold VR;rfl,?_⟩;unfold ao;rfl
def dG (x y c:aS):aS:=BitVec.ofNat 64 ((x.toNat+y.toNat+c.toNat)/18446744073709551616)
theorem qa (x y c:aS)(h:c.toNat<=1):(dG x y c).toNat<=1:=by
 have :=x.isLt;have :=y.isLt;unfold dG;rw[fL];omega
theorem B9 (x y c:aS)(hc:c.toNat<=1):zK prog 115 [.u64 x,.u64 y,.u64 c] (.aZ [.u64 (x+y+c),.u64 (dG x y c)]):=Qh x y c hc
theorem QV (d e g a f b:aS):bE prog 200 [.agg [.u64 d,.u64 e,.u64 g],.agg [.u64 a,.u64 f,.u64 b]]
  (.agg [.u64 (d+a+0#64),.u64 (e+f+dG d a 0#64),.u64 (g+b+dG e f (dG d a 0#64))]):=by
 have h:=qa d a 0#64 ag;have c:=qa e f (dG d a 0#64) h;refine ai func200 ?_;simp only[go_sem,seval,ntmps200];refine ij 4 (aH ?_);refine Jd (B9 d a 0#64 ag) (aH ?_);refine⟨U,?_⟩;refine Jd (B9 e f (dG d a 0#64) h) (aH ?_);refine⟨U,?_⟩;refine Jd (B9 g b (dG e f (dG d a 0#64)) c) (aH ?_);kernel_rfl
theorem Uf (b c a:aS):bE prog 206 [.agg [.u64 b,.u64 c,.u64 a]]
  (.agg [.u64 (b+5#64*(a>>>2)+0#64),.u64 (c+0#64+dG b (5#64*(a>>>2)) 0#64),.u64 ((a&&&3#64)+0#64+dG c 0#64 (dG b (5#64*(a>>>2)) 0#64))]):=by
 refine ai func206 ?_;simp only[go_sem,seval,ntmps206];refine br (QV b c (a&&&3#64) (5#64*(a>>>2)) 0#64 0#64) ?_;simp only[go_sem,seval]
end Go.Vm
end
