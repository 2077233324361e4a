/- Proved: the law TopComes answers true for every input, the two listed tables of Go's library lying as the program's text lays them (the tied card Rows.TopComesCardSaid); no condition is added. -/
import Derived.LaidMore
import Derived.Lay
import Derived.Stop.Joined
import Derived.SevenTiedAt
import Derived.Test.YtidjknjilnopnaaGreatDoorChecked
import Derived.Test.YtidjknjilnopnaaGreatDoorRows
import Derived.Test.YtidjknjilnopnaaGreatDoorCards
import Derived.Test.YtidjknjilnopnaaGreatDoorTie
import Derived.Test.YtidjknjilnopnaaGreatDoorXiEToXjG
set_option linter.unusedVariables false
set_option linter.unusedSimpArgs false
set_option maxRecDepth 20000
set_option maxHeartbeats 8000000
namespace Go.Proofs.YtidjknjilnopnaaGreatDoor.topComes
open Go.Vm Go.ChangeShapes Go.WideShapes Go.ChangeAt Go.RowKit
abbrev argKinds:List mM:=[.row [.i64] 8,.cell .str,.row [.i64,.i64,.i64,.i64,.u32,.u32,.str] 56,.cell .i64,.cell .i64,.cell .str]
theorem walk:∀ vs h,qn argKinds 0 vs h->∃ h',bp Tryz.prog 3 vs h (.bool true) h':=by
 intro vs h d;obtain⟨u,w,m,rfl,k,o⟩:=CZ (k3:=[.cell .i64,.cell .i64,.cell .str]) (ks:=[.row [.i64] 8,.cell .str,.row [.i64,.i64,.i64,.i64,.u32,.u32,.str] 56]) (fun {n vs h} d=>by
  obtain⟨v,f,rfl,-,x,e,rfl,-,y,g,rfl,-,-,rfl⟩:=d;rfl) d
 obtain⟨_,_,rfl,⟨f0,rfl,-⟩,_,_,rfl,⟨p,rfl,-⟩,_,_,rfl,⟨q,rfl,-⟩,rfl,-⟩:=o;obtain⟨z,A,af,B,s,c⟩:=afr k;have i:=c.vs;subst i;obtain⟨v,C,t,j,rfl⟩:=ajc c.bD c.b c.a c.l c.r af f0 p q;exact⟨t,j.spec⟩
theorem facts:joinedFacts Tryz.prog 3 Tryz.f3 Rows.topComesSpec Rows.topComesRow=true:=
 YL U head.laidOut head.NE U U U head.stops U head.knobs U U U U
  U (by rw[head.plain];rfl) U head.heard head.mayEnter (by rw[head.Sc];rfl) (by rw[head.make];rfl) U U U U
theorem kinds:Df Tryz.prog Tryz.f3.params.toList argKinds:=⟨⟨3,Tryz.underlying22,(Cells.one 3 .i64 Tryz.underlying3),U,U,ag,ag⟩,Tryz.underlying9,⟨31,Tryz.underlying23,(Cells.struct 31 _ [[.i64],[.i64],[.i64],[.i64],[.u32],[.u32],[.str]] Tryz.underlying31 U rfl (fun i f c a b=>match i,a,b with|0,a,b=>(by cases a;cases b;exact⟨rfl,U⟩)|1,a,b=>(by cases a;cases b;exact⟨rfl,U⟩)|2,a,b=>(by cases a;cases b;exact⟨rfl,U⟩)|3,a,b=>(by cases a;cases b;exact⟨rfl,U⟩)|4,a,b=>(by cases a;cases b;exact⟨rfl,U⟩)|5,a,b=>(by cases a;cases b;exact⟨rfl,U⟩)|6,a,b=>(by cases a;cases b;exact⟨rfl,U⟩)|(i+7),a,b=>(by simp at a)) (fun i f c a b=>match i,a,b with|0,a,b=>(by cases a;cases b;exact(Cells.one 3 .i64 Tryz.underlying3))|1,a,b=>(by cases a;cases b;exact(Cells.one 3 .i64 Tryz.underlying3))|2,a,b=>(by cases a;cases b;exact(Cells.one 3 .i64 Tryz.underlying3))|3,a,b=>(by cases a;cases b;exact(Cells.one 3 .i64 Tryz.underlying3))|4,a,b=>(by cases a;cases b;exact(Cells.one 29 .u32 Tryz.underlying29))|5,a,b=>(by cases a;cases b;exact(Cells.one 29 .u32 Tryz.underlying29))|6,a,b=>(by cases a;cases b;exact(Cells.one 9 .str Tryz.underlying9))|(i+7),a,b=>(by simp at a))),U,U,ag,ag⟩,Tryz.underlying3,Tryz.underlying3,Tryz.underlying9,trivial⟩
theorem reads:∀ t∈Tryz.f3.params.toList,Tryz.prog.readableRec t=true/\t<Tryz.prog.types.size:=by
 have e:Tryz.f3.params.toList=[22,9,23,3,3,9]:=U;rw[e];intro t a;simp only[gz,xA,or_false] at a;rcases a with rfl|rfl|rfl|rfl|rfl|rfl<;>exact⟨U,yZ U⟩
def tables:List (String×DataW Unit):=[("unicode/utf8.acceptRanges",Rows.laid_unicode_utf8_acceptRanges),("unicode/utf8.first",Rows.laid_unicode_utf8_first)]
theorem met (os:Os)(args:Array Value):laidMetH Tryz.prog tables ((World.laidAll Tryz.prog os tables).forCall (fun _ _=>0) ⟨#[],args,[]⟩).memory:=
 laidMetH_of_parts3 (fuel:=8) (laidMet_laidAll _ U U) U U
set_option maxRecDepth 100000 in
theorem lifted (os:Os)(g:os.Started)(H:Type)(enc:TypeId×Value->H):
  ReturnsInHanded {} Tryz.checked os 3 .any (fun w args=>(Rows.topComesSpec.pre enc Tryz.prog Tryz.f3 [] false w args/\laidMetH Tryz.prog tables w)/\sizedMet enc Tryz.prog Tryz.f3 (OpenSpec.ofChange Rows.topComesSpec) false w args)
   (Rows.topComesSpec.post enc Tryz.prog Tryz.f3 false true false false):=by
 refine returnsInHanded_of_change_and (C:=Tryz.checked) (X:=fun w _=>laidMetH Tryz.prog tables w) (fun _ _ _ n h=>h.of_heap n) head.own g U Tryz.func3
  (ChangeSpec.witness_shaped (enc:=enc) (C:=Tryz.checked) (os:=os) (X:=fun w _=>laidMetH Tryz.prog tables w) false (World.laidAll Tryz.prog os tables) #[.slice none 0 0,.string ⟨#[]⟩,.slice none 0 0,.int .i64 0,.int .i64 0,.string ⟨#[]⟩] 8 (World.laidAll_os _ _ _) (World.shaped_of_ZipB U U) U U U (met os _)) ?_
 intro W l args m p j i o _ k _ _;refine Uk (ks:=argKinds) (tb:=4) head.laidOut reads kinds U Tryz.underlying4 rfl ?_ i o k walk;intro m h
 match m,h with
 |[a,b,c,d,e,f],_=>exact⟨rfl,rfl,rfl⟩
theorem over:Rows.topComesRow.holds Tryz.pinned (OpenSpec.ofChange Rows.topComesSpec):=
 OpenClaim.holds_of_wide 3 Tryz.f3 rfl rfl rfl rfl rfl rfl rfl ⟨rfl,rfl,rfl,rfl,rfl⟩ rfl rfl rfl rfl rfl U Tryz.func3 facts
  (yZ U) (by unfold Func.isWrapper;first|(rw[aM yR];kernel_rfl)|(rw[aq yR];exact⟨rfl,rfl⟩))
  (fun c a H b _=>lifted c a H b)
theorem proved:Rows.TopComesCardSaid:=
 Claim7.holds_tied_plain_at .later [] [.data,.pinned] true (true, "d3cc54ee206573b08c87be076e71cda595f3c5bc601367d45083531a73675f63") false
  over (fun _ h=>by cases h) U (fun _ h=>by cases h) topComes_row_tie rfl ⟨rfl,rfl⟩ U rfl
  (fun f fn hf b=>by
   obtain rfl:f=3:=nc ((show Tryz.prog.funcNamed Rows.topComesRow.func=some 3 by kernel_rfl).symm.trans hf) |>.symm;obtain rfl:fn=Tryz.f3:=(nc (Tryz.func3.symm.trans b)).symm;exact⟨U,fun j t ht=>by
    have e:Tryz.f3.params.toList=[22,9,23,3,3,9]:=U;have hm:t∈[22,9,23,3,3,9]:=by rw[←e];simpa using Array.mem_of_getElem? ht
    have a:([22,9,23,3,3,9].all fun u=>! Tryz.prog.wantsStandIn u)=true:=U;exact(show Tryz.prog.wantsStandIn t=false by simpa using sk.1 a t hm)⟩)
  U
end Go.Proofs.YtidjknjilnopnaaGreatDoor.topComes
