/- Proved: the law TopRises answers true for every input, the two listed tables of Go's library lying as the program's text lays them (the tied card Rows.TopRisesCardSaid); no condition is added. -/
import Derived.LaidMore
import Derived.Lay
import Derived.Stop.Joined
import Derived.SevenTiedAt
import Derived.Test.YtgnnehmeciepaaaGreatDoorChecked
import Derived.Test.YtgnnehmeciepaaaGreatDoorRows
import Derived.Test.YtgnnehmeciepaaaGreatDoorCards
import Derived.Test.YtgnnehmeciepaaaGreatDoorTie
import Derived.Test.YtgnnehmeciepaaaGreatDoorRuFToRuJ
import Derived.Test.YtgnnehmeciepaaaGreatDoorVmZ2ToVmH1
import Derived.Test.YtgnnehmeciepaaaGreatDoorHeadToShA
set_option linter.unusedVariables false
set_option linter.unusedSimpArgs false
set_option linter.unusedSectionVars false
set_option maxRecDepth 20000
set_option maxHeartbeats 8000000
namespace Go.Proofs.YtgnnehmeciepaaaGreatDoor.topRises
open Go.Vm Go.ChangeShapes Go.WideShapes Go.ChangeAt Go.RowKit
abbrev argKinds:List ArgK:=[.cell .str,.cell .i64,.row [.str] 16]
theorem walk:∀ vs h,mU argKinds 0 vs h→∃ h',ag Tryz.prog 3 vs h (.bool true) h':=by
 rintro vs h ⟨v,vs',rfl,⟨t,rfl,ht⟩,v2,vs2,rfl,⟨n,rfl,-⟩,hh⟩
 have key:∀ {α:Nat} {av:V} {strs:List (List ac)},Sane h→CX h α av strs→strs.length≤140737488355328→(∀ x∈strs,x.length≤140737488355328)→∃ h',ag Tryz.prog 3 [.str t,.i64 n,av] h (.bool true) h':=fun hs hT h1 h2=>by
  obtain⟨v,K',H',hd,rfl⟩:=OM hs t (by omega) n hT h1 h2
  exact⟨H',hd.spec⟩
 rcases hh with⟨vs3,rfl,rfl,rfl⟩|⟨rows,vs3,hd,h',rfl,rfl,hr,hb,h1,h2,rfl,rfl⟩
 ·exact key (α:=0) (strs:=[]) (fun b B e=>by simp[ab] at e) (.inl ⟨rfl,rfl⟩) (by decide) (by simp)
 ·obtain⟨strs,q1,q2,q3⟩:=Cd hr
  rw[←q2] at hb h1 h2 ⊢
  rw[q1] at h1
  refine key (α:=0) (strs:=strs) (fun b B e=>?_) (.inr ⟨rfl,by simp,fun h=>by rw[h1 h];rfl⟩) (by omega) q3
  match b with
  |b+1=>simp[ab] at e
  |0=>
   by_cases h0:0<strs.length
   ·rw[h1 h0] at e
    obtain rfl:_=B:=by simpa [ab] using e
    exact⟨Ce _ _,rfl⟩
   ·rw[h2 (by omega)] at e;simp[ab] at e
theorem facts:joinedFacts Tryz.prog 3 Tryz.f3 Rows.topRisesSpec Rows.topRisesRow=true:=
 Nk (by kernel_rfl) head.laidOut head.rowed (by kernel_rfl) (by kernel_rfl) (by kernel_rfl) head.stops (by kernel_rfl) head.knobs (by kernel_rfl) (by kernel_rfl) (by kernel_rfl) (by kernel_rfl)
  (by kernel_rfl) (by rw[head.plain];rfl) (by kernel_rfl) head.heard head.mayEnter (by rw[head.lifts];rfl) (by rw[head.make];rfl) (by kernel_rfl) (by kernel_rfl) (by kernel_rfl) (by kernel_rfl)
theorem kinds:sY Tryz.prog Tryz.f3.params.toList argKinds:=⟨Tryz.underlying9,Tryz.underlying3,⟨9,Tryz.underlying22,(Cells.one 9 .str Tryz.underlying9),by kernel_rfl,by kernel_rfl,by decide,by decide⟩,trivial⟩
theorem reads:∀ t∈Tryz.f3.params.toList,Tryz.prog.readableRec t=true∧t<Tryz.prog.types.size:=by
 have e:Tryz.f3.params.toList=[9,3,22]:=by kernel_rfl
 rw[e]
 intro t ht
 simp only[List.mem_cons,List.not_mem_nil,or_false] at ht
 rcases ht with rfl|rfl|rfl<;>exact⟨by kernel_rfl,of_decide_eq_true (by kernel_rfl)⟩
def tables:List (String×DataW Unit):=[("unicode/utf8.acceptRanges",Rows.laid_unicode_utf8_acceptRanges),("unicode/utf8.first",Rows.laid_unicode_utf8_first)]
theorem met (os:Os)(args:Array Value):laidMetH Tryz.prog tables ((World.laidAll Tryz.prog os tables).forCall (fun _ _=>0) ⟨#[],args,[]⟩).memory:=
 laidMetH_of_parts3 (fuel:=8) (laidMet_laidAll _ (by kernel_rfl) (by kernel_rfl)) (by kernel_rfl) (by kernel_rfl)
set_option maxRecDepth 100000 in
theorem lifted (os:Os)(started:os.Started)(H:Type)(enc:TypeId×Value→H):
  ReturnsInHanded {} Tryz.checked os 3 .any (fun w args=>(Rows.topRisesSpec.pre enc Tryz.prog Tryz.f3 [] false w args∧laidMetH Tryz.prog tables w)∧sizedMet enc Tryz.prog Tryz.f3 (OpenSpec.ofChange Rows.topRisesSpec) false w args)
   (Rows.topRisesSpec.post enc Tryz.prog Tryz.f3 false true false false):=by
 refine returnsInHanded_of_change_and (C:=Tryz.checked) (X:=fun w _=>laidMetH Tryz.prog tables w) (fun _ _ _ hh h=>h.of_heap hh) head.own started (by kernel_rfl) Tryz.func3
  (ChangeSpec.witness_shaped (enc:=enc) (C:=Tryz.checked) (os:=os) (X:=fun w _=>laidMetH Tryz.prog tables w) false (World.laidAll Tryz.prog os tables) #[.string ⟨#[]⟩,.int .i64 0,.slice none 0 0] 8 (World.laidAll_os _ _ _) (World.shaped_of_ZipB (by kernel_rfl) (by kernel_rfl)) (by kernel_rfl) (by kernel_rfl) (by kernel_rfl) (met os _)) ?_
 intro W base args ds gs before hval hW _ hsz _ _
 refine JM (ks:=argKinds) (tb:=4) head.laidOut reads kinds (by kernel_rfl) Tryz.underlying4 rfl ?_ hval hW hsz walk
 intro ds h
 match ds,h with
 |[a,b,c],_=>exact⟨rfl,rfl,rfl⟩
theorem over:Rows.topRisesRow.holds Tryz.pinned (OpenSpec.ofChange Rows.topRisesSpec):=
 OpenClaim.holds_of_wide 3 Tryz.f3 rfl rfl rfl rfl rfl rfl rfl ⟨rfl,rfl,rfl,rfl,rfl⟩ rfl rfl rfl rfl rfl (by kernel_rfl) Tryz.func3 facts
  (of_decide_eq_true (by kernel_rfl)) (by unfold Func.isWrapper;first|(rw[if_pos (by decide+kernel)];kernel_rfl)|(rw[if_neg (by decide+kernel)];exact⟨rfl,rfl⟩))
  (fun os started H enc _=>lifted os started H enc)
theorem proved:Rows.TopRisesCardSaid:=
 Claim7.holds_tied_plain_at .later [] [.data,.pinned] true (true, "54fb6fd3f7b8e878c49fc0ce2ec3fb866ad1c62bd05e0b0c37d38e500bef8ad3") false
  over (fun _ h=>by cases h) (by kernel_rfl) (fun _ h=>by cases h) topRises_row_tie rfl ⟨rfl,rfl⟩ (by kernel_rfl) rfl
  (fun f fn hf hfn=>by
   obtain rfl:f=3:=Option.some.inj ((show Tryz.prog.funcNamed Rows.topRisesRow.func=some 3 by kernel_rfl).symm.trans hf) |>.symm
   obtain rfl:fn=Tryz.f3:=(Option.some.inj (Tryz.func3.symm.trans hfn)).symm
   exact⟨by kernel_rfl,fun j t ht=>by
    have e:Tryz.f3.params.toList=[9,3,22]:=by kernel_rfl
    have hm:t∈[9,3,22]:=by rw[←e];simpa using Array.mem_of_getElem? ht
    have hall:([9,3,22].all fun u=>! Tryz.prog.wantsStandIn u)=true:=by kernel_rfl
    exact(show Tryz.prog.wantsStandIn t=false by simpa using List.all_eq_true.1 hall t hm)⟩)
  (by kernel_rfl)
end Go.Proofs.YtgnnehmeciepaaaGreatDoor.topRises
