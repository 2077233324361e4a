/- Proved: the law TopHigher answers true for every input whose bulk is at most 1048576, the two listed tables of Go's library lying as the program's text lays them (the tied card Rows.TopHigherUptoCardSaid); no further condition is added. -/
import Derived.JoinedCond
import Derived.Deep.CondSized
import Derived.LaidMore
import Derived.Lay
import Derived.Stop.Joined
import Derived.SevenTiedAt
import Derived.Test.YtidjknjilnopnaaGreatDoorChecked
import Derived.Test.YtidjknjilnopnaaGreatDoorRows
import Derived.Test.YtidjknjilnopnaaGreatDoorCards
import Derived.Test.YtidjknjilnopnaaGreatDoorTie
import Derived.Test.YtidjknjilnopnaaGreatDoorXgDToXgE
set_option linter.unusedVariables false
set_option linter.unusedSimpArgs false
set_option maxRecDepth 20000
set_option maxHeartbeats 8000000
namespace Go.Proofs.YtidjknjilnopnaaGreatDoor.topHigherUpto
open Go.Vm Go.ChangeShapes Go.WideShapes Go.ChangeAt Go.RowKit
abbrev argKinds:List ArgK:=[.row [.i64] 8,.cell .str,.row [.i64,.i64,.i64,.i64,.u32,.u32,.str] 56]
theorem walk:∀ vs h,nO argKinds 0 vs h->v8 1048576 vs->∃ h',aq Tryz.prog 4 vs h (.bool true) h':=by
 intro vs h d hc;obtain⟨bv,av,seed,bs,as_,c⟩:=TY d;have f:=c.vs;subst f;have g:as_.length<=1048576:=by
  rcases c.a with⟨-,e⟩|⟨b,e,-,-⟩
  ·rw[e];exact fg _
  ·exact hc b 0 as_.length 7 (by rw[e];simp)
 obtain⟨v,K',H',i,rfl⟩:=afE c.sane c.b c.a g c.r seed;exact⟨H',i.spec⟩
theorem facts:joinedFacts Tryz.prog 4 Tryz.f4 (Rows.OpenSpec.upto Rows.topHigherSpec).bare Rows.topHigherUptoRow=true:=
 W8 ac head.laidOut head.rowed ac ac ac head.stops ac head.knobs ac ac ac ac
  ac (by rw[head.plain];rfl) ac head.heard head.mayEnter (by rw[head.lifts];rfl) (by rw[head.make];rfl) ac ac ac ac
theorem kinds:wK Tryz.prog Tryz.f4.params.toList argKinds:=⟨⟨3,Tryz.underlying22,(Cells.one 3 .i64 Tryz.underlying3),ac,ac,ah,ah⟩,Tryz.underlying9,⟨31,Tryz.underlying23,(Cells.struct 31 _ [[.i64],[.i64],[.i64],[.i64],[.u32],[.u32],[.str]] Tryz.underlying31 ac rfl (fun i f ks h1 h2=>match i,h1,h2 with|0,h1,h2=>(by cases h1;cases h2;exact⟨rfl,ac⟩)|1,h1,h2=>(by cases h1;cases h2;exact⟨rfl,ac⟩)|2,h1,h2=>(by cases h1;cases h2;exact⟨rfl,ac⟩)|3,h1,h2=>(by cases h1;cases h2;exact⟨rfl,ac⟩)|4,h1,h2=>(by cases h1;cases h2;exact⟨rfl,ac⟩)|5,h1,h2=>(by cases h1;cases h2;exact⟨rfl,ac⟩)|6,h1,h2=>(by cases h1;cases h2;exact⟨rfl,ac⟩)|(i+7),h1,h2=>(by simp at h1)) (fun i f ks h1 h2=>match i,h1,h2 with|0,h1,h2=>(by cases h1;cases h2;exact(Cells.one 3 .i64 Tryz.underlying3))|1,h1,h2=>(by cases h1;cases h2;exact(Cells.one 3 .i64 Tryz.underlying3))|2,h1,h2=>(by cases h1;cases h2;exact(Cells.one 3 .i64 Tryz.underlying3))|3,h1,h2=>(by cases h1;cases h2;exact(Cells.one 3 .i64 Tryz.underlying3))|4,h1,h2=>(by cases h1;cases h2;exact(Cells.one 29 .u32 Tryz.underlying29))|5,h1,h2=>(by cases h1;cases h2;exact(Cells.one 29 .u32 Tryz.underlying29))|6,h1,h2=>(by cases h1;cases h2;exact(Cells.one 9 .str Tryz.underlying9))|(i+7),h1,h2=>(by simp at h1))),ac,ac,ah,ah⟩,trivial⟩
theorem reads:∀ t∈Tryz.f4.params.toList,Tryz.prog.readableRec t=true/\t<Tryz.prog.types.size:=by
 have e:Tryz.f4.params.toList=[22,9,23]:=ac;rw[e];intro t a;simp only[cQ,qJ,or_false] at a;rcases a with rfl|rfl|rfl<;>exact⟨ac,of_decide_eq_true ac⟩
def tables:List (String×DataW Unit):=[("unicode/utf8.acceptRanges",Rows.laid_unicode_utf8_acceptRanges),("unicode/utf8.first",Rows.laid_unicode_utf8_first)]
theorem met (os:Os)(args:Array Value):laidMetH Tryz.prog tables ((World.laidAll Tryz.prog os tables).forCall (fun _ _=>0) ⟨#[],args,[]⟩).memory:=
 laidMetH_of_parts3 (fuel:=8) (laidMet_laidAll _ ac ac) ac ac
theorem bulk_pos {H:Type}(d:DataW H):1<=Rows.uptoBulk d:=by
 unfold Rows.uptoBulk;split <;>omega
theorem bulk_len {H:Type}:∀ l:List (DataW H),l.length<=Rows.uptoBulkAll l
 |[]=>fg _
 |d::l=>by
  have h1:=bulk_pos d;have h2:=bulk_len l;simp only[Rows.uptoBulkAll,ce];omega
theorem part_le {H:Type}{d:DataW H}:∀ {l:List (DataW H)},d∈l->Rows.uptoBulk d<=Rows.uptoBulkAll l
 |[],h=>nomatch h
 |x::l,h=>by
  simp only[Rows.uptoBulkAll];rcases cQ.1 h with e|e
  ·subst e;omega
  ·have :=part_le e;omega
theorem cap {H:Type}{ds gs:List (DataW H)}(a:Rows.uptoSmall H (ds++gs)=true)(l1 l2:List (DataW H))(b:DataW.slice l1 l2∈ds):l1.length<=1048576:=by
 have h:Rows.uptoBulkAll (ds++gs)<=1048576:=of_decide_eq_true a;have h2:=part_le (vB gs b);have c:=bulk_len l1;simp only[Rows.uptoBulk] at h2;omega
theorem wholeAt (os:Os)(H:Type)(enc:TypeId×Value->H):DataW.whole enc Tryz.prog ((World.laidAll Tryz.prog os tables).forCall (fun _ _=>0) ⟨#[],#[.slice none 0 0,.string ⟨#[]⟩,.slice none 0 0],[]⟩).memory Tryz.f4.params.toList (Rows.OpenSpec.upto Rows.topHigherSpec).vars false (#[.slice none 0 0,.string ⟨#[]⟩,.slice none 0 0]:Array Value).toList 8=some ([.nil,.lit (.string []),.nil],[],[]):=ac
set_option maxRecDepth 100000 in
theorem lifted (os:Os)(started:os.Started)(H:Type)(enc:TypeId×Value->H)(F:Stop.Interp):
  ReturnsInHanded {} Tryz.checked os 4 .any (fun w args=>((Rows.OpenSpec.upto Rows.topHigherSpec).pre enc Tryz.prog Tryz.f4 [] false w args/\laidMetH Tryz.prog tables w)/\sizedMet enc Tryz.prog Tryz.f4 (Rows.OpenSpec.upto Rows.topHigherSpec) false w args)
   (((Rows.OpenSpec.upto Rows.topHigherSpec).at F).post enc Tryz.prog Tryz.f4 false true false false):=by
 refine returnsInHanded_of_calls head.own started ac ?_ ?_
 ·have hok:Input.okWideB Tryz.prog ((World.laidAll Tryz.prog os tables).forCall (fun _ _=>0) ⟨#[],#[.slice none 0 0,.string ⟨#[]⟩,.slice none 0 0],[]⟩) 4 ⟨#[],#[.slice none 0 0,.string ⟨#[]⟩,.slice none 0 0],[]⟩=true:=ac;refine⟨World.laidAll Tryz.prog os tables,fun _ _=>0,⟨#[],#[.slice none 0 0,.string ⟨#[]⟩,.slice none 0 0],[]⟩,World.laidAll_os _ _ _,World.shaped_of_ZipB ac ac,rfl,(Input.okWide_of_okWideB hok).2,
   ⟨⟨(OpenSpec.pre_some (s:=(Rows.OpenSpec.upto Rows.topHigherSpec)) rfl [] false _ _).2 ⟨_,_,_,DataW.Whole_of_whole (wholeAt os H enc),rfl,ac⟩,met os _⟩,sizedMet_of_sizedB (fuel:=8) ac⟩,?_⟩
  simp only[Assume.holds];exact⟨ae,ae,fun _=>Modest.zero,ae,ae⟩
 intro w tape i _ _ _ hok hpre hholds;obtain⟨_,_,_,fn',hfn',_,_,_,_,hval⟩:=hok;obtain rfl:fn'=Tryz.f4:=kJ (hfn'.symm.trans Tryz.func4);obtain⟨⟨hp,hx⟩,hz⟩:=hpre;obtain⟨ds,gs,before,hw,hc,hkk⟩:=(OpenSpec.pre_some (s:=(Rows.OpenSpec.upto Rows.topHigherSpec)) rfl [] false _ _).1 hp;have hw':=DataW.Whole.of_heap (w':=w.forCall tape i) aZ hw;refine(ahh (s:=Rows.topHigherSpec) (ks:=argKinds) (tb:=4) (N:=1048576) (base:=w.heap.size) (fresh:=true) (handsOn:=false) (jS:=false) head.laidOut reads kinds ac Tryz.underlying4 rfl (fun ds h=>?_) hval hw' (hz.weights hw) (cap hkk) walk).mono fun e W' ⟨v,he,hp⟩=>?_
 ·match ds,h with
  |[a,b,c],_=>exact⟨rfl,rfl,rfl⟩
 ·subst he;exact ChangeSpec.post_blind hp
theorem over:Rows.topHigherUptoRow.holds Tryz.pinned (Rows.OpenSpec.upto Rows.topHigherSpec):=
 OpenClaim.holds_of_cond 4 Tryz.f4 rfl rfl rfl rfl rfl rfl rfl ⟨rfl,rfl,rfl,rfl,rfl⟩ rfl rfl rfl rfl rfl ac Tryz.func4 facts
  (of_decide_eq_true ac) (by unfold Func.isWrapper;first|(rw[if_pos (by decide+kernel)];kernel_rfl)|(rw[if_neg (by decide+kernel)];exact⟨rfl,rfl⟩))
  (fun os started H enc _ F=>lifted os started H enc F)
theorem proved:Rows.TopHigherUptoCardSaid:=
 Claim7.holds_tied_plain_at .later [] [.data,.pinned] true (true, "d3cc54ee206573b08c87be076e71cda595f3c5bc601367d45083531a73675f63") false
  over (fun _ h=>by cases h) ac (fun _ h=>by cases h) topHigherUpto_row_tie rfl ⟨rfl,rfl⟩ ac rfl
  (fun f fn c b=>by
   obtain rfl:f=4:=kJ ((show Tryz.prog.funcNamed Rows.topHigherUptoRow.func=some 4 by kernel_rfl).symm.trans c) |>.symm;obtain rfl:fn=Tryz.f4:=(kJ (Tryz.func4.symm.trans b)).symm;exact⟨ac,fun j t d=>by
    have e:Tryz.f4.params.toList=[22,9,23]:=ac;have g:t∈[22,9,23]:=by rw[←e];simpa using Array.mem_of_getElem? d
    have a:([22,9,23].all fun u=>! Tryz.prog.wantsStandIn u)=true:=ac;exact(show Tryz.prog.wantsStandIn t=false by simpa using mW.1 a t g)⟩)
  ac
end Go.Proofs.YtidjknjilnopnaaGreatDoor.topHigherUpto
