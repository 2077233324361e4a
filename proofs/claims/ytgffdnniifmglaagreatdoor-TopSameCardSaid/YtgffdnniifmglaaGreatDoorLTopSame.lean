/- Proved: the law TopSame answers true for every input, the two listed tables of Go's library lying as the program's text lays them (the tied card Rows.TopSameCardSaid); no condition is added. -/
import Derived.LaidMore
import Derived.Lay
import Derived.Stop.Joined
import Derived.SevenTiedAt
import Derived.Test.YtgffdnniifmglaaGreatDoorChecked
import Derived.Test.YtgffdnniifmglaaGreatDoorRows
import Derived.Test.YtgffdnniifmglaaGreatDoorCards
import Derived.Test.YtgffdnniifmglaaGreatDoorTie
import Derived.Test.YtgffdnniifmglaaGreatDoorLkWToLkZ5
import Derived.Test.YtgffdnniifmglaaGreatDoorVmZ2ToVmZ3
import Derived.Test.YtgffdnniifmglaaGreatDoorHeadToShA
set_option linter.unusedVariables false
set_option linter.unusedSimpArgs false
set_option linter.unusedSectionVars false
set_option maxRecDepth 20000
set_option maxHeartbeats 8000000
namespace Go.Proofs.YtgffdnniifmglaaGreatDoor.topSame
open Go.Vm Go.ChangeShapes Go.WideShapes Go.ChangeAt Go.RowKit
abbrev argKinds:List ArgK:=[.row [.i64] 8,.cell .str,.row [.i64,.i64,.i64,.i64,.u32,.u32,.str] 56]
theorem walk:∀ vs h,iZ argKinds 0 vs h→∃ h',ao Tryz.prog 3 vs h (.bool true) h':=by
 rintro vs h hh
 obtain⟨av,seed,bv,hb⟩:True∧True∧True∧True:=⟨trivial,trivial,trivial,trivial⟩
 clear av seed bv hb
 have ha:∀ {n vs h},iZ [.row [.i64,.i64,.i64,.i64,.u32,.u32,.str] 56] n vs h→∃ (av:V) (rows:List (List V)),vs=[av]∧(∀ r∈rows,Kinds [.i64,.i64,.i64,.i64,.u32,.u32,.str] r)∧rows.length≤2600000000000∧
   ((av= .nilSlice∧rows=[]∧h=[])∨(av= .slice n 0 rows.length 7∧∃ hd,h=[hd]∧(0<rows.length→hd=some ⟨true,rows.flatten,none⟩)∧(rows.length=0→hd=none))):=by
  rintro n vs h (⟨vs',rfl,rfl,rfl⟩|⟨rows,vs',hd,h',rfl,rfl,hr,hb,h1,h2,rfl,rfl⟩)
  ·exact⟨_,[],rfl,fun r h=>(by cases h),Nat.zero_le _,.inl ⟨rfl,rfl,rfl⟩⟩
  ·exact⟨_,rows,rfl,hr,by omega,.inr ⟨rfl,hd,rfl,h1,h2⟩⟩
 rcases hh with⟨vs',rfl,⟨v,vs',rfl,⟨seed,rfl,-⟩,hh⟩⟩|⟨bs,vs',hd,h',rfl,rfl,hbr,-,hb1,hb2,⟨v,vs',rfl,⟨seed,rfl,-⟩,hh⟩⟩
 ·obtain⟨av,rows,rfl,hk,hl,hx⟩:=ha hh
  refine⟨h,Nj seed fun b B e=>?_⟩
  rcases hx with⟨-,-,rfl⟩|⟨-,hd,rfl,h1,h2⟩
  ·simp[aa] at e
  ·match b with
   |b+1=>simp[aa] at e
   |0=>
    by_cases h0:0<rows.length
    ·rw[h1 h0] at e
     obtain rfl:_=B:=by simpa [aa] using e
     exact(n8 hk).2 _
    ·rw[h2 (by omega)] at e;simp[aa] at e
 obtain⟨av,rows,rfl,hk,hl,hx⟩:=ha hh
 obtain⟨hm1,hm2⟩:((av= .nilSlice∧rows=[])∨(av= .slice 1 0 rows.length 7∧1<(hd::h').length∧(0<rows.length→aa (hd::h') 1=some ⟨true,rows.flatten,none⟩)))∧(rows=[]→aa (hd::h') 1=none):=by
  rcases hx with⟨rfl,rfl,rfl⟩|⟨rfl,hd',rfl,h1,h2⟩
  ·exact⟨.inl ⟨rfl,rfl⟩,fun _=>rfl⟩
  ·exact⟨.inr ⟨rfl,by simp,fun h=>by rw[h1 h];rfl⟩,fun h=>by rw[h2 (by simp[h])];rfl⟩
 have hav:=JQ (α:=1) (β:=0) (n1:=0) (v:= .junk) [] (by decide) hm1 (ze hk)
 have hz:=xU hbr
 obtain⟨zs,hz1,hz2,-⟩:=hz
 have hAs:∀ b B,aa (hd::h') b=some B→ac (hd::h').length B.cs:=fun b B e=>by
  match b with
  |0=>
   by_cases h0:0<bs.length
   ·rw[hb1 h0] at e
    obtain rfl:_=B:=by simpa [aa] using e
    exact(n8 hbr).2 _
   ·rw[hb2 (by omega)] at e;simp[aa] at e
  |b+1=>
   rcases hx with⟨-,-,rfl⟩|⟨-,hd',rfl,h1,h2⟩
   ·simp[aa] at e
   ·match b with
    |b+1=>simp[aa] at e
    |0=>
     by_cases h0:0<rows.length
     ·rw[h1 h0] at e
      obtain rfl:_=B:=by simpa [aa] using e
      exact(n8 hk).2 _
     ·rw[h2 (by omega)] at e;simp[aa] at e
 by_cases h0:0<bs.length
 ·have hg:aa (hd::h') 0=some ⟨true,zs.map V.i64,none⟩:=by rw[hb1 h0,hz1];rfl
  have :=JS seed hg hav hl (ze hk) (by decide) hm2 hAs
  rw[hz2] at this
  exact⟨_,this⟩
 ·have e0:bs.length=0:=by omega
  rw[e0]
  exact⟨_,JR seed (by simp) (by rw[hb2 e0];rfl) hAs⟩
theorem facts:joinedFacts Tryz.prog 3 Tryz.f3 Rows.topSameSpec Rows.topSameRow=true:=
 IY (by kernel_rfl) head.laidOut head.rowed (by kernel_rfl) (by kernel_rfl) (by kernel_rfl) head.stops (by kernel_rfl) head.knobs (by kernel_rfl) (by kernel_rfl) (by kernel_rfl) (by kernel_rfl)
  (by kernel_rfl) (by rw[head.plain];rfl) (by kernel_rfl) head.heard head.mayEnter (by rw[head.lifts];rfl) (by rw[head.make];rfl) (by kernel_rfl) (by kernel_rfl) (by kernel_rfl) (by kernel_rfl)
theorem kinds:pE Tryz.prog Tryz.f3.params.toList argKinds:=⟨⟨3,Tryz.underlying22,(Cells.one 3 .i64 Tryz.underlying3),by kernel_rfl,by kernel_rfl,by decide,by decide⟩,Tryz.underlying9,⟨29,Tryz.underlying23,(Cells.struct 29 _ [[.i64],[.i64],[.i64],[.i64],[.u32],[.u32],[.str]] Tryz.underlying29 (by kernel_rfl) rfl (fun i f ks h1 h2=>match i,h1,h2 with|0,h1,h2=>(by cases h1;cases h2;exact⟨rfl,by kernel_rfl⟩)|1,h1,h2=>(by cases h1;cases h2;exact⟨rfl,by kernel_rfl⟩)|2,h1,h2=>(by cases h1;cases h2;exact⟨rfl,by kernel_rfl⟩)|3,h1,h2=>(by cases h1;cases h2;exact⟨rfl,by kernel_rfl⟩)|4,h1,h2=>(by cases h1;cases h2;exact⟨rfl,by kernel_rfl⟩)|5,h1,h2=>(by cases h1;cases h2;exact⟨rfl,by kernel_rfl⟩)|6,h1,h2=>(by cases h1;cases h2;exact⟨rfl,by kernel_rfl⟩)|(i+7),h1,h2=>(by simp at h1)) (fun i f ks h1 h2=>match i,h1,h2 with|0,h1,h2=>(by cases h1;cases h2;exact(Cells.one 3 .i64 Tryz.underlying3))|1,h1,h2=>(by cases h1;cases h2;exact(Cells.one 3 .i64 Tryz.underlying3))|2,h1,h2=>(by cases h1;cases h2;exact(Cells.one 3 .i64 Tryz.underlying3))|3,h1,h2=>(by cases h1;cases h2;exact(Cells.one 3 .i64 Tryz.underlying3))|4,h1,h2=>(by cases h1;cases h2;exact(Cells.one 27 .u32 Tryz.underlying27))|5,h1,h2=>(by cases h1;cases h2;exact(Cells.one 27 .u32 Tryz.underlying27))|6,h1,h2=>(by cases h1;cases h2;exact(Cells.one 9 .str Tryz.underlying9))|(i+7),h1,h2=>(by simp at h1))),by kernel_rfl,by kernel_rfl,by decide,by decide⟩,trivial⟩
theorem reads:∀ t∈Tryz.f3.params.toList,Tryz.prog.readableRec t=true∧t<Tryz.prog.types.size:=by
 have e:Tryz.f3.params.toList=[22,9,23]:=by kernel_rfl
 rw[e]
 intro t ht
 simp only[List.mem_cons,List.not_mem_nil,or_false] at ht
 rcases ht with rfl|rfl|rfl<;>exact⟨by kernel_rfl,of_decide_eq_true (by kernel_rfl)⟩
def tables:List (String×DataW Unit):=[("unicode/utf8.acceptRanges",Rows.laid_unicode_utf8_acceptRanges),("unicode/utf8.first",Rows.laid_unicode_utf8_first)]
theorem met (os:Os)(args:Array Value):laidMetH Tryz.prog tables ((World.laidAll Tryz.prog os tables).forCall (fun _ _=>0) ⟨#[],args,[]⟩).memory:=
 laidMetH_of_parts3 (fuel:=8) (laidMet_laidAll _ (by kernel_rfl) (by kernel_rfl)) (by kernel_rfl) (by kernel_rfl)
set_option maxRecDepth 100000 in
theorem lifted (os:Os)(started:os.Started)(H:Type)(enc:TypeId×Value→H):
  ReturnsInHanded {} Tryz.checked os 3 .any (fun w args=>(Rows.topSameSpec.pre enc Tryz.prog Tryz.f3 [] false w args∧laidMetH Tryz.prog tables w)∧sizedMet enc Tryz.prog Tryz.f3 (OpenSpec.ofChange Rows.topSameSpec) false w args)
   (Rows.topSameSpec.post enc Tryz.prog Tryz.f3 false true false false):=by
 refine returnsInHanded_of_change_and (C:=Tryz.checked) (X:=fun w _=>laidMetH Tryz.prog tables w) (fun _ _ _ hh h=>h.of_heap hh) head.own started (by kernel_rfl) Tryz.func3
  (ChangeSpec.witness_shaped (enc:=enc) (C:=Tryz.checked) (os:=os) (X:=fun w _=>laidMetH Tryz.prog tables w) false (World.laidAll Tryz.prog os tables) #[.slice none 0 0,.string ⟨#[]⟩,.slice none 0 0] 8 (World.laidAll_os _ _ _) (World.shaped_of_ZipB (by kernel_rfl) (by kernel_rfl)) (by kernel_rfl) (by kernel_rfl) (by kernel_rfl) (met os _)) ?_
 intro W base args ds gs before hval hW _ hsz _ _
 refine Fi (ks:=argKinds) (tb:=4) head.laidOut reads kinds (by kernel_rfl) Tryz.underlying4 rfl ?_ hval hW hsz walk
 intro ds h
 match ds,h with
 |[a,b,c],_=>exact⟨rfl,rfl,rfl⟩
theorem over:Rows.topSameRow.holds Tryz.pinned (OpenSpec.ofChange Rows.topSameSpec):=
 OpenClaim.holds_of_wide 3 Tryz.f3 rfl rfl rfl rfl rfl rfl rfl ⟨rfl,rfl,rfl,rfl,rfl⟩ rfl rfl rfl rfl rfl (by kernel_rfl) Tryz.func3 facts
  (of_decide_eq_true (by kernel_rfl)) (by unfold Func.isWrapper;first|(rw[if_pos (by decide+kernel)];kernel_rfl)|(rw[if_neg (by decide+kernel)];exact⟨rfl,rfl⟩))
  (fun os started H enc _=>lifted os started H enc)
theorem proved:Rows.TopSameCardSaid:=
 Claim7.holds_tied_plain_at .later [] [.data,.pinned] true (true, "f509a5bc7ebd0dd31741b5c617aeafbd40b4278e99e684edb2d2715f54c4894d") false
  over (fun _ h=>by cases h) (by kernel_rfl) (fun _ h=>by cases h) topSame_row_tie rfl ⟨rfl,rfl⟩ (by kernel_rfl) rfl
  (fun f fn hf hfn=>by
   obtain rfl:f=3:=Option.some.inj ((show Tryz.prog.funcNamed Rows.topSameRow.func=some 3 by kernel_rfl).symm.trans hf) |>.symm
   obtain rfl:fn=Tryz.f3:=(Option.some.inj (Tryz.func3.symm.trans hfn)).symm
   exact⟨by kernel_rfl,fun j t ht=>by
    have e:Tryz.f3.params.toList=[22,9,23]:=by kernel_rfl
    have hm:t∈[22,9,23]:=by rw[←e];simpa using Array.mem_of_getElem? ht
    have hall:([22,9,23].all fun u=>!Tryz.prog.wantsStandIn u)=true:=by kernel_rfl
    exact(show Tryz.prog.wantsStandIn t=false by simpa using List.all_eq_true.1 hall t hm)⟩)
  (by kernel_rfl)
end Go.Proofs.YtgffdnniifmglaaGreatDoor.topSame
