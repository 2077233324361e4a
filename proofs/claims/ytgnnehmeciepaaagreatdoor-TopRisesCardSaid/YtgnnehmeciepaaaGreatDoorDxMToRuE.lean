/- Proved: laws of a machine of values, or what a function answers; no conditions but each theorem's own. -/
import Derived.Test.YtgnnehmeciepaaaGreatDoorSxBToGp4
import Derived.Test.YtgnnehmeciepaaaGreatDoorVmYToNum
import Derived.Test.YtgnnehmeciepaaaGreatDoorDelAToLsI
set_option linter.unusedVariables false
set_option linter.unusedSimpArgs false
set_option linter.unusedSectionVars false
set_option maxRecDepth 20000
set_option maxHeartbeats 8000000
section
namespace Go.Vm
open Go.Proofs
theorem KQ (d:DS)(p:PS){su:Int}(hs:su=1∨su=2)(hbest:d.best=2)(hpin:p.pin=1)(hpub:d.pub=ai d.own)(hsec:d.secret.length=32)(hseed:d.seed.length=32)(hpsk:p.psk.length=32)(hown:d.own.length=32)(hn:0≤d.now)(hn2:d.now≤1099511627776){once own:List ac}(ho:once.length=32)(hw:own.length=32)(hpp:p.pub=ai own){sec nano:Int}(hsn:sec=0∧nano=0∨sec=200∧nano=1)(hst:p.stamped=false)(id fr:BitVec 32)(hfr:fr≠0#32)
  (t0:Int) (m:MapC) (hm:m.ok) (hv:∀ e∈m.es,0≤e.2.2∧e.2.2≤100) (ht0:0≤t0) (ht1:t0≤1099511627776) (htk:(bR t0 d.now fr m).1=0):
  ag Tryz.prog 67 [.ptr 0 0,.u32 fr,.str (marked d.pub (fT su d.own once own sec nano 2 id))] [bK (d.cs .nilSlice .nilSlice),bK [.ptr 4 0],none,bK [.i64 t0,.map 6],bK (p.cs .nilSlice .nilPtr .nilPtr (.nilPtr) .nilPtr),none,some ⟨false,[],some m⟩] (.i64 0)
   [bK ({d with fresh:=d.fresh+1#64,index:=d.index+1#32}.cs (.slice 10 0 1 3) .nilSlice),bK [.ptr 4 0],none,bK [.i64 (bR t0 d.now fr m).2.1,.map 6],bK ({p with knows:=2,at_:=fr,stamped:=true,sec:=sec,nano:=nano}.cs .nilSlice .nilPtr .nilPtr (.nilPtr) (.ptr 9 0)),none,some ⟨false,[],some (bR t0 d.now fr m).2.2⟩,
    bK [.i64 0,.u64 0#64],bK [.ptr 7 0,.str (gK su (aS su d.own once own sec nano 2) d.keyV once own p.psk 2 1),.str (gK su (aS su d.own once own sec nano 2) d.keyV once own p.psk 2 0),.i64 su,.i64 d.now,.i64 0,.bool false],some ⟨false,[.ptr 8 0,.i64 su,.u32 (d.index+1#32),.u32 id],some ⟨[],0⟩⟩,
    bK [.u32 d.here,.u32 fr,.str (marked p.pub (bd su (aS su d.own once own sec nano 2) d.keyV once own p.psk 2 (d.index+1#32) id))]]:=by
 have hkl:=(d.keyV_spec hseed).2
 have hSo:(aS su d.own once own sec nano 2).ok:=lN hs
 have hpl:d.pub.length=32:=by rw[hpub,bw]
 obtain⟨ck,hck,hC⟩:=qS d hsec hn hn2 fr
 have hlen:(fT su d.own once own sec nano 2 id).length=115:=(pv (k:=1#8) (s:=BitVec.ofInt 8 su) (b8 _) (bw _) (mH hs) (mI hs)).1
 obtain⟨bb,hK⟩:=rV d.pub ck (fT su d.own once own sec nano 2 id) hpl hck (by omega)
 have hT:=A0 t0 d.now fr m hm hv ht0 ht1
 rw[htk] at hT
 have hH:=CR (id:=id) hs (.inr rfl:(2:Int)=1∨(2:Int)=2) (CS hsn) hown ho hw
 rw[←hpp] at hH
 have hN:=B6 d p [none,none] none .nilSlice .nilPtr .nilPtr (.nilPtr) .nilPtr
 have hI:=rm d .nilSlice rfl
 have hY:=oC {d with index:=d.index+1#32} hseed
 have hA:=AV (id:=id) (id2:=d.index+1#32) (best:=2) hs (.inr rfl) hSo hkl ho hw hpsk
 rw[←hpp] at hA
 have hM:=tl su hs (gK su (aS su d.own once own sec nano 2) d.keyV once own p.psk 2 1) (gK su (aS su d.own once own sec nano 2) d.keyV once own p.psk 2 0) (gJ hs hSo hpsk (by decide)) (gJ hs hSo hpsk (by decide)) d.now hn hn2 false (d.index+1#32) id
 have hslen:(bd su (aS su d.own once own sec nano 2) d.keyV once own p.psk 2 (d.index+1#32) id).length=59:=(ml (k:=2#8) (s:=BitVec.ofInt 8 su) (b8 _) (b8 _) (bw _) (km hs hSo hpsk)).1
 have hP:=He {d with fresh:=d.fresh+1#64,index:=d.index+1#32} {p with knows:=2,at_:=fr,stamped:=true,sec:=sec,nano:=nano} (by rw[hpp,bw]) hn hfr (x:=bd su (aS su d.own once own sec nano 2) d.keyV once own p.psk 2 (d.index+1#32) id) (by omega)
 have e0:∃ (ty:TypeId) (h c k:List ac) (n:BitVec 64),(aS su d.own once own sec nano 2).cs su=[.iface ty (.agg []),.str h,.str c,.str k,.u64 n]:=⟨_,_,_,_,_,rfl⟩
 change ag _ _ _ _ (.str d.keyV) _ at hY
 generalize hSg:aS su d.own once own sec nano 2=S at*
 clear hSg
 generalize S.cs su=c5 at*
 generalize d.keyV=eph at*
 generalize gK su S eph once own p.psk 2 0=k0 at*
 generalize gK su S eph once own p.psk 2 1=k1 at*
 generalize bd su S eph once own p.psk 2 (d.index+1#32) id=msg2 at*
 generalize marked p.pub msg2=mk2 at*
 generalize fT su d.own once own sec nano 2 id=msg at*
 generalize marked d.pub msg=mk at*
 generalize (bR t0 d.now fr m).2.1=t1 at*
 generalize (bR t0 d.now fr m).2.2=m1 at*
 unfold PS.cs DS.cs DS.up lS at*
 obtain⟨ty5,h5,k5,g5,m5,rfl⟩:=e0
 have h1:¬ (su<1):=by omega
 have h2:¬ (2<su):=by omega
 rw[hbest] at*
 generalize p.pub=pu at*
 subst hpp
 dsimp only at*
 generalize p.pin=pn at*
 subst hpin
 generalize ai own=pu at*
 refine y8 (fn:=Tryz.f67) Tryz.func67 rfl (by show 3≤184;decide) ?_
 refine B7 (by kernel_rfl) (Nat.le_refl _) (ae ?_)
 simp only[go_sem,seval,Tryz.ntmps67]
 refine bC [0,1,2,3] (hC) (by kernel_rfl) (by simp) rfl (by simp) (by first|decide|simp) (by simp) (by simp) (by simp) (by simp) ?_
 simp only[go_sem,seval]
 repeat refine aI ?_
 refine ak (hK) ?_
 simp only[go_sem,seval]
 repeat refine aI ?_
 refine bh [3,6] (hT) (by kernel_rfl) (by simp) rfl (by simp) (by first|decide|simp) (by simp) (by simp) (by simp) (by simp) (by simp) ?_
 simp only[go_sem,seval]
 repeat refine aI ?_
 refine aq [] (hH) (by kernel_rfl) (by simp) rfl (by simp) (by first|decide|simp) (by simp) (by simp) (by simp) (by simp) (by simp) ?_
 simp only[go_sem,seval]
 repeat refine aI ?_
 refine bC [0,1,2,3,4,5,6] (hN) (by kernel_rfl) (by simp) rfl (by simp) (by first|decide|simp) (by simp) (by simp) (by simp) (by simp) ?_
 simp only[go_sem,seval,h2,hst,h1]
 repeat refine aI ?_
 refine bC [0,1,2,3] (hI) (by kernel_rfl) (by simp) rfl (by simp) (by first|decide|simp) (by simp) (by simp) (by simp) (by simp) ?_
 simp only[go_sem,seval]
 repeat refine aI ?_
 refine xm (K:=fun s'=>_≤s'.H.length→GP _ _ _ _ _ s') ?_ (fun s' q1 q2=>q2 q1)
 refine A3 (J:=fun b x=>b=0→∃ B,x=some B∧4<B.cs.length∧B.cs.getD 4 .junk= .i64 2) (by kernel_rfl) (fun b e=>by subst e;exact⟨_,rfl,by simp,rfl⟩) ?_
 refine cj (by show(_:Nat)<184;decide) rfl (by simp only[go_sem,seval];rfl) trivial rfl rfl ?_
 refine cj (by show(_:Nat)<184;decide) rfl (by simp only[go_sem,seval];rfl) trivial rfl rfl ?_
 refine cj (by show(_:Nat)<184;decide) rfl (by simp only[go_sem,seval];rfl) trivial rfl rfl ?_
 refine cj (by show(_:Nat)<184;decide) rfl (by simp only[go_sem,seval];rfl) trivial rfl rfl ?_
 refine cj (by show(_:Nat)<184;decide) rfl (by simp only[go_sem,seval];rfl) (by simp) rfl rfl ?_
 refine cj (by show(_:Nat)<184;decide) rfl (by simp only[go_sem,seval];rfl) trivial rfl rfl ?_
 simp only[go_sem,List.nil_append,List.cons_append]
 refine sr (fs:=[]) (cs:=[]) (args:=[.ptr 0 0]) [0,1,2,3] hY (by show(_:Nat)<184;decide) rfl rfl rfl rfl (by simp only[go_sem,seval]) (by kernel_rfl) (by simp) rfl (by simp) (by decide) (by simp) (by simp) (by simp) (by simp) (by simp[go_sem,dj]) (fun b x hx e=>?_) ?_
 ·subst e
  simp[cT,go_sem,dj,az,cu,db,Blk.ren] at hx
  subst hx
  exact⟨_,rfl,by simp,rfl⟩
 simp only[go_sem,seval,List.nil_append,List.cons_append]
 refine cj (by show(_:Nat)<184;decide) rfl (by simp only[go_sem,seval];rfl) trivial rfl rfl ?_
 refine cj (by show(_:Nat)<184;decide) rfl (by simp only[go_sem,seval];rfl) trivial rfl rfl ?_
 refine cj (by show(_:Nat)<184;decide) rfl (by simp only[go_sem,seval];rfl) trivial rfl rfl ?_
 refine CT (b:=0) (i:=4) (v:= .i64 2) (by show(_:Nat)<184;decide) rfl rfl (by simp only[go_sem,seval]) (by kernel_rfl) (z:=1) (by kernel_rfl) (fun x hx=>hx rfl) ?_
 refine cj (by show(_:Nat)<184;decide) rfl (by simp only[go_sem,seval];rfl) trivial rfl rfl ?_
 simp only[go_sem,List.nil_append,List.cons_append]
 refine sr (fs:=[]) (cs:=[]) (args:=[.ptr 7 0,.str p.psk,.str eph,.i64 2,.u32 (d.index+1#32)]) [7] hA (by show(_:Nat)<184;decide) rfl rfl rfl rfl (by simp only[go_sem,seval]) (by kernel_rfl) (by simp) rfl (by simp) (by decide) (by simp) (by simp) (by simp) (by simp) (by simp[go_sem,dj]) (fun b x hx e=>?_) ?_
 ·subst e
  simp[cT,go_sem,dj,az,cu,db,Blk.ren] at hx
 simp only[go_sem,seval,List.nil_append,List.cons_append]
 refine cj (by show(_:Nat)<184;decide) rfl (by simp only[go_sem,seval];rfl) trivial rfl rfl ?_
 refine cj (by show(_:Nat)<184;decide) rfl (by simp only[go_sem,seval];rfl) trivial rfl rfl ?_
 refine cj (by show(_:Nat)<184;decide) rfl (by simp only[go_sem,seval];rfl) trivial rfl rfl ?_
 refine cj (by show(_:Nat)<184;decide) rfl (by simp only[go_sem,seval];rfl) trivial rfl rfl ?_
 simp only[go_sem,List.nil_append,List.cons_append]
 refine tp (by show(_:Nat)<184;decide) rfl (by simp only[go_sem,seval];rfl) trivial (by simp) (fun b x hx e=>?_) ?_
 ·subst e
  simp[cT,go_sem] at hx
 simp only[go_sem,seval,List.nil_append,List.cons_append]
 refine cj (by show(_:Nat)<184;decide) rfl (by simp only[go_sem,seval];rfl) trivial rfl rfl ?_
 simp only[go_sem,List.nil_append,List.cons_append]
 refine tp (by show True;trivial) rfl (by simp only[go_sem,seval];rfl) (by simp) (fun y hy=>?_) (fun b x hx e=>?_) ?_
 ·simp at hy
  subst hy
  simp
 ·subst e
  simp[cT,go_sem] at hx
 refine cj (by show(_:Nat)<184;decide) rfl (by simp only[go_sem,seval];rfl) trivial rfl rfl ?_
 simp only[go_sem,seval,List.nil_append,List.cons_append]
 refine Dh (by kernel_rfl) ⟨by simp,fun _=>?_⟩
 refine wu (by kernel_rfl) (by simp) (ae ?_)
 simp only[go_sem,seval]
 refine bh [] (hM) (by kernel_rfl) (by simp) rfl (by simp) (by first|decide|simp) (by simp) (by simp) (by simp) (by simp) (by simp) ?_
 simp only[go_sem,seval]
 repeat refine aI ?_
 refine bC [0,1,2,3,4,5,12] (hP) (by kernel_rfl) (by simp) rfl (by simp) (by first|decide|simp) (by simp) (by simp) (by simp) (by simp) ?_
 simp only[go_sem,seval]
 repeat refine aI ?_
 exact Fin.ren [0,1,2,3,4,5,6,10,11,12,13] (by simp) (by simp) (by rfl) (by decide) (by simp) (by simp)
theorem KR (d:DS)(p:PS){su:Int}(hs:su=1∨su=2)(hbest:d.best=2)(hpin:p.pin=1)(hpub:d.pub=ai d.own)(hsec:d.secret.length=32)(hseed:d.seed.length=32)(hpsk:p.psk.length=32)(hown:d.own.length=32)(hn:0≤d.now)(hn2:d.now≤1099511627776){once own:List ac}(ho:once.length=32)(hw:own.length=32)(hpp:p.pub=ai own){sec nano:Int}(hsn:sec=0∧nano=0∨sec=200∧nano=1)(hst:p.stamped=true∧later sec nano p.sec p.nano)(id fr:BitVec 32)(hfr:fr≠0#32)
  (t0:Int) (m:MapC) (hm:m.ok) (hv:∀ e∈m.es,0≤e.2.2∧e.2.2≤100) (ht0:0≤t0) (ht1:t0≤1099511627776) (htk:(bR t0 d.now fr m).1=0):
  ag Tryz.prog 67 [.ptr 0 0,.u32 fr,.str (marked d.pub (fT su d.own once own sec nano 2 id))] [bK (d.cs .nilSlice .nilSlice),bK [.ptr 4 0],none,bK [.i64 t0,.map 6],bK (p.cs .nilSlice .nilPtr .nilPtr (.ptr 7 0) .nilPtr),none,some ⟨false,[],some m⟩,none] (.i64 0)
   [bK ({d with fresh:=d.fresh+1#64,index:=d.index+1#32}.cs (.slice 11 0 1 3) .nilSlice),bK [.ptr 4 0],none,bK [.i64 (bR t0 d.now fr m).2.1,.map 6],bK ({p with knows:=2,at_:=fr,stamped:=true,sec:=sec,nano:=nano}.cs .nilSlice .nilPtr .nilPtr (.ptr 7 0) (.ptr 10 0)),none,some ⟨false,[],some (bR t0 d.now fr m).2.2⟩,none,
    bK [.i64 0,.u64 0#64],bK [.ptr 8 0,.str (gK su (aS su d.own once own sec nano 2) d.keyV once own p.psk 2 1),.str (gK su (aS su d.own once own sec nano 2) d.keyV once own p.psk 2 0),.i64 su,.i64 d.now,.i64 0,.bool false],some ⟨false,[.ptr 9 0,.i64 su,.u32 (d.index+1#32),.u32 id],some ⟨[],0⟩⟩,
    bK [.u32 d.here,.u32 fr,.str (marked p.pub (bd su (aS su d.own once own sec nano 2) d.keyV once own p.psk 2 (d.index+1#32) id))]]:=by
 have hkl:=(d.keyV_spec hseed).2
 have hSo:(aS su d.own once own sec nano 2).ok:=lN hs
 have hpl:d.pub.length=32:=by rw[hpub,bw]
 obtain⟨ck,hck,hC⟩:=qS d hsec hn hn2 fr
 have hlen:(fT su d.own once own sec nano 2 id).length=115:=(pv (k:=1#8) (s:=BitVec.ofInt 8 su) (b8 _) (bw _) (mH hs) (mI hs)).1
 obtain⟨bb,hK⟩:=rV d.pub ck (fT su d.own once own sec nano 2 id) hpl hck (by omega)
 have hT:=A0 t0 d.now fr m hm hv ht0 ht1
 rw[htk] at hT
 have hH:=CR (id:=id) hs (.inr rfl:(2:Int)=1∨(2:Int)=2) (CS hsn) hown ho hw
 rw[←hpp] at hH
 have hN:=B6 d p [none,none,none] none .nilSlice .nilPtr .nilPtr (.ptr 7 0) .nilPtr
 have hAf:=IS sec nano p.sec p.nano
 rw[decide_eq_true hst.2] at hAf
 have hI:=rm d .nilSlice rfl
 have hY:=oC {d with index:=d.index+1#32} hseed
 have hA:=AV (id:=id) (id2:=d.index+1#32) (best:=2) hs (.inr rfl) hSo hkl ho hw hpsk
 rw[←hpp] at hA
 have hM:=tl su hs (gK su (aS su d.own once own sec nano 2) d.keyV once own p.psk 2 1) (gK su (aS su d.own once own sec nano 2) d.keyV once own p.psk 2 0) (gJ hs hSo hpsk (by decide)) (gJ hs hSo hpsk (by decide)) d.now hn hn2 false (d.index+1#32) id
 have hslen:(bd su (aS su d.own once own sec nano 2) d.keyV once own p.psk 2 (d.index+1#32) id).length=59:=(ml (k:=2#8) (s:=BitVec.ofInt 8 su) (b8 _) (b8 _) (bw _) (km hs hSo hpsk)).1
 have hP:=Hf {d with fresh:=d.fresh+1#64,index:=d.index+1#32} {p with knows:=2,at_:=fr,stamped:=true,sec:=sec,nano:=nano} (by rw[hpp,bw]) hn hfr (x:=bd su (aS su d.own once own sec nano 2) d.keyV once own p.psk 2 (d.index+1#32) id) (by omega)
 have e0:∃ (ty:TypeId) (h c k:List ac) (n:BitVec 64),(aS su d.own once own sec nano 2).cs su=[.iface ty (.agg []),.str h,.str c,.str k,.u64 n]:=⟨_,_,_,_,_,rfl⟩
 change ag _ _ _ _ (.str d.keyV) _ at hY
 generalize hSg:aS su d.own once own sec nano 2=S at*
 clear hSg
 generalize S.cs su=c5 at*
 generalize d.keyV=eph at*
 generalize gK su S eph once own p.psk 2 0=k0 at*
 generalize gK su S eph once own p.psk 2 1=k1 at*
 generalize bd su S eph once own p.psk 2 (d.index+1#32) id=msg2 at*
 generalize marked p.pub msg2=mk2 at*
 generalize fT su d.own once own sec nano 2 id=msg at*
 generalize marked d.pub msg=mk at*
 generalize (bR t0 d.now fr m).2.1=t1 at*
 generalize (bR t0 d.now fr m).2.2=m1 at*
 unfold PS.cs DS.cs DS.up lS at*
 obtain⟨ty5,h5,k5,g5,m5,rfl⟩:=e0
 have h1:¬ (su<1):=by omega
 have h2:¬ (2<su):=by omega
 rw[hbest] at*
 generalize p.pub=pu at*
 subst hpp
 dsimp only at*
 generalize p.pin=pn at*
 subst hpin
 generalize ai own=pu at*
 refine y8 (fn:=Tryz.f67) Tryz.func67 rfl (by show 3≤184;decide) ?_
 refine B7 (by kernel_rfl) (Nat.le_refl _) (ae ?_)
 simp only[go_sem,seval,Tryz.ntmps67]
 refine bC [0,1,2,3] (hC) (by kernel_rfl) (by simp) rfl (by simp) (by first|decide|simp) (by simp) (by simp) (by simp) (by simp) ?_
 simp only[go_sem,seval]
 repeat refine aI ?_
 refine ak (hK) ?_
 simp only[go_sem,seval]
 repeat refine aI ?_
 refine bh [3,6] (hT) (by kernel_rfl) (by simp) rfl (by simp) (by first|decide|simp) (by simp) (by simp) (by simp) (by simp) (by simp) ?_
 simp only[go_sem,seval]
 repeat refine aI ?_
 refine aq [] (hH) (by kernel_rfl) (by simp) rfl (by simp) (by first|decide|simp) (by simp) (by simp) (by simp) (by simp) (by simp) ?_
 simp only[go_sem,seval]
 repeat refine aI ?_
 refine bC [0,1,2,3,4,5,6,7] (hN) (by kernel_rfl) (by simp) rfl (by simp) (by first|decide|simp) (by simp) (by simp) (by simp) (by simp) ?_
 simp only[go_sem,seval,h2,hst.1]
 repeat refine aI ?_
 refine aH (hAf) ?_
 simp only[go_sem,seval,h1]
 repeat refine aI ?_
 refine bC [0,1,2,3] (hI) (by kernel_rfl) (by simp) rfl (by simp) (by first|decide|simp) (by simp) (by simp) (by simp) (by simp) ?_
 simp only[go_sem,seval]
 repeat refine aI ?_
 refine xm (K:=fun s'=>_≤s'.H.length→GP _ _ _ _ _ s') ?_ (fun s' q1 q2=>q2 q1)
 refine A3 (J:=fun b x=>b=0→∃ B,x=some B∧4<B.cs.length∧B.cs.getD 4 .junk= .i64 2) (by kernel_rfl) (fun b e=>by subst e;exact⟨_,rfl,by simp,rfl⟩) ?_
 refine cj (by show(_:Nat)<184;decide) rfl (by simp only[go_sem,seval];rfl) trivial rfl rfl ?_
 refine cj (by show(_:Nat)<184;decide) rfl (by simp only[go_sem,seval];rfl) trivial rfl rfl ?_
 refine cj (by show(_:Nat)<184;decide) rfl (by simp only[go_sem,seval];rfl) trivial rfl rfl ?_
 refine cj (by show(_:Nat)<184;decide) rfl (by simp only[go_sem,seval];rfl) trivial rfl rfl ?_
 refine cj (by show(_:Nat)<184;decide) rfl (by simp only[go_sem,seval];rfl) (by simp) rfl rfl ?_
 refine cj (by show(_:Nat)<184;decide) rfl (by simp only[go_sem,seval];rfl) trivial rfl rfl ?_
 simp only[go_sem,List.nil_append,List.cons_append]
 refine sr (fs:=[]) (cs:=[]) (args:=[.ptr 0 0]) [0,1,2,3] hY (by show(_:Nat)<184;decide) rfl rfl rfl rfl (by simp only[go_sem,seval]) (by kernel_rfl) (by simp) rfl (by simp) (by decide) (by simp) (by simp) (by simp) (by simp) (by simp[go_sem,dj]) (fun b x hx e=>?_) ?_
 ·subst e
  simp[cT,go_sem,dj,az,cu,db,Blk.ren] at hx
  subst hx
  exact⟨_,rfl,by simp,rfl⟩
 simp only[go_sem,seval,List.nil_append,List.cons_append]
 refine cj (by show(_:Nat)<184;decide) rfl (by simp only[go_sem,seval];rfl) trivial rfl rfl ?_
 refine cj (by show(_:Nat)<184;decide) rfl (by simp only[go_sem,seval];rfl) trivial rfl rfl ?_
 refine cj (by show(_:Nat)<184;decide) rfl (by simp only[go_sem,seval];rfl) trivial rfl rfl ?_
 refine CT (b:=0) (i:=4) (v:= .i64 2) (by show(_:Nat)<184;decide) rfl rfl (by simp only[go_sem,seval]) (by kernel_rfl) (z:=1) (by kernel_rfl) (fun x hx=>hx rfl) ?_
 refine cj (by show(_:Nat)<184;decide) rfl (by simp only[go_sem,seval];rfl) trivial rfl rfl ?_
 simp only[go_sem,List.nil_append,List.cons_append]
 refine sr (fs:=[]) (cs:=[]) (args:=[.ptr 8 0,.str p.psk,.str eph,.i64 2,.u32 (d.index+1#32)]) [8] hA (by show(_:Nat)<184;decide) rfl rfl rfl rfl (by simp only[go_sem,seval]) (by kernel_rfl) (by simp) rfl (by simp) (by decide) (by simp) (by simp) (by simp) (by simp) (by simp[go_sem,dj]) (fun b x hx e=>?_) ?_
 ·subst e
  simp[cT,go_sem,dj,az,cu,db,Blk.ren] at hx
 simp only[go_sem,seval,List.nil_append,List.cons_append]
 refine cj (by show(_:Nat)<184;decide) rfl (by simp only[go_sem,seval];rfl) trivial rfl rfl ?_
 refine cj (by show(_:Nat)<184;decide) rfl (by simp only[go_sem,seval];rfl) trivial rfl rfl ?_
 refine cj (by show(_:Nat)<184;decide) rfl (by simp only[go_sem,seval];rfl) trivial rfl rfl ?_
 refine cj (by show(_:Nat)<184;decide) rfl (by simp only[go_sem,seval];rfl) trivial rfl rfl ?_
 simp only[go_sem,List.nil_append,List.cons_append]
 refine tp (by show(_:Nat)<184;decide) rfl (by simp only[go_sem,seval];rfl) trivial (by simp) (fun b x hx e=>?_) ?_
 ·subst e
  simp[cT,go_sem] at hx
 simp only[go_sem,seval,List.nil_append,List.cons_append]
 refine cj (by show(_:Nat)<184;decide) rfl (by simp only[go_sem,seval];rfl) trivial rfl rfl ?_
 simp only[go_sem,List.nil_append,List.cons_append]
 refine tp (by show True;trivial) rfl (by simp only[go_sem,seval];rfl) (by simp) (fun y hy=>?_) (fun b x hx e=>?_) ?_
 ·simp at hy
  subst hy
  simp
 ·subst e
  simp[cT,go_sem] at hx
 refine cj (by show(_:Nat)<184;decide) rfl (by simp only[go_sem,seval];rfl) trivial rfl rfl ?_
 simp only[go_sem,seval,List.nil_append,List.cons_append]
 refine Dh (by kernel_rfl) ⟨by simp,fun _=>?_⟩
 refine wu (by kernel_rfl) (by simp) (ae ?_)
 simp only[go_sem,seval]
 refine bh [] (hM) (by kernel_rfl) (by simp) rfl (by simp) (by first|decide|simp) (by simp) (by simp) (by simp) (by simp) (by simp) ?_
 simp only[go_sem,seval]
 repeat refine aI ?_
 refine bC [0,1,2,3,4,5,7,13] (hP) (by kernel_rfl) (by simp) rfl (by simp) (by first|decide|simp) (by simp) (by simp) (by simp) (by simp) ?_
 simp only[go_sem,seval]
 repeat refine aI ?_
 exact Fin.ren [0,1,2,3,4,5,6,7,11,12,13,14] (by simp) (by simp) (by rfl) (by decide) (by simp) (by simp)
theorem F6 (d:DS)(p:PS){su:Int}(hs:su=1∨su=2)(hbest:d.best=2)(hpin:p.pin=1)(hpub:d.pub=ai d.own)(hsec:d.secret.length=32)(hseed:d.seed.length=32)(hpsk:p.psk.length=32)(hown:d.own.length=32)(hn:0≤d.now)(hn2:d.now≤1099511627776){once own:List ac}(ho:once.length=32)(hw:own.length=32)(hpp:p.pub=ai own){sec nano:Int}(hsn:sec=0∧nano=0∨sec=200∧nano=1)(hst:p.stamped=false)(id fr:BitVec 32)(hfr:fr≠0#32)
  (t0:Int) (m:MapC) (hm:m.ok) (hv:∀ e∈m.es,0≤e.2.2∧e.2.2≤100) (ht0:0≤t0) (ht1:t0≤1099511627776) (htk:(bR t0 d.now fr m).1=0):
  ag Tryz.prog 48 [.ptr 0 0,.u32 fr,.str (marked d.pub (fT su d.own once own sec nano 2 id))] [bK (d.cs .nilSlice .nilSlice),bK [.ptr 4 0],none,bK [.i64 t0,.map 6],bK (p.cs .nilSlice .nilPtr .nilPtr (.nilPtr) .nilPtr),none,some ⟨false,[],some m⟩] (.i64 0)
   [bK ({d with fresh:=d.fresh+1#64,index:=d.index+1#32}.cs (.slice 10 0 1 3) .nilSlice),bK [.ptr 4 0],none,bK [.i64 (bR t0 d.now fr m).2.1,.map 6],bK ({p with knows:=2,at_:=fr,stamped:=true,sec:=sec,nano:=nano}.cs .nilSlice .nilPtr .nilPtr (.nilPtr) (.ptr 9 0)),none,some ⟨false,[],some (bR t0 d.now fr m).2.2⟩,
    bK [.i64 0,.u64 0#64],bK [.ptr 7 0,.str (gK su (aS su d.own once own sec nano 2) d.keyV once own p.psk 2 1),.str (gK su (aS su d.own once own sec nano 2) d.keyV once own p.psk 2 0),.i64 su,.i64 d.now,.i64 0,.bool false],some ⟨false,[.ptr 8 0,.i64 su,.u32 (d.index+1#32),.u32 id],some ⟨[],0⟩⟩,
    bK [.u32 d.here,.u32 fr,.str (marked p.pub (bd su (aS su d.own once own sec nano 2) d.keyV once own p.psk 2 (d.index+1#32) id))]]:=by
 have hX:=KQ d p hs hbest hpin hpub hsec hseed hpsk hown hn hn2 ho hw hpp hsn hst id fr hfr t0 m hm hv ht0 ht1 htk
 have hne:¬ marked d.pub (fT su d.own once own sec nano 2 id)=[]:=fun e=>by
  have :=congrArg List.length e
  unfold marked fT at this
  simp at this
 have hk0:((List.getD (marked d.pub (fT su d.own once own sec nano 2 id)) 0 0).toNat:Int)=1:=rfl
 have hlp:(0:Int)<((marked d.pub (fT su d.own once own sec nano 2 id)).length:Int):=by
  have :=List.length_pos_iff.2 hne
  omega
 generalize hSg:aS su d.own once own sec nano 2=S at*
 clear hSg
 generalize gK su S d.keyV once own p.psk 2 0=k0 at*
 generalize gK su S d.keyV once own p.psk 2 1=k1 at*
 generalize marked p.pub (bd su S d.keyV once own p.psk 2 (d.index+1#32) id)=mk2 at*
 generalize marked d.pub (fT su d.own once own sec nano 2 id)=mk at*
 generalize (bR t0 d.now fr m).2.1=t1 at*
 generalize (bR t0 d.now fr m).2.2=m1 at*
 unfold PS.cs DS.cs at*
 dsimp only at*
 refine ap (by kernel_rfl) (fn:=Tryz.f48) Tryz.func48 rfl (by show 3≤30;decide) (ae ?_)
 simp only[go_sem,↓reduceIte,Nat.reduceEqDiff,Nat.reduceLT,Nat.reduceLeDiff,Nat.reduceAdd,Int.reduceLE,Int.reduceLT,Int.reduceToNat,reduceCtorEq,Tryz.ntmps48,hne,hk0,hlp,Int.reduceToNat]
 repeat refine aI ?_
 refine bC [0,1,2,3,4,5,6] (hX) (by kernel_rfl) (by simp) rfl (by simp) (by first|decide|simp) (by simp) (by simp) (by simp) (by simp) ?_
 simp only[go_sem,↓reduceIte,Nat.reduceLT,Nat.reduceAdd,Nat.reduceSub]
 repeat refine aI ?_
 exact Fin.ren [0,1,2,3,4,5,6,8,9,10,11] (by simp) (by simp) (by rfl) (by decide) (by simp) (by simp)
theorem F7 (d:DS)(p:PS){su:Int}(hs:su=1∨su=2)(hbest:d.best=2)(hpin:p.pin=1)(hpub:d.pub=ai d.own)(hsec:d.secret.length=32)(hseed:d.seed.length=32)(hpsk:p.psk.length=32)(hown:d.own.length=32)(hn:0≤d.now)(hn2:d.now≤1099511627776){once own:List ac}(ho:once.length=32)(hw:own.length=32)(hpp:p.pub=ai own){sec nano:Int}(hsn:sec=0∧nano=0∨sec=200∧nano=1)(hst:p.stamped=true∧later sec nano p.sec p.nano)(id fr:BitVec 32)(hfr:fr≠0#32)
  (t0:Int) (m:MapC) (hm:m.ok) (hv:∀ e∈m.es,0≤e.2.2∧e.2.2≤100) (ht0:0≤t0) (ht1:t0≤1099511627776) (htk:(bR t0 d.now fr m).1=0):
  ag Tryz.prog 48 [.ptr 0 0,.u32 fr,.str (marked d.pub (fT su d.own once own sec nano 2 id))] [bK (d.cs .nilSlice .nilSlice),bK [.ptr 4 0],none,bK [.i64 t0,.map 6],bK (p.cs .nilSlice .nilPtr .nilPtr (.ptr 7 0) .nilPtr),none,some ⟨false,[],some m⟩,none] (.i64 0)
   [bK ({d with fresh:=d.fresh+1#64,index:=d.index+1#32}.cs (.slice 11 0 1 3) .nilSlice),bK [.ptr 4 0],none,bK [.i64 (bR t0 d.now fr m).2.1,.map 6],bK ({p with knows:=2,at_:=fr,stamped:=true,sec:=sec,nano:=nano}.cs .nilSlice .nilPtr .nilPtr (.ptr 7 0) (.ptr 10 0)),none,some ⟨false,[],some (bR t0 d.now fr m).2.2⟩,none,
    bK [.i64 0,.u64 0#64],bK [.ptr 8 0,.str (gK su (aS su d.own once own sec nano 2) d.keyV once own p.psk 2 1),.str (gK su (aS su d.own once own sec nano 2) d.keyV once own p.psk 2 0),.i64 su,.i64 d.now,.i64 0,.bool false],some ⟨false,[.ptr 9 0,.i64 su,.u32 (d.index+1#32),.u32 id],some ⟨[],0⟩⟩,
    bK [.u32 d.here,.u32 fr,.str (marked p.pub (bd su (aS su d.own once own sec nano 2) d.keyV once own p.psk 2 (d.index+1#32) id))]]:=by
 have hX:=KR d p hs hbest hpin hpub hsec hseed hpsk hown hn hn2 ho hw hpp hsn hst id fr hfr t0 m hm hv ht0 ht1 htk
 have hne:¬ marked d.pub (fT su d.own once own sec nano 2 id)=[]:=fun e=>by
  have :=congrArg List.length e
  unfold marked fT at this
  simp at this
 have hk0:((List.getD (marked d.pub (fT su d.own once own sec nano 2 id)) 0 0).toNat:Int)=1:=rfl
 have hlp:(0:Int)<((marked d.pub (fT su d.own once own sec nano 2 id)).length:Int):=by
  have :=List.length_pos_iff.2 hne
  omega
 generalize hSg:aS su d.own once own sec nano 2=S at*
 clear hSg
 generalize gK su S d.keyV once own p.psk 2 0=k0 at*
 generalize gK su S d.keyV once own p.psk 2 1=k1 at*
 generalize marked p.pub (bd su S d.keyV once own p.psk 2 (d.index+1#32) id)=mk2 at*
 generalize marked d.pub (fT su d.own once own sec nano 2 id)=mk at*
 generalize (bR t0 d.now fr m).2.1=t1 at*
 generalize (bR t0 d.now fr m).2.2=m1 at*
 unfold PS.cs DS.cs at*
 dsimp only at*
 refine ap (by kernel_rfl) (fn:=Tryz.f48) Tryz.func48 rfl (by show 3≤30;decide) (ae ?_)
 simp only[go_sem,↓reduceIte,Nat.reduceEqDiff,Nat.reduceLT,Nat.reduceLeDiff,Nat.reduceAdd,Int.reduceLE,Int.reduceLT,Int.reduceToNat,reduceCtorEq,Tryz.ntmps48,hne,hk0,hlp,Int.reduceToNat]
 repeat refine aI ?_
 refine bC [0,1,2,3,4,5,6,7] (hX) (by kernel_rfl) (by simp) rfl (by simp) (by first|decide|simp) (by simp) (by simp) (by simp) (by simp) ?_
 simp only[go_sem,↓reduceIte,Nat.reduceLT,Nat.reduceAdd,Nat.reduceSub]
 repeat refine aI ?_
 exact Fin.ren [0,1,2,3,4,5,6,7,9,10,11,12] (by simp) (by simp) (by rfl) (by decide) (by simp) (by simp)
theorem KS (k:Int)(hk01:k=0∨k=1)(d:DS)(p:PS){su:Int}(hs:su=1∨su=2)(hpin:p.pin=1)(sd:List ac){rc:List ac}(hk:rc.length=32)(bo se:Int)(fs:Bool)(nx:Int)(bits:BitVec 64)(mine theirs:BitVec 32)(hn:0≤d.now)(hn2:d.now≤1099511627776)(hb:0≤bo)(hb2:bo≤1099511627776)(hnb:d.now<bo+180)(hx0:0≤nx)(hx1:nx≤1099511627777){n:Int}(hc:eK nx bits n=0)
  (fr:BitVec 32) {x:List ac} (hx:x.length≤1000) (t l u:Int) (o wt:Bool) (ht:0≤t) (ht2:t≤1000):
  ag Tryz.prog 105 [.ptr 4 0,.ptr 30 0,.i64 n,.str (aZ su rc n (ar ((if k=0 then 167772160#32 else 167772416#32:BitVec 32).setWidth 64).toNat 4++x)),.u32 fr] [bK (d.cs .nilSlice .nilSlice),none,bK [.ptr 6 0,.nilPtr,.bool false,.i64 0,.i64 1],none,bK (p.cs .nilSlice .nilPtr (.nilPtr) (.nilPtr) (.ptr 30 0)),bK [.bool wt,.i64 t,.i64 l,.bool o,.i64 u],nL 7,nL 8,nL 9,nR 10,nL 11,nR 12,nL 13,nL 14,nL 15,nL 16,nL 17,nL 18,nL 19,nL 20,nL 21,nL 22,nL 23,nL 24,nL 25,nL 26,nL 27,nL 28,bK [if k=0 then .ptr 29 0 else .nilPtr,if k=0 then .nilPtr else .ptr 29 0,.bool false,.i64 0],bK [.nilPtr,.nilPtr,.bool true,.i64 0],some ⟨false,[.ptr 31 0,.i64 su,.u32 mine,.u32 theirs],some ⟨[],0⟩⟩,bK [.ptr 32 0,.str sd,.str rc,.i64 su,.i64 bo,.i64 se,.bool fs],bK [.i64 nx,.u64 bits]] (.i64 0)
   [bK (d.cs .nilSlice (.slice 33 0 1 3)),none,bK [.ptr 6 0,.nilPtr,.bool false,.i64 0,.i64 1],none,bK ({p with at_:=fr,pin:=su}.cs .nilSlice .nilPtr (.nilPtr) (.ptr 30 0) .nilPtr),bK [.bool false,.i64 0,.i64 l,.bool true,.i64 (if o=true then u else d.now)],nL 7,nL 8,nL 9,nR 10,nL 11,nR 12,nL 13,nL 14,nL 15,nL 16,nL 17,nL 18,nL 19,nL 20,nL 21,nL 22,nL 23,nL 24,nL 25,nL 26,nL 27,nL 28,bK [if k=0 then .ptr 29 0 else .nilPtr,if k=0 then .nilPtr else .ptr 29 0,.bool false,.i64 0],bK [.nilPtr,.nilPtr,.bool true,.i64 0],some ⟨false,[.ptr 31 0,.i64 su,.u32 mine,.u32 theirs],some ⟨[],0⟩⟩,bK [.ptr 32 0,.str sd,.str rc,.i64 su,.i64 bo,.i64 se,.bool fs],bK [.i64 (cR nx n),.u64 (dq nx bits n)],
    bK [.i64 0,.u32 (if k=0 then 167772160#32 else 167772416#32),.str x]]:=by
 have hO:=wr hs sd hk bo se fs nx bits (n:=n) (t:=ar ((if k=0 then 167772160#32 else 167772416#32:BitVec 32).setWidth 64).toNat 4++x) (by rw[List.length_append,aW];omega) d.now hb hb2 hx0 hx1 hnb hc
 have hF:ag Tryz.prog 41 [.ptr 0 0,.u32 (if k=0 then 167772160#32 else 167772416#32)] [bK [.ptr 1 0,.nilPtr,.bool false,.i64 0,.i64 1],nL 2,nL 3,nL 4,nR 5,nL 6,nR 7,nL 8,nL 9,nL 10,nL 11,nL 12,nL 13,nL 14,nL 15,nL 16,nL 17,nL 18,nL 19,nL 20,nL 21,nL 22,nL 23,bK [if k=0 then .ptr 24 0 else .nilPtr,if k=0 then .nilPtr else .ptr 24 0,.bool false,.i64 0],bK [.nilPtr,.nilPtr,.bool true,.i64 0]] (.tup [.i64 0,.bool true]) [bK [.ptr 1 0,.nilPtr,.bool false,.i64 0,.i64 1],nL 2,nL 3,nL 4,nR 5,nL 6,nR 7,nL 8,nL 9,nL 10,nL 11,nL 12,nL 13,nL 14,nL 15,nL 16,nL 17,nL 18,nL 19,nL 20,nL 21,nL 22,nL 23,bK [if k=0 then .ptr 24 0 else .nilPtr,if k=0 then .nilPtr else .ptr 24 0,.bool false,.i64 0],bK [.nilPtr,.nilPtr,.bool true,.i64 0]]:=by
  rcases hk01 with rfl|rfl
  ·exact n6
  ·exact n7
 have hB:ao Tryz.prog 147 [.str (ar ((if k=0 then 167772160#32 else 167772416#32:BitVec 32).setWidth 64).toNat 4)] (.u64 ((if k=0 then 167772160#32 else 167772416#32:BitVec 32).setWidth 64)):=by
  rcases hk01 with rfl|rfl
  ·exact jn _ (by rw[aW];decide)
  ·exact jn _ (by rw[aW];decide)
 have hsw:BitVec.setWidth 32 ((if k=0 then 167772160#32 else 167772416#32:BitVec 32).setWidth 64)=(if k=0 then 167772160#32 else 167772416#32):=by
  rcases hk01 with rfl|rfl<;>rfl
 have htk:List.take 4 (ar ((if k=0 then 167772160#32 else 167772416#32:BitVec 32).setWidth 64).toNat 4++x)=ar ((if k=0 then 167772160#32 else 167772416#32:BitVec 32).setWidth 64).toNat 4:=List.take_left' (aW _ _)
 have hdr:List.drop 4 (ar ((if k=0 then 167772160#32 else 167772416#32:BitVec 32).setWidth 64).toNat 4++x)=x:=List.drop_left' (aW _ _)
 have hne:¬ ar ((if k=0 then 167772160#32 else 167772416#32:BitVec 32).setWidth 64).toNat 4++x=[]:=fun e=>by
  have :=congrArg List.length e
  rw[List.length_append,aW] at this
  simp at this
 have hl4:¬ ((ar ((if k=0 then 167772160#32 else 167772416#32:BitVec 32).setWidth 64).toNat 4++x).length:Int)<4:=by rw[List.length_append,aW];omega
 have hl4':(4:Int)≤((ar ((if k=0 then 167772160#32 else 167772416#32:BitVec 32).setWidth 64).toNat 4++x).length:Int):=by rw[List.length_append,aW];omega
 have hE:=gL wt t l o u 5 d.now ht (by omega) (by unfold fO;omega)
 rw[show tW wt 5=false from rfl,show tT t 5=0 from rfl,show tL l 5 d.now=l from rfl,show tO o 5=o from rfl,show tU o u 5 d.now=u from rfl] at hE
 have hE2:=gL false 0 l o u 2 d.now (by decide) (by decide) (by unfold fO;omega)
 rw[show tW false 2=false from rfl,show tT 0 2=0 from rfl,show tL l 2 d.now=l from rfl,show tO o 2=true from rfl,show tU o u 2 d.now=(if o=true then u else d.now) from rfl] at hE2
 have emx:(if 1<su then su else 1)=su:=by split <;>omega
 have hL:=AZ d {p with at_:=fr,pin:=su} [none] .nilSlice .nilPtr .nilPtr (.ptr 6 0) .nilPtr
 generalize (if k=0 then 167772160#32 else 167772416#32:BitVec 32)=src at*
 generalize aZ su rc n (ar (src.setWidth 64).toNat 4++x)=z at*
 generalize ar (src.setWidth 64).toNat 4++x=tx at*
 generalize ar (src.setWidth 64).toNat 4=b4 at*
 generalize cR nx n=nx2 at*
 generalize dq nx bits n=bits2 at*
 unfold PS.cs DS.cs at*
 dsimp only at*
 rcases hk01 with rfl|rfl
 all_goals
  simp only[seval,show ¬ (1:Int)=0 by decide] at*
  refine ap (by kernel_rfl) (fn:=Tryz.f105) Tryz.func105 rfl (by show 5≤156;decide) (ae ?_)
  simp only[go_sem,seval,Tryz.ntmps105]
  refine bh [31,32] (hO) (by kernel_rfl) (by simp) rfl (by simp) (by first|decide|simp) (by simp) (by simp) (by simp) (by simp) (by simp) ?_
  simp only[go_sem,seval,ne_eq,decide_true,decide_false,hpin,emx]
  repeat refine aI ?_
  refine bh [5] (hE) (by kernel_rfl) (by simp) rfl (by simp) (by first|decide|simp) (by simp) (by simp) (by simp) (by simp) (by simp) ?_
  simp only[go_sem,seval]
  repeat refine aI ?_
  refine bC [0,1,2,3,4,5,30] (hL) (by kernel_rfl) (by simp) rfl (by simp) (by first|decide|simp) (by simp) (by simp) (by simp) (by simp) ?_
  simp only[go_sem,seval,hne,decide_false]
  repeat refine aI ?_
  refine bh [5] (hE2) (by kernel_rfl) (by simp) rfl (by simp) (by first|decide|simp) (by simp) (by simp) (by simp) (by simp) (by simp) ?_
  simp only[go_sem,seval,hl4,hl4',htk,decide_false]
  repeat refine aI ?_
  refine ak (hB) ?_
  simp only[go_sem,seval,hsw]
  repeat refine aI ?_
  refine aq [2,6,7,8,9,10,11,12,13,14,15,16,17,18,19,20,21,22,23,24,25,26,27,28,29] (hF) (by kernel_rfl) (by simp) rfl (by simp) (by first|decide|simp) (by simp) (by simp) (by simp) (by simp) (by simp) ?_
  simp only[go_sem,seval,hdr,hl4']
  repeat refine aI ?_
  exact Fin.ren [0,1,2,3,4,5,6,7,8,9,10,11,12,13,14,15,16,17,18,19,20,21,22,23,24,25,26,27,28,29,30,31,32,34] (by simp) (by simp) (by rfl) (by decide) (by simp) (by simp)
theorem KT (k:Int)(hk01:k=0∨k=1)(d:DS)(p:PS){su:Int}(hs:su=1∨su=2)(hpin:p.pin=1)(sd:List ac){rc:List ac}(hk:rc.length=32)(bo se:Int)(fs:Bool)(nx:Int)(bits:BitVec 64)(mine theirs:BitVec 32)(hn:0≤d.now)(hn2:d.now≤1099511627776)(hb:0≤bo)(hb2:bo≤1099511627776)(hnb:d.now<bo+180)(hx0:0≤nx)(hx1:nx≤1099511627777){n:Int}(hc:eK nx bits n=0)
  (fr:BitVec 32) {x:List ac} (hx:x.length≤1000) (t l u:Int) (o wt:Bool) (ht:0≤t) (ht2:t≤1000):
  ag Tryz.prog 105 [.ptr 4 0,.ptr 30 0,.i64 n,.str (aZ su rc n (ar ((if k=0 then 167772160#32 else 167772416#32:BitVec 32).setWidth 64).toNat 4++x)),.u32 fr] [bK (d.cs .nilSlice .nilSlice),none,bK [.ptr 6 0,.nilPtr,.bool false,.i64 0,.i64 1],none,bK (p.cs .nilSlice .nilPtr (.nilPtr) (.ptr 33 0) (.ptr 30 0)),bK [.bool wt,.i64 t,.i64 l,.bool o,.i64 u],nL 7,nL 8,nL 9,nR 10,nL 11,nR 12,nL 13,nL 14,nL 15,nL 16,nL 17,nL 18,nL 19,nL 20,nL 21,nL 22,nL 23,nL 24,nL 25,nL 26,nL 27,nL 28,bK [if k=0 then .ptr 29 0 else .nilPtr,if k=0 then .nilPtr else .ptr 29 0,.bool false,.i64 0],bK [.nilPtr,.nilPtr,.bool true,.i64 0],some ⟨false,[.ptr 31 0,.i64 su,.u32 mine,.u32 theirs],some ⟨[],0⟩⟩,bK [.ptr 32 0,.str sd,.str rc,.i64 su,.i64 bo,.i64 se,.bool fs],bK [.i64 nx,.u64 bits],none] (.i64 0)
   [bK (d.cs .nilSlice (.slice 34 0 1 3)),none,bK [.ptr 6 0,.nilPtr,.bool false,.i64 0,.i64 1],none,bK ({p with at_:=fr,pin:=su}.cs .nilSlice .nilPtr (.ptr 33 0) (.ptr 30 0) .nilPtr),bK [.bool false,.i64 0,.i64 l,.bool true,.i64 (if o=true then u else d.now)],nL 7,nL 8,nL 9,nR 10,nL 11,nR 12,nL 13,nL 14,nL 15,nL 16,nL 17,nL 18,nL 19,nL 20,nL 21,nL 22,nL 23,nL 24,nL 25,nL 26,nL 27,nL 28,bK [if k=0 then .ptr 29 0 else .nilPtr,if k=0 then .nilPtr else .ptr 29 0,.bool false,.i64 0],bK [.nilPtr,.nilPtr,.bool true,.i64 0],some ⟨false,[.ptr 31 0,.i64 su,.u32 mine,.u32 theirs],some ⟨[],0⟩⟩,bK [.ptr 32 0,.str sd,.str rc,.i64 su,.i64 bo,.i64 se,.bool fs],bK [.i64 (cR nx n),.u64 (dq nx bits n)],none,
    bK [.i64 0,.u32 (if k=0 then 167772160#32 else 167772416#32),.str x]]:=by
 have hO:=wr hs sd hk bo se fs nx bits (n:=n) (t:=ar ((if k=0 then 167772160#32 else 167772416#32:BitVec 32).setWidth 64).toNat 4++x) (by rw[List.length_append,aW];omega) d.now hb hb2 hx0 hx1 hnb hc
 have hF:ag Tryz.prog 41 [.ptr 0 0,.u32 (if k=0 then 167772160#32 else 167772416#32)] [bK [.ptr 1 0,.nilPtr,.bool false,.i64 0,.i64 1],nL 2,nL 3,nL 4,nR 5,nL 6,nR 7,nL 8,nL 9,nL 10,nL 11,nL 12,nL 13,nL 14,nL 15,nL 16,nL 17,nL 18,nL 19,nL 20,nL 21,nL 22,nL 23,bK [if k=0 then .ptr 24 0 else .nilPtr,if k=0 then .nilPtr else .ptr 24 0,.bool false,.i64 0],bK [.nilPtr,.nilPtr,.bool true,.i64 0]] (.tup [.i64 0,.bool true]) [bK [.ptr 1 0,.nilPtr,.bool false,.i64 0,.i64 1],nL 2,nL 3,nL 4,nR 5,nL 6,nR 7,nL 8,nL 9,nL 10,nL 11,nL 12,nL 13,nL 14,nL 15,nL 16,nL 17,nL 18,nL 19,nL 20,nL 21,nL 22,nL 23,bK [if k=0 then .ptr 24 0 else .nilPtr,if k=0 then .nilPtr else .ptr 24 0,.bool false,.i64 0],bK [.nilPtr,.nilPtr,.bool true,.i64 0]]:=by
  rcases hk01 with rfl|rfl
  ·exact n6
  ·exact n7
 have hB:ao Tryz.prog 147 [.str (ar ((if k=0 then 167772160#32 else 167772416#32:BitVec 32).setWidth 64).toNat 4)] (.u64 ((if k=0 then 167772160#32 else 167772416#32:BitVec 32).setWidth 64)):=by
  rcases hk01 with rfl|rfl
  ·exact jn _ (by rw[aW];decide)
  ·exact jn _ (by rw[aW];decide)
 have hsw:BitVec.setWidth 32 ((if k=0 then 167772160#32 else 167772416#32:BitVec 32).setWidth 64)=(if k=0 then 167772160#32 else 167772416#32):=by
  rcases hk01 with rfl|rfl<;>rfl
 have htk:List.take 4 (ar ((if k=0 then 167772160#32 else 167772416#32:BitVec 32).setWidth 64).toNat 4++x)=ar ((if k=0 then 167772160#32 else 167772416#32:BitVec 32).setWidth 64).toNat 4:=List.take_left' (aW _ _)
 have hdr:List.drop 4 (ar ((if k=0 then 167772160#32 else 167772416#32:BitVec 32).setWidth 64).toNat 4++x)=x:=List.drop_left' (aW _ _)
 have hne:¬ ar ((if k=0 then 167772160#32 else 167772416#32:BitVec 32).setWidth 64).toNat 4++x=[]:=fun e=>by
  have :=congrArg List.length e
  rw[List.length_append,aW] at this
  simp at this
 have hl4:¬ ((ar ((if k=0 then 167772160#32 else 167772416#32:BitVec 32).setWidth 64).toNat 4++x).length:Int)<4:=by rw[List.length_append,aW];omega
 have hl4':(4:Int)≤((ar ((if k=0 then 167772160#32 else 167772416#32:BitVec 32).setWidth 64).toNat 4++x).length:Int):=by rw[List.length_append,aW];omega
 have hE:=gL wt t l o u 5 d.now ht (by omega) (by unfold fO;omega)
 rw[show tW wt 5=false from rfl,show tT t 5=0 from rfl,show tL l 5 d.now=l from rfl,show tO o 5=o from rfl,show tU o u 5 d.now=u from rfl] at hE
 have hE2:=gL false 0 l o u 2 d.now (by decide) (by decide) (by unfold fO;omega)
 rw[show tW false 2=false from rfl,show tT 0 2=0 from rfl,show tL l 2 d.now=l from rfl,show tO o 2=true from rfl,show tU o u 2 d.now=(if o=true then u else d.now) from rfl] at hE2
 have emx:(if 1<su then su else 1)=su:=by split <;>omega
 have hL:=AZ d {p with at_:=fr,pin:=su} [none,none] .nilSlice .nilPtr (.ptr 7 0) (.ptr 6 0) .nilPtr
 generalize (if k=0 then 167772160#32 else 167772416#32:BitVec 32)=src at*
 generalize aZ su rc n (ar (src.setWidth 64).toNat 4++x)=z at*
 generalize ar (src.setWidth 64).toNat 4++x=tx at*
 generalize ar (src.setWidth 64).toNat 4=b4 at*
 generalize cR nx n=nx2 at*
 generalize dq nx bits n=bits2 at*
 unfold PS.cs DS.cs at*
 dsimp only at*
 rcases hk01 with rfl|rfl
 all_goals
  simp only[seval,show ¬ (1:Int)=0 by decide] at*
  refine ap (by kernel_rfl) (fn:=Tryz.f105) Tryz.func105 rfl (by show 5≤156;decide) (ae ?_)
  simp only[go_sem,seval,Tryz.ntmps105]
  refine bh [31,32] (hO) (by kernel_rfl) (by simp) rfl (by simp) (by first|decide|simp) (by simp) (by simp) (by simp) (by simp) (by simp) ?_
  simp only[go_sem,seval,ne_eq,decide_true,decide_false,hpin,emx]
  repeat refine aI ?_
  refine bh [5] (hE) (by kernel_rfl) (by simp) rfl (by simp) (by first|decide|simp) (by simp) (by simp) (by simp) (by simp) (by simp) ?_
  simp only[go_sem,seval]
  repeat refine aI ?_
  refine bC [0,1,2,3,4,5,30,33] (hL) (by kernel_rfl) (by simp) rfl (by simp) (by first|decide|simp) (by simp) (by simp) (by simp) (by simp) ?_
  simp only[go_sem,seval,hne,decide_false]
  repeat refine aI ?_
  refine bh [5] (hE2) (by kernel_rfl) (by simp) rfl (by simp) (by first|decide|simp) (by simp) (by simp) (by simp) (by simp) (by simp) ?_
  simp only[go_sem,seval,hl4,hl4',htk,decide_false]
  repeat refine aI ?_
  refine ak (hB) ?_
  simp only[go_sem,seval,hsw]
  repeat refine aI ?_
  refine aq [2,6,7,8,9,10,11,12,13,14,15,16,17,18,19,20,21,22,23,24,25,26,27,28,29] (hF) (by kernel_rfl) (by simp) rfl (by simp) (by first|decide|simp) (by simp) (by simp) (by simp) (by simp) (by simp) ?_
  simp only[go_sem,seval,hdr,hl4']
  repeat refine aI ?_
  exact Fin.ren [0,1,2,3,4,5,6,7,8,9,10,11,12,13,14,15,16,17,18,19,20,21,22,23,24,25,26,27,28,29,30,31,32,33,35] (by simp) (by simp) (by rfl) (by decide) (by simp) (by simp)
theorem KU (k:Int)(hk01:k=0∨k=1)(d:DS)(p:PS){su:Int}(hs:su=1∨su=2)(sd:List ac){rc:List ac}(hk:rc.length=32)(bo se:Int)(fs:Bool)(nx:Int)(bits:BitVec 64)(mine theirs:BitVec 32)(hn:0≤d.now)(hn2:d.now≤1099511627776)(hb:0≤bo)(hb2:bo≤1099511627776)(hnb:d.now<bo+180)(hx0:0≤nx)(hx1:nx≤1099511627777){n:Int}(hc:eK nx bits n=0)
  (fr:BitVec 32) {x:List ac} (hx:x.length≤1000) (t l u:Int) (o wt:Bool) (ht:0≤t) (ht2:t≤1000):
  ag Tryz.prog 105 [.ptr 4 0,.ptr 30 0,.i64 n,.str (aZ su rc n (ar ((if k=0 then 167772160#32 else 167772416#32:BitVec 32).setWidth 64).toNat 4++x)),.u32 fr] [bK (d.cs .nilSlice .nilSlice),none,bK [.ptr 6 0,.nilPtr,.bool false,.i64 0,.i64 1],none,bK (p.cs .nilSlice .nilPtr (.ptr 33 0) (.ptr 30 0) (.nilPtr)),bK [.bool wt,.i64 t,.i64 l,.bool o,.i64 u],nL 7,nL 8,nL 9,nR 10,nL 11,nR 12,nL 13,nL 14,nL 15,nL 16,nL 17,nL 18,nL 19,nL 20,nL 21,nL 22,nL 23,nL 24,nL 25,nL 26,nL 27,nL 28,bK [if k=0 then .ptr 29 0 else .nilPtr,if k=0 then .nilPtr else .ptr 29 0,.bool false,.i64 0],bK [.nilPtr,.nilPtr,.bool true,.i64 0],some ⟨false,[.ptr 31 0,.i64 su,.u32 mine,.u32 theirs],some ⟨[],0⟩⟩,bK [.ptr 32 0,.str sd,.str rc,.i64 su,.i64 bo,.i64 se,.bool fs],bK [.i64 nx,.u64 bits],none] (.i64 0)
   [bK (d.cs .nilSlice (.slice 34 0 1 3)),none,bK [.ptr 6 0,.nilPtr,.bool false,.i64 0,.i64 1],none,bK ({p with at_:=fr}.cs .nilSlice .nilPtr (.ptr 33 0) (.ptr 30 0) .nilPtr),bK [.bool wt,.i64 t,.i64 l,.bool true,.i64 (if o=true then u else d.now)],nL 7,nL 8,nL 9,nR 10,nL 11,nR 12,nL 13,nL 14,nL 15,nL 16,nL 17,nL 18,nL 19,nL 20,nL 21,nL 22,nL 23,nL 24,nL 25,nL 26,nL 27,nL 28,bK [if k=0 then .ptr 29 0 else .nilPtr,if k=0 then .nilPtr else .ptr 29 0,.bool false,.i64 0],bK [.nilPtr,.nilPtr,.bool true,.i64 0],some ⟨false,[.ptr 31 0,.i64 su,.u32 mine,.u32 theirs],some ⟨[],0⟩⟩,bK [.ptr 32 0,.str sd,.str rc,.i64 su,.i64 bo,.i64 se,.bool fs],bK [.i64 (cR nx n),.u64 (dq nx bits n)],none,
    bK [.i64 0,.u32 (if k=0 then 167772160#32 else 167772416#32),.str x]]:=by
 have hO:=wr hs sd hk bo se fs nx bits (n:=n) (t:=ar ((if k=0 then 167772160#32 else 167772416#32:BitVec 32).setWidth 64).toNat 4++x) (by rw[List.length_append,aW];omega) d.now hb hb2 hx0 hx1 hnb hc
 have hF:ag Tryz.prog 41 [.ptr 0 0,.u32 (if k=0 then 167772160#32 else 167772416#32)] [bK [.ptr 1 0,.nilPtr,.bool false,.i64 0,.i64 1],nL 2,nL 3,nL 4,nR 5,nL 6,nR 7,nL 8,nL 9,nL 10,nL 11,nL 12,nL 13,nL 14,nL 15,nL 16,nL 17,nL 18,nL 19,nL 20,nL 21,nL 22,nL 23,bK [if k=0 then .ptr 24 0 else .nilPtr,if k=0 then .nilPtr else .ptr 24 0,.bool false,.i64 0],bK [.nilPtr,.nilPtr,.bool true,.i64 0]] (.tup [.i64 0,.bool true]) [bK [.ptr 1 0,.nilPtr,.bool false,.i64 0,.i64 1],nL 2,nL 3,nL 4,nR 5,nL 6,nR 7,nL 8,nL 9,nL 10,nL 11,nL 12,nL 13,nL 14,nL 15,nL 16,nL 17,nL 18,nL 19,nL 20,nL 21,nL 22,nL 23,bK [if k=0 then .ptr 24 0 else .nilPtr,if k=0 then .nilPtr else .ptr 24 0,.bool false,.i64 0],bK [.nilPtr,.nilPtr,.bool true,.i64 0]]:=by
  rcases hk01 with rfl|rfl
  ·exact n6
  ·exact n7
 have hB:ao Tryz.prog 147 [.str (ar ((if k=0 then 167772160#32 else 167772416#32:BitVec 32).setWidth 64).toNat 4)] (.u64 ((if k=0 then 167772160#32 else 167772416#32:BitVec 32).setWidth 64)):=by
  rcases hk01 with rfl|rfl
  ·exact jn _ (by rw[aW];decide)
  ·exact jn _ (by rw[aW];decide)
 have hsw:BitVec.setWidth 32 ((if k=0 then 167772160#32 else 167772416#32:BitVec 32).setWidth 64)=(if k=0 then 167772160#32 else 167772416#32):=by
  rcases hk01 with rfl|rfl<;>rfl
 have htk:List.take 4 (ar ((if k=0 then 167772160#32 else 167772416#32:BitVec 32).setWidth 64).toNat 4++x)=ar ((if k=0 then 167772160#32 else 167772416#32:BitVec 32).setWidth 64).toNat 4:=List.take_left' (aW _ _)
 have hdr:List.drop 4 (ar ((if k=0 then 167772160#32 else 167772416#32:BitVec 32).setWidth 64).toNat 4++x)=x:=List.drop_left' (aW _ _)
 have hne:¬ ar ((if k=0 then 167772160#32 else 167772416#32:BitVec 32).setWidth 64).toNat 4++x=[]:=fun e=>by
  have :=congrArg List.length e
  rw[List.length_append,aW] at this
  simp at this
 have hl4:¬ ((ar ((if k=0 then 167772160#32 else 167772416#32:BitVec 32).setWidth 64).toNat 4++x).length:Int)<4:=by rw[List.length_append,aW];omega
 have hl4':(4:Int)≤((ar ((if k=0 then 167772160#32 else 167772416#32:BitVec 32).setWidth 64).toNat 4++x).length:Int):=by rw[List.length_append,aW];omega
 have hE2:=gL wt t l o u 2 d.now ht (by omega) (by unfold fO;omega)
 rw[show tW wt 2=wt from rfl,show tT t 2=t from rfl,show tL l 2 d.now=l from rfl,show tO o 2=true from rfl,show tU o u 2 d.now=(if o=true then u else d.now) from rfl] at hE2
 generalize (if k=0 then 167772160#32 else 167772416#32:BitVec 32)=src at*
 generalize aZ su rc n (ar (src.setWidth 64).toNat 4++x)=z at*
 generalize ar (src.setWidth 64).toNat 4++x=tx at*
 generalize ar (src.setWidth 64).toNat 4=b4 at*
 generalize cR nx n=nx2 at*
 generalize dq nx bits n=bits2 at*
 unfold PS.cs DS.cs at*
 dsimp only at*
 rcases hk01 with rfl|rfl
 all_goals
  simp only[seval,show ¬ (1:Int)=0 by decide] at*
  refine ap (by kernel_rfl) (fn:=Tryz.f105) Tryz.func105 rfl (by show 5≤156;decide) (ae ?_)
  simp only[go_sem,seval,Tryz.ntmps105]
  refine bh [31,32] (hO) (by kernel_rfl) (by simp) rfl (by simp) (by first|decide|simp) (by simp) (by simp) (by simp) (by simp) (by simp) ?_
  simp only[go_sem,seval,hne,ne_eq,decide_false]
  repeat refine aI ?_
  refine bh [5] (hE2) (by kernel_rfl) (by simp) rfl (by simp) (by first|decide|simp) (by simp) (by simp) (by simp) (by simp) (by simp) ?_
  simp only[go_sem,seval,hl4,hl4',htk,decide_false]
  repeat refine aI ?_
  refine ak (hB) ?_
  simp only[go_sem,seval,hsw]
  repeat refine aI ?_
  refine aq [2,6,7,8,9,10,11,12,13,14,15,16,17,18,19,20,21,22,23,24,25,26,27,28,29] (hF) (by kernel_rfl) (by simp) rfl (by simp) (by first|decide|simp) (by simp) (by simp) (by simp) (by simp) (by simp) ?_
  simp only[go_sem,seval,hdr,hl4']
  repeat refine aI ?_
  exact Fin.ren [0,1,2,3,4,5,6,7,8,9,10,11,12,13,14,15,16,17,18,19,20,21,22,23,24,25,26,27,28,29,30,31,32,33,35] (by simp) (by simp) (by rfl) (by decide) (by simp) (by simp)
theorem vS (id:BitVec 32):ao Tryz.prog 104 [.str (aE (id.setWidth 64).toNat 4)] (.u64 (id.setWidth 64)):=by
 have h:=eT (cd id) (by rw[b8];decide)
 rw[List.take_of_length_le (by rw[b8];decide),B4] at h
 exact h
theorem wv (x:BitVec 64):ao Tryz.prog 104 [.str (aE x.toNat 8)] (.u64 x):=by
 have h:=eT (aE x.toNat 8) (by rw[br];decide)
 rw[List.take_of_length_le (by rw[br];decide),C2] at h
 have e:BitVec.ofNat 64 (x.toNat%256^8)=x:=by
  apply BitVec.eq_of_toNat_eq
  have :=x.isLt
  rw[BitVec.toNat_ofNat]
  omega
 rwa [e] at h
theorem vi {b1 b2 z:List ac}(h1:b1.length=4)(h2:b2.length=8):
  List.drop 2 (List.take 6 (4#8::0#8::(b1++b2++z)))=b1∧List.drop 6 (List.take 14 (4#8::0#8::(b1++b2++z)))=b2∧List.drop 14 (4#8::0#8::(b1++b2++z))=z:=by
 have t6:List.take 6 (4#8::0#8::(b1++b2++z))=4#8::0#8::b1:=by
  rw[List.take_succ_cons,List.take_succ_cons,List.append_assoc,List.take_left' h1]
 have t14:List.take 14 (4#8::0#8::(b1++b2++z))=4#8::0#8::(b1++b2):=by
  rw[List.take_succ_cons,List.take_succ_cons,List.take_left' (by simp[h1,h2])]
 refine⟨by rw[t6];rfl,?_,?_⟩
 ·rw[t14,List.drop_succ_cons,List.drop_succ_cons,List.drop_left' h1]
 ·rw[List.drop_succ_cons,List.drop_succ_cons,List.drop_left' (by simp[h1,h2])]
theorem Ot (k:Int)(hk01:k=0∨k=1)(d:DS)(p:PS){su:Int}(hs:su=1∨su=2)(hpin:p.pin=1)(sd:List ac){rc:List ac}(hk:rc.length=32)(bo se:Int)(fs:Bool)(nx:Int)(bits:BitVec 64)(mine theirs:BitVec 32)(hn:0≤d.now)(hn2:d.now≤1099511627776)(hb:0≤bo)(hb2:bo≤1099511627776)(hnb:d.now<bo+180)(hx0:0≤nx)(hx1:nx≤1099511627777){n:Int}(hn0:0≤n)(hn1:n≤100000)(hc:eK nx bits n=0)
  (fr:BitVec 32) {x:List ac} (hx:x.length≤1000) (t l u:Int) (o wt:Bool) (ht:0≤t) (ht2:t≤1000):
  ag Tryz.prog 70 [.ptr 0 0,.u32 fr,.str (bu mine n (aZ su rc n (ar ((if k=0 then 167772160#32 else 167772416#32:BitVec 32).setWidth 64).toNat 4++x)))] [bK (d.cs .nilSlice .nilSlice),bK [.ptr 4 0],bK [.ptr 6 0,.nilPtr,.bool false,.i64 0,.i64 1],none,bK (p.cs .nilSlice .nilPtr (.nilPtr) (.nilPtr) (.ptr 30 0)),bK [.bool wt,.i64 t,.i64 l,.bool o,.i64 u],nL 7,nL 8,nL 9,nR 10,nL 11,nR 12,nL 13,nL 14,nL 15,nL 16,nL 17,nL 18,nL 19,nL 20,nL 21,nL 22,nL 23,nL 24,nL 25,nL 26,nL 27,nL 28,bK [if k=0 then .ptr 29 0 else .nilPtr,if k=0 then .nilPtr else .ptr 29 0,.bool false,.i64 0],bK [.nilPtr,.nilPtr,.bool true,.i64 0],some ⟨false,[.ptr 31 0,.i64 su,.u32 mine,.u32 theirs],some ⟨[],0⟩⟩,bK [.ptr 32 0,.str sd,.str rc,.i64 su,.i64 bo,.i64 se,.bool fs],bK [.i64 nx,.u64 bits]] (.i64 0)
   [bK (d.cs .nilSlice (.slice 33 0 1 3)),bK [.ptr 4 0],bK [.ptr 6 0,.nilPtr,.bool false,.i64 0,.i64 1],none,bK ({p with at_:=fr,pin:=su}.cs .nilSlice .nilPtr (.nilPtr) (.ptr 30 0) .nilPtr),bK [.bool false,.i64 0,.i64 l,.bool true,.i64 (if o=true then u else d.now)],nL 7,nL 8,nL 9,nR 10,nL 11,nR 12,nL 13,nL 14,nL 15,nL 16,nL 17,nL 18,nL 19,nL 20,nL 21,nL 22,nL 23,nL 24,nL 25,nL 26,nL 27,nL 28,bK [if k=0 then .ptr 29 0 else .nilPtr,if k=0 then .nilPtr else .ptr 29 0,.bool false,.i64 0],bK [.nilPtr,.nilPtr,.bool true,.i64 0],some ⟨false,[.ptr 31 0,.i64 su,.u32 mine,.u32 theirs],some ⟨[],0⟩⟩,bK [.ptr 32 0,.str sd,.str rc,.i64 su,.i64 bo,.i64 se,.bool fs],bK [.i64 (cR nx n),.u64 (dq nx bits n)],
    bK [.i64 0,.u32 (if k=0 then 167772160#32 else 167772416#32),.str x]]:=by
 have hH:=KS k hk01 d p hs hpin sd hk bo se fs nx bits mine theirs hn hn2 hb hb2 hnb hx0 hx1 hc fr hx t l u o wt ht ht2
 have hzl:=pg (s:=su) (n:=n) hk (t:=ar ((if k=0 then 167772160#32 else 167772416#32:BitVec 32).setWidth 64).toNat 4++x) (by rw[List.length_append,aW];omega)
 rw[List.length_append,aW] at hzl
 have hL1:=vS mine
 have hL2:=wv (BitVec.ofInt 64 n)
 have l1:=br (mine.setWidth 64).toNat 4
 have l2:=br (BitVec.ofInt 64 n).toNat 8
 have etn:((BitVec.ofInt 64 n).toNat:Int)=n:=by rw[BitVec.toNat_ofInt];omega
 have ew:aj n=n:=am (by omega) (by omega)
 have hlt:¬ 1099511627776#64<BitVec.ofInt 64 n:=by
  rw[BitVec.lt_def,BitVec.toNat_ofNat]
  omega
 have hsw:BitVec.setWidth 32 (mine.setWidth 64)=mine:=by
  apply BitVec.eq_of_toNat_eq
  have :=mine.isLt
  simp only[BitVec.toNat_setWidth]
  omega
 unfold bu
 generalize (if k=0 then 167772160#32 else 167772416#32:BitVec 32)=src at*
 generalize aZ su rc n (ar (src.setWidth 64).toNat 4++x)=z at*
 generalize aE (mine.setWidth 64).toNat 4=b1 at*
 generalize aE (BitVec.ofInt 64 n).toNat 8=b2 at*
 obtain⟨s1,s2,s3⟩:=vi (z:=z) l1 l2
 have eM:[4#8,0#8]++b1++b2++z=4#8::0#8::(b1++b2++z):=by simp
 rw[eM]
 have hS:(4#8::0#8::(b1++b2++z)).length=z.length+14:=by simp[l1,l2];omega
 have hd1:List.getD (4#8::0#8::(b1++b2++z)) 1 0=0#8:=rfl
 have hS1:¬ ((4#8::0#8::(b1++b2++z)).length:Int)<30:=by omega
 have hS2:(14:Int)≤((4#8::0#8::(b1++b2++z)).length:Int):=by omega
 have hS3:(6:Int)≤((4#8::0#8::(b1++b2++z)).length:Int):=by omega
 have hS4:(1:Int)<((4#8::0#8::(b1++b2++z)).length:Int):=by omega
 generalize 4#8::0#8::(b1++b2++z)=s at*
 generalize cR nx n=nx2 at*
 generalize dq nx bits n=bits2 at*
 unfold PS.cs DS.cs at*
 dsimp only at*
 rcases hk01 with rfl|rfl
 all_goals
  simp only[seval,show ¬ (1:Int)=0 by decide] at*
  refine ap (by kernel_rfl) (fn:=Tryz.f70) Tryz.func70 rfl (by show 3≤77;decide) (ae ?_)
  simp only[go_sem,seval,Tryz.ntmps70,hS1,hS2,s2]
  repeat refine aI ?_
  refine ak (hL2) ?_
  simp only[go_sem,seval,hS3,hS4,s1,hd1,hlt]
  repeat refine aI ?_
  refine ak (hL1) ?_
  simp only[go_sem,seval,hsw]
  refine aY 2 ?_
  simp only[go_sem,seval]
  repeat refine aI ?_
  refine aY 4 ?_
  simp only[go_sem,seval,etn,ew,s3]
  repeat refine aI ?_
  refine bC [0,1,2,3,4,5,6,7,8,9,10,11,12,13,14,15,16,17,18,19,20,21,22,23,24,25,26,27,28,29,30,31,32] (hH) (by kernel_rfl) (by simp) rfl (by simp) (by first|decide|simp) (by simp) (by simp) (by simp) (by simp) ?_
  simp only[go_sem,seval]
  repeat refine aI ?_
  exact Fin.ren [0,1,2,3,4,5,6,7,8,9,10,11,12,13,14,15,16,17,18,19,20,21,22,23,24,25,26,27,28,29,30,31,32,34] (by simp) (by simp) (by rfl) (by decide) (by simp) (by simp)
theorem Ou (k:Int)(hk01:k=0∨k=1)(d:DS)(p:PS){su:Int}(hs:su=1∨su=2)(hpin:p.pin=1)(sd:List ac){rc:List ac}(hk:rc.length=32)(bo se:Int)(fs:Bool)(nx:Int)(bits:BitVec 64)(mine theirs:BitVec 32)(su2:Int)(m2 th2:BitVec 32)(hm2:¬ m2=mine)(hn:0≤d.now)(hn2:d.now≤1099511627776)(hb:0≤bo)(hb2:bo≤1099511627776)(hnb:d.now<bo+180)(hx0:0≤nx)(hx1:nx≤1099511627777){n:Int}(hn0:0≤n)(hn1:n≤100000)(hc:eK nx bits n=0)
  (fr:BitVec 32) {x:List ac} (hx:x.length≤1000) (t l u:Int) (o wt:Bool) (ht:0≤t) (ht2:t≤1000):
  ag Tryz.prog 70 [.ptr 0 0,.u32 fr,.str (bu mine n (aZ su rc n (ar ((if k=0 then 167772160#32 else 167772416#32:BitVec 32).setWidth 64).toNat 4++x)))] [bK (d.cs .nilSlice .nilSlice),bK [.ptr 4 0],bK [.ptr 6 0,.nilPtr,.bool false,.i64 0,.i64 1],none,bK (p.cs .nilSlice .nilPtr (.nilPtr) (.ptr 33 0) (.ptr 30 0)),bK [.bool wt,.i64 t,.i64 l,.bool o,.i64 u],nL 7,nL 8,nL 9,nR 10,nL 11,nR 12,nL 13,nL 14,nL 15,nL 16,nL 17,nL 18,nL 19,nL 20,nL 21,nL 22,nL 23,nL 24,nL 25,nL 26,nL 27,nL 28,bK [if k=0 then .ptr 29 0 else .nilPtr,if k=0 then .nilPtr else .ptr 29 0,.bool false,.i64 0],bK [.nilPtr,.nilPtr,.bool true,.i64 0],some ⟨false,[.ptr 31 0,.i64 su,.u32 mine,.u32 theirs],some ⟨[],0⟩⟩,bK [.ptr 32 0,.str sd,.str rc,.i64 su,.i64 bo,.i64 se,.bool fs],bK [.i64 nx,.u64 bits],some ⟨false,[.ptr 34 0,.i64 su2,.u32 m2,.u32 th2],some ⟨[],0⟩⟩,none] (.i64 0)
   [bK (d.cs .nilSlice (.slice 35 0 1 3)),bK [.ptr 4 0],bK [.ptr 6 0,.nilPtr,.bool false,.i64 0,.i64 1],none,bK ({p with at_:=fr,pin:=su}.cs .nilSlice .nilPtr (.ptr 33 0) (.ptr 30 0) .nilPtr),bK [.bool false,.i64 0,.i64 l,.bool true,.i64 (if o=true then u else d.now)],nL 7,nL 8,nL 9,nR 10,nL 11,nR 12,nL 13,nL 14,nL 15,nL 16,nL 17,nL 18,nL 19,nL 20,nL 21,nL 22,nL 23,nL 24,nL 25,nL 26,nL 27,nL 28,bK [if k=0 then .ptr 29 0 else .nilPtr,if k=0 then .nilPtr else .ptr 29 0,.bool false,.i64 0],bK [.nilPtr,.nilPtr,.bool true,.i64 0],some ⟨false,[.ptr 31 0,.i64 su,.u32 mine,.u32 theirs],some ⟨[],0⟩⟩,bK [.ptr 32 0,.str sd,.str rc,.i64 su,.i64 bo,.i64 se,.bool fs],bK [.i64 (cR nx n),.u64 (dq nx bits n)],some ⟨false,[.ptr 34 0,.i64 su2,.u32 m2,.u32 th2],some ⟨[],0⟩⟩,none,
    bK [.i64 0,.u32 (if k=0 then 167772160#32 else 167772416#32),.str x]]:=by
 have hH:=KT k hk01 d p hs hpin sd hk bo se fs nx bits mine theirs hn hn2 hb hb2 hnb hx0 hx1 hc fr hx t l u o wt ht ht2
 have hzl:=pg (s:=su) (n:=n) hk (t:=ar ((if k=0 then 167772160#32 else 167772416#32:BitVec 32).setWidth 64).toNat 4++x) (by rw[List.length_append,aW];omega)
 rw[List.length_append,aW] at hzl
 have hL1:=vS mine
 have hL2:=wv (BitVec.ofInt 64 n)
 have l1:=br (mine.setWidth 64).toNat 4
 have l2:=br (BitVec.ofInt 64 n).toNat 8
 have etn:((BitVec.ofInt 64 n).toNat:Int)=n:=by rw[BitVec.toNat_ofInt];omega
 have ew:aj n=n:=am (by omega) (by omega)
 have hlt:¬ 1099511627776#64<BitVec.ofInt 64 n:=by
  rw[BitVec.lt_def,BitVec.toNat_ofNat]
  omega
 have hsw:BitVec.setWidth 32 (mine.setWidth 64)=mine:=by
  apply BitVec.eq_of_toNat_eq
  have :=mine.isLt
  simp only[BitVec.toNat_setWidth]
  omega
 unfold bu
 generalize (if k=0 then 167772160#32 else 167772416#32:BitVec 32)=src at*
 generalize aZ su rc n (ar (src.setWidth 64).toNat 4++x)=z at*
 generalize aE (mine.setWidth 64).toNat 4=b1 at*
 generalize aE (BitVec.ofInt 64 n).toNat 8=b2 at*
 obtain⟨s1,s2,s3⟩:=vi (z:=z) l1 l2
 have eM:[4#8,0#8]++b1++b2++z=4#8::0#8::(b1++b2++z):=by simp
 rw[eM]
 have hS:(4#8::0#8::(b1++b2++z)).length=z.length+14:=by simp[l1,l2];omega
 have hd1:List.getD (4#8::0#8::(b1++b2++z)) 1 0=0#8:=rfl
 have hS1:¬ ((4#8::0#8::(b1++b2++z)).length:Int)<30:=by omega
 have hS2:(14:Int)≤((4#8::0#8::(b1++b2++z)).length:Int):=by omega
 have hS3:(6:Int)≤((4#8::0#8::(b1++b2++z)).length:Int):=by omega
 have hS4:(1:Int)<((4#8::0#8::(b1++b2++z)).length:Int):=by omega
 generalize 4#8::0#8::(b1++b2++z)=s at*
 generalize cR nx n=nx2 at*
 generalize dq nx bits n=bits2 at*
 unfold PS.cs DS.cs at*
 dsimp only at*
 rcases hk01 with rfl|rfl
 all_goals
  simp only[seval,show ¬ (1:Int)=0 by decide] at*
  refine ap (by kernel_rfl) (fn:=Tryz.f70) Tryz.func70 rfl (by show 3≤77;decide) (ae ?_)
  simp only[go_sem,seval,Tryz.ntmps70,hS1,hS2,s2]
  repeat refine aI ?_
  refine ak (hL2) ?_
  simp only[go_sem,seval,hS3,hS4,s1,hd1,hlt]
  repeat refine aI ?_
  refine ak (hL1) ?_
  simp only[go_sem,seval,hsw]
  refine aY 2 ?_
  simp only[go_sem,seval]
  repeat refine aI ?_
  refine aY 4 ?_
  simp only[go_sem,seval,etn,ew,s3,hm2]
  repeat refine aI ?_
  refine bC [0,1,2,3,4,5,6,7,8,9,10,11,12,13,14,15,16,17,18,19,20,21,22,23,24,25,26,27,28,29,30,31,32,33] (hH) (by kernel_rfl) (by simp) rfl (by simp) (by first|decide|simp) (by simp) (by simp) (by simp) (by simp) ?_
  simp only[go_sem,seval]
  repeat refine aI ?_
  exact Fin.ren [0,1,2,3,4,5,6,7,8,9,10,11,12,13,14,15,16,17,18,19,20,21,22,23,24,25,26,27,28,29,30,31,32,33,34,36] (by simp) (by simp) (by rfl) (by decide) (by simp) (by simp)
theorem Ov (k:Int)(hk01:k=0∨k=1)(d:DS)(p:PS){su:Int}(hs:su=1∨su=2)(sd:List ac){rc:List ac}(hk:rc.length=32)(bo se:Int)(fs:Bool)(nx:Int)(bits:BitVec 64)(mine theirs:BitVec 32)(hn:0≤d.now)(hn2:d.now≤1099511627776)(hb:0≤bo)(hb2:bo≤1099511627776)(hnb:d.now<bo+180)(hx0:0≤nx)(hx1:nx≤1099511627777){n:Int}(hn0:0≤n)(hn1:n≤100000)(hc:eK nx bits n=0)
  (fr:BitVec 32) {x:List ac} (hx:x.length≤1000) (t l u:Int) (o wt:Bool) (ht:0≤t) (ht2:t≤1000):
  ag Tryz.prog 70 [.ptr 0 0,.u32 fr,.str (bu mine n (aZ su rc n (ar ((if k=0 then 167772160#32 else 167772416#32:BitVec 32).setWidth 64).toNat 4++x)))] [bK (d.cs .nilSlice .nilSlice),bK [.ptr 4 0],bK [.ptr 6 0,.nilPtr,.bool false,.i64 0,.i64 1],none,bK (p.cs .nilSlice .nilPtr (.ptr 33 0) (.ptr 30 0) (.nilPtr)),bK [.bool wt,.i64 t,.i64 l,.bool o,.i64 u],nL 7,nL 8,nL 9,nR 10,nL 11,nR 12,nL 13,nL 14,nL 15,nL 16,nL 17,nL 18,nL 19,nL 20,nL 21,nL 22,nL 23,nL 24,nL 25,nL 26,nL 27,nL 28,bK [if k=0 then .ptr 29 0 else .nilPtr,if k=0 then .nilPtr else .ptr 29 0,.bool false,.i64 0],bK [.nilPtr,.nilPtr,.bool true,.i64 0],some ⟨false,[.ptr 31 0,.i64 su,.u32 mine,.u32 theirs],some ⟨[],0⟩⟩,bK [.ptr 32 0,.str sd,.str rc,.i64 su,.i64 bo,.i64 se,.bool fs],bK [.i64 nx,.u64 bits],none] (.i64 0)
   [bK (d.cs .nilSlice (.slice 34 0 1 3)),bK [.ptr 4 0],bK [.ptr 6 0,.nilPtr,.bool false,.i64 0,.i64 1],none,bK ({p with at_:=fr}.cs .nilSlice .nilPtr (.ptr 33 0) (.ptr 30 0) .nilPtr),bK [.bool wt,.i64 t,.i64 l,.bool true,.i64 (if o=true then u else d.now)],nL 7,nL 8,nL 9,nR 10,nL 11,nR 12,nL 13,nL 14,nL 15,nL 16,nL 17,nL 18,nL 19,nL 20,nL 21,nL 22,nL 23,nL 24,nL 25,nL 26,nL 27,nL 28,bK [if k=0 then .ptr 29 0 else .nilPtr,if k=0 then .nilPtr else .ptr 29 0,.bool false,.i64 0],bK [.nilPtr,.nilPtr,.bool true,.i64 0],some ⟨false,[.ptr 31 0,.i64 su,.u32 mine,.u32 theirs],some ⟨[],0⟩⟩,bK [.ptr 32 0,.str sd,.str rc,.i64 su,.i64 bo,.i64 se,.bool fs],bK [.i64 (cR nx n),.u64 (dq nx bits n)],none,
    bK [.i64 0,.u32 (if k=0 then 167772160#32 else 167772416#32),.str x]]:=by
 have hH:=KU k hk01 d p hs sd hk bo se fs nx bits mine theirs hn hn2 hb hb2 hnb hx0 hx1 hc fr hx t l u o wt ht ht2
 have hzl:=pg (s:=su) (n:=n) hk (t:=ar ((if k=0 then 167772160#32 else 167772416#32:BitVec 32).setWidth 64).toNat 4++x) (by rw[List.length_append,aW];omega)
 rw[List.length_append,aW] at hzl
 have hL1:=vS mine
 have hL2:=wv (BitVec.ofInt 64 n)
 have l1:=br (mine.setWidth 64).toNat 4
 have l2:=br (BitVec.ofInt 64 n).toNat 8
 have etn:((BitVec.ofInt 64 n).toNat:Int)=n:=by rw[BitVec.toNat_ofInt];omega
 have ew:aj n=n:=am (by omega) (by omega)
 have hlt:¬ 1099511627776#64<BitVec.ofInt 64 n:=by
  rw[BitVec.lt_def,BitVec.toNat_ofNat]
  omega
 have hsw:BitVec.setWidth 32 (mine.setWidth 64)=mine:=by
  apply BitVec.eq_of_toNat_eq
  have :=mine.isLt
  simp only[BitVec.toNat_setWidth]
  omega
 unfold bu
 generalize (if k=0 then 167772160#32 else 167772416#32:BitVec 32)=src at*
 generalize aZ su rc n (ar (src.setWidth 64).toNat 4++x)=z at*
 generalize aE (mine.setWidth 64).toNat 4=b1 at*
 generalize aE (BitVec.ofInt 64 n).toNat 8=b2 at*
 obtain⟨s1,s2,s3⟩:=vi (z:=z) l1 l2
 have eM:[4#8,0#8]++b1++b2++z=4#8::0#8::(b1++b2++z):=by simp
 rw[eM]
 have hS:(4#8::0#8::(b1++b2++z)).length=z.length+14:=by simp[l1,l2];omega
 have hd1:List.getD (4#8::0#8::(b1++b2++z)) 1 0=0#8:=rfl
 have hS1:¬ ((4#8::0#8::(b1++b2++z)).length:Int)<30:=by omega
 have hS2:(14:Int)≤((4#8::0#8::(b1++b2++z)).length:Int):=by omega
 have hS3:(6:Int)≤((4#8::0#8::(b1++b2++z)).length:Int):=by omega
 have hS4:(1:Int)<((4#8::0#8::(b1++b2++z)).length:Int):=by omega
 generalize 4#8::0#8::(b1++b2++z)=s at*
 generalize cR nx n=nx2 at*
 generalize dq nx bits n=bits2 at*
 unfold PS.cs DS.cs at*
 dsimp only at*
 rcases hk01 with rfl|rfl
 all_goals
  simp only[seval,show ¬ (1:Int)=0 by decide] at*
  refine ap (by kernel_rfl) (fn:=Tryz.f70) Tryz.func70 rfl (by show 3≤77;decide) (ae ?_)
  simp only[go_sem,seval,Tryz.ntmps70,hS1,hS2,s2]
  repeat refine aI ?_
  refine ak (hL2) ?_
  simp only[go_sem,seval,hS3,hS4,s1,hd1,hlt]
  repeat refine aI ?_
  refine ak (hL1) ?_
  simp only[go_sem,seval,hsw]
  refine aY 2 ?_
  simp only[go_sem,seval]
  repeat refine aI ?_
  refine aY 4 ?_
  simp only[go_sem,seval,etn,ew,s3]
  repeat refine aI ?_
  refine bC [0,1,2,3,4,5,6,7,8,9,10,11,12,13,14,15,16,17,18,19,20,21,22,23,24,25,26,27,28,29,30,31,32,33] (hH) (by kernel_rfl) (by simp) rfl (by simp) (by first|decide|simp) (by simp) (by simp) (by simp) (by simp) ?_
  simp only[go_sem,seval]
  repeat refine aI ?_
  exact Fin.ren [0,1,2,3,4,5,6,7,8,9,10,11,12,13,14,15,16,17,18,19,20,21,22,23,24,25,26,27,28,29,30,31,32,33,35] (by simp) (by simp) (by rfl) (by decide) (by simp) (by simp)
theorem Hg (k:Int)(hk01:k=0∨k=1)(d:DS)(p:PS){su:Int}(hs:su=1∨su=2)(hpin:p.pin=1)(sd:List ac){rc:List ac}(hk:rc.length=32)(bo se:Int)(fs:Bool)(nx:Int)(bits:BitVec 64)(mine theirs:BitVec 32)(hn:0≤d.now)(hn2:d.now≤1099511627776)(hb:0≤bo)(hb2:bo≤1099511627776)(hnb:d.now<bo+180)(hx0:0≤nx)(hx1:nx≤1099511627777){n:Int}(hn0:0≤n)(hn1:n≤100000)(hc:eK nx bits n=0)
  (fr:BitVec 32) {x:List ac} (hx:x.length≤1000) (t l u:Int) (o wt:Bool) (ht:0≤t) (ht2:t≤1000):
  ag Tryz.prog 48 [.ptr 0 0,.u32 fr,.str (bu mine n (aZ su rc n (ar ((if k=0 then 167772160#32 else 167772416#32:BitVec 32).setWidth 64).toNat 4++x)))] [bK (d.cs .nilSlice .nilSlice),bK [.ptr 4 0],bK [.ptr 6 0,.nilPtr,.bool false,.i64 0,.i64 1],none,bK (p.cs .nilSlice .nilPtr (.nilPtr) (.nilPtr) (.ptr 30 0)),bK [.bool wt,.i64 t,.i64 l,.bool o,.i64 u],nL 7,nL 8,nL 9,nR 10,nL 11,nR 12,nL 13,nL 14,nL 15,nL 16,nL 17,nL 18,nL 19,nL 20,nL 21,nL 22,nL 23,nL 24,nL 25,nL 26,nL 27,nL 28,bK [if k=0 then .ptr 29 0 else .nilPtr,if k=0 then .nilPtr else .ptr 29 0,.bool false,.i64 0],bK [.nilPtr,.nilPtr,.bool true,.i64 0],some ⟨false,[.ptr 31 0,.i64 su,.u32 mine,.u32 theirs],some ⟨[],0⟩⟩,bK [.ptr 32 0,.str sd,.str rc,.i64 su,.i64 bo,.i64 se,.bool fs],bK [.i64 nx,.u64 bits]] (.i64 0)
   [bK (d.cs .nilSlice (.slice 33 0 1 3)),bK [.ptr 4 0],bK [.ptr 6 0,.nilPtr,.bool false,.i64 0,.i64 1],none,bK ({p with at_:=fr,pin:=su}.cs .nilSlice .nilPtr (.nilPtr) (.ptr 30 0) .nilPtr),bK [.bool false,.i64 0,.i64 l,.bool true,.i64 (if o=true then u else d.now)],nL 7,nL 8,nL 9,nR 10,nL 11,nR 12,nL 13,nL 14,nL 15,nL 16,nL 17,nL 18,nL 19,nL 20,nL 21,nL 22,nL 23,nL 24,nL 25,nL 26,nL 27,nL 28,bK [if k=0 then .ptr 29 0 else .nilPtr,if k=0 then .nilPtr else .ptr 29 0,.bool false,.i64 0],bK [.nilPtr,.nilPtr,.bool true,.i64 0],some ⟨false,[.ptr 31 0,.i64 su,.u32 mine,.u32 theirs],some ⟨[],0⟩⟩,bK [.ptr 32 0,.str sd,.str rc,.i64 su,.i64 bo,.i64 se,.bool fs],bK [.i64 (cR nx n),.u64 (dq nx bits n)],
    bK [.i64 0,.u32 (if k=0 then 167772160#32 else 167772416#32),.str x]]:=by
 have hX:=Ot k hk01 d p hs hpin sd hk bo se fs nx bits mine theirs hn hn2 hb hb2 hnb hx0 hx1 hn0 hn1 hc fr hx t l u o wt ht ht2
 have hne:¬ bu mine n (aZ su rc n (ar ((if k=0 then 167772160#32 else 167772416#32:BitVec 32).setWidth 64).toNat 4++x))=[]:=fun e=>by
  unfold bu at e
  simp at e
 have hk0:((List.getD (bu mine n (aZ su rc n (ar ((if k=0 then 167772160#32 else 167772416#32:BitVec 32).setWidth 64).toNat 4++x))) 0 0).toNat:Int)=4:=rfl
 have hlp:(0:Int)<((bu mine n (aZ su rc n (ar ((if k=0 then 167772160#32 else 167772416#32:BitVec 32).setWidth 64).toNat 4++x))).length:Int):=by
  have :=List.length_pos_iff.2 hne
  omega
 generalize bu mine n (aZ su rc n (ar ((if k=0 then 167772160#32 else 167772416#32:BitVec 32).setWidth 64).toNat 4++x))=s at*
 generalize (if k=0 then 167772160#32 else 167772416#32:BitVec 32)=src at*
 generalize cR nx n=nx2 at*
 generalize dq nx bits n=bits2 at*
 unfold PS.cs DS.cs at*
 dsimp only at*
 rcases hk01 with rfl|rfl
 all_goals
  simp only[seval,show ¬ (1:Int)=0 by decide] at*
  refine ap (by kernel_rfl) (fn:=Tryz.f48) Tryz.func48 rfl (by show 3≤30;decide) (ae ?_)
  simp only[go_sem,seval,Tryz.ntmps48,hne,hk0,hlp]
  repeat refine aI ?_
  refine bC [0,1,2,3,4,5,6,7,8,9,10,11,12,13,14,15,16,17,18,19,20,21,22,23,24,25,26,27,28,29,30,31,32] (hX) (by kernel_rfl) (by simp) rfl (by simp) (by first|decide|simp) (by simp) (by simp) (by simp) (by simp) ?_
  simp only[go_sem,seval]
  repeat refine aI ?_
  exact Fin.ren [0,1,2,3,4,5,6,7,8,9,10,11,12,13,14,15,16,17,18,19,20,21,22,23,24,25,26,27,28,29,30,31,32,34] (by simp) (by simp) (by rfl) (by decide) (by simp) (by simp)
theorem Hh (k:Int)(hk01:k=0∨k=1)(d:DS)(p:PS){su:Int}(hs:su=1∨su=2)(hpin:p.pin=1)(sd:List ac){rc:List ac}(hk:rc.length=32)(bo se:Int)(fs:Bool)(nx:Int)(bits:BitVec 64)(mine theirs:BitVec 32)(su2:Int)(m2 th2:BitVec 32)(hm2:¬ m2=mine)(hn:0≤d.now)(hn2:d.now≤1099511627776)(hb:0≤bo)(hb2:bo≤1099511627776)(hnb:d.now<bo+180)(hx0:0≤nx)(hx1:nx≤1099511627777){n:Int}(hn0:0≤n)(hn1:n≤100000)(hc:eK nx bits n=0)
  (fr:BitVec 32) {x:List ac} (hx:x.length≤1000) (t l u:Int) (o wt:Bool) (ht:0≤t) (ht2:t≤1000):
  ag Tryz.prog 48 [.ptr 0 0,.u32 fr,.str (bu mine n (aZ su rc n (ar ((if k=0 then 167772160#32 else 167772416#32:BitVec 32).setWidth 64).toNat 4++x)))] [bK (d.cs .nilSlice .nilSlice),bK [.ptr 4 0],bK [.ptr 6 0,.nilPtr,.bool false,.i64 0,.i64 1],none,bK (p.cs .nilSlice .nilPtr (.nilPtr) (.ptr 33 0) (.ptr 30 0)),bK [.bool wt,.i64 t,.i64 l,.bool o,.i64 u],nL 7,nL 8,nL 9,nR 10,nL 11,nR 12,nL 13,nL 14,nL 15,nL 16,nL 17,nL 18,nL 19,nL 20,nL 21,nL 22,nL 23,nL 24,nL 25,nL 26,nL 27,nL 28,bK [if k=0 then .ptr 29 0 else .nilPtr,if k=0 then .nilPtr else .ptr 29 0,.bool false,.i64 0],bK [.nilPtr,.nilPtr,.bool true,.i64 0],some ⟨false,[.ptr 31 0,.i64 su,.u32 mine,.u32 theirs],some ⟨[],0⟩⟩,bK [.ptr 32 0,.str sd,.str rc,.i64 su,.i64 bo,.i64 se,.bool fs],bK [.i64 nx,.u64 bits],some ⟨false,[.ptr 34 0,.i64 su2,.u32 m2,.u32 th2],some ⟨[],0⟩⟩,none] (.i64 0)
   [bK (d.cs .nilSlice (.slice 35 0 1 3)),bK [.ptr 4 0],bK [.ptr 6 0,.nilPtr,.bool false,.i64 0,.i64 1],none,bK ({p with at_:=fr,pin:=su}.cs .nilSlice .nilPtr (.ptr 33 0) (.ptr 30 0) .nilPtr),bK [.bool false,.i64 0,.i64 l,.bool true,.i64 (if o=true then u else d.now)],nL 7,nL 8,nL 9,nR 10,nL 11,nR 12,nL 13,nL 14,nL 15,nL 16,nL 17,nL 18,nL 19,nL 20,nL 21,nL 22,nL 23,nL 24,nL 25,nL 26,nL 27,nL 28,bK [if k=0 then .ptr 29 0 else .nilPtr,if k=0 then .nilPtr else .ptr 29 0,.bool false,.i64 0],bK [.nilPtr,.nilPtr,.bool true,.i64 0],some ⟨false,[.ptr 31 0,.i64 su,.u32 mine,.u32 theirs],some ⟨[],0⟩⟩,bK [.ptr 32 0,.str sd,.str rc,.i64 su,.i64 bo,.i64 se,.bool fs],bK [.i64 (cR nx n),.u64 (dq nx bits n)],some ⟨false,[.ptr 34 0,.i64 su2,.u32 m2,.u32 th2],some ⟨[],0⟩⟩,none,
    bK [.i64 0,.u32 (if k=0 then 167772160#32 else 167772416#32),.str x]]:=by
 have hX:=Ou k hk01 d p hs hpin sd hk bo se fs nx bits mine theirs su2 m2 th2 hm2 hn hn2 hb hb2 hnb hx0 hx1 hn0 hn1 hc fr hx t l u o wt ht ht2
 have hne:¬ bu mine n (aZ su rc n (ar ((if k=0 then 167772160#32 else 167772416#32:BitVec 32).setWidth 64).toNat 4++x))=[]:=fun e=>by
  unfold bu at e
  simp at e
 have hk0:((List.getD (bu mine n (aZ su rc n (ar ((if k=0 then 167772160#32 else 167772416#32:BitVec 32).setWidth 64).toNat 4++x))) 0 0).toNat:Int)=4:=rfl
 have hlp:(0:Int)<((bu mine n (aZ su rc n (ar ((if k=0 then 167772160#32 else 167772416#32:BitVec 32).setWidth 64).toNat 4++x))).length:Int):=by
  have :=List.length_pos_iff.2 hne
  omega
 generalize bu mine n (aZ su rc n (ar ((if k=0 then 167772160#32 else 167772416#32:BitVec 32).setWidth 64).toNat 4++x))=s at*
 generalize (if k=0 then 167772160#32 else 167772416#32:BitVec 32)=src at*
 generalize cR nx n=nx2 at*
 generalize dq nx bits n=bits2 at*
 unfold PS.cs DS.cs at*
 dsimp only at*
 rcases hk01 with rfl|rfl
 all_goals
  simp only[seval,show ¬ (1:Int)=0 by decide] at*
  refine ap (by kernel_rfl) (fn:=Tryz.f48) Tryz.func48 rfl (by show 3≤30;decide) (ae ?_)
  simp only[go_sem,seval,Tryz.ntmps48,hne,hk0,hlp]
  repeat refine aI ?_
  refine bC [0,1,2,3,4,5,6,7,8,9,10,11,12,13,14,15,16,17,18,19,20,21,22,23,24,25,26,27,28,29,30,31,32,33,34] (hX) (by kernel_rfl) (by simp) rfl (by simp) (by first|decide|simp) (by simp) (by simp) (by simp) (by simp) ?_
  simp only[go_sem,seval]
  repeat refine aI ?_
  exact Fin.ren [0,1,2,3,4,5,6,7,8,9,10,11,12,13,14,15,16,17,18,19,20,21,22,23,24,25,26,27,28,29,30,31,32,33,34,36] (by simp) (by simp) (by rfl) (by decide) (by simp) (by simp)
theorem Hi (k:Int)(hk01:k=0∨k=1)(d:DS)(p:PS){su:Int}(hs:su=1∨su=2)(sd:List ac){rc:List ac}(hk:rc.length=32)(bo se:Int)(fs:Bool)(nx:Int)(bits:BitVec 64)(mine theirs:BitVec 32)(hn:0≤d.now)(hn2:d.now≤1099511627776)(hb:0≤bo)(hb2:bo≤1099511627776)(hnb:d.now<bo+180)(hx0:0≤nx)(hx1:nx≤1099511627777){n:Int}(hn0:0≤n)(hn1:n≤100000)(hc:eK nx bits n=0)
  (fr:BitVec 32) {x:List ac} (hx:x.length≤1000) (t l u:Int) (o wt:Bool) (ht:0≤t) (ht2:t≤1000):
  ag Tryz.prog 48 [.ptr 0 0,.u32 fr,.str (bu mine n (aZ su rc n (ar ((if k=0 then 167772160#32 else 167772416#32:BitVec 32).setWidth 64).toNat 4++x)))] [bK (d.cs .nilSlice .nilSlice),bK [.ptr 4 0],bK [.ptr 6 0,.nilPtr,.bool false,.i64 0,.i64 1],none,bK (p.cs .nilSlice .nilPtr (.ptr 33 0) (.ptr 30 0) (.nilPtr)),bK [.bool wt,.i64 t,.i64 l,.bool o,.i64 u],nL 7,nL 8,nL 9,nR 10,nL 11,nR 12,nL 13,nL 14,nL 15,nL 16,nL 17,nL 18,nL 19,nL 20,nL 21,nL 22,nL 23,nL 24,nL 25,nL 26,nL 27,nL 28,bK [if k=0 then .ptr 29 0 else .nilPtr,if k=0 then .nilPtr else .ptr 29 0,.bool false,.i64 0],bK [.nilPtr,.nilPtr,.bool true,.i64 0],some ⟨false,[.ptr 31 0,.i64 su,.u32 mine,.u32 theirs],some ⟨[],0⟩⟩,bK [.ptr 32 0,.str sd,.str rc,.i64 su,.i64 bo,.i64 se,.bool fs],bK [.i64 nx,.u64 bits],none] (.i64 0)
   [bK (d.cs .nilSlice (.slice 34 0 1 3)),bK [.ptr 4 0],bK [.ptr 6 0,.nilPtr,.bool false,.i64 0,.i64 1],none,bK ({p with at_:=fr}.cs .nilSlice .nilPtr (.ptr 33 0) (.ptr 30 0) .nilPtr),bK [.bool wt,.i64 t,.i64 l,.bool true,.i64 (if o=true then u else d.now)],nL 7,nL 8,nL 9,nR 10,nL 11,nR 12,nL 13,nL 14,nL 15,nL 16,nL 17,nL 18,nL 19,nL 20,nL 21,nL 22,nL 23,nL 24,nL 25,nL 26,nL 27,nL 28,bK [if k=0 then .ptr 29 0 else .nilPtr,if k=0 then .nilPtr else .ptr 29 0,.bool false,.i64 0],bK [.nilPtr,.nilPtr,.bool true,.i64 0],some ⟨false,[.ptr 31 0,.i64 su,.u32 mine,.u32 theirs],some ⟨[],0⟩⟩,bK [.ptr 32 0,.str sd,.str rc,.i64 su,.i64 bo,.i64 se,.bool fs],bK [.i64 (cR nx n),.u64 (dq nx bits n)],none,
    bK [.i64 0,.u32 (if k=0 then 167772160#32 else 167772416#32),.str x]]:=by
 have hX:=Ov k hk01 d p hs sd hk bo se fs nx bits mine theirs hn hn2 hb hb2 hnb hx0 hx1 hn0 hn1 hc fr hx t l u o wt ht ht2
 have hne:¬ bu mine n (aZ su rc n (ar ((if k=0 then 167772160#32 else 167772416#32:BitVec 32).setWidth 64).toNat 4++x))=[]:=fun e=>by
  unfold bu at e
  simp at e
 have hk0:((List.getD (bu mine n (aZ su rc n (ar ((if k=0 then 167772160#32 else 167772416#32:BitVec 32).setWidth 64).toNat 4++x))) 0 0).toNat:Int)=4:=rfl
 have hlp:(0:Int)<((bu mine n (aZ su rc n (ar ((if k=0 then 167772160#32 else 167772416#32:BitVec 32).setWidth 64).toNat 4++x))).length:Int):=by
  have :=List.length_pos_iff.2 hne
  omega
 generalize bu mine n (aZ su rc n (ar ((if k=0 then 167772160#32 else 167772416#32:BitVec 32).setWidth 64).toNat 4++x))=s at*
 generalize (if k=0 then 167772160#32 else 167772416#32:BitVec 32)=src at*
 generalize cR nx n=nx2 at*
 generalize dq nx bits n=bits2 at*
 unfold PS.cs DS.cs at*
 dsimp only at*
 rcases hk01 with rfl|rfl
 all_goals
  simp only[seval,show ¬ (1:Int)=0 by decide] at*
  refine ap (by kernel_rfl) (fn:=Tryz.f48) Tryz.func48 rfl (by show 3≤30;decide) (ae ?_)
  simp only[go_sem,seval,Tryz.ntmps48,hne,hk0,hlp]
  repeat refine aI ?_
  refine bC [0,1,2,3,4,5,6,7,8,9,10,11,12,13,14,15,16,17,18,19,20,21,22,23,24,25,26,27,28,29,30,31,32,33] (hX) (by kernel_rfl) (by simp) rfl (by simp) (by first|decide|simp) (by simp) (by simp) (by simp) (by simp) ?_
  simp only[go_sem,seval]
  repeat refine aI ?_
  exact Fin.ren [0,1,2,3,4,5,6,7,8,9,10,11,12,13,14,15,16,17,18,19,20,21,22,23,24,25,26,27,28,29,30,31,32,33,35] (by simp) (by simp) (by rfl) (by decide) (by simp) (by simp)
theorem Fk (d:DS)(p:PS){su:Int}(hs:su=1∨su=2)(hpin:p.pin=1)(hpub:d.pub.length=32)(hsec:d.secret.length=32)(hpsk:p.psk.length=32)(hown:d.own.length=32)(hn:0≤d.now)(hn2:d.now≤1099511627776){S:HS}(hS:S.ok){e once:List ac}(he:e.length=32)(ho:once.length=32)(peer:List ac)(id2 fr:BitVec 32)(hfr:fr≠0#32)
  {x:List ac} (hx:x.length≤2000) (t l u:Int) (o wt:Bool) (ht:0≤t) (ht2:t≤1000):
  ag Tryz.prog 48 [.ptr 0 0,.u32 fr,.str (marked d.pub (bd su S e once d.own p.psk 2 id2 p.bix))] [bK (d.cs .nilSlice .nilSlice),bK [.ptr 4 0],none,none,bK (p.cs (.slice 6 0 1 1) (.ptr 7 0) .nilPtr (.nilPtr) .nilPtr),bK [.bool wt,.i64 t,.i64 l,.bool o,.i64 u],bK [.str x],bK (S.cs su++[.i64 su,.str d.own,.str peer,.str p.psk,.str once,.u32 p.bix])] (.i64 0)
   [bK (d.cs (.slice 11 0 1 3) .nilSlice),bK [.ptr 4 0],none,none,bK ({p with knows:=2,pin:=su,at_:=fr}.cs .nilSlice .nilPtr (.nilPtr) (.ptr 10 0) .nilPtr),bK [.bool false,.i64 0,.i64 l,.bool false,.i64 u],none,none,
    bK [.i64 0,.u64 0#64],bK [.ptr 8 0,.str (gK su S e once d.own p.psk 2 0),.str (gK su S e once d.own p.psk 2 1),.i64 su,.i64 d.now,.i64 1,.bool true],some ⟨false,[.ptr 9 0,.i64 su,.u32 p.bix,.u32 id2],some ⟨[],0⟩⟩,bK [.u32 d.here,.u32 fr,.str (bu id2 0 (aZ su (gK su S e once d.own p.psk 2 0) 0 x))]]:=by
 have hX:=IZ d p hs hpin hpub hsec hpsk hown hn hn2 hS he ho peer id2 fr hfr hx t l u o wt ht ht2
 have hne:¬ marked d.pub (bd su S e once d.own p.psk 2 id2 p.bix)=[]:=fun e=>by
  have :=congrArg List.length e
  unfold marked bd at this
  simp at this
 have hk0:((List.getD (marked d.pub (bd su S e once d.own p.psk 2 id2 p.bix)) 0 0).toNat:Int)=2:=rfl
 have hlp:(0:Int)<((marked d.pub (bd su S e once d.own p.psk 2 id2 p.bix)).length:Int):=by
  have :marked d.pub (bd su S e once d.own p.psk 2 id2 p.bix)≠[]:=hne
  have :=List.length_pos_iff.2 this
  omega
 have e0:∃ (ty:TypeId) (h c k:List ac) (n:BitVec 64),S.cs su=[.iface ty (.agg []),.str h,.str c,.str k,.u64 n]:=⟨_,_,_,_,_,rfl⟩
 generalize S.cs su=c5 at*
 generalize gK su S e once d.own p.psk 2 0=k0 at*
 generalize gK su S e once d.own p.psk 2 1=k1 at*
 generalize bu id2 0 (aZ su k0 0 x)=z at*
 generalize bd su S e once d.own p.psk 2 id2 p.bix=msg at*
 generalize marked d.pub msg=mk at*
 obtain⟨ty5,h5,k5,g5,m5,rfl⟩:=e0
 unfold PS.cs DS.cs at*
 dsimp only at*
 refine ap (by kernel_rfl) (fn:=Tryz.f48) Tryz.func48 rfl (by show 3≤30;decide) (ae ?_)
 simp only[go_sem,↓reduceIte,Nat.reduceEqDiff,Nat.reduceLT,Nat.reduceLeDiff,Nat.reduceAdd,Int.reduceLE,Int.reduceLT,Int.reduceToNat,reduceCtorEq,Tryz.ntmps48,hne,hk0,hlp,Int.reduceToNat]
 repeat refine aI ?_
 refine bC [0,1,2,3,4,5,6,7] (hX) (by kernel_rfl) (by simp) rfl (by simp) (by first|decide|simp) (by simp) (by simp) (by simp) (by simp) ?_
 simp only[go_sem,↓reduceIte,Nat.reduceLT,Nat.reduceAdd,Nat.reduceSub]
 repeat refine aI ?_
 exact Fin.ren [0,1,2,3,4,5,6,7,9,10,11,12] (by simp) (by simp) (by rfl) (by decide) (by simp) (by simp)
theorem Fl (d:DS)(p:PS){su:Int}(hs:su=1∨su=2)(hpin:p.pin=1)(hpub:d.pub.length=32)(hsec:d.secret.length=32)(hpsk:p.psk.length=32)(hown:d.own.length=32)(hn:0≤d.now)(hn2:d.now≤1099511627776){S:HS}(hS:S.ok){e once:List ac}(he:e.length=32)(ho:once.length=32)(peer:List ac)(id2 fr:BitVec 32)(hfr:fr≠0#32)
  {x:List ac} (hx:x.length≤2000) (t l u:Int) (o wt:Bool) (ht:0≤t) (ht2:t≤1000):
  ag Tryz.prog 48 [.ptr 0 0,.u32 fr,.str (marked d.pub (bd su S e once d.own p.psk 2 id2 p.bix))] [bK (d.cs .nilSlice .nilSlice),bK [.ptr 4 0],none,none,bK (p.cs (.slice 7 0 1 1) (.ptr 8 0) .nilPtr (.ptr 6 0) .nilPtr),bK [.bool wt,.i64 t,.i64 l,.bool o,.i64 u],none,bK [.str x],bK (S.cs su++[.i64 su,.str d.own,.str peer,.str p.psk,.str once,.u32 p.bix])] (.i64 0)
   [bK (d.cs (.slice 12 0 1 3) .nilSlice),bK [.ptr 4 0],none,none,bK ({p with knows:=2,pin:=su,at_:=fr}.cs .nilSlice .nilPtr (.ptr 6 0) (.ptr 11 0) .nilPtr),bK [.bool false,.i64 0,.i64 l,.bool false,.i64 u],none,none,none,
    bK [.i64 0,.u64 0#64],bK [.ptr 9 0,.str (gK su S e once d.own p.psk 2 0),.str (gK su S e once d.own p.psk 2 1),.i64 su,.i64 d.now,.i64 1,.bool true],some ⟨false,[.ptr 10 0,.i64 su,.u32 p.bix,.u32 id2],some ⟨[],0⟩⟩,bK [.u32 d.here,.u32 fr,.str (bu id2 0 (aZ su (gK su S e once d.own p.psk 2 0) 0 x))]]:=by
 have hX:=I0 d p hs hpin hpub hsec hpsk hown hn hn2 hS he ho peer id2 fr hfr hx t l u o wt ht ht2
 have hne:¬ marked d.pub (bd su S e once d.own p.psk 2 id2 p.bix)=[]:=fun e=>by
  have :=congrArg List.length e
  unfold marked bd at this
  simp at this
 have hk0:((List.getD (marked d.pub (bd su S e once d.own p.psk 2 id2 p.bix)) 0 0).toNat:Int)=2:=rfl
 have hlp:(0:Int)<((marked d.pub (bd su S e once d.own p.psk 2 id2 p.bix)).length:Int):=by
  have :marked d.pub (bd su S e once d.own p.psk 2 id2 p.bix)≠[]:=hne
  have :=List.length_pos_iff.2 this
  omega
 have e0:∃ (ty:TypeId) (h c k:List ac) (n:BitVec 64),S.cs su=[.iface ty (.agg []),.str h,.str c,.str k,.u64 n]:=⟨_,_,_,_,_,rfl⟩
 generalize S.cs su=c5 at*
 generalize gK su S e once d.own p.psk 2 0=k0 at*
 generalize gK su S e once d.own p.psk 2 1=k1 at*
 generalize bu id2 0 (aZ su k0 0 x)=z at*
 generalize bd su S e once d.own p.psk 2 id2 p.bix=msg at*
 generalize marked d.pub msg=mk at*
 obtain⟨ty5,h5,k5,g5,m5,rfl⟩:=e0
 unfold PS.cs DS.cs at*
 dsimp only at*
 refine ap (by kernel_rfl) (fn:=Tryz.f48) Tryz.func48 rfl (by show 3≤30;decide) (ae ?_)
 simp only[go_sem,↓reduceIte,Nat.reduceEqDiff,Nat.reduceLT,Nat.reduceLeDiff,Nat.reduceAdd,Int.reduceLE,Int.reduceLT,Int.reduceToNat,reduceCtorEq,Tryz.ntmps48,hne,hk0,hlp,Int.reduceToNat]
 repeat refine aI ?_
 refine bC [0,1,2,3,4,5,6,7,8] (hX) (by kernel_rfl) (by simp) rfl (by simp) (by first|decide|simp) (by simp) (by simp) (by simp) (by simp) ?_
 simp only[go_sem,↓reduceIte,Nat.reduceLT,Nat.reduceAdd,Nat.reduceSub]
 repeat refine aI ?_
 exact Fin.ren [0,1,2,3,4,5,6,7,8,10,11,12,13] (by simp) (by simp) (by rfl) (by decide) (by simp) (by simp)
theorem A4 (d:DS)(T:List (Option Blk)):ag Tryz.prog 31 [.ptr 0 0,.i64 0] (bK (d.cs .nilSlice .nilSlice)::bK [.ptr 4 0]::none::none::none::T) (.ptr 4 0) (bK (d.cs .nilSlice .nilSlice)::bK [.ptr 4 0]::none::none::none::T):=by
 unfold DS.cs
 refine ap (by kernel_rfl) (fn:=Tryz.f31) Tryz.func31 rfl (by show 2≤23;decide) (ae ?_)
 simp only[go_sem,seval,Tryz.ntmps31,Tryz.results31]
 repeat refine aI ?_
 exact Fin.id (s:=⟨_,_⟩) (Nat.le_refl _)
theorem Ow (d:DS)(p:PS)(pr:Nat)(su:Int)(mine theirs:BitVec 32):ag Tryz.prog 20 [.ptr 0 0,.i64 0] [bK (d.cs .nilSlice .nilSlice),bK [.ptr 4 0],none,none,bK (p.cs .nilSlice .nilPtr .nilPtr (.ptr 6 0) .nilPtr),none,some ⟨false,[.ptr 7 0,.i64 su,.u32 mine,.u32 theirs],some ⟨[],0⟩⟩,none] (.i64 su)
  [bK (d.cs .nilSlice .nilSlice),bK [.ptr 4 0],none,none,bK (p.cs .nilSlice .nilPtr .nilPtr (.ptr 6 0) .nilPtr),none,some ⟨false,[.ptr 7 0,.i64 su,.u32 mine,.u32 theirs],some ⟨[],0⟩⟩,none]:=by
 have hF:=A4 d []
 unfold PS.cs DS.cs at*
 refine ap (by kernel_rfl) (fn:=Tryz.f20) Tryz.func20 rfl (by show 2≤25;decide) (ae ?_)
 simp only[go_sem,seval,Tryz.ntmps20]
 refine bC [0,1,2,3,4] (hF) (by kernel_rfl) (by simp) rfl (by simp) (by first|decide|simp) (by simp) (by simp) (by simp) (by simp) ?_
 simp only[go_sem,seval]
 repeat refine aI ?_
 exact Fin.ren [0,1,2,3,4,5,6,7] (by simp) (by simp) (by rfl) (by decide) (by simp) (by simp)
theorem KV (d:DS)(p:PS)(pr:Nat)(su:Int)(mine theirs:BitVec 32):ag Tryz.prog 20 [.ptr 0 0,.i64 0] [bK (d.cs .nilSlice .nilSlice),bK [.ptr 4 0],none,none,bK (p.cs .nilSlice .nilPtr (.ptr 8 0) (.ptr 6 0) .nilPtr),none,some ⟨false,[.ptr 7 0,.i64 su,.u32 mine,.u32 theirs],some ⟨[],0⟩⟩,none,none] (.i64 su)
  [bK (d.cs .nilSlice .nilSlice),bK [.ptr 4 0],none,none,bK (p.cs .nilSlice .nilPtr (.ptr 8 0) (.ptr 6 0) .nilPtr),none,some ⟨false,[.ptr 7 0,.i64 su,.u32 mine,.u32 theirs],some ⟨[],0⟩⟩,none,none]:=by
 have hF:=A4 d []
 unfold PS.cs DS.cs at*
 refine ap (by kernel_rfl) (fn:=Tryz.f20) Tryz.func20 rfl (by show 2≤25;decide) (ae ?_)
 simp only[go_sem,seval,Tryz.ntmps20]
 refine bC [0,1,2,3,4] (hF) (by kernel_rfl) (by simp) rfl (by simp) (by first|decide|simp) (by simp) (by simp) (by simp) (by simp) ?_
 simp only[go_sem,seval]
 repeat refine aI ?_
 exact Fin.ren [0,1,2,3,4,5,6,7,8] (by simp) (by simp) (by rfl) (by decide) (by simp) (by simp)
theorem F8 (d:DS)(p:PS)(hn:d.now=0)(wt:Bool)(t l:Int)(o:Bool)(u:Int)(hl:0≤l∧l≤1099511627776)(hu:0≤u∧u≤1099511627776)(hx:gn wt t l o u 200=0):
  ag Tryz.prog 28 [.ptr 0 0,.i64 200] [bK (d.cs .nilSlice .nilSlice),bK [.ptr 4 0],none,none,bK (p.cs .nilSlice .nilPtr .nilPtr (.ptr 6 0) .nilPtr),bK [.bool wt,.i64 t,.i64 l,.bool o,.i64 u],none] (.i64 0)
   [bK ({d with now:=200}.cs .nilSlice .nilSlice),bK [.ptr 4 0],none,none,bK (p.cs .nilSlice .nilPtr .nilPtr (.ptr 6 0) .nilPtr),bK [.bool wt,.i64 t,.i64 l,.bool o,.i64 u],none]:=by
 have hD:=yb {d with now:=200} p [none] .nilSlice .nilSlice .nilPtr .nilPtr (.ptr 6 0) .nilPtr wt t l o u hl hu hx
 unfold PS.cs DS.cs at*
 rw[hn]
 dsimp only at*
 refine ap (by kernel_rfl) (fn:=Tryz.f28) Tryz.func28 rfl (by show 2≤38;decide) (ae ?_)
 simp only[go_sem,seval,Tryz.ntmps28]
 repeat refine aI ?_
 refine aY 2 ?_
 simp only[go_sem,seval]
 repeat refine aI ?_
 refine bC [0,1,2,3,4,5,6] (hD) (by kernel_rfl) (by simp) rfl (by simp) (by first|decide|simp) (by simp) (by simp) (by simp) (by simp) ?_
 simp only[go_sem,seval]
 repeat refine aI ?_
 exact Fin.ren [0,1,2,3,4,5,6] (by simp) (by simp) (by rfl) (by decide) (by simp) (by simp)
theorem I1 (d:DS)(p:PS)(hn:d.now=0)(sd rc:List ac)(su bo se:Int)(fs:Bool)(nx:Int)(bits:BitVec 64)(mine theirs:BitVec 32)(hb:0≤bo)(hb2:bo≤1099511627776)(hb3:fN bo se 200=true)(wt:Bool)(t l:Int)(o:Bool)(u:Int)(ht:0≤t)(ht2:t≤1000)(hl:0≤l∧l≤1099511627776)(hu:0≤u∧u≤1099511627776)(hx:gn wt t l o u 200=2):
  ag Tryz.prog 28 [.ptr 0 0,.i64 200] [bK (d.cs .nilSlice .nilSlice),bK [.ptr 4 0],none,none,bK (p.cs .nilSlice .nilPtr .nilPtr (.ptr 6 0) .nilPtr),bK [.bool wt,.i64 t,.i64 l,.bool o,.i64 u],some ⟨false,[.ptr 7 0,.i64 su,.u32 mine,.u32 theirs],some ⟨[],0⟩⟩,bK [.ptr 8 0,.str sd,.str rc,.i64 su,.i64 bo,.i64 se,.bool fs],bK [.i64 nx,.u64 bits]] (.i64 0)
   [bK ({d with now:=200}.cs .nilSlice .nilSlice),bK [.ptr 4 0],none,none,bK (p.cs .nilSlice .nilPtr .nilPtr (.ptr 6 0) .nilPtr),bK [.bool wt,.i64 t,.i64 l,.bool false,.i64 u],some ⟨false,[.ptr 7 0,.i64 su,.u32 mine,.u32 theirs],some ⟨[],0⟩⟩,bK [.ptr 8 0,.str sd,.str rc,.i64 su,.i64 bo,.i64 se,.bool fs],bK [.i64 nx,.u64 bits]]:=by
 have hD:=G9 {d with now:=200} p [] .nilSlice .nilPtr .nilPtr .nilPtr sd rc su bo se fs nx bits mine theirs hb hb2 hb3 (show(0:Int)≤200 by decide) (show(200:Int)≤_ by decide) wt t l o u ht ht2 hl hu hx
 unfold PS.cs DS.cs at*
 rw[hn]
 dsimp only at*
 refine ap (by kernel_rfl) (fn:=Tryz.f28) Tryz.func28 rfl (by show 2≤38;decide) (ae ?_)
 simp only[go_sem,seval,Tryz.ntmps28]
 repeat refine aI ?_
 refine aY 2 ?_
 simp only[go_sem,seval]
 repeat refine aI ?_
 refine bC [0,1,2,3,4,5,6,7,8] (hD) (by kernel_rfl) (by simp) rfl (by simp) (by first|decide|simp) (by simp) (by simp) (by simp) (by simp) ?_
 simp only[go_sem,seval]
 repeat refine aI ?_
 exact Fin.ren [0,1,2,3,4,5,6,7,8] (by simp) (by simp) (by rfl) (by decide) (by simp) (by simp)
theorem B8 (d:DS){got:V}(hg:got= .nilSlice∨∃ n,got= .slice n 0 1 3)(T:List (Option Blk)):ag Tryz.prog 16 [.ptr 0 0] (bK (d.cs .nilSlice got)::T) .nilSlice (bK (d.cs .nilSlice got)::T):=by
 unfold DS.cs
 rcases hg with rfl|⟨n,rfl⟩
 ·refine ap (by kernel_rfl) (fn:=Tryz.f16) Tryz.func16 rfl (by show 1≤11;decide) (ae ?_)
  simp only[go_sem,seval,Tryz.ntmps16,Tryz.results16]
  repeat refine aI ?_
  exact Fin.id (s:=⟨_,_⟩) (Nat.le_refl _)
 ·refine ap (by kernel_rfl) (fn:=Tryz.f16) Tryz.func16 rfl (by show 1≤11;decide) (ae ?_)
  simp only[go_sem,seval,Tryz.ntmps16,Tryz.results16]
  repeat refine aI ?_
  exact Fin.id (s:=⟨_,_⟩) (Nat.le_refl _)
theorem Ox (d:DS)(n:Nat)(T:List (Option Blk)):ag Tryz.prog 16 [.ptr 0 0] (bK (d.cs (.slice n 0 1 3) .nilSlice)::T) (.slice n 0 1 3) (bK (d.cs .nilSlice .nilSlice)::T):=by
 unfold DS.cs
 refine ap (by kernel_rfl) (fn:=Tryz.f16) Tryz.func16 rfl (by show 1≤11;decide) (ae ?_)
 simp only[go_sem,seval,Tryz.ntmps16,Tryz.results16]
 repeat refine aI ?_
 exact Fin.id (s:=⟨_,_⟩) (Nat.le_refl _)
theorem B9 (d:DS)(T:List (Option Blk)):ag Tryz.prog 17 [.ptr 0 0] (bK (d.cs .nilSlice .nilSlice)::T) .nilSlice (bK (d.cs .nilSlice .nilSlice)::T):=by
 unfold DS.cs
 refine ap (by kernel_rfl) (fn:=Tryz.f17) Tryz.func17 rfl (by show 1≤11;decide) (ae ?_)
 simp only[go_sem,seval,Tryz.ntmps17,Tryz.results17]
 repeat refine aI ?_
 exact Fin.id (s:=⟨_,_⟩) (Nat.le_refl _)
theorem Oy (d:DS)(n:Nat)(T:List (Option Blk)):ag Tryz.prog 17 [.ptr 0 0] (bK (d.cs .nilSlice (.slice n 0 1 3))::T) (.slice n 0 1 3) (bK (d.cs .nilSlice .nilSlice)::T):=by
 unfold DS.cs
 refine ap (by kernel_rfl) (fn:=Tryz.f17) Tryz.func17 rfl (by show 1≤11;decide) (ae ?_)
 simp only[go_sem,seval,Tryz.ntmps17,Tryz.results17]
 repeat refine aI ?_
 exact Fin.id (s:=⟨_,_⟩) (Nat.le_refl _)
theorem Dv.head {c c':List V}{T:List (Option Blk)}(h:Dv (bK c::T))(hl:aa (T.length+1) c'):Dv (bK c'::T):=by
 refine⟨fun b B e=>?_,fun b B e=>?_,by simp⟩
 ·cases b with
  |zero=>
   have e':bK c'=some B:=e
   cases e';rfl
  |succ b=>exact h.rw_ (b+1) B e
 ·cases b with
  |zero=>
   have e':bK c'=some B:=e
   cases e';exact hl
  |succ b=>exact h.sane (b+1) B e
structure Dr (d1:List (Option Blk)) (g:Option G3) (k:Nat) (d2:List (Option Blk)):Prop where
 ex:∃ vo vg dm,Stp Tryz.prog 16 [.ptr 0 0] d1 vo dm∧(g=none∧vo= .nilSlice∨∃ b gr,g=some gr∧vo= .slice b 0 1 3∧ab dm b=bK (g9 (some gr)))∧
  Stp Tryz.prog 17 [.ptr 0 0] dm vg d2∧(k=0∧vg= .nilSlice∨∃ b cs,k=1∧vg= .slice b 0 1 3∧ab d2 b=bK cs∧cs.length=3∧l7 cs)
theorem DS.low (d:DS){out got:V}{n:Nat}(hn:4≤n)(ho:out.low n)(hg:got.low n):aa n (d.cs out got):=by
 unfold DS.cs
 simp only[aa,V.low]
 exact⟨trivial,trivial,trivial,trivial,trivial,trivial,trivial,trivial,trivial,trivial,trivial,by omega,by omega,by omega,ho,hg,trivial⟩
theorem CU (d:DS)(T:List (Option Blk))(hd:Dv (bK (d.cs .nilSlice .nilSlice)::T)):Dr (bK (d.cs .nilSlice .nilSlice)::T) none 0 (bK (d.cs .nilSlice .nilSlice)::T):=
 ⟨_,_,_,⟨B8 d (.inl rfl) T,hd,Nat.le_refl _,⟨Nat.succ_pos _,trivial⟩,trivial⟩,.inl ⟨rfl,rfl⟩,⟨B9 d T,hd,Nat.le_refl _,⟨Nat.succ_pos _,trivial⟩,trivial⟩,.inl ⟨rfl,rfl⟩⟩
theorem TF (d:DS)(n:Nat)(T:List (Option Blk))(gr:G3)(hT:3≤T.length)(hd:Dv (bK (d.cs (.slice (n+1) 0 1 3) .nilSlice)::T))(hg:ab T n=bK (g9 (some gr))):Dr (bK (d.cs (.slice (n+1) 0 1 3) .nilSlice)::T) (some gr) 0 (bK (d.cs .nilSlice .nilSlice)::T):=by
 have hn:=aM hg
 have hd2:=hd.head (d.low (out:= .nilSlice) (got:= .nilSlice) (by omega) trivial trivial)
 exact⟨_,_,_,⟨Ox d (n+1) T,hd2,Nat.le_refl _,⟨Nat.succ_pos _,trivial⟩,Nat.succ_lt_succ hn⟩,.inr ⟨n+1,gr,rfl,rfl,hg⟩,⟨B9 d T,hd2,Nat.le_refl _,⟨Nat.succ_pos _,trivial⟩,trivial⟩,.inl ⟨rfl,rfl⟩⟩
theorem TG (d:DS)(n:Nat)(T:List (Option Blk)){cs:List V}(hT:3≤T.length)(hd:Dv (bK (d.cs .nilSlice (.slice (n+1) 0 1 3))::T))(hg:ab T n=bK cs)(hl:cs.length=3)(ho:l7 cs):Dr (bK (d.cs .nilSlice (.slice (n+1) 0 1 3))::T) none 1 (bK (d.cs .nilSlice .nilSlice)::T):=by
 have hn:=aM hg
 have hd2:=hd.head (d.low (out:= .nilSlice) (got:= .nilSlice) (by omega) trivial trivial)
 exact⟨_,_,_,⟨B8 d (.inr ⟨_,rfl⟩) T,hd,Nat.le_refl _,⟨Nat.succ_pos _,trivial⟩,trivial⟩,.inl ⟨rfl,rfl⟩,⟨Oy d (n+1) T,hd2,Nat.le_refl _,⟨Nat.succ_pos _,trivial⟩,Nat.succ_lt_succ hn⟩,.inr ⟨n+1,cs,rfl,rfl,hg,hl,ho⟩⟩
structure DAct (f:FuncId) (args:List V) (d:List (Option Blk)) (e:Int) (g:Option G3) (k:Nat) (d':List (Option Blk)):Prop where
 ex:∃ d1 d2 ix,Stp Tryz.prog f (.ptr 0 0::args) d (.i64 e) d1∧Dr d1 g k d2∧Emb ix d' d2∧ah ix 0=0∧Dv d'
theorem wP {f:FuncId}{args args1:List V}{e:Int}{m m' d d1 d2 d':List (Option Blk)}{g:Option G3}{k:Nat}(hX:ag Tryz.prog f args m (.i64 e) m')(ix:List Nat)(hE:Emb ix m d)(hlow:aa m.length args)(hro:fh m')(hle:m.length≤m'.length)
  (ha:rens (ah ix) args= .ptr 0 0::args1) (hm:iz ix d m m'=d1) (h1:Dv d1) (hl:d.length≤d1.length) (hlow2:aa d.length (.ptr 0 0::args1)) (hdr:Dr d1 g k d2) (jx:List Nat) (hE2:Emb jx d' d2) (h0:ah jx 0=0) (hv:Dv d'):DAct f args1 d e g k d':=
 ⟨_,_,jx,⟨vA hX ix hE hlow hro hle ha rfl hm,h1,hl,hlow2,trivial⟩,hdr,hE2,h0,hv⟩
theorem vU (a:Int)(b:BitVec 32)(s:List ac):l7 [.i64 a,.u32 b,.str s]:=⟨by simp[V.one],fun _=>rfl,fun _=>by simp[aa,V.low]⟩
section
variable {K K0:Nat→Nat}{H H0:List (Option Blk)}{l na x0 x1 x k kk k0 k1 rn rd ra b:Nat}{va v v0 v1 vg:V}{g ga:Option G3}{sg sg0 sg1:List Nat}{d d1 d2 d0 d0' d1':List (Option Blk)}
def both (g ga:Option G3):Option G3:=match g with
 |none=>ga
 |some g=>some g
theorem Oz (hC:CurL K0 H0 K H)(hr:rn=3∧rd=8∧ra=6∨rn=4∧rd=9∧ra=7)(hL:LAt K H l na x0 x1 va ga)(hN:NAt K H rn rd ra x sg v d k)(hk1000:k≤1000)(hD:Dr d g kk d2)(hga:g=none∨ga=none)(i:Nat)(hi:i<2)(hx:([V.ptr x0 0,V.ptr x1 0]).getD i .junk= .ptr x 0)
  {t:List (Nat×V)} (h0:af t 0= .ptr l 0) (h16:af t 16= .slice na 0 2 1) (h18:af t 18= .i64 i) {R:Exit→St→Prop} {r0 r1 r2 r3 c3 r4 r5 r6 c6 r7 r8 r9 e9 r10 r11 r12 c13:Code} {x37:Operand} {b0 b1 b2 b3:Nat}
  (hc:Tryz.f9.body=some (.seq r0 (.seq r1 (.seq (.seq r2 (.block b0 (.loop (.seq r3 (.seq c3 (.seq (.block b1 (.seq r4 (.seq (.seq r5 (.block b2 (.loop (.seq r6 (.seq c6 (.seq (.block b3 (.seq r7 (.seq r8 (.cond x37 r9 e9)))) r10)))))) r11))) r12)))))) c13))))
  (hR:∀ (t':List (Nat×V)) (K':Nat→Nat) (H':List (Option Blk)) (sg':List Nat) (v' va':V),CurL K0 H0 K' H'→Kp (fun q=>q≠0∧q≠1∧q≠5∧q≠rn∧q≠rd∧q≠ra) K H K' H'→LAt K' H' l na x0 x1 va' (both g ga)→NAt K' H' rn rd ra x sg' v' d2 (k+kk)→af t' 0=af t 0→af t' 5=af t 5→af t' 16=af t 16→af t' 17=af t 17→af t' 18=af t 18→R .normal ⟨t',H'⟩):
  vc Tryz.prog H0.length Tryz.f9.ntmps (.block b1 (.seq r4 (.seq (.seq r5 (.block b2 (.loop (.seq r6 (.seq c6 (.seq (.block b3 (.seq r7 (.seq r8 (.cond x37 r9 e9)))) r10)))))) r11))) R ⟨t,H⟩:=by
 have hgn:=hL.ga
 have hgx:=hN.g
 have hi0:(0:Int)≤(i:Int):=by omega
 have hi1:(i:Int)<2:=by omega
 obtain⟨⟨n0,n1,n5,nd,nr⟩,⟨e0,e1,e2,e5,er⟩,⟨a0,a1,a2,a5⟩,n2⟩:(rn≠0∧rn≠1∧rn≠5∧rn≠rd∧rn≠ra)∧(rd≠0∧rd≠1∧rd≠2∧rd≠5∧rd≠ra)∧(ra≠0∧ra≠1∧ra≠2∧ra≠5)∧(2≠rn):=by
  rcases hr with⟨rfl,rfl,rfl⟩|⟨rfl,rfl,rfl⟩<;>decide
 obtain⟨vo,vg,dm,hO,hOv,hG,hGv⟩:=hD.ex
 have R9:=fun {K:Nat→Nat} {H:List (Option Blk)} {b:Nat} {va:V} (hC:CurL K0 H0 K H) (hL:LAt K H l na x0 x1 va none) {fr tg:BitVec 32} {tx:List ac} (hb:ab H b=bK [.u32 fr,.u32 tg,.str tx]) (hKb:K b=0) {t:List (Nat×V)} (h0:af t 0= .ptr l 0) (h9:af t 9= .ptr b 0) {R:Exit→St→Prop}=>U8 hC hL hb hKb h0 h9 hc (R:=R)
 have R11:=fun {K:Nat→Nat} {H:List (Option Blk)} {sg:List Nat} (hC:CurL K0 H0 K H) (hN:NAt K H rn rd ra x sg v dm k) {t:List (Nat×V)} (h7:af t 7= .ptr x 0) {R:Exit→St→Prop}=>S0 hC hN ⟨n0,nd⟩ ⟨e0,nd.symm,er⟩ ⟨a0,er.symm⟩ ⟨n0,nr⟩ hk1000 hG hGv h7 hc (R:=R)
 simp only[Tryz.f9,Option.some.injEq,Code.seq.injEq,Code.block.injEq,Code.loop.injEq,Code.cond.injEq] at hc
 obtain⟨-,-,⟨⟨-,-,-,-,⟨⟨rfl,rfl,⟨⟨rfl,rfl,rfl,rfl,⟨⟨rfl,rfl,rfl,rfl,q9,rfl⟩,rfl⟩⟩,q11⟩⟩,-⟩⟩,-⟩⟩:=hc
 clear q9 q11
 refine ae ?_
 simp only[go_sem,seval,h16,h18,hgn,hgx,hx,hi,hi0,hi1]
 repeat refine aI ?_
 have hC1:=hC.dev hN.e hN.ks e0 hO.dv hO.le
 have hk1:=hC.kpDev (d':=dm) hN.ks
 have hN1:=hN.dev hC hO.dv hO.le ⟨n0,nd⟩ ⟨a0,er.symm⟩
 have hL1:=hL.keep hk1 ⟨by decide,e1.symm⟩ ⟨by decide,e2.symm⟩ ⟨by decide,e5.symm⟩
 rcases hOv with⟨rfl,rfl⟩|⟨b,gr,rfl,rfl,hgb⟩
 ·refine my hN.e hO.spec hO.nxt (by kernel_rfl) rfl hO.low rfl ?_
  generalize memH sg H dm=H1 at*
  generalize d8 K H.length H1.length rd=K1 at*
  simp only[go_sem,seval]
  repeat refine aI ?_
  refine aY 1 ?_
  simp only[go_sem,seval]
  refine R11 hC1 hN1 (by simp only[go_sem,seval]) fun t' K' H' sg' v' hC' hk' hN' ht=>qh ?_
  have f0:=ht 0 (by decide)
  have f5:=ht 5 (by decide)
  have f16:=ht 16 (by decide)
  have f17:=ht 17 (by decide)
  have f18:=ht 18 (by decide)
  simp only[go_sem,seval] at f0 f5 f16 f17 f18
  exact hR t' K' H' sg' v' va hC' ((hk1.mono fun q h=>⟨h.1,h.2.2.2.2.1⟩).trans (hk'.mono fun q h=>⟨h.1,h.2.2.2.1,h.2.2.2.2.1,h.2.2.2.2.2⟩)) (hL1.keep hk' ⟨by decide,n1.symm,e1.symm,a1.symm⟩ ⟨by decide,n2,e2.symm,a2.symm⟩ ⟨by decide,n5.symm,e5.symm,a5.symm⟩) hN' f0 f5 f16 f17 f18
 ·obtain rfl:ga=none:=by
   rcases hga with e|e
   ·cases e
   ·exact e
  refine my (v':= .slice (ah (az sg H.length dm) b) 0 1 3) hN.e hO.spec hO.nxt (by kernel_rfl) rfl hO.low rfl ?_
  have hbl:=aM hgb
  obtain⟨fr,tg,tx⟩:=gr
  have hgg:ab (memH sg H dm) (ah (az sg H.length dm) b)=bK [.u32 fr,.u32 tg,.str tx]:=by
   rw[qe hN.e.nd hN.e.lt hbl,hgb]
   rfl
  generalize ah (az sg H.length dm) b=gb at*
  generalize memH sg H dm=H1 at*
  generalize d8 K H.length H1.length rd=K1 at*
  simp only[go_sem,seval]
  repeat refine aI ?_
  refine aY 2 ?_
  have hbox:=hC1.boxed (zs:=[.u32 0#32,.u32 0#32,.str []]) (ys:=[.u32 fr,.u32 tg,.str tx]) (by simp[aa,V.low]) (by simp[aa,V.low])
  have hkb:=hC1.kpBox (x:=bK [.u32 0#32,.u32 0#32,.str []]) (y:=bK [.u32 fr,.u32 tg,.str tx])
  have hL2:=hL1.keep hkb (by decide) (by decide) (by decide)
  have hN2:=hN1.keep hkb n0 e0 a0
  have hb3:=rA (H:=H1) (x:=bK [.u32 0#32,.u32 0#32,.str []]) (y:=bK [.u32 fr,.u32 tg,.str tx])
  have hKb:K1 H1.length=0:=hC1.fresh _ (Nat.le_refl _)
  have hz:H1.length<(H1++[bK [.u32 0#32,.u32 0#32,.str []]]).length:=by simp
  have hgl2:=hL2.gl
  have hlen:∀ (n:Nat) (c:Prop),(va= .nilSlice→n=0)→True:=fun _ _ _=>trivial
  rcases hL2.air with⟨rfl,-⟩|⟨a,rfl,-,-⟩
  all_goals
   simp only[go_sem,seval,h0,hgg,hgl2,gk]
   repeat refine aI ?_
   refine R9 hbox hL2 hb3 hKb (by simp only[go_sem,seval,h0]) (by simp only[go_sem,seval]) fun t' K' H' va' hC' hk' hL' ht=>qh ?_
   have g0:=ht 0 (by decide)
   have g5:=ht 5 (by decide)
   have g7:=ht 7 (by decide)
   have g16:=ht 16 (by decide)
   have g17:=ht 17 (by decide)
   have g18:=ht 18 (by decide)
   have g26:=ht 26 (by decide)
   have g27:=ht 27 (by decide)
   have g28:=ht 28 (by decide)
   simp only[go_sem,seval] at g0 g5 g7 g16 g17 g18 g26 g27 g28
   simp only[go_sem,seval,g27,g28]
   have hN3:=hN2.keep hk' ⟨n0,n1,n5⟩ ⟨e0,e1,e5⟩ ⟨a0,a1,a5⟩
   refine R11 hC' hN3 (by simp only[go_sem,seval,g7]) fun t2 K2 H2 sg2 v2 hC2 hk2 hN4 ht2=>qh ?_
   have f0:=ht2 0 (by decide)
   have f5:=ht2 5 (by decide)
   have f16:=ht2 16 (by decide)
   have f17:=ht2 17 (by decide)
   have f18:=ht2 18 (by decide)
   simp only[go_sem,seval] at f0 f5 f16 f17 f18
   exact hR t2 K2 H2 sg2 v2 va' hC2 ((((hk1.mono fun q h=>⟨h.1,h.2.2.2.2.1⟩).trans (hkb.mono fun q h=>h.1)).trans (hk'.mono fun q h=>⟨h.1,h.2.1,h.2.2.1⟩)).trans (hk2.mono fun q h=>⟨h.1,h.2.2.2.1,h.2.2.2.2.1,h.2.2.2.2.2⟩)) (hL'.keep hk2 ⟨by decide,n1.symm,e1.symm,a1.symm⟩ ⟨by decide,n2,e2.symm,a2.symm⟩ ⟨by decide,n5.symm,e5.symm,a5.symm⟩) hN4 (f0.trans g0) (f5.trans g5) (f16.trans g16) (f17.trans g17) (f18.trans g18)
end
section
variable {K K0:Nat→Nat}{H H0:List (Option Blk)}{l na x0 x1 x k kk k0 k1 kk0 kk1 rn rd ra b:Nat}{va v v0 v1 vg:V}{g g0 g1 ga:Option G3}{sg sg0 sg1:List Nat}{d d1 d2 d0 d0' d1':List (Option Blk)}{e:Int}
def ActP (e:Int)(l na x0 x1:Nat)(d0 d1:List (Option Blk))(g:Option G3)(k0 k1:Nat)(v:V)(K:Nat→Nat)(H:List (Option Blk)):Prop:=
 v= .i64 e∧(∃ va,LAt K H l na x0 x1 va g)∧(∃ sg v0,NAt K H 3 8 6 x0 sg v0 d0 k0)∧∃ sg v1,NAt K H 4 9 7 x1 sg v1 d1 k1
theorem KW {B0:Code}(hC:CurL K0 H0 K H)(hr:rn=3∧rd=8∧ra=6∨rn=4∧rd=9∧ra=7)(hL:LAt K H l na x0 x1 va ga)(hN:NAt K H rn rd ra x sg v d k)(hk1000:k≤1000)(hD:Dr d g kk d2)(hga:g=none∨ga=none)(i:Nat)(hi:i<2)(hx:([V.ptr x0 0,V.ptr x1 0]).getD i .junk= .ptr x 0)
  {t:List (Nat×V)} (h0:af t 0= .ptr l 0) (h16:af t 16= .slice na 0 2 1) (h18:af t 18= .i64 i) {R:Exit→St→Prop} {r0 r1 r2 r3 c3 r4 r5 r6 c6 r7 r8 r9 e9 r10 r11 r12 c13:Code} {x37:Operand} {b0 b1 b2 b3:Nat}
  (hc:Tryz.f9.body=some (.seq r0 (.seq r1 (.seq (.seq r2 (.block b0 (.loop (.seq r3 (.seq c3 (.seq (.block b1 (.seq r4 (.seq (.seq r5 (.block b2 (.loop (.seq r6 (.seq c6 (.seq (.block b3 (.seq r7 (.seq r8 (.cond x37 r9 e9)))) r10)))))) r11))) r12)))))) c13))))
  (hB:B0=(.block b1 (.seq r4 (.seq (.seq r5 (.block b2 (.loop (.seq r6 (.seq c6 (.seq (.block b3 (.seq r7 (.seq r8 (.cond x37 r9 e9)))) r10)))))) r11))))
  (hR:∀ (t':List (Nat×V)) (K':Nat→Nat) (H':List (Option Blk)) (sg':List Nat) (v' va':V),CurL K0 H0 K' H'→Kp (fun q=>q≠0∧q≠1∧q≠5∧q≠rn∧q≠rd∧q≠ra) K H K' H'→LAt K' H' l na x0 x1 va' (both g ga)→NAt K' H' rn rd ra x sg' v' d2 (k+kk)→af t' 0=af t 0→af t' 5=af t 5→af t' 16=af t 16→af t' 17=af t 17→af t' 18=af t 18→R .normal ⟨t',H'⟩):
  vc Tryz.prog H0.length Tryz.f9.ntmps B0 R ⟨t,H⟩:=by
 subst hB
 exact Oz hC hr hL hN hk1000 hD hga i hi hx h0 h16 h18 hc hR
theorem TH (hC:CurL K0 H0 K H)(hl:K l=1)(kind A B C:Int)(src dst:BitVec 32)(txt:List ac)
  (hA:∀ H',CurL K H K H'→Kp (· ≠0) K H K H'→∃ v K2 H2,DoneL Tryz.prog 15 [.ptr l 0,.agg [.i64 kind,.i64 A,.i64 B,.i64 C,.u32 src,.u32 dst,.str txt]] K H' v K2 H2∧ActP e l na x0 x1 d0 d1 ga k0 k1 v K2 H2)
  (hD0:Dr d0 g0 kk0 d0') (hD1:Dr d1 g1 kk1 d1') (hga:g0=none∨ga=none) (hgb:g1=none∨both g0 ga=none) (h0k:k0≤1000) (h1k:k1≤1000)
  {r0 r1 r2 r3 c3 r4 r5 r6 c6 r7 r8 r9 e9 r10 r11 r12 c13:Code} {x37:Operand} {b0 b1 b2 b3:Nat}
  (hc:Tryz.f9.body=some (.seq r0 (.seq r1 (.seq (.seq r2 (.block b0 (.loop (.seq r3 (.seq c3 (.seq (.block b1 (.seq r4 (.seq (.seq r5 (.block b2 (.loop (.seq r6 (.seq c6 (.seq (.block b3 (.seq r7 (.seq r8 (.cond x37 r9 e9)))) r10)))))) r11))) r12)))))) c13))))
  {B0:Code} (hB:B0=(.block b1 (.seq r4 (.seq (.seq r5 (.block b2 (.loop (.seq r6 (.seq c6 (.seq (.block b3 (.seq r7 (.seq r8 (.cond x37 r9 e9)))) r10)))))) r11)))):
  vc Tryz.prog H.length Tryz.f9.ntmps (.seq r0 (.seq r1 (.seq (.seq r2 (.block b0 (.loop (.seq r3 (.seq c3 (.seq B0 r12)))))) c13))) (fQ Tryz.prog Tryz.f9 (EndL K H (ActP e l na x0 x1 d0' d1' (both g1 (both g0 ga)) (k0+kk0) (k1+kk1)))) ⟨fg [.ptr l 0,.agg [.i64 kind,.i64 A,.i64 B,.i64 C,.u32 src,.u32 dst,.str txt]] 0,H⟩:=by
 have hJ:=hC.start.junk (vs:=[.i64 kind,.i64 A,.i64 B,.i64 C,.u32 src,.u32 dst,.str txt]) (by simp[aa,V.low])
 have hk:=hC.kpJunk (X:=[bK [.i64 kind,.i64 A,.i64 B,.i64 C,.u32 src,.u32 dst,.str txt]])
 have hll:=hC.lt (b:=l) (by rw[hl];decide)
 have Rd:=fun {K1:Nat→Nat} {H1:List (Option Blk)} {rn rd ra x k kk:Nat} {sg:List Nat} {va v:V} {d d2:List (Option Blk)} {g ga:Option G3} (hC:CurL K H K1 H1) (hr:rn=3∧rd=8∧ra=6∨rn=4∧rd=9∧ra=7) (hL:LAt K1 H1 l na x0 x1 va ga) (hN:NAt K1 H1 rn rd ra x sg v d k) (hk1000:k≤1000) (hD:Dr d g kk d2) (hga:g=none∨ga=none) (i:Nat) (hi:i<2) (hx:([V.ptr x0 0,V.ptr x1 0]).getD i .junk= .ptr x 0)
  {t:List (Nat×V)} (h0:af t 0= .ptr l 0) (h16:af t 16= .slice na 0 2 1) (h18:af t 18= .i64 i) {R:Exit→St→Prop}=>KW hC hr hL hN hk1000 hD hga i hi hx h0 h16 h18 hc hB (R:=R)
 clear hB
 simp only[Tryz.f9,Option.some.injEq,Code.seq.injEq,Code.block.injEq,Code.loop.injEq,Code.cond.injEq] at hc
 obtain⟨rfl,rfl,⟨⟨rfl,rfl,rfl,rfl,⟨-,rfl⟩⟩,rfl⟩⟩:=hc
 refine ae ?_
 simp only[go_sem,seval,cP]
 repeat refine aI ?_
 refine bx (hA _ hJ hk) (by kernel_rfl) rfl (by simp[aa,V.low,(show l<H.length+1 by omega)]) hJ.sane ?_
 rintro _ K1 H1 hC1 hl1 ⟨rfl,⟨va,hL⟩,⟨sg0,v0,hN0⟩,⟨sg1,v1,hN1⟩⟩
 have hCa:=hJ.trans hC1
 have hgl:=hL.gl
 simp only[go_sem,seval,hgl]
 repeat refine aI ?_
 refine aY 3 ?_
 simp only[go_sem,seval]
 refine Rd hCa (.inl ⟨rfl,rfl,rfl⟩) hL hN0 h0k hD0 hga 0 (by decide) rfl (by simp only[go_sem,seval]) (by simp only[go_sem,seval]) (by simp only[go_sem,seval]) fun t' K' H' sg' v' va' hC' hk' hL' hN' f0 f5 f16 f17 f18=>qh ?_
 simp only[go_sem,seval] at f0 f5 f16 f17 f18
 simp only[go_sem,seval,f17,f18]
 have hM1:=hN1.keep hk' (by decide) (by decide) (by decide)
 refine Rd hC' (.inr ⟨rfl,rfl,rfl⟩) hL' hM1 h1k hD1 hgb 1 (by decide) rfl (by simp only[go_sem,seval,f0]) (by simp only[go_sem,seval,f16]) (by simp only[go_sem,seval]) fun t2 K2 H2 sg2 v2 va2 hC2 hk2 hL2 hN2 e0 e5 e16 e17 e18=>qh ?_
 simp only[go_sem,seval,f0,f5,f16,f17] at e0 e5 e16 e17 e18
 simp only[go_sem,seval,e5,e17,e18]
 exact EndL.of hC2 trivial ⟨rfl,⟨_,hL2⟩,⟨_,_,hN'.keep hk2 (by decide) (by decide) (by decide)⟩,_,_,hN2⟩
end
section
variable {K K0:Nat→Nat}{H H0 H':List (Option Blk)}{K':Nat→Nat}{l na x0 x1 x k kk k0 k1 kk0 kk1 kX kY rn rd ra b:Nat}{va v v0 v1 vg:V}{g g0 g1 ga:Option G3}{sg sg0 sg1:List Nat}{d d1 d2 d0 d0' d1' dX dY dX' dY':List (Option Blk)}{e i:Int}
theorem mO (g:Option G3):both g none=g:=by cases g<;>rfl
theorem mJ (g:Option G3):both none g=g:=rfl
theorem ng (hC:CurL K0 H0 K H)(hl:K l=1)(kind A B C:Int)(src dst:BitVec 32)(txt:List ac)
  (hA:∀ H',CurL K H K H'→Kp (· ≠0) K H K H'→∃ v K2 H2,DoneL Tryz.prog 15 [.ptr l 0,.agg [.i64 kind,.i64 A,.i64 B,.i64 C,.u32 src,.u32 dst,.str txt]] K H' v K2 H2∧ActP e l na x0 x1 d0 d1 ga k0 k1 v K2 H2)
  (hD0:Dr d0 g0 kk0 d0') (hD1:Dr d1 g1 kk1 d1') (hga:g0=none∨ga=none) (hgb:g1=none∨both g0 ga=none) (h0k:k0≤1000) (h1k:k1≤1000):
  ∃ v K' H',DoneL Tryz.prog 9 [.ptr l 0,.agg [.i64 kind,.i64 A,.i64 B,.i64 C,.u32 src,.u32 dst,.str txt]] K H v K' H'∧ActP e l na x0 x1 d0' d1' (both g1 (both g0 ga)) (k0+kk0) (k1+kk1) v K' H':=
 dg (Post:=ActP e l na x0 x1 d0' d1' (both g1 (both g0 ga)) (k0+kk0) (k1+kk1)) (by kernel_rfl) (fn:=Tryz.f9) Tryz.func9 rfl (by show 2≤64;decide) (TH hC hl kind A B C src dst txt hA hD0 hD1 hga hgb h0k h1k rfl rfl)
def LX (i:Int)(K:Nat→Nat)(H:List (Option Blk))(l:Nat)(dX dY:List (Option Blk))(g:Option G3)(kX kY:Nat):Prop:=(i=0∧LS K H l dX dY g kX kY)∨(i=1∧LS K H l dY dX g kY kX)
theorem LX.swap (h:LX i K H l dX dY g kX kY):LX (1-i) K H l dY dX g kY kX:=by
 rcases h with⟨rfl,h⟩|⟨rfl,h⟩
 ·exact .inr ⟨rfl,h⟩
 ·exact .inl ⟨rfl,h⟩
theorem LX.back (h:LX (1-i) K H l dY dX g kY kX):LX i K H l dX dY g kX kY:=by
 rcases h with⟨e,h⟩|⟨e,h⟩
 ·exact .inr ⟨by omega,h⟩
 ·exact .inl ⟨by omega,h⟩
theorem LX.kl (h:LX i K H l dX dY g kX kY):K l=1:=by
 rcases h with⟨rfl,⟨_,_,_,_,_,_,_,_,h,-⟩⟩|⟨rfl,⟨_,_,_,_,_,_,_,_,h,-⟩⟩<;>exact h.kl
def ua (e i:Int)(l:Nat)(dX dY:List (Option Blk))(g:Option G3)(kX kY:Nat)(v:V)(K:Nat→Nat)(H:List (Option Blk)):Prop:=v= .i64 e∧LX i K H l dX dY g kX kY
theorem ActP.ls (h:ActP e l na x0 x1 d0 d1 g k0 k1 v K H){ix jx:List Nat}(hE:Emb ix d0' d0)(h0:ah ix 0=0)(hd0:Dv d0')(hF:Emb jx d1' d1)(h1:ah jx 0=0)(hd1:Dv d1'):LS K H l d0' d1' g k0 k1:=by
 obtain⟨-,⟨va,hL⟩,⟨sg0,v0,hN0⟩,sg1,v1,hN1⟩:=h
 exact⟨na,x0,x1,va,_,_,v0,v1,hL,hN0.canon hE h0 hd0,hN1.canon hF h1 hd1⟩
theorem LS.dv (h:LS K H l d0 d1 g k0 k1):Dv d0∧Dv d1:=by
 obtain⟨na,x0,x1,va,sg0,sg1,v0,v1,hL,h0,h1⟩:=h.ex
 exact⟨h0.dv,h1.dv⟩
theorem Emb.self (h:Dv d):Emb (List.range d.length) d d:=
 ⟨by simp,uG _,fun b hb=>by simpa using hb,fun b B e=>by
  have hb:=aM e
  rw[mw hb,ko (fun c hc=>mw hc) _ (h.sane b B e)]
  exact⟨e,h.sane b B e⟩⟩
theorem nN (h:Dv d):ah (List.range d.length) 0=0:=mw h.pos
theorem QZ (hC:CurL K0 H0 K H)(hS:LX i K H l dX dY none kX kY)(src dst:BitVec 32)(txt:List ac)(hX:DAct 26 [.u32 src,.u32 dst,.str txt] dX e g kk dX')(hI:Dr dY none 0 dY)(hkX:kX≤1000)(hkY:kY≤1000):
  ∃ v K' H',DoneL Tryz.prog 9 [.ptr l 0,.agg [.i64 1,.i64 i,.i64 0,.i64 0,.u32 src,.u32 dst,.str txt]] K H v K' H'∧ua e i l dX' dY g (kX+kk) kY v K' H':=by
 obtain⟨dm,d2,ix,hSt,hDr,hE,h0,hd⟩:=hX.ex
 rcases hS with⟨rfl,hS⟩|⟨rfl,hS⟩
 ·obtain⟨na,x0,x1,va,sg0,sg1,v0,v1,hL,hN0,hN1⟩:=hS.ex
  obtain⟨v,K',H',q1,q2⟩:=ng (na:=na) (x0:=x0) (x1:=x1) (ga:=none) (k0:=kX) (k1:=kY) hC hL.kl 1 0 0 0 src dst txt (fun H' hC' hk=>by
   obtain⟨v,K2,H2,p1,rfl,p3,sg',p4⟩:=Bv hC' (hL.keep hk (by decide) (by decide) (by decide)) (hN0.keep hk (by decide) (by decide) (by decide)) (by decide) (by decide) (by decide) (.inl ⟨rfl,rfl⟩) 0 0 src dst txt hSt
   exact⟨_,K2,H2,p1,rfl,⟨va,(hL.keep hk (by decide) (by decide) (by decide)).keep p3 (by decide) (by decide) (by decide)⟩,⟨sg',v0,p4⟩,sg1,v1,(hN1.keep hk (by decide) (by decide) (by decide)).keep p3 (by decide) (by decide) (by decide)⟩) hDr hI (.inr rfl) (.inl rfl) hkX hkY
  have q3:=q2.ls hE h0 hd (Emb.self hS.dv.2) (nN hS.dv.2) hS.dv.2
  exact⟨v,K',H',q1,q2.1,.inl ⟨rfl,by simpa only[mO,mJ,Nat.add_zero] using q3⟩⟩
 ·obtain⟨na,x0,x1,va,sg0,sg1,v0,v1,hL,hN0,hN1⟩:=hS.ex
  obtain⟨v,K',H',q1,q2⟩:=ng (na:=na) (x0:=x0) (x1:=x1) (ga:=none) (k0:=kY) (k1:=kX) hC hL.kl 1 1 0 0 src dst txt (fun H' hC' hk=>by
   obtain⟨v,K2,H2,p1,rfl,p3,sg',p4⟩:=Bv hC' (hL.keep hk (by decide) (by decide) (by decide)) (hN1.keep hk (by decide) (by decide) (by decide)) (by decide) (by decide) (by decide) (.inr ⟨rfl,rfl⟩) 0 0 src dst txt hSt
   exact⟨_,K2,H2,p1,rfl,⟨va,(hL.keep hk (by decide) (by decide) (by decide)).keep p3 (by decide) (by decide) (by decide)⟩,⟨sg0,v0,(hN0.keep hk (by decide) (by decide) (by decide)).keep p3 (by decide) (by decide) (by decide)⟩,sg',v1,p4⟩) hI hDr (.inl rfl) (.inr rfl) hkY hkX
  have q3:=q2.ls (Emb.self hS.dv.1) (nN hS.dv.1) hS.dv.1 hE h0 hd
  exact⟨v,K',H',q1,q2.1,.inr ⟨rfl,by simpa only[mO,mJ,Nat.add_zero] using q3⟩⟩
theorem Di (hC:CurL K0 H0 K H){fr tg:BitVec 32}{tx:List ac}(hS:LX i K H l dX dY (some (fr,tg,tx)) kX kY)(htg:i=0∧tg=1#32∨i=1∧tg=2#32)(hX:DAct 48 [.u32 fr,.str tx] dX e g kk dX')(hI:Dr dY none 0 dY)(hkX:kX≤1000)(hkY:kY≤1000):
  ∃ v K' H',DoneL Tryz.prog 9 [.ptr l 0,.agg [.i64 3,.i64 0,.i64 0,.i64 0,.u32 0#32,.u32 0#32,.str []]] K H v K' H'∧ua e i l dX' dY g (kX+kk) kY v K' H':=by
 obtain⟨dm,d2,ix,hSt,hDr,hE,h0,hd⟩:=hX.ex
 rcases hS with⟨rfl,hS⟩|⟨rfl,hS⟩
 ·obtain rfl:tg=1#32:=by
   rcases htg with⟨-,h⟩|⟨h,-⟩
   ·exact h
   ·cases h
  obtain⟨na,x0,x1,va,sg0,sg1,v0,v1,hL,hN0,hN1⟩:=hS.ex
  obtain⟨v,K',H',q1,q2⟩:=ng (na:=na) (x0:=x0) (x1:=x1) (ga:=none) (k0:=kX) (k1:=kY) hC hL.kl 3 0 0 0 0#32 0#32 [] (fun H' hC' hk=>by
   have hN0':=hN0.keep hk (by decide) (by decide) (by decide)
   obtain⟨v,K2,H2,p1,rfl,p3,p5,sg',p4⟩:=Co hC' (hL.keep hk (by decide) (by decide) (by decide)) (hC'.lt (by rw[hN0'.kx];decide)) hN0' (by decide) (by decide) (by decide) (by decide) (by decide) (by decide) (.inl ⟨rfl,rfl⟩) hSt
   exact⟨_,K2,H2,p1,rfl,p5,⟨sg',v0,p4⟩,sg1,v1,(hN1.keep hk (by decide) (by decide) (by decide)).keep p3 (by decide) (by decide) (by decide)⟩) hDr hI (.inr rfl) (.inl rfl) hkX hkY
  have q3:=q2.ls hE h0 hd (Emb.self hS.dv.2) (nN hS.dv.2) hS.dv.2
  exact⟨v,K',H',q1,q2.1,.inl ⟨rfl,by simpa only[mO,mJ,Nat.add_zero] using q3⟩⟩
 ·obtain rfl:tg=2#32:=by
   rcases htg with⟨h,-⟩|⟨-,h⟩
   ·cases h
   ·exact h
  obtain⟨na,x0,x1,va,sg0,sg1,v0,v1,hL,hN0,hN1⟩:=hS.ex
  obtain⟨v,K',H',q1,q2⟩:=ng (na:=na) (x0:=x0) (x1:=x1) (ga:=none) (k0:=kY) (k1:=kX) hC hL.kl 3 0 0 0 0#32 0#32 [] (fun H' hC' hk=>by
   have hN0':=hN0.keep hk (by decide) (by decide) (by decide)
   have hN1':=hN1.keep hk (by decide) (by decide) (by decide)
   obtain⟨v,K2,H2,p1,rfl,p3,p5,sg',p4⟩:=Co hC' (hL.keep hk (by decide) (by decide) (by decide)) (hC'.lt (by rw[hN0'.kx];decide)) hN1' (by decide) (by decide) (by decide) (by decide) (by decide) (by decide) (.inr ⟨rfl,rfl⟩) hSt
   exact⟨_,K2,H2,p1,rfl,p5,⟨sg0,v0,hN0'.keep p3 (by decide) (by decide) (by decide)⟩,sg',v1,p4⟩) hI hDr (.inl rfl) (.inr rfl) hkY hkX
  have q3:=q2.ls (Emb.self hS.dv.1) (nN hS.dv.1) hS.dv.1 hE h0 hd
  exact⟨v,K',H',q1,q2.1,.inr ⟨rfl,by simpa only[mO,mJ,Nat.add_zero] using q3⟩⟩
theorem Q0 (hC:CurL K0 H0 K H)(hS:LX i K H l dX dY none kX kY)(hX:DAct 28 [.i64 200] dX 0 none 0 dX')(hY:DAct 28 [.i64 200] dY 0 none 0 dY')(hkX:kX≤1000)(hkY:kY≤1000):
  ∃ v K' H',DoneL Tryz.prog 9 [.ptr l 0,.agg [.i64 2,.i64 200,.i64 0,.i64 0,.u32 0#32,.u32 0#32,.str []]] K H v K' H'∧ua 0 i l dX' dY' none kX kY v K' H':=by
 obtain⟨dm,d2,ix,hSt,hDr,hE,h0,hd⟩:=hX.ex
 obtain⟨dn,d3,jx,hSu,hDs,hF,h1,hd1⟩:=hY.ex
 rcases hS with⟨rfl,hS⟩|⟨rfl,hS⟩
 ·obtain⟨na,x0,x1,va,sg0,sg1,v0,v1,hL,hN0,hN1⟩:=hS.ex
  obtain⟨v,K',H',q1,q2⟩:=ng (na:=na) (x0:=x0) (x1:=x1) (ga:=none) (k0:=kX) (k1:=kY) hC hL.kl 2 200 0 0 0#32 0#32 [] (fun H' hC' hk=>by
   obtain⟨v,K2,H2,p1,rfl,p3,p4,p5⟩:=Bw hC' (hL.keep hk (by decide) (by decide) (by decide)) (hN0.keep hk (by decide) (by decide) (by decide)) (hN1.keep hk (by decide) (by decide) (by decide)) hSt hSu
   obtain⟨sg',p4⟩:=p4
   obtain⟨sg2,p5⟩:=p5
   exact⟨_,K2,H2,p1,rfl,⟨va,p3⟩,⟨sg',v0,p4⟩,sg2,v1,p5⟩) hDr hDs (.inr rfl) (.inr rfl) hkX hkY
  have q3:=q2.ls hE h0 hd hF h1 hd1
  exact⟨v,K',H',q1,q2.1,.inl ⟨rfl,by simpa only[mO,mJ,Nat.add_zero] using q3⟩⟩
 ·obtain⟨na,x0,x1,va,sg0,sg1,v0,v1,hL,hN0,hN1⟩:=hS.ex
  obtain⟨v,K',H',q1,q2⟩:=ng (na:=na) (x0:=x0) (x1:=x1) (ga:=none) (k0:=kY) (k1:=kX) hC hL.kl 2 200 0 0 0#32 0#32 [] (fun H' hC' hk=>by
   obtain⟨v,K2,H2,p1,rfl,p3,p4,p5⟩:=Bw hC' (hL.keep hk (by decide) (by decide) (by decide)) (hN0.keep hk (by decide) (by decide) (by decide)) (hN1.keep hk (by decide) (by decide) (by decide)) hSu hSt
   obtain⟨sg',p4⟩:=p4
   obtain⟨sg2,p5⟩:=p5
   exact⟨_,K2,H2,p1,rfl,⟨va,p3⟩,⟨sg',v0,p4⟩,sg2,v1,p5⟩) hDs hDr (.inr rfl) (.inr rfl) hkY hkX
  have q3:=q2.ls hF h1 hd1 hE h0 hd
  exact⟨v,K',H',q1,q2.1,.inr ⟨rfl,by simpa only[mO,mJ,Nat.add_zero] using q3⟩⟩
theorem Q1 (hC:CurL K0 H0 K H)(hS:LX i K H l dX dY none kX kY)(hX:Dr dX none 0 dX)(hY:Dr dY none 0 dY)(hkX:kX≤1000)(hkY:kY≤1000):
  ∃ v K' H',DoneL Tryz.prog 9 [.ptr l 0,.agg [.i64 0,.i64 0,.i64 0,.i64 0,.u32 0#32,.u32 0#32,.str []]] K H v K' H'∧ua 1 i l dX dY none kX kY v K' H':=by
 have key:∀ {d0 d1:List (Option Blk)} {k0 k1:Nat},LS K H l d0 d1 none k0 k1→Dr d0 none 0 d0→Dr d1 none 0 d1→k0≤1000→k1≤1000→∃ v K' H',DoneL Tryz.prog 9 [.ptr l 0,.agg [.i64 0,.i64 0,.i64 0,.i64 0,.u32 0#32,.u32 0#32,.str []]] K H v K' H'∧v= .i64 1∧LS K' H' l d0 d1 none k0 k1:=fun {d0 d1 k0 k1} hS h0 h1 hk0 hk1=>by
  obtain⟨na,x0,x1,va,sg0,sg1,v0,v1,hL,hN0,hN1⟩:=hS.ex
  obtain⟨v,K',H',q1,q2⟩:=ng (na:=na) (x0:=x0) (x1:=x1) (ga:=none) (k0:=k0) (k1:=k1) hC hL.kl 0 0 0 0 0#32 0#32 [] (fun H' hC' hk=>by
   have hN0':=hN0.keep hk (by decide) (by decide) (by decide)
   obtain⟨v,K2,H2,p1,rfl,p3⟩:=Nj hC' (hL.keep hk (by decide) (by decide) (by decide)) (hC'.lt (by rw[hN0'.kx];decide))
   exact⟨_,K2,H2,p1,rfl,⟨va,(hL.keep hk (by decide) (by decide) (by decide)).keep p3 (by decide) (by decide) (by decide)⟩,⟨sg0,v0,hN0'.keep p3 (by decide) (by decide) (by decide)⟩,sg1,v1,(hN1.keep hk (by decide) (by decide) (by decide)).keep p3 (by decide) (by decide) (by decide)⟩) h0 h1 (.inl rfl) (.inl rfl) hk0 hk1
  have q3:=q2.ls (Emb.self hS.dv.1) (nN hS.dv.1) hS.dv.1 (Emb.self hS.dv.2) (nN hS.dv.2) hS.dv.2
  exact⟨v,K',H',q1,q2.1,by simpa only[mO,mJ,Nat.add_zero] using q3⟩
 rcases hS with⟨rfl,hS⟩|⟨rfl,hS⟩
 ·obtain⟨v,K',H',q1,q2,q3⟩:=key hS hX hY hkX hkY
  exact⟨v,K',H',q1,q2,.inl ⟨rfl,q3⟩⟩
 ·obtain⟨v,K',H',q1,q2,q3⟩:=key hS hY hX hkY hkX
  exact⟨v,K',H',q1,q2,.inr ⟨rfl,q3⟩⟩
end
section
variable {K K0:Nat→Nat}{H H0 H':List (Option Blk)}{K':Nat→Nat}{l na x0 x1 x k kk k0 k1 kX kY rn rd ra b:Nat}{va v v0 v1 vg:V}{g g0 g1 ga:Option G3}{sg sg0 sg1:List Nat}{d d1 d2 d0 d0' d1' dX dY dX' dY':List (Option Blk)}{e i:Int}
theorem Q3:ag Tryz.prog 30 [.nilSlice] [] .nilSlice []:=by
 refine ap (by kernel_rfl) (fn:=Tryz.f30) Tryz.func30 rfl (by show 1≤8;decide) (ae ?_)
 simp only[go_sem,seval,Tryz.ntmps30,Tryz.results30]
 exact Fin.ren [] (by simp) (by simp) (by rfl) (by decide) (by simp) (by simp)
theorem Q4:ag Tryz.prog 21 [.nilSlice] [] .nilSlice []:=by
 refine ap (by kernel_rfl) (fn:=Tryz.f21) Tryz.func21 rfl (by show 1≤8;decide) (ae ?_)
 simp only[go_sem,seval,Tryz.ntmps21,Tryz.results21]
 exact Fin.ren [] (by simp) (by simp) (by rfl) (by decide) (by simp) (by simp)
theorem KX:ag Tryz.prog 30 [.slice 0 0 0 3] [bK []] (.slice 1 0 0 3) [bK [],bK []]:=by
 refine ap (by kernel_rfl) (fn:=Tryz.f30) Tryz.func30 rfl (by show 1≤8;decide) (ae ?_)
 simp only[go_sem,seval,Tryz.ntmps30,Tryz.results30]
 refine Fin.id (s:=⟨_,[bK [],bK []]⟩) ?_
 show 1≤2
 decide
theorem Q5 (fr tg:BitVec 32)(tx:List ac):ag Tryz.prog 30 [.slice 0 0 1 3] [bK [.u32 fr,.u32 tg,.str tx]] (.slice 1 0 1 3) [bK [.u32 fr,.u32 tg,.str tx],bK [.u32 fr,.u32 tg,.str tx]]:=by
 refine ap (by kernel_rfl) (fn:=Tryz.f30) Tryz.func30 rfl (by show 1≤8;decide) (ae ?_)
 simp only[go_sem,seval,Tryz.ntmps30,Tryz.results30]
 repeat refine aI ?_
 exact Fin.ren [0,2] (by simp) (by simp) (by rfl) (by decide) (by simp) (by simp)
theorem OA (n:Nat)(hn:0<n)(hn2:n≤1000)(ds:List V)(hl:ds.length=n*3)(ho:l7 ds):ag Tryz.prog 21 [.slice 0 0 n 3] [bK ds] (.slice 1 0 n 3) [bK ds,bK ds]:=by
 obtain⟨o1,o2,o3⟩:=ho
 refine ap (by kernel_rfl) (fn:=Tryz.f21) Tryz.func21 rfl (by show 1≤8;decide) (ae ?_)
 simp only[go_sem,seval,Tryz.ntmps21,Tryz.results21]
 repeat refine aI ?_
 simp only[go_sem,seval,show(n=0)=False from eq_false (by omega),List.take_of_length_le (show ds.length≤n*3 by omega),Nat.min_eq_left (show n*3≤ds.length by omega)]
 refine⟨⟨by omega,by omega,by omega,o1⟩,?_⟩
 exact Fin.ren [0,2] (by simp) (by simp) (by rfl) (by decide) (by simp) (by simp[o2,o3])
theorem vV {B:Blk}(h:ab H b=some B):H.set b (some B)=H:=by
 refine Dy (by rw[List.length_set]) fun c hc=>?_
 by_cases e:b=c
 ·subst e
  rw[iJ (aM h),h]
 ·rw[cp e]
def jY (k:Nat)(v:V):Prop:=(v= .nilSlice∧k=0)∨∃ b,v= .slice b 0 k 3
theorem TI (hC:CurL K0 H0 K H)(hL:LAt K H l na x0 x1 va g):
  ∃ v K' H',DoneL Tryz.prog 18 [.ptr l 0] K H v K' H'∧(jY (gk g) v∧Kp (· ≠0) K H K' H'):=by
 have hgl:=hL.gl
 have hll:=aM hgl
 rcases hL.air with⟨rfl,rfl⟩|⟨a,rfl,ha,hga⟩
 ·refine dg (Post:=fun v K' H'=>jY 0 v∧Kp (· ≠0) K H K' H') (by kernel_rfl) (fn:=Tryz.f18) Tryz.func18 rfl (by show 1≤8;decide) (ae ?_)
  simp only[go_sem,seval,hgl]
  repeat refine aI ?_
  refine aq [] (Q3) (by kernel_rfl) (by simp) rfl (by simp) (by first|decide|simp) (by simp) (by simp) (by simp) (by simp) (by simp) ?_
  simp only[go_sem,seval]
  exact EndL.of hC.start trivial ⟨.inl ⟨rfl,rfl⟩,by simpa using hC.kpJunk (X:=[])⟩
 ·have hla:=aM hga
  cases g with
  |none=>
   have hga':ab H a=bK []:=hga
   refine dg (Post:=fun v K' H'=>jY 0 v∧Kp (· ≠0) K H K' H') (by kernel_rfl) (fn:=Tryz.f18) Tryz.func18 rfl (by show 1≤8;decide) (ae ?_)
   simp only[go_sem,seval,hgl,gk]
   repeat refine aI ?_
   refine aq [a] (KX) (by kernel_rfl) (by simp) rfl (by simp) (by first|decide|simp) (by simp[hla]) (by simp) (by simp[hga']) (by simp) (by simp) ?_
   simp only[go_sem,seval]
   rw[vV hga']
   exact EndL.of (hC.start.junk (vs:=[]) trivial) (by simp[V.low]) ⟨.inr ⟨_,rfl⟩,hC.kpJunk⟩
  |some gr=>
   obtain⟨fr,tg,tx⟩:=gr
   have hga':ab H a=bK [.u32 fr,.u32 tg,.str tx]:=hga
   refine dg (Post:=fun v K' H'=>jY 1 v∧Kp (· ≠0) K H K' H') (by kernel_rfl) (fn:=Tryz.f18) Tryz.func18 rfl (by show 1≤8;decide) (ae ?_)
   simp only[go_sem,seval,hgl,gk]
   repeat refine aI ?_
   refine aq [a] (Q5 fr tg tx) (by kernel_rfl) (by simp) rfl (by simp) (by first|decide|simp) (by simp[hla]) (by simp) (by simp[hga']) (by simp) (by simp) ?_
   simp only[go_sem,seval]
   rw[vV hga']
   exact EndL.of (hC.start.junk (vs:=[.u32 fr,.u32 tg,.str tx]) (by simp[aa,V.low])) (by simp[V.low]) ⟨.inr ⟨_,rfl⟩,hC.kpJunk⟩
theorem Dj (hC:CurL K0 H0 K H)(hL:LAt K H l na x0 x1 va g)(hN:NAt K H rn rd ra x sg v0 d k)(hk:k≤1000)(hr:rn≠0){j:Int}(hj:j=0∧x=x0∨j=1∧x=x1):
  ∃ v K' H',DoneL Tryz.prog 13 [.ptr l 0,.i64 j] K H v K' H'∧(jY k v∧Kp (· ≠0) K H K' H'):=by
 have hll:=hC.lt (b:=l) (by rw[hL.kl];decide)
 have hlx:=hC.lt (b:=x) (by rw[hN.kx];exact hr)
 have hgx:=hN.g
 refine dg (Post:=fun v K' H'=>jY k v∧Kp (· ≠0) K H K' H') (by kernel_rfl) (fn:=Tryz.f13) Tryz.func13 rfl (by show 2≤16;decide) (ae ?_)
 simp only[go_sem,seval]
 repeat refine aI ?_
 refine bx (lJ hC hL hlx hj) (by kernel_rfl) rfl (by simp[aa,V.low,hll]) hC.sane ?_
 rintro _ K1 H1 hC1 hl1 ⟨rfl,hK,hH⟩
 obtain rfl:=hK.symm
 obtain rfl:=hH.symm
 rcases hN.all with⟨rfl,rfl⟩|⟨a,cs,rfl,hk0,hka,hga,hcl,ho⟩
 ·simp only[go_sem,seval,hgx]
  repeat refine aI ?_
  refine aq [] (Q4) (by kernel_rfl) (by simp) rfl (by simp) (by first|decide|simp) (by simp) (by simp) (by simp) (by simp) (by simp) ?_
  simp only[go_sem,seval]
  exact EndL.of hC.start trivial ⟨.inl ⟨rfl,rfl⟩,by simpa using hC.kpJunk (X:=[])⟩
 ·have hla:=aM hga
  obtain⟨o1,o2,o3⟩:=ho
  simp only[go_sem,seval,hgx]
  repeat refine aI ?_
  refine aq [a] (OA k hk0 hk cs hcl ⟨o1,o2,o3⟩) (by kernel_rfl) (by simp) rfl (by simp) (by first|decide|simp) (by simp[hla]) (by simp) (by simp[hga,o2,o3]) (by simp) (by simp) ?_
  simp only[go_sem,seval,o2]
  rw[vV hga]
  exact EndL.of (hC.start.junk (vs:=cs) (o3 _)) (by simp[V.low]) ⟨.inr ⟨_,rfl⟩,hC.kpJunk⟩
theorem CV (hC:CurL K0 H0 K H)(hS:LS K H l d0 d1 g k0 k1){su:Int}(hD:Stp Tryz.prog 20 [.ptr 0 0,.i64 0] d0 (.i64 su) d0):
  ∃ v K' H',DoneL Tryz.prog 11 [.ptr l 0,.i64 0,.i64 1] K H v K' H'∧(v= .i64 su∧LS K' H' l d0 d1 g k0 k1):=by
 obtain⟨na,x0,x1,va,sg0,sg1,v0,v1,hL,hN0,hN1⟩:=hS.ex
 have hll:=hC.lt (b:=l) (by rw[hL.kl];decide)
 have hx0:=hC.lt (b:=x0) (by rw[hN0.kx];decide)
 have hx1:=hC.lt (b:=x1) (by rw[hN1.kx];decide)
 have hgx:=hN0.g
 refine dg (Post:=fun v K' H'=>v= .i64 su∧LS K' H' l d0 d1 g k0 k1) (by kernel_rfl) (fn:=Tryz.f11) Tryz.func11 rfl (by show 3≤35;decide) (ae ?_)
 simp only[go_sem,seval]
 repeat refine aI ?_
 refine bx (lJ hC hL hx0 (.inl ⟨rfl,rfl⟩)) (by kernel_rfl) rfl (by simp[aa,V.low,hll]) hC.sane ?_
 rintro _ K1 H1 hC1 hl1 ⟨rfl,hK,hH⟩
 obtain rfl:=hK.symm
 obtain rfl:=hH.symm
 simp only[go_sem,seval]
 repeat refine aI ?_
 refine bx (lJ hC hL hx1 (.inr ⟨rfl,rfl⟩)) (by kernel_rfl) rfl (by simp[aa,V.low,hll]) hC.sane ?_
 rintro _ K2 H2 hC2 hl2 ⟨rfl,hK2,hH2⟩
 obtain rfl:=hK2.symm
 obtain rfl:=hH2.symm
 simp only[go_sem,seval,hgx]
 repeat refine aI ?_
 refine my hN0.e hD.spec hD.nxt (by kernel_rfl) rfl hD.low rfl ?_
 simp only[go_sem,seval]
 repeat refine aI ?_
 have hk:=hC.kpDev (d':=d0) hN0.ks
 exact EndL.of (hC.start.dev hN0.e hN0.ks (by decide) hN0.dv (Nat.le_refl _)) trivial ⟨rfl,na,x0,x1,va,_,_,v0,v1,hL.keep hk (by decide) (by decide) (by decide),hN0.dev hC hN0.dv (Nat.le_refl _) (by decide) (by decide),hN1.keep hk (by decide) (by decide) (by decide)⟩
theorem CW (hC:CurL K0 H0 K H)(hS:LS K H l d0 d1 g k0 k1){su:Int}(hD:Stp Tryz.prog 20 [.ptr 0 0,.i64 0] d1 (.i64 su) d1):
  ∃ v K' H',DoneL Tryz.prog 11 [.ptr l 0,.i64 1,.i64 0] K H v K' H'∧(v= .i64 su∧LS K' H' l d0 d1 g k0 k1):=by
 obtain⟨na,x0,x1,va,sg0,sg1,v0,v1,hL,hN0,hN1⟩:=hS.ex
 have hll:=hC.lt (b:=l) (by rw[hL.kl];decide)
 have hx0:=hC.lt (b:=x0) (by rw[hN0.kx];decide)
 have hx1:=hC.lt (b:=x1) (by rw[hN1.kx];decide)
 have hgx:=hN1.g
 refine dg (Post:=fun v K' H'=>v= .i64 su∧LS K' H' l d0 d1 g k0 k1) (by kernel_rfl) (fn:=Tryz.f11) Tryz.func11 rfl (by show 3≤35;decide) (ae ?_)
 simp only[go_sem,seval]
 repeat refine aI ?_
 refine bx (lJ hC hL hx1 (.inr ⟨rfl,rfl⟩)) (by kernel_rfl) rfl (by simp[aa,V.low,hll]) hC.sane ?_
 rintro _ K1 H1 hC1 hl1 ⟨rfl,hK,hH⟩
 obtain rfl:=hK.symm
 obtain rfl:=hH.symm
 simp only[go_sem,seval]
 repeat refine aI ?_
 refine bx (lJ hC hL hx0 (.inl ⟨rfl,rfl⟩)) (by kernel_rfl) rfl (by simp[aa,V.low,hll]) hC.sane ?_
 rintro _ K2 H2 hC2 hl2 ⟨rfl,hK2,hH2⟩
 obtain rfl:=hK2.symm
 obtain rfl:=hH2.symm
 simp only[go_sem,seval,hgx]
 repeat refine aI ?_
 refine my hN1.e hD.spec hD.nxt (by kernel_rfl) rfl hD.low rfl ?_
 simp only[go_sem,seval]
 repeat refine aI ?_
 have hk:=hC.kpDev (d':=d1) hN1.ks
 exact EndL.of (hC.start.dev hN1.e hN1.ks (by decide) hN1.dv (Nat.le_refl _)) trivial ⟨rfl,na,x0,x1,va,_,_,v0,v1,hL.keep hk (by decide) (by decide) (by decide),hN0.keep hk (by decide) (by decide) (by decide),hN1.dev hC hN1.dv (Nat.le_refl _) (by decide) (by decide)⟩
end
theorem cK {x:Option Blk}{l:List (Option Blk)}:ab (x::l) 0=x:=rfl
theorem cL {x:Option Blk}{l:List (Option Blk)}{n:Nat}:ab (x::l) (n+1)=ab l n:=rfl
theorem dz (k:Int)(σ:Nat→Nat)(h:σ 29=29):V.ren σ (if k=0 then .ptr 29 0 else .nilPtr)=if k=0 then .ptr 29 0 else .nilPtr:=by split <;>simp[V.ren,h]
theorem dC (k:Int)(σ:Nat→Nat)(h:σ 29=29):V.ren σ (if k=0 then .nilPtr else .ptr 29 0)=if k=0 then .nilPtr else .ptr 29 0:=by split <;>simp[V.ren,h]
theorem bG (k:Int)(n:Nat)(h:29<n):V.low n (if k=0 then .ptr 29 0 else .nilPtr)=True:=by split <;>simp[V.low,h]
theorem bH (k:Int)(n:Nat)(h:29<n):V.low n (if k=0 then .nilPtr else .ptr 29 0)=True:=by split <;>simp[V.low,h]
def bB (σ:Nat→Nat):Nat→List Nat→Prop
 |_,[]=>True
 |i,a::l=>σ i=a∧bB σ (i+1) l
theorem Dk (F:List Nat):∀ (l:List Nat) (i:Nat),(∀ j,j<l.length→F.getD (i+j) 0=l.getD j 0)→bB (ah F) i l
 |[],_,_=>trivial
 |a::l,i,h=>⟨h 0 (by simp),Dk F l (i+1) fun j hj=>by
  have :=h (j+1) (by simpa using hj)
  rw[show i+1+j=i+(j+1) by omega,this]
  rfl⟩
theorem Ca (F:List Nat):bB (ah F) 0 F:=Dk F F 0 fun j _=>by rw[Nat.zero_add]
theorem gO {sg:List Nat}{H h h' d1:List (Option Blk)}(F:List Nat)(e:az sg H.length h'=F)(hk:∀ σ:Nat→Nat,bB σ 0 F→cr H (cH σ sg h h')++cu σ sg h'=d1):iz sg H h h'=d1:=by
 unfold iz
 rw[e]
 exact hk _ (Ca F)
theorem cG {d d':List (Option Blk)}(ix:List Nat)(h1:ix.length=d'.length)(h2:ix.Nodup)(h3:∀ b∈ix,b<d.length)(h4:∀ σ:Nat→Nat,bB σ 0 ix→jT σ d'.length d 0 d'):Emb ix d' d:=Emb.of ix h1 h2 h3 (h4 _ (Ca ix))
theorem gI (H:List (Option Blk)):cr H []=H:=rfl
theorem mP {f:FuncId}{args args1:List V}{e:Int}{m m' d d' T:List (Option Blk)}(D:DS)(n:Nat)(gr:G3)(hX:ag Tryz.prog f args m (.i64 e) m')(ix:List Nat)(hE:Emb ix m d)(hlow:aa m.length args)(hro:fh m')(hle:m.length≤m'.length)
  (ha:rens (ah ix) args= .ptr 0 0::args1) (hm:iz ix d m m'=bK (D.cs (.slice (n+1) 0 1 3) .nilSlice)::T) (h1:Dv (bK (D.cs (.slice (n+1) 0 1 3) .nilSlice)::T)) (hl:d.length≤T.length+1) (hlow2:aa d.length (.ptr 0 0::args1)) (hT:3≤T.length) (hg:ab T n=bK (g9 (some gr)))
  (jx:List Nat) (hE2:Emb jx d' (bK (D.cs .nilSlice .nilSlice)::T)) (h0:ah jx 0=0) (hv:Dv d'):DAct f args1 d e (some gr) 0 d':=
 wP hX ix hE hlow hro hle ha hm h1 hl hlow2 (TF D n T gr hT h1 hg) jx hE2 h0 hv
theorem ww {f:FuncId}{args args1 cs:List V}{e:Int}{m m' d d' T:List (Option Blk)}(D:DS)(n:Nat)(hX:ag Tryz.prog f args m (.i64 e) m')(ix:List Nat)(hE:Emb ix m d)(hlow:aa m.length args)(hro:fh m')(hle:m.length≤m'.length)
  (ha:rens (ah ix) args= .ptr 0 0::args1) (hm:iz ix d m m'=bK (D.cs .nilSlice (.slice (n+1) 0 1 3))::T) (h1:Dv (bK (D.cs .nilSlice (.slice (n+1) 0 1 3))::T)) (hl:d.length≤T.length+1) (hlow2:aa d.length (.ptr 0 0::args1)) (hT:3≤T.length) (hg:ab T n=bK cs) (hcl:cs.length=3) (ho:l7 cs)
  (jx:List Nat) (hE2:Emb jx d' (bK (D.cs .nilSlice .nilSlice)::T)) (h0:ah jx 0=0) (hv:Dv d'):DAct f args1 d e none 1 d':=
 wP hX ix hE hlow hro hle ha hm h1 hl hlow2 (TG D n T hT h1 hg hcl ho) jx hE2 h0 hv
theorem Cb {f:FuncId}{args args1:List V}{e:Int}{m m' d d' T:List (Option Blk)}(D:DS)(hX:ag Tryz.prog f args m (.i64 e) m')(ix:List Nat)(hE:Emb ix m d)(hlow:aa m.length args)(hro:fh m')(hle:m.length≤m'.length)
  (ha:rens (ah ix) args= .ptr 0 0::args1) (hm:iz ix d m m'=bK (D.cs .nilSlice .nilSlice)::T) (h1:Dv (bK (D.cs .nilSlice .nilSlice)::T)) (hl:d.length≤T.length+1) (hlow2:aa d.length (.ptr 0 0::args1))
  (jx:List Nat) (hE2:Emb jx d' (bK (D.cs .nilSlice .nilSlice)::T)) (h0:ah jx 0=0) (hv:Dv d'):DAct f args1 d e none 0 d':=
 wP hX ix hE hlow hro hle ha hm h1 hl hlow2 (CU D T h1) jx hE2 h0 hv
def bj (k:Int)(dc pc tc:List V)(t0:Int)(m:MapC)(ex:List (Option Blk)):List (Option Blk):=
 bK dc::bK [.ptr 4 0]::bK [.ptr 6 0,.nilPtr,.bool false,.i64 0,.i64 1]::bK [.i64 t0,.map 30]::bK pc::bK tc::nL 7::nL 8::nL 9::nR 10::nL 11::nR 12::nL 13::nL 14::nL 15::nL 16::nL 17::nL 18::nL 19::nL 20::nL 21::nL 22::nL 23::nL 24::nL 25::nL 26::nL 27::nL 28::bK [if k=0 then .ptr 29 0 else .nilPtr,if k=0 then .nilPtr else .ptr 29 0,.bool false,.i64 0]::bK [.nilPtr,.nilPtr,.bool true,.i64 0]::some ⟨false,[],some m⟩::ex
theorem TJ:ag Tryz.prog 59 [.ptr 0 0,.agg [.u32 167772160#32,.i64 24]] [bK [.nilPtr,.nilPtr,.bool false,.i64 0,.i64 0]] (.ptr 24 0) [bK [.ptr 1 0,.nilPtr,.bool false,.i64 0,.i64 0],nL 2,nL 3,nL 4,nR 5,nL 6,nR 7,nL 8,nL 9,nL 10,nL 11,nL 12,nL 13,nL 14,nL 15,nL 16,nL 17,nL 18,nL 19,nL 20,nL 21,nL 22,nL 23,nL 24,bK [.nilPtr,.nilPtr,.bool false,.i64 0]]:=by
 refine ap (by kernel_rfl) (fn:=Tryz.f59) Tryz.func59 rfl (by show 2≤44;decide) (ae ?_)
 simp only[go_sem,seval,Tryz.ntmps59]
 refine aY 25 ?_
 simp(config:={maxSteps:=100000000}) only[go_sem,↓reduceIte,Nat.reduceEqDiff,Nat.reduceLT,Nat.reduceLeDiff,Nat.reduceAdd,Nat.reduceSub,Int.reduceLE,Int.reduceLT,Int.reduceToNat,Int.reduceAdd,Int.reduceSub,Int.reduceNeg,BitVec.reduceOfInt,BitVec.reduceToNat,reduceCtorEq,BitVec.reduceHShiftRight,BitVec.reduceAnd,Int.cast_ofNat_Int]
 exact Fin.ren [0,2,3,4,5,6,7,8,9,10,11,12,13,14,15,16,17,18,19,20,21,22,23,24,25] (by simp) (by simp) (by rfl) (by decide) (by simp) (by simp)
theorem TK:ag Tryz.prog 59 [.ptr 0 0,.agg [.u32 167772416#32,.i64 24]] [bK [.nilPtr,.nilPtr,.bool false,.i64 0,.i64 0]] (.ptr 24 0) [bK [.ptr 1 0,.nilPtr,.bool false,.i64 0,.i64 0],nL 2,nL 3,nL 4,nR 5,nL 6,nR 7,nL 8,nL 9,nL 10,nL 11,nL 12,nL 13,nL 14,nL 15,nL 16,nL 17,nL 18,nL 19,nL 20,nL 21,nL 22,nL 23,nR 24,bK [.nilPtr,.nilPtr,.bool false,.i64 0]]:=by
 refine ap (by kernel_rfl) (fn:=Tryz.f59) Tryz.func59 rfl (by show 2≤44;decide) (ae ?_)
 simp only[go_sem,seval,Tryz.ntmps59]
 refine aY 25 ?_
 simp(config:={maxSteps:=100000000}) only[go_sem,↓reduceIte,Nat.reduceEqDiff,Nat.reduceLT,Nat.reduceLeDiff,Nat.reduceAdd,Nat.reduceSub,Int.reduceLE,Int.reduceLT,Int.reduceToNat,Int.reduceAdd,Int.reduceSub,Int.reduceNeg,BitVec.reduceOfInt,BitVec.reduceToNat,reduceCtorEq,BitVec.reduceHShiftRight,BitVec.reduceAnd,Int.cast_ofNat_Int]
 exact Fin.ren [0,2,3,4,5,6,7,8,9,10,11,12,13,14,15,16,17,18,19,20,21,22,23,24,25] (by simp) (by simp) (by rfl) (by decide) (by simp) (by simp)
theorem Q6:ag Tryz.prog 38 [.ptr 0 0,.agg [.u32 167772160#32,.i64 24],.i64 0] [bK [.nilPtr,.nilPtr,.bool false,.i64 0,.i64 0]] (.i64 0) [bK [.ptr 1 0,.nilPtr,.bool false,.i64 0,.i64 1],nL 2,nL 3,nL 4,nR 5,nL 6,nR 7,nL 8,nL 9,nL 10,nL 11,nL 12,nL 13,nL 14,nL 15,nL 16,nL 17,nL 18,nL 19,nL 20,nL 21,nL 22,nL 23,nL 24,bK [.nilPtr,.nilPtr,.bool true,.i64 0]]:=by
 refine ap (by kernel_rfl) (fn:=Tryz.f38) Tryz.func38 rfl (by show 3≤58;decide) (ae ?_)
 simp only[go_sem,seval,Tryz.ntmps38,Tryz.results38]
 refine aq [0] (TJ) (by kernel_rfl) (by simp) rfl (by simp) (by first|decide|simp) (by simp) (by simp) (by simp) (by simp) (by simp) ?_
 simp only[go_sem,seval]
 exact Fin.ren [0,2,3,4,5,6,7,8,9,10,11,12,13,14,15,16,17,18,19,20,21,22,23,24,25] (by simp) (by simp) (by rfl) (by decide) (by simp) (by simp)
theorem Q7:ag Tryz.prog 38 [.ptr 0 0,.agg [.u32 167772416#32,.i64 24],.i64 0] [bK [.nilPtr,.nilPtr,.bool false,.i64 0,.i64 0]] (.i64 0) [bK [.ptr 1 0,.nilPtr,.bool false,.i64 0,.i64 1],nL 2,nL 3,nL 4,nR 5,nL 6,nR 7,nL 8,nL 9,nL 10,nL 11,nL 12,nL 13,nL 14,nL 15,nL 16,nL 17,nL 18,nL 19,nL 20,nL 21,nL 22,nL 23,nR 24,bK [.nilPtr,.nilPtr,.bool true,.i64 0]]:=by
 refine ap (by kernel_rfl) (fn:=Tryz.f38) Tryz.func38 rfl (by show 3≤58;decide) (ae ?_)
 simp only[go_sem,seval,Tryz.ntmps38,Tryz.results38]
 refine aq [0] (TK) (by kernel_rfl) (by simp) rfl (by simp) (by first|decide|simp) (by simp) (by simp) (by simp) (by simp) (by simp) ?_
 simp only[go_sem,seval]
 exact Fin.ren [0,2,3,4,5,6,7,8,9,10,11,12,13,14,15,16,17,18,19,20,21,22,23,24,25] (by simp) (by simp) (by rfl) (by decide) (by simp) (by simp)
theorem zO (here:BitVec 32)(own pub seed:List ac)(best:Int)(x:List ac):ag Tryz.prog 37 [.ptr 0 0,.str x] [bK [.u32 here,.str own,.str pub,.str seed,.i64 best,.u64 0#64,.str [],.u32 0#32,.i64 0,.i64 0,.bool false,.nilSlice,.ptr 1 0,.ptr 2 0,.nilSlice,.nilSlice],none,none] .nilPtr [bK [.u32 here,.str own,.str pub,.str seed,.i64 best,.u64 0#64,.str [],.u32 0#32,.i64 0,.i64 0,.bool false,.nilSlice,.ptr 1 0,.ptr 2 0,.nilSlice,.nilSlice],none,none]:=by
 refine ap (by kernel_rfl) (fn:=Tryz.f37) Tryz.func37 rfl (by show 2≤24;decide) (ae ?_)
 simp only[go_sem,seval,Tryz.ntmps37]
 refine aY 1 ?_
 simp only[go_sem,seval]
 exact Fin.ren [0,1,2] (by simp) (by simp) (by rfl) (by decide) (by simp) (by simp)
theorem uQ:ag Tryz.prog 35 [] [] (.ptr 0 0) [bK [.nilPtr,.nilPtr,.bool false,.i64 0,.i64 0]]:=by
 refine ap (by kernel_rfl) (fn:=Tryz.f35) Tryz.func35 rfl (by show 0≤3;decide) (ae ?_)
 simp only[go_sem,seval,Tryz.ntmps35,Tryz.results35]
 exact Fin.ren [0] (by simp) (by simp) (by rfl) (by decide) (by simp) (by simp)
theorem I3 (here:BitVec 32)(hh:here≠0#32){own seed:List ac}(ho:own.length=32)(hs:seed.length=32){pub psk:List ac}(hp:pub.length=32)(hk:psk.length=32)(hne:pub≠ai own)(at_:BitVec 32){key pk:List ac}(hpk:ai own=pk)(hkey:(⟨here,own,pk,seed,2,0#64,[],0#32,0,0⟩:DS).keyV=key):
  ag Tryz.prog 25 [.u32 here,.str own,.str seed,.i64 2,.slice 0 0 1 4] [bK [.str pub,.str psk,.u32 at_,.slice 1 0 1 2],bK [.u32 167772160#32,.i64 24]] (.tup [.ptr 2 0,.i64 0]) [none,none,bK [.u32 here,.str own,.str pk,.str seed,.i64 2,.u64 1#64,.str key,.u32 0#32,.i64 0,.i64 0,.bool false,.slice 3 0 1 1,.ptr 4 0,.ptr 5 0,.nilSlice,.nilSlice],bK [.ptr 6 0],bK [.ptr 8 0,.nilPtr,.bool false,.i64 0,.i64 1],bK [.i64 0,.map 32],bK [.ptr 2 0,.ptr 7 0,.i64 0,.str pub,.str psk,.u32 at_,.i64 1,.i64 1,.bool false,.i64 0,.i64 0,.str [],.i64 0,.nilSlice,.nilPtr,.u32 0#32,.str [],.nilPtr,.nilPtr,.nilPtr],bK [.bool false,.i64 0,.i64 0,.bool false,.i64 0],nL 9,nL 10,nL 11,nR 12,nL 13,nR 14,nL 15,nL 16,nL 17,nL 18,nL 19,nL 20,nL 21,nL 22,nL 23,nL 24,nL 25,nL 26,nL 27,nL 28,nL 29,nL 30,nL 31,bK [.nilPtr,.nilPtr,.bool true,.i64 0],some ⟨false,[],some ⟨[],0⟩⟩]:=by
 have h1:(own.length:Int)=32:=by omega
 have h2:(seed.length:Int)=32:=by omega
 have h3:(pub.length:Int)=32:=by omega
 have h4:(psk.length:Int)=32:=by omega
 have hP:ao Tryz.prog 24 [.str own] (.tup [.str (ai own),.i64 0]):=jd own ho
 rw[hpk] at hP hne
 have hK:=oC ⟨here,own,pk,seed,2,0#64,[],0#32,0,0⟩ hs
 rw[hkey] at hK
 unfold DS.up DS.cs at hK
 dsimp only at hK
 refine ap (by kernel_rfl) (fn:=Tryz.f25) Tryz.func25 rfl (by show 5≤132;decide) (ae ?_)
 simp only[go_sem,seval,Tryz.ntmps25,hh,h1,h2]
 refine ak (hP) ?_
 simp only[go_sem,seval]
 repeat refine aI ?_
 refine aq [] (uQ) (by kernel_rfl) (by simp) rfl (by simp) (by first|decide|simp) (by simp) (by simp) (by simp) (by simp) (by simp) ?_
 simp only[go_sem,seval]
 repeat refine aI ?_
 refine aq [] (vf) (by kernel_rfl) (by simp) rfl (by simp) (by first|decide|simp) (by simp) (by simp) (by simp) (by simp) (by simp) ?_
 simp only[go_sem,seval]
 refine aY 2 ?_
 simp only[go_sem,seval,h3,h4,hne,not_true,ne_eq]
 repeat refine aI ?_
 refine bC [5,2,3] (zO here own pk seed 2 pub) (by kernel_rfl) (by simp) rfl (by simp) (by first|decide|simp) (by simp) (by simp) (by simp) (by simp) ?_
 simp only[go_sem,seval]
 repeat refine aI ?_
 refine aY 2 ?_
 simp only[go_sem,seval]
 repeat refine aI ?_
 refine bh [2] (Q6) (by kernel_rfl) (by simp) rfl (by simp) (by first|decide|simp) (by simp) (by simp) (by simp) (by simp) (by simp) ?_
 simp only[go_sem,seval]
 repeat refine aI ?_
 refine bh [] (AY) (by kernel_rfl) (by simp) rfl (by simp) (by first|decide|simp) (by simp) (by simp) (by simp) (by simp) (by simp) ?_
 simp only[go_sem,seval]
 repeat refine aI ?_
 refine bC [5,35,2,3] (hK) (by kernel_rfl) (by simp) rfl (by simp) (by first|decide|simp) (by simp) (by simp) (by simp) (by simp) ?_
 simp only[go_sem,seval,BitVec.reduceAdd]
 repeat refine aI ?_
 exact Fin.ren [0,1,5,35,2,3,33,32,8,9,10,11,12,13,14,15,16,17,18,19,20,21,22,23,24,25,26,27,28,29,30,31,4] (by simp) (by simp) (by rfl) (by decide) (by simp) (by simp)
theorem I4 (here:BitVec 32)(hh:here≠0#32){own seed:List ac}(ho:own.length=32)(hs:seed.length=32){pub psk:List ac}(hp:pub.length=32)(hk:psk.length=32)(hne:pub≠ai own)(at_:BitVec 32){key pk:List ac}(hpk:ai own=pk)(hkey:(⟨here,own,pk,seed,2,0#64,[],0#32,0,0⟩:DS).keyV=key):
  ag Tryz.prog 25 [.u32 here,.str own,.str seed,.i64 2,.slice 0 0 1 4] [bK [.str pub,.str psk,.u32 at_,.slice 1 0 1 2],bK [.u32 167772416#32,.i64 24]] (.tup [.ptr 2 0,.i64 0]) [none,none,bK [.u32 here,.str own,.str pk,.str seed,.i64 2,.u64 1#64,.str key,.u32 0#32,.i64 0,.i64 0,.bool false,.slice 3 0 1 1,.ptr 4 0,.ptr 5 0,.nilSlice,.nilSlice],bK [.ptr 6 0],bK [.ptr 8 0,.nilPtr,.bool false,.i64 0,.i64 1],bK [.i64 0,.map 32],bK [.ptr 2 0,.ptr 7 0,.i64 0,.str pub,.str psk,.u32 at_,.i64 1,.i64 1,.bool false,.i64 0,.i64 0,.str [],.i64 0,.nilSlice,.nilPtr,.u32 0#32,.str [],.nilPtr,.nilPtr,.nilPtr],bK [.bool false,.i64 0,.i64 0,.bool false,.i64 0],nL 9,nL 10,nL 11,nR 12,nL 13,nR 14,nL 15,nL 16,nL 17,nL 18,nL 19,nL 20,nL 21,nL 22,nL 23,nL 24,nL 25,nL 26,nL 27,nL 28,nL 29,nL 30,nR 31,bK [.nilPtr,.nilPtr,.bool true,.i64 0],some ⟨false,[],some ⟨[],0⟩⟩]:=by
 have h1:(own.length:Int)=32:=by omega
 have h2:(seed.length:Int)=32:=by omega
 have h3:(pub.length:Int)=32:=by omega
 have h4:(psk.length:Int)=32:=by omega
 have hP:ao Tryz.prog 24 [.str own] (.tup [.str (ai own),.i64 0]):=jd own ho
 rw[hpk] at hP hne
 have hK:=oC ⟨here,own,pk,seed,2,0#64,[],0#32,0,0⟩ hs
 rw[hkey] at hK
 unfold DS.up DS.cs at hK
 dsimp only at hK
 refine ap (by kernel_rfl) (fn:=Tryz.f25) Tryz.func25 rfl (by show 5≤132;decide) (ae ?_)
 simp only[go_sem,seval,Tryz.ntmps25,hh,h1,h2]
 refine ak (hP) ?_
 simp only[go_sem,seval]
 repeat refine aI ?_
 refine aq [] (uQ) (by kernel_rfl) (by simp) rfl (by simp) (by first|decide|simp) (by simp) (by simp) (by simp) (by simp) (by simp) ?_
 simp only[go_sem,seval]
 repeat refine aI ?_
 refine aq [] (vf) (by kernel_rfl) (by simp) rfl (by simp) (by first|decide|simp) (by simp) (by simp) (by simp) (by simp) (by simp) ?_
 simp only[go_sem,seval]
 refine aY 2 ?_
 simp only[go_sem,seval,h3,h4,hne,not_true,ne_eq]
 repeat refine aI ?_
 refine bC [5,2,3] (zO here own pk seed 2 pub) (by kernel_rfl) (by simp) rfl (by simp) (by first|decide|simp) (by simp) (by simp) (by simp) (by simp) ?_
 simp only[go_sem,seval]
 repeat refine aI ?_
 refine aY 2 ?_
 simp only[go_sem,seval]
 repeat refine aI ?_
 refine bh [2] (Q7) (by kernel_rfl) (by simp) rfl (by simp) (by first|decide|simp) (by simp) (by simp) (by simp) (by simp) (by simp) ?_
 simp only[go_sem,seval]
 repeat refine aI ?_
 refine bh [] (AY) (by kernel_rfl) (by simp) rfl (by simp) (by first|decide|simp) (by simp) (by simp) (by simp) (by simp) (by simp) ?_
 simp only[go_sem,seval]
 repeat refine aI ?_
 refine bC [5,35,2,3] (hK) (by kernel_rfl) (by simp) rfl (by simp) (by first|decide|simp) (by simp) (by simp) (by simp) (by simp) ?_
 simp only[go_sem,seval,BitVec.reduceAdd]
 repeat refine aI ?_
 exact Fin.ren [0,1,5,35,2,3,33,32,8,9,10,11,12,13,14,15,16,17,18,19,20,21,22,23,24,25,26,27,28,29,30,31,4] (by simp) (by simp) (by rfl) (by decide) (by simp) (by simp)
theorem I5 (here:BitVec 32)(hh:here≠0#32){own seed:List ac}(ho:own.length=32)(hs:seed.length=32){pub psk:List ac}(hp:pub.length=32)(hk:psk.length=32)(he:pub=ai own)(at_ a:BitVec 32):
  ag Tryz.prog 25 [.u32 here,.str own,.str seed,.i64 2,.slice 0 0 1 4] [bK [.str pub,.str psk,.u32 at_,.slice 1 0 1 2],bK [.u32 a,.i64 24]] (.tup [.nilPtr,.i64 8]) [bK [.str pub,.str psk,.u32 at_,.slice 1 0 1 2],bK [.u32 a,.i64 24]]:=by
 have h1:(own.length:Int)=32:=by omega
 have h2:(seed.length:Int)=32:=by omega
 have h3:(pub.length:Int)=32:=by omega
 have h4:(psk.length:Int)=32:=by omega
 have hP:ao Tryz.prog 24 [.str own] (.tup [.str (ai own),.i64 0]):=jd own ho
 rw[←he] at hP
 refine ap (by kernel_rfl) (fn:=Tryz.f25) Tryz.func25 rfl (by show 5≤132;decide) (ae ?_)
 simp only[go_sem,seval,Tryz.ntmps25,hh,h1,h2]
 refine ak (hP) ?_
 simp only[go_sem,seval]
 repeat refine aI ?_
 refine aq [] (uQ) (by kernel_rfl) (by simp) rfl (by simp) (by first|decide|simp) (by simp) (by simp) (by simp) (by simp) (by simp) ?_
 simp only[go_sem,seval]
 repeat refine aI ?_
 refine aq [] (vf) (by kernel_rfl) (by simp) rfl (by simp) (by first|decide|simp) (by simp) (by simp) (by simp) (by simp) (by simp) ?_
 simp only[go_sem,seval]
 refine aY 2 ?_
 simp only[go_sem,seval,h3,h4]
 repeat refine aI ?_
 exact Fin.ren [0,1] (by simp) (by simp) (by rfl) (by decide) (by simp) (by simp)
section
set_option maxHeartbeats 1000000
theorem Dl (k:Int)(hk01:k=0∨k=1)(here:BitVec 32)(hh:here≠0#32){own seed:List ac}(ho:own.length=32)(hs:seed.length=32){pub psk:List ac}(hp:pub.length=32)(hk:psk.length=32)(hne:pub≠ai own)(at_:BitVec 32){key:List ac}(hkey:(⟨here,own,ai own,seed,2,0#64,[],0#32,0,0⟩:DS).keyV=key):
  ∃ h',ag Tryz.prog 25 [.u32 here,.str own,.str seed,.i64 2,.slice 0 0 1 4] [bK [.str pub,.str psk,.u32 at_,.slice 1 0 1 2],bK [.u32 (if k=0 then 167772160#32 else 167772416#32),.i64 24]] (.tup [.ptr 2 0,.i64 0]) h'∧
   Emb [2,3,4,5,6,7,8,9,10,11,12,13,14,15,16,17,18,19,20,21,22,23,24,25,26,27,28,29,30,31,32] (bj k ((⟨here,own,ai own,seed,2,1#64,key,0#32,0,0⟩:DS).cs .nilSlice .nilSlice) ((⟨pub,psk,at_,1,1,false,0,0,0#32,[]⟩:PS).cs .nilSlice .nilPtr .nilPtr .nilPtr .nilPtr) [.bool false,.i64 0,.i64 0,.bool false,.i64 0] 0 (⟨[],0⟩) []) h'∧fh h'∧aO h'.length h'∧h'.length=33∧Dv (bj k ((⟨here,own,ai own,seed,2,1#64,key,0#32,0,0⟩:DS).cs .nilSlice .nilSlice) ((⟨pub,psk,at_,1,1,false,0,0,0#32,[]⟩:PS).cs .nilSlice .nilPtr .nilPtr .nilPtr .nilPtr) [.bool false,.i64 0,.i64 0,.bool false,.i64 0] 0 (⟨[],0⟩) []):=by
 rcases hk01 with rfl|rfl
 ·have hX:=I3 here hh ho hs hp hk hne at_ rfl hkey
  simp only[seval]
  refine⟨_,hX,?e,by simp only[bE,dh,bD,and_self],by simp[aO,aa,V.low],by simp,?d⟩
  case e=>
   unfold bj
   exact cG [2,3,4,5,6,7,8,9,10,11,12,13,14,15,16,17,18,19,20,21,22,23,24,25,26,27,28,29,30,31,32] (by rfl) (by decide) (by simp) fun σ f=>by
    simp only[bB,Nat.zero_add,seval] at f
    simp only[cF,cE,DS.cs,PS.cs,rens,V.ren,cK,cL,aa,V.low,Nat.zero_add,seval,and_self,List.length_cons,List.length_nil,f]
  case d=>
   unfold bj
   exact Dv.of (by simp only[bE,bD,and_self]) (by simp[aO,aa,V.low,DS.cs,PS.cs]) (by simp)
 ·have hX:=I4 here hh ho hs hp hk hne at_ rfl hkey
  simp only[seval,show ¬ (1:Int)=0 by decide]
  refine⟨_,hX,?e,by simp only[bE,dh,bD,and_self],by simp[aO,aa,V.low],by simp,?d⟩
  case e=>
   unfold bj
   exact cG [2,3,4,5,6,7,8,9,10,11,12,13,14,15,16,17,18,19,20,21,22,23,24,25,26,27,28,29,30,31,32] (by rfl) (by decide) (by simp) fun σ f=>by
    simp only[bB,Nat.zero_add,seval] at f
    simp only[cF,cE,DS.cs,PS.cs,rens,V.ren,cK,cL,aa,V.low,Nat.zero_add,seval,and_self,List.length_cons,List.length_nil,f,show ¬ (1:Int)=0 by decide]
  case d=>
   unfold bj
   exact Dv.of (by simp only[bE,bD,and_self]) (by simp[aO,aa,V.low,DS.cs,PS.cs]) (by simp)
end
section
variable {K K0:Nat→Nat}{H H0 H':List (Option Blk)}{K':Nat→Nat}{l na x0 x1 x k kk k0 k1 kX kY rn rd ra b bs sb:Nat}{e i:Int}
noncomputable def kN (seed:List ac) (n:Int):List ac:=(oU 1 seed [BitVec.ofInt 8 n] 1).getD 0 []
theorem cY {seed:List ac}(hs:seed.length=32)(n:Int):ag Tryz.prog 23 [.i64 1,.str seed,.str [BitVec.ofInt 8 n],.i64 1] [] (.tup [.slice 0 0 1 1,.i64 0]) [bK [.str (kN seed n)]]∧(kN seed n).length=32:=by
 obtain⟨h1,h2,h3⟩:=rO (x:=1) (.inl rfl) seed [BitVec.ofInt 8 n] (by omega) (by simp) (n:=1) (by decide) (by decide)
 unfold kN
 obtain⟨a,e,ha⟩:=DQ h2 h3
 rw[e] at h1 ⊢
 exact⟨h1,ha⟩
theorem iQ (hC:CurL K0 H0 K H){seed:List ac}(hs:seed.length=32)(hg:ab H sb=bK [.str seed])(n:Int):
  ∃ v K' H',DoneL Tryz.prog 22 [.i64 n,.ptr sb 0] K H v K' H'∧(v= .str (kN seed n)∧K'=K∧(∀ b,b<H.length→ab H' b=ab H b)∧H.length≤H'.length):=by
 have hlt:=aM hg
 obtain⟨hD,-⟩:=cY hs n
 generalize kN seed n=kk at*
 refine dg (Post:=fun v K' H'=>v= .str kk∧K'=K∧(∀ b,b<H.length→ab H' b=ab H b)∧H.length≤H'.length) (by kernel_rfl) (fn:=Tryz.f22) Tryz.func22 rfl (by show 2≤18;decide) (ae ?_)
 simp only[go_sem,seval,hg]
 repeat refine aI ?_
 refine aq [] (hD) (by kernel_rfl) (by simp) rfl (by simp) (by first|decide|simp) (by simp) (by simp) (by simp) (by simp) (by simp) ?_
 simp only[go_sem,seval]
 repeat refine aI ?_
 exact EndL.of ((hC.start.junk (vs:=[.u8 (BitVec.ofInt 8 n)]) (by simp[aa,V.low])).junk (vs:=[.str kk]) (by simp[aa,V.low])) trivial ⟨rfl,rfl,fun b hb=>mS hb,by simp⟩
theorem Dm {m h' d:List (Option Blk)}{pb xb:Nat}(hC:CurL K0 H0 K H)(hne:pb≠xb)(hp:H0.length≤pb)(hx:H0.length≤xb)(hm:m.length=2)(hE:Emb [pb,xb] m H)(h1:Emb (List.range' 2 31) d h')(hrw:fh h')(hbl:aO h'.length h')(hl:h'.length=33)(hpk:K pb=0)(hxk:K xb=0):
  CurL K0 H0 K (memH [pb,xb] H h')∧Emb (List.range' H.length 31) d (memH [pb,xb] H h')∧(memH [pb,xb] H h').length=H.length+31∧(∀ b,b<H.length→b≠pb→b≠xb→ab (memH [pb,xb] H h') b=ab H b):=by
 have hN:Nxt m h':=⟨by omega,fun b B e _=>jg hrw b B e,jI hbl⟩
 have hml:(memH [pb,xb] H h').length=H.length+31:=by rw[jb,hl];rfl
 have hE2:=hE.call hN
 have hE3:=h1.trans hE2
 have hpl:=hE.lt pb (by simp)
 have hxl:=hE.lt xb (by simp)
 have hkeep:∀ b,b<H.length→b≠pb→b≠xb→ab (memH [pb,xb] H h') b=ab H b:=fun b hb h1 h2=>mD hb (by simp;exact⟨h1,h2⟩)
 refine⟨⟨by rw[hml];have :=hC.len;omega,fun c hc hn=>?_,hC.kin,hC.ro.trans fun c B e hro=>?_,hC.sane.memH hE hN,fun c hc=>hC.fresh c (by omega)⟩,?_,hml,hkeep⟩
 ·rw[hkeep c (by have :=hC.len;omega) (by omega) (by omega)]
  exact hC.keep c hc hn
 ·rcases u0 hE hN e with⟨g1,-,g3⟩|⟨i,C,g1,rfl⟩
  ·exact⟨g3,g1⟩
  ·have :=jg hrw i C g1
   have e2:(C.ren (ah (az [pb,xb] H.length h'))).ro=C.ro:=rfl
   rw[e2,this] at hro;cases hro
 ·have e:(List.range' 2 31).map (ah (az [pb,xb] H.length h'))=List.range' H.length 31:=by
   refine List.ext_getElem (by simp) fun i h1 h2=>?_
   rw[List.getElem_map,List.getElem_range',List.getElem_range',mL (by simp) (by simp at h1;omega)]
   simp
  rw[e] at hE3
  exact hE3
theorem CurL.jcall {m h':List (Option Blk)}{sg:List Nat}(hC:CurL K0 H0 K H)(hs:∀ b∈sg,H0.length≤b)(hE:Emb sg m H)(hrw:fh h')(hbl:aO h'.length h')(hl:m.length≤h'.length):CurL K0 H0 K (memH sg H h'):=by
 have hN:Nxt m h':=⟨hl,fun b B e _=>jg hrw b B e,jI hbl⟩
 refine⟨by rw[jb];have :=hC.len;omega,fun c hc hn=>?_,hC.kin,hC.ro.trans fun c B e hro=>?_,hC.sane.memH hE hN,fun c hc=>hC.fresh c (by rw[jb] at hc;omega)⟩
 ·rw[mD (by have :=hC.len;omega) fun hm=>by have :=hs c hm;omega]
  exact hC.keep c hc hn
 ·rcases u0 hE hN e with⟨g1,-,g3⟩|⟨i,C,g1,rfl⟩
  ·exact⟨g3,g1⟩
  ·have :=jg hrw i C g1
   have e2:(C.ren (ah (az sg H.length h'))).ro=C.ro:=rfl
   rw[e2,this] at hro;cases hro
theorem CurL.cutJ (h:CurL K0 H0 K H){a:Nat}(ha:H0.length≤a):CurL K0 H0 K (H.set a none):=
 ⟨by rw[List.length_set];exact h.len,fun c hc hn=>by rw[cp (by omega)];exact h.keep c hc hn,h.kin,h.ro.cut,h.sane.cutO (some a),fun b hb=>h.fresh b (by rw[List.length_set] at hb;exact hb)⟩
theorem Emb.range {N n:Nat}{d:List (Option Blk)}(h:Emb (List.range' N n) d H)(hle:H.length≤H'.length)(hk:∀ b,N≤b→b<N+n→ab H' b=ab H b):Emb (List.range' N n) d H':=
 h.stay hle fun i B e=>by
  have :=h.mem (aM e)
  rw[List.mem_range'_1] at this
  exact hk _ this.1 this.2
theorem y9 {N n:Nat}(h:0<n):ah (List.range' N n) 0=N:=by
 unfold ah
 rw[List.getD_eq_getElem?_getD,List.getElem?_eq_getElem (by simpa using h),List.getElem_range']
 simp
theorem CurL.app3 (hC:CurL K0 H0 K H)(x y z:List V)(hx:aa (H.length+1) x)(hy:aa (H.length+2) y)(hz:aa (H.length+3) z):∃ M,H++[bK x]++[bK y]++[bK z]=M∧CurL K0 H0 K M∧
  (∀ b,b<H.length→ab M b=ab H b)∧ab M H.length=bK x∧ab M (H.length+1+1)=bK z∧M.length=H.length+3:=by
 refine⟨_,rfl,((hC.junk hx).junk (by simpa using hy)).junk (by simpa using hz),fun b hb=>by rw[List.append_assoc,List.append_assoc];exact dx hb _,Br,?_,by simp⟩
 have :=cP (H:=H++[bK x]++[bK y]) (x:=bK z)
 simpa using this
theorem LS.make {l na n0 n1 N0 N1:Nat}{d0 d1 F:List (Option Blk)}(hC:CurL (fun _=>0) H (fun _=>0) F)(q0:H.length≤l)(q1:l<N0)(q2:N0+31≤n0)(q3:n0<N1)(q4:N1+31≤n1)(q5:n1<na)(q6:na<F.length)
  (gl:ab F l=bK [.slice na 0 2 1,.nilSlice]) (ga:ab F na=bK [.ptr n0 0,.ptr n1 0]) (g0:ab F n0=bK [.ptr N0 0,.nilSlice]) (g1:ab F n1=bK [.ptr N1 0,.nilSlice])
  (E0:Emb (List.range' N0 31) d0 F) (E1:Emb (List.range' N1 31) d1 F) (v0:Dv d0) (v1:Dv d1):∃ K',CurL (fun _=>0) H K' F∧LS K' F l d0 d1 none 0 0:=by
 refine⟨fun b=>if b=l then 1 else if b=na then 2 else if b=n0 then 3 else if b=n1 then 4 else if N0≤b∧b<N0+31 then 8 else if N1≤b∧b<N1+31 then 9 else 0,⟨hC.len,hC.keep,fun b hb _=>?_,hC.ro,hC.sane,fun b hb=>?_⟩,na,n0,n1,.nilSlice,List.range' N0 31,List.range' N1 31,.nilSlice,.nilSlice,⟨?_,?_,gl,ga,.inl ⟨rfl,rfl⟩⟩,⟨?_,fun b hb=>?_,by rw[y9 (by decide)];exact g0,E0,.inl ⟨rfl,rfl⟩,v0⟩,⟨?_,fun b hb=>?_,by rw[y9 (by decide)];exact g1,E1,.inl ⟨rfl,rfl⟩,v1⟩⟩
 ·rw[if_neg (by omega),if_neg (by omega),if_neg (by omega),if_neg (by omega),if_neg (by omega),if_neg (by omega)]
 ·rw[if_neg (by omega),if_neg (by omega),if_neg (by omega),if_neg (by omega),if_neg (by omega),if_neg (by omega)]
 ·rw[if_pos rfl]
 ·rw[if_neg (by omega),if_pos rfl]
 ·rw[if_neg (by omega),if_neg (by omega),if_pos rfl]
 ·rw[List.mem_range'_1] at hb
  rw[if_neg (by omega),if_neg (by omega),if_neg (by omega),if_neg (by omega),if_pos (by omega)]
 ·rw[if_neg (by omega),if_neg (by omega),if_neg (by omega),if_pos rfl]
 ·rw[List.mem_range'_1] at hb
  rw[if_neg (by omega),if_neg (by omega),if_neg (by omega),if_neg (by omega),if_neg (by omega),if_pos (by omega)]
end
section
variable {K K0:Nat→Nat}{H H0 H':List (Option Blk)}{K':Nat→Nat}{l na x0 x1 x k kk k0 k1 kX kY rn rd ra b bs sb:Nat}{e i:Int}
def fF:Nat→Nat:=fun _=>0
noncomputable def oZ (seed:List ac):DS:=⟨1#32,kN seed 0,ai (kN seed 0),kN seed 10,2,1#64,(⟨1#32,kN seed 0,ai (kN seed 0),kN seed 10,2,0#64,[],0#32,0,0⟩:DS).keyV,0#32,0,0⟩
noncomputable def o0 (seed:List ac):DS:=⟨2#32,kN seed 1,ai (kN seed 1),kN seed 11,2,1#64,(⟨2#32,kN seed 1,ai (kN seed 1),kN seed 11,2,0#64,[],0#32,0,0⟩:DS).keyV,0#32,0,0⟩
noncomputable def o6 (seed:List ac):PS:=⟨ai (kN seed 1),kN seed 21,2#32,1,1,false,0,0,0#32,[]⟩
noncomputable def o7 (seed:List ac):PS:=⟨ai (kN seed 0),kN seed 21,1#32,1,1,false,0,0,0#32,[]⟩
noncomputable def fG (k:Int) (d:DS) (p:PS):List (Option Blk):=bj k (d.cs .nilSlice .nilSlice) (p.cs .nilSlice .nilPtr .nilPtr .nilPtr .nilPtr) [.bool false,.i64 0,.i64 0,.bool false,.i64 0] 0 ⟨[],0⟩ []
theorem Q8 {seed:List ac}(hs:seed.length=32)(hne:ai (kN seed 1)≠ai (kN seed 0))(hC:CurL K0 H0 fF H)(hb:ab H bs=bK [.i64 2,.i64 2]):
  ∃ v K' H',DoneL Tryz.prog 14 [.slice bs 0 2 1,.str seed] fF H v K' H'∧∃ l,v= .tup [.ptr l 0,.i64 0]∧LS K' H' l (fG 1 (oZ seed) (o6 seed)) (fG 0 (o0 seed) (o7 seed)) none 0 0:=by
 have h32:(seed.length:Int)=32:=by omega
 have hlb:=aM hb
 have hJ:=(hC.start.junk (vs:=[.str seed]) (by simp[aa,V.low])).junk (vs:=[.nilSlice,.nilSlice]) (by simp[aa,V.low])
 refine dg (Post:=fun v K' H'=>∃ l,v= .tup [.ptr l 0,.i64 0]∧LS K' H' l (fG 1 (oZ seed) (o6 seed)) (fG 0 (o0 seed) (o7 seed)) none 0 0) (by kernel_rfl) (fn:=Tryz.f14) Tryz.func14 rfl (by show 2≤108;decide) (ae ?_)
 simp only[go_sem,seval,cP,h32]
 repeat refine aI ?_
 have hsb:=nZ (H:=H) (x:=bK [.str seed]) (Y:=[bK [.nilSlice,.nilSlice]])
 have hlk:ab (H++[bK [.str seed]]++[bK [.nilSlice,.nilSlice]]) (H.length+1)=bK [.nilSlice,.nilSlice]:=by
  have :=cP (H:=H++[bK [.str seed]]) (x:=bK [.nilSlice,.nilSlice])
  simpa using this
 have hbs:=(mS (X:=[bK [.str seed]]) (Y:=[bK [.nilSlice,.nilSlice]]) hlb).trans hb
 have hl2:(H++[bK [.str seed]]++[bK [.nilSlice,.nilSlice]]).length=H.length+2:=by simp
 generalize (H++[bK [.str seed]]++[bK [.nilSlice,.nilSlice]])=M at*
 refine aY 3 ?_
 simp only[go_sem,seval,hbs]
 repeat refine aI ?_
 refine aY 3 ?_
 simp only[go_sem,seval]
 repeat refine aI ?_
 have hP0:ao Tryz.prog 24 [.str (kN seed 0)] (.tup [.str (ai (kN seed 0)),.i64 0]):=jd (kN seed 0) (cY hs 0).2
 have hP1:ao Tryz.prog 24 [.str (kN seed 1)] (.tup [.str (ai (kN seed 1)),.i64 0]):=jd (kN seed 1) (cY hs 1).2
 refine bx (iQ hJ hs hsb 1) (by kernel_rfl) rfl (by simp[aa,V.low,(show H.length<M.length by omega)]) hJ.sane ?_
 rintro _ K10 H10 hC10 hl10 ⟨rfl,hK,e10,le10⟩
 obtain rfl:=hK.symm
 have hJ10:=hJ.trans hC10
 have hsb10:=(e10 _ (by omega)).trans hsb
 simp only[go_sem,seval]
 repeat refine aI ?_
 refine ak (hP1) ?_
 simp only[go_sem,seval]
 repeat refine aI ?_
 refine bx (iQ hJ10 hs hsb10 21) (by kernel_rfl) rfl (by simp[aa,V.low,(show H.length<H10.length by omega)]) hJ10.sane ?_
 rintro _ K20 H20 hC20 hl20 ⟨rfl,hK,e20,le20⟩
 obtain rfl:=hK.symm
 have hJ20:=hJ10.trans hC20
 have hsb20:=(e20 _ (by omega)).trans hsb10
 simp only[go_sem,seval,BitVec.reduceHShiftLeft,BitVec.reduceAdd]
 repeat refine aI ?_
 obtain⟨M30,eM,hJ30,a30,hxb0,hpb0,l30⟩:=hJ20.app3 [.u32 167772416#32,.i64 24] [.str (ai (kN seed 1)),.str (kN seed 21),.u32 2#32,.slice H20.length 0 1 2] [.str (ai (kN seed 1)),.str (kN seed 21),.u32 2#32,.slice H20.length 0 1 2] (by simp[aa,V.low]) (by simp[aa,V.low]) (by simp[aa,V.low])
 rw[eM]
 clear eM
 have hsb30:=(a30 _ (by omega)).trans hsb20
 refine bx (iQ hJ30 hs hsb30 0) (by kernel_rfl) rfl (by simp[aa,V.low,(show H.length<M30.length by omega)]) hJ30.sane ?_
 rintro _ K40 H40 hC40 hl40 ⟨rfl,hK,e40,le40⟩
 obtain rfl:=hK.symm
 have hJ40:=hJ30.trans hC40
 have hsb40:=(e40 _ (by omega)).trans hsb30
 simp only[go_sem,seval]
 repeat refine aI ?_
 refine bx (iQ hJ40 hs hsb40 10) (by kernel_rfl) rfl (by simp[aa,V.low,(show H.length<H40.length by omega)]) hJ40.sane ?_
 rintro _ K50 H50 hC50 hl50 ⟨rfl,hK,e50,le50⟩
 obtain rfl:=hK.symm
 have hJ50:=hJ40.trans hC50
 have hsb50:=(e50 _ (by omega)).trans hsb40
 simp only[go_sem,seval]
 repeat refine aI ?_
 have hpb50:=(e50 _ (by omega)).trans ((e40 _ (by omega)).trans hpb0)
 have hxb50:=(e50 _ (by omega)).trans ((e40 _ (by omega)).trans hxb0)
 have hE0:Emb [H20.length+1+1,H20.length] [bK [.str (ai (kN seed 1)),.str (kN seed 21),.u32 2#32,.slice 1 0 1 2],bK [.u32 167772416#32,.i64 24]] H50:=Emb.of _ rfl (by simp;omega) (by simp;omega) ⟨⟨hpb50,by simp[aa,V.low]⟩,⟨hxb50,by simp[aa,V.low]⟩,trivial⟩
 obtain⟨h0,hX0,hEd0,hrw0,hbl0,hln0,hdv0⟩:=Dl 1 (.inr rfl) 1#32 (by decide) (cY hs 0).2 (cY hs 10).2 (bw (kN seed 1)) (cY hs 21).2 hne 2#32 rfl
 have hfit0:=mL (sg:=[H20.length+1+1,H20.length]) (nid:=H50.length) (h':=h0) (i:=2) (by simp) (by omega)
 refine my (v':= .tup [.ptr H50.length 0,.i64 0]) hE0 hX0 ⟨by simp;omega,fun b B e _=>jg hrw0 b B e,jI hbl0⟩ (by kernel_rfl) rfl (by simp[aa,V.low]) (by simp only[V.ren,rens,hfit0];rfl) ?_
 obtain⟨hJ60,hEm0,l60,a60⟩:=Dm hJ50 (by omega) (by omega) (by omega) rfl hE0 hEd0 hrw0 hbl0 hln0 rfl rfl
 generalize memH [H20.length+1+1,H20.length] H50 h0=M60 at*
 have hsb60:=(a60 _ (by omega) (by omega) (by omega)).trans hsb50
 have k60:∀ b,b<H20.length→ab M60 b=ab H20 b:=fun b hb=>(a60 b (by omega) (by omega) (by omega)).trans ((e50 b (by omega)).trans ((e40 b (by omega)).trans (a30 b hb)))
 have hlk6:=(k60 _ (by omega)).trans ((e20 _ (by omega)).trans ((e10 _ (by omega)).trans hlk))
 have a70:∀ (X Y Z:List (Option Blk)) b,b<M60.length→ab (M60++X++Y++Z) b=ab M60 b:=fun X Y Z b hb=>by rw[List.append_assoc,List.append_assoc];exact dx hb _
 have hlk6':=fun X Y Z=>(a70 X Y Z _ (show H.length+1<M60.length by omega)).trans hlk6
 have hbs6':=fun X Y Z=>(a70 X Y Z _ (show bs<M60.length by omega)).trans ((k60 _ (by omega)).trans ((e20 _ (by omega)).trans ((e10 _ (by omega)).trans hbs)))
 simp only[go_sem,seval,hlk6,hlk6']
 repeat refine aI ?_
 obtain⟨M7,eM,hJ7,a7,nd0,hna0,l70⟩:=hJ60.app3 [.ptr H50.length 0,.nilSlice] [.ptr M60.length 0] [.ptr M60.length 0] (by simp[aa,V.low];omega) (by simp[aa,V.low]) (by simp[aa,V.low])
 rw[eM]
 clear eM a70
 have hJ70:=hJ7.jput (b:=H.length+1) (vs:=[.slice (M60.length+1+1) 0 1 1,.nilSlice]) (by omega) (by simp[aa,V.low];omega)
 have a80:∀ b,b<M60.length→b≠H.length+1→ab (M7.set (H.length+1) (bK [.slice (M60.length+1+1) 0 1 1,.nilSlice])) b=ab M60 b:=fun b hb hn=>(cp (Ne.symm hn) _).trans (a7 b hb)
 have hlk8:ab (M7.set (H.length+1) (bK [.slice (M60.length+1+1) 0 1 1,.nilSlice])) (H.length+1)=bK [.slice (M60.length+1+1) 0 1 1,.nilSlice]:=iJ (by omega) _
 have nd8:ab (M7.set (H.length+1) (bK [.slice (M60.length+1+1) 0 1 1,.nilSlice])) M60.length=bK [.ptr H50.length 0,.nilSlice]:=(cp (by omega) _).trans nd0
 have hna8:ab (M7.set (H.length+1) (bK [.slice (M60.length+1+1) 0 1 1,.nilSlice])) (M60.length+1+1)=bK [.ptr M60.length 0]:=(cp (by omega) _).trans hna0
 have l80:(M7.set (H.length+1) (bK [.slice (M60.length+1+1) 0 1 1,.nilSlice])).length=M60.length+3:=by rw[List.length_set];exact l70
 clear nd0 hna0 hlk6'
 generalize (M7.set (H.length+1) (bK [.slice (M60.length+1+1) 0 1 1,.nilSlice]))=M8 at*
 have hsb8:=(a80 _ (by omega) (by omega)).trans hsb60
 have hbs8:=(a80 bs (by omega) (by omega)).trans ((k60 _ (by omega)).trans ((e20 _ (by omega)).trans ((e10 _ (by omega)).trans hbs)))
 simp only[go_sem,seval,hbs8]
 repeat refine aI ?_
 refine aY 3 ?_
 simp only[go_sem,seval]
 repeat refine aI ?_
 refine bx (iQ hJ70 hs hsb8 0) (by kernel_rfl) rfl (by simp[aa,V.low,(show H.length<M8.length by omega)]) hJ70.sane ?_
 rintro _ K11 H11 hC11 hl11 ⟨rfl,hK,e11,le11⟩
 obtain rfl:=hK.symm
 have hJ11:=hJ70.trans hC11
 have hsb11:=(e11 _ (by omega)).trans hsb8
 simp only[go_sem,seval]
 repeat refine aI ?_
 refine ak (hP0) ?_
 simp only[go_sem,seval]
 repeat refine aI ?_
 refine bx (iQ hJ11 hs hsb11 21) (by kernel_rfl) rfl (by simp[aa,V.low,(show H.length<H11.length by omega)]) hJ11.sane ?_
 rintro _ K21 H21 hC21 hl21 ⟨rfl,hK,e21,le21⟩
 obtain rfl:=hK.symm
 have hJ21:=hJ11.trans hC21
 have hsb21:=(e21 _ (by omega)).trans hsb11
 simp only[go_sem,seval,BitVec.reduceHShiftLeft,BitVec.reduceAdd]
 repeat refine aI ?_
 obtain⟨M31,eM,hJ31,a31,hxb1,hpb1,l31⟩:=hJ21.app3 [.u32 167772160#32,.i64 24] [.str (ai (kN seed 0)),.str (kN seed 21),.u32 1#32,.slice H21.length 0 1 2] [.str (ai (kN seed 0)),.str (kN seed 21),.u32 1#32,.slice H21.length 0 1 2] (by simp[aa,V.low]) (by simp[aa,V.low]) (by simp[aa,V.low])
 rw[eM]
 clear eM
 have hsb31:=(a31 _ (by omega)).trans hsb21
 refine bx (iQ hJ31 hs hsb31 1) (by kernel_rfl) rfl (by simp[aa,V.low,(show H.length<M31.length by omega)]) hJ31.sane ?_
 rintro _ K41 H41 hC41 hl41 ⟨rfl,hK,e41,le41⟩
 obtain rfl:=hK.symm
 have hJ41:=hJ31.trans hC41
 have hsb41:=(e41 _ (by omega)).trans hsb31
 simp only[go_sem,seval]
 repeat refine aI ?_
 refine bx (iQ hJ41 hs hsb41 11) (by kernel_rfl) rfl (by simp[aa,V.low,(show H.length<H41.length by omega)]) hJ41.sane ?_
 rintro _ K51 H51 hC51 hl51 ⟨rfl,hK,e51,le51⟩
 obtain rfl:=hK.symm
 have hJ51:=hJ41.trans hC51
 have hsb51:=(e51 _ (by omega)).trans hsb41
 simp only[go_sem,seval]
 repeat refine aI ?_
 have hpb51:=(e51 _ (by omega)).trans ((e41 _ (by omega)).trans hpb1)
 have hxb51:=(e51 _ (by omega)).trans ((e41 _ (by omega)).trans hxb1)
 have hE1:Emb [H21.length+1+1,H21.length] [bK [.str (ai (kN seed 0)),.str (kN seed 21),.u32 1#32,.slice 1 0 1 2],bK [.u32 167772160#32,.i64 24]] H51:=Emb.of _ rfl (by simp;omega) (by simp;omega) ⟨⟨hpb51,by simp[aa,V.low]⟩,⟨hxb51,by simp[aa,V.low]⟩,trivial⟩
 obtain⟨h1,hX1,hEd1,hrw1,hbl1,hln1,hdv1⟩:=Dl 0 (.inl rfl) 2#32 (by decide) (cY hs 1).2 (cY hs 11).2 (bw (kN seed 0)) (cY hs 21).2 (Ne.symm hne) 1#32 rfl
 have hfit1:=mL (sg:=[H21.length+1+1,H21.length]) (nid:=H51.length) (h':=h1) (i:=2) (by simp) (by omega)
 refine my (v':= .tup [.ptr H51.length 0,.i64 0]) hE1 hX1 ⟨by simp;omega,fun b B e _=>jg hrw1 b B e,jI hbl1⟩ (by kernel_rfl) rfl (by simp[aa,V.low]) (by simp only[V.ren,rens,hfit1];rfl) ?_
 obtain⟨hJ61,hEm1,l61,a61⟩:=Dm hJ51 (by omega) (by omega) (by omega) rfl hE1 hEd1 hrw1 hbl1 hln1 rfl rfl
 generalize memH [H21.length+1+1,H21.length] H51 h1=M61 at*
 have hsb61:=(a61 _ (by omega) (by omega) (by omega)).trans hsb51
 have k61:∀ b,b<H21.length→ab M61 b=ab H21 b:=fun b hb=>(a61 b (by omega) (by omega) (by omega)).trans ((e51 b (by omega)).trans ((e41 b (by omega)).trans (a31 b hb)))
 have k81:∀ b,b<M8.length→ab M61 b=ab M8 b:=fun b hb=>(k61 _ (by omega)).trans ((e21 _ (by omega)).trans (e11 _ (by omega)))
 have hlk9:=(k81 _ (by omega)).trans hlk8
 have hna9:=(k81 _ (by omega)).trans hna8
 have hlt9:=aM hlk9
 have hnt9:=aM hna9
 have a91:=fun(X Y Z:List (Option Blk))=>(Bt (X:=X) (Y:=Y) (Z:=Z) (x:=none) hlt9 (show M60.length+1+1≠H.length+1 by omega)).trans hlk9
 simp only[go_sem,seval,hlk9,hna9,mS hnt9,a91]
 repeat refine aI ?_
 have hlM:((M61++[bK [.ptr H51.length 0,.nilSlice]]++[bK [.ptr M61.length 0]]).set (M60.length+1+1) none++[bK [.ptr M60.length 0,.ptr M61.length 0]]).length=M61.length+3:=by simp
 have hlS:(((M61++[bK [.ptr H51.length 0,.nilSlice]]++[bK [.ptr M61.length 0]]).set (M60.length+1+1) none++[bK [.ptr M60.length 0,.ptr M61.length 0]]).set (H.length+1) (bK [.slice (M61.length+1+1) 0 2 1,.nilSlice])).length=M61.length+3:=by rw[List.length_set];exact hlM
 have hJ9:=((((hJ61.junk (vs:=[.ptr H51.length 0,.nilSlice]) (by simp[aa,V.low];omega)).junk (vs:=[.ptr M61.length 0]) (by simp[aa,V.low];omega)).cutJ (a:=M60.length+1+1) (by omega)).junk (vs:=[.ptr M60.length 0,.ptr M61.length 0]) (by simp[aa,V.low];omega)).jput (b:=H.length+1) (vs:=[.slice (M61.length+1+1) 0 2 1,.nilSlice]) (by omega) (by simp[aa,V.low])
 have k9:∀ b,b<M61.length→b≠M60.length+1+1→b≠H.length+1→ab (((M61++[bK [.ptr H51.length 0,.nilSlice]]++[bK [.ptr M61.length 0]]).set (M60.length+1+1) none++[bK [.ptr M60.length 0,.ptr M61.length 0]]).set (H.length+1) (bK [.slice (M61.length+1+1) 0 2 1,.nilSlice])) b=ab M61 b:=fun b hb h1 h2=>(cp (Ne.symm h2) _).trans (Bt hb (Ne.symm h1))
 have z1:ab (((M61++[bK [.ptr H51.length 0,.nilSlice]]++[bK [.ptr M61.length 0]]).set (M60.length+1+1) none++[bK [.ptr M60.length 0,.ptr M61.length 0]]).set (H.length+1) (bK [.slice (M61.length+1+1) 0 2 1,.nilSlice])) (H.length+1)=bK [.slice (M61.length+1+1) 0 2 1,.nilSlice]:=iJ (by omega) _
 have z2:ab (((M61++[bK [.ptr H51.length 0,.nilSlice]]++[bK [.ptr M61.length 0]]).set (M60.length+1+1) none++[bK [.ptr M60.length 0,.ptr M61.length 0]]).set (H.length+1) (bK [.slice (M61.length+1+1) 0 2 1,.nilSlice])) (M61.length+1+1)=bK [.ptr M60.length 0,.ptr M61.length 0]:=by
  rw[cp (by omega)]
  have :=cP (H:=(M61++[bK [.ptr H51.length 0,.nilSlice]]++[bK [.ptr M61.length 0]]).set (M60.length+1+1) none) (x:=bK [.ptr M60.length 0,.ptr M61.length 0])
  simpa using this
 have z3:ab (((M61++[bK [.ptr H51.length 0,.nilSlice]]++[bK [.ptr M61.length 0]]).set (M60.length+1+1) none++[bK [.ptr M60.length 0,.ptr M61.length 0]]).set (H.length+1) (bK [.slice (M61.length+1+1) 0 2 1,.nilSlice])) M61.length=bK [.ptr H51.length 0,.nilSlice]:=by
  rw[cp (by omega),dx (by simp),cp (by omega)]
  exact nZ
 generalize (((M61++[bK [.ptr H51.length 0,.nilSlice]]++[bK [.ptr M61.length 0]]).set (M60.length+1+1) none++[bK [.ptr M60.length 0,.ptr M61.length 0]]).set (H.length+1) (bK [.slice (M61.length+1+1) 0 2 1,.nilSlice]))=F at*
 have z4:=(k9 _ (by omega) (by omega) (by omega)).trans ((k81 _ (by omega)).trans nd8)
 obtain⟨KF,hCF,hLS⟩:=LS.make hJ9 (by omega) (by omega) (by omega) (by omega) (by omega) (by omega) (by omega) z1 z2 z4 z3 (hEm0.range (by omega) fun b h1 h2=>(k9 b (by omega) (by omega) (by omega)).trans ((k81 b (by omega)).trans (a80 b (by omega) (by omega)))) (hEm1.range (by omega) fun b h1 h2=>k9 b (by omega) (by omega) (by omega)) hdv0 hdv1
 exact EndL.of hCF ⟨(show H.length+1<F.length by omega),trivial,trivial⟩ ⟨_,rfl,hLS⟩
theorem Cc {seed:List ac}(hs:seed.length=32)(he:ai (kN seed 1)=ai (kN seed 0))(hC:CurL K0 H0 fF H)(hb:ab H bs=bK [.i64 2,.i64 2]):
  ∃ v K' H',DoneL Tryz.prog 14 [.slice bs 0 2 1,.str seed] fF H v K' H'∧v= .tup [.nilPtr,.i64 8]:=by
 have h32:(seed.length:Int)=32:=by omega
 have hlb:=aM hb
 have hJ:=(hC.start.junk (vs:=[.str seed]) (by simp[aa,V.low])).junk (vs:=[.nilSlice,.nilSlice]) (by simp[aa,V.low])
 refine dg (Post:=fun v K' H'=>v= .tup [.nilPtr,.i64 8]) (by kernel_rfl) (fn:=Tryz.f14) Tryz.func14 rfl (by show 2≤108;decide) (ae ?_)
 simp only[go_sem,seval,cP,h32]
 repeat refine aI ?_
 have hsb:=nZ (H:=H) (x:=bK [.str seed]) (Y:=[bK [.nilSlice,.nilSlice]])
 have hlk:ab (H++[bK [.str seed]]++[bK [.nilSlice,.nilSlice]]) (H.length+1)=bK [.nilSlice,.nilSlice]:=by
  have :=cP (H:=H++[bK [.str seed]]) (x:=bK [.nilSlice,.nilSlice])
  simpa using this
 have hbs:=(mS (X:=[bK [.str seed]]) (Y:=[bK [.nilSlice,.nilSlice]]) hlb).trans hb
 have hl2:(H++[bK [.str seed]]++[bK [.nilSlice,.nilSlice]]).length=H.length+2:=by simp
 generalize (H++[bK [.str seed]]++[bK [.nilSlice,.nilSlice]])=M at*
 refine aY 3 ?_
 simp only[go_sem,seval,hbs]
 repeat refine aI ?_
 refine aY 3 ?_
 simp only[go_sem,seval]
 repeat refine aI ?_
 have hP0:ao Tryz.prog 24 [.str (kN seed 0)] (.tup [.str (ai (kN seed 0)),.i64 0]):=jd (kN seed 0) (cY hs 0).2
 have hP1:ao Tryz.prog 24 [.str (kN seed 1)] (.tup [.str (ai (kN seed 1)),.i64 0]):=jd (kN seed 1) (cY hs 1).2
 refine bx (iQ hJ hs hsb 1) (by kernel_rfl) rfl (by simp[aa,V.low,(show H.length<M.length by omega)]) hJ.sane ?_
 rintro _ K10 H10 hC10 hl10 ⟨rfl,hK,e10,le10⟩
 obtain rfl:=hK.symm
 have hJ10:=hJ.trans hC10
 have hsb10:=(e10 _ (by omega)).trans hsb
 simp only[go_sem,seval]
 repeat refine aI ?_
 refine ak (hP1) ?_
 simp only[go_sem,seval]
 repeat refine aI ?_
 refine bx (iQ hJ10 hs hsb10 21) (by kernel_rfl) rfl (by simp[aa,V.low,(show H.length<H10.length by omega)]) hJ10.sane ?_
 rintro _ K20 H20 hC20 hl20 ⟨rfl,hK,e20,le20⟩
 obtain rfl:=hK.symm
 have hJ20:=hJ10.trans hC20
 have hsb20:=(e20 _ (by omega)).trans hsb10
 simp only[go_sem,seval,BitVec.reduceHShiftLeft,BitVec.reduceAdd]
 repeat refine aI ?_
 obtain⟨M30,eM,hJ30,a30,hxb0,hpb0,l30⟩:=hJ20.app3 [.u32 167772416#32,.i64 24] [.str (ai (kN seed 1)),.str (kN seed 21),.u32 2#32,.slice H20.length 0 1 2] [.str (ai (kN seed 1)),.str (kN seed 21),.u32 2#32,.slice H20.length 0 1 2] (by simp[aa,V.low]) (by simp[aa,V.low]) (by simp[aa,V.low])
 rw[eM]
 clear eM
 have hsb30:=(a30 _ (by omega)).trans hsb20
 refine bx (iQ hJ30 hs hsb30 0) (by kernel_rfl) rfl (by simp[aa,V.low,(show H.length<M30.length by omega)]) hJ30.sane ?_
 rintro _ K40 H40 hC40 hl40 ⟨rfl,hK,e40,le40⟩
 obtain rfl:=hK.symm
 have hJ40:=hJ30.trans hC40
 have hsb40:=(e40 _ (by omega)).trans hsb30
 simp only[go_sem,seval]
 repeat refine aI ?_
 refine bx (iQ hJ40 hs hsb40 10) (by kernel_rfl) rfl (by simp[aa,V.low,(show H.length<H40.length by omega)]) hJ40.sane ?_
 rintro _ K50 H50 hC50 hl50 ⟨rfl,hK,e50,le50⟩
 obtain rfl:=hK.symm
 have hJ50:=hJ40.trans hC50
 have hsb50:=(e50 _ (by omega)).trans hsb40
 simp only[go_sem,seval]
 repeat refine aI ?_
 have hpb50:=(e50 _ (by omega)).trans ((e40 _ (by omega)).trans hpb0)
 have hxb50:=(e50 _ (by omega)).trans ((e40 _ (by omega)).trans hxb0)
 have hE0:Emb [H20.length+1+1,H20.length] [bK [.str (ai (kN seed 1)),.str (kN seed 21),.u32 2#32,.slice 1 0 1 2],bK [.u32 167772416#32,.i64 24]] H50:=Emb.of _ rfl (by simp;omega) (by simp;omega) ⟨⟨hpb50,by simp[aa,V.low]⟩,⟨hxb50,by simp[aa,V.low]⟩,trivial⟩
 have hX:=I5 1#32 (by decide) (cY hs 0).2 (cY hs 10).2 (bw (kN seed 1)) (cY hs 21).2 he 2#32 167772416#32
 refine my (v':= .tup [.nilPtr,.i64 8]) hE0 hX ⟨Nat.le_refl _,fun b B e _=>jg (by simp only[bE,bD,and_self]) b B e,jI (by simp[aO,aa,V.low])⟩ (by kernel_rfl) rfl (by simp[aa,V.low]) rfl ?_
 have hJ6:=hJ50.jcall (by simp;omega) hE0 (h':=[bK [.str (ai (kN seed 1)),.str (kN seed 21),.u32 2#32,.slice 1 0 1 2],bK [.u32 167772416#32,.i64 24]]) (by simp only[bE,bD,and_self]) (by simp[aO,aa,V.low]) (Nat.le_refl _)
 generalize memH [H20.length+1+1,H20.length] H50 _=M60 at*
 simp only[go_sem,seval]
 repeat refine aI ?_
 exact EndL.of hJ6 ⟨trivial,trivial,trivial⟩ rfl
end
theorem OB (tb0:Int)(mp0:MapC)(k:Int)(hk01:k=0∨k=1)(d:DS)(p:PS)(q:List ac)(hb:d.best=2)(hk:p.knows=1∨p.knows=2)(hq:q.length=32)(hpub:p.pub=ai q)(hpsk:p.psk.length=32)(hown:d.own.length=32)(hseed:d.seed.length=32)(hn:0≤d.now)(hn2:d.now≤1099511627776)(hat:p.at_≠0#32)(hf:0≤d.firsts)(hf2:d.firsts≤1000)
  (src:BitVec 32) {x:List ac} (hx:x.length≤1000) (l u:Int) (o:Bool) (wt:Bool) (hl:0≤l∧l≤1099511627776) (hu:0≤u∧u≤1099511627776):
  DAct 26 [.u32 src,.u32 (if k=0 then 167772160#32 else 167772416#32),.str x] (bj k (d.cs .nilSlice .nilSlice) (p.cs .nilSlice .nilPtr .nilPtr (.nilPtr) .nilPtr) [.bool wt,.i64 0,.i64 l,.bool o,.i64 u] tb0 mp0 []) 0 (some (d.here,p.at_,(marked p.pub (fT p.knows q d.keyV d.own d.now d.firsts 2 (d.index+1#32))))) 0 (bj k ({d with fresh:=d.fresh+1#64,index:=d.index+1#32,firsts:=d.firsts+1}.cs .nilSlice .nilSlice) ({p with bix:=d.index+1#32,btx:=marked p.pub (fT p.knows q d.keyV d.own d.now d.firsts 2 (d.index+1#32))}.cs (.slice 31 0 1 1) (.ptr 32 0) .nilPtr (.nilPtr) .nilPtr) [.bool true,.i64 1,.i64 d.now,.bool o,.i64 u] tb0 mp0 [bK [.str (ar (src.setWidth 64).toNat 4++x)],bK ((aS p.knows q d.keyV d.own d.now d.firsts 2).cs p.knows++[.i64 p.knows,.str d.own,.str (ai q),.str p.psk,.str d.keyV,.u32 (d.index+1#32)])]):=by
 have hX:=Ha k hk01 d p q hb hk hq hpub hpsk hown hseed hn hn2 hat hf hf2 src hx l u o wt hl hu
 unfold bj
 refine mP (T:=?T) {d with fresh:=d.fresh+1#64,index:=d.index+1#32,firsts:=d.firsts+1} 32 _ hX [0,1,2,3,4,5,6,7,8,9,10,11,12,13,14,15,16,17,18,19,20,21,22,23,24,25,26,27,28,29] ?e1 ?lo ?rw ?le rfl ?mm ?dv ?l2 ?lo2 ?hT ?hg [0,1,2,3,4,5,6,7,8,9,10,11,12,13,14,15,16,17,18,19,20,21,22,23,24,25,26,27,28,29,30,31,32] ?e2 rfl ?dv2
 case mm=>
   refine gO [0,1,2,3,4,5,6,7,8,9,10,11,12,13,14,15,16,17,18,19,20,21,22,23,24,25,26,27,28,29,31,32,33] (by rfl) fun σ f=>?_
   simp only[bB,Nat.zero_add,seval] at f
   simp only[DS.cs,PS.cs,fY,fZ,gf,fS,gI,fU,fX,List.map_cons,List.map_nil,ge,rens,V.ren,List.set_cons_zero,List.set_cons_succ,List.cons_append,List.nil_append,mt,HS.rens,f,dz k σ,dC k σ]
   rfl
 case e1=>
   exact cG [0,1,2,3,4,5,6,7,8,9,10,11,12,13,14,15,16,17,18,19,20,21,22,23,24,25,26,27,28,29] (by rfl) (by decide) (by simp) fun σ f=>by
    simp only[bB,Nat.zero_add,seval] at f
    simp only[cF,eV,cE,DS.cs,PS.cs,rens,V.ren,cK,cL,aa,V.low,Nat.zero_add,seval,and_self,List.length_cons,List.length_nil,bG,bH,f,dz k σ,dC k σ]
 case lo=>simp[aa,V.low]
 case rw =>simp only[bE,dh,bD,and_self]
 case le=>simp
 case dv=>exact Dv.of (by simp only[bE,bD,and_self]) (by simp[aO,aa,V.low,DS.cs,jH,HS.low,bG,bH]) (by simp)
 case l2=>simp
 case lo2=>simp[aa,V.low]
 case hT=>simp
 case hg=>rfl
 case e2=>
   exact cG [0,1,2,3,4,5,6,7,8,9,10,11,12,13,14,15,16,17,18,19,20,21,22,23,24,25,26,27,28,29,30,31,32] (by rfl) (by decide) (by simp) fun σ f=>by
    simp only[bB,Nat.zero_add,seval] at f
    simp only[cF,cE,DS.cs,PS.cs,rens,V.ren,cK,cL,aa,V.low,Nat.zero_add,seval,and_self,List.length_cons,List.length_nil,mt,jH,HS.rens,HS.low,bG,bH,f,dz k σ,dC k σ]
 case dv2=>exact Dv.of (by simp only[bE,bD,and_self]) (by simp[aO,aa,V.low,DS.cs,PS.cs,jH,HS.low,bG,bH]) (by simp)
theorem OC (tb0:Int)(mp0:MapC)(k:Int)(hk01:k=0∨k=1)(d:DS)(p:PS)(q:List ac)(hb:d.best=2)(hk:p.knows=1∨p.knows=2)(hq:q.length=32)(hpub:p.pub=ai q)(hpsk:p.psk.length=32)(hown:d.own.length=32)(hseed:d.seed.length=32)(hn:0≤d.now)(hn2:d.now≤1099511627776)(hat:p.at_≠0#32)(hf:0≤d.firsts)(hf2:d.firsts≤1000)
  (src:BitVec 32) {x:List ac} (hx:x.length≤1000) (l u:Int) (o:Bool) (wt:Bool) (hl:0≤l∧l≤1099511627776) (hu:0≤u∧u≤1099511627776) (sd rc:List ac) (su bo se:Int) (fs:Bool) (nx:Int) (bits:BitVec 64) (mine theirs:BitVec 32) (hbo:0≤bo) (hbo2:bo≤1099511627776) (hov:fN bo se d.now=true):
  DAct 26 [.u32 src,.u32 (if k=0 then 167772160#32 else 167772416#32),.str x] (bj k (d.cs .nilSlice .nilSlice) (p.cs .nilSlice .nilPtr .nilPtr (.ptr 33 0) .nilPtr) [.bool wt,.i64 0,.i64 l,.bool o,.i64 u] tb0 mp0 [bK [.i64 nx,.u64 bits],bK [.ptr 31 0,.str sd,.str rc,.i64 su,.i64 bo,.i64 se,.bool fs],some ⟨false,[.ptr 32 0,.i64 su,.u32 mine,.u32 theirs],some ⟨[],0⟩⟩]) 0 (some (d.here,p.at_,(marked p.pub (fT p.knows q d.keyV d.own d.now d.firsts 2 (d.index+1#32))))) 0 (bj k ({d with fresh:=d.fresh+1#64,index:=d.index+1#32,firsts:=d.firsts+1}.cs .nilSlice .nilSlice) ({p with bix:=d.index+1#32,btx:=marked p.pub (fT p.knows q d.keyV d.own d.now d.firsts 2 (d.index+1#32))}.cs (.slice 34 0 1 1) (.ptr 35 0) .nilPtr (.ptr 33 0) .nilPtr) [.bool true,.i64 1,.i64 d.now,.bool o,.i64 u] tb0 mp0 [bK [.i64 nx,.u64 bits],bK [.ptr 31 0,.str sd,.str rc,.i64 su,.i64 bo,.i64 se,.bool fs],some ⟨false,[.ptr 32 0,.i64 su,.u32 mine,.u32 theirs],some ⟨[],0⟩⟩,bK [.str (ar (src.setWidth 64).toNat 4++x)],bK ((aS p.knows q d.keyV d.own d.now d.firsts 2).cs p.knows++[.i64 p.knows,.str d.own,.str (ai q),.str p.psk,.str d.keyV,.u32 (d.index+1#32)])]):=by
 have hX:=Hb k hk01 d p q hb hk hq hpub hpsk hown hseed hn hn2 hat hf hf2 src hx l u o wt hl hu sd rc su bo se fs nx bits mine theirs hbo hbo2 hov
 unfold bj
 refine mP (T:=?T) {d with fresh:=d.fresh+1#64,index:=d.index+1#32,firsts:=d.firsts+1} 35 _ hX [0,1,2,3,4,5,6,7,8,9,10,11,12,13,14,15,16,17,18,19,20,21,22,23,24,25,26,27,28,29,33,32,31] ?e1 ?lo ?rw ?le rfl ?mm ?dv ?l2 ?lo2 ?hT ?hg [0,1,2,3,4,5,6,7,8,9,10,11,12,13,14,15,16,17,18,19,20,21,22,23,24,25,26,27,28,29,30,31,32,33,34,35] ?e2 rfl ?dv2
 case mm=>
   refine gO [0,1,2,3,4,5,6,7,8,9,10,11,12,13,14,15,16,17,18,19,20,21,22,23,24,25,26,27,28,29,33,32,31,34,35,36] (by rfl) fun σ f=>?_
   simp only[bB,Nat.zero_add,seval] at f
   simp only[DS.cs,PS.cs,fY,fZ,gf,fS,gI,fU,fX,List.map_cons,List.map_nil,ge,rens,V.ren,List.set_cons_zero,List.set_cons_succ,List.cons_append,List.nil_append,mt,HS.rens,f,dz k σ,dC k σ]
   rfl
 case e1=>
   exact cG [0,1,2,3,4,5,6,7,8,9,10,11,12,13,14,15,16,17,18,19,20,21,22,23,24,25,26,27,28,29,33,32,31] (by rfl) (by decide) (by simp) fun σ f=>by
    simp only[bB,Nat.zero_add,seval] at f
    simp only[cF,eV,cE,DS.cs,PS.cs,rens,V.ren,cK,cL,aa,V.low,Nat.zero_add,seval,and_self,List.length_cons,List.length_nil,bG,bH,f,dz k σ,dC k σ]
 case lo=>simp[aa,V.low]
 case rw =>simp only[bE,dh,bD,and_self]
 case le=>simp
 case dv=>exact Dv.of (by simp only[bE,bD,and_self]) (by simp[aO,aa,V.low,DS.cs,jH,HS.low,bG,bH]) (by simp)
 case l2=>simp
 case lo2=>simp[aa,V.low]
 case hT=>simp
 case hg=>rfl
 case e2=>
   exact cG [0,1,2,3,4,5,6,7,8,9,10,11,12,13,14,15,16,17,18,19,20,21,22,23,24,25,26,27,28,29,30,31,32,33,34,35] (by rfl) (by decide) (by simp) fun σ f=>by
    simp only[bB,Nat.zero_add,seval] at f
    simp only[cF,cE,DS.cs,PS.cs,rens,V.ren,cK,cL,aa,V.low,Nat.zero_add,seval,and_self,List.length_cons,List.length_nil,mt,jH,HS.rens,HS.low,bG,bH,f,dz k σ,dC k σ]
 case dv2=>exact Dv.of (by simp only[bE,bD,and_self]) (by simp[aO,aa,V.low,DS.cs,PS.cs,jH,HS.low,bG,bH]) (by simp)
theorem OD (tb0:Int)(mp0:MapC)(k:Int)(hk01:k=0∨k=1)(d:DS)(p:PS){su:Int}(hs:su=1∨su=2){sd:List ac}(rc:List ac)(hk:sd.length=32)(bo se:Int)(fs:Bool)(next:Int)(bits:BitVec 64)(mine theirs:BitVec 32)(hn:0≤d.now)(hn2:d.now≤1099511627776)(hb:0≤bo)(hb2:bo≤1099511627776)(hnb:d.now<bo+120)(hse:0≤se)(hse2:se<900)(hat:p.at_≠0#32)
  (src:BitVec 32) {x:List ac} (hx:x.length≤1000) (t l u:Int) (o:Bool) (ht:0≤t) (ht2:t≤1000) (hl:0≤l∧l≤1099511627776) (hu:0≤u∧u≤1099511627776):
  DAct 26 [.u32 src,.u32 (if k=0 then 167772160#32 else 167772416#32),.str x] (bj k (d.cs .nilSlice .nilSlice) (p.cs .nilSlice .nilPtr (.ptr 34 0) (.ptr 33 0) .nilPtr) [.bool false,.i64 t,.i64 l,.bool o,.i64 u] tb0 mp0 [bK [.i64 next,.u64 bits],bK [.ptr 31 0,.str sd,.str rc,.i64 su,.i64 bo,.i64 se,.bool fs],some ⟨false,[.ptr 32 0,.i64 su,.u32 mine,.u32 theirs],some ⟨[],0⟩⟩,none]) 0 (some (d.here,p.at_,(bu theirs se (aZ su sd se (ar (src.setWidth 64).toNat 4++x))))) 0 (bj k (d.cs .nilSlice .nilSlice) (p.cs .nilSlice .nilPtr (.ptr 34 0) (.ptr 33 0) .nilPtr) [.bool false,.i64 t,.i64 l,.bool false,.i64 u] tb0 mp0 [bK [.i64 next,.u64 bits],bK [.ptr 31 0,.str sd,.str rc,.i64 su,.i64 bo,.i64 (se+1),.bool fs],some ⟨false,[.ptr 32 0,.i64 su,.u32 mine,.u32 theirs],some ⟨[],0⟩⟩,none]):=by
 have hX:=KO k hk01 d p hs rc hk bo se fs next bits mine theirs hn hn2 hb hb2 hnb hse hse2 hat src hx t l u o ht ht2 hl hu
 unfold bj
 refine mP (T:=?T) d 34 _ hX [0,1,2,3,4,5,6,7,8,9,10,11,12,13,14,15,16,17,18,19,20,21,22,23,24,25,26,27,28,29,33,32,31,34] ?e1 ?lo ?rw ?le rfl ?mm ?dv ?l2 ?lo2 ?hT ?hg [0,1,2,3,4,5,6,7,8,9,10,11,12,13,14,15,16,17,18,19,20,21,22,23,24,25,26,27,28,29,30,31,32,33,34] ?e2 rfl ?dv2
 case mm=>
   refine gO [0,1,2,3,4,5,6,7,8,9,10,11,12,13,14,15,16,17,18,19,20,21,22,23,24,25,26,27,28,29,33,32,31,34,35] (by rfl) fun σ f=>?_
   simp only[bB,Nat.zero_add,seval] at f
   simp only[DS.cs,PS.cs,fY,fZ,gf,fS,gI,fU,fX,List.map_cons,List.map_nil,ge,rens,V.ren,List.set_cons_zero,List.set_cons_succ,List.cons_append,List.nil_append,f,dz k σ,dC k σ]
   rfl
 case e1=>
   exact cG [0,1,2,3,4,5,6,7,8,9,10,11,12,13,14,15,16,17,18,19,20,21,22,23,24,25,26,27,28,29,33,32,31,34] (by rfl) (by decide) (by simp) fun σ f=>by
    simp only[bB,Nat.zero_add,seval] at f
    simp only[cF,eV,cE,DS.cs,PS.cs,rens,V.ren,cK,cL,aa,V.low,Nat.zero_add,seval,and_self,List.length_cons,List.length_nil,bG,bH,f,dz k σ,dC k σ]
 case lo=>simp[aa,V.low]
 case rw =>simp only[bE,dh,bD,and_self]
 case le=>simp
 case dv=>exact Dv.of (by simp only[bE,dh,bD,and_self]) (by simp[aO,aa,V.low,DS.cs,bG,bH]) (by simp)
 case l2=>simp
 case lo2=>simp[aa,V.low]
 case hT=>simp
 case hg=>rfl
 case e2=>
   exact cG [0,1,2,3,4,5,6,7,8,9,10,11,12,13,14,15,16,17,18,19,20,21,22,23,24,25,26,27,28,29,30,31,32,33,34] (by rfl) (by decide) (by simp) fun σ f=>by
    simp only[bB,Nat.zero_add,seval] at f
    simp only[cF,eV,cE,DS.cs,PS.cs,rens,V.ren,cK,cL,aa,V.low,Nat.zero_add,seval,and_self,List.length_cons,List.length_nil,bG,bH,f,dz k σ,dC k σ]
 case dv2=>exact Dv.of (by simp only[bE,dh,bD,and_self]) (by simp[aO,aa,V.low,DS.cs,PS.cs,bG,bH]) (by simp)
theorem KY (k:Int)(hk01:k=0∨k=1)(wt0:Bool)(tt0 tl0:Int)(to0:Bool)(tu0:Int)(d:DS)(p:PS){su:Int}(hs:su=1∨su=2)(hbest:d.best=2)(hpin:p.pin=1)(hpub:d.pub=ai d.own)(hsec:d.secret.length=32)(hseed:d.seed.length=32)(hpsk:p.psk.length=32)(hown:d.own.length=32)(hn:0≤d.now)(hn2:d.now≤1099511627776){once own:List ac}(ho:once.length=32)(hw:own.length=32)(hpp:p.pub=ai own){sec nano:Int}(hsn:sec=0∧nano=0∨sec=200∧nano=1)(hst:p.stamped=false)(id fr:BitVec 32)(hfr:fr≠0#32)
  (t0:Int) (m:MapC) (hm:m.ok) (hv:∀ e∈m.es,0≤e.2.2∧e.2.2≤100) (ht0:0≤t0) (ht1:t0≤1099511627776) (htk:(bR t0 d.now fr m).1=0):
  DAct 48 [.u32 fr,.str (marked d.pub (fT su d.own once own sec nano 2 id))] (bj k (d.cs .nilSlice .nilSlice) (p.cs .nilSlice .nilPtr .nilPtr (.nilPtr) .nilPtr) [.bool wt0,.i64 tt0,.i64 tl0,.bool to0,.i64 tu0] t0 m []) 0 (some (d.here,fr,(marked p.pub (bd su (aS su d.own once own sec nano 2) d.keyV once own p.psk 2 (d.index+1#32) id)))) 0 (bj k ({d with fresh:=d.fresh+1#64,index:=d.index+1#32}.cs .nilSlice .nilSlice) ({p with knows:=2,at_:=fr,stamped:=true,sec:=sec,nano:=nano}.cs .nilSlice .nilPtr .nilPtr (.nilPtr) (.ptr 33 0)) [.bool wt0,.i64 tt0,.i64 tl0,.bool to0,.i64 tu0] ((bR t0 d.now fr m).2.1) ((bR t0 d.now fr m).2.2) [bK [.i64 0,.u64 0#64],bK [.ptr 31 0,.str (gK su (aS su d.own once own sec nano 2) d.keyV once own p.psk 2 1),.str (gK su (aS su d.own once own sec nano 2) d.keyV once own p.psk 2 0),.i64 su,.i64 d.now,.i64 0,.bool false],some ⟨false,[.ptr 32 0,.i64 su,.u32 (d.index+1#32),.u32 id],some ⟨[],0⟩⟩]):=by
 have hX:=F6 d p hs hbest hpin hpub hsec hseed hpsk hown hn hn2 ho hw hpp hsn hst id fr hfr t0 m hm hv ht0 ht1 htk
 unfold bj
 refine mP (T:=?T) {d with fresh:=d.fresh+1#64,index:=d.index+1#32} 33 _ hX [0,1,2,3,4,5,30] ?e1 ?lo ?rw ?le rfl ?mm ?dv ?l2 ?lo2 ?hT ?hg [0,1,2,3,4,5,6,7,8,9,10,11,12,13,14,15,16,17,18,19,20,21,22,23,24,25,26,27,28,29,30,31,32,33] ?e2 rfl ?dv2
 case mm=>
   refine gO [0,1,2,3,4,5,30,31,32,33,34] (by rfl) fun σ f=>?_
   simp only[bB,Nat.zero_add,seval] at f
   simp only[DS.cs,PS.cs,fY,fZ,gf,fS,gI,fU,fX,List.map_cons,List.map_nil,ge,rens,V.ren,List.set_cons_zero,List.set_cons_succ,List.cons_append,List.nil_append,f]
   rfl
 case e1=>
   exact cG [0,1,2,3,4,5,30] (by rfl) (by decide) (by simp) fun σ f=>by
    simp only[bB,Nat.zero_add,seval] at f
    simp only[cF,eV,cE,DS.cs,PS.cs,rens,V.ren,cK,cL,aa,V.low,Nat.zero_add,seval,and_self,List.length_cons,List.length_nil,f]
 case lo=>simp[aa,V.low]
 case rw =>simp only[bE,dh,bD,and_self]
 case le=>simp
 case dv=>exact Dv.of (by simp only[bE,bD,and_self]) (by simp[aO,aa,V.low,DS.cs,bG,bH]) (by simp)
 case l2=>simp
 case lo2=>simp[aa,V.low]
 case hT=>simp
 case hg=>rfl
 case e2=>
   exact cG [0,1,2,3,4,5,6,7,8,9,10,11,12,13,14,15,16,17,18,19,20,21,22,23,24,25,26,27,28,29,30,31,32,33] (by rfl) (by decide) (by simp) fun σ f=>by
    simp only[bB,Nat.zero_add,seval] at f
    simp only[cF,cE,DS.cs,PS.cs,rens,V.ren,cK,cL,aa,V.low,Nat.zero_add,seval,and_self,List.length_cons,List.length_nil,bG,bH,f,dz k σ,dC k σ]
 case dv2=>exact Dv.of (by simp only[bE,bD,and_self]) (by simp[aO,aa,V.low,DS.cs,PS.cs,bG,bH]) (by simp)
theorem KZ (k:Int)(hk01:k=0∨k=1)(wt0:Bool)(tt0 tl0:Int)(to0:Bool)(tu0:Int)(d:DS)(p:PS){su:Int}(hs:su=1∨su=2)(hbest:d.best=2)(hpin:p.pin=1)(hpub:d.pub=ai d.own)(hsec:d.secret.length=32)(hseed:d.seed.length=32)(hpsk:p.psk.length=32)(hown:d.own.length=32)(hn:0≤d.now)(hn2:d.now≤1099511627776){once own:List ac}(ho:once.length=32)(hw:own.length=32)(hpp:p.pub=ai own){sec nano:Int}(hsn:sec=0∧nano=0∨sec=200∧nano=1)(hst:p.stamped=true∧later sec nano p.sec p.nano)(id fr:BitVec 32)(hfr:fr≠0#32)
  (t0:Int) (m:MapC) (hm:m.ok) (hv:∀ e∈m.es,0≤e.2.2∧e.2.2≤100) (ht0:0≤t0) (ht1:t0≤1099511627776) (htk:(bR t0 d.now fr m).1=0) (nx0:Int) (bits0:BitVec 64) (sd0 rc0:List ac) (su0 bo0 se0:Int) (fs0:Bool) (mi0 th0:BitVec 32):
  DAct 48 [.u32 fr,.str (marked d.pub (fT su d.own once own sec nano 2 id))] (bj k (d.cs .nilSlice .nilSlice) (p.cs .nilSlice .nilPtr .nilPtr (.ptr 33 0) .nilPtr) [.bool wt0,.i64 tt0,.i64 tl0,.bool to0,.i64 tu0] t0 m [bK [.i64 nx0,.u64 bits0],bK [.ptr 31 0,.str sd0,.str rc0,.i64 su0,.i64 bo0,.i64 se0,.bool fs0],some ⟨false,[.ptr 32 0,.i64 su0,.u32 mi0,.u32 th0],some ⟨[],0⟩⟩]) 0 (some (d.here,fr,(marked p.pub (bd su (aS su d.own once own sec nano 2) d.keyV once own p.psk 2 (d.index+1#32) id)))) 0 (bj k ({d with fresh:=d.fresh+1#64,index:=d.index+1#32}.cs .nilSlice .nilSlice) ({p with knows:=2,at_:=fr,stamped:=true,sec:=sec,nano:=nano}.cs .nilSlice .nilPtr .nilPtr (.ptr 33 0) (.ptr 36 0)) [.bool wt0,.i64 tt0,.i64 tl0,.bool to0,.i64 tu0] ((bR t0 d.now fr m).2.1) ((bR t0 d.now fr m).2.2) [bK [.i64 nx0,.u64 bits0],bK [.ptr 31 0,.str sd0,.str rc0,.i64 su0,.i64 bo0,.i64 se0,.bool fs0],some ⟨false,[.ptr 32 0,.i64 su0,.u32 mi0,.u32 th0],some ⟨[],0⟩⟩,bK [.i64 0,.u64 0#64],bK [.ptr 34 0,.str (gK su (aS su d.own once own sec nano 2) d.keyV once own p.psk 2 1),.str (gK su (aS su d.own once own sec nano 2) d.keyV once own p.psk 2 0),.i64 su,.i64 d.now,.i64 0,.bool false],some ⟨false,[.ptr 35 0,.i64 su,.u32 (d.index+1#32),.u32 id],some ⟨[],0⟩⟩]):=by
 have hX:=F7 d p hs hbest hpin hpub hsec hseed hpsk hown hn hn2 ho hw hpp hsn hst id fr hfr t0 m hm hv ht0 ht1 htk
 unfold bj
 refine mP (T:=?T) {d with fresh:=d.fresh+1#64,index:=d.index+1#32} 36 _ hX [0,1,2,3,4,5,30,33] ?e1 ?lo ?rw ?le rfl ?mm ?dv ?l2 ?lo2 ?hT ?hg [0,1,2,3,4,5,6,7,8,9,10,11,12,13,14,15,16,17,18,19,20,21,22,23,24,25,26,27,28,29,30,31,32,33,34,35,36] ?e2 rfl ?dv2
 case mm=>
   refine gO [0,1,2,3,4,5,30,33,34,35,36,37] (by rfl) fun σ f=>?_
   simp only[bB,Nat.zero_add,seval] at f
   simp only[DS.cs,PS.cs,fY,fZ,gf,fS,gI,fU,fX,List.map_cons,List.map_nil,ge,rens,V.ren,List.set_cons_zero,List.set_cons_succ,List.cons_append,List.nil_append,f]
   rfl
 case e1=>
   exact cG [0,1,2,3,4,5,30,33] (by rfl) (by decide) (by simp) fun σ f=>by
    simp only[bB,Nat.zero_add,seval] at f
    simp only[cF,eV,cE,DS.cs,PS.cs,rens,V.ren,cK,cL,aa,V.low,Nat.zero_add,seval,and_self,List.length_cons,List.length_nil,f]
 case lo=>simp[aa,V.low]
 case rw =>simp only[bE,dh,bD,and_self]
 case le=>simp
 case dv=>exact Dv.of (by simp only[bE,bD,and_self]) (by simp[aO,aa,V.low,DS.cs,bG,bH]) (by simp)
 case l2=>simp
 case lo2=>simp[aa,V.low]
 case hT=>simp
 case hg=>rfl
 case e2=>
   exact cG [0,1,2,3,4,5,6,7,8,9,10,11,12,13,14,15,16,17,18,19,20,21,22,23,24,25,26,27,28,29,30,31,32,33,34,35,36] (by rfl) (by decide) (by simp) fun σ f=>by
    simp only[bB,Nat.zero_add,seval] at f
    simp only[cF,cE,DS.cs,PS.cs,rens,V.ren,cK,cL,aa,V.low,Nat.zero_add,seval,and_self,List.length_cons,List.length_nil,bG,bH,f,dz k σ,dC k σ]
 case dv2=>exact Dv.of (by simp only[bE,bD,and_self]) (by simp[aO,aa,V.low,DS.cs,PS.cs,bG,bH]) (by simp)
theorem I6 (k:Int)(hk01:k=0∨k=1)(tb0:Int)(mp0:MapC)(d:DS)(p:PS){su:Int}(hs:su=1∨su=2)(hpin:p.pin=1)(hpub:d.pub.length=32)(hsec:d.secret.length=32)(hpsk:p.psk.length=32)(hown:d.own.length=32)(hn:0≤d.now)(hn2:d.now≤1099511627776){S:HS}(hS:S.ok){e once:List ac}(he:e.length=32)(ho:once.length=32)(peer:List ac)(id2 fr:BitVec 32)(hfr:fr≠0#32)
  {x:List ac} (hx:x.length≤2000) (t l u:Int) (o wt:Bool) (ht:0≤t) (ht2:t≤1000):
  DAct 48 [.u32 fr,.str (marked d.pub (bd su S e once d.own p.psk 2 id2 p.bix))] (bj k (d.cs .nilSlice .nilSlice) (p.cs (.slice 31 0 1 1) (.ptr 32 0) .nilPtr (.nilPtr) .nilPtr) [.bool wt,.i64 t,.i64 l,.bool o,.i64 u] tb0 mp0 [bK [.str x],bK (S.cs su++[.i64 su,.str d.own,.str peer,.str p.psk,.str once,.u32 p.bix])]) 0 (some (d.here,fr,(bu id2 0 (aZ su (gK su S e once d.own p.psk 2 0) 0 x)))) 0 (bj k (d.cs .nilSlice .nilSlice) ({p with knows:=2,pin:=su,at_:=fr}.cs .nilSlice .nilPtr (.nilPtr) (.ptr 33 0) .nilPtr) [.bool false,.i64 0,.i64 l,.bool false,.i64 u] tb0 mp0 [bK [.i64 0,.u64 0#64],bK [.ptr 31 0,.str (gK su S e once d.own p.psk 2 0),.str (gK su S e once d.own p.psk 2 1),.i64 su,.i64 d.now,.i64 1,.bool true],some ⟨false,[.ptr 32 0,.i64 su,.u32 p.bix,.u32 id2],some ⟨[],0⟩⟩]):=by
 have hX:=Fk d p hs hpin hpub hsec hpsk hown hn hn2 hS he ho peer id2 fr hfr hx t l u o wt ht ht2
 unfold bj
 refine mP (T:=?T) d 35 _ hX [0,1,2,3,4,5,31,32] ?e1 ?lo ?rw ?le rfl ?mm ?dv ?l2 ?lo2 ?hT ?hg [0,1,2,3,4,5,6,7,8,9,10,11,12,13,14,15,16,17,18,19,20,21,22,23,24,25,26,27,28,29,30,33,34,35] ?e2 rfl ?dv2
 case mm=>
   refine gO [0,1,2,3,4,5,31,32,33,34,35,36] (by rfl) fun σ f=>?_
   simp only[bB,Nat.zero_add,seval] at f
   simp only[DS.cs,PS.cs,fY,fZ,gf,fS,gI,fU,fX,List.map_cons,List.map_nil,ge,vw,rens,V.ren,List.set_cons_zero,List.set_cons_succ,List.cons_append,List.nil_append,f]
   rfl
 case e1=>
   exact cG [0,1,2,3,4,5,31,32] (by rfl) (by decide) (by simp) fun σ f=>by
    simp only[bB,Nat.zero_add,seval] at f
    simp only[cF,eV,cE,DS.cs,PS.cs,rens,V.ren,cK,cL,aa,V.low,Nat.zero_add,seval,and_self,List.length_cons,List.length_nil,mt,jH,HS.rens,HS.low,f]
 case lo=>simp[aa,V.low]
 case rw =>simp only[bE,dh,bD,and_self]
 case le=>simp
 case dv=>exact Dv.of (by simp only[bE,dh,bD,and_self]) (by simp[aO,aa,V.low,DS.cs,bG,bH]) (by simp)
 case l2=>simp
 case lo2=>simp[aa,V.low]
 case hT=>simp
 case hg=>rfl
 case e2=>
   exact cG [0,1,2,3,4,5,6,7,8,9,10,11,12,13,14,15,16,17,18,19,20,21,22,23,24,25,26,27,28,29,30,33,34,35] (by rfl) (by decide) (by simp) fun σ f=>by
    simp only[bB,Nat.zero_add,seval] at f
    simp only[cF,cE,DS.cs,PS.cs,rens,V.ren,cK,cL,aa,V.low,Nat.zero_add,seval,and_self,List.length_cons,List.length_nil,bG,bH,f,dz k σ,dC k σ]
 case dv2=>exact Dv.of (by simp only[bE,bD,and_self]) (by simp[aO,aa,V.low,DS.cs,PS.cs,bG,bH]) (by simp)
theorem I7 (k:Int)(hk01:k=0∨k=1)(tb0:Int)(mp0:MapC)(d:DS)(p:PS){su:Int}(hs:su=1∨su=2)(hpin:p.pin=1)(hpub:d.pub.length=32)(hsec:d.secret.length=32)(hpsk:p.psk.length=32)(hown:d.own.length=32)(hn:0≤d.now)(hn2:d.now≤1099511627776){S:HS}(hS:S.ok){e once:List ac}(he:e.length=32)(ho:once.length=32)(peer:List ac)(id2 fr:BitVec 32)(hfr:fr≠0#32)
  {x:List ac} (hx:x.length≤2000) (t l u:Int) (o wt:Bool) (ht:0≤t) (ht2:t≤1000) (nx0:Int) (bits0:BitVec 64) (sd0 rc0:List ac) (su0 bo0 se0:Int) (fs0:Bool) (mi0 th0:BitVec 32):
  DAct 48 [.u32 fr,.str (marked d.pub (bd su S e once d.own p.psk 2 id2 p.bix))] (bj k (d.cs .nilSlice .nilSlice) (p.cs (.slice 34 0 1 1) (.ptr 35 0) .nilPtr (.ptr 33 0) .nilPtr) [.bool wt,.i64 t,.i64 l,.bool o,.i64 u] tb0 mp0 [bK [.i64 nx0,.u64 bits0],bK [.ptr 31 0,.str sd0,.str rc0,.i64 su0,.i64 bo0,.i64 se0,.bool fs0],some ⟨false,[.ptr 32 0,.i64 su0,.u32 mi0,.u32 th0],some ⟨[],0⟩⟩,bK [.str x],bK (S.cs su++[.i64 su,.str d.own,.str peer,.str p.psk,.str once,.u32 p.bix])]) 0 (some (d.here,fr,(bu id2 0 (aZ su (gK su S e once d.own p.psk 2 0) 0 x)))) 0 (bj k (d.cs .nilSlice .nilSlice) ({p with knows:=2,pin:=su,at_:=fr}.cs .nilSlice .nilPtr (.ptr 34 0) (.ptr 33 0) .nilPtr) [.bool false,.i64 0,.i64 l,.bool false,.i64 u] tb0 mp0 [bK [.i64 0,.u64 0#64],bK [.ptr 31 0,.str (gK su S e once d.own p.psk 2 0),.str (gK su S e once d.own p.psk 2 1),.i64 su,.i64 d.now,.i64 1,.bool true],some ⟨false,[.ptr 32 0,.i64 su,.u32 p.bix,.u32 id2],some ⟨[],0⟩⟩,none]):=by
 have hX:=Fl d p hs hpin hpub hsec hpsk hown hn hn2 hS he ho peer id2 fr hfr hx t l u o wt ht ht2
 unfold bj
 refine mP (T:=?T) d 38 _ hX [0,1,2,3,4,5,33,34,35] ?e1 ?lo ?rw ?le rfl ?mm ?dv ?l2 ?lo2 ?hT ?hg [0,1,2,3,4,5,6,7,8,9,10,11,12,13,14,15,16,17,18,19,20,21,22,23,24,25,26,27,28,29,30,36,37,38,33] ?e2 rfl ?dv2
 case mm=>
   refine gO [0,1,2,3,4,5,33,34,35,36,37,38,39] (by rfl) fun σ f=>?_
   simp only[bB,Nat.zero_add,seval] at f
   simp only[DS.cs,PS.cs,fY,fZ,gf,fS,gI,fU,fX,List.map_cons,List.map_nil,ge,vw,rens,V.ren,List.set_cons_zero,List.set_cons_succ,List.cons_append,List.nil_append,f]
   rfl
 case e1=>
   exact cG [0,1,2,3,4,5,33,34,35] (by rfl) (by decide) (by simp) fun σ f=>by
    simp only[bB,Nat.zero_add,seval] at f
    simp only[cF,eV,cE,DS.cs,PS.cs,rens,V.ren,cK,cL,aa,V.low,Nat.zero_add,seval,and_self,List.length_cons,List.length_nil,mt,jH,HS.rens,HS.low,f]
 case lo=>simp[aa,V.low]
 case rw =>simp only[bE,dh,bD,and_self]
 case le=>simp
 case dv=>exact Dv.of (by simp only[bE,dh,bD,and_self]) (by simp[aO,aa,V.low,DS.cs,bG,bH]) (by simp)
 case l2=>simp
 case lo2=>simp[aa,V.low]
 case hT=>simp
 case hg=>rfl
 case e2=>
   exact cG [0,1,2,3,4,5,6,7,8,9,10,11,12,13,14,15,16,17,18,19,20,21,22,23,24,25,26,27,28,29,30,36,37,38,33] (by rfl) (by decide) (by simp) fun σ f=>by
    simp only[bB,Nat.zero_add,seval] at f
    simp only[cF,eV,cE,DS.cs,PS.cs,rens,V.ren,cK,cL,aa,V.low,Nat.zero_add,seval,and_self,List.length_cons,List.length_nil,bG,bH,f,dz k σ,dC k σ]
 case dv2=>exact Dv.of (by simp only[bE,dh,bD,and_self]) (by simp[aO,aa,V.low,DS.cs,PS.cs,bG,bH]) (by simp)
theorem OE (tb0:Int)(mp0:MapC)(k:Int)(hk01:k=0∨k=1)(d:DS)(p:PS){su:Int}(hs:su=1∨su=2)(hpin:p.pin=1)(sd:List ac){rc:List ac}(hk:rc.length=32)(bo se:Int)(fs:Bool)(nx:Int)(bits:BitVec 64)(mine theirs:BitVec 32)(hn:0≤d.now)(hn2:d.now≤1099511627776)(hb:0≤bo)(hb2:bo≤1099511627776)(hnb:d.now<bo+180)(hx0:0≤nx)(hx1:nx≤1099511627777){n:Int}(hn0:0≤n)(hn1:n≤100000)(hc:eK nx bits n=0)
  (fr:BitVec 32) {x:List ac} (hx:x.length≤1000) (t l u:Int) (o wt:Bool) (ht:0≤t) (ht2:t≤1000):
  DAct 48 [.u32 fr,.str (bu mine n (aZ su rc n (ar ((if k=0 then 167772160#32 else 167772416#32:BitVec 32).setWidth 64).toNat 4++x)))] (bj k (d.cs .nilSlice .nilSlice) (p.cs .nilSlice .nilPtr (.nilPtr) (.nilPtr) (.ptr 33 0)) [.bool wt,.i64 t,.i64 l,.bool o,.i64 u] tb0 mp0 [bK [.i64 nx,.u64 bits],bK [.ptr 31 0,.str sd,.str rc,.i64 su,.i64 bo,.i64 se,.bool fs],some ⟨false,[.ptr 32 0,.i64 su,.u32 mine,.u32 theirs],some ⟨[],0⟩⟩]) 0 none 1 (bj k (d.cs .nilSlice .nilSlice) ({p with at_:=fr,pin:=su}.cs .nilSlice .nilPtr (.nilPtr) (.ptr 33 0) .nilPtr) [.bool false,.i64 0,.i64 l,.bool true,.i64 (if o=true then u else d.now)] tb0 mp0 [bK [.i64 (cR nx n),.u64 (dq nx bits n)],bK [.ptr 31 0,.str sd,.str rc,.i64 su,.i64 bo,.i64 se,.bool fs],some ⟨false,[.ptr 32 0,.i64 su,.u32 mine,.u32 theirs],some ⟨[],0⟩⟩]):=by
 have hX:=Hg k hk01 d p hs hpin sd hk bo se fs nx bits mine theirs hn hn2 hb hb2 hnb hx0 hx1 hn0 hn1 hc fr hx t l u o wt ht ht2
 unfold bj
 refine ww (T:=?T) d 33 hX [0,1,2,3,4,5,6,7,8,9,10,11,12,13,14,15,16,17,18,19,20,21,22,23,24,25,26,27,28,29,33,32,31] ?e1 ?lo ?rw ?le rfl ?mm ?dv ?l2 ?lo2 ?hT ?hg rfl (vU 0 (if k=0 then 167772160#32 else 167772416#32) x) [0,1,2,3,4,5,6,7,8,9,10,11,12,13,14,15,16,17,18,19,20,21,22,23,24,25,26,27,28,29,30,31,32,33] ?e2 rfl ?dv2
 case mm=>
   refine gO [0,1,2,3,4,5,6,7,8,9,10,11,12,13,14,15,16,17,18,19,20,21,22,23,24,25,26,27,28,29,33,32,31,34] (by rfl) fun σ f=>?_
   simp only[bB,Nat.zero_add,seval] at f
   simp only[DS.cs,PS.cs,fY,fZ,gf,fS,gI,fU,fX,List.map_cons,List.map_nil,ge,rens,V.ren,List.set_cons_zero,List.set_cons_succ,List.cons_append,List.nil_append,f,dz k σ,dC k σ]
   rfl
 case e1=>
   exact cG [0,1,2,3,4,5,6,7,8,9,10,11,12,13,14,15,16,17,18,19,20,21,22,23,24,25,26,27,28,29,33,32,31] (by rfl) (by decide) (by simp) fun σ f=>by
    simp only[bB,Nat.zero_add,seval] at f
    simp only[cF,eV,cE,DS.cs,PS.cs,rens,V.ren,cK,cL,aa,V.low,Nat.zero_add,seval,and_self,List.length_cons,List.length_nil,bG,bH,f,dz k σ,dC k σ]
 case lo=>simp[aa,V.low]
 case rw =>simp only[bE,dh,bD,and_self]
 case le=>simp
 case dv=>exact Dv.of (by simp only[bE,bD,and_self]) (by simp[aO,aa,V.low,DS.cs,bG,bH]) (by simp)
 case l2=>simp
 case lo2=>simp[aa,V.low]
 case hT=>simp
 case hg=>rfl
 case e2=>
   exact cG [0,1,2,3,4,5,6,7,8,9,10,11,12,13,14,15,16,17,18,19,20,21,22,23,24,25,26,27,28,29,30,31,32,33] (by rfl) (by decide) (by simp) fun σ f=>by
    simp only[bB,Nat.zero_add,seval] at f
    simp only[cF,cE,DS.cs,PS.cs,rens,V.ren,cK,cL,aa,V.low,Nat.zero_add,seval,and_self,List.length_cons,List.length_nil,bG,bH,f,dz k σ,dC k σ]
 case dv2=>exact Dv.of (by simp only[bE,bD,and_self]) (by simp[aO,aa,V.low,DS.cs,PS.cs,bG,bH]) (by simp)
theorem OF (tb0:Int)(mp0:MapC)(k:Int)(hk01:k=0∨k=1)(d:DS)(p:PS){su:Int}(hs:su=1∨su=2)(hpin:p.pin=1)(sd:List ac){rc:List ac}(hk:rc.length=32)(bo se:Int)(fs:Bool)(nx:Int)(bits:BitVec 64)(mine theirs:BitVec 32)(su2:Int)(m2 th2:BitVec 32)(hm2:¬ m2=mine)(hn:0≤d.now)(hn2:d.now≤1099511627776)(hb:0≤bo)(hb2:bo≤1099511627776)(hnb:d.now<bo+180)(hx0:0≤nx)(hx1:nx≤1099511627777){n:Int}(hn0:0≤n)(hn1:n≤100000)(hc:eK nx bits n=0)
  (fr:BitVec 32) {x:List ac} (hx:x.length≤1000) (t l u:Int) (o wt:Bool) (ht:0≤t) (ht2:t≤1000) (nx0:Int) (bits0:BitVec 64) (sd0 rc0:List ac) (su0 bo0 se0:Int) (fs0:Bool):
  DAct 48 [.u32 fr,.str (bu mine n (aZ su rc n (ar ((if k=0 then 167772160#32 else 167772416#32:BitVec 32).setWidth 64).toNat 4++x)))] (bj k (d.cs .nilSlice .nilSlice) (p.cs .nilSlice .nilPtr (.nilPtr) (.ptr 33 0) (.ptr 36 0)) [.bool wt,.i64 t,.i64 l,.bool o,.i64 u] tb0 mp0 [bK [.i64 nx0,.u64 bits0],bK [.ptr 31 0,.str sd0,.str rc0,.i64 su0,.i64 bo0,.i64 se0,.bool fs0],some ⟨false,[.ptr 32 0,.i64 su2,.u32 m2,.u32 th2],some ⟨[],0⟩⟩,bK [.i64 nx,.u64 bits],bK [.ptr 34 0,.str sd,.str rc,.i64 su,.i64 bo,.i64 se,.bool fs],some ⟨false,[.ptr 35 0,.i64 su,.u32 mine,.u32 theirs],some ⟨[],0⟩⟩]) 0 none 1 (bj k (d.cs .nilSlice .nilSlice) ({p with at_:=fr,pin:=su}.cs .nilSlice .nilPtr (.ptr 34 0) (.ptr 33 0) .nilPtr) [.bool false,.i64 0,.i64 l,.bool true,.i64 (if o=true then u else d.now)] tb0 mp0 [bK [.i64 (cR nx n),.u64 (dq nx bits n)],bK [.ptr 31 0,.str sd,.str rc,.i64 su,.i64 bo,.i64 se,.bool fs],some ⟨false,[.ptr 32 0,.i64 su,.u32 mine,.u32 theirs],some ⟨[],0⟩⟩,none]):=by
 have hX:=Hh k hk01 d p hs hpin sd hk bo se fs nx bits mine theirs su2 m2 th2 hm2 hn hn2 hb hb2 hnb hx0 hx1 hn0 hn1 hc fr hx t l u o wt ht ht2
 unfold bj
 refine ww (T:=?T) d 36 hX [0,1,2,3,4,5,6,7,8,9,10,11,12,13,14,15,16,17,18,19,20,21,22,23,24,25,26,27,28,29,36,35,34,33,32] ?e1 ?lo ?rw ?le rfl ?mm ?dv ?l2 ?lo2 ?hT ?hg rfl (vU 0 (if k=0 then 167772160#32 else 167772416#32) x) [0,1,2,3,4,5,6,7,8,9,10,11,12,13,14,15,16,17,18,19,20,21,22,23,24,25,26,27,28,29,30,34,35,36,33] ?e2 rfl ?dv2
 case mm=>
   refine gO [0,1,2,3,4,5,6,7,8,9,10,11,12,13,14,15,16,17,18,19,20,21,22,23,24,25,26,27,28,29,36,35,34,33,32,37] (by rfl) fun σ f=>?_
   simp only[bB,Nat.zero_add,seval] at f
   simp only[DS.cs,PS.cs,fY,fZ,gf,fS,gI,fU,fX,List.map_cons,List.map_nil,ge,rens,V.ren,List.set_cons_zero,List.set_cons_succ,List.cons_append,List.nil_append,f,dz k σ,dC k σ]
   rfl
 case e1=>
   exact cG [0,1,2,3,4,5,6,7,8,9,10,11,12,13,14,15,16,17,18,19,20,21,22,23,24,25,26,27,28,29,36,35,34,33,32] (by rfl) (by decide) (by simp) fun σ f=>by
    simp only[bB,Nat.zero_add,seval] at f
    simp only[cF,eV,cE,DS.cs,PS.cs,rens,V.ren,cK,cL,aa,V.low,Nat.zero_add,seval,and_self,List.length_cons,List.length_nil,bG,bH,f,dz k σ,dC k σ]
 case lo=>simp[aa,V.low]
 case rw =>simp only[bE,dh,bD,and_self]
 case le=>simp
 case dv=>exact Dv.of (by simp only[bE,bD,and_self]) (by simp[aO,aa,V.low,DS.cs,bG,bH]) (by simp)
 case l2=>simp
 case lo2=>simp[aa,V.low]
 case hT=>simp
 case hg=>rfl
 case e2=>
   exact cG [0,1,2,3,4,5,6,7,8,9,10,11,12,13,14,15,16,17,18,19,20,21,22,23,24,25,26,27,28,29,30,34,35,36,33] (by rfl) (by decide) (by simp) fun σ f=>by
    simp only[bB,Nat.zero_add,seval] at f
    simp only[cF,eV,cE,DS.cs,PS.cs,rens,V.ren,cK,cL,aa,V.low,Nat.zero_add,seval,and_self,List.length_cons,List.length_nil,bG,bH,f,dz k σ,dC k σ]
 case dv2=>exact Dv.of (by simp only[bE,dh,bD,and_self]) (by simp[aO,aa,V.low,DS.cs,PS.cs,bG,bH]) (by simp)
theorem OG (tb0:Int)(mp0:MapC)(k:Int)(hk01:k=0∨k=1)(d:DS)(p:PS){su:Int}(hs:su=1∨su=2)(sd:List ac){rc:List ac}(hk:rc.length=32)(bo se:Int)(fs:Bool)(nx:Int)(bits:BitVec 64)(mine theirs:BitVec 32)(hn:0≤d.now)(hn2:d.now≤1099511627776)(hb:0≤bo)(hb2:bo≤1099511627776)(hnb:d.now<bo+180)(hx0:0≤nx)(hx1:nx≤1099511627777){n:Int}(hn0:0≤n)(hn1:n≤100000)(hc:eK nx bits n=0)
  (fr:BitVec 32) {x:List ac} (hx:x.length≤1000) (t l u:Int) (o wt:Bool) (ht:0≤t) (ht2:t≤1000):
  DAct 48 [.u32 fr,.str (bu mine n (aZ su rc n (ar ((if k=0 then 167772160#32 else 167772416#32:BitVec 32).setWidth 64).toNat 4++x)))] (bj k (d.cs .nilSlice .nilSlice) (p.cs .nilSlice .nilPtr (.ptr 34 0) (.ptr 33 0) (.nilPtr)) [.bool wt,.i64 t,.i64 l,.bool o,.i64 u] tb0 mp0 [bK [.i64 nx,.u64 bits],bK [.ptr 31 0,.str sd,.str rc,.i64 su,.i64 bo,.i64 se,.bool fs],some ⟨false,[.ptr 32 0,.i64 su,.u32 mine,.u32 theirs],some ⟨[],0⟩⟩,none]) 0 none 1 (bj k (d.cs .nilSlice .nilSlice) ({p with at_:=fr}.cs .nilSlice .nilPtr (.ptr 34 0) (.ptr 33 0) .nilPtr) [.bool wt,.i64 t,.i64 l,.bool true,.i64 (if o=true then u else d.now)] tb0 mp0 [bK [.i64 (cR nx n),.u64 (dq nx bits n)],bK [.ptr 31 0,.str sd,.str rc,.i64 su,.i64 bo,.i64 se,.bool fs],some ⟨false,[.ptr 32 0,.i64 su,.u32 mine,.u32 theirs],some ⟨[],0⟩⟩,none]):=by
 have hX:=Hi k hk01 d p hs sd hk bo se fs nx bits mine theirs hn hn2 hb hb2 hnb hx0 hx1 hn0 hn1 hc fr hx t l u o wt ht ht2
 unfold bj
 refine ww (T:=?T) d 34 hX [0,1,2,3,4,5,6,7,8,9,10,11,12,13,14,15,16,17,18,19,20,21,22,23,24,25,26,27,28,29,33,32,31,34] ?e1 ?lo ?rw ?le rfl ?mm ?dv ?l2 ?lo2 ?hT ?hg rfl (vU 0 (if k=0 then 167772160#32 else 167772416#32) x) [0,1,2,3,4,5,6,7,8,9,10,11,12,13,14,15,16,17,18,19,20,21,22,23,24,25,26,27,28,29,30,31,32,33,34] ?e2 rfl ?dv2
 case mm=>
   refine gO [0,1,2,3,4,5,6,7,8,9,10,11,12,13,14,15,16,17,18,19,20,21,22,23,24,25,26,27,28,29,33,32,31,34,35] (by rfl) fun σ f=>?_
   simp only[bB,Nat.zero_add,seval] at f
   simp only[DS.cs,PS.cs,fY,fZ,gf,fS,gI,fU,fX,List.map_cons,List.map_nil,ge,rens,V.ren,List.set_cons_zero,List.set_cons_succ,List.cons_append,List.nil_append,f,dz k σ,dC k σ]
   rfl
 case e1=>
   exact cG [0,1,2,3,4,5,6,7,8,9,10,11,12,13,14,15,16,17,18,19,20,21,22,23,24,25,26,27,28,29,33,32,31,34] (by rfl) (by decide) (by simp) fun σ f=>by
    simp only[bB,Nat.zero_add,seval] at f
    simp only[cF,eV,cE,DS.cs,PS.cs,rens,V.ren,cK,cL,aa,V.low,Nat.zero_add,seval,and_self,List.length_cons,List.length_nil,bG,bH,f,dz k σ,dC k σ]
 case lo=>simp[aa,V.low]
 case rw =>simp only[bE,dh,bD,and_self]
 case le=>simp
 case dv=>exact Dv.of (by simp only[bE,dh,bD,and_self]) (by simp[aO,aa,V.low,DS.cs,bG,bH]) (by simp)
 case l2=>simp
 case lo2=>simp[aa,V.low]
 case hT=>simp
 case hg=>rfl
 case e2=>
   exact cG [0,1,2,3,4,5,6,7,8,9,10,11,12,13,14,15,16,17,18,19,20,21,22,23,24,25,26,27,28,29,30,31,32,33,34] (by rfl) (by decide) (by simp) fun σ f=>by
    simp only[bB,Nat.zero_add,seval] at f
    simp only[cF,eV,cE,DS.cs,PS.cs,rens,V.ren,cK,cL,aa,V.low,Nat.zero_add,seval,and_self,List.length_cons,List.length_nil,bG,bH,f,dz k σ,dC k σ]
 case dv2=>exact Dv.of (by simp only[bE,dh,bD,and_self]) (by simp[aO,aa,V.low,DS.cs,PS.cs,bG,bH]) (by simp)
theorem OH (k:Int)(hk01:k=0∨k=1)(tb0:Int)(mp0:MapC)(d:DS)(p:PS)(hn:d.now=0)(wt:Bool)(t l:Int)(o:Bool)(u:Int)(hl:0≤l∧l≤1099511627776)(hu:0≤u∧u≤1099511627776)(hx:gn wt t l o u 200=0)(nx0:Int)(bits0:BitVec 64)(sd0 rc0:List ac)(su0 bo0 se0:Int)(fs0:Bool)(mi0 th0:BitVec 32):
  DAct 28 [.i64 200] (bj k (d.cs .nilSlice .nilSlice) (p.cs .nilSlice .nilPtr .nilPtr (.ptr 33 0) .nilPtr) [.bool wt,.i64 t,.i64 l,.bool o,.i64 u] tb0 mp0 [bK [.i64 nx0,.u64 bits0],bK [.ptr 31 0,.str sd0,.str rc0,.i64 su0,.i64 bo0,.i64 se0,.bool fs0],some ⟨false,[.ptr 32 0,.i64 su0,.u32 mi0,.u32 th0],some ⟨[],0⟩⟩]) 0 none 0 (bj k ({d with now:=200}.cs .nilSlice .nilSlice) (p.cs .nilSlice .nilPtr .nilPtr (.ptr 33 0) .nilPtr) [.bool wt,.i64 t,.i64 l,.bool o,.i64 u] tb0 mp0 [bK [.i64 nx0,.u64 bits0],bK [.ptr 31 0,.str sd0,.str rc0,.i64 su0,.i64 bo0,.i64 se0,.bool fs0],some ⟨false,[.ptr 32 0,.i64 su0,.u32 mi0,.u32 th0],some ⟨[],0⟩⟩]):=by
 have hX:=F8 d p hn wt t l o u hl hu hx
 unfold bj
 refine Cb (T:=?T) {d with now:=200} hX [0,1,2,3,4,5,33] ?e1 ?lo ?rw ?le rfl ?mm ?dv ?l2 ?lo2 [0,1,2,3,4,5,6,7,8,9,10,11,12,13,14,15,16,17,18,19,20,21,22,23,24,25,26,27,28,29,30,31,32,33] ?e2 rfl ?dv2
 case mm=>
   refine gO [0,1,2,3,4,5,33] (by rfl) fun σ f=>?_
   simp only[bB,Nat.zero_add,seval] at f
   simp only[DS.cs,PS.cs,fY,fZ,gf,fS,gI,fU,fX,List.map_nil,ge,rens,V.ren,List.set_cons_zero,List.set_cons_succ,List.cons_append,List.nil_append,f]
   rfl
 case e1=>
   exact cG [0,1,2,3,4,5,33] (by rfl) (by decide) (by simp) fun σ f=>by
    simp only[bB,Nat.zero_add,seval] at f
    simp only[cF,eV,cE,DS.cs,PS.cs,rens,V.ren,cK,cL,aa,V.low,Nat.zero_add,seval,and_self,List.length_cons,List.length_nil,f]
 case lo=>simp[aa,V.low]
 case rw =>simp only[bE,dh,bD,and_self]
 case le=>simp
 case dv=>exact Dv.of (by simp only[bE,bD,and_self]) (by simp[aO,aa,V.low,DS.cs,bG,bH]) (by simp)
 case l2=>simp
 case lo2=>simp[aa,V.low]
 case e2=>
   exact cG [0,1,2,3,4,5,6,7,8,9,10,11,12,13,14,15,16,17,18,19,20,21,22,23,24,25,26,27,28,29,30,31,32,33] (by rfl) (by decide) (by simp) fun σ f=>by
    simp only[bB,Nat.zero_add,seval] at f
    simp only[cF,cE,DS.cs,PS.cs,rens,V.ren,cK,cL,aa,V.low,Nat.zero_add,seval,and_self,List.length_cons,List.length_nil,bG,bH,f,dz k σ,dC k σ]
 case dv2=>exact Dv.of (by simp only[bE,bD,and_self]) (by simp[aO,aa,V.low,DS.cs,PS.cs,bG,bH]) (by simp)
theorem OI (k:Int)(hk01:k=0∨k=1)(tb0:Int)(mp0:MapC)(d:DS)(p:PS)(hn:d.now=0)(sd rc:List ac)(su bo se:Int)(fs:Bool)(nx:Int)(bits:BitVec 64)(mine theirs:BitVec 32)(hb:0≤bo)(hb2:bo≤1099511627776)(hb3:fN bo se 200=true)(wt:Bool)(t l:Int)(o:Bool)(u:Int)(ht:0≤t)(ht2:t≤1000)(hl:0≤l∧l≤1099511627776)(hu:0≤u∧u≤1099511627776)(hx:gn wt t l o u 200=2):
  DAct 28 [.i64 200] (bj k (d.cs .nilSlice .nilSlice) (p.cs .nilSlice .nilPtr .nilPtr (.ptr 33 0) .nilPtr) [.bool wt,.i64 t,.i64 l,.bool o,.i64 u] tb0 mp0 [bK [.i64 nx,.u64 bits],bK [.ptr 31 0,.str sd,.str rc,.i64 su,.i64 bo,.i64 se,.bool fs],some ⟨false,[.ptr 32 0,.i64 su,.u32 mine,.u32 theirs],some ⟨[],0⟩⟩]) 0 none 0 (bj k ({d with now:=200}.cs .nilSlice .nilSlice) (p.cs .nilSlice .nilPtr .nilPtr (.ptr 33 0) .nilPtr) [.bool wt,.i64 t,.i64 l,.bool false,.i64 u] tb0 mp0 [bK [.i64 nx,.u64 bits],bK [.ptr 31 0,.str sd,.str rc,.i64 su,.i64 bo,.i64 se,.bool fs],some ⟨false,[.ptr 32 0,.i64 su,.u32 mine,.u32 theirs],some ⟨[],0⟩⟩]):=by
 have hX:=I1 d p hn sd rc su bo se fs nx bits mine theirs hb hb2 hb3 wt t l o u ht ht2 hl hu hx
 unfold bj
 refine Cb (T:=?T) {d with now:=200} hX [0,1,2,3,4,5,33,32,31] ?e1 ?lo ?rw ?le rfl ?mm ?dv ?l2 ?lo2 [0,1,2,3,4,5,6,7,8,9,10,11,12,13,14,15,16,17,18,19,20,21,22,23,24,25,26,27,28,29,30,31,32,33] ?e2 rfl ?dv2
 case mm=>
   refine gO [0,1,2,3,4,5,33,32,31] (by rfl) fun σ f=>?_
   simp only[bB,Nat.zero_add,seval] at f
   simp only[DS.cs,PS.cs,fY,fZ,gf,fS,gI,fU,fX,List.map_nil,ge,rens,V.ren,List.set_cons_zero,List.set_cons_succ,List.cons_append,List.nil_append,f]
   rfl
 case e1=>
   exact cG [0,1,2,3,4,5,33,32,31] (by rfl) (by decide) (by simp) fun σ f=>by
    simp only[bB,Nat.zero_add,seval] at f
    simp only[cF,eV,cE,DS.cs,PS.cs,rens,V.ren,cK,cL,aa,V.low,Nat.zero_add,seval,and_self,List.length_cons,List.length_nil,f]
 case lo=>simp[aa,V.low]
 case rw =>simp only[bE,dh,bD,and_self]
 case le=>simp
 case dv=>exact Dv.of (by simp only[bE,bD,and_self]) (by simp[aO,aa,V.low,DS.cs,bG,bH]) (by simp)
 case l2=>simp
 case lo2=>simp[aa,V.low]
 case e2=>
   exact cG [0,1,2,3,4,5,6,7,8,9,10,11,12,13,14,15,16,17,18,19,20,21,22,23,24,25,26,27,28,29,30,31,32,33] (by rfl) (by decide) (by simp) fun σ f=>by
    simp only[bB,Nat.zero_add,seval] at f
    simp only[cF,cE,DS.cs,PS.cs,rens,V.ren,cK,cL,aa,V.low,Nat.zero_add,seval,and_self,List.length_cons,List.length_nil,bG,bH,f,dz k σ,dC k σ]
 case dv2=>exact Dv.of (by simp only[bE,bD,and_self]) (by simp[aO,aa,V.low,DS.cs,PS.cs,bG,bH]) (by simp)
theorem A5 (k:Int)(hk01:k=0∨k=1)(tb0:Int)(mp0:MapC)(wt0:Bool)(tt0 tl0:Int)(to0:Bool)(tu0:Int)(d:DS)(p:PS)(pr:Nat)(su:Int)(mine theirs:BitVec 32)(nx0:Int)(bits0:BitVec 64)(sd0 rc0:List ac)(bo0 se0:Int)(fs0:Bool):
  Stp Tryz.prog 20 [.ptr 0 0,.i64 0] (bj k (d.cs .nilSlice .nilSlice) (p.cs .nilSlice .nilPtr .nilPtr (.ptr 33 0) .nilPtr) [.bool wt0,.i64 tt0,.i64 tl0,.bool to0,.i64 tu0] tb0 mp0 [bK [.i64 nx0,.u64 bits0],bK [.ptr 31 0,.str sd0,.str rc0,.i64 su,.i64 bo0,.i64 se0,.bool fs0],some ⟨false,[.ptr 32 0,.i64 su,.u32 mine,.u32 theirs],some ⟨[],0⟩⟩]) (.i64 su) (bj k (d.cs .nilSlice .nilSlice) (p.cs .nilSlice .nilPtr .nilPtr (.ptr 33 0) .nilPtr) [.bool wt0,.i64 tt0,.i64 tl0,.bool to0,.i64 tu0] tb0 mp0 [bK [.i64 nx0,.u64 bits0],bK [.ptr 31 0,.str sd0,.str rc0,.i64 su,.i64 bo0,.i64 se0,.bool fs0],some ⟨false,[.ptr 32 0,.i64 su,.u32 mine,.u32 theirs],some ⟨[],0⟩⟩]):=by
 have hX:=Ow d p pr su mine theirs
 unfold bj
 refine⟨vA hX [0,1,2,3,4,5,33,32] ?e1 ?lo ?rw ?le rfl rfl ?mm,?dv,Nat.le_refl _,?lo2,trivial⟩
 case mm=>
   refine gO [0,1,2,3,4,5,33,32] (by rfl) fun σ f=>?_
   simp only[bB,Nat.zero_add,seval] at f
   simp only[DS.cs,PS.cs,fY,fZ,gf,fS,gI,fU,fX,List.map_nil,ge,rens,V.ren,List.set_cons_zero,List.set_cons_succ,List.cons_append,List.nil_append,f]
 case e1=>
   exact cG [0,1,2,3,4,5,33,32] (by rfl) (by decide) (by simp) fun σ f=>by
    simp only[bB,Nat.zero_add,seval] at f
    simp only[cF,eV,cE,DS.cs,PS.cs,rens,V.ren,cK,cL,aa,V.low,Nat.zero_add,seval,and_self,List.length_cons,List.length_nil,f]
 case lo=>simp[aa,V.low]
 case rw =>simp only[bE,dh,bD,and_self]
 case le=>simp
 case dv=>exact Dv.of (by simp only[bE,bD,and_self]) (by simp[aO,aa,V.low,DS.cs,PS.cs,bG,bH]) (by simp)
 case lo2=>simp[aa,V.low]
theorem A6 (k:Int)(hk01:k=0∨k=1)(tb0:Int)(mp0:MapC)(wt0:Bool)(tt0 tl0:Int)(to0:Bool)(tu0:Int)(d:DS)(p:PS)(pr:Nat)(su:Int)(mine theirs:BitVec 32)(nx0:Int)(bits0:BitVec 64)(sd0 rc0:List ac)(bo0 se0:Int)(fs0:Bool):
  Stp Tryz.prog 20 [.ptr 0 0,.i64 0] (bj k (d.cs .nilSlice .nilSlice) (p.cs .nilSlice .nilPtr (.ptr 34 0) (.ptr 33 0) .nilPtr) [.bool wt0,.i64 tt0,.i64 tl0,.bool to0,.i64 tu0] tb0 mp0 [bK [.i64 nx0,.u64 bits0],bK [.ptr 31 0,.str sd0,.str rc0,.i64 su,.i64 bo0,.i64 se0,.bool fs0],some ⟨false,[.ptr 32 0,.i64 su,.u32 mine,.u32 theirs],some ⟨[],0⟩⟩,none]) (.i64 su) (bj k (d.cs .nilSlice .nilSlice) (p.cs .nilSlice .nilPtr (.ptr 34 0) (.ptr 33 0) .nilPtr) [.bool wt0,.i64 tt0,.i64 tl0,.bool to0,.i64 tu0] tb0 mp0 [bK [.i64 nx0,.u64 bits0],bK [.ptr 31 0,.str sd0,.str rc0,.i64 su,.i64 bo0,.i64 se0,.bool fs0],some ⟨false,[.ptr 32 0,.i64 su,.u32 mine,.u32 theirs],some ⟨[],0⟩⟩,none]):=by
 have hX:=KV d p pr su mine theirs
 unfold bj
 refine⟨vA hX [0,1,2,3,4,5,33,32,34] ?e1 ?lo ?rw ?le rfl rfl ?mm,?dv,Nat.le_refl _,?lo2,trivial⟩
 case mm=>
   refine gO [0,1,2,3,4,5,33,32,34] (by rfl) fun σ f=>?_
   simp only[bB,Nat.zero_add,seval] at f
   simp only[DS.cs,PS.cs,fY,fZ,gf,fS,gI,fU,fX,List.map_nil,ge,rens,V.ren,List.set_cons_zero,List.set_cons_succ,List.cons_append,List.nil_append,f]
 case e1=>
   exact cG [0,1,2,3,4,5,33,32,34] (by rfl) (by decide) (by simp) fun σ f=>by
    simp only[bB,Nat.zero_add,seval] at f
    simp only[cF,eV,cE,DS.cs,PS.cs,rens,V.ren,cK,cL,aa,V.low,Nat.zero_add,seval,and_self,List.length_cons,List.length_nil,f]
 case lo=>simp[aa,V.low]
 case rw =>simp only[bE,dh,bD,and_self]
 case le=>simp
 case dv=>exact Dv.of (by simp only[bE,dh,bD,and_self]) (by simp[aO,aa,V.low,DS.cs,PS.cs,bG,bH]) (by simp)
 case lo2=>simp[aa,V.low]
section
theorem VS (k:BitVec 32):(bR 0 200 k ⟨[(0,k,4)],1⟩).1=0:=by
 unfold bR
 rfl
variable {K K0:Nat→Nat}{H H0 H':List (Option Blk)}{K':Nat→Nat}{l kk kX kY:Nat}{g:Option G3}{dX dY dX' dY':List (Option Blk)}{e i:Int}
abbrev cV:=List (Option Blk)
def jD (d:cV):Prop:=Dv d→Dr d none 0 d
theorem iL (k:Int)(d:DS)(pc tc:List V)(t0:Int)(m:MapC)(ex:cV):jD (bj k (d.cs .nilSlice .nilSlice) pc tc t0 m ex):=fun h=>CU d _ h
theorem LX.dv (h:LX i K H l dX dY g kX kY):Dv dX∧Dv dY:=by
 rcases h with⟨rfl,h⟩|⟨rfl,h⟩
 ·exact h.dv
 ·exact h.dv.symm
def D2:V:= .agg [.i64 3,.i64 0,.i64 0,.i64 0,.u32 0#32,.u32 0#32,.str []]
def wQ (i:Int)(dX dY:cV)(g:G3)(kX kY:Nat)(dX' dY':cV)(g':Option G3)(kX' kY':Nat):Prop:=
 ∀ (K0:Nat→Nat) (H0:cV) (K:Nat→Nat) (H:cV) (l:Nat),CurL K0 H0 K H→LX i K H l dX dY (some g) kX kY→∃ v K' H',DoneL Tryz.prog 9 [.ptr l 0,D2] K H v K' H'∧∃ e,v= .i64 e∧LX i K' H' l dX' dY' g' kX' kY'
theorem D3 {fr tg:BitVec 32}{tx:List ac}(htg:i=0∧tg=1#32∨i=1∧tg=2#32)(hX:DAct 48 [.u32 fr,.str tx] dX e g kk dX')(hI:jD dY)(hkX:kX≤1000)(hkY:kY≤1000):wQ i dX dY (fr,tg,tx) kX kY dX' dY g (kX+kk) kY:=fun K0 H0 K H l hC hS=>by
 obtain⟨v,K',H',h1,h2,h3⟩:=Di hC hS htg hX (hI hS.dv.2) hkX hkY
 exact⟨v,K',H',h1,e,h2,h3⟩
theorem qz {fr tg:BitVec 32}{tx:List ac}(htg:i=1∧tg=1#32∨i=0∧tg=2#32)(hY:DAct 48 [.u32 fr,.str tx] dY e g kk dY')(hI:jD dX)(hkX:kX≤1000)(hkY:kY≤1000):wQ i dX dY (fr,tg,tx) kX kY dX dY' g kX (kY+kk):=fun K0 H0 K H l hC hS=>by
 obtain⟨v,K',H',h1,h2,h3⟩:=Di hC hS.swap (by rcases htg with⟨rfl,h⟩|⟨rfl,h⟩;exact .inl ⟨rfl,h⟩;exact .inr ⟨rfl,h⟩) hY (hI hS.dv.1) hkY hkX
 exact⟨v,K',H',h1,e,h2,h3.back⟩
inductive AirRun (i:Int):Nat→cV→cV→Option G3→Nat→Nat→cV→cV→Nat→Nat→Prop
 |done (dX dY:cV) (kX kY:Nat):AirRun i 0 dX dY none kX kY dX dY kX kY
 |step {n:Nat} {dX dY dX1 dY1 dX2 dY2:cV} {g:G3} {g1:Option G3} {kX kY kX1 kY1 fa kY2:Nat} (h1:wQ i dX dY g kX kY dX1 dY1 g1 kX1 kY1) (h2:AirRun i n dX1 dY1 g1 kX1 kY1 dX2 dY2 fa kY2):AirRun i (n+1) dX dY (some g) kX kY dX2 dY2 fa kY2
end
section
def DD (h:BitVec 32)(a s u:List ac)(fr:BitVec 64)(ix:BitVec 32)(fi now:Int):DS:=⟨h,a,ai a,s,2,fr,u,ix,fi,now⟩
def tP (nx:Int)(bits:BitVec 64):Option Blk:=bK [.i64 nx,.u64 bits]
def tq (sd rc:List ac)(su bo se:Int)(fs:Bool):Option Blk:=bK [.ptr 31 0,.str sd,.str rc,.i64 su,.i64 bo,.i64 se,.bool fs]
def tQ (su:Int)(mine theirs:BitVec 32):Option Blk:=some ⟨false,[.ptr 32 0,.i64 su,.u32 mine,.u32 theirs],some ⟨[],0⟩⟩
def tR (wt:Bool)(t l:Int)(o:Bool)(u:Int):List V:=[.bool wt,.i64 t,.i64 l,.bool o,.i64 u]
def StX1 (k:Int)(h:BitVec 32)(a s u:List ac)(h':BitVec 32)(b c:List ac)(now:Int)(d:cV):Prop:=
 ∃ (fr:BitVec 64) (bix:BitVec 32) (btx sd rc:List ac) (l v:Int) (mine theirs:BitVec 32),
  d=bj k ((DD h a s u fr 1#32 1 now).cs .nilSlice .nilSlice) ((⟨ai b,c,h',2,1,false,0,0,bix,btx⟩:PS).cs .nilSlice .nilPtr .nilPtr (.ptr 33 0) .nilPtr) (tR false 0 l false v) 0 ⟨[],0⟩ [tP 0 0#64,tq sd rc 1 0 1 true,tQ 1 mine theirs]∧
  (0≤l∧l≤1000)∧0≤v∧v≤1000
def StY1 (k:Int)(h:BitVec 32)(a s u:List ac)(h':BitVec 32)(b c:List ac)(now:Int)(o:Bool)(d:cV):Prop:=
 ∃ (fr:BitVec 64) (sd rc:List ac) (l v nx:Int) (bits:BitVec 64) (theirs:BitVec 32),
  d=bj k ((DD h a s u fr 1#32 0 now).cs .nilSlice .nilSlice) ((⟨ai b,c,h',2,1,true,0,0,0#32,[]⟩:PS).cs .nilSlice .nilPtr .nilPtr (.ptr 33 0) .nilPtr) (tR false 0 l o v) 0 ⟨[(0,h',4)],1⟩ [tP nx bits,tq sd rc 1 0 0 false,tQ 1 1#32 theirs]∧
  (0≤l∧l≤1000)∧0≤v∧v≤0
variable {i:Int}{h h':BitVec 32}{a b c s s' u u':List ac}{kx ky:Nat}
theorem Xb (hh:i=0∧h=1#32∧h'=2#32∨i=1∧h=2#32∧h'=1#32)(ha:a.length=32)(hb:b.length=32)(hc:c.length=32)(hs:s.length=32)(hs':s'.length=32)(hu:u.length=32)(hu':u'.length=32){x:List ac}(hx:x.length≤1000)(hkx:kx≤900)(hky:ky≤900):
  ∃ X1 g1 X2 Y2,DAct 26 [.u32 (if i=0 then 167772160#32 else 167772416#32),.u32 (if 1-i=0 then 167772160#32 else 167772416#32),.str x] (fG (1-i) (DD h a s u 1#64 0#32 0 0) ⟨ai b,c,h',1,1,false,0,0,0#32,[]⟩) 0 (some g1) 0 X1∧
   AirRun i 3 X1 (fG i (DD h' b s' u' 1#64 0#32 0 0) ⟨ai a,c,h,1,1,false,0,0,0#32,[]⟩) (some g1) kx ky X2 Y2 kx (ky+1)∧StX1 (1-i) h a s u h' b c 0 X2∧StY1 i h' b s' u' h a c 0 true Y2:=by
 have hi:i=0∨i=1:=by omega
 have hi':1-i=0∨1-i=1:=by omega
 have hn:h≠0#32:=by rcases hh with⟨-,rfl,-⟩|⟨-,rfl,-⟩<;>decide
 have hn':h'≠0#32:=by rcases hh with⟨-,-,rfl⟩|⟨-,-,rfl⟩<;>decide
 have tX:i=0∧h=1#32∨i=1∧h=2#32:=by rcases hh with⟨rfl,rfl,-⟩|⟨rfl,rfl,-⟩<;>decide
 have tY:i=1∧h'=1#32∨i=0∧h'=2#32:=by rcases hh with⟨rfl,-,rfl⟩|⟨rfl,-,rfl⟩<;>decide
 have k1:=((DD h a s u 1#64 0#32 0 0).keyV_spec hs).2
 have k2:=((DD h' b s' u' 1#64 0#32 0 0).keyV_spec hs').2
 have A1:=OB 0 ⟨[],0⟩ (1-i) hi' (DD h a s u 1#64 0#32 0 0) ⟨ai b,c,h',1,1,false,0,0,0#32,[]⟩ b rfl (.inl rfl) hb rfl hc ha hs (Int.le_refl _) (show(0:Int)≤1099511627776 by decide) hn' (Int.le_refl _) (show(0:Int)≤1000 by decide) (if i=0 then 167772160#32 else 167772416#32) hx 0 0 false false (by decide) (by decide)
 have B1:=KY i hi false 0 0 false 0 (DD h' b s' u' 1#64 0#32 0 0) ⟨ai a,c,h,1,1,false,0,0,0#32,[]⟩ (su:=1) (.inl rfl) rfl rfl rfl hu' hs' hc hb (Int.le_refl _) (show(0:Int)≤1099511627776 by decide) k1 ha rfl (sec:=0) (nano:=0) (.inl ⟨rfl,rfl⟩) rfl (0#32+1#32) h hn 0 ⟨[],0⟩ ⟨List.nodup_nil,fun _ h=>(by cases h),List.nodup_nil⟩ (fun _ h=>(by cases h)) (Int.le_refl _) (by decide) rfl
 have A2:=I6 (1-i) hi' 0 ⟨[],0⟩ {DD h a s u 1#64 0#32 0 0 with fresh:=1#64+1#64,index:=0#32+1#32,firsts:=0+1} {(⟨ai b,c,h',1,1,false,0,0,0#32,[]⟩:PS) with bix:=0#32+1#32,btx:=marked (ai b) (fT 1 b (DD h a s u 1#64 0#32 0 0).keyV a 0 0 2 (0#32+1#32))} (su:=1) (.inl rfl) rfl (bw a) hu hc ha (Int.le_refl _) (show(0:Int)≤1099511627776 by decide) (S:=aS 1 b (DD h a s u 1#64 0#32 0 0).keyV a 0 0 2) (lN (.inl rfl)) k2 k1 (ai b) (0#32+1#32) h' hn' (x:=ar ((if i=0 then 167772160#32 else 167772416#32:BitVec 32).setWidth 64).toNat 4++x) (by rw[List.length_append,aW];omega) 1 0 0 false true (by decide) (by decide)
 have B2:=OE 0 ⟨[(0,h,4)],1⟩ i hi {DD h' b s' u' 1#64 0#32 0 0 with fresh:=1#64+1#64,index:=0#32+1#32} {(⟨ai a,c,h,1,1,false,0,0,0#32,[]⟩:PS) with knows:=2,at_:=h,stamped:=true,sec:=0,nano:=0} (su:=1) (.inl rfl) rfl (gK 1 (aS 1 b (DD h a s u 1#64 0#32 0 0).keyV a 0 0 2) (DD h' b s' u' 1#64 0#32 0 0).keyV (DD h a s u 1#64 0#32 0 0).keyV a c 2 1) (rc:=gK 1 (aS 1 b (DD h a s u 1#64 0#32 0 0).keyV a 0 0 2) (DD h' b s' u' 1#64 0#32 0 0).keyV (DD h a s u 1#64 0#32 0 0).keyV a c 2 0) (gJ (.inl rfl) (lN (.inl rfl)) hc (by decide)) 0 0 false 0 0#64 (0#32+1#32) (0#32+1#32) (Int.le_refl _) (show(0:Int)≤1099511627776 by decide) (Int.le_refl _) (by decide) (show(0:Int)<0+180 by decide) (Int.le_refl _) (by decide) (n:=0) (Int.le_refl _) (by decide) rfl h hx 0 0 0 false false (by decide) (by decide)
 refine⟨_,_,_,_,A1,.step (qz tY B1 (iL _ _ _ _ _ _ _) (by omega) (by omega)) (.step (D3 tX A2 (iL _ _ _ _ _ _ _) (by omega) (by omega)) (.step (qz tY B2 (iL _ _ _ _ _ _ _) (by omega) (by omega)) (.done _ _ _ _))),?_,?_⟩
 ·exact⟨_,_,_,_,_,_,_,_,_,rfl,⟨Int.le_refl _,(show(0:Int)≤1000 by decide)⟩,Int.le_refl _,(show(0:Int)≤1000 by decide)⟩
 ·exact⟨_,_,_,_,_,_,_,_,rfl,⟨Int.le_refl _,(show(0:Int)≤1000 by decide)⟩,Int.le_refl _,Int.le_refl _⟩
end
section
variable {i k now:Int}{o:Bool}{h h':BitVec 32}{a b c s s' u u':List ac}{kx ky:Nat}{d dX dY:cV}
theorem StX1.idle (hd:StX1 k h a s u h' b c now d):jD d:=by
 obtain⟨fr,bix,btx,sd,rc,l,v,mine,theirs,rfl,-⟩:=hd
 exact iL _ _ _ _ _ _ _
theorem StY1.idle (hd:StY1 k h a s u h' b c now o d):jD d:=by
 obtain⟨fr,sd,rc,l,v,nx,bits,theirs,rfl,-⟩:=hd
 exact iL _ _ _ _ _ _ _
theorem StX1.suite (hk:k=0∨k=1)(hd:StX1 k h a s u h' b c now d):Stp Tryz.prog 20 [.ptr 0 0,.i64 0] d (.i64 1) d:=by
 obtain⟨fr,bix,btx,sd,rc,l,v,mine,theirs,rfl,-⟩:=hd
 exact A5 k hk 0 ⟨[],0⟩ false 0 l false v (DD h a s u fr 1#32 1 now) ⟨ai b,c,h',2,1,false,0,0,bix,btx⟩ 0 1 mine theirs 0 0#64 sd rc 0 1 true
theorem StY1.suite (hk:k=0∨k=1)(hd:StY1 k h a s u h' b c now o d):Stp Tryz.prog 20 [.ptr 0 0,.i64 0] d (.i64 1) d:=by
 obtain⟨fr,sd,rc,l,v,nx,bits,theirs,rfl,-⟩:=hd
 exact A5 k hk 0 ⟨[(0,h',4)],1⟩ false 0 l o v (DD h a s u fr 1#32 0 now) ⟨ai b,c,h',2,1,true,0,0,0#32,[]⟩ 0 1 1#32 theirs nx bits sd rc 0 0 false
theorem StX1.tick (hk:k=0∨k=1)(hd:StX1 k h a s u h' b c 0 d):∃ d',DAct 28 [.i64 200] d 0 none 0 d'∧StX1 k h a s u h' b c 200 d':=by
 obtain⟨fr,bix,btx,sd,rc,l,v,mine,theirs,rfl,hl,hv,hv2⟩:=hd
 exact⟨_,OH k hk 0 ⟨[],0⟩ (DD h a s u fr 1#32 1 0) ⟨ai b,c,h',2,1,false,0,0,bix,btx⟩ rfl false 0 l false v (by omega) (by omega) (by simp[gn]) 0 0#64 sd rc 1 0 1 true mine theirs,fr,bix,btx,sd,rc,l,v,mine,theirs,rfl,hl,hv,hv2⟩
theorem StY1.tick (hk:k=0∨k=1)(hd:StY1 k h a s u h' b c 0 true d):∃ d',DAct 28 [.i64 200] d 0 none 0 d'∧StY1 k h a s u h' b c 200 false d':=by
 obtain⟨fr,sd,rc,l,v,nx,bits,theirs,rfl,hl,hv,hv2⟩:=hd
 exact⟨_,OI k hk 0 ⟨[(0,h',4)],1⟩ (DD h a s u fr 1#32 0 0) ⟨ai b,c,h',2,1,true,0,0,0#32,[]⟩ rfl sd rc 1 0 0 false nx bits 1#32 theirs (Int.le_refl _) (by decide) rfl false 0 l true v (Int.le_refl _) (by decide) (by omega) (by omega) (by unfold gn;simp;omega),fr,sd,rc,l,v,nx,bits,theirs,rfl,hl,hv,hv2⟩
def StX2 (k:Int)(h:BitVec 32)(a s u:List ac)(h':BitVec 32)(sd:List ac)(theirs:BitVec 32)(se:Int)(d:cV):Prop:=
 ∃ (fr:BitVec 64) (ix:BitVec 32) (fi:Int) (p:PS) (t0:Int) (m:MapC) (rc:List ac) (t l v nx:Int) (o fs:Bool) (bits:BitVec 64) (mine:BitVec 32),
  d=bj k ((DD h a s u fr ix fi 200).cs .nilSlice .nilSlice) (p.cs .nilSlice .nilPtr (.ptr 34 0) (.ptr 33 0) .nilPtr) (tR false t l o v) t0 m [tP nx bits,tq sd rc 2 200 se fs,tQ 2 mine theirs,none]∧
  p.at_=h'∧sd.length=32∧(0≤t∧t≤1000)∧(0≤l∧l≤1000)∧0≤v∧v≤1000
def StY2 (k:Int)(h:BitVec 32)(a s u:List ac)(h':BitVec 32)(rc:List ac)(mine:BitVec 32)(n:Int)(d:cV):Prop:=
 ∃ (fr:BitVec 64) (ix:BitVec 32) (fi:Int) (p:PS) (t0:Int) (m:MapC) (sd:List ac) (t l v nx se:Int) (o fs:Bool) (bits:BitVec 64) (theirs:BitVec 32),
  d=bj k ((DD h a s u fr ix fi 200).cs .nilSlice .nilSlice) (p.cs .nilSlice .nilPtr (.ptr 34 0) (.ptr 33 0) .nilPtr) (tR false t l o v) t0 m [tP nx bits,tq sd rc 2 200 se fs,tQ 2 mine theirs,none]∧
  nx=n∧rc.length=32∧(0≤t∧t≤1000)
theorem StX2.idle {sd:List ac}{theirs:BitVec 32}{se:Int}(hd:StX2 k h a s u h' sd theirs se d):jD d:=by
 obtain⟨fr,ix,fi,p,t0,m,rc,t,l,v,nx,o,fs,bits,mine,rfl,-⟩:=hd
 exact iL _ _ _ _ _ _ _
theorem StY2.idle {rc:List ac}{mine:BitVec 32}{n:Int}(hd:StY2 k h a s u h' rc mine n d):jD d:=by
 obtain⟨fr,ix,fi,p,t0,m,sd,t,l,v,nx,se,o,fs,bits,theirs,rfl,-⟩:=hd
 exact iL _ _ _ _ _ _ _
theorem StX2.suite (hk:k=0∨k=1){sd:List ac}{theirs:BitVec 32}{se:Int}(hd:StX2 k h a s u h' sd theirs se d):Stp Tryz.prog 20 [.ptr 0 0,.i64 0] d (.i64 2) d:=by
 obtain⟨fr,ix,fi,p,t0,m,rc,t,l,v,nx,o,fs,bits,mine,rfl,-⟩:=hd
 exact A6 k hk t0 m false t l o v (DD h a s u fr ix fi 200) p 0 2 mine theirs nx bits sd rc 200 se fs
theorem StY2.suite (hk:k=0∨k=1){rc:List ac}{mine:BitVec 32}{n:Int}(hd:StY2 k h a s u h' rc mine n d):Stp Tryz.prog 20 [.ptr 0 0,.i64 0] d (.i64 2) d:=by
 obtain⟨fr,ix,fi,p,t0,m,sd,t,l,v,nx,se,o,fs,bits,theirs,rfl,-⟩:=hd
 exact A6 k hk t0 m false t l o v (DD h a s u fr ix fi 200) p 0 2 mine theirs nx bits sd rc 200 se fs
theorem K9 (n:Int)(bits:BitVec 64)(h0:0≤n)(h1:n≤1000):eK n bits n=0:=by
 unfold eK
 rw[if_neg (by omega),if_pos (by omega)]
theorem I8 (n:Int):cR n n=n+1:=by
 unfold cR
 rw[if_pos (Int.le_refl _)]
theorem Xc (hh:i=0∧h=1#32∧h'=2#32∨i=1∧h=2#32∧h'=1#32){key:List ac}{ix2:BitVec 32}{n:Int}(hX:StX2 (1-i) h a s u h' key ix2 n dX)(hY:StY2 i h' b s' u' h key ix2 n dY)(hn0:0≤n)(hn1:n≤500){x:List ac}(hx:x.length≤1000)(hkx:kx≤900)(hky:ky≤900):
  ∃ X1 g1 X2 Y2,DAct 26 [.u32 (if i=0 then 167772160#32 else 167772416#32),.u32 (if 1-i=0 then 167772160#32 else 167772416#32),.str x] dX 0 (some g1) 0 X1∧
   AirRun i 1 X1 dY (some g1) kx ky X2 Y2 kx (ky+1)∧StX2 (1-i) h a s u h' key ix2 (n+1) X2∧StY2 i h' b s' u' h key ix2 (n+1) Y2:=by
 have hi:i=0∨i=1:=by omega
 have hi':1-i=0∨1-i=1:=by omega
 have hn:h≠0#32:=by rcases hh with⟨-,rfl,-⟩|⟨-,rfl,-⟩<;>decide
 have hn':h'≠0#32:=by rcases hh with⟨-,-,rfl⟩|⟨-,-,rfl⟩<;>decide
 have tY:i=1∧h'=1#32∨i=0∧h'=2#32:=by rcases hh with⟨rfl,-,rfl⟩|⟨rfl,-,rfl⟩<;>decide
 obtain⟨fr,ix,fi,p,t0,m,rc,t,l,v,nx,o,fs,bits,mine,rfl,hat,hsd,⟨ht,ht2⟩,hl,hv⟩:=hX
 obtain⟨fr',ix',fi',p',t0',m',sd',t',l',v',nx',se',o',fs',bits',theirs',rfl,rfl,hrc,⟨ht',ht2'⟩⟩:=hY
 have A1:=OD t0 m (1-i) hi' (DD h a s u fr ix fi 200) p (su:=2) (.inr rfl) (sd:=key) rc hsd 200 nx' fs nx bits mine ix2 (show(0:Int)≤200 by decide) (show(200:Int)≤1099511627776 by decide) (by decide) (by decide) (show(200:Int)<200+120 by decide) hn0 (by omega) (by rw[hat];exact hn') (if i=0 then 167772160#32 else 167772416#32) hx t l v o ht ht2 (by omega) (by omega)
 have B1:=OG t0' m' i hi (DD h' b s' u' fr' ix' fi' 200) p' (su:=2) (.inr rfl) sd' (rc:=key) hrc 200 se' fs' nx' bits' ix2 theirs' (show(0:Int)≤200 by decide) (show(200:Int)≤1099511627776 by decide) (by decide) (by decide) (show(200:Int)<200+180 by decide) hn0 (by omega) (n:=nx') hn0 (by omega) (K9 _ _ hn0 (by omega)) h hx t' l' v' o' false ht' ht2'
 rw[hat] at A1
 refine⟨_,_,_,_,A1,.step (qz tY B1 (iL _ _ _ _ _ _ _) (by omega) (by omega)) (.done _ _ _ _),?_,?_⟩
 ·exact⟨_,_,_,_,_,_,_,_,_,_,_,_,_,_,_,rfl,hat,hsd,⟨ht,ht2⟩,hl,hv⟩
 ·exact⟨_,_,_,_,_,_,_,_,_,_,_,_,_,_,_,_,rfl,I8 _,hrc,⟨ht',ht2'⟩⟩
end
section
variable {i k now:Int}{o:Bool}{h h':BitVec 32}{a b c s s' u u':List ac}{kx ky:Nat}{d dX dY:cV}
theorem Xd (hh:i=0∧h=1#32∧h'=2#32∨i=1∧h=2#32∧h'=1#32)(ha:a.length=32)(hb:b.length=32)(hc:c.length=32)(hs:s.length=32)(hs':s'.length=32)(hu:u.length=32)(hu':u'.length=32)(hX:StX1 (1-i) h a s u h' b c 200 dX)(hY:StY1 i h' b s' u' h a c 200 false dY){x:List ac}(hx:x.length≤1000)(hkx:kx≤900)(hky:ky≤900):
  ∃ X1 g1 X2 Y2 key ix2,DAct 26 [.u32 (if i=0 then 167772160#32 else 167772416#32),.u32 (if 1-i=0 then 167772160#32 else 167772416#32),.str x] dX 0 (some g1) 0 X1∧
   AirRun i 3 X1 dY (some g1) kx ky X2 Y2 kx (ky+1)∧StX2 (1-i) h a s u h' key ix2 1 X2∧StY2 i h' b s' u' h key ix2 1 Y2:=by
 have hi:i=0∨i=1:=by omega
 have hi':1-i=0∨1-i=1:=by omega
 have hn:h≠0#32:=by rcases hh with⟨-,rfl,-⟩|⟨-,rfl,-⟩<;>decide
 have hn':h'≠0#32:=by rcases hh with⟨-,-,rfl⟩|⟨-,-,rfl⟩<;>decide
 have tX:i=0∧h=1#32∨i=1∧h=2#32:=by rcases hh with⟨rfl,rfl,-⟩|⟨rfl,rfl,-⟩<;>decide
 have tY:i=1∧h'=1#32∨i=0∧h'=2#32:=by rcases hh with⟨rfl,-,rfl⟩|⟨rfl,-,rfl⟩<;>decide
 obtain⟨fr,bix,btx,sd,rc,l,v,mine,theirs,rfl,hl,hv⟩:=hX
 obtain⟨fr',sd',rc',l',v',nx',bits',theirs',rfl,hl',hv'⟩:=hY
 have k1:=((DD h a s u fr 1#32 1 200).keyV_spec hs).2
 have k2:=((DD h' b s' u' fr' 1#32 0 200).keyV_spec hs').2
 have z2:(200:Int)≤1099511627776:=by decide
 have z1:(0:Int)≤200:=by decide
 have A1:=OC 0 ⟨[],0⟩ (1-i) hi' (DD h a s u fr 1#32 1 200) ⟨ai b,c,h',2,1,false,0,0,bix,btx⟩ b rfl (.inr rfl) hb rfl hc ha hs z1 z2 hn' (show(0:Int)≤1 by decide) (show(1:Int)≤1000 by decide) (if i=0 then 167772160#32 else 167772416#32) hx l v false false (by omega) (by omega) sd rc 1 0 1 true 0 0#64 mine theirs (Int.le_refl _) (by decide) rfl
 have B1:=KZ i hi false 0 l' false v' (DD h' b s' u' fr' 1#32 0 200) ⟨ai a,c,h,2,1,true,0,0,0#32,[]⟩ (su:=2) (.inr rfl) rfl rfl rfl hu' hs' hc hb z1 z2 k1 ha rfl (sec:=200) (nano:=1) (.inr ⟨rfl,rfl⟩) ⟨rfl,.inl (show(0:Int)<200 by decide)⟩ (1#32+1#32) h hn 0 ⟨[(0,h,4)],1⟩ ⟨by simp,by simp,by simp⟩ (by simp) (Int.le_refl _) (by decide) (VS h) nx' bits' sd' rc' 1 0 0 false 1#32 theirs'
 have A2:=I7 (1-i) hi' 0 ⟨[],0⟩ {DD h a s u fr 1#32 1 200 with fresh:=fr+1#64,index:=1#32+1#32,firsts:=1+1} {(⟨ai b,c,h',2,1,false,0,0,bix,btx⟩:PS) with bix:=1#32+1#32,btx:=marked (ai b) (fT 2 b (DD h a s u fr 1#32 1 200).keyV a 200 1 2 (1#32+1#32))} (su:=2) (.inr rfl) rfl (bw a) hu hc ha z1 z2 (S:=aS 2 b (DD h a s u fr 1#32 1 200).keyV a 200 1 2) (lN (.inr rfl)) k2 k1 (ai b) (1#32+1#32) h' hn' (x:=ar ((if i=0 then 167772160#32 else 167772416#32:BitVec 32).setWidth 64).toNat 4++x) (by rw[List.length_append,aW];omega) 1 200 v false true (by decide) (by decide) 0 0#64 sd rc 1 0 1 true mine theirs
 have B2:=OF (bR 0 200 h ⟨[(0,h,4)],1⟩).2.1 (bR 0 200 h ⟨[(0,h,4)],1⟩).2.2 i hi {DD h' b s' u' fr' 1#32 0 200 with fresh:=fr'+1#64,index:=1#32+1#32} {(⟨ai a,c,h,2,1,true,0,0,0#32,[]⟩:PS) with knows:=2,at_:=h,stamped:=true,sec:=200,nano:=1} (su:=2) (.inr rfl) rfl (gK 2 (aS 2 b (DD h a s u fr 1#32 1 200).keyV a 200 1 2) (DD h' b s' u' fr' 1#32 0 200).keyV (DD h a s u fr 1#32 1 200).keyV a c 2 1) (rc:=gK 2 (aS 2 b (DD h a s u fr 1#32 1 200).keyV a 200 1 2) (DD h' b s' u' fr' 1#32 0 200).keyV (DD h a s u fr 1#32 1 200).keyV a c 2 0) (gJ (.inr rfl) (lN (.inr rfl)) hc (by decide)) 200 0 false 0 0#64 (1#32+1#32) (1#32+1#32) 1 1#32 theirs' (by decide) z1 z2 z1 z2 (show(200:Int)<200+180 by decide) (Int.le_refl _) (by decide) (n:=0) (Int.le_refl _) (by decide) rfl h hx 0 l' v' false false (by decide) (by decide) nx' bits' sd' rc' 1 0 0 false
 refine⟨_,_,_,_,gK 2 (aS 2 b (DD h a s u fr 1#32 1 200).keyV a 200 1 2) (DD h' b s' u' fr' 1#32 0 200).keyV (DD h a s u fr 1#32 1 200).keyV a c 2 0,1#32+1#32,A1,.step (qz tY B1 (iL _ _ _ _ _ _ _) (by omega) (by omega)) (.step (D3 tX A2 (iL _ _ _ _ _ _ _) (by omega) (by omega)) (.step (qz tY B2 (iL _ _ _ _ _ _ _) (by omega) (by omega)) (.done _ _ _ _))),?_,?_⟩
 ·exact⟨_,_,_,_,_,_,_,_,_,_,_,_,_,_,_,rfl,rfl,gJ (.inr rfl) (lN (.inr rfl)) hc (by decide),⟨Int.le_refl _,show(0:Int)≤1000 by decide⟩,⟨z1,show(200:Int)≤1000 by decide⟩,hv⟩
 ·exact⟨_,_,_,_,_,_,_,_,_,_,_,_,_,_,_,_,rfl,rfl,gJ (.inr rfl) (lN (.inr rfl)) hc (by decide),⟨Int.le_refl _,show(0:Int)≤1000 by decide⟩⟩
end
section
variable {K K0:Nat→Nat}{H H0 H':List (Option Blk)}{K':Nat→Nat}{l kk kX kY kX' kY' n:Nat}{g:Option G3}{dX dY dX' dY':cV}{e i:Int}
theorem TL (hC:CurL K0 H0 K H)(hS:LX i K H l dX dY g kX kY):∃ v K' H',DoneL Tryz.prog 18 [.ptr l 0] K H v K' H'∧(jY (gk g) v∧LX i K' H' l dX dY g kX kY):=by
 have key:∀ {d0 d1:cV} {k0 k1:Nat},LS K H l d0 d1 g k0 k1→∃ v K' H',DoneL Tryz.prog 18 [.ptr l 0] K H v K' H'∧jY (gk g) v∧Kp (· ≠0) K H K' H':=fun {d0 d1 k0 k1} hS=>by
  obtain⟨na,x0,x1,va,sg0,sg1,v0,v1,hL,hN0,hN1⟩:=hS.ex
  exact TI hC hL
 rcases hS with⟨rfl,hS⟩|⟨rfl,hS⟩
 ·obtain⟨v,K',H',h1,h2,h3⟩:=key hS
  exact⟨v,K',H',h1,h2,.inl ⟨rfl,hS.keep h3⟩⟩
 ·obtain⟨v,K',H',h1,h2,h3⟩:=key hS
  exact⟨v,K',H',h1,h2,.inr ⟨rfl,hS.keep h3⟩⟩
theorem wR (hC:CurL K0 H0 K H)(hS:LX i K H l dX dY g kX kY)(hR:AirRun i n dX dY g kX kY dX' dY' kX' kY')(hn:n≤100):
  ∃ v K' H',DoneL Tryz.prog 10 [.ptr l 0] K H v K' H'∧(v= .bool true∧LX i K' H' l dX' dY' none kX' kY'):=by
 refine dg (Post:=fun v K' H'=>v= .bool true∧LX i K' H' l dX' dY' none kX' kY') (by kernel_rfl) (fn:=Tryz.f10) Tryz.func10 rfl (by show 1≤13;decide) (ae ?_)
 simp only[go_sem,seval]
 repeat refine aI ?_
 refine bf (fun j st=>∃ (c:Nat) (Kc:Nat→Nat) (Hc:List (Option Blk)) (dXc dYc:cV) (gc:Option G3) (kXc kYc:Nat),AirRun i j dXc dYc gc kXc kYc dX' dY' kX' kY'∧c+j≤100∧CurL K H Kc Hc∧LX i Kc Hc l dXc dYc gc kXc kYc∧st=⟨[(0,.ptr l 0),(3,.i64 c)],Hc⟩) ?_ ?_
 ·exact bP n ⟨[(0,.ptr l 0),(3,.i64 (0:Nat))],H⟩ (by simp[St.get,af]) rfl (fun _ _ h=>h) ⟨0,K,H,dX,dY,g,kX,kY,hR,by omega,hC.start,hS,rfl⟩
 rintro j st ⟨c,Kc,Hc,dXc,dYc,gc,kXc,kYc,hRc,hcj,hCc,hSc,rfl⟩-
 have hc1:(c:Int)<400:=by omega
 have w1:=gM (i:=c) (by omega)
 have hll:=hCc.lt (b:=l) (by rw[hSc.kl];decide)
 simp only[go_sem,seval,hc1]
 repeat refine aI ?_
 refine bx (TL hCc hSc) (by kernel_rfl) rfl (by simp[aa,V.low,hll]) hCc.sane ?_
 rintro _ K1 H1 hC1 hl1 ⟨hrow,hS1⟩
 cases hRc with
 |done=>
  rcases hrow with⟨rfl,-⟩|⟨b,rfl⟩
  ·simp only[go_sem,seval]
   repeat refine aI ?_
   exact EndL.of (hCc.trans hC1) trivial ⟨rfl,hS1⟩
  ·simp only[go_sem,seval,gk]
   repeat refine aI ?_
   exact EndL.of (hCc.trans hC1) trivial ⟨rfl,hS1⟩
 |step h1 h2=>
  rcases hrow with⟨-,h⟩|⟨b,rfl⟩
  ·cases h
  have hll1:=hC1.lt (b:=l) (by rw[hS1.kl];decide)
  simp only[go_sem,seval,gk]
  repeat refine aI ?_
  refine bx (h1 _ _ _ _ _ hC1 hS1) (by kernel_rfl) rfl (by simp[aa,V.low,D2,hll1]) hC1.sane ?_
  rintro _ K2 H2 hC2 hl2 ⟨e2,rfl,hS2⟩
  simp only[go_sem,seval,w1]
  refine bL _ ⟨[(0,.ptr l 0),(3,.i64 (c+1:Nat))],H2⟩ (Nat.lt_succ_self _) (by simp[St.get,af]) rfl (fun _ _ h=>h) ⟨c+1,K2,H2,_,_,_,_,_,h2,by omega,(hCc.trans hC1).trans hC2,hS2,rfl⟩
end
end Go.Vm
end
