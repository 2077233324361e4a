/- A part of the proof: laws of a small machine of values, or what one function answers, proved against the model; no conditions beyond those in each theorem. -/
import Derived.WalkKit
import Derived.Deep.RegionLaw
import Derived.Lib.SliceRun
import Derived.Test.YtgffdnniifmglaaGreatDoorProg
import Derived.Test.YtgffdnniifmglaaGreatDoorVmAToVmC
import Derived.Test.YtgffdnniifmglaaGreatDoorVmXToVmQ
import Derived.Test.YtgffdnniifmglaaGreatDoorDvDToKhL
import Derived.Test.YtgffdnniifmglaaGreatDoorVmYToKh3
import Derived.Test.YtgffdnniifmglaaGreatDoorVmI1ToDvC
set_option linter.unusedVariables false
set_option linter.unusedSimpArgs false
set_option linter.unusedSectionVars false
set_option maxRecDepth 20000
set_option maxHeartbeats 8000000
section
namespace Go.Proofs
open Go.RowKit
theorem C9:(Tryz.prog.info? 34).map (fun i=>i.size)=some 3:=by kernel_rfl
def gk (k:Nat):List Value:=(Builtin.zeroCells #[.int .u32 0,.int .u32 0,.string {data:=#[]}] k).toList
theorem qh (k:Nat):(gk k).length=k*3:=by simp[gk,Builtin.zeroCells]
theorem Gc (k:Nat):∀ u∈gk k,u.oneCell'=true:=fun u hu=>by
 unfold gk Builtin.zeroCells at hu
 rw[Array.toList_map] at hu
 obtain⟨i,-,rfl⟩:=List.mem_map.1 hu
 have h3:i%3<3:=Nat.mod_lt _ (by omega)
 show Value.oneCell' (#[Value.int IntKind.u32 0,.int .u32 0,.string {data:=#[]}][i%3]!)=true
 generalize i%3=j at*
 match j,h3 with
 |0,_=>rfl
 |1,_=>rfl
 |2,_=>rfl
theorem AW (w:World)(ty:TypeId)(b o n c:Nat)(hn:0<n)(hc:∀ j,j<n*3→(w.cell? ⟨b,o+j,none⟩).isSome=true)(hf:∀ j,j<n*3→w.frozen? ⟨b,o+j,none⟩=false):
  (Builtin.clear_ #[35] ty #[.slice (some ⟨b,o,none⟩) n c]).run Tryz.prog w= .ok (.tuple #[]) (w.setCells b o (gk n)):=by
 have hst:=run_storeCells_cells (P:=Tryz.prog) b o (gk n) 0 w (by rw[qh];simpa using hc) (by rw[qh];simpa using hf) (Gc n)
 simp only[Nat.add_zero] at hst
 obtain⟨m,rfl⟩:∃ m,n=m+1:=⟨n-1,by omega⟩
 unfold gk at hst
 simp[Builtin.clear_,run_underlying Tryz.underlying35,Tryz.zeroValue34,Value.cells,hst]
 rfl
set_option maxRecDepth 1000000 in
theorem B7 (blk off n cap i j:Nat)(news:List Value)(w:World)(hij:i<j)(hj:j≤n)(hl:n≤cap)
  (hc:∀ k,k<cap*3→(w.cell? ⟨blk,off+k,none⟩).isSome=true∧w.frozen? ⟨blk,off+k,none⟩=false)
  (hnl:news.length=(n-j)*3) (hnc:∀ k u,news[k]?=some u→w.cell? ⟨blk,off+j*3+k,none⟩=some u) (hn1:∀ u∈news,u.oneCell'=true):
  Calls Tryz.prog 42 #[.slice (some ⟨blk,off,none⟩) n cap,.int .i64 i,.int .i64 j] w fun e w'=>e= .returned (.slice (some ⟨blk,off,none⟩) (i+(n-j)) cap)∧w'=(w.drew.setCells blk (off+i*3) news).setCells blk (off+(i+(n-j))*3) (gk (n-(i+(n-j)))):=by
 obtain⟨i0,hi0,hz0⟩:∃ i0,Tryz.prog.info? 34=some i0∧i0.size=3:=by
  have h:=C9
  cases e:Tryz.prog.info? 34 with
  |none=>rw[e] at h;cases h
  |some i0=>rw[e] at h;simpa using h
 obtain⟨A,hA,hsrc⟩:∃ A:Addr,(if cap=j then some (⟨blk,off,none⟩:Addr) else some ⟨blk,off+j*3,none⟩)=some A∧Hid (∀ t u,news[t]?=some u→w.drew.cell? (A.add t)=some u):=by
  by_cases h:cap=j
  ·refine⟨⟨blk,off,none⟩,by simp[h],fun t u hu=>?_⟩
   have h0:news.length=0:=by rw[hnl];omega
   rw[List.length_eq_zero_iff.1 h0] at hu
   simp at hu
  ·refine⟨⟨blk,off+j*3,none⟩,by simp[h],fun t u hu=>?_⟩
   rw[Addr.add_lit]
   exact hnc t u hu
 have s1:Hid (news.length=(n-j)*3):=hnl
 have s2:Hid (∀ u∈news,u.oneCell'=true):=hn1
 have s3:Hid (∀ t,t<news.length→(w.drew.cell? ⟨blk,off+i*3+t,none⟩).isSome=true∧w.drew.frozen? ⟨blk,off+i*3+t,none⟩=false):=by
  intro t ht
  rw[hnl] at ht
  rw[Nat.add_assoc]
  exact hc (i*3+t) (by omega)
 obtain⟨W1,hW1⟩:∃ W1,W1=w.drew.setCells blk (off+i*3) news:=⟨_,rfl⟩
 have hl1:∀ k,k<cap*3→(W1.cell? ⟨blk,off+k,none⟩).isSome=true∧W1.frozen? ⟨blk,off+k,none⟩=false:=by
  intro k hk
  rw[hW1]
  have h:=Go.Vm.lasts_setCells blk (off+i*3) news w.drew blk (off+k) (hc k hk).1
  exact⟨h.1,h.2 (hc k hk).2⟩
 have hcl:∀ ty,(Builtin.clear_ #[35] ty #[.slice (some ⟨blk,off+(i+(n-j))*3,none⟩) (n-(i+(n-j))) (cap-(i+(n-j)))]).run Tryz.prog W1= .ok (.tuple #[]) (W1.setCells blk (off+(i+(n-j))*3) (gk (n-(i+(n-j))))):=
  fun ty=>AW W1 ty blk _ _ _ (by omega) (fun t ht=>by rw[Nat.add_assoc];exact(hl1 _ (by omega)).1) (fun t ht=>by rw[Nat.add_assoc];exact(hl1 _ (by omega)).2)
 have hW:Hid (W1=w.drew.setCells blk (off+i*3) news):=hW1
 have hic:i≤cap:=by omega
 have hjc:j≤cap:=by omega
 have hne:¬ i=j:=by omega
 clear hW1 hl1 hc hnl hnc hn1
 go_enter Tryz.func42,Tryz.ntmps42
 go_wp2_with fail
 go_region_law (refine step_append_room rfl (.tmp 22) (.tmp 25) 35 rfl 34 i0 3 Tryz.underlying35 hi0 hz0 blk off i cap (by simp[Act.eval,Act.put]) A (n-j) (cap-j) news (by simp[Act.eval,Act.put]) s1.out hsrc.out s2.out (by omega) s3.out ?_;rw[←hW.out])
 go_wp2
 go_ret
 exact⟨rfl,by rw[hW.out]⟩
end Go.Proofs
end
section
namespace Go.Vm
section
open Go Go.Proofs Go.RowKit
theorem VRs.junks {ρ:Nat→Nat×Nat}{dom:Nat→Prop}{w:World}:∀ {rs:List Value},VRs ρ dom w (List.replicate rs.length .junk) rs
 |[]=>VRs.nil
 |_::_=>VRs.cons (by unfold VR;trivial) VRs.junks
theorem B8 (n i:Nat)(hi:i<n)(cs:List V)(hcs:cs.length=n*3)(hone:∀ u∈cs,u.one=true):ao Tryz.prog 42 [.slice 0 0 n 3,.i64 (i:Nat),.i64 ((i+1:Nat):Int)] [some ⟨false,cs,none⟩] (.slice 1 0 (n-1) 3) [none,some ⟨false,cs.take (i*3)++cs.drop ((i+1)*3),none⟩]:=by
 rintro ρ w ⟨l⟩ ha hm
 have hg:aa [some (⟨false,cs,none⟩:Blk)] 0=some ⟨false,cs,none⟩:=rfl
 unfold VRs at ha
 obtain⟨r0,l0,e0,h0,ha⟩:=ha
 unfold VRs at ha
 obtain⟨r1,l1,e1,h1,ha⟩:=ha
 unfold VRs at ha
 obtain⟨r2,l2,e2,h2,ha⟩:=ha
 unfold VRs at ha
 simp only at e0
 subst ha e2 e1 e0
 unfold VR at h0 h1 h2
 obtain⟨hd,a,cap,rfl,hle,hcap⟩:=h0
 subst h1 h2
 obtain⟨rfl,hth⟩:=hcap (by omega)
 simp only[Nat.add_zero] at hth ⊢
 obtain⟨rs,hrs,hat⟩:=hm.range hg ((i+1)*3) ((n-(i+1))*3)
 simp only at hrs
 have hxl:(cs.drop ((i+1)*3)).length=(n-(i+1))*3:=by rw[List.length_drop,hcs,Nat.sub_mul]
 rw[List.take_of_length_le (by omega)] at hrs
 have hrl:=hrs.length
 have hon:∀ u∈rs,u.oneCell'=true:=fun u hu=>by
  obtain⟨k,hk,rfl⟩:=List.mem_iff_getElem.1 hu
  have hk2:k<(cs.drop ((i+1)*3)).length:=by omega
  obtain⟨r,g1,g2⟩:=hrs.get (i:=k) (v:=(cs.drop ((i+1)*3))[k]) (by simp)
  rw[List.getElem?_eq_getElem hk] at g1
  cases g1
  exact nU (hone _ (List.mem_of_mem_drop (List.getElem_mem hk2))) g2
 refine(B7 (ρ 0).1 (ρ 0).2 n cap i (i+1) rs w (by omega) (by omega) hle (fun k hk=>hth k hk) (by omega) (fun k u hu=>?_) hon).mono ?_
 ·exact hat k u hu
 rintro e w' ⟨rfl,rfl⟩
 have m0:=hm.alike (Alike.drew w)
 have hz:(gk (n-(i+(n-(i+1))))).length=(n-(i+(n-(i+1))))*3:=qh _
 obtain⟨m1,f1⟩:=nT m0 (nid:=1) (b:=0) (o:=i*3) (mp:=none) (fun _ e=>by cases e) hg (hrs.mono (fun _ _=>rfl) (fun _ h=>h) (Alike.drew w).lasts) (by rw[hxl];omega)
 have hlen:(splice cs (i*3) (cs.drop ((i+1)*3))).length=n*3:=by rw[jt (by rw[hxl];omega)];exact hcs
 rw[m3] at m1 f1
 obtain⟨m2,f2⟩:=nT m1 (nid:=1) (b:=0) (o:=(i+(n-(i+1)))*3) (mp:=none) (fun _ e=>by cases e) (if_pos rfl) VRs.junks (by rw[List.length_replicate,hz,hlen];omega)
 rw[m3] at m2 f2
 have F:=f1.trans f2
 have hll:=F.lasts
 have hcs':∀ (k:Nat) (v:V),(cs.take (i*3)++cs.drop ((i+1)*3))[k]?=some v→(splice (splice cs (i*3) (cs.drop ((i+1)*3))) ((i+(n-(i+1)))*3) (List.replicate (gk (n-(i+(n-(i+1))))).length .junk))[k]?=some v:=fun k v hv=>by
  have hk:k<(n-1)*3:=by
   have :=(List.getElem?_eq_some_iff.1 hv).1
   rw[List.length_append,List.length_take,hxl,hcs] at this
   omega
  rw[om (by rw[List.length_replicate,hz,hlen];omega),if_neg (by omega),om (by rw[hxl];omega)]
  by_cases h1:k<i*3
  ·rw[if_neg (by omega)]
   rw[List.getElem?_append_left (by rw[List.length_take,hcs];omega),List.getElem?_take,if_pos h1] at hv
   exact hv
  ·rw[if_pos ⟨by omega,by omega⟩]
   rw[List.getElem?_append_right (by rw[List.length_take,hcs];omega),List.length_take,hcs,Nat.min_eq_left (by omega)] at hv
   exact hv
 have e0:∀ b B,aa [none,some (⟨false,cs.take (i*3)++cs.drop ((i+1)*3),none⟩:Blk)] b=some B→b=1∧B=⟨false,cs.take (i*3)++cs.drop ((i+1)*3),none⟩:=fun b B h=>by
  match b with
  |0=>simp[aa] at h
  |1=>exact⟨rfl,by simpa [aa] using h.symm⟩
  |b+2=>simp[aa] at h
 have hdom:∀ b,bX (bX (· <1) 1 0) 1 0 b→b<1:=fun b h=>by
  rcases h with(h|h)|h<;>omega
 have hdom2:∀ b,bX (bX (· <1) 1 0) 1 0 b→b<2:=fun b h=>by have :=hdom b h;omega
 have hρ:∀ b,bX (bX (· <1) 1 0) 1 0 b→(fun b=>if b=1 then ρ 0 else ρ b) b=ρ b:=fun b h=>by
  have :=hdom b h
  exact if_neg (by omega)
 have hρ1:(fun b=>if b=1 then ρ 0 else ρ b) 1=ρ 0:=if_pos rfl
 refine⟨.slice (some ⟨(ρ 0).1,(ρ 0).2,none⟩) (i+(n-(i+1))) cap,fun b=>if b=1 then ρ 0 else ρ b,rfl,?_,⟨fun b B h=>?_,fun b B h=>?_,fun b b' B B' h h' _ hn=>?_,fun b B h k v hv=>?_,fun b B h hr k hk=>?_,fun b B m h hmp=>?_⟩,by simp,fun b hb=>if_neg (by simp at hb;omega),⟨F.os,F.output,F.tape,F.size,F.keep,F.lasts,fun b B h hr=>?_⟩⟩
 ·unfold VR
  exact⟨by show 1<2;omega,⟨(ρ 0).1,(ρ 0).2,none⟩,cap,by rw[show i+(n-(i+1))=n-1 by omega],by omega,fun hc=>⟨rfl,hll.there hth⟩⟩
 ·obtain⟨rfl,rfl⟩:=e0 b B h;show 1<2;omega
 ·obtain⟨rfl,rfl⟩:=e0 b B h;exact m2.lt 0 _ (if_pos rfl)
 ·obtain⟨rfl,rfl⟩:=e0 b B h;obtain⟨rfl,rfl⟩:=e0 b' B' h';exact absurd rfl hn
 ·obtain⟨rfl,rfl⟩:=e0 b B h
  obtain⟨r,g1,g2⟩:=m2.cell 0 _ (if_pos rfl) k v (hcs' k v hv)
  exact⟨r,g1,g2.mono hρ hdom2 (Lasts.refl _)⟩
 ·obtain⟨rfl,rfl⟩:=e0 b B h
  refine m2.free 0 _ (if_pos rfl) rfl k ?_
  have hk2:k<(cs.take (i*3)++cs.drop ((i+1)*3)).length:=hk
  show k<(splice _ _ _).length
  rw[jt (by rw[List.length_replicate,hz,hlen];omega),hlen]
  rw[List.length_append,List.length_take,hxl,hcs] at hk2
  omega
 ·obtain⟨rfl,rfl⟩:=e0 b B h;cases hmp
 ·obtain⟨rfl,rfl⟩:=e0 b B h;exact .inl ⟨0,_,hg,rfl,rfl⟩
end
end Go.Vm
end
section
namespace Go.Vm
open Go.Proofs
section
section
variable {P:Program}{f:FuncId}{args:List V}{K K0:Nat→Option Kd}{H H0:List (Option Blk)}{W:Nat→Prop}{G':Gh}{K':Nat→Option Kd}
def EndWH (K0:Nat→Option Kd)(H0:List (Option Blk))(W:Nat→Prop)(Post:V→Gh→(Nat→Option Kd)→List (Option Blk)→Prop)(v:V)(s:St):Prop:=∃ G' K',Cur K0 H0 W G' K' s.H∧v.low s.H.length∧Post v G' K' s.H
theorem EndWH.of {Post:V→Gh→(Nat→Option Kd)→List (Option Blk)→Prop}{v:V}{s:St}(hC:Cur K0 H0 W G' K' s.H)(hl:v.low s.H.length)(hp:Post v G' K' s.H):EndWH K0 H0 W Post v s:=⟨G',K',hC,hl,hp⟩
theorem qi (hmix:P.follows .mixedOrders=true){fn:Func}{c:Code}{Post:V→Gh→(Nat→Option Kd)→List (Option Blk)→Prop}(hf:P.funcs[f]?=some fn)(hb:fn.body=some c)(hn:args.length≤fn.ntmps)
  (hv:vc P H.length fn.ntmps c (b8 P fn (EndWH K H W Post)) ⟨cW args 0,H⟩):∃ v G' K' H',Done P f args K H W v G' K' H'∧Post v G' K' H':=by
 obtain⟨v,s',h1,⟨G',K',h2,h3,h4⟩,h5⟩:=pt (s:=⟨cW args 0,H⟩) (Nat.le_refl _) hv
 exact⟨v,G',K',s'.H,⟨aR hmix hf hb hn (dB c _ _ _ (fun e s hs=>mH (fun v2 s2 hh=>by
  obtain⟨rfl,rfl⟩:=hh
  exact Fin.id h1) hs) h5),h2,h3⟩,h4⟩
end
variable {G:Gh}{K:Nat→Option Kd}{H:List (Option Blk)}{b p d m n:Nat}{here:BitVec 32}{own pub seed:List af}{best:Int}{fresh:BitVec 64}{secret:List af}{index:BitVec 32}{firsts now:Int}{busy:Bool}{peers:V}{paths bucket:Nat}{out got:V}
theorem zo (h:WT G K H)(hd:K d=some (.dev m n))(hg:aa H d=some ⟨false,[.u32 here,.str own,.str pub,.str seed,.i64 best,.u64 fresh,.str secret,.u32 index,.i64 firsts,.i64 now,.bool busy,peers,.ptr paths 0,.ptr bucket 0,out,got],none⟩):
  ∃ v G' K' H',Done Tryz.prog 35 [.ptr d 0] K H (fun c=>c=d) v G' K' H'∧(G'=G∧K'=K∧l9 v∧aa H' d=some ⟨false,[.u32 here,.str own,.str pub,.str seed,.i64 best,.u64 (fresh+1#64),.str secret,.u32 index,.i64 firsts,.i64 now,.bool busy,peers,.ptr paths 0,.ptr bucket 0,out,got],none⟩):=by
 have hF:=h.devF hd hg
 have hlt:=h.lt hd
 have hseed:=hF.fseed
 unfold bn at hseed
 obtain⟨_,_,hD,rfl,os,ho1,ho2,rfl⟩:=jD 1 (.inl rfl) seed (bz fresh.toNat 8) (by omega) (by rw[cn];omega) 1 (by omega) (by omega)
 obtain⟨k,rfl,hk⟩:=tW ho1 ho2
 have hA:=ku fresh
 generalize hbb:bz fresh.toNat 8=bb at*
 have hbl:bb.length=8:=by rw[←hbb];exact cn _ _
 refine qi (W:=fun c=>c=d) (Post:=fun v G' K' H'=>G'=G∧K'=K∧l9 v∧aa H' d=some ⟨false,[.u32 here,.str own,.str pub,.str seed,.i64 best,.u64 (fresh+1#64),.str secret,.u32 index,.i64 firsts,.i64 now,.bool busy,peers,.ptr paths 0,.ptr bucket 0,out,got],none⟩) (by kernel_rfl) (fn:=Tryz.f35) Tryz.func35 rfl (by show 1≤Tryz.f35.ntmps;decide) (ag ?_)
 simp only[go_sem,seval,hg]
 repeat refine aJ ?_
 refine dj [] (hA) (by kernel_rfl) (by simp) rfl (by simp) (by first|decide|simp) (by simp) (by simp) (by simp) (by simp) (by simp) ?_
 simp only[go_sem,seval,d9,hbl,List.take_of_length_le (show(bb.map V.u8).length≤8 by simp;omega)]
 repeat refine aJ ?_
 refine dj [] (hD) (by kernel_rfl) (by simp) rfl (by simp) (by first|decide|simp) (by simp) (by simp) (by simp) (by simp) (by simp) ?_
 simp only[go_sem,seval,hg,eg hlt]
 refine⟨xv (kg H.length) ?_ (by simp[yQ hlt,yR,yh];rfl),?_⟩
 ·kernel_rfl
 have hlt1:d<(H++[some (⟨false,bb.map .u8,none⟩:Blk)]++[some (⟨false,[.str k],none⟩:Blk)]).length:=by simp;omega
 simp only[go_sem,seval,aP (show d≠H.length+1 by omega)]
 repeat refine aJ ?_
 exact EndWH.of ((((Cur.refl h _).junk (by simp)).junk (by simp[ac,V.low])).putW hd rfl (fun _=>rfl) (DevF.row (fresh:=fresh+1#64) {hF with})) trivial ⟨rfl,rfl,⟨k,rfl,hk⟩,aW hlt1 _⟩
end
section
variable {G:Gh}{K:Nat→Option Kd}{H:List (Option Blk)}{b p d m n:Nat}
theorem gA:∀ k,qF k→qA k:=fun k h=>by cases k<;>first|exact h|trivial
theorem sn:∀ k,qS k→qA k:=fun k h=>by cases k<;>first|exact h|trivial
theorem MR (h:WT G K H)(hd:K d=some (.dev m m))(hm:m≤8)(src dst:BitVec 32)(x:List af)(hx:x.length≤140737488355328)(ho:G.o d≤999000):∃ v G' K' H',Done Tryz.prog 23 [.ptr d 0,.u32 src,.u32 dst,.str x] K H (Wk qA K) v G' K' H'∧bC 2 0 bK G v G' K':=by
 obtain⟨here,own,pub,seed,best,fresh,secret,index,firsts,now,busy,peers,paths,bucket,out,got,hg,hF⟩:=h.dev hd
 have hld:=h.lt hd
 have hC0:=Cur.start (Q:=qA) h
 refine bE (W:=Wk qA K) (Post:=bC 2 0 bK G) (by kernel_rfl) (fn:=Tryz.f23) Tryz.func23 rfl (by show 4≤80;decide) (ag ?_)
 simp only[go_sem,seval,hg]
 by_cases hx2:1000<(x.length:Int)
 ·simp only[go_sem,seval,hx2,decide_true]
  exact EndW.of (hC0.up (G':=G) (Nat.zero_le 2) (Nat.le_refl 0) rfl) trivial ⟨rfl,_,rfl⟩
 simp only[go_sem,seval,hx2,decide_false]
 repeat refine aI ?_
 refine aT (yT h hF.fpaths dst) (by kernel_rfl) rfl (by simp[ac,V.low,h.lt hF.fpaths]) h.sane ?_
 rintro _ G1 K1 H1 hC1 hl1 ⟨rfl,rfl,k,r,rfl,hr⟩
 have hD1:=hC0.callP (W2:=fun _=>False) hC1 fun _ h=>h.elim
 have hd1:=(hC1.keep d hld fun h=>h).trans hg
 cases r
 ·simp only[go_sem,seval,Bool.not_false]
  exact EndW.of (hD1.up (G':=G1) (Nat.zero_le 2) (Nat.le_refl 0) rfl) trivial ⟨rfl,_,rfl⟩
 obtain⟨hk0,hk1⟩:=hr rfl
 obtain⟨i,rfl⟩:∃ i:Nat,k=(i:Int):=⟨k.toNat,by omega⟩
 have him:i<m:=by omega
 obtain⟨a,rfl,hm0,ha⟩:∃ a,peers= .slice a 0 m 1∧0<m∧K1 a=some (.peers d m):=by
  rcases hF.fpeers with⟨e,-⟩|h
  ·omega
  ·exact h
 obtain⟨cs,hga,hrow⟩:=hC1.wt.row ha rfl
 have hlen:=hY hrow
 obtain⟨p,hq,hp⟩:=jJ hrow him
 have hi':(i:Int)<m:=by omega
 simp only[go_sem,seval,hd1,Bool.not_true,hga,hq,hlen]
 repeat refine aI ?_
 have hpi:=hC1.wt.lt hp
 have hA:=vo (src.setWidth 64)
 generalize hbb:bz (src.setWidth 64).toNat 4=bb at*
 have hbl:bb.length=4:=by rw[←hbb];exact cn _ _
 refine aA [] (hA) (by kernel_rfl) (by simp) rfl (by simp) (by first|decide|simp) (by simp) (by simp) (by simp) (by simp) (by simp) ?_
 simp only[go_sem,seval,hbl,List.take_of_length_le (show(bb.map V.u8).length≤4 by simp;omega)]
 repeat refine aI ?_
 have hD2:=hD1.junk (vs:=bb.map V.u8) (mm:=none) (iO _ _)
 have hgp:=hC1.wt.peer hp
 obtain⟨tm,num,qub,psk,at_,kn,pin,stp,sec,nano,ck,un,wv,bg,bi,bt,ol,se,ne,hgq,hQ⟩:=hgp
 have hg2:=(dH (X:=[some (⟨false,bb.map V.u8,none⟩:Blk)]) hpi).trans hgq
 have hd2:=(dH (X:=[some (⟨false,bb.map V.u8,none⟩:Blk)]) (hC1.wt.lt hd)).trans hd1
 generalize H1++[some (⟨false,bb.map V.u8,none⟩:Blk)]=M at*
 have hpl:(bb++x).length≤2000:=by rw[List.length_append];omega
 generalize bb++x=pk at*
 refine aT (xz hD2.wt hp) (by kernel_rfl) rfl (by simp[ac,V.low,hD2.wt.lt hp]) hD2.wt.sane ?_
 rintro _ G3 K3 H3 hC3 hl3 ⟨rfl,rfl,r,rfl,hr⟩
 have hD3:=hD2.callP (W2:=fun _=>False) hC3 fun _ h=>h.elim
 have k3:∀ c,c<M.length→aa H3 c=aa M c:=fun c hc=>hC3.keep c hc fun h=>h
 cases r
 rotate_left
 ·simp only[go_sem,seval]
  refine aT (nc hC3.wt hp ((hr rfl).keep (k3 p (hD2.wt.lt hp))) pk (by omega) (by omega)) (by kernel_rfl) rfl (by simp[ac,V.low,hC3.wt.lt hp]) hC3.wt.sane ?_
  rintro _ G4 K4 H4 hC4 hl4 ⟨rfl,rfl⟩
  simp only[go_sem,seval]
  have hD4:=hD3.callK hC4 sn
  have hp4:=hC4.stay p _ rfl hp
  refine aT (mY hC4.wt hp4 (show(Gh.add _ 1 0).o d≤_ from by show _+1≤_;omega)) (by kernel_rfl) rfl (by simp[ac,V.low,hC4.wt.lt hp4]) hC4.wt.sane ?_
  rintro _ G5 K5 H5 hC5 hl5 ⟨rfl,rfl⟩
  simp only[go_sem,seval]
  have hD5:=hD4.callK hC5 gA
  rw[Gh.add_add] at hD5
  exact EndW.of hD5 trivial ⟨rfl,_,rfl⟩
 have hg3:=(k3 p (hD2.wt.lt hp)).trans hg2
 have hd3:=(k3 d (hD2.wt.lt hd)).trans hd2
 have hQ3:=hC3.wt.peerF hp hg3
 have hlp3:=hC3.wt.lt hp
 have hld3:=hC3.wt.lt hd
 have hpd:p≠d:=fun e=>by subst e;rw[hp] at hd;cases hd
 have hJ:=hD3.junk (vs:=[.str pk]) (mm:=none) (by simp[ac,V.low])
 have htm1:=hC3.wt.lt hQ3.ftm
 have htm2:tm<H3.length+2:=by omega
 have htm3:tm<H3.length+1+1:=by omega
 rcases hQ3.fwaits with rfl|⟨wa,wk,rfl,hwk0,hwk,hwa⟩
 ·have hD4:=rb (H3.length+1) (by simp) hJ hp trivial (fun _=>trivial) hQ3 none 0 1 (fun _ e=>by cases e) (by omega) (by omega) (ds:=[.str pk]) ⟨⟨pk,rfl,hpl⟩,trivial⟩
  have hl4:p<(H3++[some (⟨false,[.str pk],none⟩:Blk)]++[some (⟨false,[.str pk],none⟩:Blk)]).length:=by simp;omega
  simp only[go_sem,seval,hg3,eg hlp3,aW hl4,aP hpd,eg hld3,hd3]
  repeat refine aI ?_
  have hp4:=hD4.stay p _ rfl hp
  have ht4:=hD4.stay tm _ rfl hQ3.ftm
  refine bN (fh hD4.wt ht4 3 now) (by kernel_rfl) rfl (by simp[ac,V.low,htm2]) hD4.wt.sane ?_
  rintro _ G5 K5 H5 hC5 hl5 ⟨rfl,rfl,e5,rfl⟩
  simp only[go_sem,seval]
  repeat refine aI ?_
  have hD5:=hD4.callP (W2:=fun c=>c=tm) hC5 fun c e=>by subst e;exact⟨_,ht4,trivial⟩
  have hp5:=hC5.stay p _ rfl hp4
  refine aT (mY hC5.wt hp5 (by omega)) (by kernel_rfl) rfl (by simp[ac,V.low,hC5.wt.lt hp5]) hC5.wt.sane ?_
  rintro _ G6 K6 H6 hC6 hl6 ⟨rfl,rfl⟩
  simp only[go_sem,seval]
  have hD6:=hD5.callK hC6 gA
  exact EndW.of (hD6.up (show 1≤2 by omega) (Nat.le_refl 0) rfl) trivial ⟨rfl,_,rfl⟩
 obtain⟨ws,hgw,hrw⟩:=hC3.wt.row hwa rfl
 have hlw:=hY hrw
 have hlwa:=hC3.wt.lt hwa
 have hpw:p≠wa:=fun e=>by subst e;rw[hp] at hwa;cases hwa
 have hdw:d≠wa:=fun e=>by subst e;rw[hd] at hwa;cases hwa
 by_cases h4:wk=4
 ·subst h4
  obtain⟨w0,w1,w2,w3,rfl⟩:∃ w0 w1 w2 w3,ws=[w0,w1,w2,w3]:=by
   match ws,hlw with
   |[w0,w1,w2,w3],_=>exact⟨_,_,_,_,rfl⟩
  have hrt:Row K3 (aU 3 [.strS]) [w1,w2,w3]:=F7 hrw
  have hD4:=rb (H3.length+1) (by simp) hJ hp trivial (fun _=>trivial) hQ3 (some wa) 4 4 (fun _ e=>by cases e;exact hwa) (by omega) (by omega) (ds:=[w1,w2,w3]++[.str pk]) (jI hrt ⟨⟨pk,rfl,hpl⟩,trivial⟩)
  have hl4:p<((H3++[some (⟨false,[.str pk],none⟩:Blk)]).set wa none++[some (⟨false,[w1,w2,w3,.str pk],none⟩:Blk)]).length:=by simp;omega
  simp only[go_sem,seval,hg3,decide_true,bW,aW hlp3,aP hpw,aP hpw.symm,List.length_set,hlwa,hlp3,hgw,Jx hlp3 hpw,aW hl4,aP hpd,gD hld3 hdw.symm,hd3]
  repeat refine aI ?_
  have hp4:=hD4.stay p _ rfl hp
  have ht4:=hD4.stay tm _ rfl hQ3.ftm
  refine bN (fh hD4.wt ht4 3 now) (by kernel_rfl) rfl (by simp[ac,V.low,htm2]) hD4.wt.sane ?_
  rintro _ G5 K5 H5 hC5 hl5 ⟨rfl,rfl,e5,rfl⟩
  simp only[go_sem,seval]
  repeat refine aI ?_
  have hD5:=hD4.callP (W2:=fun c=>c=tm) hC5 fun c e=>by subst e;exact⟨_,ht4,trivial⟩
  have hp5:=hC5.stay p _ rfl hp4
  refine aT (mY hC5.wt hp5 (by omega)) (by kernel_rfl) rfl (by simp[ac,V.low,hC5.wt.lt hp5]) hC5.wt.sane ?_
  rintro _ G6 K6 H6 hC6 hl6 ⟨rfl,rfl⟩
  simp only[go_sem,seval]
  have hD6:=hD5.callK hC6 gA
  exact EndW.of (hD6.up (show 1≤2 by omega) (Nat.le_refl 0) rfl) trivial ⟨rfl,_,rfl⟩
 ·have h4':¬ (wk:Int)=4:=by omega
  have hD4:=rb (H3.length+1) (by simp) hJ hp trivial (fun _=>trivial) hQ3 (some wa) wk (wk+1) (fun _ e=>by cases e;exact hwa) (by omega) (by omega) (ds:=ws++[.str pk]) (jI hrw ⟨⟨pk,rfl,hpl⟩,trivial⟩)
  have hl4:p<((H3++[some (⟨false,[.str pk],none⟩:Blk)]).set wa none++[some (⟨false,ws++[.str pk],none⟩:Blk)]).length:=by simp;omega
  simp only[go_sem,seval,hg3,h4',decide_false,dH hlwa,hgw,gD hlp3 hpw.symm,aW hl4,aP hpd,gD hld3 hdw.symm,hd3,List.drop_zero,List.take_of_length_le (show ws.length≤wk by omega)]
  repeat refine aI ?_
  have hp4:=hD4.stay p _ rfl hp
  have ht4:=hD4.stay tm _ rfl hQ3.ftm
  refine bN (fh hD4.wt ht4 3 now) (by kernel_rfl) rfl (by simp[ac,V.low,htm2]) hD4.wt.sane ?_
  rintro _ G5 K5 H5 hC5 hl5 ⟨rfl,rfl,e5,rfl⟩
  simp only[go_sem,seval]
  repeat refine aI ?_
  have hD5:=hD4.callP (W2:=fun c=>c=tm) hC5 fun c e=>by subst e;exact⟨_,ht4,trivial⟩
  have hp5:=hC5.stay p _ rfl hp4
  refine aT (mY hC5.wt hp5 (by omega)) (by kernel_rfl) rfl (by simp[ac,V.low,hC5.wt.lt hp5]) hC5.wt.sane ?_
  rintro _ G6 K6 H6 hC6 hl6 ⟨rfl,rfl⟩
  simp only[go_sem,seval]
  have hD6:=hD5.callK hC6 gA
  exact EndW.of (hD6.up (show 1≤2 by omega) (Nat.le_refl 0) rfl) trivial ⟨rfl,_,rfl⟩
end
section
variable {G Gi:Gh}{K K0:Nat→Option Kd}{H H0:List (Option Blk)}{b p d m n:Nat}
theorem Rw:(1∈[1,2])=True:=by simp
theorem EB {i:Nat}(hi:i≤4)(hC:Cur K0 H0 (Wk qA K0) (G.add i 0) K H)(hp:K p=some (.peer d))(hgb:G.g d≤999000)(txt:List af)(hl:txt.length≤bn)(fr:BitVec 32){t:List (Nat×V)}
  (h0:ae t 0= .ptr p 0) (h4:ae t 4= .u32 fr) (h11:ae t 11= .str txt) (r0 r1 s2 s4 c:Code) (hc:Tryz.f100.body=some (.seq r0 (.seq r1 (.seq s2 (.seq s4 c))))):
  vc Tryz.prog H0.length Tryz.f100.ntmps c (b8 Tryz.prog Tryz.f100 (EndW K0 H0 (Wk qA K0) (bC 4 1 bK G))) ⟨t,H⟩:=by
 unfold bn at hl
 obtain⟨tm,num,qub,psk,at_,kn,pin,stp,sec,nano,ck,un,wv,bg,bi,bt,ol,se,ne,hgq,hQ⟩:=hC.wt.peer hp
 obtain⟨m,n,hd⟩:=hQ.fdv
 obtain⟨here,own,pub,seed,best,fresh,secret,index,firsts,now,busy,peers,paths,bucket,out,got,hg,hF⟩:=hC.wt.dev hd
 have hlp:=hC.wt.lt hp
 have hld:=hC.wt.lt hd
 have hpd:p≠d:=fun e=>by subst e;rw[hp] at hd;cases hd
 simp only[Tryz.f100,Option.some.injEq,Code.seq.injEq] at hc
 obtain⟨-,-,-,-,rfl⟩:=hc
 refine ag ?_
 simp only[go_sem,seval,h0,h4,h11,hgq,aW hlp]
 repeat refine aI ?_
 have hC1:=hC.putK hp rfl trivial (PeerF.row (num:=num) (at_:=fr) (stamped:=stp) (sec:=sec) (nano:=nano) (until_:=un) (bindex:=bi) {hQ with})
 have hg1:=(aP (H:=H) hpd (some (⟨false,[.ptr d 0,.ptr tm 0,.i64 num,.str qub,.str psk,.u32 fr,.i64 kn,.i64 pin,.bool stp,.i64 sec,.i64 nano,.str ck,.i64 un,wv,bg,.u32 bi,.str bt,ol,se,ne],none⟩:Blk))).trans hg
 have hgq1:=aW hlp (some (⟨false,[.ptr d 0,.ptr tm 0,.i64 num,.str qub,.str psk,.u32 fr,.i64 kn,.i64 pin,.bool stp,.i64 sec,.i64 nano,.str ck,.i64 un,wv,bg,.u32 bi,.str bt,ol,se,ne],none⟩:Blk))
 generalize H.set p (some (⟨false,[.ptr d 0,.ptr tm 0,.i64 num,.str qub,.str psk,.u32 fr,.i64 kn,.i64 pin,.bool stp,.i64 sec,.i64 nano,.str ck,.i64 un,wv,bg,.u32 bi,.str bt,ol,se,ne],none⟩:Blk))=M at*
 by_cases ht:txt=[]
 ·simp only[go_sem,seval,ht,decide_true]
  exact EndW.of (hC1.up hi (Nat.zero_le 1) rfl) trivial ⟨rfl,_,rfl⟩
 simp only[go_sem,seval,ht,decide_false,hg1]
 repeat refine aI ?_
 refine bN (fh hC1.wt hQ.ftm 2 now) (by kernel_rfl) rfl (by simp[ac,V.low,hC1.wt.lt hQ.ftm]) hC1.wt.sane ?_
 rintro _ G2 K2 H2 hC2 hl2 ⟨rfl,rfl,e2,rfl⟩
 simp only[go_sem,seval,h11]
 repeat refine aI ?_
 have hD2:=hC1.callP (W2:=fun c=>c=tm) hC2 fun c e=>by subst e;exact⟨_,hQ.ftm,trivial⟩
 have hlm:M.length≤H2.length:=hC2.len
 have htp:p≠tm:=fun e=>by subst e;have :=hQ.ftm;rw[hp] at this;cases this
 have htd:d≠tm:=fun e=>by subst e;have :=hQ.ftm;rw[hd] at this;cases this
 have hg2:=(hC2.keep d (hC1.wt.lt hd) htd).trans hg1
 have hgq2:=(hC2.keep p (hC1.wt.lt hp) htp).trans hgq1
 by_cases h4:(txt.length:Int)<4
 ·simp only[go_sem,seval,h4,decide_true]
  exact EndW.of (hD2.up hi (Nat.zero_le 1) rfl) trivial ⟨rfl,_,rfl⟩
 simp only[go_sem,seval,h4,decide_false]
 repeat refine aI ?_
 refine ak (k7 (txt.take 4) (by simp;omega)) ?_
 simp only[go_sem,seval]
 repeat refine aI ?_
 simp only[go_sem,seval,h0,hg2,hgq2]
 repeat refine aI ?_
 refine aT (yT hC2.wt hF.fpaths _) (by kernel_rfl) rfl (by simp[ac,V.low,hC2.wt.lt hF.fpaths]) hC2.wt.sane ?_
 rintro _ G3 K3 H3 hC3 hl3 ⟨rfl,rfl,k,r,rfl,hr⟩
 have hD3:=hD2.callP (W2:=fun _=>False) hC3 fun _ h=>h.elim
 have hg3:=(hC3.keep d (hC2.wt.lt hd) fun h=>h).trans hg2
 have hgq3:=(hC3.keep p (hC2.wt.lt hp) fun h=>h).trans hgq2
 have hlp3:=hC3.wt.lt hp
 have hld3:=hC3.wt.lt hd
 cases r
 ·simp only[go_sem,seval,Bool.not_false]
  repeat refine aI ?_
  exact EndW.of (hD3.up hi (Nat.zero_le 1) rfl) trivial ⟨rfl,_,rfl⟩
 simp only[go_sem,seval,h0,Bool.not_true,hgq3]
 repeat refine aI ?_
 by_cases hkn:k=num
 rotate_left
 ·simp only[go_sem,seval,hkn,not_false_eq_true,decide_true]
  exact EndW.of (hD3.up hi (Nat.zero_le 1) rfl) trivial ⟨rfl,_,rfl⟩
 simp only[go_sem,seval,h0,h11,hkn,not_true,decide_false,hgq3,hg3]
 repeat refine aI ?_
 have hF3:=hC3.wt.devF hd hg3
 have hJ:=hD3.junk (vs:=[.i64 num,.u32 (BitVec.setWidth 32 (BitVec.ofNat 64 (be (List.take 4 txt)))),.str (List.drop 4 txt)]) (mm:=none) (by simp[ac,V.low])
 have hxb:(txt.drop 4).length≤bn:=by unfold bn;simp;omega
 rcases hF3.fgot with rfl|⟨a,k,rfl,hk0,hk,ha⟩
 ·simp only[go_sem,seval,hg3,eg hld3]
  repeat refine aI ?_
  refine And.intro ?_ ?_
  ·refine co (cM H3.length) [([],[]),([],[]),([],[]),([0],[]),([],[]),([],[]),([],[]),([0],[]),([],[]),([],[]),([0],[]),([],[]),([],[]),([],[]),([0],[]),([],[]),([],[]),([0],[]),([],[]),([],[1]),([1],[1]),([],[]),([],[]),([0],[0])] (by kernel_rfl) (by simp only[cC,cD,cE,all_cons,j6,sP,ce hld3,ce hlp3,cT,fa,and_true])
  exact EndW.of ((yl (H3.length+1) (by simp) hJ hd trivial (fun _=>trivial) hF3 none 0 (fun _ e=>by cases e) (cs:=[]) trivial (Nat.zero_le _) num _ _ hxb).up (G':=G) hi (Nat.le_refl 1) (Gh.add_add G i 0 0 1)) trivial ⟨rfl,_,rfl⟩
 ·obtain⟨cs,hga,hr⟩:=hC3.wt.row ha rfl
  have hl:=k9 hr
  have hlta:=hC3.wt.lt ha
  have hne:a≠d:=fun e=>by subst e;rw[hd] at ha;cases ha
  have hpa:p≠a:=fun e=>by subst e;rw[hp] at ha;cases ha
  have hk2:k≤999000:=Nat.le_trans hk (show(G.add i 0).g d≤999000 from hgb)
  simp only[go_sem,seval,hg3,hga,dH hlta,gD hld3 hne,List.drop_zero,List.take_of_length_le (show cs.length≤k*3 by omega)]
  repeat refine aI ?_
  refine And.intro ?_ ?_
  ·refine co (cU a H3.length) [([],[]),([],[]),([],[]),([0],[]),([],[]),([],[]),([],[]),([0],[]),([],[]),([],[]),([0],[]),([],[]),([],[]),([],[]),([0],[]),([],[]),([],[]),([0],[]),([],[]),([],[1]),([1,2],[1,2]),([],[]),([],[]),([0],[0])] (by kernel_rfl) (by simp only[cC,cD,cE,all_cons,lL,dO hld3 hne.symm,dO hlp3 hpa,Rw,tN hlta,sQ hlta,cT,fa,pR,and_true])
  exact EndW.of ((yl (H3.length+1) (by simp) hJ hd trivial (fun _=>trivial) hF3 (some a) k (fun _ e=>by cases e;exact ha) hr hk num _ _ hxb).up (G':=G) hi (Nat.le_refl 1) (Gh.add_add G i 0 0 1)) trivial ⟨rfl,_,rfl⟩
theorem EC (h:WT G K H)(hp:K p=some (.peer d)){x:Nat}(hx:K x=some .ses)(no:Int)(txt:List af)(hl:txt.length≤1048000)(fr:BitVec 32)(ho:G.o d≤999990)(hgb:G.g d≤999000)
  (r0 r1 s2 s4 c:Code) (hc:Tryz.f100.body=some (.seq r0 (.seq r1 (.seq s2 (.seq s4 c))))):
  vc Tryz.prog H.length Tryz.f100.ntmps (.seq r0 (.seq r1 (.seq s2 (.seq s4 c)))) (b8 Tryz.prog Tryz.f100 (EndW K H (Wk qA K) (bC 4 1 bK G))) ⟨cW [.ptr p 0,.ptr x 0,.i64 no,.str txt,.u32 fr] 0,H⟩:=by
 have tail:=fun {i:Nat} (hi:i≤4) {K1:Nat→Option Kd} {H1:List (Option Blk)} (hC:Cur K H (Wk qA K) (G.add i 0) K1 H1) (hp:K1 p=some (.peer d)) (s:List af) (hs:s.length≤txt.length+16) {t:List (Nat×V)} (h0:ae t 0= .ptr p 0) (h4:ae t 4= .u32 fr) (h11:ae t 11= .str s)=>
  EB hi hC hp hgb s (by unfold bn;omega) fr h0 h4 h11 r0 r1 s2 s4 c hc
 simp only[Tryz.f100,Option.some.injEq,Code.seq.injEq] at hc
 obtain⟨rfl,rfl,rfl,rfl,hc⟩:=hc
 clear hc
 obtain⟨tm,num,qub,psk,at_,kn,pin,stp,sec,nano,ck,un,wv,bg,bi,bt,ol,se,ne,hgq,hQ⟩:=h.peer hp
 obtain⟨m,n,hd⟩:=hQ.fdv
 obtain⟨here,own,pub,seed,best,fresh,secret,index,firsts,now,busy,peers,paths,bucket,out,got,hg,hF⟩:=h.dev hd
 obtain⟨pc,su,mine,theirs,hgx,hX⟩:=h.ses hx
 have hlp:=h.lt hp
 have hld:=h.lt hd
 have hlx:=h.lt hx
 have hpd:p≠d:=fun e=>by subst e;rw[hp] at hd;cases hd
 have hpx:p≠x:=fun e=>by subst e;rw[hp] at hx;cases hx
 have hC0:=Cur.start (Q:=qA) h
 refine ag ?_
 simp only[go_sem,seval,hgq,hg,hgx]
 repeat refine aI ?_
 refine bN (Jv h hX.fpair no txt (by omega) now) (by kernel_rfl) rfl (by simp[ac,V.low,h.lt hX.fpair]) h.sane ?_
 rintro _ G1 K1 H1 hC1 hl1 ⟨rfl,rfl,s,e,rfl,hs⟩
 simp only[go_sem,seval]
 repeat refine aI ?_
 by_cases h0:e=0
 rotate_left
 ·simp only[go_sem,seval,h0,not_false_eq_true,decide_true]
  exact EndW.of ((hC0.callP (W2:=fun c=>K1 c=some .win) hC1 fun c e=>⟨_,e,trivial⟩).up (G':=G1) (Nat.zero_le 4) (Nat.zero_le 1) rfl) trivial ⟨rfl,_,rfl⟩
 subst h0
 simp only[go_sem,seval,not_true,decide_false]
 have hD1:=hC0.callP (W2:=fun c=>K1 c=some .win) hC1 fun c e=>⟨_,e,trivial⟩
 have nk:∀ c k,K1 c=some k→k≠ .win→aa H1 c=aa H c:=fun c k e hn=>hC1.keep c (h.lt e) fun e2=>hn (by rw[e] at e2;cases e2;rfl)
 have hgq1:=(nk p _ hp (by intro e;cases e)).trans hgq
 have hg1:=(nk d _ hd (by intro e;cases e)).trans hg
 have hgx1:=(nk x _ hx (by intro e;cases e)).trans hgx
 have hlp1:=hC1.wt.lt hp
 rcases hQ.fnext with rfl|⟨c,rfl,hc⟩
 ·simp only[go_sem,seval,hgq1]
  repeat refine aI ?_
  exact tail (i:=0) (Nat.zero_le 4) hD1 hp s hs rfl rfl rfl
 obtain⟨pc2,su2,mine2,theirs2,hgc,hX2⟩:=hC1.wt.ses hc
 simp only[go_sem,seval,hgq1,hgx1,hgc]
 repeat refine aI ?_
 by_cases hxc:x=c
 rotate_left
 ·simp only[go_sem,seval,hxc,decide_false]
  exact tail (i:=0) (Nat.zero_le 4) hD1 hp s hs rfl rfl rfl
 subst hxc
 have hpin:1≤(if pin<su then su else pin)∧(if pin<su then su else pin)≤2:=by
  have :=hQ.fpin
  have :=hX.fsuite
  split <;>omega
 have htp:p≠tm:=fun e=>by subst e;have :=hQ.ftm;rw[hp] at this;cases this
 rcases hQ.fsession with rfl|⟨c2,rfl,hc2⟩
 ·simp only[go_sem,seval,true_and,decide_true,aW hlp1,List.length_set,hlp1,aP hpx,hgx1,List.set_set,aP hpd,hg1]
  repeat refine aI ?_
  have hC2:=hD1.putK hp rfl trivial (PeerF.row (num:=num) (at_:=at_) (stamped:=stp) (sec:=sec) (nano:=nano) (until_:=un) (bindex:=bi) (old:= .nilPtr) (session:= .ptr x 0) (next:= .nilPtr) (pin:=if pin<su then su else pin) {hQ with fold:=hQ.fsession,fsession:= .inr ⟨x,rfl,hx⟩,fnext:= .inl rfl,fpin:=hpin})
  have hgq2:=aW hlp1 (some (⟨false,[.ptr d 0,.ptr tm 0,.i64 num,.str qub,.str psk,.u32 at_,.i64 kn,.i64 (if pin<su then su else pin),.bool stp,.i64 sec,.i64 nano,.str ck,.i64 un,wv,bg,.u32 bi,.str bt,.nilPtr,.ptr x 0,.nilPtr],none⟩:Blk))
  generalize H1.set p (some (⟨false,[.ptr d 0,.ptr tm 0,.i64 num,.str qub,.str psk,.u32 at_,.i64 kn,.i64 (if pin<su then su else pin),.bool stp,.i64 sec,.i64 nano,.str ck,.i64 un,wv,bg,.u32 bi,.str bt,.nilPtr,.ptr x 0,.nilPtr],none⟩:Blk))=M at*
  refine bN (fh hC2.wt hQ.ftm 5 now) (by kernel_rfl) rfl (by simp[ac,V.low,hC2.wt.lt hQ.ftm]) hC2.wt.sane ?_
  rintro _ G3 K3 H3 hC3 hl3 ⟨rfl,rfl,e3,rfl⟩
  have hD3:=hC2.callP (W2:=fun c=>c=tm) hC3 fun c e=>by subst e;exact⟨_,hQ.ftm,trivial⟩
  have hgq3:=(hC3.keep p (hC2.wt.lt hp) htp).trans hgq2
  have hlp3:=hC3.wt.lt hp
  have hlm:M.length≤H3.length:=hC3.len
  simp only[go_sem,seval,hgq3]
  repeat refine aI ?_
  have hC4:=hD3.putK hp rfl trivial (PeerF.row (num:=num) (at_:=fr) (stamped:=stp) (sec:=sec) (nano:=nano) (until_:=un) (bindex:=bi) (old:= .nilPtr) (session:= .ptr x 0) (next:= .nilPtr) (pin:=if pin<su then su else pin) {hQ with fold:=hQ.fsession,fsession:= .inr ⟨x,rfl,hx⟩,fnext:= .inl rfl,fpin:=hpin})
  refine aT (lc hC4.wt hp ⟨_,x,aW hlp3 _,rfl⟩ (by omega)) (by kernel_rfl) rfl (by simp[ac,V.low,hlp3]) hC4.wt.sane ?_
  rintro _ G5 K5 H5 hC5 hl5 ⟨rfl,rfl⟩
  simp only[go_sem]
  exact tail (Nat.le_refl 4) (hC4.callK hC5 gA) (hC5.stay p _ rfl hp) s hs rfl rfl rfl
 ·simp only[go_sem,seval,true_and,decide_true,aW hlp1,List.length_set,hlp1,aP hpx,hgx1,List.set_set,aP hpd,hg1]
  repeat refine aI ?_
  have hC2:=hD1.putK hp rfl trivial (PeerF.row (num:=num) (at_:=at_) (stamped:=stp) (sec:=sec) (nano:=nano) (until_:=un) (bindex:=bi) (old:= .ptr c2 0) (session:= .ptr x 0) (next:= .nilPtr) (pin:=if pin<su then su else pin) {hQ with fold:=hQ.fsession,fsession:= .inr ⟨x,rfl,hx⟩,fnext:= .inl rfl,fpin:=hpin})
  have hgq2:=aW hlp1 (some (⟨false,[.ptr d 0,.ptr tm 0,.i64 num,.str qub,.str psk,.u32 at_,.i64 kn,.i64 (if pin<su then su else pin),.bool stp,.i64 sec,.i64 nano,.str ck,.i64 un,wv,bg,.u32 bi,.str bt,.ptr c2 0,.ptr x 0,.nilPtr],none⟩:Blk))
  generalize H1.set p (some (⟨false,[.ptr d 0,.ptr tm 0,.i64 num,.str qub,.str psk,.u32 at_,.i64 kn,.i64 (if pin<su then su else pin),.bool stp,.i64 sec,.i64 nano,.str ck,.i64 un,wv,bg,.u32 bi,.str bt,.ptr c2 0,.ptr x 0,.nilPtr],none⟩:Blk))=M at*
  refine bN (fh hC2.wt hQ.ftm 5 now) (by kernel_rfl) rfl (by simp[ac,V.low,hC2.wt.lt hQ.ftm]) hC2.wt.sane ?_
  rintro _ G3 K3 H3 hC3 hl3 ⟨rfl,rfl,e3,rfl⟩
  have hD3:=hC2.callP (W2:=fun c=>c=tm) hC3 fun c e=>by subst e;exact⟨_,hQ.ftm,trivial⟩
  have hgq3:=(hC3.keep p (hC2.wt.lt hp) htp).trans hgq2
  have hlp3:=hC3.wt.lt hp
  have hlm:M.length≤H3.length:=hC3.len
  simp only[go_sem,seval,hgq3]
  repeat refine aI ?_
  have hC4:=hD3.putK hp rfl trivial (PeerF.row (num:=num) (at_:=fr) (stamped:=stp) (sec:=sec) (nano:=nano) (until_:=un) (bindex:=bi) (old:= .ptr c2 0) (session:= .ptr x 0) (next:= .nilPtr) (pin:=if pin<su then su else pin) {hQ with fold:=hQ.fsession,fsession:= .inr ⟨x,rfl,hx⟩,fnext:= .inl rfl,fpin:=hpin})
  refine aT (lc hC4.wt hp ⟨_,x,aW hlp3 _,rfl⟩ (by omega)) (by kernel_rfl) rfl (by simp[ac,V.low,hlp3]) hC4.wt.sane ?_
  rintro _ G5 K5 H5 hC5 hl5 ⟨rfl,rfl⟩
  simp only[go_sem]
  exact tail (Nat.le_refl 4) (hC4.callK hC5 gA) (hC5.stay p _ rfl hp) s hs rfl rfl rfl
theorem JD (h:WT G K H)(hp:K p=some (.peer d)){x:Nat}(hx:K x=some .ses)(no:Int)(txt:List af)(hl:txt.length≤1048000)(fr:BitVec 32)(ho:G.o d≤999990)(hgb:G.g d≤999000):
  ∃ v G' K' H',Done Tryz.prog 100 [.ptr p 0,.ptr x 0,.i64 no,.str txt,.u32 fr] K H (Wk qA K) v G' K' H'∧bC 4 1 bK G v G' K':=
 bE (W:=Wk qA K) (Post:=bC 4 1 bK G) (by kernel_rfl) (fn:=Tryz.f100) Tryz.func100 rfl (by show 5≤156;decide) (EC h hp hx no txt hl fr ho hgb _ _ _ _ _ rfl)
end
def full (n:Int):Bool:=decide (5≤n)
def MapC.drop (m:MapC):MapC:=⟨m.es.filter fun e=>!full e.2.2,m.clock⟩
theorem Da (m:MapC)(hm:m.ok):ao Tryz.prog 129 [.map 0,.fn 130 [] []] [some ⟨false,[],some m⟩] (.tup []) [some ⟨false,[],some m.drop⟩]:=by
 refine n7 (fn:=Tryz.f129) Tryz.func129 rfl (by show 2≤19;decide) ?_
 let M:List Nat→MapC:=fun seen=>⟨ef full m.es seen,m.clock⟩
 let J:List Nat→St:=fun seen=>⟨[(0,.map 0),(1,.fn 130 [] []),(7,.ptr 1 0)],[some ⟨false,[],some (M seen)⟩,none]⟩
 have hM0:M []=m:=by show(⟨ef full m.es [],m.clock⟩:MapC)=m;rw[BJ]
 refine Kk (Q:=eN (fun s'=>aa s'.H 0=some ⟨false,[],some m.drop⟩∧1≤s'.H.length) fun _ _=>False) (vm (by kernel_rfl) (S1:=⟨[(6,.map 0),(0,.map 0),(1,.fn 130 [] [])],[some ⟨false,[],some m⟩]⟩) (pre:=[_]) (bm:=0) (fun _=>True) J M (ic m.es) rfl (by simp) (iX ?_) rfl (by rw[hM0];rfl) rfl rfl rfl (by decide) Tryz.underlying131 rfl rfl rfl (by decide) rfl rfl rfl rfl (by decide) trivial (fun seen _=>⟨fun e he=>?_,?_,Nat.le_refl _⟩) (fun seen _=>rfl) ?_ (fun seen=>rfl) (fun seen _ hall=>iX ?_) (fun seen e _ he hs=>⟨trivial,?_,iX ?_⟩)) ?_
 ·simp only[go_sem,seval]
 ·exact hm.below e ((List.mem_filter.1 he).1)
 ·exact List.Nodup.sublist (List.Sublist.map _ List.filter_sublist) hm.stamps
 ·refine Weak.drop ?_ rfl (fun b B h=>?_)
  ·simp[J,St.get,ae,cz]
  ·simpa [J,hM0] using h
 ·have h2:M seen=m.drop:=by
   show(⟨ef full m.es seen,m.clock⟩:MapC)=⟨m.es.filter fun e=>!full e.2.2,m.clock⟩
   rw[BK hall]
  simp only[go_sem,seval,J,h2]
 ·exact wS ((List.mem_filter.1 he).1) hs
 ·have he0:e∈m.es:=(List.mem_filter.1 he).1
  have hM1:M (seen++[e.1])=if full e.2.2=true then(M seen).del e.2.1 else M seen:=by
   show(⟨ef full m.es (seen++[e.1]),m.clock⟩:MapC)=if full e.2.2=true then⟨gG e.2.1 (ef full m.es seen),m.clock⟩ else⟨ef full m.es seen,m.clock⟩
   rw[Bf hm he0 hs]
   split <;>rfl
  obtain⟨st,k,v⟩:=e
  simp only at hM1 hs
  simp only[go_sem,seval,J]
  refine iX ?_
  simp only[go_sem,seval]
  refine ag ?_
  simp only[go_sem,seval]
  refine ak (Ga k v) ?_
  simp only[go_sem,seval]
  by_cases hv:5≤v
  ·have hf:full v=true:=decide_eq_true hv
   rw[if_pos hf] at hM1
   simp only[go_sem,seval,hv,hM1]
   refine⟨rfl,Weak.drop ?_ rfl (fun _ _ h=>h)⟩
   simp[St.get,ae]
  ·have hf:¬ full v=true:=by unfold full;simp[hv]
   rw[if_neg hf] at hM1
   simp only[go_sem,seval,hv,hM1]
   refine⟨rfl,Weak.drop ?_ rfl (fun _ _ h=>h)⟩
   simp[St.get,ae]
 ·intro x s' hx
  cases x
  case normal=>
   obtain⟨h1,h2⟩:=hx
   show Fin 1 (.tup []) [some ⟨false,[],some m.drop⟩] (.tup []) s'
   refine Fin.same (Nat.le_refl _) h2 trivial (fun b B h=>?_)
   cases b with
   |zero=>
    simp only[rz] at h
    injection h with h
    subst h
    exact⟨h1,trivial⟩
   |succ b=>simp[aa] at h
  all_goals exact hx.elim
def dA (d:Int)(l:List (Nat×BitVec 32×Int))(seen:List Nat):List (Nat×BitVec 32×Int):=l.map fun e=>if seen.contains e.1=true then(e.1,e.2.1,e.2.2+d) else e
def MapC.more (d:Int)(m:MapC):MapC:=⟨m.es.map fun e=>(e.1,e.2.1,e.2.2+d),m.clock⟩
theorem B9 (d:Int)(l:List (Nat×BitVec 32×Int)):dA d l []=l:=by
 unfold dA;simp
theorem AC (d:Int)(l:List (Nat×BitVec 32×Int))(seen:List Nat):(dA d l seen).map (·.1)=l.map (·.1):=by
 unfold dA
 rw[List.map_map]
 refine List.map_congr_left fun x _=>?_
 simp only[Function.comp]
 split <;>rfl
theorem uH (d:Int)(l:List (Nat×BitVec 32×Int))(seen:List Nat):(dA d l seen).map (·.2.1)=l.map (·.2.1):=by
 unfold dA
 rw[List.map_map]
 refine List.map_congr_left fun x _=>?_
 simp only[Function.comp]
 split <;>rfl
theorem uX {d:Int}{l:List (Nat×BitVec 32×Int)}{seen:List Nat}{e:Nat×BitVec 32×Int}(h:e∈dA d l seen)(hs:e.1∉seen):e∈l:=by
 unfold dA at h
 obtain⟨x,hx,he⟩:=List.mem_map.1 h
 split at he
 ·rename_i hc
  rw[←he] at hs
  exact absurd (by simpa using hc) hs
 ·rw[←he];exact hx
theorem Bo {d:Int}{m:MapC}(hm:m.ok){seen:List Nat}{e:Nat×BitVec 32×Int}(he:e∈m.es)(hs:e.1∉seen):dA d m.es (seen++[e.1])=gF e.2.1 (e.2.2+d) (dA d m.es seen):=by
 rw[qP _ _ _ (by rw[uH];exact hm.keys)]
 unfold dA
 rw[List.map_map]
 refine List.map_congr_left fun x hx=>?_
 simp only[Function.comp]
 by_cases hxe:x=e
 ·subst hxe
  simp[hs]
 ·have h1:x.1≠e.1:=fun h=>hxe (kN hm.stamps hx he h)
  have h2:x.2.1≠e.2.1:=fun h=>hxe (kN hm.keys hx he h)
  by_cases h3:x.1∈seen
  ·simp[h2,h3]
  ·simp[h1,h2,h3]
theorem Ca {d:Int}{m:MapC}{seen:List Nat}(h:∀ e∈dA d m.es seen,e.1∈seen):dA d m.es seen=(m.more d).es:=by
 unfold dA MapC.more at*
 refine List.map_congr_left fun x hx=>?_
 have :=h _ (List.mem_map.2 ⟨x,hx,rfl⟩)
 by_cases h3:x.1∈seen
 ·rw[if_pos (by simpa using h3)]
 ·rw[if_neg (by simpa using h3)] at this
  exact absurd this h3
theorem MapC.more_ok {m:MapC}(hm:m.ok)(d:Int):(m.more d).ok:=
 ⟨by unfold MapC.more;rw[List.map_map];exact hm.stamps,fun e he=>by
  unfold MapC.more at he
  obtain⟨x,hx,rfl⟩:=List.mem_map.1 he
  exact hm.below x hx,by unfold MapC.more;rw[List.map_map];exact hm.keys⟩
theorem MapC.drop_ok {m:MapC}(hm:m.ok):m.drop.ok:=
 ⟨List.Nodup.sublist (List.Sublist.map _ List.filter_sublist) hm.stamps,fun e he=>hm.below e (List.mem_filter.1 he).1,List.Nodup.sublist (List.Sublist.map _ List.filter_sublist) hm.keys⟩
def fb (t0 now:Int)(k:BitVec 32)(m:MapC):Int×Int×MapC:=
 if now<t0∨1099511627776<now then(1,t0,m) else
  let m2:=(m.more (min (now-t0) 5)).drop
  match cP k m2.es with
  |some n=>if n=0 then(15,now,m2) else(0,now,m2.set k (n-1))
  |none=>if(m2.es.length:Int)=16 then(9,now,m2) else(0,now,m2.set k 4)
theorem Gd (t0 now:Int)(k:BitVec 32)(m:MapC)(hm:m.ok)(hv:∀ e∈m.es,0≤e.2.2∧e.2.2≤100)(h0:0≤t0)(h1:t0≤1099511627776):ao Tryz.prog 89 [.ptr 0 0,.u32 k,.i64 now] [some ⟨false,[.i64 t0,.map 1],none⟩,some ⟨false,[],some m⟩] (.i64 (fb t0 now k m).1) [some ⟨false,[.i64 (fb t0 now k m).2.1,.map 1],none⟩,some ⟨false,[],some (fb t0 now k m).2.2⟩]:=by
 by_cases he1:now<t0
 ·have e:fb t0 now k m=(1,t0,m):=by unfold fb;rw[if_pos (.inl he1)]
  rw[e]
  refine aR (by kernel_rfl) (fn:=Tryz.f89) Tryz.func89 rfl (by show 3≤90;decide) (ag ?_)
  simp only[go_sem,seval,Tryz.ntmps89,Tryz.results89,he1]
  exact Fin.ren [0,1] (by simp) (by simp) (by rfl) (by decide) (by simp) (by simp)
 by_cases he2:1099511627776<now
 ·have e:fb t0 now k m=(1,t0,m):=by unfold fb;rw[if_pos (.inr he2)]
  rw[e]
  refine aR (by kernel_rfl) (fn:=Tryz.f89) Tryz.func89 rfl (by show 3≤90;decide) (ag ?_)
  simp only[go_sem,seval,Tryz.ntmps89,Tryz.results89,he1,he2]
  exact Fin.ren [0,1] (by simp) (by simp) (by rfl) (by decide) (by simp) (by simp)
 generalize hd:min (now-t0) 5=d
 have hd0:0≤d∧d≤5:=by omega
 have hdm:(if(5:Int)<now-t0 then 5 else now-t0)=d:=by
  rw[←hd];split <;>omega
 have hw:ai (now-t0)=now-t0:=al (by omega) (by omega)
 refine n7 (fn:=Tryz.f89) Tryz.func89 rfl (by show 3≤90;decide) ?_
 refine iY (K:=fun st=>Weak 2 90 st ⟨[(0,.ptr 0 0),(1,.u32 k),(2,.i64 now)],[some ⟨false,[.i64 t0,.map 1],none⟩,some ⟨false,[],some m⟩]⟩) (iS (by kernel_rfl) (ag ?_)) (fun st hst=>lh ?_ hst)
 ·simp only[go_sem,seval]
  refine Weak.drop ?_ rfl (fun _ _ h=>h)
  simp[St.get,ae]
 refine iY (K:=fun st=>Weak 2 90 st ⟨[(0,.ptr 0 0),(1,.u32 k),(2,.i64 now)],[some ⟨false,[.i64 t0,.map 1],none⟩,some ⟨false,[],some m⟩]⟩) (iS (by kernel_rfl) (ag ?_)) (fun st hst=>lh ?_ hst)
 ·simp only[go_sem,seval,he1,he2]
  refine Weak.drop ?_ rfl (fun _ _ h=>h)
  simp[St.get,ae]
 refine iY (K:=fun st=>Weak 2 90 st ⟨[(0,.ptr 0 0),(1,.u32 k),(2,.i64 now),(7,.i64 d)],[some ⟨false,[.i64 t0,.map 1],none⟩,some ⟨false,[],some m⟩]⟩) (iS (by kernel_rfl) (ag ?_)) (fun st hst=>lh ?_ hst)
 ·simp only[go_sem,seval,hw,hdm]
  refine Weak.drop ?_ rfl (fun _ _ h=>h)
  simp[St.get,ae]
 refine iY (K:=fun st=>Weak 2 90 st ⟨[(0,.ptr 0 0),(1,.u32 k),(7,.i64 d)],[some ⟨false,[.i64 now,.map 1],none⟩,some ⟨false,[],some m⟩]⟩) (iS (by kernel_rfl) (ag ?_)) (fun st hst=>lh ?_ hst)
 ·simp only[go_sem,seval]
  refine Weak.drop ?_ rfl (fun _ _ h=>h)
  simp[St.get,ae]
 let M:List Nat→MapC:=fun seen=>⟨dA d m.es seen,m.clock⟩
 let J:List Nat→St:=fun seen=>⟨[(0,.ptr 0 0),(1,.u32 k),(7,.i64 d),(36,.ptr 2 0)],[some ⟨false,[.i64 now,.map 1],none⟩,some ⟨false,[],some (M seen)⟩,none]⟩
 have hM0:M []=m:=by show(⟨dA d m.es [],m.clock⟩:MapC)=m;rw[B9]
 have hMd:∀ seen,((M seen).es.map (·.1))=m.es.map (·.1):=fun seen=>AC d m.es seen
 refine iY (K:=fun st=>Weak 2 90 st ⟨[(0,.ptr 0 0),(1,.u32 k)],[some ⟨false,[.i64 now,.map 1],none⟩,some ⟨false,[],some (m.more d)⟩,none]⟩) (vm (by kernel_rfl) (S1:=⟨[(35,.map 1),(34,.ptr 0 1),(33,.ptr 0 0),(32,.ptr 0 0),(0,.ptr 0 0),(1,.u32 k),(7,.i64 d)],[some ⟨false,[.i64 now,.map 1],none⟩,some ⟨false,[],some m⟩]⟩) (pre:=[_,_,_,_]) (bm:=1) (fun _=>True) J M (ic m.es) rfl (by simp) (iX ?_) rfl (by rw[hM0];rfl) rfl rfl rfl (by decide) Tryz.underlying131 rfl rfl rfl (by decide) rfl rfl rfl rfl (by decide) trivial (fun seen _=>⟨fun e he=>?_,?_,Nat.le_refl _⟩) (fun seen _=>rfl) ?_ (fun seen=>rfl) (fun seen _ hall=>iX ?_) (fun seen e _ he hs=>⟨trivial,?_,iX ?_⟩)) (fun st hst=>lh ?_ hst)
 ·simp only[go_sem,seval]
 ·have :e.1∈(M seen).es.map (·.1):=List.mem_map.2 ⟨e,he,rfl⟩
  rw[hMd] at this
  obtain⟨x,hx,hxe⟩:=List.mem_map.1 this
  rw[←hxe];exact hm.below x hx
 ·rw[hMd];exact hm.stamps
 ·refine Weak.drop ?_ rfl (fun b B h=>?_)
  ·simp[J,St.get,ae,cz]
  ·simpa [J,hM0] using h
 ·have h2:M seen=m.more d:=by
   show(⟨dA d m.es seen,m.clock⟩:MapC)=⟨(m.more d).es,m.clock⟩
   rw[Ca hall]
  simp only[go_sem,seval,J,h2]
  refine Weak.drop ?_ rfl (fun _ _ h=>h)
  simp[St.get,ae]
 ·exact wS (uX he hs) hs
 ·have he0:e∈m.es:=uX he hs
  have hvb:=hv e he0
  obtain⟨st,k',v⟩:=e
  have hat:cP k' (M seen).es=some v:=rB (by show((dA d m.es seen).map (·.2.1)).Nodup;rw[uH];exact hm.keys) he
  have hM1:M (seen++[st])=(M seen).set k' (v+d):=by
   unfold MapC.set
   rw[hat]
   show(⟨dA d m.es (seen++[st]),m.clock⟩:MapC)=⟨gF k' (v+d) (dA d m.es seen),m.clock⟩
   rw[Bo hm he0 hs]
  simp only at hs hvb
  have hw2:ai (v+d)=v+d:=al (by omega) (by omega)
  simp only[go_sem,seval,J]
  refine iX ?_
  simp only[go_sem,seval]
  refine ag ?_
  simp only[go_sem,seval,hat,Option.getD_some,hw2,hM1]
  refine⟨rfl,Weak.drop ?_ rfl (fun _ _ h=>h)⟩
  simp[St.get,ae]
 refine iS (by kernel_rfl) (ag ?_)
 simp only[go_sem,seval]
 refine aA [1] (Da (m.more d) (MapC.more_ok hm d)) (by kernel_rfl) (by simp) rfl (by simp) (by first|decide|simp) (by simp) (by simp) (by simp) (by simp) (by simp) ?_
 simp only[go_sem,seval]
 generalize hm2:(m.more d).drop=m2
 have ht:fb t0 now k m=match cP k m2.es with
   |some n=>if n=0 then(15,now,m2) else(0,now,m2.set k (n-1))
   |none=>if(m2.es.length:Int)=16 then(9,now,m2) else(0,now,m2.set k 4):=by
  unfold fb
  rw[if_neg (by omega)]
  simp only[hd,hm2]
 rw[ht]
 cases hat:cP k m2.es with
 |some n=>
  have hnb:-100≤n∧n≤200:=by
   obtain⟨b,hb⟩:=oG hat
   have hmem:=List.mem_of_getElem? hb
   rw[←hm2] at hmem
   have h3:(b,k,n)∈(m.more d).es:=(List.mem_filter.1 hmem).1
   unfold MapC.more at h3
   obtain⟨x,hx,hxe⟩:=List.mem_map.1 h3
   have :=hv x hx
   have h4:x.2.2+d=n:=congrArg (·.2.2) hxe
   omega
  by_cases hn:n=0
  ·subst hn
   simp only[go_sem,seval,Option.getD_some]
   exact Fin.ren [0,1] (by simp) (by simp) (by rfl) (by decide) (by simp) (by simp)
  ·have hw3:ai (n-1)=n-1:=al (by omega) (by omega)
   simp only[go_sem,seval,Option.getD_some,hn,hw3]
   exact Fin.ren [0,1] (by simp) (by simp) (by rfl) (by decide) (by simp) (by simp)
 |none=>
  by_cases hl:(m2.es.length:Int)=16
  ·simp only[go_sem,seval,hl]
   exact Fin.ren [0,1] (by simp) (by simp) (by rfl) (by decide) (by simp) (by simp)
  ·have hw3:ai (5-1)=4:=by rfl
   simp only[go_sem,seval,hl]
   exact Fin.ren [0,1] (by simp) (by simp) (by rfl) (by decide) (by simp) (by simp)
section
variable {G:Gh}{K:Nat→Option Kd}{H:List (Option Blk)}{b p d m n:Nat}
theorem Px {m:MapC}(hm:m.ok)(k:BitVec 32)(n:Int):(m.set k n).ok:=by
 cases h:cP k m.es with
 |some v=>
  have e:m.set k n=⟨m.es.map fun e=>if e.2.1=k then(e.1,k,n) else e,m.clock⟩:=by
   unfold MapC.set
   rw[if_pos (by rw[h];rfl),qP _ _ _ hm.keys]
  rw[e]
  refine⟨?_,fun x hx=>?_,?_⟩
  ·have :(m.es.map fun e=>if e.2.1=k then(e.1,k,n) else e).map (·.1)=m.es.map (·.1):=by
    rw[List.map_map]
    refine List.map_congr_left fun x _=>?_
    simp only[Function.comp]
    split <;>rfl
   show((m.es.map fun e=>if e.2.1=k then(e.1,k,n) else e).map (·.1)).Nodup
   rw[this];exact hm.stamps
  ·obtain⟨y,hy,rfl⟩:=List.mem_map.1 hx
   have :=hm.below y hy
   show(if y.2.1=k then(y.1,k,n) else y).1<m.clock
   split <;>exact this
  ·have :(m.es.map fun e=>if e.2.1=k then(e.1,k,n) else e).map (·.2.1)=m.es.map (·.2.1):=by
    rw[List.map_map]
    refine List.map_congr_left fun x _=>?_
    simp only[Function.comp]
    split
    ·rename_i h;exact h.symm
    ·rfl
   show((m.es.map fun e=>if e.2.1=k then(e.1,k,n) else e).map (·.2.1)).Nodup
   rw[this];exact hm.keys
 |none=>
  have e:m.set k n=⟨m.es++[(m.clock,k,n)],m.clock+1⟩:=by
   unfold MapC.set
   rw[h];rfl
  have hno:k∉m.es.map (·.2.1):=fun hk=>by
   obtain⟨x,hx,hxk⟩:=List.mem_map.1 hk
   have hx':(x.1,k,x.2.2)∈m.es:=by rw[←hxk];exact hx
   rw[rB hm.keys hx'] at h
   cases h
  rw[e]
  refine⟨?_,fun x hx=>?_,?_⟩
  ·show((m.es++[(m.clock,k,n)]).map (·.1)).Nodup
   rw[List.map_append]
   refine List.nodup_append.2 ⟨hm.stamps,by simp,fun a ha b hb=>?_⟩
   obtain⟨y,hy,rfl⟩:=List.mem_map.1 ha
   have :=hm.below y hy
   simp at hb
   omega
  ·show x.1<m.clock+1
   rcases List.mem_append.1 hx with h1|h1
   ·have :=hm.below x h1;omega
   ·simp at h1;subst h1;simp
  ·show((m.es++[(m.clock,k,n)]).map (·.2.1)).Nodup
   rw[List.map_append]
   refine List.nodup_append.2 ⟨hm.keys,by simp,fun a ha b hb=>?_⟩
   simp at hb
   subst hb
   exact fun e=>hno (e▸ha)
theorem wx {k:BitVec 32}{n:Int}:∀ {l:List (Nat×BitVec 32×Int)} {x:Nat×BitVec 32×Int},x∈gF k n l→x.2.2=n∨x∈l
 |[],_,h=>by cases h
 |e::l,x,h=>by
  unfold gF at h
  split at h
  ·rcases List.mem_cons.1 h with h|h
   ·exact .inl (by rw[h])
   ·exact .inr (by simp[h])
  ·rcases List.mem_cons.1 h with h|h
   ·exact .inr (by simp[h])
   ·rcases wx h with h|h
    ·exact .inl h
    ·exact .inr (by simp[h])
theorem MS {m:MapC}{k:BitVec 32}{n:Int}{x:Nat×BitVec 32×Int}(h:x∈(m.set k n).es):x.2.2=n∨x∈m.es:=by
 unfold MapC.set at h
 split at h
 ·exact wx h
 ·rcases List.mem_append.1 h with h|h
  ·exact .inr h
  ·simp at h;exact .inl (by rw[h])
theorem yp {k:BitVec 32}{n:Int}:∀ {l:List (Nat×BitVec 32×Int)},cP k l=some n→∃ e∈l,e.2.2=n
 |[],h=>by cases h
 |e::l,h=>by
  unfold cP at h
  split at h
  ·cases h;exact⟨e,by simp,rfl⟩
  ·obtain⟨x,hx,h2⟩:=yp h
   exact⟨x,by simp[hx],h2⟩
theorem JE {t0 now:Int}{k:BitVec 32}{m:MapC}(hm:jY m)(h0:0≤t0)(h1:t0≤1099511627776):jY (fb t0 now k m).2.2∧0≤(fb t0 now k m).2.1∧(fb t0 now k m).2.1≤1099511627776:=by
 unfold fb
 by_cases hb:now<t0∨1099511627776<now
 ·rw[if_pos hb];exact⟨hm,h0,h1⟩
 rw[if_neg hb]
 have hok:((m.more (min (now-t0) 5)).drop).ok:=MapC.drop_ok (MapC.more_ok hm.1 _)
 have hval:∀ e∈((m.more (min (now-t0) 5)).drop).es,0≤e.2.2∧e.2.2≤100:=fun e he=>by
  have he':e∈(m.more (min (now-t0) 5)).es.filter fun e=>!full e.2.2:=he
  obtain⟨h2,h3⟩:=List.mem_filter.1 he'
  obtain⟨y,hy,rfl⟩:=List.mem_map.1 h2
  have :=hm.2 y hy
  simp[full] at h3
  show 0≤y.2.2+min (now-t0) 5∧y.2.2+min (now-t0) 5≤100
  omega
 generalize (m.more (min (now-t0) 5)).drop=m2 at*
 have fin:∀ n:Int,0≤n→n≤100→jY (m2.set k n):=fun n g1 g2=>⟨Px hok k n,fun e he=>by
  rcases MS he with h|h
  ·omega
  ·exact hval e h⟩
 simp only
 split
 ·rename_i n hn
  obtain⟨e,he,rfl⟩:=yp hn
  have :=hval e he
  split
  ·exact⟨⟨hok,hval⟩,by show 0≤now;omega,by show now≤_;omega⟩
  ·exact⟨fin _ (by omega) (by omega),by show 0≤now;omega,by show now≤_;omega⟩
 ·split
  ·exact⟨⟨hok,hval⟩,by show 0≤now;omega,by show now≤_;omega⟩
  ·exact⟨fin _ (by omega) (by omega),by show 0≤now;omega,by show now≤_;omega⟩
theorem MT (h:WT G K H)(hb:K b=some .bucket)(x:BitVec 32)(now:Int):∃ v G' K' H',Done Tryz.prog 89 [.ptr b 0,.u32 x,.i64 now] K H (Wk qA K) v G' K' H'∧br bK G K v G' K':=by
 obtain⟨t0,c,hg,hF⟩:=h.bucket hb
 have hc:=hF.fleft
 obtain⟨B,hgc,mm,rfl,hmm⟩:=h.all c _ hc
 have hne:b≠c:=fun e=>by subst e;rw[hb] at hc;cases hc
 have hlb:=h.lt hb
 have hlc:=h.lt hc
 obtain⟨hok2,hn1,hn2⟩:=JE (now:=now) (k:=x) hmm hF.fnow.1 hF.fnow.2
 have hs:=kP (H:=H) (Gd t0 now x mm hmm.1 hmm.2 hF.fnow.1 hF.fnow.2) [b,c] rfl (by simp[ac,V.low]) (by simp[hne]) (fun y hy=>by simp at hy;rcases hy with rfl|rfl<;>assumption) (fun i B e=>by
  match i with
  |0=>have e':some (⟨false,[.i64 t0,.map 1],none⟩:Blk)=some B:=e;cases e';exact⟨hg,by simp[ac,V.low]⟩
  |1=>have e':some (⟨false,[],some mm⟩:Blk)=some B:=e;cases e';exact⟨hgc,trivial⟩
  |i+2=>simp[aa] at e) (fun i B e hi=>by
  match i with
  |0=>rcases hi with hi|hi<;>simp[aa] at hi
  |1=>rcases hi with hi|hi<;>simp[aa] at hi
  |i+2=>simp[aa] at e) (Nat.le_refl _)
 generalize fb t0 now x mm=E at*
 have e1:az [b,c] H [some (⟨false,[.i64 E.2.1,.map 1],none⟩:Blk),some ⟨false,[],some E.2.2⟩]=(H.set c (some ⟨false,[],some E.2.2⟩)).set b (some ⟨false,[.i64 E.2.1,.map c],none⟩):=by
  simp[az,bR,cK,bU,cY,Blk.ren,rens,V.ren,ah,au]
 rw[e1] at hs
 have hC1:Cur K H (Wk qA K) G K (H.set c (some ⟨false,[],some E.2.2⟩)):=⟨h.putMap hc hok2,by rw[List.length_set];exact Nat.le_refl _,fun y hy hn=>by rw[aP (fun e=>by subst e;exact hn ⟨_,hc,trivial⟩)],fun _ _ _ e=>e,fun _ _ _ e=>e,(RoK.refl H).put⟩
 have hC2:=hC1.putK hb rfl trivial (vs:=[.i64 E.2.1,.map c]) (BucketF.row (G:=G) ⟨⟨hn1,hn2⟩,hc⟩)
 exact⟨.i64 E.1,G,K,_,⟨hs,hC2,trivial⟩,rfl,rfl,_,rfl⟩
end
section
variable {G:Gh}{K:Nat→Option Kd}{H:List (Option Blk)}{b p d m n c:Nat}
def Rx (K':Nat→Option Kd)(v:V):Prop:=(∃ e:Int,e≠0∧v= .tup [.agg j5,.nilPtr,.i64 e])∨
 ∃ (su:Int) (ix:BitVec 32) (st:List af) (sec nano best:Int) (c:Nat),(su=1∨su=2)∧(best=1∨best=2)∧st.length≤1000∧v= .tup [.agg [.i64 su,.u32 ix,.str st,.i64 sec,.i64 nano,.i64 best],.ptr c 0,.i64 0]∧K' c=some .heard
theorem MU (h:WT G K H)(own x:List af)(h1:own.length≤1048576)(h2:x.length≤1048576):∃ v G' K' H',Done Tryz.prog 90 [.str own,.str x] K H (fun _=>False) v G' K' H'∧Ac Rx G K v G' K':=by
 obtain⟨v,h',hs,hP⟩:=Jq own x h1 h2
 rcases hP with⟨⟨e,he,rfl⟩,rfl⟩|⟨su,ix,st,sec,nano,best,once,cs,hsu,hbest,hst,honce,⟨s6,h6,ch6,k6,n6,⟨hsu6,q1,q2,q3⟩,rfl⟩,rfl,rfl⟩
 ·exact⟨_,G,K,H,⟨wr hs (fun _=>rfl) (by simp[ac,V.low]) (fun _=>rfl),Cur.refl h _,by simp[ac,V.low,j5]⟩,rfl,fun _ _ e=>e,.inl ⟨e,he,rfl⟩⟩
 ·have hsr:=fun σ=>d8 hsu6 σ
  have hC:=(Cur.refl h (fun _=>False)).new .heard rfl (HeardF.row (G:=G) (b:=H.length) (n:=n6) (csu:=su) (ix:=ix) (once:=once) (static_:=st) ⟨hsu6,q1,q2,q3,by omega,by unfold bn;omega,by unfold bn;omega⟩)
  refine⟨.tup [.agg [.i64 su,.u32 ix,.str st,.i64 sec,.i64 nano,.i64 best],.ptr H.length 0,.i64 0],G,_,_,⟨oD hs (fun _=>rfl) (by simp[ac,V.low]) (fun σ=>by simp[bD,rens,V.ren,hsr]) (fun σ e=>by simp[V.ren,rens,e]),hC,by simp[ac,V.low]⟩,rfl,fun c k hc=>h.old hc,.inr ⟨su,ix,st,sec,nano,best,H.length,hsu,hbest,hst,rfl,bM⟩⟩
theorem AnsP.ren {v:V}(h:AnsP v)(σ:Nat→Nat):v.ren σ=v:=by obtain⟨s,a,b,e,rfl,-⟩:=h;rfl
theorem AnsP.low {v:V}(h:AnsP v)(n:Nat):v.low n:=by obtain⟨s,a,b,e,rfl,-⟩:=h;simp[V.low,ac]
theorem Ge (h:WT G K H)(hc:K c=some .heard)(psk once:List af)(best:Int)(id:BitVec 32)(h3:psk.length≤1048576)(h4:once.length≤1048576):∃ v G' K' H',Done Tryz.prog 92 [.ptr c 0,.str psk,.str once,.i64 best,.u32 id] K H (fun x=>x=c) v G' K' H'∧br AnsP G K v G' K':=by
 obtain⟨su,hs,ch,ky,n,csu,ix,on,st,hg,hF⟩:=h.heard hc
 obtain⟨v,h',hS,hA,rfl⟩:=Eu su hs ch ky n ⟨hF.fsu,hF.fhs,hF.fch,hF.fky⟩ csu ix on st psk once best id h3 h4
 have hsr:=fun σ=>d8 hF.fsu σ
 have hsl:=fun n=>eR hF.fsu n
 unfold px at hS
 exact jZ h hc rfl hg hS (fun _=>rfl) (fun _=>by simp[ac,V.low]) (fun σ=>by simp[rens,V.ren,hsr]) (fun n=>by simp[ac,V.low,hsl]) (fun σ=>by simp[rens,V.ren,hsr]) hA.ren hA.low hF.row hA
theorem FinP.ren {x:List af}{v:V}(h:FinP x v)(σ:Nat→Nat):v.ren σ=v:=by obtain⟨a,b,best,ix,e,rfl,-⟩:=h;rfl
theorem FinP.low {x:List af}{v:V}(h:FinP x v)(n:Nat):v.low n:=by obtain⟨a,b,best,ix,e,rfl,-⟩:=h;simp[V.low,ac]
theorem Gf (h:WT G K H)(hc:K c=some .begun)(x:List af)(hx:x.length≤1048576):∃ v G' K' H',Done Tryz.prog 96 [.ptr c 0,.str x] K H (fun y=>y=c) v G' K' H'∧br (FinP x) G K v G' K':=by
 obtain⟨su,hs,ch,ky,n,csu,own,peer,psk,once,id,hg,hF⟩:=h.begun hc
 have h3:=hF.fpsk
 unfold bn at h3
 obtain⟨v,h',hS,hA,rfl⟩:=Ev su hs ch ky n ⟨hF.fsu,hF.fhs,hF.fch,hF.fky⟩ csu own peer psk once id x h3 hx
 have hsr:=fun σ=>d8 hF.fsu σ
 have hsl:=fun n=>eR hF.fsu n
 unfold pz at hS
 exact jZ h hc rfl hg hS (fun _=>rfl) (fun _=>by simp[ac,V.low]) (fun σ=>by simp[rens,V.ren,hsr]) (fun n=>by simp[ac,V.low,hsl]) (fun σ=>by simp[rens,V.ren,hsr]) hA.ren hA.low hF.row hA
end
section
variable {G:Gh}{K:Nat→Option Kd}{H:List (Option Blk)}{b p d m n:Nat}
def qI (k:Kd):Prop:=k= .begun∨qA k
theorem Gg (h:WT G K H)(hd:K d=some (.dev m n))(hn:n≤8)(fr:BitVec 32)(x:List af)(hx:x.length≤1048576)(ho:G.o d≤999900):∃ v G' K' H',Done Tryz.prog 63 [.ptr d 0,.u32 fr,.str x] K H (Wk qI K) v G' K' H'∧bC 5 0 bK G v G' K':=by
 obtain⟨here,own,pub,seed,best,fresh,secret,index,firsts,now,busy,peers,paths,bucket,out,got,hg,hF⟩:=h.dev hd
 have hld:=h.lt hd
 have hC0:=Cur.start (Q:=qI) h
 have q1:=hF.fpub
 unfold bn at q1
 refine bE (W:=Wk qI K) (Post:=bC 5 0 bK G) (by kernel_rfl) (fn:=Tryz.f63) Tryz.func63 rfl (by show 3≤131;decide) (ag ?_)
 simp only[go_sem,seval,hg]
 repeat refine aI ?_
 refine bN (uW h hd fr) (by kernel_rfl) rfl (by simp[ac,V.low,hld]) h.sane ?_
 rintro _ G1 K1 H1 hC1 hl1 ⟨rfl,rfl,ck,rfl,hck⟩
 have hD1:=hC0.callP (W2:=fun _=>False) hC1 fun _ h=>h.elim
 have k1:∀ c,c<H.length→aa H1 c=aa H c:=fun c hc=>hC1.keep c hc fun h=>h
 simp only[go_sem,seval]
 repeat refine aI ?_
 refine dN (xq pub ck x q1 (by omega) (by omega)) ?_
 rintro _ ⟨o,pr,e,rfl,ho2⟩
 simp only[go_sem,seval]
 repeat refine aI ?_
 refine And.intro ?_ ?_
 ·refine co (cM H.length) [([],[]),([],[]),([],[]),([0],[]),([],[]),([],[]),([0,1],[1]),([],[]),([],[]),([],[]),([],[]),([],[]),([],[]),([],[]),([],[]),([],[])] (by kernel_rfl) (by simp only[cC,cD,cE,eH,all_cons,ia,List.nil_append,jN,ce hld,cT,and_true])
 by_cases h0:e=0
 rotate_left
 ·simp only[go_sem,seval,h0,not_false_eq_true,decide_true]
  exact EndW.of (hD1.up (G':=G1) (Nat.zero_le 5) (Nat.le_refl 0) rfl) trivial ⟨rfl,_,rfl⟩
 subst h0
 simp only[go_sem,seval,not_true,decide_false]
 by_cases h10:(o.length:Int)<10
 ·simp only[go_sem,seval,h10,decide_true]
  exact EndW.of (hD1.up (G':=G1) (Nat.zero_le 5) (Nat.le_refl 0) rfl) trivial ⟨rfl,_,rfl⟩
 simp only[go_sem,seval,h10,decide_false]
 repeat refine aI ?_
 refine aT (ww hC1.wt hd (by omega) ((o.take 10).drop 6) (by simp;omega) (by simp;omega)) (by kernel_rfl) rfl (by simp[ac,V.low,hC1.wt.lt hd]) hC1.wt.sane ?_
 rintro _ G2 K2 H2 hC2 hl2 ⟨rfl,rfl,hv⟩
 have hD2:=hD1.callP (W2:=fun _=>False) hC2 fun _ h=>h.elim
 have k2:∀ c,c<H1.length→aa H2 c=aa H1 c:=fun c hc=>hC2.keep c hc fun h=>h
 rcases hv with rfl|⟨p,rfl,hp,B,bc,hB,hB2⟩
 ·simp only[go_sem,seval]
  exact EndW.of (hD2.up (Nat.zero_le 5) (Nat.le_refl 0) rfl) trivial ⟨rfl,_,rfl⟩
 obtain⟨tm,num,qub,psk,at_,kn,pin,stp,sec,nano,ck2,un,wv,bg,bi,bt,ol,se,ne,hgq,hQ⟩:=hC2.wt.peer hp
 have hB3:=(k2 p (hC1.wt.lt hp)).trans hB
 rw[hgq] at hB3
 cases hB3
 obtain rfl:bg= .ptr bc 0:=hB2
 have hbc:K2 bc=some .begun:=by
  rcases hQ.fbegun with e|⟨c,e,hc⟩
  ·cases e
  ·cases e;exact hc
 simp only[go_sem,seval,hgq]
 repeat refine aI ?_
 refine aT (Gf hC2.wt hbc o (by omega)) (by kernel_rfl) rfl (by simp[ac,V.low,hC2.wt.lt hbc]) hC2.wt.sane ?_
 rintro _ G3 K3 H3 hC3 hl3 ⟨rfl,rfl,ka,kb,best3,th,e3,rfl,hka,hkb,hok⟩
 simp only[go_sem,seval]
 repeat refine aI ?_
 have hpc:p≠bc:=fun e=>by subst e;rw[hp] at hbc;cases hbc
 have hdc:d≠bc:=fun e=>by subst e;rw[hd] at hbc;cases hbc
 have hpd:p≠d:=fun e=>by subst e;rw[hp] at hd;cases hd
 have hD3:=hD2.callP (W2:=fun c=>c=bc) hC3 fun c e=>by subst e;exact⟨_,hbc,.inl rfl⟩
 have hg3:=(hC3.keep d (hC2.wt.lt hd) hdc).trans ((k2 d (hC1.wt.lt hd)).trans ((k1 d hld).trans hg))
 have hgq3:=(hC3.keep p (hC2.wt.lt hp) hpc).trans hgq
 have hlp3:=hC3.wt.lt hp
 have hld3:=hC3.wt.lt hd
 have hD4:=hD3.boxed (zs:=[.str [],.str []]) (ys:=[.str ka,.str kb]) (by simp[ac,V.low]) (by simp[ac,V.low])
 have hg4:=(dt (x:=some (⟨false,[.str [],.str []],none⟩:Blk)) (y:=some ⟨false,[.str ka,.str kb],none⟩) hlp3).trans hgq3
 have hd4:=(dt (x:=some (⟨false,[.str [],.str []],none⟩:Blk)) (y:=some ⟨false,[.str ka,.str kb],none⟩) hld3).trans hg3
 have hm4:=d7 (H:=H3) (x:=some (⟨false,[.str [],.str []],none⟩:Blk)) (y:=some ⟨false,[.str ka,.str kb],none⟩)
 have hlM:((H3++[some (⟨false,[.str [],.str []],none⟩:Blk)]).set H3.length (some ⟨false,[.str ka,.str kb],none⟩)).length=H3.length+1:=by simp
 generalize ((H3++[some (⟨false,[.str [],.str []],none⟩:Blk)]).set H3.length (some ⟨false,[.str ka,.str kb],none⟩))=M at*
 have hlm:=aj hm4
 by_cases h3:e3=0
 rotate_left
 ·simp only[go_sem,seval,h3,not_false_eq_true]
  exact EndW.of (hD4.up (Nat.zero_le 5) (Nat.le_refl 0) rfl) trivial ⟨rfl,_,rfl⟩
 subst h3
 obtain⟨hbest,h59,hsu,hla,hlb⟩:=hok rfl
 generalize ((o.getD 1 0).toNat:Int)=su at*
 by_cases hpin:su<pin
 ·simp only[go_sem,seval,not_true,hg4,hpin,decide_true]
  repeat refine aI ?_
  exact EndW.of (hD4.up (Nat.zero_le 5) (Nat.le_refl 0) rfl) trivial ⟨rfl,_,rfl⟩
 have hlp4:=hD4.wt.lt hp
 have hmax:1≤(if pin<su then su else pin)∧(if pin<su then su else pin)≤2:=by
  have :=hQ.fpin
  split <;>omega
 have hpm:p≠H3.length:=by omega
 simp only[go_sem,seval,not_true,hg4,hpin,decide_false,aW hlp4,List.set_set,List.length_set,aP hpm,hm4,aP hpd,hd4]
 generalize (if pin<su then su else pin)=pin5 at*
 repeat refine aI ?_
 have hD5:=hD4.putK hp rfl (.inr trivial) (PeerF.row (num:=num) (at_:=fr) (stamped:=stp) (sec:=sec) (nano:=nano) (until_:=un) (bindex:=bi) (knows:=best3) (pin:=pin5) {hQ with fknows:=by omega,fpin:=hmax})
 have hg5:=aW hlp4 (some (⟨false,[.ptr d 0,.ptr tm 0,.i64 num,.str qub,.str psk,.u32 fr,.i64 best3,.i64 pin5,.bool stp,.i64 sec,.i64 nano,.str ck2,.i64 un,wv,.ptr bc 0,.u32 bi,.str bt,ol,se,ne],none⟩:Blk))
 have hd5:=(aP (H:=M) hpd (some (⟨false,[.ptr d 0,.ptr tm 0,.i64 num,.str qub,.str psk,.u32 fr,.i64 best3,.i64 pin5,.bool stp,.i64 sec,.i64 nano,.str ck2,.i64 un,wv,.ptr bc 0,.u32 bi,.str bt,ol,se,ne],none⟩:Blk))).trans hd4
 have hl5:(M.set p (some (⟨false,[.ptr d 0,.ptr tm 0,.i64 num,.str qub,.str psk,.u32 fr,.i64 best3,.i64 pin5,.bool stp,.i64 sec,.i64 nano,.str ck2,.i64 un,wv,.ptr bc 0,.u32 bi,.str bt,ol,se,ne],none⟩:Blk))).length=M.length:=List.length_set
 generalize M.set p (some (⟨false,[.ptr d 0,.ptr tm 0,.i64 num,.str qub,.str psk,.u32 fr,.i64 best3,.i64 pin5,.bool stp,.i64 sec,.i64 nano,.str ck2,.i64 un,wv,.ptr bc 0,.u32 bi,.str bt,ol,se,ne],none⟩:Blk))=M5 at*
 refine bN (yP hD5.wt su hsu ka kb hla hlb now hF.fnow.1 hF.fnow.2 true bi th) (by kernel_rfl) rfl (by simp[ac,V.low]) hD5.wt.sane ?_
 rintro _ G6 K6 H6 hC6 hl6 ⟨rfl,hx6,c6,rfl,hc6⟩
 have hD6:=hD5.callP (W2:=fun _=>False) hC6 fun _ h=>h.elim
 have k6:∀ c,c<M5.length→aa H6 c=aa M5 c:=fun c hc=>hC6.keep c hc fun h=>h
 have hg6:=(k6 p (hD5.wt.lt hp)).trans hg5
 have hd6:=(k6 d (hD5.wt.lt hd)).trans hd5
 have hp6:=hx6 p _ hp
 have hQ6:=hC6.wt.peerF hp6 hg6
 clear hQ
 have hQ:=hQ6
 have hlp6:=hC6.wt.lt hp6
 have hlm5:M5.length≤H6.length:=hC6.len
 have hlp5:=hD5.wt.lt hp
 have hld5:=hD5.wt.lt hd
 have hlm6:H3.length<M5.length:=by omega
 rcases hQ.fsession with rfl|⟨c2,rfl,hc2⟩
 ·simp only[go_sem,seval,hg6,aW hlp6,List.set_set,List.length_set,hlp6]
  repeat refine aI ?_
  refine And.intro ?_ ?_
  ·refine co (cM M5.length) [([],[]),([],[]),([],[]),([],[]),([],[]),([],[]),([0],[]),([],[]),([0],[]),([],[]),([],[]),([],[]),([0],[]),([],[]),([],[]),([],[]),([0],[]),([],[]),([0,1],[1]),([],[]),([],[]),([0],[0]),([],[]),([],[]),([0],[0]),([],[]),([],[]),([0],[0])] (by kernel_rfl) (by simp only[cC,cD,cE,eH,all_cons,ia,List.nil_append,jN,ce hlp5,ce hld5,ce hlm6,cT,and_true])
  have hD7:=hD6.putK hp6 rfl (.inr trivial) (PeerF.row (num:=num) (at_:=fr) (stamped:=stp) (sec:=sec) (nano:=nano) (until_:=un) (bindex:=bi) (knows:=best3) (pin:=pin5) (old:= .nilPtr) (session:= .ptr c6 0) (next:= .nilPtr) (begun:= .nilPtr) {hQ with fold:=hQ.fsession,fsession:= .inr ⟨c6,rfl,hc6⟩,fnext:= .inl rfl,fbegun:= .inl rfl})
  have hg7:=aW hlp6 (some (⟨false,[.ptr d 0,.ptr tm 0,.i64 num,.str qub,.str psk,.u32 fr,.i64 best3,.i64 pin5,.bool stp,.i64 sec,.i64 nano,.str ck2,.i64 un,wv,.nilPtr,.u32 bi,.str bt,.nilPtr,.ptr c6 0,.nilPtr],none⟩:Blk))
  have hd7:=(aP (H:=H6) hpd (some (⟨false,[.ptr d 0,.ptr tm 0,.i64 num,.str qub,.str psk,.u32 fr,.i64 best3,.i64 pin5,.bool stp,.i64 sec,.i64 nano,.str ck2,.i64 un,wv,.nilPtr,.u32 bi,.str bt,.nilPtr,.ptr c6 0,.nilPtr],none⟩:Blk))).trans hd6
  generalize H6.set p (some (⟨false,[.ptr d 0,.ptr tm 0,.i64 num,.str qub,.str psk,.u32 fr,.i64 best3,.i64 pin5,.bool stp,.i64 sec,.i64 nano,.str ck2,.i64 un,wv,.nilPtr,.u32 bi,.str bt,.nilPtr,.ptr c6 0,.nilPtr],none⟩:Blk))=M7 at*
  simp only[go_sem,seval,hd7]
  repeat refine aI ?_
  refine bN (fh hD7.wt hQ.ftm 5 now) (by kernel_rfl) rfl (by simp[ac,V.low,hD7.wt.lt hQ.ftm]) hD7.wt.sane ?_
  rintro _ G8 K8 H8 hC8 hl8 ⟨rfl,rfl,e8,rfl⟩
  have hD8:=hD7.callP (W2:=fun c=>c=tm) hC8 fun c e=>by subst e;exact⟨_,hQ.ftm,.inr trivial⟩
  have htp:p≠tm:=fun e=>by subst e;have :=hQ.ftm;rw[hp6] at this;cases this
  have hg8:=(hC8.keep p (hD7.wt.lt hp6) htp).trans hg7
  have hs8:HasP H8 p 18:=⟨_,c6,hg8,rfl⟩
  rcases hQ.fwaits with rfl|⟨wa,wk,rfl,hwk0,hwk,hwa⟩
  ·simp only[go_sem,seval,hg8]
   repeat refine aI ?_
   refine aT (nc hC8.wt hp6 hs8 [] (by simp) (by omega)) (by kernel_rfl) rfl (by simp[ac,V.low,hC8.wt.lt hp6]) hC8.wt.sane ?_
   rintro _ G9 K9 H9 hC9 hl9 ⟨rfl,rfl⟩
   simp only[go_sem,seval]
   have hp9:=hC9.stay p _ rfl hp6
   have hs9:=hs8.keep (hC9.keep p (hC8.wt.lt hp6) (j7 hp6 id))
   refine aT (lc hC9.wt hp9 hs9 (show(Gh.add _ 1 0).o d≤_ from by show _+1≤_;omega)) (by kernel_rfl) rfl (by simp[ac,V.low,hC9.wt.lt hp9]) hC9.wt.sane ?_
   rintro _ G10 K10 H10 hC10 hl10 ⟨rfl,rfl⟩
   simp only[go_sem,seval]
   have hD9:=hD8.callK hC9 fun k hk=> .inr (sn k hk)
   have hD10:=hD9.callK hC10 fun k hk=> .inr (gA k hk)
   rw[Gh.add_add] at hD10
   exact EndW.of hD10 trivial ⟨rfl,_,rfl⟩
  ·have hw0:¬ (wk:Int)=0:=by omega
   simp only[go_sem,seval,hg8,hw0,decide_false]
   repeat refine aI ?_
   refine aT (lc hC8.wt hp6 hs8 (by omega)) (by kernel_rfl) rfl (by simp[ac,V.low,hC8.wt.lt hp6]) hC8.wt.sane ?_
   rintro _ G9 K9 H9 hC9 hl9 ⟨rfl,rfl⟩
   simp only[go_sem,seval]
   exact EndW.of ((hD8.callK hC9 fun k hk=> .inr (gA k hk)).up (show 4≤5 by omega) (Nat.le_refl 0) rfl) trivial ⟨rfl,_,rfl⟩
 ·simp only[go_sem,seval,hg6,aW hlp6,List.set_set,List.length_set,hlp6]
  repeat refine aI ?_
  refine And.intro ?_ ?_
  ·refine co (cM M5.length) [([],[]),([],[]),([],[]),([],[]),([],[]),([],[]),([0],[]),([],[]),([0],[]),([],[]),([],[]),([],[]),([0],[]),([],[]),([],[]),([],[]),([0],[]),([],[]),([0,1],[1]),([],[]),([],[]),([0],[0]),([],[]),([],[]),([0],[0]),([],[]),([],[]),([0],[0])] (by kernel_rfl) (by simp only[cC,cD,cE,eH,all_cons,ia,List.nil_append,jN,ce hlp5,ce hld5,ce hlm6,cT,and_true])
  have hD7:=hD6.putK hp6 rfl (.inr trivial) (PeerF.row (num:=num) (at_:=fr) (stamped:=stp) (sec:=sec) (nano:=nano) (until_:=un) (bindex:=bi) (knows:=best3) (pin:=pin5) (old:= .ptr c2 0) (session:= .ptr c6 0) (next:= .nilPtr) (begun:= .nilPtr) {hQ with fold:=hQ.fsession,fsession:= .inr ⟨c6,rfl,hc6⟩,fnext:= .inl rfl,fbegun:= .inl rfl})
  have hg7:=aW hlp6 (some (⟨false,[.ptr d 0,.ptr tm 0,.i64 num,.str qub,.str psk,.u32 fr,.i64 best3,.i64 pin5,.bool stp,.i64 sec,.i64 nano,.str ck2,.i64 un,wv,.nilPtr,.u32 bi,.str bt,.ptr c2 0,.ptr c6 0,.nilPtr],none⟩:Blk))
  have hd7:=(aP (H:=H6) hpd (some (⟨false,[.ptr d 0,.ptr tm 0,.i64 num,.str qub,.str psk,.u32 fr,.i64 best3,.i64 pin5,.bool stp,.i64 sec,.i64 nano,.str ck2,.i64 un,wv,.nilPtr,.u32 bi,.str bt,.ptr c2 0,.ptr c6 0,.nilPtr],none⟩:Blk))).trans hd6
  generalize H6.set p (some (⟨false,[.ptr d 0,.ptr tm 0,.i64 num,.str qub,.str psk,.u32 fr,.i64 best3,.i64 pin5,.bool stp,.i64 sec,.i64 nano,.str ck2,.i64 un,wv,.nilPtr,.u32 bi,.str bt,.ptr c2 0,.ptr c6 0,.nilPtr],none⟩:Blk))=M7 at*
  simp only[go_sem,seval,hd7]
  repeat refine aI ?_
  refine bN (fh hD7.wt hQ.ftm 5 now) (by kernel_rfl) rfl (by simp[ac,V.low,hD7.wt.lt hQ.ftm]) hD7.wt.sane ?_
  rintro _ G8 K8 H8 hC8 hl8 ⟨rfl,rfl,e8,rfl⟩
  have hD8:=hD7.callP (W2:=fun c=>c=tm) hC8 fun c e=>by subst e;exact⟨_,hQ.ftm,.inr trivial⟩
  have htp:p≠tm:=fun e=>by subst e;have :=hQ.ftm;rw[hp6] at this;cases this
  have hg8:=(hC8.keep p (hD7.wt.lt hp6) htp).trans hg7
  have hs8:HasP H8 p 18:=⟨_,c6,hg8,rfl⟩
  rcases hQ.fwaits with rfl|⟨wa,wk,rfl,hwk0,hwk,hwa⟩
  ·simp only[go_sem,seval,hg8]
   repeat refine aI ?_
   refine aT (nc hC8.wt hp6 hs8 [] (by simp) (by omega)) (by kernel_rfl) rfl (by simp[ac,V.low,hC8.wt.lt hp6]) hC8.wt.sane ?_
   rintro _ G9 K9 H9 hC9 hl9 ⟨rfl,rfl⟩
   simp only[go_sem,seval]
   have hp9:=hC9.stay p _ rfl hp6
   have hs9:=hs8.keep (hC9.keep p (hC8.wt.lt hp6) (j7 hp6 id))
   refine aT (lc hC9.wt hp9 hs9 (show(Gh.add _ 1 0).o d≤_ from by show _+1≤_;omega)) (by kernel_rfl) rfl (by simp[ac,V.low,hC9.wt.lt hp9]) hC9.wt.sane ?_
   rintro _ G10 K10 H10 hC10 hl10 ⟨rfl,rfl⟩
   simp only[go_sem,seval]
   have hD9:=hD8.callK hC9 fun k hk=> .inr (sn k hk)
   have hD10:=hD9.callK hC10 fun k hk=> .inr (gA k hk)
   rw[Gh.add_add] at hD10
   exact EndW.of hD10 trivial ⟨rfl,_,rfl⟩
  ·have hw0:¬ (wk:Int)=0:=by omega
   simp only[go_sem,seval,hg8,hw0,decide_false]
   repeat refine aI ?_
   refine aT (lc hC8.wt hp6 hs8 (by omega)) (by kernel_rfl) rfl (by simp[ac,V.low,hC8.wt.lt hp6]) hC8.wt.sane ?_
   rintro _ G9 K9 H9 hC9 hl9 ⟨rfl,rfl⟩
   simp only[go_sem,seval]
   exact EndW.of ((hD8.callK hC9 fun k hk=> .inr (gA k hk)).up (show 4≤5 by omega) (Nat.le_refl 0) rfl) trivial ⟨rfl,_,rfl⟩
end
end Go.Vm
end
section
namespace Go.Vm
section
open Go Go.RowKit
section
variable {P:Program}{m n:Nat}{Q Q':Exit→St→Prop}{s:St}{c x y:Code}
def GP (P:Program)(m n:Nat)(c:Code)(Q:Exit→St→Prop)(s:St):Prop:=∃ e s',m≤s'.H.length∧Q e s'∧GS P m n c (fun e2 s2=>e2=e∧s2=s') s
theorem tl (h:GS P m n c Q s)(hq:∀ e s,Q e s→Q' e s):GS P m n c Q' s:=fun ρ a w hr hm=>
 wp_mono (h ρ a w hr hm) fun e a' w' ⟨s',ρ',q1,q2,q3⟩=>⟨s',ρ',hq _ _ q1,q2,q3⟩
theorem jP (hmix:P.follows .mixedOrders=true)(hm:m≤s.H.length)(h:vc P m n c Q s):GP P m n c Q s:=by
 obtain⟨e,s',h1,h2,h3⟩:=iP c Q s hm h
 exact⟨e,s',h1,h2,iS hmix h3⟩
theorem ni {K:St→Prop}(hx:GP P m n x (eN K Q) s)(hy:∀ s',m≤s'.H.length→K s'→GP P m n y Q s'):GP P m n (.seq x y) Q s:=by
 obtain⟨e,s1,h1,h2,h3⟩:=hx
 cases e
 case normal=>
  obtain⟨e',s2,k1,k2,k3⟩:=hy s1 h1 h2
  refine⟨e',s2,k1,k2,iY (K:=fun s'=>s'=s1) (tl h3 ?_) fun s' hs=>by subst hs;exact k3⟩
  rintro _ _ ⟨rfl,rfl⟩
  rfl
 all_goals
  refine⟨_,s1,h1,h2,iY (K:=fun _=>False) (tl h3 ?_) fun s' hs=>hs.elim⟩
  rintro _ _ ⟨rfl,rfl⟩
  exact⟨rfl,rfl⟩
theorem MV {v:Operand}{b:Bool}(hb:s.ev v= .bool b)(h:GS P m n (if b=true then x else y) Q s):GS P m n (.cond v x y) Q s:=fun ρ a w hr hm=>by
 have hv:=hr.tmps.eval v
 rw[hb] at hv
 unfold VR at hv
 exact wp_cond_split hv (fun ht=>by have :=h ρ a w hr hm;rwa [if_pos ht] at this) (fun hf=>by have :=h ρ a w hr hm;rwa [if_neg (by rw[hf];decide)] at this)
theorem sR {v:Operand}{b:Bool}(hb:s.ev v= .bool b)(h:GP P m n (if b=true then x else y) Q s):GP P m n (.cond v x y) Q s:=by
 obtain⟨e,s',h1,h2,h3⟩:=h
 exact⟨e,s',h1,h2,MV hb h3⟩
theorem JF {J:Nat→Option Blk→Prop}{ops:Array Oper}{id:Nat}{es:List Ent}{s':St}(hmix:P.follows .mixedOrders=true)(ht:gj P J n ops ops.toList s es s')(hok:dJ ops (eJ ops.toList s es)=true)(hJ:∀ b,J b (aa s.H b))(hm:m≤s'.H.length)(hk:Q .normal s'):GP P m n (.region id ops true) Q s:=
 ⟨.normal,s',hm,hk,fun ρ a w hr hm0=>vK (K:=fun t=>t=s') hmix ht hok hJ rfl ρ a w _ hr hm0 fun a' w' ⟨s2,ρ',e,q⟩=>⟨s2,ρ',⟨rfl,e⟩,q⟩⟩
def eW (P:Program)(J:Nat→Option Blk→Prop)(n:Nat)(ops:Array Oper)(K:St→Prop):List Oper→List (List Nat×List Nat)→St→Prop
 |[],tr,s=>dJ ops tr=true∧K s
 |o::l,tr,s=>di n o.dst∧o.guard=none∧∃ res,sF J P o s.ev (aa s.H) s.H.length res∧(∀ x∈res.old,x.1<s.H.length)∧(∀ b x,dr s ⟨true,res⟩ b=some x→J b x)∧eW P J n ops K l (tr++[aZ s res]) (s.after o.dst res)
theorem uY {J:Nat→Option Blk→Prop}{ops:Array Oper}{K:St→Prop}:∀ (l:List Oper) (tr:List (List Nat×List Nat)) (s:St),eW P J n ops K l tr s→∃ es s',gj P J n ops l s es s'∧dJ ops (tr++eJ l s es)=true∧K s'
 |[],tr,s,h=>⟨[],s,rfl,by simpa [eJ] using h.1,h.2⟩
 |o::l,tr,s,⟨hd,hg,res,h1,h2,h3,h4⟩=>by
  obtain⟨es,s',g1,g2,g3⟩:=uY l _ _ h4
  refine⟨⟨true,res⟩::es,s',⟨⟨hd,by unfold iW;rw[hg],by simp only[if_true];exact⟨h1,h2,h3⟩⟩,g1⟩,?_,g3⟩
  simpa [eJ] using g2
theorem xA {J:Nat→Option Blk→Prop}{ops:Array Oper}{id:Nat}(hmix:P.follows .mixedOrders=true)(hJ:∀ b,J b (aa s.H b))(h:eW P J n ops (fun s'=>m≤s'.H.length∧Q .normal s') ops.toList [] s):GP P m n (.region id ops true) Q s:=by
 obtain⟨es,s',h1,h2,h3⟩:=uY _ _ _ h
 exact JF hmix h1 (by simpa using h2) hJ h3.1 h3.2
theorem cF {J:Nat→Option Blk→Prop}{ops:Array Oper}{K:St→Prop}{o:Oper}{l:List Oper}{tr:List (List Nat×List Nat)}{res:Res}(hd:di n o.dst)(hg:o.guard=none)(hv:bp P o.op s.ev (aa s.H) s.H.length=some res)(hp:res.pre)(ho:res.old=[])(hn:res.news=[])
  (hk:eW P J n ops K l (tr++[(res.fp,[])]) (s.put o.dst res.v)):eW P J n ops K (o::l) tr s:=by
 refine⟨hd,hg,res,(OpExec.of_vop hv hp).toJ,by rw[ho];simp,fun b x hx=>?_,?_⟩
 ·unfold dr at hx
  rw[hn,ho] at hx
  simp at hx
  omega
 ·have e1:aZ s res=(res.fp,[]):=by unfold aZ;rw[ho,hn];rfl
  have e2:s.after o.dst res=s.put o.dst res.v:=by unfold St.after St.put bU;rw[ho,hn];simp
  rw[e1,e2];exact hk
end
section
variable {P:Program}{f:FuncId}{args:List V}{K:Nat→Option Kd}{H:List (Option Blk)}{W:Nat→Prop}
theorem Gj {fn:Func}{c:Code}{Post:V→Gh→(Nat→Option Kd)→Prop}(hf:P.funcs[f]?=some fn)(hb:fn.body=some c)(hn:args.length≤fn.ntmps)
  (hv:GP P H.length fn.ntmps c (b8 P fn (EndW K H W Post)) ⟨cW args 0,H⟩):∃ v G' K' H',Done P f args K H W v G' K' H'∧Post v G' K':=by
 obtain⟨e,s',h1,h2,h3⟩:=hv
 obtain⟨v,⟨G',K',g1,g2,g3⟩,g4⟩:=vL h2
 refine⟨v,G',K',s'.H,⟨n7 hf hb hn (tl h3 ?_),g1,g2⟩,g3⟩
 rintro _ _ ⟨rfl,rfl⟩
 exact mH (fun v2 s2 hh=>by obtain⟨rfl,rfl⟩:=hh;exact Fin.id h1) g4
end
end
section
section
variable {P:Program}{n:Nat}{J:Nat→Option Blk→Prop}{ops:Array Oper}{K:St→Prop}{o:Oper}{l:List Oper}{tr:List (List Nat×List Nat)}{s:St}
theorem yU {ty:TypeId}{a:Operand}{b i:Nat}{v:V}(hd:di n o.dst)(hg:o.guard=none)(ho:o.op= .load ty a)(ha:s.ev a= .ptr b i)(hr:aL P ty=some false){z:Nat}(hz:ar P ty=some z)
  (hJv:∀ x,J b x→∃ B,x=some B∧i<B.cs.length∧B.cs.getD i .junk=v) (hk:eW P J n ops K l (tr++[([],[])]) (s.put o.dst v)):eW P J n ops K (o::l) tr s:=by
 refine⟨hd,hg,{v:=v},?_,by simp,fun c x hx=>?_,?_⟩
 ·intro ρ dom get w act next Q h1 h2 h3 h4 hJ h5
  obtain⟨B,hB,hi,rfl⟩:=hJv _ (hJ b)
  have hv:bp P o.op s.ev get s.H.length=some {v:=B.cs.getD i .junk,pre:=i<B.cs.length,fp:=[b]}:=by
   rw[ho]
   simp only[bp,ha,hB,hr,hz]
  refine OpExec.of_vop hv hi ρ dom get w act next Q h1 h2 (fun c hc=>⟨rfl,fun _=>?_⟩) h4 h5
  have :c=b:=by simpa using hc
  subst this
  exact h2.has _ _ hB
 ·unfold dr at hx
  simp at hx
  omega
 ·have e1:aZ s {v:=v}=([],[]):=rfl
  have e2:s.after o.dst {v:=v}=s.put o.dst v:=by unfold St.after St.put bU;simp
  rw[e1,e2];exact hk
theorem sS {c:Call}{fx:Operand}{f:FuncId}{fs cs args:List V}{v:V}{H':List (Option Blk)}{W:List Nat}(hd:di n o.dst)(hg:o.guard=none)(ho:o.op= .call c)(hcl:c.callee= .value fx)(hf:s.ev fx= .fn f fs cs)(h:Whole P f args s.H v H' W)(hc:cw P f=true)(ha:args=fs++c.args.toList.map s.ev++cs)
  (hJ:∀ b,b∈W∨s.H.length≤b→J b (aa H' b)) (hk:eW P J n ops K l (tr++[(List.range s.H.length,W++List.range' s.H.length (H'.length-s.H.length))]) ⟨cz s.t o.dst v,H'⟩):eW P J n ops K (o::l) tr s:=by
 have hV:=h.vcall hc ha
 rw[←hf] at hV
 refine⟨hd,hg,fS s.H H' W v,(OpExec.of_call ho hcl hV).toJ,fun x hx=>?_,fun b x hx=>?_,?_⟩
 ·obtain⟨b,hb,rfl⟩:=List.mem_map.1 hx
  exact h.wlt b hb
 ·unfold dr at hx
  split at hx
  ·rename_i hb
   injection hx with hx
   have e:((H'.drop s.H.length)[b-s.H.length]?).join=aa H' b:=by
    unfold aa
    rw[List.getElem?_drop,show s.H.length+(b-s.H.length)=b by omega]
   rw[←hx]
   exact e▸hJ b (.inr hb.1)
  ·split at hx
   ·rename_i hb
    injection hx with hx
    have hbW:b∈W:=by
     obtain⟨y,hy,e⟩:=List.mem_map.1 hb.2
     obtain⟨z,hz,rfl⟩:=List.mem_map.1 hy
     simp only at e
     rw[←e];exact hz
    have e:du (W.map fun b=>(b,aa H' b)) b none=aa H' b:=by rw[nX,if_pos hbW]
    rw[←hx]
    exact e▸hJ b (.inl hbW)
   ·cases hx
 ·have hft:aZ s (fS s.H H' W v)=(List.range s.H.length,W++List.range' s.H.length (H'.length-s.H.length)):=by
   unfold aZ fS
   simp only[List.map_map,List.length_drop]
   congr 2
   conv=>rhs;rw[←List.map_id W]
   rfl
  have ha2:St.after s o.dst (fS s.H H' W v)=⟨cz s.t o.dst v,H'⟩:=rW (t:=s.t) (dst:=o.dst) h.le h.keep
  rw[hft,ha2]
  exact hk
theorem Db {c:Call}{fx:Operand}{f:FuncId}{fs cs:List V}{v:V}(hd:di n o.dst)(hg:o.guard=none)(ho:o.op= .call c)(hcl:c.callee= .value fx)(hf:s.ev fx= .fn f fs cs)(h:am P f (fs++c.args.toList.map s.ev++cs) v)
  (hk:eW P J n ops K l (tr++[([],[])]) (s.put o.dst v)):eW P J n ops K (o::l) tr s:=by
 have hV:VCall P (s.ev fx) (c.args.toList.map s.ev) (aa s.H) s.H.length {v:=v}:=by
  rw[hf]
  exact .inl ⟨f,fs,cs,rfl,h.1,trivial,h.2 _ _⟩
 refine⟨hd,hg,{v:=v},(OpExec.of_call ho hcl hV).toJ,by simp,fun b x hx=>?_,?_⟩
 ·unfold dr at hx
  simp at hx
  omega
 ·have e1:aZ s {v:=v}=([],[]):=rfl
  have e2:s.after o.dst {v:=v}=s.put o.dst v:=by unfold St.after St.put bU;simp
  rw[e1,e2];exact hk
theorem zL {res:Res}(hd:di n o.dst)(hg:o.guard=none)(hv:bp P o.op s.ev (aa s.H) s.H.length=some res)(hp:res.pre)(hold:∀ x∈res.old,x.1<s.H.length)(hJ:∀ b x,dr s ⟨true,res⟩ b=some x→J b x)
  (hk:eW P J n ops K l (tr++[aZ s res]) (s.after o.dst res)):eW P J n ops K (o::l) tr s:=⟨hd,hg,res,(OpExec.of_vop hv hp).toJ,hold,hJ,hk⟩
theorem zp (hok:dJ ops tr=true)(hk:K s):eW P J n ops K [] tr s:=⟨hok,hk⟩
end
theorem eS {P:Program}{m n:Nat}{x y:Code}{Q:Exit→St→Prop}{s:St}(hmix:P.follows .mixedOrders=true)(hm:m≤s.H.length)(h:vc P m n x (eN (fun s'=>m≤s'.H.length→GP P m n y Q s') Q) s):GP P m n (.seq x y) Q s:=
 ni (jP hmix hm h) fun s' h1 h2=>h2 h1
end
end Go.Vm
end
section
namespace Go.Vm
open Go.Proofs
section
variable {G:Gh}{K K0:Nat→Option Kd}{H H0:List (Option Blk)}{b p d m n:Nat}{here:BitVec 32}{own pub seed:List af}{best:Int}{fresh:BitVec 64}{secret:List af}{index:BitVec 32}{firsts now:Int}{busy:Bool}{peers:V}{paths bucket:Nat}{out got:V}
def yV (d i:Nat)(v:V)(b:Nat)(x:Option Blk):Prop:=b=d→∃ B,x=some B∧i<B.cs.length∧B.cs.getD i .junk=v
theorem JG (h:WT G K H)(hd:K d=some (.dev m n))(hg:aa H d=some ⟨false,[.u32 here,.str own,.str pub,.str seed,.i64 best,.u64 fresh,.str secret,.u32 index,.i64 firsts,.i64 now,.bool busy,peers,.ptr paths 0,.ptr bucket 0,out,got],none⟩)
  (mine x:List af) {t:List (Nat×V)} (h0:ae t 0= .ptr d 0) (h2:ae t 2= .str x) (h7:ae t 7= .str mine) {Q:Exit→St→Prop} {r0 r1 r2 s3 r5 r6 c7 c9 c10 e5:Code} {x44:Operand}
  (hc:Tryz.f62.body=some (.seq r0 (.seq r1 (.seq r2 (.seq s3 (.seq (.seq r5 (.cond x44 (.seq (.seq r6 c7) c9) e5)) c10)))))) (hm:H0.length≤H.length) (hpub:pub.length≤1048576) (hmine:mine.length≤1048576) (hx:x.length≤10000000)
  (hQ:∀ (o:List af) (e:Int) (H1:List (Option Blk)) (t1:List (Nat×V)),o.length≤1000→(e=0→0<o.length)→Cur K H (fun c=>c=d) G K H1→ae t1 0= .ptr d 0→ae t1 1=ae t 1→ae t1 11= .str o→ae t1 12= .i64 e→Q .normal ⟨t1,H1⟩):
  GP Tryz.prog H0.length Tryz.f62.ntmps r6 Q ⟨t,H⟩:=by
 simp only[Tryz.f62,Option.some.injEq,Code.seq.injEq,Code.cond.injEq] at hc
 obtain⟨-,-,-,-,⟨-,-,⟨⟨rfl,-⟩,-⟩,-⟩,-⟩:=hc
 refine xA (J:=yV d 2 (.str pub)) (by kernel_rfl) (fun b e=>by subst e;exact⟨_,hg,by simp,rfl⟩) ?_
 refine cF (by show(_:Nat)<184;decide) rfl (by simp only[go_sem,h0];rfl) trivial rfl rfl ?_
 refine cF (by show(_:Nat)<184;decide) rfl (by simp only[go_sem,seval];rfl) trivial rfl rfl ?_
 refine cF (by show(_:Nat)<184;decide) rfl (by simp only[go_sem,seval];rfl) trivial rfl rfl ?_
 refine yU (b:=d) (i:=2) (v:= .str pub) (by show(_:Nat)<184;decide) rfl rfl (by simp only[go_sem,seval]) (by kernel_rfl) (z:=1) (by kernel_rfl) (fun x hx=>hx rfl) ?_
 refine cF (by show(_:Nat)<184;decide) rfl (by simp only[go_sem,seval,h0];rfl) trivial rfl rfl ?_
 obtain⟨_,G1,K1,H1,hDn,rfl,rfl,⟨ks,rfl,hks⟩,hg1⟩:=zo h hd hg
 refine sS (fs:=[]) (cs:=[]) (args:=[.ptr d 0]) (by show(_:Nat)<184;decide) rfl rfl rfl rfl (hDn.whole (by simp[ac,V.low,h.lt hd]) h.sane) (by kernel_rfl) (by simp only[go_sem,seval]) (fun b hb e=>by subst e;exact⟨_,hg1,by simp,rfl⟩) ?_
 refine cF (by show(_:Nat)<184;decide) rfl (by simp only[go_sem,seval];rfl) (by simp;omega) rfl rfl ?_
 refine cF (by show(_:Nat)<184;decide) rfl (by simp only[go_sem,seval,h7];rfl) trivial rfl rfl ?_
 refine cF (by show(_:Nat)<184;decide) rfl (by simp only[go_sem,seval,h2];rfl) trivial rfl rfl ?_
 obtain⟨_,hR,o,e,rfl,ho,ho0⟩:=F3 pub (ks.take 24) mine x hpub hmine hx
 refine Db (fs:=[]) (cs:=[]) (by show(_:Nat)<184;decide) rfl rfl rfl rfl (by simp only[go_sem,seval];exact hR) ?_
 refine cF (by show(_:Nat)<184;decide) rfl (by simp only[go_sem,seval];rfl) trivial rfl rfl ?_
 refine cF (by show(_:Nat)<184;decide) rfl (by simp only[go_sem,seval];rfl) trivial rfl rfl ?_
 refine cF (by show(_:Nat)<184;decide) rfl (by simp only[go_sem,seval];rfl) trivial rfl rfl ?_
 refine cF (by show(_:Nat)<184;decide) rfl (by simp only[go_sem,seval];rfl) trivial rfl rfl ?_
 refine cF (by show(_:Nat)<184;decide) rfl (by simp only[go_sem,seval];rfl) trivial rfl rfl ?_
 refine zp ?_ ⟨Nat.le_trans hm hDn.cur.len,hQ o e H1 _ ho ho0 hDn.cur ?_ ?_ ?_ ?_⟩
 ·show dJ _ [([],[]),([],[]),([],[]),([],[]),([],[]),(List.range H.length,gM (fun c=>c=d) H.length++List.range' H.length (H1.length-H.length)),([],[]),([],[]),([],[]),([],[]),([],[]),([],[]),([],[]),([],[]),([],[])]=true
  refine co (cM H.length) [([],[]),([],[]),([],[]),([],[]),([],[]),([0,1],[0,1]),([0],[]),([],[]),([],[]),([],[]),([],[]),([],[]),([],[]),([],[]),([],[])] (by kernel_rfl) (by simp only[cC,cD,cE,eH,and_true])
 all_goals simp only[go_sem,seval,h0]
end
section
variable {G:Gh}{K K0:Nat→Option Kd}{H H0:List (Option Blk)}{b p d c m n:Nat}{here:BitVec 32}{own pub seed:List af}{best:Int}{fresh:BitVec 64}{secret:List af}{index:BitVec 32}{firsts now:Int}{busy:Bool}{peers:V}{paths bucket:Nat}{out got:V}
 {tm:Nat} {num:Int} {qub psk:List af} {at_:BitVec 32} {kn pin:Int} {stp:Bool} {sec nano:Int} {ck:List af} {un:Int} {wv bg:V} {bi:BitVec 32} {bt:List af} {ol se ne:V}
def uh (d e N x:Nat):Nat:=if x=d then 2 else if x=e then 3 else if x<N then 0 else 1
theorem gL {d e N x:Nat}{l:List Nat}(h2:x=d→2∈l)(h3:x≠d→x=e→3∈l)(h0:x≠d→x<N→0∈l)(h1:N≤x→x≠e→1∈l):uh d e N x∈l:=by
 unfold uh
 split
 ·exact h2 ‹_›
 ·split
  ·exact h3 ‹_› ‹_›
  ·split
   ·exact h0 ‹_› ‹_›
   ·exact h1 (by omega) ‹_›
theorem Gk (h:WT G K H)(hd:K d=some (.dev m n))(hp:K p=some (.peer d))(hh:K c=some .heard)(hg:aa H d=some ⟨false,[.u32 here,.str own,.str pub,.str seed,.i64 best,.u64 fresh,.str secret,.u32 index,.i64 firsts,.i64 now,.bool busy,peers,.ptr paths 0,.ptr bucket 0,out,got],none⟩)(hgq:aa H p=some ⟨false,[.ptr d 0,.ptr tm 0,.i64 num,.str qub,.str psk,.u32 at_,.i64 kn,.i64 pin,.bool stp,.i64 sec,.i64 nano,.str ck,.i64 un,wv,bg,.u32 bi,.str bt,ol,se,ne],none⟩)
  (ix:BitVec 32) {t:List (Nat×V)} (h0:ae t 0= .ptr d 0) (h15:ae t 15= .ptr c 0) (h16:ae t 16= .ptr p 0) (h17:ae t 17= .u32 ix) {Q:Exit→St→Prop} {r0 r1 r2 s3 s5 s10 r13 s14 r16 b17 r25 r26 r27 c28:Code}
  (hc:Tryz.f62.body=some (.seq r0 (.seq r1 (.seq r2 (.seq s3 (.seq s5 (.seq s10 (.seq r13 (.seq s14 (.seq r16 (.seq b17 (.seq r25 (.seq r26 (.seq r27 c28)))))))))))))) (hm:H0.length≤H.length) (hpsk:psk.length≤1048576)
  (hQ:∀ (sec ka kb:List af) (e:Int) (N:Nat) (H3:List (Option Blk)) (t1:List (Nat×V)),sec.length≤1000→(e=0→0<sec.length∧ka.length=32∧kb.length=32)→Cur K H (fun b=>b=d∨b=c) G K H3→aa H3 N=some ⟨false,[.str ka,.str kb],none⟩→(∀ k,k≠10→k≠18→k≠19→k<147→ae t1 k=ae t k)→ae t1 10= .i64 e→ae t1 18= .str sec→ae t1 19= .ptr N 0→Q .normal ⟨t1,H3⟩):
  GP Tryz.prog H0.length Tryz.f62.ntmps r27 Q ⟨t,H⟩:=by
 simp only[Tryz.f62,Option.some.injEq,Code.seq.injEq] at hc
 obtain⟨-,-,-,-,-,-,-,-,-,-,-,-,rfl,-⟩:=hc
 refine xA (J:=yV d 4 (.i64 best)) (by kernel_rfl) (fun b e=>by subst e;exact⟨_,hg,by simp,rfl⟩) ?_
 refine cF (by show(_:Nat)<184;decide) rfl (by simp only[go_sem,h15];rfl) trivial rfl rfl ?_
 refine cF (by show(_:Nat)<184;decide) rfl (by simp only[go_sem,seval,h16];rfl) trivial rfl rfl ?_
 refine cF (by show(_:Nat)<184;decide) rfl (by simp only[go_sem,seval];rfl) trivial rfl rfl ?_
 refine cF (by show(_:Nat)<184;decide) rfl (by simp only[go_sem,seval];rfl) trivial rfl rfl ?_
 refine cF (by show(_:Nat)<184;decide) rfl (by simp only[go_sem,seval,hgq];rfl) (by simp) rfl rfl ?_
 refine cF (by show(_:Nat)<184;decide) rfl (by simp only[go_sem,seval,h0];rfl) trivial rfl rfl ?_
 simp only[go_sem,List.nil_append,List.cons_append]
 obtain⟨_,G1,K1,H1,hDn,rfl,rfl,⟨ks,rfl,hks⟩,hg1⟩:=zo h hd hg
 refine sS (fs:=[]) (cs:=[]) (args:=[.ptr d 0]) (by show(_:Nat)<184;decide) rfl rfl rfl rfl (hDn.whole (by simp[ac,V.low,h.lt hd]) h.sane) (by kernel_rfl) (by simp only[go_sem,seval]) (fun b hb e=>by subst e;exact⟨_,hg1,by simp,rfl⟩) ?_
 refine cF (by show(_:Nat)<184;decide) rfl (by simp only[go_sem,seval,h0];rfl) trivial rfl rfl ?_
 refine cF (by show(_:Nat)<184;decide) rfl (by simp only[go_sem,seval];rfl) trivial rfl rfl ?_
 refine cF (by show(_:Nat)<184;decide) rfl (by simp only[go_sem,seval];rfl) trivial rfl rfl ?_
 refine yU (b:=d) (i:=4) (v:= .i64 best) (by show(_:Nat)<184;decide) rfl rfl (by simp only[go_sem,seval]) (by kernel_rfl) (z:=1) (by kernel_rfl) (fun x hx=>hx rfl) ?_
 refine cF (by show(_:Nat)<184;decide) rfl (by simp only[go_sem,seval,h17];rfl) trivial rfl rfl ?_
 simp only[go_sem,List.nil_append,List.cons_append]
 have hdc:d≠c:=fun e=>by subst e;rw[hd] at hh;cases hh
 have hl1:=hDn.cur.len
 have hpd:p≠d:=fun e=>by subst e;rw[hp] at hd;cases hd
 have hld:=h.lt hd
 obtain⟨_,G2,K2,H2,hAn,hG2,hK2,sec,ka,kb,e,rfl,hs1,ha1,hb1,hok⟩:=Ge hDn.cur.wt hh psk ks best ix hpsk (by omega)
 have hl2:=hAn.cur.len
 refine sS (fs:=[]) (cs:=[]) (args:=[.ptr c 0,.str psk,.str ks,.i64 best,.u32 ix]) (by show(_:Nat)<184;decide) rfl rfl rfl rfl (hAn.whole (by simp[ac,V.low,hDn.cur.wt.lt hh]) hDn.cur.wt.sane) (by kernel_rfl) (by simp only[go_sem,seval]) (fun b hb e2=>?_) ?_
 ·subst e2
  rcases hb with hb|hb
  ·exact absurd (kO.1 hb).2 hdc
  ·have :H1.length≤b:=hb
   omega
 refine cF (by show(_:Nat)<184;decide) rfl (by simp only[go_sem,seval];rfl) trivial rfl rfl ?_
 refine cF (by show(_:Nat)<184;decide) rfl (by simp only[go_sem,seval];rfl) trivial rfl rfl ?_
 refine cF (by show(_:Nat)<184;decide) rfl (by simp only[go_sem,seval];rfl) trivial rfl rfl ?_
 refine cF (by show(_:Nat)<184;decide) rfl (by simp only[go_sem,seval];rfl) trivial rfl rfl ?_
 simp only[go_sem,List.nil_append,List.cons_append]
 refine zL (by show(_:Nat)<184;decide) rfl (by simp only[go_sem];rfl) trivial (by simp) (fun b x hx e2=>?_) ?_
 ·subst e2
  exfalso
  unfold dr at hx
  rw[if_neg (fun h=>by have :H2.length≤b:=h.1;omega),if_neg (fun h=>by have :=h.2;simp at this)] at hx
  cases hx
 refine cF (by show(_:Nat)<184;decide) rfl (by simp only[go_sem,seval];rfl) trivial rfl rfl ?_
 simp only[go_sem,List.nil_append,List.cons_append]
 refine zL (by show True;trivial) rfl (by simp only[go_sem,seval,d9];rfl) (by simp) (fun y hy=>?_) (fun b x hx e2=>?_) ?_
 ·have hy2:y=(H2.length,some (⟨false,[.str ka,.str kb],none⟩:Blk)):=by simpa using hy
  subst hy2
  show H2.length<(H2++[some (⟨false,[.str [],.str []],none⟩:Blk)]).length
  simp
 ·subst e2
  exfalso
  unfold dr at hx
  rw[if_neg (fun h=>by have h1:(H2++[some (⟨false,[.str [],.str []],none⟩:Blk)]).length≤b:=h.1;simp at h1;omega),if_neg (fun h=>by have :=h.2;simp at this;omega)] at hx
  cases hx
 refine cF (by show(_:Nat)<184;decide) rfl (by simp only[go_sem,seval];rfl) trivial rfl rfl ?_
 simp only[go_sem,List.nil_append,List.cons_append]
 refine zp ?_ ⟨?_,?_⟩
 ·show dJ _ [([],[]),([],[]),([],[]),([],[]),([p],[]),([],[]),(List.range H.length,gM (fun c=>c=d) H.length++List.range' H.length (H1.length-H.length)),([],[]),([],[]),([],[]),([],[]),([],[]),(List.range H1.length,gM (fun x=>x=c) H1.length++List.range' H1.length (H2.length-H1.length)),([],[]),([],[]),([],[]),([],[]),([],[H2.length]),([],[]),([H2.length],[H2.length]),([],[])]=true
  refine co (uh d H2.length H.length) [([],[]),([],[]),([],[]),([],[]),([0],[]),([],[]),([0,2],[1,2]),([],[]),([],[]),([],[]),([],[]),([],[]),([0,1,2],[0,1]),([],[]),([],[]),([],[]),([],[]),([],[3]),([],[]),([3],[3]),([],[])] (by kernel_rfl) ?_
  have hlp:=h.lt hp
  have hlc:=h.lt hh
  simp only[cC,cD,cE,all_cons,and_true,true_and]
  refine⟨gL (fun e=>absurd e hpd) (by omega) (by simp) (by omega),⟨fun b hb=>?_,fun b hb=>?_⟩,⟨fun b hb=>?_,fun b hb=>?_⟩,gL (by omega) (by simp) (by omega) (by omega),gL (by omega) (by simp) (by omega) (by omega),gL (by omega) (by simp) (by omega) (by omega)⟩
  ·rw[List.mem_range] at hb
   exact gL (by simp) (by omega) (by simp) (by omega)
  ·rcases List.mem_append.1 hb with hb|hb
   ·have :=(kO.1 hb).2
    exact gL (by simp) (fun h=>absurd this h) (fun h=>absurd this h) (by simp)
   ·rw[List.mem_range'_1] at hb
    exact gL (by simp) (by omega) (by omega) (by simp)
  ·rw[List.mem_range] at hb
   exact gL (by simp) (by omega) (by simp) (by simp)
  ·rcases List.mem_append.1 hb with hb|hb
   ·have :=(kO.1 hb).2
    exact gL (fun e=>by subst this;exact absurd e.symm hdc) (by omega) (by simp) (by simp)
   ·rw[List.mem_range'_1] at hb
    exact gL (by omega) (by omega) (by simp) (by simp)
 ·show H0.length≤((H2++[some (⟨false,[.str [],.str []],none⟩:Blk)]).set H2.length (some ⟨false,[.str ka,.str kb],none⟩)).length
  simp
  omega
 ·subst hG2 hK2
  have hA:=((hDn.cur.mono (W2:=fun b=>b=d∨b=c) fun _ h=> .inl h).call hAn.cur (fun b _ e=> .inr e)).junk (vs:=[.str [],.str []]) (mm:=none) (by simp[ac,V.low])
  have hN:K2 H2.length=none:=hAn.cur.wt.fresh (Nat.le_refl _)
  have hB:=hA.jput hN (by omega) (vs:=[.str ka,.str kb]) (mm:=none) (by simp[ac,V.low])
  refine hQ sec ka kb e H2.length _ _ hs1 hok hB (aW (by simp) _) (fun k k1 k2 k3 k4=>?_) rfl rfl rfl
  simp only[ae]
  iterate 20 rw[if_neg (by omega)]
end
section
variable {G:Gh}{K K0:Nat→Option Kd}{H H0:List (Option Blk)}{b p q c d m n N:Nat}
def qJ (k:Kd):Prop:=k= .heard∨qI k
theorem JH:∀ k,qI k→qJ k:=fun _ h=> .inr h
theorem mZ:∀ k,qA k→qJ k:=fun _ h=> .inr (.inr h)
theorem yq:∀ k,qG k→qA k:=fun k h=>by cases k<;>first|exact h|trivial
theorem ED (hC:Cur K0 H0 (Wk qJ K0) G K H)(hd:K d=some (.dev m n))(hp:K p=some (.peer d))(ho:G.o d≤1000000){su:Int}{ix:BitVec 32}{st:List af}{sec2 nano2 best2:Int}(hsu:su=1∨su=2)
  (hq:aa H q=some ⟨false,[.i64 su,.u32 ix,.str st,.i64 sec2,.i64 nano2,.i64 best2],none⟩) {ka kb sc:List af} (hN:aa H N=some ⟨false,[.str ka,.str kb],none⟩) {e:Int} (hsc:sc.length≤1000) (hok:e=0→0<sc.length∧ka.length=32∧kb.length=32) (ixn:BitVec 32) {t:List (Nat×V)}
  (h0:ae t 0= .ptr d 0) (h10:ae t 10= .i64 e) (h14:ae t 14= .ptr q 0) (h16:ae t 16= .ptr p 0) (h17:ae t 17= .u32 ixn) (h18:ae t 18= .str sc) (h19:ae t 19= .ptr N 0) {r0 r1 r2 s3 s5 s10 r13 s14 r16 b17 r25 r26 r27 c28:Code}
  (hc:Tryz.f62.body=some (.seq r0 (.seq r1 (.seq r2 (.seq s3 (.seq s5 (.seq s10 (.seq r13 (.seq s14 (.seq r16 (.seq b17 (.seq r25 (.seq r26 (.seq r27 c28)))))))))))))):
  vc Tryz.prog H0.length Tryz.f62.ntmps c28 (b8 Tryz.prog Tryz.f62 (EndW K0 H0 (Wk qJ K0) (bC 1 0 bK G))) ⟨t,H⟩:=by
 obtain⟨tm,num,qub,psk,at_,kn,pin,stp,sec,nano,ck,un,wv,bg,bi,bt,ol,se,ne,hgq,hQ⟩:=hC.wt.peer hp
 obtain⟨here,own,pub,seed,best,fresh,secret,index,firsts,now,busy,peers,paths,bucket,out,got,hg,hF⟩:=hC.wt.dev hd
 have hlp:=hC.wt.lt hp
 have hld:=hC.wt.lt hd
 have hlq:=aj hq
 have hlN:=aj hN
 have hpd:p≠d:=fun e=>by subst e;rw[hp] at hd;cases hd
 simp only[Tryz.f62,Option.some.injEq,Code.seq.injEq] at hc
 obtain⟨-,-,-,-,-,-,-,-,-,-,-,-,-,rfl⟩:=hc
 refine ag ?_
 simp only[go_sem,seval,h10]
 repeat refine aI ?_
 by_cases he:e=0
 rotate_left
 ·simp only[go_sem,seval,he,not_false_eq_true,decide_true]
  exact EndW.of (hC.up (G':=G) (Nat.zero_le 1) (Nat.le_refl 0) rfl) trivial ⟨rfl,_,rfl⟩
 subst he
 obtain⟨hs0,hla,hlb⟩:=hok rfl
 simp only[go_sem,seval,h0,h14,h16,h17,h19,not_true,decide_false,hq,hN,hg]
 repeat refine aI ?_
 refine bN (yP hC.wt su hsu ka kb hla hlb now hF.fnow.1 hF.fnow.2 false ixn ix) (by kernel_rfl) rfl (by simp[ac,V.low]) hC.wt.sane ?_
 rintro _ G1 K1 H1 hC1 hl1 ⟨rfl,hx1,c6,rfl,hc6⟩
 have hD1:=hC.callP (W2:=fun _=>False) hC1 fun _ h=>h.elim
 have k1:∀ c,c<H.length→aa H1 c=aa H c:=fun c hc=>hC1.keep c hc fun h=>h
 have hg1:=(k1 p hlp).trans hgq
 have hp1:=hx1 p _ hp
 have hlp1:=hC1.wt.lt hp1
 have hQ1:=hC1.wt.peerF hp1 hg1
 clear hQ
 have hQ:=hQ1
 simp only[go_sem,seval,hg1,hlp1,h16,h18]
 repeat refine aI ?_
 refine And.intro ?_ ?_
 ·refine co (cM H.length) [([],[]),([],[]),([0],[]),([0],[]),([],[]),([],[]),([],[]),([0],[]),([],[]),([],[]),([0],[]),([0,1],[1]),([],[]),([],[]),([0],[0])] (by kernel_rfl) (by simp only[cC,cD,cE,eH,all_cons,ia,List.nil_append,jN,ce hlp,ce hld,ce hlq,ce hlN,cT,and_true])
 have hD2:=hD1.putK hp1 rfl (.inr (.inr trivial)) (PeerF.row (num:=num) (at_:=at_) (stamped:=stp) (sec:=sec) (nano:=nano) (until_:=un) (bindex:=bi) (next:= .ptr c6 0) {hQ with fnext:= .inr ⟨c6,rfl,hc6⟩})
 refine aT (F9 hD2.wt hp1 sc (by omega) hs0 ho) (by kernel_rfl) rfl (by simp[ac,V.low,hlp1]) hD2.wt.sane ?_
 rintro _ G3 K3 H3 hC3 hl3 ⟨rfl,rfl⟩
 simp only[go_sem,seval]
 exact EndW.of (hD2.callK hC3 fun k hk=>mZ k (yq k hk)) trivial ⟨rfl,_,rfl⟩
end
section
variable {G:Gh}{K K0:Nat→Option Kd}{H H0:List (Option Blk)}{b p q c d m n N:Nat}
theorem Ry:((2:Nat)∈[2])=True:=by simp
theorem MW (hC:Cur K0 H0 (Wk qJ K0) G K H)(hd:K d=some (.dev m n))(hp:K p=some (.peer d))(ho:G.o d≤1000000){su:Int}{ix fr:BitVec 32}{st:List af}{sec2 nano2 best2:Int}(hsu:su=1∨su=2)(hbest2:best2=1∨best2=2)(hh:K c=some .heard)
  (hq:aa H q=some ⟨false,[.i64 su,.u32 ix,.str st,.i64 sec2,.i64 nano2,.i64 best2],none⟩) (hqn:K q=none) {t:List (Nat×V)}
  (h0:ae t 0= .ptr d 0) (h1:ae t 1= .u32 fr) (h14:ae t 14= .ptr q 0) (h15:ae t 15= .ptr c 0) (h16:ae t 16= .ptr p 0) {r0 r1 r2 s3 s5 s10 r13 s14 r16 b17 c25:Code}
  (hc:Tryz.f62.body=some (.seq r0 (.seq r1 (.seq r2 (.seq s3 (.seq s5 (.seq s10 (.seq r13 (.seq s14 (.seq r16 (.seq b17 c25))))))))))) (hm:H0.length≤H.length):
  GP Tryz.prog H0.length Tryz.f62.ntmps c25 (b8 Tryz.prog Tryz.f62 (EndW K0 H0 (Wk qJ K0) (bC 1 0 bK G))) ⟨t,H⟩:=by
 obtain⟨tm,num,qub,psk,at_,kn,pin,stp,sec,nano,ck,un,wv,bg,bi,bt,ol,se,ne,hgq,hQ⟩:=hC.wt.peer hp
 have hlp:=hC.wt.lt hp
 have hld:=hC.wt.lt hd
 have hlq:=aj hq
 have hpq:p≠q:=fun e=>by subst e;rw[hqn] at hp;cases hp
 have hdq:d≠q:=fun e=>by subst e;rw[hd] at hqn;cases hqn
 have hcq:c≠q:=fun e=>by subst e;rw[hh] at hqn;cases hqn
 have hpd:p≠d:=fun e=>by subst e;rw[hp] at hd;cases hd
 have hpsk:=hQ.fpsk
 unfold bn at hpsk
 have hb2:1≤best2∧best2≤2:=by omega
 simp only[Tryz.f62,Option.some.injEq,Code.seq.injEq] at hc
 obtain⟨-,-,-,-,-,-,-,-,-,-,rfl⟩:=hc
 refine eS (by kernel_rfl) hm (ag ?_)
 simp only[go_sem,seval,h1,h14,h16,hq,hgq,aW hlp,List.length_set,hlp,List.set_set,splice]
 repeat refine aI ?_
 refine And.intro ?_ ?_
 ·refine co (cU q H.length) [([],[]),([],[]),([],[]),([],[]),([],[]),([2],[]),([],[]),([2],[]),([],[]),([],[]),([],[]),([0],[0]),([],[]),([],[]),([0],[0]),([],[]),([],[]),([0],[0]),([],[]),([],[]),([0],[0])] (by kernel_rfl) (by simp only[cC,cD,cE,all_cons,lL,dO hlp hpq,Ry,cT,and_true])
 have hD1:=hC.putK hp rfl (.inr (.inr trivial)) (PeerF.row (num:=num) (at_:=fr) (stamped:=true) (sec:=sec2) (nano:=nano2) (until_:=un) (bindex:=bi) (knows:=best2) {hQ with fknows:=hb2})
 have hg1:=aW hlp (some (⟨false,[.ptr d 0,.ptr tm 0,.i64 num,.str qub,.str psk,.u32 fr,.i64 best2,.i64 pin,.bool true,.i64 sec2,.i64 nano2,.str ck,.i64 un,wv,bg,.u32 bi,.str bt,ol,se,ne],none⟩:Blk))
 have hq1:=(aP (H:=H) hpq (some (⟨false,[.ptr d 0,.ptr tm 0,.i64 num,.str qub,.str psk,.u32 fr,.i64 best2,.i64 pin,.bool true,.i64 sec2,.i64 nano2,.str ck,.i64 un,wv,bg,.u32 bi,.str bt,ol,se,ne],none⟩:Blk))).trans hq
 have hl1:(H.set p (some (⟨false,[.ptr d 0,.ptr tm 0,.i64 num,.str qub,.str psk,.u32 fr,.i64 best2,.i64 pin,.bool true,.i64 sec2,.i64 nano2,.str ck,.i64 un,wv,bg,.u32 bi,.str bt,ol,se,ne],none⟩:Blk))).length=H.length:=List.length_set
 generalize H.set p (some (⟨false,[.ptr d 0,.ptr tm 0,.i64 num,.str qub,.str psk,.u32 fr,.i64 best2,.i64 pin,.bool true,.i64 sec2,.i64 nano2,.str ck,.i64 un,wv,bg,.u32 bi,.str bt,ol,se,ne],none⟩:Blk))=M at*
 intro hm1
 have hlq1:=aj hq1
 refine eS (by kernel_rfl) (by show H0.length≤M.length;omega) (ag ?_)
 simp only[go_sem,seval,h0]
 repeat refine aI ?_
 refine aT (vF hD1.wt hd) (by kernel_rfl) rfl (by simp[ac,V.low,hD1.wt.lt hd]) hD1.wt.sane ?_
 rintro _ G2 K2 H2 hC2 hl2 ⟨rfl,rfl,ixn,rfl⟩
 have hD2:=hD1.callP (W2:=fun b=>b=d) hC2 fun b e=>by subst e;exact⟨_,hd,.inr (.inr trivial)⟩
 have hg2:=(hC2.keep p (hD1.wt.lt hp) hpd).trans hg1
 have hq2:=(hC2.keep q hlq1 hdq.symm).trans hq1
 have hlq2:=aj hq2
 simp only[go_sem,seval]
 intro hm2
 obtain⟨here,own,pub,seed,best,fresh,secret,index,firsts,now,busy,peers,paths,bucket,out,got,hg,hF⟩:=hC2.wt.dev hd
 refine ni (K:=fun s'=>H0.length≤s'.H.length→GP _ _ _ _ _ s') (Gk hC2.wt hd hp hh hg hg2 ixn (t:=_) ?_ ?_ ?_ ?_ (hc:=rfl) hm2 hpsk ?_) fun s' q1 q2=>q2 q1
 ·simp only[go_sem,seval,h0]
 ·simp only[go_sem,seval,h15]
 ·simp only[go_sem,seval,h16]
 ·simp only[go_sem,seval]
 intro sec3 ka kb e N H3 t1 hsc hok hC3 hN hk h10 h18 h19 hm3
 have hD3:=hD2.callP hC3 fun b e=>by
  rcases e with rfl|rfl
  ·exact⟨_,hd,.inr (.inr trivial)⟩
  ·exact⟨_,hh,.inl rfl⟩
 have hq3:=(hC3.keep q hlq2 fun e=>by rcases e with e|e;exact hdq e.symm;exact hcq e.symm).trans hq2
 have e0:=hk 0 (by decide) (by decide) (by decide) (by decide)
 have e14:=hk 14 (by decide) (by decide) (by decide) (by decide)
 have e16:=hk 16 (by decide) (by decide) (by decide) (by decide)
 have e17:=hk 17 (by decide) (by decide) (by decide) (by decide)
 simp only[go_sem,seval,h0,h14,h16] at e0 e14 e16 e17
 exact jP (by kernel_rfl) hm3 (ED hD3 hd hp ho hsu hq3 hN hsc hok ixn e0 h10 e14 e16 e17 h18 h19 (hc:=rfl))
end
section
variable {G:Gh}{K K0:Nat→Option Kd}{H H0:List (Option Blk)}{b p q c d m n N:Nat}
theorem MX (hC:Cur K0 H0 (Wk qJ K0) G K H)(hd:K d=some (.dev m n))(hn:n≤8)(ho:G.o d≤1000000){su:Int}{ix fr:BitVec 32}{st:List af}{sec2 nano2 best2:Int}(hsu:su=1∨su=2)(hbest2:best2=1∨best2=2)(hh:K c=some .heard)
  (hq:aa H q=some ⟨false,[.i64 su,.u32 ix,.str st,.i64 sec2,.i64 nano2,.i64 best2],none⟩) (hqn:K q=none) {t:List (Nat×V)}
  (h0:ae t 0= .ptr d 0) (h1:ae t 1= .u32 fr) (h14:ae t 14= .ptr q 0) (h15:ae t 15= .ptr c 0) {r0 r1 r2 s3 s5 s10 r13 s14 c16:Code}
  (hc:Tryz.f62.body=some (.seq r0 (.seq r1 (.seq r2 (.seq s3 (.seq s5 (.seq s10 (.seq r13 (.seq s14 c16))))))))) (hm:H0.length≤H.length):
  GP Tryz.prog H0.length Tryz.f62.ntmps c16 (b8 Tryz.prog Tryz.f62 (EndW K0 H0 (Wk qJ K0) (bC 1 0 bK G))) ⟨t,H⟩:=by
 obtain⟨here,own,pub,seed,best,fresh,secret,index,firsts,now,busy,peers,paths,bucket,out,got,hg,hF⟩:=hC.wt.dev hd
 have hld:=hC.wt.lt hd
 have hlq:=aj hq
 have hdq:d≠q:=fun e=>by subst e;rw[hd] at hqn;cases hqn
 have hcq:c≠q:=fun e=>by subst e;rw[hh] at hqn;cases hqn
 simp only[Tryz.f62,Option.some.injEq,Code.seq.injEq] at hc
 obtain⟨-,-,-,-,-,-,-,-,rfl⟩:=hc
  -- known
 refine eS (by kernel_rfl) hm (ag ?_)
 simp only[go_sem,seval,h0,h14,hq]
 repeat refine aI ?_
 refine aT (ym hC.wt hd (by omega) st) (by kernel_rfl) rfl (by simp[ac,V.low,hld]) hC.wt.sane ?_
 rintro _ G1 K1 H1 hC1 hl1 ⟨rfl,rfl,hv⟩
 have hD1:=hC.callP (W2:=fun _=>False) hC1 fun _ h=>h.elim
 have k1:∀ c,c<H.length→aa H1 c=aa H c:=fun c hc=>hC1.keep c hc fun h=>h
 have hg1:=(k1 d hld).trans hg
 have hq1:=(k1 q hlq).trans hq
 have ret_:∀ (e:Int) (t:List (Nat×V)) (H2:List (Option Blk)),Cur K0 H0 (Wk qJ K0) G1 K1 H2→EndW K0 H0 (Wk qJ K0) (bC 1 0 bK G1) (.i64 e) ⟨t,H2⟩:=fun e t H2 hC=>EndW.of (s:=⟨t,H2⟩) (hC.up (G':=G1) (Nat.zero_le 1) (Nat.le_refl 0) rfl) trivial ⟨rfl,_,rfl⟩
 rcases hv with rfl|⟨p,rfl,hp⟩
 ·simp only[go_sem,seval]
  intro hm1
  refine eS (by kernel_rfl) hm1 (ag ?_)
  simp only[go_sem,seval,h0,h14,hq1,hg1]
  repeat refine aJ ?_
  by_cases hsb:best<su
  ·simp only[go_sem,seval,hsb,decide_true]
   exact ret_ _ _ _ hD1
  ·simp only[go_sem,seval,hsb,decide_false]
   repeat refine aJ ?_
   exact ret_ _ _ _ hD1
 have hlp:=hC1.wt.lt hp
 have hlq1:=aj hq1
 obtain⟨tm,num,qub,psk,at_,kn,pin,stp,sec,nano,ck,un,wv,bg,bi,bt,ol,se,ne,hgq,hQ⟩:=hC1.wt.peer hp
 have hpq:p≠q:=fun e=>by subst e;rw[hqn] at hp;cases hp
 have hpd:p≠d:=fun e=>by subst e;rw[hp] at hd;cases hd
 have hpsk:=hQ.fpsk
 unfold bn at hpsk
 simp only[go_sem,seval]
 intro hm1
 refine eS (by kernel_rfl) hm1 (ag ?_)
 simp only[go_sem,seval,h0,h14,hq1,hg1]
 repeat refine aJ ?_
 by_cases hsb:best<su
 ·simp only[go_sem,seval,hsb,decide_true]
  exact ret_ _ _ _ hD1
 simp only[go_sem,seval,h14,hsb,decide_false,hgq]
 repeat refine aJ ?_
 have go_on:∀ (t2:List (Nat×V)),ae t2 0= .ptr d 0→ae t2 1= .u32 fr→ae t2 14= .ptr q 0→ae t2 15= .ptr c 0→ae t2 16= .ptr p 0→H0.length≤H1.length→_:=fun t2 e0 e1 e14 e15 e16 hm2=>
  MW hD1 hd hp ho hsu hbest2 hh hq1 hqn e0 e1 e14 e15 e16 (hc:=rfl) hm2
 cases stp
 ·simp only[go_sem,seval,h14,hq1,hgq]
  repeat refine aJ ?_
  split
  ·exact ret_ _ _ _ hD1
  ·refine go_on _ ?_ ?_ ?_ ?_ ?_<;>simp only[go_sem,seval,h0,h1,h14,h15]
 ·simp only[go_sem,seval,hq1,hgq]
  repeat refine aJ ?_
  refine aC (Er sec2 nano2 sec nano) ?_
  simp only[go_sem,seval]
  repeat refine aJ ?_
  by_cases hlt:later sec2 nano2 sec nano
  rotate_left
  ·simp only[go_sem,seval,hlt,decide_false,Bool.not_false]
   repeat refine aJ ?_
   exact ret_ _ _ _ hD1
  ·simp only[go_sem,seval,h14,hq1,hgq,hlt,decide_true,Bool.not_true]
   repeat refine aJ ?_
   split
   ·exact ret_ _ _ _ hD1
   ·refine go_on _ ?_ ?_ ?_ ?_ ?_<;>simp only[go_sem,seval,h0,h1,h14,h15]
end
section
variable {G:Gh}{K K0:Nat→Option Kd}{H H0:List (Option Blk)}{b p q c d m n N:Nat}
theorem yW (hC:Cur K0 H0 (Wk qJ K0) G K H)(hd:K d=some (.dev m n))(hn:n≤8)(ho:G.o d≤1000000){fr:BitVec 32}(txt:List af)(hl:txt.length≤1048576){t:List (Nat×V)}
  (h0:ae t 0= .ptr d 0) (h1:ae t 1= .u32 fr) (h8:ae t 8= .str txt) {r0 r1 r2 s3 s5 c10:Code}
  (hc:Tryz.f62.body=some (.seq r0 (.seq r1 (.seq r2 (.seq s3 (.seq s5 c10)))))) (hm:H0.length≤H.length):
  GP Tryz.prog H0.length Tryz.f62.ntmps c10 (b8 Tryz.prog Tryz.f62 (EndW K0 H0 (Wk qJ K0) (bC 1 0 bK G))) ⟨t,H⟩:=by
 obtain⟨here,own,pub,seed,best,fresh,secret,index,firsts,now,busy,peers,paths,bucket,out,got,hg,hF⟩:=hC.wt.dev hd
 have hld:=hC.wt.lt hd
 simp only[Tryz.f62,Option.some.injEq,Code.seq.injEq] at hc
 obtain⟨-,-,-,-,-,rfl⟩:=hc
 have ret_:∀ (e:Int) (t:List (Nat×V)) (K2:Nat→Option Kd) (H2:List (Option Blk)),Cur K0 H0 (Wk qJ K0) G K2 H2→EndW K0 H0 (Wk qJ K0) (bC 1 0 bK G) (.i64 e) ⟨t,H2⟩:=fun e t K2 H2 hC=>EndW.of (s:=⟨t,H2⟩) (hC.up (G':=G) (Nat.zero_le 1) (Nat.le_refl 0) rfl) trivial ⟨rfl,_,rfl⟩
  -- Take
 refine eS (by kernel_rfl) hm (ag ?_)
 simp only[go_sem,seval,h0,h1,hg]
 repeat refine aI ?_
 refine bN (MT hC.wt hF.fbucket fr now) (by kernel_rfl) rfl (by simp[ac,V.low,hC.wt.lt hF.fbucket]) hC.wt.sane ?_
 rintro _ G1 K1 H1 hC1 hl1 ⟨hG1,hK1,e1,rfl⟩
 subst hG1 hK1
 have hD1:=hC.callK hC1 mZ
 simp only[go_sem,seval]
 repeat refine aI ?_
 by_cases he1:e1=0
 rotate_left
 ·simp only[go_sem,seval,he1,not_false_eq_true,decide_true]
  exact ret_ _ _ _ _ hD1
 simp only[go_sem,seval,he1,not_true,decide_false]
 intro hm2
  -- Hear
 obtain⟨here,own,pub,seed,best,fresh,secret,index,firsts,now,busy,peers,paths,bucket,out,got,hg1,hF1⟩:=hC1.wt.dev hd
 have q1:=hF1.fown
 unfold bn at q1
 have hld1:=hC1.wt.lt hd
 refine eS (by kernel_rfl) hm2 (ag ?_)
 simp only[go_sem,seval,h0,h8,hg1]
 repeat refine aI ?_
 refine aT (MU hC1.wt own txt q1 hl) (by kernel_rfl) rfl (by simp[ac,V.low]) hC1.wt.sane ?_
 rintro _ G3 K3 H3 hC3 hl3 ⟨rfl,hx3,hv⟩
 have hD3:=hD1.callP (W2:=fun _=>False) hC3 fun _ h=>h.elim
 have hd3:=hx3 d _ hd
 rcases hv with⟨e,he,rfl⟩|⟨su,ix,st,sec,nano,best2,c,hsu,hb2,hst,rfl,hh⟩
 ·unfold j5
  simp only[go_sem,seval]
  repeat refine aI ?_
  have hD4:=hD3.boxed (zs:=[.i64 0,.u32 0#32,.str [],.i64 0,.i64 0,.i64 0]) (ys:=[.i64 0,.u32 0#32,.str [],.i64 0,.i64 0,.i64 0]) (by simp[ac,V.low]) (by simp[ac,V.low])
  have hb4:=d7 (H:=H3) (x:=some (⟨false,[.i64 0,.u32 0#32,.str [],.i64 0,.i64 0,.i64 0],none⟩:Blk)) (y:=some ⟨false,[.i64 0,.u32 0#32,.str [],.i64 0,.i64 0,.i64 0],none⟩)
  have hlM:((H3++[some (⟨false,[.i64 0,.u32 0#32,.str [],.i64 0,.i64 0,.i64 0],none⟩:Blk)]).set H3.length (some ⟨false,[.i64 0,.u32 0#32,.str [],.i64 0,.i64 0,.i64 0],none⟩)).length=H3.length+1:=by simp
  generalize ((H3++[some (⟨false,[.i64 0,.u32 0#32,.str [],.i64 0,.i64 0,.i64 0],none⟩:Blk)]).set H3.length (some ⟨false,[.i64 0,.u32 0#32,.str [],.i64 0,.i64 0,.i64 0],none⟩))=M at*
  intro hm3
  refine eS (by kernel_rfl) (by show H0.length≤M.length;omega) (ag ?_)
  simp only[go_sem,seval,he,ne_eq,not_false_eq_true,decide_true]
  exact ret_ _ _ _ _ hD4
 ·simp only[go_sem,seval]
  repeat refine aI ?_
  have hD4:=hD3.boxed (zs:=[.i64 0,.u32 0#32,.str [],.i64 0,.i64 0,.i64 0]) (ys:=[.i64 su,.u32 ix,.str st,.i64 sec,.i64 nano,.i64 best2]) (by simp[ac,V.low]) (by simp[ac,V.low])
  have hb4:=d7 (H:=H3) (x:=some (⟨false,[.i64 0,.u32 0#32,.str [],.i64 0,.i64 0,.i64 0],none⟩:Blk)) (y:=some ⟨false,[.i64 su,.u32 ix,.str st,.i64 sec,.i64 nano,.i64 best2],none⟩)
  have hlM:((H3++[some (⟨false,[.i64 0,.u32 0#32,.str [],.i64 0,.i64 0,.i64 0],none⟩:Blk)]).set H3.length (some ⟨false,[.i64 su,.u32 ix,.str st,.i64 sec,.i64 nano,.i64 best2],none⟩)).length=H3.length+1:=by simp
  generalize ((H3++[some (⟨false,[.i64 0,.u32 0#32,.str [],.i64 0,.i64 0,.i64 0],none⟩:Blk)]).set H3.length (some ⟨false,[.i64 su,.u32 ix,.str st,.i64 sec,.i64 nano,.i64 best2],none⟩))=M at*
  intro hm3
  have hqn:K3 H3.length=none:=hC3.wt.fresh (Nat.le_refl _)
  refine eS (by kernel_rfl) (by show H0.length≤M.length;omega) (ag ?_)
  simp only[go_sem,seval]
  intro hm4
  exact MX (fr:=fr) hD4 hd3 hn ho hsu hb2 hh hb4 hqn (by simp only[go_sem,seval,h0]) (by simp only[go_sem,seval,h1]) (by simp only[go_sem,seval]) (by simp only[go_sem,seval]) (hc:=rfl) (by show H0.length≤M.length;omega)
end
section
variable {G:Gh}{K K0:Nat→Option Kd}{H H0:List (Option Blk)}{b p q c d m n N:Nat}
theorem JI (h:WT G K H)(hd:K d=some (.dev m n))(hn:n≤8)(fr:BitVec 32)(x:List af)(hx:x.length≤1048576)(ho:G.o d≤999990):∃ v G' K' H',Done Tryz.prog 62 [.ptr d 0,.u32 fr,.str x] K H (Wk qJ K) v G' K' H'∧bC 1 0 bK G v G' K':=by
 obtain⟨here,own,pub,seed,best,fresh,secret,index,firsts,now,busy,peers,paths,bucket,out,got,hg,hF⟩:=h.dev hd
 have hld:=h.lt hd
 have hC0:=Cur.start (Q:=qJ) h
 have q1:=hF.fpub
 unfold bn at q1
 have ret_:∀ (e:Int) (t:List (Nat×V)) (K2:Nat→Option Kd) (H2:List (Option Blk)),Cur K H (Wk qJ K) G K2 H2→EndW K H (Wk qJ K) (bC 1 0 bK G) (.i64 e) ⟨t,H2⟩:=fun e t K2 H2 hC=>EndW.of (s:=⟨t,H2⟩) (hC.up (G':=G) (Nat.zero_le 1) (Nat.le_refl 0) rfl) trivial ⟨rfl,_,rfl⟩
 refine Gj (W:=Wk qJ K) (Post:=bC 1 0 bK G) (fn:=Tryz.f62) Tryz.func62 rfl (by show 3≤184;decide) ?_
 refine eS (by kernel_rfl) (Nat.le_refl _) (ag ?_)
 simp only[go_sem,seval]
 intro _
 refine eS (by kernel_rfl) (Nat.le_refl _) (ag ?_)
 simp only[go_sem,seval]
 repeat refine aI ?_
 refine aT (uW h hd fr) (by kernel_rfl) rfl (by simp[ac,V.low,hld]) h.sane ?_
 rintro _ G1 K1 H1 hC1 hl1 ⟨hG1,hK1,ck,rfl,hck⟩
 subst hG1 hK1
 have hD1:=hC0.callP (W2:=fun _=>False) hC1 fun _ h=>h.elim
 have hg1:=(hC1.keep d hld fun h=>h).trans hg
 have hld1:=hC1.wt.lt hd
 simp only[go_sem,seval]
 intro hm1
 refine eS (by kernel_rfl) hm1 (ag ?_)
 simp only[go_sem,seval,hg1]
 repeat refine aI ?_
 refine bh (xq pub ck x q1 (by omega) (by omega)) ?_
 rintro _ ⟨o,pr,e,rfl,ho2⟩
 simp only[go_sem,seval]
 intro hm2
 refine eS (by kernel_rfl) hm1 (ag ?_)
 simp only[go_sem,seval]
 by_cases he:e=0
 rotate_left
 ·simp only[go_sem,seval,he,not_false_eq_true,decide_true]
  exact ret_ _ _ _ _ hD1
 simp only[go_sem,seval,he,not_true,decide_false]
 intro hm3
 refine ni (K:=fun s'=>H.length≤s'.H.length→GP _ _ _ _ _ s') ?_ (fun s' q1 q2=>q2 q1)
 refine eS (by kernel_rfl) hm1 (ag ?_)
 simp only[go_sem,seval,hg1]
 repeat refine aI ?_
 cases busy
 ·simp only[go_sem,seval,Bool.false_eq_true]
  intro hm4
  refine sR (b:=false) (by simp only[go_sem,seval]) (jP (by kernel_rfl) hm4 ?_)
  simp only[Bool.false_eq_true,if_false]
  refine ag ?_
  simp only[go_sem]
  intro hm5
  exact yW (fr:=fr) hD1 hd hn (by omega) o (by omega) (by simp only[go_sem,seval]) (by simp only[go_sem,seval]) (by simp only[go_sem,seval]) (hc:=rfl) hm5
 cases pr
 rotate_left
 ·simp only[go_sem,seval,Bool.not_true]
  intro hm4
  refine sR (b:=false) (by simp only[go_sem,seval]) (jP (by kernel_rfl) hm4 ?_)
  simp only[Bool.false_eq_true,if_false]
  refine ag ?_
  simp only[go_sem]
  intro hm5
  exact yW (fr:=fr) hD1 hd hn (by omega) o (by omega) (by simp only[go_sem,seval]) (by simp only[go_sem,seval]) (by simp only[go_sem,seval]) (hc:=rfl) hm5
 simp only[go_sem,seval,Bool.not_false]
 intro hm4
 refine sR (b:=true) (by simp only[go_sem,seval]) ?_
 simp only[if_true]
 refine ni (K:=fun s'=>H.length≤s'.H.length→GP _ _ _ _ _ s') ?_ (fun s' q1 q2=>q2 q1)
 refine ni (K:=fun s'=>H.length≤s'.H.length→GP _ _ _ _ _ s') ?_ (fun s' q1 q2=>q2 q1)
 refine JG hC1.wt hd hg1 ck x (by simp only[go_sem,seval]) (by simp only[go_sem,seval]) (by simp only[go_sem,seval]) (hc:=rfl) hm4 q1 (by omega) (by omega) ?_
 intro r e6 H2 t1 hr hr0 hC2 e0 e1 e11 e12 hm5
 have hD2:=hD1.callP hC2 (fun c e=>by subst e;exact⟨_,hd,.inr (.inr trivial)⟩)
 simp only[go_sem,seval] at e1
 refine jP (by kernel_rfl) hm5 (ag ?_)
 simp only[go_sem,seval,e0,e1,e11,e12]
 by_cases h6:e6=0
 ·simp only[go_sem,seval,h6,decide_true]
  repeat refine aI ?_
  refine aT (pg hC2.wt hd fr r (by omega) (hr0 h6) (by omega)) (by kernel_rfl) rfl (by simp[ac,V.low,hC2.wt.lt hd]) hC2.wt.sane ?_
  rintro _ G7 K7 H7 hC7 hl7 ⟨hG7,rfl⟩
  have hD7:=hD2.callK hC7 (fun k hk=>mZ k (yq k hk))
  simp only[go_sem]
  intro hm6
  refine jP (by kernel_rfl) hm6 (ag ?_)
  simp only[go_sem,seval]
  exact EndW.of hD7 trivial ⟨hG7,_,rfl⟩
 ·simp only[go_sem,seval,h6,decide_false]
  intro hm6
  refine jP (by kernel_rfl) hm6 (ag ?_)
  simp only[go_sem,seval]
  exact ret_ _ _ _ _ hD2
end
section
variable {G:Gh}{K:Nat→Option Kd}{H:List (Option Blk)}{b p d m n:Nat}
theorem MY (h:WT G K H)(hd:K d=some (.dev m n))(hn:n≤8)(fr:BitVec 32)(x:List af)(hx:x.length≤1048000)(ho:G.o d≤999990)(hgb:G.g d≤999000):∃ v G' K' H',Done Tryz.prog 65 [.ptr d 0,.u32 fr,.str x] K H (Wk qA K) v G' K' H'∧bC 4 1 bK G v G' K':=by
 obtain⟨here,own,pub,seed,best,fresh,secret,index,firsts,now,busy,peers,paths,bucket,out,got,hg,hF⟩:=h.dev hd
 have hld:=h.lt hd
 have hC0:=Cur.start (Q:=qA) h
 have none_:∀ e:Int,∀ t,EndW K H (Wk qA K) (bC 4 1 bK G) (.i64 e) ⟨t,H⟩:=fun e t=>EndW.of (s:=⟨t,H⟩) (hC0.up (G':=G) (Nat.zero_le 4) (Nat.zero_le 1) rfl) trivial ⟨rfl,_,rfl⟩
 refine bE (W:=Wk qA K) (Post:=bC 4 1 bK G) (by kernel_rfl) (fn:=Tryz.f65) Tryz.func65 rfl (by show 3≤77;decide) (ag ?_)
 simp -implicitDefEqProofs only[go_sem,↓reduceIte,Nat.reduceEqDiff,Nat.reduceLT,Nat.reduceAdd,Int.reduceLE,Int.reduceToNat,reduceCtorEq]
 by_cases h30:(x.length:Int)<30
 ·simp -implicitDefEqProofs only[go_sem,↓reduceIte,h30,decide_true]
  exact none_ _ _
 simp -implicitDefEqProofs only[go_sem,↓reduceIte,h30,decide_false]
 repeat refine aI ?_
 by_cases hz:x.getD 1 0=0#8
 rotate_left
 ·refine ak (dF ((x.take 14).drop 6) (by simp;omega)) ?_
  simp -implicitDefEqProofs only[go_sem,↓reduceIte,Nat.reduceEqDiff,Nat.reduceLT,Int.reduceLE,Int.reduceLT,Int.reduceToNat,BitVec.reduceOfInt,reduceCtorEq,hz,ne_eq,not_false_eq_true,decide_true]
  repeat refine aI ?_
  exact none_ _ _
 refine ak (dF ((x.take 14).drop 6) (by simp;omega)) ?_
 simp -implicitDefEqProofs only[go_sem,↓reduceIte,Nat.reduceEqDiff,Nat.reduceLT,Int.reduceLE,Int.reduceLT,Int.reduceToNat,BitVec.reduceOfInt,reduceCtorEq,hz,ne_eq,not_true,decide_false]
 repeat refine aI ?_
 generalize BitVec.ofNat 64 (le (List.take 8 (List.drop 6 (List.take 14 x))))=no
 by_cases ht:1099511627776#64<no
 ·simp -implicitDefEqProofs only[go_sem,↓reduceIte,ht,decide_true]
  repeat refine aI ?_
  exact none_ _ _
 simp -implicitDefEqProofs only[go_sem,↓reduceIte,ht,decide_false]
 repeat refine aI ?_
 refine ak (dF ((x.take 6).drop 2) (by simp;omega)) ?_
 simp -implicitDefEqProofs only[go_sem,↓reduceIte,Nat.reduceLT,Nat.reduceAdd,reduceCtorEq,hg]
 repeat refine aI ?_
 generalize BitVec.setWidth 32 (BitVec.ofNat 64 (le (List.take 8 (List.drop 2 (List.take 6 x)))))=ix
 have opt1:∀ {K':Nat→Option Kd} {v:V},fieldOk K' (.opt .ses) v→v.cells=[v]∧v.solid=true:=fun h=>by
  rcases h with rfl|⟨c,rfl,-⟩<;>exact⟨rfl,rfl⟩
 have hps:=hF.fpeers
 rcases hps with⟨rfl,rfl⟩|⟨a,rfl,hn0,ha⟩
 ·simp -implicitDefEqProofs only[go_sem,Nat.reduceLT]
  repeat refine aI ?_
  refine bI 1 ?_
  simp -implicitDefEqProofs only[go_sem,↓reduceIte,Nat.reduceLT,Nat.reduceSub,Int.reduceLT]
  exact none_ _ _
 obtain⟨cs,hga,hr⟩:=h.row ha rfl
 have hlen:=hY hr
 have hla:=h.lt ha
 simp -implicitDefEqProofs only[go_sem,Nat.reduceLT]
 repeat refine aI ?_
 refine aH (fun j st=>∃ (i:Nat) (Hi:List (Option Blk)),i+j=n∧Cur K H (Wk qA K) G K Hi∧(∀ c,c<H.length→aa Hi c=aa H c)∧st=⟨[(0,.ptr d 0),(1,.u32 fr),(2,.str x),(7,.u64 no),(8,.u32 ix),(33,.slice a 0 n 1),(34,.i64 n),(35,.i64 i)],Hi⟩) ?_ ?_
 ·exact aX n ⟨[(0,.ptr d 0),(1,.u32 fr),(2,.str x),(7,.u64 no),(8,.u32 ix),(33,.slice a 0 n 1),(34,.i64 n),(35,.i64 (0:Nat))],H⟩ (by simp[St.get,ae]) rfl (fun _ _ h=>h) ⟨0,H,by omega,hC0,fun _ _=>rfl,rfl⟩
 rintro j st ⟨i,Hi,hij,hCi,hki,rfl⟩-
 by_cases hi:i<n
 rotate_left
 ·have hi':¬ (i:Int)<n:=by omega
  simp -implicitDefEqProofs only[go_sem,↓reduceIte,Nat.reduceEqDiff,Nat.reduceLT,reduceCtorEq,hi']
  exact EndW.of (hCi.up (G':=G) (Nat.zero_le 4) (Nat.zero_le 1) rfl) trivial ⟨rfl,_,rfl⟩
 have hi':(i:Int)<n:=by omega
 have hw1:=cd (i:=i) (by omega)
 obtain⟨q,hq,hqK⟩:=jJ hr hi
 have hgai:=(hki a hla).trans hga
 obtain⟨tm,num,qub,psk,at_,kn,pin,stp,sec,nano,ck,un,wv,bg,bi,bt,ol,se,ne,hgq,hQ⟩:=hCi.wt.peer hqK
 obtain⟨e1,e2⟩:=opt1 hQ.fsession
 obtain⟨e3,e4⟩:=opt1 hQ.fold
 obtain⟨e5,e6⟩:=opt1 hQ.fnext
 simp -implicitDefEqProofs only[go_sem,↓reduceIte,Nat.reduceEqDiff,Nat.reduceLT,Nat.reduceLeDiff,Nat.reduceAdd,reduceCtorEq,hi',hgai,hq,hgq,hlen,↓e1,↓e2,↓e3,↓e4,↓e5,↓e6]
 repeat refine aI ?_
 have hrow:Row K (aU 3 [.opt .ses]) [se,ol,ne]:=⟨hQ.fsession,hQ.fold,hQ.fnext,trivial⟩
 have hCm:=hCi.junk (vs:=[se,ol,ne]) (mm:=none) (gw (Nat.le_succ _) _ (Row.low hCi.wt.klt hrow))
 have hgl:=d9 Hi (some (⟨false,[se,ol,ne],none⟩:Blk)) []
 have hkm:∀ c,c<H.length→aa (Hi++[some (⟨false,[se,ol,ne],none⟩:Blk)]) c=aa H c:=fun c hc=>(bW (Nat.lt_of_lt_of_le hc hCi.len) _).trans (hki c hc)
 generalize Hi.length=N at*
 generalize [se,ol,ne]=L at*
 generalize Hi++[some (⟨false,L,none⟩:Blk)]=M at*
 have hL:=hY hrow
 refine aH (fun jj st=>∃ k:Nat,k+jj=3∧st=⟨[(10,.ptr q 0),(0,.ptr d 0),(1,.u32 fr),(2,.str x),(7,.u64 no),(8,.u32 ix),(33,.slice a 0 n 1),(34,.i64 n),(35,.i64 i),(51,.slice N 0 3 1),(52,.i64 3),(53,.i64 k)],M⟩) ?_ ?_
 ·exact aX 3 ⟨[(10,.ptr q 0),(0,.ptr d 0),(1,.u32 fr),(2,.str x),(7,.u64 no),(8,.u32 ix),(33,.slice a 0 n 1),(34,.i64 n),(35,.i64 i),(51,.slice N 0 3 1),(52,.i64 3),(53,.i64 (0:Nat))],M⟩ (by simp[St.get,ae]) rfl (fun _ _ h=>h) ⟨0,by omega,rfl⟩
 rintro jj st ⟨k,hkj,rfl⟩-
 by_cases hk:k<3
 rotate_left
 ·have hk':¬ (k:Int)<3:=by omega
  simp -implicitDefEqProofs only[go_sem,↓reduceIte,Nat.reduceEqDiff,Nat.reduceLT,reduceCtorEq,hk']
  exact aS (j-1) ⟨[(0,.ptr d 0),(1,.u32 fr),(2,.str x),(7,.u64 no),(8,.u32 ix),(33,.slice a 0 n 1),(34,.i64 n),(35,.i64 (i+1:Nat))],M⟩ (by omega) (by simp[St.get,ae,hw1]) rfl (fun _ _ h=>h) ⟨i+1,M,by omega,hCm,hkm,rfl⟩
 have hk':(k:Int)<3:=by omega
 have hw2:=cd (i:=k) (by omega)
 rcases jJ hrow hk with hv|⟨c,hv,hc⟩
 ·simp -implicitDefEqProofs only[go_sem,↓reduceIte,Nat.reduceEqDiff,Nat.reduceLT,reduceCtorEq,hk',hgl,hv,hL]
  repeat refine aI ?_
  exact aS (jj-1) ⟨[(10,.ptr q 0),(0,.ptr d 0),(1,.u32 fr),(2,.str x),(7,.u64 no),(8,.u32 ix),(33,.slice a 0 n 1),(34,.i64 n),(35,.i64 i),(51,.slice N 0 3 1),(52,.i64 3),(53,.i64 (k+1:Nat))],M⟩ (by omega) (by simp[St.get,ae,hw2]) rfl (fun _ _ h=>h) ⟨k+1,by omega,rfl⟩
 obtain⟨pc,su,mine,theirs,hgc,hX⟩:=hCm.wt.ses hc
 by_cases hm:mine=ix
 ·simp -implicitDefEqProofs only[go_sem,↓reduceIte,Nat.reduceEqDiff,Nat.reduceLT,Nat.reduceAdd,Int.reduceLE,Int.reduceToNat,reduceCtorEq,hk',hgl,hv,hL,hgc,hm,decide_true]
  repeat refine aI ?_
  refine aT (JD hCm.wt hqK hc _ _ (by simp;omega) fr ho hgb) (by kernel_rfl) rfl (by simp[ac,V.low,hCm.wt.lt hqK,hCm.wt.lt hc]) hCm.wt.sane ?_
  rintro _ G2 K2 H2 hC2 hl2 ⟨rfl,u,rfl⟩
  simp -implicitDefEqProofs only[go_sem,↓reduceIte,Nat.reduceLT]
  exact EndW.of (hCm.callK hC2 fun _ h=>h) trivial ⟨rfl,_,rfl⟩
 ·simp -implicitDefEqProofs only[go_sem,↓reduceIte,Nat.reduceEqDiff,Nat.reduceLT,Nat.reduceAdd,reduceCtorEq,hk',hgl,hv,hL,hgc,hm,decide_false]
  repeat refine aI ?_
  exact aS (jj-1) ⟨[(10,.ptr q 0),(0,.ptr d 0),(1,.u32 fr),(2,.str x),(7,.u64 no),(8,.u32 ix),(33,.slice a 0 n 1),(34,.i64 n),(35,.i64 i),(51,.slice N 0 3 1),(52,.i64 3),(53,.i64 (k+1:Nat))],M⟩ (by omega) (by simp[St.get,ae,hw2]) rfl (fun _ _ h=>h) ⟨k+1,by omega,rfl⟩
end
section
variable {G:Gh}{K:Nat→Option Kd}{H:List (Option Blk)}{d m n:Nat}
def Gh.noO (G:Gh)(d:Nat):Gh:=⟨fun x=>if x=d then 0 else G.o x,G.g⟩
def Gh.noG (G:Gh)(d:Nat):Gh:=⟨G.o,fun x=>if x=d then 0 else G.g x⟩
theorem Py (h:WT G K H)(hd:K d=some (.dev m n)):∃ v G' K' H',Done Tryz.prog 14 [.ptr d 0] K H (fun c=>c=d) v G' K' H'∧(G'=G.noO d∧K'=K∧fieldOk K (.sl (.out d) 3 (G.o d)) v):=by
 obtain⟨here,own,pub,seed,best,fresh,secret,index,firsts,now,busy,peers,paths,bucket,out,got,hg,hF⟩:=h.dev hd
 have hlt:=h.lt hd
 refine bE (W:=fun c=>c=d) (Post:=fun v G' K'=>G'=G.noO d∧K'=K∧fieldOk K (.sl (.out d) 3 (G.o d)) v) (by kernel_rfl) (fn:=Tryz.f14) Tryz.func14 rfl (by show 1≤11;decide) (ag ?_)
 simp only[go_sem,seval,hg]
 repeat refine aI ?_
 refine EndW.of ((Cur.refl h _).putG (G':=G.noO d) hd rfl (fun _=>rfl) (fun c hc=>⟨by show G.o c≤if c=d then 0 else G.o c;rw[if_neg hc];exact Nat.le_refl _,Nat.le_refl _⟩) (DevF.row (hF.growOut (G':=G.noO d) (fun _ _ _ e=>e) (Nat.le_refl _) (.inl rfl)))) ?_ ⟨rfl,rfl,hF.fout⟩
 show V.low (List.length (H.set d _)) _
 rw[List.length_set]
 exact fieldOk.low h.klt hF.fout
theorem Pz (h:WT G K H)(hd:K d=some (.dev m n)):∃ v G' K' H',Done Tryz.prog 15 [.ptr d 0] K H (fun c=>c=d) v G' K' H'∧(G'=G.noG d∧K'=K∧fieldOk K (.sl (.got d) 3 (G.g d)) v):=by
 obtain⟨here,own,pub,seed,best,fresh,secret,index,firsts,now,busy,peers,paths,bucket,out,got,hg,hF⟩:=h.dev hd
 have hlt:=h.lt hd
 refine bE (W:=fun c=>c=d) (Post:=fun v G' K'=>G'=G.noG d∧K'=K∧fieldOk K (.sl (.got d) 3 (G.g d)) v) (by kernel_rfl) (fn:=Tryz.f15) Tryz.func15 rfl (by show 1≤11;decide) (ag ?_)
 simp only[go_sem,seval,hg]
 repeat refine aI ?_
 refine EndW.of ((Cur.refl h _).putG (G':=G.noG d) hd rfl (fun _=>rfl) (fun c hc=>⟨Nat.le_refl _,by show G.g c≤if c=d then 0 else G.g c;rw[if_neg hc];exact Nat.le_refl _⟩) (DevF.row (hF.growGot (G':=G.noG d) (fun _ _ _ e=>e) (Nat.le_refl _) (.inl rfl)))) ?_ ⟨rfl,rfl,hF.fgot⟩
 show V.low (List.length (H.set d _)) _
 rw[List.length_set]
 exact fieldOk.low h.klt hF.fgot
end
section
variable {G:Gh}{K:Nat→Option Kd}{H:List (Option Blk)}{b p d m n:Nat}
theorem JJ (h:WT G K H)(hd:K d=some (.dev m n))(hn:n≤8)(fr:BitVec 32)(x:List af)(hx:x.length≤1048576):∃ v G' K' H',Done Tryz.prog 64 [.ptr d 0,.u32 fr,.str x] K H (Wk qA K) v G' K' H'∧bC 0 0 bK G v G' K':=by
 obtain⟨here,own,pub,seed,best,fresh,secret,index,firsts,now,busy,peers,paths,bucket,out,got,hg,hF⟩:=h.dev hd
 have hld:=h.lt hd
 have hC0:=Cur.start (Q:=qA) h
 refine bE (W:=Wk qA K) (Post:=bC 0 0 bK G) (by kernel_rfl) (fn:=Tryz.f64) Tryz.func64 rfl (by show 3≤47;decide) (ag ?_)
 simp only[go_sem,seval]
 by_cases h6:(x.length:Int)<6
 ·simp only[go_sem,seval,h6,decide_true]
  exact EndW.of hC0 trivial ⟨rfl,_,rfl⟩
 simp only[go_sem,seval,h6,decide_false]
 repeat refine aI ?_
 refine aT (ww h hd (by omega) ((x.take 6).drop 2) (by simp;omega) (by simp;omega)) (by kernel_rfl) rfl (by simp[ac,V.low,hld]) h.sane ?_
 rintro _ G1 K1 H1 hC1 hl1 ⟨rfl,rfl,hv⟩
 have hD1:=hC0.callP (W2:=fun _=>False) hC1 fun _ h=>h.elim
 have k1:∀ c,c<H.length→aa H1 c=aa H c:=fun c hc=>hC1.keep c hc fun h=>h
 rcases hv with rfl|⟨p,rfl,hp,-⟩
 ·simp only[go_sem,seval]
  exact EndW.of hD1 trivial ⟨rfl,_,rfl⟩
 obtain⟨tm,num,qub,psk,at_,kn,pin,stp,sec,nano,ck,un,wv,bg,bi,bt,ol,se,ne,hgq,hQ⟩:=hC1.wt.peer hp
 have hg1:=(k1 d hld).trans hg
 have hlp:=hC1.wt.lt hp
 have hpd:p≠d:=fun e=>by subst e;rw[hp] at hd;cases hd
 have q1:=hQ.fpub
 have q2:=hQ.fbtext
 unfold bn at q2
 simp only[go_sem,seval,hgq]
 repeat refine aI ?_
 refine dN (Ew qub bt x (by omega) (by omega) (by omega)) ?_
 rintro _ ⟨c,e,rfl,hc,hc16⟩
 simp only[go_sem,seval]
 repeat refine aI ?_
 by_cases h0:e=0
 ·subst h0
  simp only[go_sem,seval,hgq,hg1,decide_true,aW hlp]
  repeat refine aI ?_
  exact EndW.of ((hD1.putK hp rfl trivial (PeerF.row (num:=num) (at_:=at_) (stamped:=stp) (sec:=sec) (nano:=nano) (until_:=un) (bindex:=bi) (cookie:=c) {hQ with fcookie:= .inr (hc16 rfl)})).putK hp rfl trivial (PeerF.row (num:=num) (at_:=at_) (stamped:=stp) (sec:=sec) (nano:=nano) (until_:=ai (now+120)) (bindex:=bi) (cookie:=c) {hQ with fcookie:= .inr (hc16 rfl)})) trivial ⟨rfl,_,rfl⟩
 ·simp only[go_sem,seval,h0,decide_false]
  exact EndW.of hD1 trivial ⟨rfl,_,rfl⟩
end
section
variable {G:Gh}{K:Nat→Option Kd}{H:List (Option Blk)}{b p d m n:Nat}
theorem Rz (h:WT G K H)(hd:K d=some (.dev m n))(hn:n≤8)(fr:BitVec 32)(x:List af)(hx:x.length≤1000000)(ho:G.o d≤999900)(hgb:G.g d≤999000):∃ v G' K' H',Done Tryz.prog 43 [.ptr d 0,.u32 fr,.str x] K H (Wk qJ K) v G' K' H'∧bC 5 1 bK G v G' K':=by
 have hld:=h.lt hd
 have hC0:=Cur.start (Q:=qJ) h
 refine bE (W:=Wk qJ K) (Post:=bC 5 1 bK G) (by kernel_rfl) (fn:=Tryz.f43) Tryz.func43 rfl (by show 3≤30;decide) (ag ?_)
 simp -implicitDefEqProofs only[go_sem,↓reduceIte,Nat.reduceEqDiff,Nat.reduceLT,Nat.reduceLeDiff,Nat.reduceAdd,Int.reduceToNat,reduceCtorEq]
 by_cases hx0:x=[]
 ·simp -implicitDefEqProofs only[go_sem,↓reduceIte,hx0,decide_true]
  exact EndW.of (hC0.up (G':=G) (Nat.zero_le 5) (Nat.zero_le 1) rfl) trivial ⟨rfl,_,rfl⟩
 simp -implicitDefEqProofs only[go_sem,↓reduceIte,hx0,decide_false]
 repeat refine aI ?_
 have hx1:0<x.length:=by
  rcases x with _|⟨a,l⟩
  ·exact absurd rfl hx0
  ·simp
 have hx2:(0:Int)<x.length:=by omega
 have hJ:=hC0.boxed (zs:=[.nilFn,.nilFn,.nilFn,.nilFn,.nilFn]) (ys:=[.nilFn,.fn 62 [] [],.fn 63 [] [],.fn 64 [] [],.fn 65 [] []]) (by simp[ac,V.low]) (by simp[ac,V.low])
 have hlM:((H++[some (⟨false,[.nilFn,.nilFn,.nilFn,.nilFn,.nilFn],none⟩:Blk)]).set H.length (some ⟨false,[.nilFn,.fn 62 [] [],.fn 63 [] [],.fn 64 [] [],.fn 65 [] []],none⟩)).length=H.length+1:=by simp
 by_cases h5:(5:Int)≤((x.getD 0 0).toNat:Int)
 ·simp -implicitDefEqProofs only[go_sem,↓reduceIte,Nat.reduceLT,h5,hx2,not_true]
  repeat refine aI ?_
  exact EndW.of (hJ.up (G':=G) (Nat.zero_le 5) (Nat.zero_le 1) rfl) trivial ⟨rfl,_,rfl⟩
 have hc:(x.getD 0 0).toNat=0∨(x.getD 0 0).toNat=1∨(x.getD 0 0).toNat=2∨(x.getD 0 0).toNat=3∨(x.getD 0 0).toNat=4:=by omega
 have hld2:d<H.length+1:=by omega
 rcases hc with e|e|e|e|e
 ·simp -implicitDefEqProofs only[go_sem,↓reduceIte,Nat.reduceEqDiff,Nat.reduceLT,Nat.reduceAdd,Int.reduceLE,Int.reduceLT,hx2,e,d7]
  repeat refine aI ?_
  exact EndW.of (hJ.up (G':=G) (Nat.zero_le 5) (Nat.zero_le 1) rfl) trivial ⟨rfl,_,rfl⟩
 ·simp -implicitDefEqProofs only[go_sem,↓reduceIte,Nat.reduceEqDiff,Nat.reduceLT,Nat.reduceAdd,Int.reduceLE,Int.reduceLT,Int.reduceToNat,reduceCtorEq,hx2,e,d7]
  repeat refine aI ?_
  refine aT (JI hJ.wt hd hn fr x (by omega) (by omega)) (by kernel_rfl) rfl (by simp[ac,V.low,hld2]) hJ.wt.sane ?_
  rintro _ G1 K1 H1 hC1 hl1 ⟨rfl,e1,rfl⟩
  simp -implicitDefEqProofs only[go_sem,↓reduceIte,Nat.reduceLT]
  exact EndW.of ((hJ.callK hC1 fun _ h=>h).up (G':=G) (show 1≤5 by omega) (Nat.zero_le 1) rfl) trivial ⟨rfl,_,rfl⟩
 ·simp -implicitDefEqProofs only[go_sem,↓reduceIte,Nat.reduceEqDiff,Nat.reduceLT,Nat.reduceAdd,Int.reduceLE,Int.reduceLT,Int.reduceToNat,reduceCtorEq,hx2,e,d7]
  repeat refine aI ?_
  refine aT (Gg hJ.wt hd hn fr x (by omega) (by omega)) (by kernel_rfl) rfl (by simp[ac,V.low,hld2]) hJ.wt.sane ?_
  rintro _ G1 K1 H1 hC1 hl1 ⟨rfl,e1,rfl⟩
  simp -implicitDefEqProofs only[go_sem,↓reduceIte,Nat.reduceLT]
  exact EndW.of ((hJ.callK hC1 JH).up (G':=G) (Nat.le_refl 5) (Nat.zero_le 1) rfl) trivial ⟨rfl,_,rfl⟩
 ·simp -implicitDefEqProofs only[go_sem,↓reduceIte,Nat.reduceEqDiff,Nat.reduceLT,Nat.reduceAdd,Int.reduceLE,Int.reduceLT,Int.reduceToNat,reduceCtorEq,hx2,e,d7]
  repeat refine aI ?_
  refine aT (JJ hJ.wt hd hn fr x (by omega)) (by kernel_rfl) rfl (by simp[ac,V.low,hld2]) hJ.wt.sane ?_
  rintro _ G1 K1 H1 hC1 hl1 ⟨rfl,e1,rfl⟩
  simp -implicitDefEqProofs only[go_sem,↓reduceIte,Nat.reduceLT]
  exact EndW.of ((hJ.callK hC1 mZ).up (G':=G) (Nat.zero_le 5) (Nat.zero_le 1) rfl) trivial ⟨rfl,_,rfl⟩
 ·simp -implicitDefEqProofs only[go_sem,↓reduceIte,Nat.reduceEqDiff,Nat.reduceLT,Nat.reduceAdd,Int.reduceLE,Int.reduceLT,Int.reduceToNat,reduceCtorEq,hx2,e,d7]
  repeat refine aI ?_
  refine aT (MY hJ.wt hd hn fr x (by omega) (by omega) hgb) (by kernel_rfl) rfl (by simp[ac,V.low,hld2]) hJ.wt.sane ?_
  rintro _ G1 K1 H1 hC1 hl1 ⟨rfl,e1,rfl⟩
  simp -implicitDefEqProofs only[go_sem,↓reduceIte,Nat.reduceLT]
  exact EndW.of ((hJ.callK hC1 mZ).up (G':=G) (show 4≤5 by omega) (Nat.le_refl 1) rfl) trivial ⟨rfl,_,rfl⟩
end
section
variable {G:Gh}{K K0:Nat→Option Kd}{H H0:List (Option Blk)}{a b c p q d m n M l s N:Nat}{xs:List Nat}{cs:List V}
structure LkInv (G:Gh) (K:Nat→Option Kd) (l:Nat) (xs:List Nat) (N:Nat):Prop where
 link:K l=some (.link xs)
 node:∀ x∈xs,∃ c m,K x=some (.node c m)∧K c=some (.dev m m)∧m≤8∧G.o c=0∧G.g c=0∧G.g x≤N
theorem sq {s:List af}:∀ {n A:Nat} {cs:List V},Row K (aU n gramF) cs→A<n→s.length≤1000000∧0<s.length→Row K (aU n gramF) (cs.set (A*3+2) (.str s))
 |0,_,_,_,h,_=>by omega
 |n+1,A,cs,hr,hA,hs=>by
  rw[aU] at hr ⊢
  match cs,hr with
  |v0::v1::v2::vs,⟨g0,g1,g2,hr⟩=>
   cases A with
   |zero=>exact⟨g0,g1,⟨s,rfl,hs.1,hs.2⟩,hr⟩
   |succ A=>
    have :=sq (A:=A) hr (by omega) hs
    rw[show(A+1)*3+2=A*3+2+1+1+1 by omega]
    exact⟨g0,g1,g2,this⟩
theorem oY {H:List (Option Blk)}{b a:Nat}{X:List (Option Blk)}{x:Option Blk}(h:b<H.length)(hne:a≠b):aa (H.set a x++X) b=aa H b:=by
 rw[bW (by rw[List.length_set];exact h),aP hne]
def ud (kind A B C:Int)(src dst:BitVec 32)(txt:List af):List V:=[.i64 kind,.i64 A,.i64 B,.i64 C,.u32 src,.u32 dst,.str txt]
theorem EE (h:WT G K H)(hI:LkInv G K l xs N){nodes:V}(hg:aa H l=some ⟨false,[nodes,.slice a 0 n 3],none⟩)(kind B C:Int)(A:Nat)(hA:A<n)(src dst:BitVec 32)(txt:List af):
  ∃ v G' K' H',Done Tryz.prog 26 [.ptr l 0,.agg [.i64 kind,.i64 A,.i64 B,.i64 C,.u32 src,.u32 dst,.str txt]] K H (bF K) v G' K' H'∧bC 5 1 bK G v G' K':=by
 have hl:=hI.link
 have hF:=h.linkF hl hg
 obtain⟨hn60,ha⟩:n≤60∧K a=some (.air l n):=by
  rcases hF.fair with e|⟨a',n',e,h1,h2⟩
  ·cases e
  ·cases e;exact⟨h1,h2⟩
 obtain⟨cs,hga,hr⟩:=h.row ha rfl
 have hlen:=jO hr
 have hgr:=m7 hr hA
 have hrow:∃ (fr tg:BitVec 32) (tx:List af),(cs.drop (A*3)).take 3=[.u32 fr,.u32 tg,.str tx]∧tx.length≤1000000∧0<tx.length:=by
  have e3:gramF.length=3:=rfl
  rw[e3] at hgr
  generalize (cs.drop (A*3)).take 3=r at hgr
  match r,hgr with
  |[v0,v1,v2],⟨⟨f,e0⟩,⟨t,e1⟩,⟨s,e2,h1,h2⟩,_⟩=>exact⟨f,t,s,by rw[e0,e1,e2],h1,h2⟩
 obtain⟨fr,tg,tx,hcell,htx,htx0⟩:=hrow
 have hll:=h.lt hl
 have hla:=h.lt ha
 have hne:a≠l:=fun e=>by subst e;rw[hl] at ha;cases ha
 have hC0:=(Cur.refl h (bF K)).junk (vs:=ud kind A B C src dst txt) (mm:=none) (by simp[ud,ac,V.low])
 unfold ud at hC0
 have hA1:(0:Int)≤(A:Int):=by omega
 have hA2:(A:Int)<(n:Int):=by omega
 have hA3:A*3+3≤n*3:=by omega
 have hz:H.length+1<(H++[some (⟨false,[.i64 kind,.i64 A,.i64 B,.i64 C,.u32 src,.u32 dst,.str txt],none⟩:Blk)]++[some (⟨false,[.u32 0#32,.u32 0#32,.str []],none⟩:Blk)]).length:=by simp
 refine bE (W:=bF K) (Post:=bC 5 1 bK G) (by kernel_rfl) (fn:=Tryz.f26) Tryz.func26 rfl (by show 2≤118;decide) (ag ?_)
 simp only[go_sem,seval,hg,dH hll,dH hla,hga,hcell,hlen,dm]
 repeat refine aI ?_
 have hll1:l<H.length+1:=by omega
 have hla1:a<H.length+1:=by omega
 have hN1:H.length<H.length+1:=by omega
 refine And.intro ?_ ?_
 ·refine co (cM (H.length+1)) [([],[]),([],[]),([],[]),([0],[]),([],[]),([0],[]),([],[]),([0],[]),([],[1]),([0,1],[0,1])] (by kernel_rfl) (by simp only[cC,cD,cE,eH,all_cons,j6,ce hll1,ce hla1,ce hN1,cT,fa,and_true])
 have hl0:(H++[some (⟨false,[.i64 kind,.i64 A,.i64 B,.i64 C,.u32 src,.u32 dst,.str txt],none⟩:Blk)]).length=H.length+1:=by simp
 have hD1:=hC0.boxed (zs:=[.u32 0#32,.u32 0#32,.str []]) (ys:=[.u32 fr,.u32 tg,.str tx]) (by simp[ac,V.low]) (by simp[ac,V.low])
 have aset:=fun(x:Nat) (hx:x<H.length+1)=>dt (H:=H++[some (⟨false,[.i64 kind,.i64 A,.i64 B,.i64 C,.u32 src,.u32 dst,.str txt],none⟩:Blk)]) (x:=some (⟨false,[.u32 0#32,.u32 0#32,.str []],none⟩:Blk)) (y:=some ⟨false,[.u32 fr,.u32 tg,.str tx],none⟩) (c:=x) (by rw[hl0];exact hx)
 have hgT:=(aset l hll1).trans ((dH hll).trans hg)
 have hgaT:=(aset a hla1).trans ((dH hla).trans hga)
 have hact:=(aset H.length hN1).trans dm
 have hb:=d7 (H:=H++[some (⟨false,[.i64 kind,.i64 A,.i64 B,.i64 C,.u32 src,.u32 dst,.str txt],none⟩:Blk)]) (x:=some (⟨false,[.u32 0#32,.u32 0#32,.str []],none⟩:Blk)) (y:=some ⟨false,[.u32 fr,.u32 tg,.str tx],none⟩)
 have hlT:((H++[some (⟨false,[.i64 kind,.i64 A,.i64 B,.i64 C,.u32 src,.u32 dst,.str txt],none⟩:Blk)]++[some (⟨false,[.u32 0#32,.u32 0#32,.str []],none⟩:Blk)]).set (H++[some (⟨false,[.i64 kind,.i64 A,.i64 B,.i64 C,.u32 src,.u32 dst,.str txt],none⟩:Blk)]).length (some ⟨false,[.u32 fr,.u32 tg,.str tx],none⟩)).length=H.length+2:=by simp
 rw[hl0] at hD1 hgT hgaT hact hb hlT
 clear aset
 generalize ((H++[some (⟨false,[.i64 kind,.i64 A,.i64 B,.i64 C,.u32 src,.u32 dst,.str txt],none⟩:Blk)]++[some (⟨false,[.u32 0#32,.u32 0#32,.str []],none⟩:Blk)]).set (H.length+1) (some ⟨false,[.u32 fr,.u32 tg,.str tx],none⟩))=T at*
 have hKN:K H.length=none:=h.fresh (Nat.le_refl _)
 have hKN1:K (H.length+1)=none:=h.fresh (by omega)
 simp only[go_sem,seval,hact]
 repeat refine aI ?_
 have hllT:l<T.length:=by omega
 have hlaT:a<T.length:=by omega
 have hlN:H.length<T.length:=by omega
 have hlN1:H.length+1<T.length:=by omega
 obtain⟨o1,o2,o3⟩:=lp hr
 by_cases h5:kind=5
 ·simp only[go_sem,seval,h5,decide_true,hgT]
  repeat refine aI ?_
  split
  ·exact EndW.of (hD1.up (G':=G) (Nat.zero_le 5) (Nat.zero_le 1) rfl) trivial ⟨rfl,_,rfl⟩
  rename_i hn
  simp only[go_sem,seval,hb,hgT,hgaT,dH hlaT,gD hllT hne,List.drop_zero,List.take_of_length_le (show cs.length≤n*3 by omega)]
  repeat refine aI ?_
  refine And.intro ?_ ?_
  ·refine co (cU a T.length) [([],[]),([],[]),([],[]),([],[]),([0],[]),([0],[]),([],[1]),([1,2],[1,2]),([],[]),([],[]),([0],[0])] (by kernel_rfl) (by simp only[cC,cD,cE,all_cons,lL,dO hllT hne.symm,dO hlN1 (show H.length+1≠a by omega),tk,tN hlaT,sQ hlaT,cT,fa,pR,and_true])
  have hJ:=hD1.junk (vs:=[.u32 fr,.u32 tg,.str tx]) (mm:=none) (by simp[ac,V.low])
  exact EndW.of ((ph (T.length+1) (by simp) hJ hl hF (some a) n (fun x e=>by cases e;exact ha) (by omega) (jI hr (ds:=[.u32 fr,.u32 tg,.str tx]) ⟨⟨_,rfl⟩,⟨_,rfl⟩,⟨_,rfl,htx,htx0⟩,trivial⟩)).up (G':=G) (Nat.zero_le 5) (Nat.zero_le 1) rfl) trivial ⟨rfl,_,rfl⟩
 simp only[go_sem,seval,h5,decide_false]
 repeat refine aI ?_
 by_cases h6:kind=6
 ·simp only[go_sem,seval,h6,decide_true,hb,dH hlN,hact]
  repeat refine aI ?_
  have hL:(0:Int)<(tx.length:Int):=by omega
  have tm1:=Int.tmod_lt_of_pos B hL
  have tm2:=Int.lt_tmod_of_pos B hL
  have key:∀ k:Nat,k<tx.length→(List.map V.u8 tx).getD k V.junk=V.u8 (tx.getD k 0#8):=fun k hk=>by rw[dg V.u8 0#8,if_pos hk]
  split
  ·rename_i htm
   obtain⟨k,hk⟩:∃ k:Nat,(k:Int)=B.tmod tx.length+tx.length:=⟨(B.tmod tx.length+tx.length).toNat,by omega⟩
   have hw:ai (B.tmod tx.length+tx.length)=(k:Int):=by rw[←hk,al (by omega) (by omega)]
   have hk1:k<tx.length:=by omega
   have hk2:(0:Int)≤k:=by omega
   have hk3:(k:Int)<tx.length:=by omega
   simp only[go_sem,seval,hw,Int.toNat_natCast,key k hk1,hk1,hk2,hk3,dt hllT,dt hlN,dt hlaT,d7,hgT,hact,hgaT,hlen,hA1,hA2,List.length_set]
   repeat refine aI ?_
   have hbs:(tx.set k (tx.getD k 0#8 ^^^ BitVec.ofInt 8 C)).length=tx.length:=List.length_set
   have hJ:=hD1.boxed (zs:=tx.map V.u8) (ys:=(tx.set k (tx.getD k 0#8 ^^^ BitVec.ofInt 8 C)).map V.u8) (iO _ _) (iO _ _)
   exact EndW.of ((hJ.put ha rfl (sq hr hA ⟨by rw[List.length_take,hbs];omega,by rw[List.length_take,hbs];omega⟩)).up (G':=G) (Nat.zero_le 5) (Nat.zero_le 1) rfl) trivial ⟨rfl,_,rfl⟩
  ·rename_i htm
   obtain⟨k,hk⟩:∃ k:Nat,(k:Int)=B.tmod tx.length:=⟨(B.tmod tx.length).toNat,by omega⟩
   have hw:=hk.symm
   have hk1:k<tx.length:=by omega
   have hk2:(0:Int)≤k:=by omega
   have hk3:(k:Int)<tx.length:=by omega
   simp only[go_sem,seval,hw,Int.toNat_natCast,key k hk1,hk1,hk2,hk3,dt hllT,dt hlN,dt hlaT,d7,hgT,hact,hgaT,hlen,hA1,hA2,List.length_set]
   repeat refine aI ?_
   have hbs:(tx.set k (tx.getD k 0#8 ^^^ BitVec.ofInt 8 C)).length=tx.length:=List.length_set
   have hJ:=hD1.boxed (zs:=tx.map V.u8) (ys:=(tx.set k (tx.getD k 0#8 ^^^ BitVec.ofInt 8 C)).map V.u8) (iO _ _) (iO _ _)
   exact EndW.of ((hJ.put ha rfl (sq hr hA ⟨by rw[List.length_take,hbs];omega,by rw[List.length_take,hbs];omega⟩)).up (G':=G) (Nat.zero_le 5) (Nat.zero_le 1) rfl) trivial ⟨rfl,_,rfl⟩
 simp only[go_sem,seval,h6,decide_false,hgT,hact]
 repeat refine aI ?_
 have w1:=cd (i:=A) (by omega)
 have hcut:=Bn hA hr
 obtain⟨p1,p2,p3⟩:=lp hcut
 refine dj [a] (B8 n A hA cs hlen o1) (by kernel_rfl) (by simp[w1]) rfl (by simp) (by first|decide|simp) (by simp[hlaT]) (by simp) (by simp[hgaT,o2,o3,w1]) (by simp) (by simp) ?_
 simp only[go_sem,seval,hlaT,p2,oY hllT hne,hgT]
 repeat refine aI ?_
 have hD2:=ph T.length rfl hD1 hl hF (some a) n (fun x e=>by cases e;exact ha) (k':=n-1) (by omega) hcut
 have hnaN:a≠H.length:=by omega
 have hnlN:l≠H.length:=by omega
 have hnaN1:a≠H.length+1:=by omega
 have hnlN1:l≠H.length+1:=by omega
 have hact2:aa ((cutH (some a) T++[some (⟨false,cs.take (A*3)++cs.drop ((A+1)*3),none⟩:Blk)]).set l (some ⟨false,[nodes,.slice T.length 0 (n-1) 3],none⟩)) H.length=_:=(aP hnlN _).trans ((oY hlN hnaN).trans hact)
 have hb2:aa ((cutH (some a) T++[some (⟨false,cs.take (A*3)++cs.drop ((A+1)*3),none⟩:Blk)]).set l (some ⟨false,[nodes,.slice T.length 0 (n-1) 3],none⟩)) (H.length+1)=_:=(aP hnlN1 _).trans ((oY hlN1 hnaN1).trans hb)
 have hl2:=hD2.stay l _ rfl hl
 have hgl2:aa ((cutH (some a) T++[some (⟨false,cs.take (A*3)++cs.drop ((A+1)*3),none⟩:Blk)]).set l (some ⟨false,[nodes,.slice T.length 0 (n-1) 3],none⟩)) l=_:=aW (by simp[cutH];omega) _
 have hnode2:=fun x hx=>hI.node x hx
 have e0:(cutH (some a) T++[some (⟨false,cs.take (A*3)++cs.drop ((A+1)*3),none⟩:Blk)]).set l (some ⟨false,[nodes,.slice T.length 0 (n-1) 3],none⟩)=(T.set a none++[some (⟨false,cs.take (A*3)++cs.drop ((A+1)*3),none⟩:Blk)]).set l (some ⟨false,[nodes,.slice T.length 0 (n-1) 3],none⟩):=rfl
 rw[e0] at hD2 hact2 hb2 hgl2
 clear e0
 generalize (T.set a none++[some (⟨false,cs.take (A*3)++cs.drop ((A+1)*3),none⟩:Blk)]).set l (some ⟨false,[nodes,.slice T.length 0 (n-1) 3],none⟩)=M2 at*
 generalize aQ (bP (some a) K) T.length (some (.air l (n-1)))=K2 at*
 have ret_:∀ (e:Int) (t:List (Nat×V)),EndW K H (bF K) (bC 5 1 bK G) (.i64 e) ⟨t,M2⟩:=fun e t=>EndW.of (s:=⟨t,M2⟩) (hD2.up (G':=G) (Nat.zero_le 5) (Nat.zero_le 1) rfl) trivial ⟨rfl,_,rfl⟩
 have hF2:=hD2.wt.linkF hl2 hgl2
 simp only[go_sem,seval,hact2]
 repeat refine aI ?_
 by_cases h4:kind=4
 ·simp only[go_sem,seval,h4,decide_true]
  exact ret_ _ _
 simp only[go_sem,seval,h4,decide_false,hb2]
 repeat refine aJ ?_
 by_cases ht1:tg<1#32
 ·simp only[go_sem,seval,ht1,decide_true]
  repeat refine aJ ?_
  exact ret_ _ _
 have ht2:1≤tg.toNat:=by
  have :¬ tg.toNat<1:=fun e=>ht1 (by rw[BitVec.lt_def];exact e)
  omega
 rcases hF2.fnodes with⟨hx0,rfl⟩|⟨na,rfl,hx0,hna⟩
 ·have q1:(0:Int)<(tg.toNat:Int):=by omega
  simp only[go_sem,seval,ht1,decide_false,hgl2,q1]
  repeat refine aJ ?_
  exact ret_ _ _
 by_cases hbig:(xs.length:Int)<(tg.toNat:Int)
 ·simp only[go_sem,seval,ht1,decide_false,hgl2,hbig,decide_true]
  repeat refine aJ ?_
  exact ret_ _ _
 obtain⟨ncs,hgn,hnr⟩:=hD2.wt.row hna rfl
 obtain⟨hnlen,hnrow⟩:=jK hnr
 have hi:(tg-1#32).toNat<xs.length:=by
  rw[BitVec.toNat_sub_of_le (by rw[BitVec.le_def];exact ht2)]
  show tg.toNat-1<_
  omega
 obtain⟨hx,-⟩:=hnrow _ xs[(tg-1#32).toNat] (List.getElem?_eq_getElem hi)
 obtain⟨c,m,hxn,hcd,hm8,hco,hcg,-⟩:=hI.node _ (List.getElem_mem hi)
 have hxn2:=hD2.stay _ _ rfl hxn
 have hcd2:=hD2.stay _ _ rfl hcd
 obtain⟨all,hgx,-⟩:=hD2.wt.node hxn2
 have hi2:((tg-1#32).toNat:Int)<(xs.length:Int):=by omega
 have hi3:(0:Int)≤((tg-1#32).toNat:Int):=by omega
 generalize xs[(tg-1#32).toNat]=x at*
 simp only[go_sem,seval,ht1,decide_false,hb2,hgl2,hbig,hgn,hx,hgx,hi,hi2,hi3,hnlen]
 repeat refine aJ ?_
 refine bN (Rz hD2.wt hcd2 hm8 fr tx htx (by rw[hco];omega) (by rw[hcg];omega)) (by kernel_rfl) rfl (by simp[ac,V.low,hD2.wt.lt hcd2]) hD2.wt.sane ?_
 rintro _ G9 K9 H9 hC9 hl9 ⟨rfl,e9,rfl⟩
 simp only[go_sem,seval]
 repeat refine aI ?_
 exact EndW.of (hD2.callT hC9) trivial ⟨rfl,_,rfl⟩
end
section
variable {G:Gh}{K K0:Nat→Option Kd}{H H0:List (Option Blk)}{a b c p q d m n M l s N:Nat}{xs:List Nat}{cs:List V}
theorem PA (h:WT G K H)(hI:LkInv G K l xs N)(hx3:xs.length≤3)(kind A B C:Int)(src dst:BitVec 32)(txt:List af)(htx:txt.length≤140737488355328):
  ∃ v G' K' H',Done Tryz.prog 13 [.ptr l 0,.agg [.i64 kind,.i64 A,.i64 B,.i64 C,.u32 src,.u32 dst,.str txt]] K H (bF K) v G' K' H'∧bC 24 1 bK G v G' K':=by
 have hl:=hI.link
 have hll:=h.lt hl
 have hll1:l<H.length+1:=by omega
 have hC0:=(Cur.refl h (bF K)).junk (vs:=[.i64 kind,.i64 A,.i64 B,.i64 C,.u32 src,.u32 dst,.str txt]) (mm:=none) (by simp[ac,V.low])
 have hl0:(H++[some (⟨false,[.i64 kind,.i64 A,.i64 B,.i64 C,.u32 src,.u32 dst,.str txt],none⟩:Blk)]).length=H.length+1:=by simp
 refine bE (W:=bF K) (Post:=bC 24 1 bK G) (by kernel_rfl) (fn:=Tryz.f13) Tryz.func13 rfl (by show 2≤84;decide) (ag ?_)
 simp only[go_sem,seval,dm]
 repeat refine aI ?_
 refine aT (si hC0.wt hl A) (by kernel_rfl) rfl (by simp[ac,V.low,hll1]) hC0.wt.sane ?_
 rintro _ G1 K1 H1 hC1 hl1 ⟨hG1,hK1,hv1⟩
 obtain rfl:=hG1.symm
 obtain rfl:=hK1.symm
 have hD1:=hC0.callW (W2:=fun _=>False) hC1 fun _ h=>h.elim
 have k1:∀ c,c<H.length+1→aa H1 c=aa (H++[some (⟨false,[.i64 kind,.i64 A,.i64 B,.i64 C,.u32 src,.u32 dst,.str txt],none⟩:Blk)]) c:=fun c hc=>hC1.keep c (by rw[hl0];exact hc) fun h=>h
 have hact:=(k1 H.length (by omega)).trans dm
 have hlen1:H.length+1≤H1.length:=by have :=hC1.len;omega
 have hKN:K H.length=none:=h.fresh (Nat.le_refl _)
 have ret_:∀ (e:Int) (t:List (Nat×V)) (K2:Nat→Option Kd) (H2:List (Option Blk)),Cur K H (bF K) G K2 H2→EndW K H (bF K) (bC 24 1 bK G) (.i64 e) ⟨t,H2⟩:=fun e t K2 H2 hC=>EndW.of (s:=⟨t,H2⟩) (hC.up (G':=G) (Nat.zero_le 24) (Nat.zero_le 1) rfl) trivial ⟨rfl,_,rfl⟩
 by_cases h1:kind=1
 ·subst h1
  rcases hv1 with⟨rfl,-⟩|⟨i,x,rfl,hxi,rfl⟩
  ·simp only[go_sem,seval,hact,decide_true]
   repeat refine aI ?_
   exact ret_ _ _ _ _ hD1
  obtain⟨c,m,hxn,hcd,hm8,hco,hcg,-⟩:=hI.node x (List.mem_of_getElem? hxi)
  obtain⟨all,hgx,-⟩:=hC1.wt.node hxn
  simp only[go_sem,seval,hact,hgx,decide_true]
  repeat refine aI ?_
  refine bN (MR hC1.wt hcd hm8 src dst txt htx (by rw[hco];omega)) (by kernel_rfl) rfl (by simp[ac,V.low,hC1.wt.lt hcd]) hC1.wt.sane ?_
  rintro _ G2 K2 H2 hC2 hl2 ⟨rfl,e2,rfl⟩
  simp only[go_sem,seval]
  repeat refine aI ?_
  exact EndW.of ((hD1.callT hC2).up (G':=G) (show 2≤24 by omega) (Nat.zero_le 1) rfl) trivial ⟨rfl,_,rfl⟩
 by_cases h7:kind=7
 ·subst h7
  rcases hv1 with⟨rfl,-⟩|⟨i,x,rfl,hxi,rfl⟩
  ·simp only[go_sem,seval,hact,decide_true,decide_false]
   repeat refine aI ?_
   exact ret_ _ _ _ _ hD1
  obtain⟨c,m,hxn,hcd,hm8,hco,hcg,-⟩:=hI.node x (List.mem_of_getElem? hxi)
  obtain⟨all,hgx,-⟩:=hC1.wt.node hxn
  simp only[go_sem,seval,hact,hgx,decide_true,decide_false]
  repeat refine aI ?_
  refine bN (MH hC1.wt hcd (decide (B=1))) (by kernel_rfl) rfl (by simp[ac,V.low,hC1.wt.lt hcd]) hC1.wt.sane ?_
  rintro _ G2 K2 H2 hC2 hl2 ⟨hG2,hK2,rfl⟩
  obtain rfl:=hG2.symm
  simp only[go_sem,seval]
  repeat refine aI ?_
  exact ret_ _ _ _ _ (hD1.callW (W2:=fun b=>b=c) hC2 fun b e=>by subst e;rw[hcd];simp)
 by_cases h2:kind=2
 ·subst h2
  obtain⟨nodes,air,hgl,hF⟩:=hC1.wt.link hl
  rcases hF.fnodes with⟨hx0,rfl⟩|⟨na,rfl,hx0,hna⟩
  ·simp only[go_sem,seval,hact,hgl,decide_true,decide_false]
   repeat refine aI ?_
   refine bI 1 ?_
   simp only[go_sem,seval]
   exact ret_ _ _ _ _ hD1
  simp only[go_sem,seval,hact,hgl,decide_true,decide_false]
  repeat refine aI ?_
  refine aH (fun j st=>∃ (i:Nat) (e:Int) (Hi:List (Option Blk)) (Ki:Nat→Option Kd),i+j=xs.length∧Cur K H (bF K) (G.add (8*i) 0) Ki Hi∧Ki H.length=none∧aa Hi H.length=some ⟨false,[.i64 2,.i64 A,.i64 B,.i64 C,.u32 src,.u32 dst,.str txt],none⟩∧st=⟨[(3,.ptr H.length 0),(4,.i64 e),(48,.slice na 0 xs.length 1),(49,.i64 xs.length),(50,.i64 i)],Hi⟩) ?_ ?_
  ·exact aX xs.length ⟨[(3,.ptr H.length 0),(4,.i64 0),(48,.slice na 0 xs.length 1),(49,.i64 xs.length),(50,.i64 (0:Nat))],H1⟩ (by simp[St.get,ae]) rfl (fun _ _ h=>h) ⟨0,0,H1,K,by omega,hD1,hKN,hact,rfl⟩
  rintro j st ⟨i,e,Hi,Ki,hij,hC,hKi,hgi,rfl⟩-
  by_cases hi:i<xs.length
  rotate_left
  ·have hi':¬ (i:Int)<(xs.length:Int):=by omega
   simp only[go_sem,seval,hi',decide_false]
   repeat refine aI ?_
   exact EndW.of (hC.up (G':=G) (show 8*i≤24 by omega) (Nat.zero_le 1) rfl) trivial ⟨rfl,_,rfl⟩
  have hi':(i:Int)<(xs.length:Int):=by omega
  have hi0:(0:Int)≤(i:Int):=by omega
  have w1:=cd (i:=i) (by omega)
  have hna2:=hC.stay na _ rfl hna
  obtain⟨ncs,hgn,hnr⟩:=hC.wt.row hna2 rfl
  obtain⟨hnlen,hnrow⟩:=jK hnr
  obtain⟨hx,-⟩:=hnrow i xs[i] (List.getElem?_eq_getElem hi)
  obtain⟨c,m,hxn,hcd,hm8,hco,hcg,-⟩:=hI.node _ (List.getElem_mem hi)
  have hxn2:=hC.stay _ _ rfl hxn
  have hcd2:=hC.stay _ _ rfl hcd
  obtain⟨all,hgx,-⟩:=hC.wt.node hxn2
  generalize xs[i]=x at*
  simp only[go_sem,seval,hi',decide_true,hgn,hx,hgx,hgi,hnlen,hi,hi0]
  repeat refine aI ?_
  refine bN (MM hC.wt hcd2 hm8 A (show G.o c+8*i≤999000 by omega)) (by kernel_rfl) rfl (by simp[ac,V.low,hC.wt.lt hcd2]) hC.wt.sane ?_
  rintro _ G2 K2 H2 hC2 hl2 ⟨rfl,e2,rfl⟩
  simp only[go_sem,seval]
  repeat refine aI ?_
  have hD2:=hC.callT hC2
  rw[Gh.add_add] at hD2
  refine aS (j-1) ⟨[(3,.ptr H.length 0),(4,.i64 e2),(48,.slice na 0 xs.length 1),(49,.i64 xs.length),(50,.i64 (i+1:Nat))],H2⟩ (by omega) (by simp[St.get,ae,w1]) rfl (fun _ _ h=>h) ⟨i+1,e2,H2,K2,by omega,hD2,hC2.unt _ (aj hgi) hKi,?_,rfl⟩
  exact(hC2.keep _ (aj hgi) fun⟨k,e,_⟩=>by rw[hKi] at e;cases e).trans hgi
 by_cases hk:kind=3∨kind=4∨kind=5∨kind=6
 rotate_left
 ·have h3:¬ kind=3:=by omega
  have h4:¬ kind=4:=by omega
  have h5:¬ kind=5:=by omega
  have h6:¬ kind=6:=by omega
  simp only[go_sem,seval,hact,h1,h7,h2,h3,h4,h5,h6,decide_false]
  repeat refine aI ?_
  exact ret_ _ _ _ _ hD1
 obtain⟨nodes,air,hgl,hF⟩:=hC1.wt.link hl
 have key:∀ (t:List (Nat×V)) (n a:Nat) (i:Nat),i<n→A=(i:Int)→air= .slice a 0 n 3→∃ v G' K' H',Done Tryz.prog 26 [.ptr l 0,.agg [.i64 kind,.i64 A,.i64 B,.i64 C,.u32 src,.u32 dst,.str txt]] K H1 (bF K) v G' K' H'∧bC 5 1 bK G v G' K':=fun t n a i hi hA ha=>by
  subst hA ha
  exact EE hC1.wt ⟨hl,hI.node⟩ (N:=N) hgl kind B C i hi src dst txt
 by_cases hA0:A<0
 ·rcases hk with rfl|rfl|rfl|rfl
  all_goals
   simp only[go_sem,seval,hact,hA0,decide_true,decide_false]
   repeat refine aJ ?_
   exact ret_ _ _ _ _ hD1
 rcases hF.fair with rfl|⟨a,n,rfl,hn60,ha⟩
 ·have hA1:(0:Int)≤A:=by omega
  rcases hk with rfl|rfl|rfl|rfl
  all_goals
   simp only[go_sem,seval,hact,hgl,hA0,hA1,decide_true,decide_false]
   repeat refine aJ ?_
   exact ret_ _ _ _ _ hD1
 by_cases hAn:(n:Int)≤A
 ·rcases hk with rfl|rfl|rfl|rfl
  all_goals
   simp only[go_sem,seval,hact,hgl,hA0,hAn,decide_true,decide_false]
   repeat refine aJ ?_
   exact ret_ _ _ _ _ hD1
 have hm:=key [] n a A.toNat (by omega) (by omega) rfl
 have hll2:=hC1.wt.lt hl
 rcases hk with rfl|rfl|rfl|rfl
 all_goals
  simp only[go_sem,seval,hact,hgl,hA0,hAn,decide_true,decide_false]
  repeat refine aJ ?_
  refine aT (hm) (by kernel_rfl) rfl (by simp[ac,V.low,hll2]) hC1.wt.sane ?_
  rintro _ G9 K9 H9 hC9 hl9 ⟨rfl,e9,rfl⟩
  simp only[go_sem,seval]
  exact EndW.of ((hD1.callW hC9 fun b hb=>hb).up (G':=G) (show 5≤24 by omega) (Nat.le_refl 1) rfl) trivial ⟨rfl,_,rfl⟩
end
end Go.Vm
end
section
namespace Go.Vm
section
section
variable {G G':Gh}{K K0:Nat→Option Kd}{H H0:List (Option Blk)}{W:Nat→Prop}{a l n k N c m x:Nat}{xs:List Nat}{cs g:List V}{all:V}
def Gh.setG (G:Gh)(x n:Nat):Gh:=⟨G.o,fun y=>if y=x then n else G.g y⟩
theorem yX (N:Nat)(hN:H.length=N)(hC:Cur K0 H0 (bF K0) G K H)(hx:K x=some (.node c m))(hF:NodeF G K x c m all)(a:Option Nat)(k:Nat)(ha:∀ y,a=some y→K y=some (.all x k)){k':Nat}(hk:0<k')(hcs:Row K (aU k' packF) cs):
  Cur K0 H0 (bF K0) (G.setG x k') (aQ (bP a K) N (some (.all x k'))) ((cutH a H++[some (⟨false,cs,none⟩:Blk)]).set x (some ⟨false,[.ptr c 0,.slice N 0 k' 3],none⟩)):=by
 subst hN
 have hkeep:∀ y kk,(∀ j,kk≠ .all x j)→K y=some kk→aQ (bP a K) H.length (some (.all x k')) y=some kk:=fun y kk hn hy=>
  mJ hC.wt hy fun z hz e=>by subst e;rw[ha y hz] at hy;cases hy;exact hn _ rfl
 refine hC.grow (G':=G.setG x k') hx rfl (hC.typed hx) a (fun y e=>⟨⟨_,ha y e,rfl,fun e2=>?_⟩,hC.typed (ha y e)⟩) (.all x k') rfl (fun c hc=>⟨Nat.le_refl _,by show G.g c≤if c=x then k' else G.g c;rw[if_neg hc];exact Nat.le_refl _⟩) (xx hcs) ?_
 ·have :=ha y e
  rw[e2,hx] at this
  cases this
 ·obtain⟨i,j,hd⟩:=hF.fdv
  exact NodeF.row (G:=G.setG x k') ⟨⟨i,j,hkeep _ _ (by simp) hd⟩,.inr ⟨_,k',rfl,hk,by show k'≤if x=x then k' else G.g x;rw[if_pos rfl];exact Nat.le_refl _,bM⟩⟩
end
end
end Go.Vm
end
section
namespace Go.Vm
open Go.Proofs
section
variable {G:Gh}{K K0:Nat→Option Kd}{H H0:List (Option Blk)}{a b c p q d m n M l s N x:Nat}{xs:List Nat}{cs:List V}
theorem RA (hC:Cur K0 H0 (bF K0) G K H)(hl:K l=some (.link xs)){fr tg:BitVec 32}{tx:List af}(htx:tx.length≤1000000)(htx0:0<tx.length)(hb:aa H b=some ⟨false,[.u32 fr,.u32 tg,.str tx],none⟩)(hKb:K b=none){nodes air:V}(hg:aa H l=some ⟨false,[nodes,air],none⟩)(hair:air= .nilSlice∨∃ a n,air= .slice a 0 n 3∧n<60)
  {t:List (Nat×V)} (h0:ae t 0= .ptr l 0) (h9:ae t 9= .ptr b 0) {R:Exit→St→Prop} {r0 r1 r2 r3 c3 r4 r5 r6 c6 r7 r8 r9 e9 r10 r11 r12 c13:Code} {x37:Operand} {b0 b1 b2 b3:Nat}
  (hc:Tryz.f6.body=some (.seq r0 (.seq r1 (.seq (.seq r2 (.block b0 (.loop (.seq r3 (.seq c3 (.seq (.block b1 (.seq r4 (.seq (.seq r5 (.block b2 (.loop (.seq r6 (.seq c6 (.seq (.block b3 (.seq r7 (.seq r8 (.cond x37 r9 e9)))) r10)))))) r11))) r12)))))) c13))))
  (hR:∀ (t':List (Nat×V)) (K':Nat→Option Kd) (H':List (Option Blk)),Cur K0 H0 (bF K0) G K' H'→(∀ y ky,K y=some ky→(∀ j,ky≠ .air l j)→K' y=some ky)→(∀ k,k<38→ae t' k=ae t k)→R .normal ⟨t',H'⟩):
  vc Tryz.prog H0.length Tryz.f6.ntmps r9 R ⟨t,H⟩:=by
 have hF:=hC.wt.linkF hl hg
 have hll:=hC.wt.lt hl
 have hlb:=aj hb
 simp only[Tryz.f6,Option.some.injEq,Code.seq.injEq,Code.block.injEq,Code.loop.injEq,Code.cond.injEq] at hc
 obtain⟨-,-,⟨⟨-,-,-,-,⟨⟨-,-,⟨⟨-,-,-,-,⟨⟨-,-,-,-,rfl,-⟩,-⟩⟩,-⟩⟩,-⟩⟩,-⟩⟩:=hc
 refine ag ?_
 have hJ:=hC.junk (vs:=[.u32 fr,.u32 tg,.str tx]) (mm:=none) (by simp[ac,V.low])
 rcases hair with rfl|⟨a,n,rfl,hn⟩
 ·simp only[go_sem,seval,h0,h9,hg,hb,eg hll]
  repeat refine aI ?_
  refine And.intro ?_ ?_
  ·refine co (cM H.length) [([],[]),([],[]),([],[]),([],[]),([0],[]),([0],[]),([],[1]),([1],[1]),([],[]),([],[]),([0],[0])] (by kernel_rfl) (by simp only[cC,cD,cE,all_cons,j6,sP,ce hll,ce hlb,cT,fa,and_true])
  have hD:=ph (H.length+1) (by simp) hJ hl hF none 0 (fun _ e=>by cases e) (k':=1) (by omega) (cs:=[.u32 fr,.u32 tg,.str tx]) ⟨⟨_,rfl⟩,⟨_,rfl⟩,⟨_,rfl,htx,htx0⟩,trivial⟩
  refine hR _ _ _ hD (fun y ky hy hn=>?_) (fun k hk=>?_)
  ·have :=hC.wt.lt hy
   exact(aM (by omega)).trans hy
  ·simp only[ae]
   iterate 10 rw[if_neg (by omega)]
 ·have ha:K a=some (.air l n):=by
   rcases hF.fair with e|⟨a',n',e,h1,h2⟩
   ·cases e
   ·cases e;exact h2
  obtain⟨cs,hga,hr⟩:=hC.wt.row ha rfl
  have hlen:=jO hr
  have hla:=hC.wt.lt ha
  have hne:a≠l:=fun e=>by subst e;rw[hl] at ha;cases ha
  have hba:b≠a:=fun e=>by subst e;rw[hKb] at ha;cases ha
  obtain⟨o1,o2,o3⟩:=lp hr
  simp only[go_sem,seval,h0,h9,hg,hb,hga,dH hla,gD hll hne,List.drop_zero,List.take_of_length_le (show cs.length≤n*3 by omega)]
  repeat refine aI ?_
  refine And.intro ?_ ?_
  ·refine co (cU a H.length) [([],[]),([],[]),([],[]),([],[]),([0],[]),([0],[]),([],[1]),([1,2],[1,2]),([],[]),([],[]),([0],[0])] (by kernel_rfl) (by simp only[cC,cD,cE,all_cons,lL,dO hll hne.symm,dO hlb hba,tk,tN hla,sQ hla,cT,fa,pR,and_true])
  have hD:=ph (H.length+1) (by simp) hJ hl hF (some a) n (fun _ e=>by cases e;exact ha) (k':=n+1) (by omega) (jI hr (ds:=[.u32 fr,.u32 tg,.str tx]) ⟨⟨_,rfl⟩,⟨_,rfl⟩,⟨_,rfl,htx,htx0⟩,trivial⟩)
  refine hR _ _ _ hD (fun y ky hy hn=>?_) (fun k hk=>?_)
  ·have :=hC.wt.lt hy
   refine(aM (by omega)).trans ((aM fun e=>?_).trans hy)
   subst e
   rw[ha] at hy;cases hy
   exact hn _ rfl
  ·simp only[ae]
   iterate 10 rw[if_neg (by omega)]
end
section
variable {G:Gh}{K K0:Nat→Option Kd}{H H0:List (Option Blk)}{a b c p q d m n M l s N x:Nat}{xs:List Nat}{cs:List V}
theorem PB (hC:Cur K0 H0 (bF K0) G K H)(hx:K x=some (.node c m))(hcd:K c=some (.dev m m))(hN:G.g x+G.g c≤6500000000000)
  {t:List (Nat×V)} (h7:ae t 7= .ptr x 0) {R:Exit→St→Prop} {r0 r1 r2 r3 c3 r4 r5 r6 c6 r7 r8 r9 e9 r10 r11 r12 c13:Code} {x37:Operand} {b0 b1 b2 b3:Nat}
  (hc:Tryz.f6.body=some (.seq r0 (.seq r1 (.seq (.seq r2 (.block b0 (.loop (.seq r3 (.seq c3 (.seq (.block b1 (.seq r4 (.seq (.seq r5 (.block b2 (.loop (.seq r6 (.seq c6 (.seq (.block b3 (.seq r7 (.seq r8 (.cond x37 r9 e9)))) r10)))))) r11))) r12)))))) c13))))
  (hR:∀ (t':List (Nat×V)) (G':Gh) (K':Nat→Option Kd) (H':List (Option Blk)),Cur K0 H0 (bF K0) G' K' H'→G'.o=G.o→G'.g c=0→(∀ y,y≠x→G'.g y≤G.g y)→G'.g x≤G.g x+G.g c→(∀ y ky,K y=some ky→(∀ j,ky≠ .all x j)→K' y=some ky)→(∀ k,k<49→ae t' k=ae t k)→R .normal ⟨t',H'⟩):
  vc Tryz.prog H0.length Tryz.f6.ntmps r11 R ⟨t,H⟩:=by
 obtain⟨all,hg,hF⟩:=hC.wt.node hx
 have hlx:=hC.wt.lt hx
 have hlc:=hC.wt.lt hcd
 have hxc:x≠c:=fun e=>by subst e;rw[hx] at hcd;cases hcd
 simp only[Tryz.f6,Option.some.injEq,Code.seq.injEq,Code.block.injEq,Code.loop.injEq,Code.cond.injEq] at hc
 obtain⟨-,-,⟨⟨-,-,-,-,⟨⟨-,-,⟨-,rfl⟩⟩,-⟩⟩,-⟩⟩:=hc
 refine ag ?_
 simp only[go_sem,seval,h7,hg]
 repeat refine aI ?_
 refine bN (Pz hC.wt hcd) (by kernel_rfl) rfl (by simp[ac,V.low,hlc]) hC.wt.sane ?_
 rintro _ G1 K1 H1 hC1 hl1 ⟨hG1,hK1,hv1⟩
 have hD1:=hC.callW hC1 fun b e=>by subst e;rw[hcd];simp
 obtain rfl:=hK1.symm
 have hg1:=(hC1.keep x hlx hxc).trans hg
 have hlx1:=hC1.wt.lt hx
 have hF1:=hC1.wt.nodeF hx hg1
 have hgx:G1.g x=G.g x:=by rw[hG1];exact if_neg hxc
 have hgc:G1.g c=0:=by rw[hG1];exact if_pos rfl
 have hgo:G1.o=G.o:=by rw[hG1];rfl
 have hgy:∀ y,G1.g y≤G.g y:=fun y=>by
  rw[hG1]
  show(if y=c then 0 else G.g y)≤G.g y
  split <;>omega
 rcases hv1 with rfl|⟨gb,mm,rfl,hm0,hmc,hgb⟩
 ·have hall:all= .nilSlice∨∃ ab n,all= .slice ab 0 n 3∧0<n∧n≤G1.g x∧K ab=some (.all x n):=hF1.fall
  have hp:=hD1.put hx rfl (NodeF.row hF1)
  have done:∀ t',(∀ k,k<49→ae t' k=ae t k)→R .normal ⟨t',H1.set x (some ⟨false,[.ptr c 0,all],none⟩)⟩:=fun t' ht=>
   hR t' G1 K _ hp hgo hgc (fun y _=>hgy y) (by omega) (fun y ky hy _=>hy) ht
  have hl1:H.length≤H1.length:=hC1.len
  rcases hall with rfl|⟨ab,n,rfl,hn0,hn1,hab⟩
  ·simp only[go_sem,seval,hg1]
   repeat refine aI ?_
   refine And.intro ?_ ?_
   ·refine co (cU c H.length) [([],[]),([],[]),([],[]),([],[]),([0],[]),([],[]),([],[]),([],[]),([0],[]),([0,1,2],[1,2]),([],[]),([],[]),([],[]),([0],[0])] (by kernel_rfl) (by simp only[cC,cD,cE,lm,all_cons,lw (show H.length≤_ by first|exact Nat.le_refl _|omega),dO hlx hxc,cT,and_true])
   refine done _ (fun k hk=>?_)
   simp only[ae]
   iterate 13 rw[if_neg (by omega)]
  ·obtain⟨as_,hga,hra⟩:=hC1.wt.row hab rfl
   have hlena:=k9 hra
   have hlab:=hC.wt.lt hab
   have habc:ab≠c:=fun e=>by subst e;rw[hab] at hcd;cases hcd
   simp only[go_sem,seval,hg1,hga]
   repeat refine aI ?_
   refine And.intro ?_ ?_
   ·refine co (cU c H.length) [([],[]),([],[]),([],[]),([],[]),([0],[]),([],[]),([],[]),([],[]),([0],[]),([0,1,2],[1,2]),([0],[]),([],[]),([],[]),([0],[0])] (by kernel_rfl) (by simp only[cC,cD,cE,lm,all_cons,lw (show H.length≤_ by first|exact Nat.le_refl _|omega),dO hlx hxc,dO hlab habc,cT,and_true])
   refine done _ (fun k hk=>?_)
   simp only[ae]
   iterate 13 rw[if_neg (by omega)]
 ·obtain⟨gs,hgg,hrg⟩:=hC1.wt.row hgb rfl
  have hleng:=k9 hrg
  have hlgb:=hC.wt.lt hgb
  have hgbc:gb≠c:=fun e=>by subst e;rw[hgb] at hcd;cases hcd
  have hgbx:gb≠x:=fun e=>by subst e;rw[hgb] at hx;cases hx
  obtain⟨p1,p2,p3⟩:=m9 hrg
  have hm0':(mm=0)=False:=eq_false (by omega)
  have hl1:H.length≤H1.length:=hC1.len
  rcases(show all= .nilSlice∨∃ ab n,all= .slice ab 0 n 3∧0<n∧n≤G1.g x∧K ab=some (.all x n) from hF1.fall) with rfl|⟨ab,n,rfl,hn0,hn1,hab⟩
  ·simp only[go_sem,seval,hg1,hgg,hm0',dH hlx1,List.take_of_length_le (show gs.length≤mm*3 by omega)]
   refine⟨⟨by omega,by omega,by omega,p1,by omega⟩,by omega,?_,?_⟩
   ·refine co (cU c H.length) [([],[]),([],[]),([],[]),([],[]),([0],[]),([],[]),([],[]),([],[]),([0],[]),([0,1,2],[1,2]),([0],[1]),([],[]),([],[]),([0],[0])] (by kernel_rfl) (by simp only[cC,cD,cE,lm,all_cons,lw (show H.length≤_ by first|exact Nat.le_refl _|omega),dO hlx hxc,dO hlgb hgbc,pA hl1 hlc,cT,fa,and_true])
   have hD:=yX H1.length rfl hD1 hx hF1 none 0 (fun _ e=>by cases e) hm0 hrg
   refine hR _ _ _ _ hD hgo ?_ (fun y hy=>?_) ?_ (fun y ky hy hn=>?_) (fun k hk=>?_)
   ·show(if c=x then mm else G1.g c)=0
    rw[if_neg hxc.symm];exact hgc
   ·show(if y=x then mm else G1.g y)≤G.g y
    rw[if_neg hy];exact hgy y
   ·show(if x=x then mm else G1.g x)≤G.g x+G.g c
    rw[if_pos rfl];omega
   ·have :=hC1.wt.lt hy
    exact(aM (by omega)).trans hy
   ·simp only[ae]
    iterate 13 rw[if_neg (by omega)]
  ·obtain⟨as_,hga,hra⟩:=hC1.wt.row hab rfl
   have hlena:=k9 hra
   have hlab:=hC.wt.lt hab
   have hlab1:=hC1.wt.lt hab
   have habc:ab≠c:=fun e=>by subst e;rw[hab] at hcd;cases hcd
   have habx:ab≠x:=fun e=>by subst e;rw[hab] at hx;cases hx
   have habg:ab≠gb:=fun e=>by subst e;rw[hab] at hgb;cases hgb
   simp only[go_sem,seval,hg1,hgg,hga,hm0',oY hlx1 habx,List.take_of_length_le (show gs.length≤mm*3 by omega),List.take_of_length_le (show as_.length≤n*3 by omega)]
   refine⟨⟨by omega,by omega,by omega,by omega,p1,by omega⟩,by omega,by omega,?_,?_⟩
   ·refine co (cU c H.length) [([],[]),([],[]),([],[]),([],[]),([0],[]),([],[]),([],[]),([],[]),([0],[]),([0,1,2],[1,2]),([0],[0,1,2]),([],[]),([],[]),([0],[0])] (by kernel_rfl) (by simp only[cC,cD,cE,lm,all_cons,lw (show H.length≤_ by first|exact Nat.le_refl _|omega),dO hlx hxc,dO hlgb hgbc,dO hlab habc,cT,and_true])
   have hD:=yX H1.length rfl hD1 hx hF1 (some ab) n (fun _ e=>by cases e;exact hab) (k':=n+mm) (by omega) (by rw[jM];exact hra.app hrg)
   refine hR _ _ _ _ hD hgo ?_ (fun y hy=>?_) ?_ (fun y ky hy hn=>?_) (fun k hk=>?_)
   ·show(if c=x then n+mm else G1.g c)=0
    rw[if_neg hxc.symm];exact hgc
   ·show(if y=x then n+mm else G1.g y)≤G.g y
    rw[if_neg hy];exact hgy y
   ·show(if x=x then n+mm else G1.g x)≤G.g x+G.g c
    rw[if_pos rfl];omega
   ·have :=hC1.wt.lt hy
    refine(aM (by omega)).trans ((aM fun e=>?_).trans hy)
    subst e
    rw[hab] at hy;cases hy
    exact hn _ rfl
   ·simp only[ae]
    iterate 13 rw[if_neg (by omega)]
end
section
variable {G:Gh}{K K0:Nat→Option Kd}{H H0:List (Option Blk)}{a b c p q d m n M l s N:Nat}{xs:List Nat}{cs:List V}
def Bd (G:Gh)(K:Nat→Option Kd)(xs:List Nat)(N i:Nat):Prop:=∀ (j y:Nat),xs[j]?=some y→∃ c m,K y=some (.node c m)∧K c=some (.dev m m)∧m≤8∧G.o c≤24∧G.g y+G.g c≤N+2∧(j<i→G.o c=0∧G.g c=0)
theorem jE {P:Program}{m n:Nat}{R:Exit→St→Prop}{k:List Fr}{e:Exit}{s:St}(h:gone P m n R k e s):kQ P m n R k e s:=h
def pT (l:Nat)(xs:List Nat)(N:Nat):V→Gh→(Nat→Option Kd)→Prop:=fun v G' K'=>LkInv G' K' l xs (N+2)∧bK v
theorem PC (h:WT G K H)(hI:LkInv G K l xs N)(hx3:xs.length≤3)(hN:N≤6000000000000)(kind A B C:Int)(src dst:BitVec 32)(txt:List af)(htx:txt.length≤140737488355328)
  {r0 r1 r2 r3 c3 r4 r5 r6 c6 r7 r8 r9 e9 r10 r11 r12 c13:Code} {x37:Operand} {b0 b1 b2 b3:Nat}
  (hc:Tryz.f6.body=some (.seq r0 (.seq r1 (.seq (.seq r2 (.block b0 (.loop (.seq r3 (.seq c3 (.seq (.block b1 (.seq r4 (.seq (.seq r5 (.block b2 (.loop (.seq r6 (.seq c6 (.seq (.block b3 (.seq r7 (.seq r8 (.cond x37 r9 e9)))) r10)))))) r11))) r12)))))) c13)))):
  vc Tryz.prog H.length Tryz.f6.ntmps (.seq r0 (.seq r1 (.seq (.seq r2 (.block b0 (.loop (.seq r3 (.seq c3 (.seq (.block b1 (.seq r4 (.seq (.seq r5 (.block b2 (.loop (.seq r6 (.seq c6 (.seq (.block b3 (.seq r7 (.seq r8 (.cond x37 r9 e9)))) r10)))))) r11))) r12)))))) c13))) (b8 Tryz.prog Tryz.f6 (EndW K H (bF K) (pT l xs N))) ⟨cW [.ptr l 0,.agg [.i64 kind,.i64 A,.i64 B,.i64 C,.u32 src,.u32 dst,.str txt]] 0,H⟩:=by
 have hl:=hI.link
 have hll:=h.lt hl
 have hll1:l<H.length+1:=by omega
 have hC0:=(Cur.refl h (bF K)).junk (vs:=[.i64 kind,.i64 A,.i64 B,.i64 C,.u32 src,.u32 dst,.str txt]) (mm:=none) (by simp[ac,V.low])
 have R9:=fun {K0:Nat→Option Kd} {H0:List (Option Blk)} {G:Gh} {K:Nat→Option Kd} {H:List (Option Blk)} {b:Nat} (hC:Cur K0 H0 (bF K0) G K H) (hl:K l=some (.link xs)) {fr tg:BitVec 32} {tx:List af} (htx:tx.length≤1000000) (htx0:0<tx.length) (hb:aa H b=some ⟨false,[.u32 fr,.u32 tg,.str tx],none⟩) (hKb:K b=none) {nodes air:V} (hg:aa H l=some ⟨false,[nodes,air],none⟩) (hair:air= .nilSlice∨∃ a n,air= .slice a 0 n 3∧n<60)
  {t:List (Nat×V)} (h0:ae t 0= .ptr l 0) (h9:ae t 9= .ptr b 0) {R:Exit→St→Prop}=>RA hC hl htx htx0 hb hKb hg hair h0 h9 hc (R:=R)
 have R11:=fun {K0:Nat→Option Kd} {H0:List (Option Blk)} {G:Gh} {K:Nat→Option Kd} {H:List (Option Blk)} {x c m:Nat} (hC:Cur K0 H0 (bF K0) G K H) (hx:K x=some (.node c m)) (hcd:K c=some (.dev m m)) (hN:G.g x+G.g c≤6500000000000) {t:List (Nat×V)} (h7:ae t 7= .ptr x 0) {R:Exit→St→Prop}=>PB hC hx hcd hN h7 hc (R:=R)
 simp only[Tryz.f6,Option.some.injEq,Code.seq.injEq,Code.block.injEq,Code.loop.injEq,Code.cond.injEq] at hc
 obtain⟨rfl,rfl,⟨⟨rfl,rfl,rfl,rfl,⟨⟨rfl,rfl,⟨⟨rfl,rfl,rfl,rfl,⟨⟨rfl,rfl,rfl,rfl,q9,rfl⟩,rfl⟩⟩,q11⟩⟩,rfl⟩⟩,rfl⟩⟩:=hc
 clear q9 q11
 refine ag ?_
 simp only[go_sem,seval,dm]
 repeat refine aI ?_
 refine aT (PA hC0.wt ⟨hl,hI.node⟩ hx3 kind A B C src dst txt htx (N:=N)) (by kernel_rfl) rfl (by simp[ac,V.low,hll1]) hC0.wt.sane ?_
 rintro _ G1 K1 H1 hC1 hl1 ⟨hG1,e1,rfl⟩
 have hD1:=hC0.callB hC1
 subst hG1
 have hl1:=hD1.stay l _ rfl hl
 have hB1:Bd (G.add 24 1) K xs N 0:=fun j y hy=>by
  obtain⟨c,m,h1,h2,h3,h4,h5,h6⟩:=hI.node y (List.mem_of_getElem? hy)
  refine⟨c,m,h1,h2,h3,?_,?_,fun h=>by omega⟩
  ·show G.o c+24≤24;omega
  ·show G.g y+1+(G.g c+1)≤N+2;omega
 generalize G.add 24 1=G1 at*
 obtain⟨nodes,air,hgl,hF⟩:=hC1.wt.link hl1
 have fin:∀ (e:Int) (t:List (Nat×V)) (G2:Gh) (K2:Nat→Option Kd) (H2:List (Option Blk)),Cur K H (bF K) G2 K2 H2→Bd G2 K xs N xs.length→EndW K H (bF K) (pT l xs N) (.i64 e) ⟨t,H2⟩:=fun e t G2 K2 H2 hC hB=>
  EndW.of (s:=⟨t,H2⟩) hC trivial ⟨⟨hC.stay l _ rfl hl,fun x hx=>by
   obtain⟨j,hj,rfl⟩:=List.mem_iff_getElem.1 hx
   obtain⟨c,m,h1,h2,h3,h4,h5,h6⟩:=hB j _ (List.getElem?_eq_getElem hj)
   obtain⟨g1,g2⟩:=h6 hj
   exact⟨c,m,hC.stay _ _ rfl h1,hC.stay _ _ rfl h2,h3,g1,g2,by omega⟩⟩,_,rfl⟩
 rcases hF.fnodes with⟨hx0,rfl⟩|⟨na,rfl,hx0,hna⟩
 ·simp only[go_sem,seval,hgl]
  repeat refine aI ?_
  refine bI 1 ?_
  simp only[go_sem,seval]
  exact fin _ _ _ _ _ hD1 (by rw[hx0];exact hB1)
 simp only[go_sem,seval,hgl]
 repeat refine aI ?_
 have hna0:=hna
 refine aH (fun j st=>∃ (i:Nat) (Hi:List (Option Blk)) (Gi:Gh) (Ki:Nat→Option Kd),i+j=xs.length∧Cur K H (bF K) Gi Ki Hi∧Ki na=some (.nodes xs)∧Bd Gi K xs N i∧st=⟨[(0,.ptr l 0),(5,.i64 e1),(16,.slice na 0 xs.length 1),(17,.i64 xs.length),(18,.i64 i)],Hi⟩) ?_ ?_
 ·exact aX xs.length ⟨[(0,.ptr l 0),(5,.i64 e1),(16,.slice na 0 xs.length 1),(17,.i64 xs.length),(18,.i64 (0:Nat))],H1⟩ (by simp[St.get,ae]) rfl (fun _ _ h=>h) ⟨0,H1,G1,K1,by omega,hD1,hna,hB1,rfl⟩
 rintro j st ⟨i,Hi,Gi,Ki,hij,hC,hnai,hB,rfl⟩-
 by_cases hi:i<xs.length
 rotate_left
 ·have hi':¬ (i:Int)<(xs.length:Int):=by omega
  obtain rfl:i=xs.length:=by omega
  simp only[go_sem,seval,hi',decide_false]
  repeat refine aI ?_
  exact fin _ _ _ _ _ hC hB
 have hi':(i:Int)<(xs.length:Int):=by omega
 have hi0:(0:Int)≤(i:Int):=by omega
 have w1:=cd (i:=i) (by omega)
 obtain⟨ncs,hgn,hnr⟩:=hC.wt.row hnai rfl
 obtain⟨hnlen,hnrow⟩:=jK hnr
 have hxe:=List.getElem?_eq_getElem hi
 obtain⟨hx,-⟩:=hnrow i xs[i] hxe
 obtain⟨c,m,hxn,hcd,hm8,hco,hcg,-⟩:=hB i _ hxe
 have hxn2:=hC.stay _ _ rfl hxn
 have hcd2:=hC.stay _ _ rfl hcd
 obtain⟨all,hgx,hXF⟩:=hC.wt.node hxn2
 generalize xs[i]=x at*
 have hxc:x≠c:=fun e=>by subst e;rw[hxn] at hcd;cases hcd
 simp only[go_sem,seval,hi',decide_true,hgn,hx,hgx,hnlen,hi,hi0]
 repeat refine aI ?_
 refine aT (Py hC.wt hcd2) (by kernel_rfl) rfl (by simp[ac,V.low,hC.wt.lt hcd2]) hC.wt.sane ?_
 rintro _ G2 K2 H2 hC2 hl2 ⟨hG2,hK2,hv2⟩
 have hD2:=hC.callW hC2 fun b e=>by subst e;rw[hcd2];simp
 obtain rfl:=hK2.symm
 have hG2o:G2.o c=0:=by rw[hG2];exact if_pos rfl
 have hG2oy:∀ y,G2.o y≤Gi.o y:=fun y=>by
  rw[hG2]
  show(if y=c then 0 else Gi.o y)≤Gi.o y
  split <;>omega
 have hG2g:G2.g=Gi.g:=by rw[hG2];rfl
 have hnext:∀ (t':List (Nat×V)) (G':Gh) (K':Nat→Option Kd) (H':List (Option Blk)),Cur K H (bF K) G' K' H'→K' na=some (.nodes xs)→G'.o=G2.o→G'.g c=0→(∀ y,y≠x→G'.g y≤G2.g y)→G'.g x≤G2.g x+G2.g c→ae t' 0= .ptr l 0→ae t' 5= .i64 e1→ae t' 16= .slice na 0 xs.length 1→ae t' 17= .i64 xs.length→ae t' 18= .i64 (ai ((i:Int)+1))→
   eX H.length 64 (fun j st=>∃ (i:Nat) (Hi:List (Option Blk)) (Gi:Gh) (Ki:Nat→Option Kd),i+j=xs.length∧Cur K H (bF K) Gi Ki Hi∧Ki na=some (.nodes xs)∧Bd Gi K xs N i∧st=⟨[(0,.ptr l 0),(5,.i64 e1),(16,.slice na 0 xs.length 1),(17,.i64 xs.length),(18,.i64 i)],Hi⟩) j ⟨t',H'⟩:=fun t' G' K' H' hC' hna' ho' hgc' hgy' hgx' e0 e5 e16 e17 e18=>by
  refine aS (j-1) ⟨[(0,.ptr l 0),(5,.i64 e1),(16,.slice na 0 xs.length 1),(17,.i64 xs.length),(18,.i64 (i+1:Nat))],H'⟩ (by omega) (by simp[St.get,e0,e5,e16,e17,e18,w1]) rfl (fun _ _ h=>h) ⟨i+1,H',G',K',by omega,hC',hna',fun j' y hy=>?_,rfl⟩
  obtain⟨c',m',q1,q2,q3,q4,q5,q6⟩:=hB j' y hy
  have hxc':x≠c':=fun e=>by subst e;rw[hxn] at q2;cases q2
  have ho2:=hG2oy c'
  have hoc:G'.o c'=G2.o c':=by rw[ho']
  have hgc2:=hgy' c' hxc'.symm
  rw[hG2g] at hgc2 hgx'
  refine⟨c',m',q1,q2,q3,by omega,?_,fun hj=>?_⟩
  ·by_cases hyx:y=x
   ·subst hyx
    rw[hxn] at q1
    cases q1
    omega
   ·have :=hgy' y hyx
    rw[hG2g] at this
    omega
  ·by_cases hj2:j'<i
   ·obtain⟨g1,g2⟩:=q6 hj2
    exact⟨by omega,by omega⟩
   ·obtain rfl:j'=i:=by omega
    rw[hxe] at hy
    cases hy
    rw[hxn] at q1
    cases q1
    exact⟨by omega,hgc'⟩
 have hN2:G2.g x+G2.g c≤6500000000000:=by rw[hG2g];omega
 have hna2:=hnai
 rcases hv2 with rfl|⟨ob,k,rfl,hk0,hko,hob⟩
 ·simp only[go_sem,seval]
  repeat refine aI ?_
  refine bI 1 ?_
  simp only[go_sem,seval]
  refine R11 hD2 hxn2 hcd2 hN2 (by simp only[go_sem,seval]) fun t' G' K' H' hC' ho' hgc' hgy' hgx' hK' hlk=>jE ?_
  have f0:=hlk 0 (by decide)
  have f5:=hlk 5 (by decide)
  have f16:=hlk 16 (by decide)
  have f17:=hlk 17 (by decide)
  have f18:=hlk 18 (by decide)
  simp only[go_sem,seval] at f0 f5 f16 f17 f18
  simp only[go_sem,seval,f18]
  exact hnext _ _ _ _ hC' (hK' _ _ hnai (by simp)) ho' hgc' hgy' hgx' (by simp only[go_sem,seval,f0]) (by simp only[go_sem,seval,f5]) (by simp only[go_sem,seval,f16]) (by simp only[go_sem,seval,f17]) (by simp only[go_sem,seval])
 simp only[go_sem,seval]
 repeat refine aI ?_
 refine aH (fun j st=>∃ (i2:Nat) (Hj:List (Option Blk)) (Kj:Nat→Option Kd),i2+j=k∧Cur K H (bF K) G2 Kj Hj∧Kj ob=some (.out c k)∧Kj na=some (.nodes xs)∧st=⟨[(0,.ptr l 0),(5,.i64 e1),(7,.ptr x 0),(16,.slice na 0 xs.length 1),(17,.i64 xs.length),(18,.i64 i),(26,.slice ob 0 k 3),(27,.i64 k),(28,.i64 i2)],Hj⟩) ?_ ?_
 ·exact aX k ⟨[(0,.ptr l 0),(5,.i64 e1),(7,.ptr x 0),(16,.slice na 0 xs.length 1),(17,.i64 xs.length),(18,.i64 i),(26,.slice ob 0 k 3),(27,.i64 k),(28,.i64 (0:Nat))],H2⟩ (by simp[St.get,ae]) rfl (fun _ _ h=>h) ⟨0,H2,Ki,by omega,hD2,hob,hnai,rfl⟩
 rintro j2 st ⟨i2,Hj,Kj,hij2,hCj,hobj,hnaj,rfl⟩-
 by_cases hi2:i2<k
 rotate_left
 ·have hi2':¬ (i2:Int)<(k:Int):=by omega
  simp only[go_sem,seval,hi2',decide_false]
  repeat refine aI ?_
  refine R11 hCj (hCj.stay _ _ rfl hxn) (hCj.stay _ _ rfl hcd) hN2 (by simp only[go_sem,seval]) fun t' G' K' H' hC' ho' hgc' hgy' hgx' hK' hlk=>jE ?_
  have f0:=hlk 0 (by decide)
  have f5:=hlk 5 (by decide)
  have f16:=hlk 16 (by decide)
  have f17:=hlk 17 (by decide)
  have f18:=hlk 18 (by decide)
  simp only[go_sem,seval] at f0 f5 f16 f17 f18
  simp only[go_sem,seval,f18]
  exact hnext _ _ _ _ hC' (hK' _ _ hnaj (by simp)) ho' hgc' hgy' hgx' (by simp only[go_sem,seval,f0]) (by simp only[go_sem,seval,f5]) (by simp only[go_sem,seval,f16]) (by simp only[go_sem,seval,f17]) (by simp only[go_sem,seval])
 have hi2':(i2:Int)<(k:Int):=by omega
 have hi20:(0:Int)≤(i2:Int):=by omega
 have w2:=cd (i:=i2) (by omega)
 obtain⟨os,hgo,hro⟩:=hCj.wt.row hobj rfl
 have hleno:=jO hro
 have hgr:=m7 hro hi2
 have hrow:∃ (fr tg:BitVec 32) (tx:List af),(os.drop (i2*3)).take 3=[.u32 fr,.u32 tg,.str tx]∧tx.length≤1000000∧0<tx.length:=by
  have e3:gramF.length=3:=rfl
  rw[e3] at hgr
  generalize (os.drop (i2*3)).take 3=r at hgr
  match r,hgr with
  |[v0,v1,v2],⟨⟨f,e0⟩,⟨t,e1⟩,⟨s,e2,h1,h2⟩,_⟩=>exact⟨f,t,s,by rw[e0,e1,e2],h1,h2⟩
 obtain⟨fr,tg,tx,hcell,htx2,htx0⟩:=hrow
 have hlj:=hCj.stay l _ rfl hl
 obtain⟨nodes2,air2,hgl2,hF2⟩:=hCj.wt.link hlj
 have hllj:=hCj.wt.lt hlj
 have hz:Hj.length<(Hj++[some (⟨false,[.u32 0#32,.u32 0#32,.str []],none⟩:Blk)]).length:=by simp
 have hbox:=hCj.boxed (zs:=[.u32 0#32,.u32 0#32,.str []]) (ys:=[.u32 fr,.u32 tg,.str tx]) (by simp[ac,V.low]) (by simp[ac,V.low])
 have hgl3:=(dt (x:=some (⟨false,[.u32 0#32,.u32 0#32,.str []],none⟩:Blk)) (y:=some ⟨false,[.u32 fr,.u32 tg,.str tx],none⟩) hllj).trans hgl2
 have hb3:=d7 (H:=Hj) (x:=some (⟨false,[.u32 0#32,.u32 0#32,.str []],none⟩:Blk)) (y:=some ⟨false,[.u32 fr,.u32 tg,.str tx],none⟩)
 have hKb:Kj Hj.length=none:=hCj.wt.fresh (Nat.le_refl _)
 simp only[go_sem,seval,hi2',decide_true,hgo,hcell,hleno,hi20,hgl3]
 repeat refine aI ?_
 have inext:∀ (t':List (Nat×V)) (K':Nat→Option Kd) (H':List (Option Blk)),Cur K H (bF K) G2 K' H'→K' ob=some (.out c k)→K' na=some (.nodes xs)→ae t' 0= .ptr l 0→ae t' 5= .i64 e1→ae t' 7= .ptr x 0→ae t' 16= .slice na 0 xs.length 1→ae t' 17= .i64 xs.length→ae t' 18= .i64 i→ae t' 26= .slice ob 0 k 3→ae t' 27= .i64 k→ae t' 28= .i64 (ai ((i2:Int)+1))→
   eX H.length 64 (fun j st=>∃ (i2:Nat) (Hj:List (Option Blk)) (Kj:Nat→Option Kd),i2+j=k∧Cur K H (bF K) G2 Kj Hj∧Kj ob=some (.out c k)∧Kj na=some (.nodes xs)∧st=⟨[(0,.ptr l 0),(5,.i64 e1),(7,.ptr x 0),(16,.slice na 0 xs.length 1),(17,.i64 xs.length),(18,.i64 i),(26,.slice ob 0 k 3),(27,.i64 k),(28,.i64 i2)],Hj⟩) j2 ⟨t',H'⟩:=fun t' K' H' hC' ho' hn' e0 e5 e7 e16 e17 e18 e26 e27 e28=>
  aS (j2-1) ⟨[(0,.ptr l 0),(5,.i64 e1),(7,.ptr x 0),(16,.slice na 0 xs.length 1),(17,.i64 xs.length),(18,.i64 i),(26,.slice ob 0 k 3),(27,.i64 k),(28,.i64 (i2+1:Nat))],H'⟩ (by omega) (by simp[St.get,e0,e5,e7,e16,e17,e18,e26,e27,e28,w2]) rfl (fun _ _ h=>h) ⟨i2+1,H',K',by omega,hC',ho',hn',rfl⟩
 rcases hF2.fair with rfl|⟨a2,n2,rfl,hn60,ha2⟩
 ·simp only[go_sem,seval]
  repeat refine aI ?_
  refine R9 hbox hlj htx2 htx0 hb3 hKb hgl3 (.inl rfl) (by simp only[go_sem,seval]) (by simp only[go_sem,seval]) fun t' K' H' hC' hK' hlk=>jE ?_
  have f0:=hlk 0 (by decide)
  have f5:=hlk 5 (by decide)
  have f7:=hlk 7 (by decide)
  have f16:=hlk 16 (by decide)
  have f17:=hlk 17 (by decide)
  have f18:=hlk 18 (by decide)
  have f26:=hlk 26 (by decide)
  have f27:=hlk 27 (by decide)
  have f28:=hlk 28 (by decide)
  simp only[go_sem,seval] at f0 f5 f7 f16 f17 f18 f26 f27 f28
  simp only[go_sem,seval,f28]
  exact inext _ _ _ hC' (hK' _ _ hobj (by simp)) (hK' _ _ hnaj (by simp)) (by simp only[go_sem,seval,f0]) (by simp only[go_sem,seval,f5]) (by simp only[go_sem,seval,f7]) (by simp only[go_sem,seval,f16]) (by simp only[go_sem,seval,f17]) (by simp only[go_sem,seval,f18]) (by simp only[go_sem,seval,f26]) (by simp only[go_sem,seval,f27]) (by simp only[go_sem,seval])
 by_cases hn2:(n2:Int)<60
 ·simp only[go_sem,seval,hn2,decide_true]
  repeat refine aI ?_
  refine R9 hbox hlj htx2 htx0 hb3 hKb hgl3 (.inr ⟨a2,n2,rfl,by omega⟩) (by simp only[go_sem,seval]) (by simp only[go_sem,seval]) fun t' K' H' hC' hK' hlk=>jE ?_
  have f0:=hlk 0 (by decide)
  have f5:=hlk 5 (by decide)
  have f7:=hlk 7 (by decide)
  have f16:=hlk 16 (by decide)
  have f17:=hlk 17 (by decide)
  have f18:=hlk 18 (by decide)
  have f26:=hlk 26 (by decide)
  have f27:=hlk 27 (by decide)
  have f28:=hlk 28 (by decide)
  simp only[go_sem,seval] at f0 f5 f7 f16 f17 f18 f26 f27 f28
  simp only[go_sem,seval,f28]
  exact inext _ _ _ hC' (hK' _ _ hobj (by simp)) (hK' _ _ hnaj (by simp)) (by simp only[go_sem,seval,f0]) (by simp only[go_sem,seval,f5]) (by simp only[go_sem,seval,f7]) (by simp only[go_sem,seval,f16]) (by simp only[go_sem,seval,f17]) (by simp only[go_sem,seval,f18]) (by simp only[go_sem,seval,f26]) (by simp only[go_sem,seval,f27]) (by simp only[go_sem,seval])
 simp only[go_sem,seval,hn2,decide_false]
 repeat refine aI ?_
 exact inext _ _ _ hbox hobj hnaj (by simp only[go_sem,seval]) (by simp only[go_sem,seval]) (by simp only[go_sem,seval]) (by simp only[go_sem,seval]) (by simp only[go_sem,seval]) (by simp only[go_sem,seval]) (by simp only[go_sem,seval]) (by simp only[go_sem,seval]) (by simp only[go_sem,seval])
theorem RB (h:WT G K H)(hI:LkInv G K l xs N)(hx3:xs.length≤3)(hN:N≤6000000000000)(kind A B C:Int)(src dst:BitVec 32)(txt:List af)(htx:txt.length≤140737488355328):
  ∃ v G' K' H',Done Tryz.prog 6 [.ptr l 0,.agg [.i64 kind,.i64 A,.i64 B,.i64 C,.u32 src,.u32 dst,.str txt]] K H (bF K) v G' K' H'∧pT l xs N v G' K':=
 bE (W:=bF K) (Post:=pT l xs N) (by kernel_rfl) (fn:=Tryz.f6) Tryz.func6 rfl (by show 2≤64;decide) (PC h hI hx3 hN kind A B C src dst txt htx rfl)
end
section
variable {G:Gh}{K K0:Nat→Option Kd}{H H0:List (Option Blk)}{a b c p q d m n M l s N x cnt n0 L:Nat}{xs:List Nat}{cs:List V}
def jd (G:Gh)(n:Nat)(v:V)(G':Gh)(K':Nat→Option Kd):Prop:=G'=G∧((∃ e:Int,e≠0∧v= .tup [.nilPtr,.i64 e])∨∃ l xs,v= .tup [.ptr l 0,.i64 0]∧xs.length=n∧2≤n∧n≤3∧LkInv G' K' l xs 0)
theorem yr {K:Nat→Option Kd}:∀ {xs:List Nat},(∀ x∈xs,∃ c m,K x=some (.node c m))→Row K (xs.map .pnode) (xs.map fun x=>V.ptr x 0)
 |[],_=>trivial
 |x::xs,h=>⟨⟨rfl,h x (by simp)⟩,yr fun y hy=>h y (by simp[hy])⟩
theorem MZ (h:WT G K H)(hK0:∀ b,K b=none)(hG0:∀ b,G.o b=0∧G.g b=0)(seed:List af){bv:V}{bs:List Int}{ro:Bool}(hb:(bs=[]∧bv= .nilSlice)∨∃ bb,bv= .slice bb 0 bs.length 1∧aa H bb=some ⟨ro,bs.map V.i64,none⟩)
  {r0 s1 r3 r4 r5 r6 c6 r7 r8 r9 r10 c10 r11 s12 r13 r14 r15 r16 s17 r19 r20 c21:Code} {b0 b1 b2 b3:Nat}
  (hc:Tryz.f12.body=some (.seq r0 (.seq s1 (.seq r3 (.seq r4 (.seq (.seq r5 (.block b0 (.loop (.seq r6 (.seq c6 (.seq (.block b1 (.seq r7 (.seq r8 (.seq (.seq r9 (.block b2 (.loop (.seq r10 (.seq c10 (.seq (.block b3 (.seq r11 (.seq s12 (.seq r13 r14)))) r15)))))) (.seq r16 (.seq s17 r19)))))) r20)))))) c21)))))):
  vc Tryz.prog H.length Tryz.f12.ntmps (.seq r0 (.seq s1 (.seq r3 (.seq r4 (.seq (.seq r5 (.block b0 (.loop (.seq r6 (.seq c6 (.seq (.block b1 (.seq r7 (.seq r8 (.seq (.seq r9 (.block b2 (.loop (.seq r10 (.seq c10 (.seq (.block b3 (.seq r11 (.seq s12 (.seq r13 r14)))) r15)))))) (.seq r16 (.seq s17 r19)))))) r20)))))) c21))))) (b8 Tryz.prog Tryz.f12 (EndW K H (fun _=>False) (jd G bs.length))) ⟨cW [bv,.str seed] 0,H⟩:=by
 have R13:=@MP
 have R16:=@MQ
 have hc0:=hc
 simp only[Tryz.f12,Option.some.injEq,Code.seq.injEq,Code.block.injEq,Code.loop.injEq] at hc
 obtain⟨rfl,rfl,rfl,rfl,⟨⟨rfl,rfl,rfl,rfl,⟨⟨rfl,rfl,rfl,⟨⟨rfl,rfl,rfl,rfl,⟨⟨rfl,rfl,rfl,q13,q14⟩,rfl⟩⟩,q16,q17,q19⟩⟩,rfl⟩⟩,rfl⟩⟩:=hc
 clear q13 q14 q16 q17 q19
 have hC0:=(Cur.refl h (fun _=>False)).junk (vs:=[.str seed]) (mm:=none) (by simp[ac,V.low])
 have ret_:∀ (e:Int) (t:List (Nat×V)) (K2:Nat→Option Kd) (H2:List (Option Blk)),e≠0→Cur K H (fun _=>False) G K2 H2→EndW K H (fun _=>False) (jd G bs.length) (.tup [.nilPtr,.i64 e]) ⟨t,H2⟩:=fun e t K2 H2 he hC=>EndW.of (s:=⟨t,H2⟩) hC (by simp[ac,V.low]) ⟨rfl,.inl ⟨e,he,rfl⟩⟩
 refine ag ?_
 simp only[go_sem,seval,dm]
 repeat refine aI ?_
 by_cases hs:seed.length=32
 rotate_left
 ·have hs':¬ (seed.length:Int)=32:=by omega
  simp only[go_sem,seval,hs',not_false_eq_true,decide_true]
  repeat refine aI ?_
  exact ret_ _ _ _ _ (by decide) hC0
 have hs':(seed.length:Int)=32:=by omega
 rcases hb with⟨rfl,rfl⟩|⟨bb,rfl,hgb⟩
 ·simp only[go_sem,seval,hs',not_true,decide_false]
  repeat refine aI ?_
  exact ret_ _ _ _ _ (by decide) hC0
 by_cases hn2:(bs.length:Int)<2
 ·simp only[go_sem,seval,hs',hn2,not_true,decide_false,decide_true]
  repeat refine aI ?_
  exact ret_ _ _ _ _ (by decide) hC0
 by_cases hn3:3<(bs.length:Int)
 ·simp only[go_sem,seval,hs',hn2,hn3,not_true,decide_false,decide_true]
  repeat refine aI ?_
  exact ret_ _ _ _ _ (by decide) hC0
 simp only[go_sem,seval,hs',hn2,hn3,not_true,decide_false]
 repeat refine aI ?_
 have hlbb:=aj hgb
 have hC1:=hC0.junk (vs:=[.nilSlice,.nilSlice]) (mm:=none) (by simp[ac,V.low])
 have hKs:K H.length=none:=hK0 _
 have hKL:K (H.length+1)=none:=hK0 _
 have hsb1:aa (H++[some (⟨false,[.str seed],none⟩:Blk)]++[some (⟨false,[.nilSlice,.nilSlice],none⟩:Blk)]) H.length=some ⟨false,[.str seed],none⟩:=oS
 have hLb1:aa (H++[some (⟨false,[.str seed],none⟩:Blk)]++[some (⟨false,[.nilSlice,.nilSlice],none⟩:Blk)]) (H.length+1)=some ⟨false,[.nilSlice,.nilSlice],none⟩:=o7
 refine aH (fun j st=>∃ (i:Nat) (Hi:List (Option Blk)) (Ki:Nat→Option Kd) (xs:List Nat) (nv:V),i+j=bs.length∧xs.length=i∧Cur K H (fun _=>False) G Ki Hi∧aa Hi H.length=some ⟨false,[.str seed],none⟩∧Ki H.length=none∧aa Hi (H.length+1)=some ⟨false,[nv,.nilSlice],none⟩∧Ki (H.length+1)=none∧NodesR H.length H.length (H.length+1) Ki Hi nv xs∧(∀ x∈xs,∃ c,Ki x=some (.node c (bs.length-1))∧Ki c=some (.dev (bs.length-1) (bs.length-1)))∧
  st=⟨[(0,.slice bb 0 bs.length 1),(6,.fn 19 [] [.ptr H.length 0]),(7,.ptr (H.length+1) 0),(32,.slice bb 0 bs.length 1),(33,.i64 bs.length),(34,.i64 i)],Hi⟩) ?_ ?_
 ·exact aX bs.length ⟨[(0,.slice bb 0 bs.length 1),(6,.fn 19 [] [.ptr H.length 0]),(7,.ptr (H.length+1) 0),(32,.slice bb 0 bs.length 1),(33,.i64 bs.length),(34,.i64 (0:Nat))],_⟩ (by simp[St.get,ae]) rfl (fun _ _ h=>h) ⟨0,_,K,[],.nilSlice,by omega,rfl,hC1,hsb1,hKs,hLb1,hKL,.inl ⟨rfl,rfl⟩,by simp,rfl⟩
 rintro j st ⟨i,Hi,Ki,xs,nv,hij,hxl,hC,hsb,hKs,hLb,hKL,hNR,hnodes,rfl⟩-
 by_cases hi:i<bs.length
 rotate_left
 ·have hi':¬ (i:Int)<(bs.length:Int):=by omega
  simp only[go_sem,seval,hi',decide_false]
  repeat refine aI ?_
  have hil:i=bs.length:=by omega
  rcases hNR with⟨rfl,-⟩|⟨na,rfl,hx0,hna0,hnaL,hnas,hKna,hgna⟩
  ·exact absurd hxl (by simp;omega)
  have hne:∀ x∈xs,x≠na∧x≠H.length+1:=fun x hx=>by
   obtain⟨c,e,-⟩:=hnodes x hx
   exact⟨fun e2=>(by subst e2;rw[hKna] at e;cases e),fun e2=>(by subst e2;rw[hKL] at e;cases e)⟩
  have hT1:=hC.typ (b:=na) hKna hna0 (.nodes xs) rfl hgna (yr fun x hx=>by
   obtain⟨c,e,-⟩:=hnodes x hx
   exact⟨c,_,(aM (hne x hx).1).trans e⟩)
  have hT2:=hT1.typ (b:=H.length+1) (by rw[aM hnaL.symm];exact hKL) (by omega) (.link xs) rfl hLb (LinkF.row (G:=G) ⟨.inr ⟨na,rfl,hx0,by rw[aM hnaL];exact bM⟩,.inl rfl⟩)
  refine EndW.of hT2 (by simp[ac,V.low];exact aj hLb) ⟨rfl,.inr ⟨H.length+1,xs,rfl,by omega,by omega,by omega,⟨bM,fun x hx=>?_⟩⟩⟩
  obtain⟨c,e,e2⟩:=hnodes x hx
  have hcn:c≠na∧c≠H.length+1:=⟨fun e3=>(by subst e3;rw[hKna] at e2;cases e2),fun e3=>(by subst e3;rw[hKL] at e2;cases e2)⟩
  refine⟨c,bs.length-1,?_,?_,by omega,(hG0 c).1,(hG0 c).2,by rw[(hG0 x).2];exact Nat.le_refl _⟩
  ·rw[aM (hne x hx).2,aM (hne x hx).1];exact e
  ·rw[aM hcn.2,aM hcn.1];exact e2
 have hi':(i:Int)<(bs.length:Int):=by omega
 have hi0:(0:Int)≤(i:Int):=by omega
 have w1:=cd (i:=i) (by omega)
 have hgbi:=(hC.keep bb hlbb fun h=>h).trans hgb
 have hbest:(bs.map V.i64).getD i V.junk=V.i64 (bs.getD i 0):=by rw[dg V.i64 0,if_pos hi]
 simp only[go_sem,seval,hi',decide_true,hgbi,hbest,hi,hi0,List.length_map]
 repeat refine aI ?_
 have hxs3:xs.length<4:=by omega
 refine aH (fun j2 st=>∃ (k:Nat) (Hj:List (Option Blk)) (pv:V),k+j2=bs.length∧Cur K H (fun _=>False) G Ki Hj∧aa Hj H.length=some ⟨false,[.str seed],none⟩∧aa Hj (H.length+1)=some ⟨false,[nv,.nilSlice],none⟩∧NodesR H.length H.length (H.length+1) Ki Hj nv xs∧Prs H.length Ki Hj pv (if k≤i then k else k-1)∧
  st=⟨[(0,.slice bb 0 bs.length 1),(6,.fn 19 [] [.ptr H.length 0]),(7,.ptr (H.length+1) 0),(8,.i64 i),(9,.i64 (bs.getD i 0)),(10,pv),(32,.slice bb 0 bs.length 1),(33,.i64 bs.length),(34,.i64 i),(40,.i64 bs.length),(41,.i64 k)],Hj⟩) ?_ ?_
 ·exact aX bs.length ⟨[(0,.slice bb 0 bs.length 1),(6,.fn 19 [] [.ptr H.length 0]),(7,.ptr (H.length+1) 0),(8,.i64 i),(9,.i64 (bs.getD i 0)),(10,.nilSlice),(32,.slice bb 0 bs.length 1),(33,.i64 bs.length),(34,.i64 i),(40,.i64 bs.length),(41,.i64 (0:Nat))],Hi⟩ (by simp[St.get,ae]) rfl (fun _ _ h=>h) ⟨0,Hi,.nilSlice,by omega,hC,hsb,hLb,hNR,.inl ⟨by simp,rfl⟩,rfl⟩
 rintro j2 st ⟨k,Hj,pv,hkj,hCj,hsbj,hLbj,hNRj,hPj,rfl⟩-
 by_cases hk:k<bs.length
 rotate_left
 ·have hk':¬ (k:Int)<(bs.length:Int):=by omega
  simp only[go_sem,seval,hk',decide_false]
  repeat refine aI ?_
  have hPr:Prs H.length Ki Hj pv (bs.length-1):=by
   rw[if_neg (by omega)] at hPj
   rw[show bs.length-1=k-1 by omega]
   exact hPj
  refine R16 hK0 hCj hs hsbj hKs hPr (by omega) (by omega) hLbj hKL (by omega) (by omega) hNRj (i:=i) (by omega) (bs.getD i 0) (by omega) (by simp only[go_sem,seval]) (by simp only[go_sem,seval]) (by simp only[go_sem,seval]) (by simp only[go_sem,seval]) (by simp only[go_sem,seval]) hc0 (fun t' K' H' e hC' he e4 e5=>jE ?_) (fun t' nv' K' H' x hC' hsb' hKs' hLb' hKL' hNR' hxn hext hlk=>jE ?_)
  ·simp only[go_sem,e4,e5]
   exact ret_ _ _ _ _ he hC'
  ·have f0:=hlk 0 (by decide) (by decide) (by decide)
   have f6:=hlk 6 (by decide) (by decide) (by decide)
   have f7:=hlk 7 (by decide) (by decide) (by decide)
   have f32:=hlk 32 (by decide) (by decide) (by decide)
   have f33:=hlk 33 (by decide) (by decide) (by decide)
   have f34:=hlk 34 (by decide) (by decide) (by decide)
   simp only[go_sem,seval] at f0 f6 f7 f32 f33 f34
   simp only[go_sem,seval,f34]
   refine aS (j-1) ⟨[(0,.slice bb 0 bs.length 1),(6,.fn 19 [] [.ptr H.length 0]),(7,.ptr (H.length+1) 0),(32,.slice bb 0 bs.length 1),(33,.i64 bs.length),(34,.i64 (i+1:Nat))],H'⟩ (by omega) (by simp[St.get,ae,f0,f6,f7,f32,f33,w1]) rfl (fun _ _ h=>h) ⟨i+1,H',K',xs++[x],nv',by omega,by simp[hxl],hC',hsb',hKs',hLb',hKL',hNR',fun y hy=>?_,rfl⟩
   rcases List.mem_append.1 hy with hy|hy
   ·obtain⟨c,g1,g2⟩:=hnodes y hy
    exact⟨c,hext _ _ g1,hext _ _ g2⟩
   ·rw[List.mem_singleton] at hy
    subst hy
    exact hxn
 have hk':(k:Int)<(bs.length:Int):=by omega
 have w2:=cd (i:=k) (by omega)
 by_cases hki:k=i
 ·obtain rfl:=hki
  simp only[go_sem,seval,hk',decide_true]
  repeat refine aI ?_
  refine aS (j2-1) ⟨[(0,.slice bb 0 bs.length 1),(6,.fn 19 [] [.ptr H.length 0]),(7,.ptr (H.length+1) 0),(8,.i64 k),(9,.i64 (bs.getD k 0)),(10,pv),(32,.slice bb 0 bs.length 1),(33,.i64 bs.length),(34,.i64 k),(40,.i64 bs.length),(41,.i64 (k+1:Nat))],Hj⟩ (by omega) (by simp[St.get,ae,w2]) rfl (fun _ _ h=>h) ⟨k+1,Hj,pv,by omega,hCj,hsbj,hLbj,hNRj,?_,rfl⟩
  rw[if_neg (by omega)]
  rw[if_pos (Nat.le_refl _)] at hPj
  exact hPj
 have hki':¬ (k:Int)=(i:Int):=by omega
 simp only[go_sem,seval,hk',hki',decide_true,decide_false]
 repeat refine aI ?_
 refine R13 hCj hs hsbj hPj (by split <;>omega) (i:=i) (k:=k) (by omega) (by omega) (by simp only[go_sem,seval]) (by simp only[go_sem,seval]) (by simp only[go_sem,seval]) (by simp only[go_sem,seval]) hc0 fun t' v' H' hC' hP' hkeep e10 hlk=>jE ?_
 have f0:=hlk 0 (by decide) (by decide) (by decide) (by decide)
 have f6:=hlk 6 (by decide) (by decide) (by decide) (by decide)
 have f7:=hlk 7 (by decide) (by decide) (by decide) (by decide)
 have f8:=hlk 8 (by decide) (by decide) (by decide) (by decide)
 have f9:=hlk 9 (by decide) (by decide) (by decide) (by decide)
 have f32:=hlk 32 (by decide) (by decide) (by decide) (by decide)
 have f33:=hlk 33 (by decide) (by decide) (by decide) (by decide)
 have f34:=hlk 34 (by decide) (by decide) (by decide) (by decide)
 have f40:=hlk 40 (by decide) (by decide) (by decide) (by decide)
 have f41:=hlk 41 (by decide) (by decide) (by decide) (by decide)
 simp only[go_sem,seval] at f0 f6 f7 f8 f9 f32 f33 f34 f40 f41
 simp only[go_sem,seval,f41]
 refine aS (j2-1) ⟨[(0,.slice bb 0 bs.length 1),(6,.fn 19 [] [.ptr H.length 0]),(7,.ptr (H.length+1) 0),(8,.i64 i),(9,.i64 (bs.getD i 0)),(10,v'),(32,.slice bb 0 bs.length 1),(33,.i64 bs.length),(34,.i64 i),(40,.i64 bs.length),(41,.i64 (k+1:Nat))],H'⟩ (by omega) (by simp[St.get,ae,f0,f6,f7,f8,f9,f32,f33,f34,f40,e10,w2]) rfl (fun _ _ h=>h) ⟨k+1,H',v',by omega,hC',hkeep _ _ hsbj (by show 1<4;omega),hkeep _ _ hLbj (by show 2<4;omega),?_,?_,rfl⟩
 ·rcases hNRj with h|⟨na,e,h0,h1,h2,h3,h4,h5⟩
  ·exact .inl h
  ·exact .inr ⟨na,e,h0,h1,h2,h3,h4,hkeep _ _ h5 (by show(xs.map _).length<4;rw[List.length_map];exact hxs3)⟩
 ·by_cases hlt:k<i
  ·rw[if_pos (by omega)] at hP' ⊢
   exact hP'
  ·rw[if_neg (by omega)] at hP' ⊢
   rw[show k+1-1=k-1+1 by omega]
   exact hP'
theorem yY (h:WT G K H)(hK0:∀ b,K b=none)(hG0:∀ b,G.o b=0∧G.g b=0)(seed:List af){bv:V}{bs:List Int}{ro:Bool}(hb:(bs=[]∧bv= .nilSlice)∨∃ bb,bv= .slice bb 0 bs.length 1∧aa H bb=some ⟨ro,bs.map V.i64,none⟩):
  ∃ v G' K' H',Done Tryz.prog 12 [bv,.str seed] K H (fun _=>False) v G' K' H'∧jd G bs.length v G' K':=
 bE (W:=fun _=>False) (Post:=jd G bs.length) (by kernel_rfl) (fn:=Tryz.f12) Tryz.func12 rfl (by show 2≤108;decide) (MZ h hK0 hG0 seed hb rfl)
end
section
variable {G:Gh}{K K0:Nat→Option Kd}{H H0:List (Option Blk)}{a b c p q d m n M l s N:Nat}{xs:List Nat}{cs:List V}
def pI (H:List (Option Blk))(row v:V)(H':List (Option Blk)):Prop:=(row= .nilSlice∧v= .nilSlice)∨∃ a n ds N,row= .slice a 0 n 3∧aa H a=some ⟨false,ds,none⟩∧ds.length=n*3∧v= .slice N 0 n 3∧H.length≤N∧aa H' N=some ⟨false,ds,none⟩
theorem ld {B:Blk}(h:aa H a=some B):H.set a (some B)=H:=by
 refine tq (by rw[List.length_set]) fun b hb=>?_
 by_cases e:a=b
 ·subst e
  rw[aW (aj h),h]
 ·rw[aP e]
theorem JK {ds:List V}(h:ds.length=0*3):ds=[]:=List.length_eq_zero_iff.1 (by omega)
theorem PD (h:WT G K H)(hl:K l=some (.link xs)){nodes air:V}(hg:aa H l=some ⟨false,[nodes,air],none⟩):∃ v G' K' H',Done Tryz.prog 8 [.ptr l 0] K H (fun _=>False) v G' K' H'∧(G'=G∧K'=K∧pI H air v H'):=by
 have hF:=h.linkF hl hg
 have hll:=h.lt hl
 refine qi (W:=fun _=>False) (Post:=fun v G' K' H'=>G'=G∧K'=K∧pI H air v H') (by kernel_rfl) (fn:=Tryz.f8) Tryz.func8 rfl (by show 1≤Tryz.f8.ntmps;decide) (ag ?_)
 rcases hF.fair with rfl|⟨a,n,rfl,hn,ha⟩
 ·simp only[go_sem,seval,hg]
  repeat refine aI ?_
  refine aA [] (Ez) (by kernel_rfl) (by simp) rfl (by simp) (by first|decide|simp) (by simp) (by simp) (by simp) (by simp) (by simp) ?_
  simp only[go_sem,seval]
  exact EndWH.of (Cur.refl h _) trivial ⟨rfl,rfl,.inl ⟨rfl,rfl⟩⟩
 obtain⟨ds,hga,hr⟩:=h.row ha rfl
 have hlen:=jO hr
 have hla:=h.lt ha
 have hof:=lp hr
 obtain⟨o1,o2,o3⟩:=lp hr
 by_cases h0:n=0
 ·subst h0
  obtain rfl:=JK hlen
  simp only[go_sem,seval,hg]
  repeat refine aI ?_
  refine aA [a] (B6) (by kernel_rfl) (by simp) rfl (by simp) (by first|decide|simp) (by simp[hla]) (by simp) (by simp[hga]) (by simp) (by simp) ?_
  simp only[go_sem,seval]
  rw[ld hga]
  exact EndWH.of ((Cur.refl h _).junk (vs:=[]) (mm:=none) trivial) (by simp[V.low]) ⟨rfl,rfl,.inr ⟨a,0,[],H.length,rfl,hga,rfl,rfl,Nat.le_refl _,dm⟩⟩
 simp only[go_sem,seval,hg]
 repeat refine aI ?_
 refine aA [a] (C7 n (by omega) (by omega) ds hlen hof) (by kernel_rfl) (by simp) rfl (by simp) (by first|decide|simp) (by simp[hla]) (by simp) (by simp[hga,o2,o3]) (by simp) (by simp) ?_
 simp only[go_sem,seval,o2]
 rw[ld hga]
 exact EndWH.of ((Cur.refl h _).junk (vs:=ds) (mm:=none) (o3 _)) (by simp[V.low]) ⟨rfl,rfl,.inr ⟨a,n,ds,H.length,rfl,hga,hlen,rfl,Nat.le_refl _,dm⟩⟩
theorem M0 (h:WT G K H)(hl:K l=some (.link xs))(hN:∀ x∈xs,G.g x≤7000000000000)(i:Nat){x:Nat}(hx:xs[i]?=some x){v1 all:V}(hg:aa H x=some ⟨false,[v1,all],none⟩):∃ v G' K' H',Done Tryz.prog 11 [.ptr l 0,.i64 i] K H (fun _=>False) v G' K' H'∧(G'=G∧K'=K∧pI H all v H'):=by
 have hll:=h.lt hl
 have hbx:=hN x (List.mem_of_getElem? hx)
 refine qi (W:=fun _=>False) (Post:=fun v G' K' H'=>G'=G∧K'=K∧pI H all v H') (by kernel_rfl) (fn:=Tryz.f11) Tryz.func11 rfl (by show 2≤Tryz.f11.ntmps;decide) (ag ?_)
 simp only[go_sem,seval]
 repeat refine aI ?_
 refine aT (si h hl i) (by kernel_rfl) rfl (by simp[ac,V.low,hll]) h.sane ?_
 rintro _ G1 K1 H1 hC1 hl1 ⟨hG1,hK1,hv1⟩
 obtain rfl:=hG1.symm
 obtain rfl:=hK1.symm
 have hil:=(List.getElem?_eq_some_iff.1 hx).1
 rcases hv1 with⟨-,hno⟩|⟨j,y,hj,hy,rfl⟩
 ·exact absurd ⟨by omega,by omega⟩ hno
 obtain rfl:i=j:=by omega
 rw[hx] at hy
 cases hy
 have hC:=(Cur.refl h (fun _=>False)).call hC1 fun _ _ h=>h
 have e1:∀ c,c<H.length→aa H1 c=aa H c:=fun c hc=>hC1.keep c hc fun h=>h
 have hg1:=(e1 x (aj hg)).trans hg
 obtain⟨c,m,hxn⟩:∃ c m,K x=some (.node c m):=by
  obtain⟨nodes,air,hgl,hF⟩:=h.link hl
  rcases hF.fnodes with⟨h0,-⟩|⟨na,-,-,hna⟩
  ·omega
  obtain⟨ncs,hgn,hnr⟩:=h.row hna rfl
  exact((jK hnr).2 i x hx).2
 obtain⟨all',hgx,hF⟩:=hC1.wt.node hxn
 rw[hg1] at hgx
 cases hgx
 have hlen1:=hC1.len
 rcases hF.fall with rfl|⟨a,n,rfl,h0,hn,ha⟩
 ·simp only[go_sem,seval,hg1]
  repeat refine aI ?_
  refine aA [] (EA) (by kernel_rfl) (by simp) rfl (by simp) (by first|decide|simp) (by simp) (by simp) (by simp) (by simp) (by simp) ?_
  simp only[go_sem,seval]
  exact EndWH.of hC trivial ⟨rfl,rfl,.inl ⟨rfl,rfl⟩⟩
 obtain⟨ds,hga,hr⟩:=hC1.wt.row ha rfl
 have hlen:=k9 hr
 have hla:=hC1.wt.lt ha
 have hla0:=h.lt ha
 have hof:=m9 hr
 obtain⟨o1,o2,o3⟩:=m9 hr
 simp only[go_sem,seval,hg1]
 repeat refine aI ?_
 refine aA [a] (C8 n h0 (by omega) ds hlen hof) (by kernel_rfl) (by simp) rfl (by simp) (by first|decide|simp) (by simp[hla]) (by simp) (by simp[hga,o2,o3]) (by simp) (by simp) ?_
 simp only[go_sem,seval,o2]
 rw[ld hga]
 exact EndWH.of (hC.junk (vs:=ds) (mm:=none) (o3 _)) (by simp[V.low]) ⟨rfl,rfl,.inr ⟨a,n,ds,H1.length,rfl,(e1 a hla0).symm.trans hga,hlen,rfl,hlen1,dm⟩⟩
end
section
variable {G:Gh}{K K0:Nat→Option Kd}{H H0:List (Option Blk)}{a b c p q d m n M l s N x:Nat}{xs:List Nat}{cs:List V}
theorem M8 (h:WT G K H)(hd:K d=some (.dev m n))(h0:G.o d=0):∃ v G' K' H',Done Tryz.prog 14 [.ptr d 0] K H (fun _=>False) v G' K' H'∧br (fun v=>v= .nilSlice) G K v G' K':=by
 obtain⟨here,own,pub,seed,best,fresh,secret,index,firsts,now,busy,peers,paths,bucket,out,got,hg,hF⟩:=h.dev hd
 have hlt:=h.lt hd
 obtain rfl:out= .nilSlice:=by
  rcases hF.fout with e|⟨a,n,e,h1,h2,-⟩
  ·exact e
  ·omega
 refine bE (W:=fun _=>False) (Post:=br (fun v=>v= .nilSlice) G K) (by kernel_rfl) (fn:=Tryz.f14) Tryz.func14 rfl (by show 1≤11;decide) (ag ?_)
 simp only[go_sem,seval,hg,ld hg]
 repeat refine aI ?_
 exact EndW.of (Cur.refl h _) trivial ⟨rfl,rfl,rfl⟩
theorem M9 (h:WT G K H)(hd:K d=some (.dev m n))(h0:G.g d=0):∃ v G' K' H',Done Tryz.prog 15 [.ptr d 0] K H (fun _=>False) v G' K' H'∧br (fun v=>v= .nilSlice) G K v G' K':=by
 obtain⟨here,own,pub,seed,best,fresh,secret,index,firsts,now,busy,peers,paths,bucket,out,got,hg,hF⟩:=h.dev hd
 have hlt:=h.lt hd
 obtain rfl:got= .nilSlice:=by
  rcases hF.fgot with e|⟨a,n,e,h1,h2,-⟩
  ·exact e
  ·omega
 refine bE (W:=fun _=>False) (Post:=br (fun v=>v= .nilSlice) G K) (by kernel_rfl) (fn:=Tryz.f15) Tryz.func15 rfl (by show 1≤11;decide) (ag ?_)
 simp only[go_sem,seval,hg,ld hg]
 repeat refine aI ?_
 exact EndW.of (Cur.refl h _) trivial ⟨rfl,rfl,rfl⟩
theorem Na (h:WT G K H)(hl:K l=some (.link xs)):∃ v G' K' H',Done Tryz.prog 13 [.ptr l 0,.agg [.i64 0,.i64 0,.i64 0,.i64 0,.u32 0#32,.u32 0#32,.str []]] K H (fun _=>False) v G' K' H'∧br (fun v=>v= .i64 1) G K v G' K':=by
 have hll:=h.lt hl
 have hll1:l<H.length+1:=by omega
 have hC0:=(Cur.refl h (fun _=>False)).junk (vs:=[.i64 0,.i64 0,.i64 0,.i64 0,.u32 0#32,.u32 0#32,.str []]) (mm:=none) (by simp[ac,V.low])
 have hl0:(H++[some (⟨false,[.i64 0,.i64 0,.i64 0,.i64 0,.u32 0#32,.u32 0#32,.str []],none⟩:Blk)]).length=H.length+1:=by simp
 refine bE (W:=fun _=>False) (Post:=br (fun v=>v= .i64 1) G K) (by kernel_rfl) (fn:=Tryz.f13) Tryz.func13 rfl (by show 2≤84;decide) (ag ?_)
 simp only[go_sem,seval,dm]
 repeat refine aI ?_
 refine aT (si hC0.wt hl 0) (by kernel_rfl) rfl (by simp[ac,V.low,hll1]) hC0.wt.sane ?_
 rintro _ G1 K1 H1 hC1 hl1 ⟨hG1,hK1,hv1⟩
 obtain rfl:=hG1.symm
 obtain rfl:=hK1.symm
 have hD1:=hC0.call hC1 fun _ _ h=>h
 have hact:=(hC1.keep H.length (by rw[hl0];omega) fun h=>h).trans dm
 simp only[go_sem,seval,hact,decide_false]
 repeat refine aI ?_
 exact EndW.of hD1 trivial ⟨rfl,rfl,rfl⟩
theorem PE (h:WT G K H)(hI:LkInv G K l xs 0)(hx3:xs.length≤3):
  ∃ v G' K' H',Done Tryz.prog 6 [.ptr l 0,.agg [.i64 0,.i64 0,.i64 0,.i64 0,.u32 0#32,.u32 0#32,.str []]] K H (fun _=>False) v G' K' H'∧br (fun v=>v= .i64 1) G K v G' K':=by
 have hl:=hI.link
 have hll:=h.lt hl
 have hll1:l<H.length+1:=by omega
 have hC0:=(Cur.refl h (fun _=>False)).junk (vs:=[.i64 0,.i64 0,.i64 0,.i64 0,.u32 0#32,.u32 0#32,.str []]) (mm:=none) (by simp[ac,V.low])
 refine bE (W:=fun _=>False) (Post:=br (fun v=>v= .i64 1) G K) (by kernel_rfl) (fn:=Tryz.f6) Tryz.func6 rfl (by show 2≤64;decide) (ag ?_)
 simp only[go_sem,seval,dm]
 repeat refine aI ?_
 refine aT (Na hC0.wt hl) (by kernel_rfl) rfl (by simp[ac,V.low,hll1]) hC0.wt.sane ?_
 rintro _ G1 K1 H1 hC1 hl1 ⟨hG1,hK1,rfl⟩
 obtain rfl:=hG1.symm
 obtain rfl:=hK1.symm
 have hD1:=hC0.call hC1 fun _ _ h=>h
 obtain⟨nodes,air,hgl,hF⟩:=hC1.wt.link hl
 rcases hF.fnodes with⟨hx0,rfl⟩|⟨na,rfl,hx0,hna⟩
 ·simp only[go_sem,seval,hgl]
  repeat refine aI ?_
  refine bI 1 ?_
  simp only[go_sem,seval]
  exact EndW.of hD1 trivial ⟨rfl,rfl,rfl⟩
 simp only[go_sem,seval,hgl]
 repeat refine aI ?_
 refine aH (fun j st=>∃ (i:Nat) (Hi:List (Option Blk)),i+j=xs.length∧Cur K H (fun _=>False) G K Hi∧st=⟨[(0,.ptr l 0),(5,.i64 1),(16,.slice na 0 xs.length 1),(17,.i64 xs.length),(18,.i64 i)],Hi⟩) ?_ ?_
 ·exact aX xs.length ⟨[(0,.ptr l 0),(5,.i64 1),(16,.slice na 0 xs.length 1),(17,.i64 xs.length),(18,.i64 (0:Nat))],H1⟩ (by simp[St.get,ae]) rfl (fun _ _ h=>h) ⟨0,H1,by omega,hD1,rfl⟩
 rintro j st ⟨i,Hi,hij,hC,rfl⟩-
 by_cases hi:i<xs.length
 rotate_left
 ·have hi':¬ (i:Int)<(xs.length:Int):=by omega
  simp only[go_sem,seval,hi',decide_false]
  repeat refine aI ?_
  exact EndW.of hC trivial ⟨rfl,rfl,rfl⟩
 have hi':(i:Int)<(xs.length:Int):=by omega
 have hi0:(0:Int)≤(i:Int):=by omega
 have w1:=cd (i:=i) (by omega)
 obtain⟨ncs,hgn,hnr⟩:=hC.wt.row hna rfl
 obtain⟨hnlen,hnrow⟩:=jK hnr
 obtain⟨hx,-⟩:=hnrow i xs[i] (List.getElem?_eq_getElem hi)
 obtain⟨c,m,hxn,hcd,hm8,hco,hcg,hxg⟩:=hI.node _ (List.getElem_mem hi)
 obtain⟨all,hgx,hXF⟩:=hC.wt.node hxn
 generalize xs[i]=x at*
 obtain rfl:all= .nilSlice:=by
  rcases hXF.fall with e|⟨a,n,e,h1,h2,-⟩
  ·exact e
  ·omega
 have hlx:=hC.wt.lt hxn
 simp only[go_sem,seval,hi',decide_true,hgn,hx,hgx,hnlen,hi,hi0]
 repeat refine aI ?_
 refine aT (M8 hC.wt hcd hco) (by kernel_rfl) rfl (by simp[ac,V.low,hC.wt.lt hcd]) hC.wt.sane ?_
 rintro _ G2 K2 H2 hC2 hl2 ⟨hG2,hK2,rfl⟩
 obtain rfl:=hG2.symm
 obtain rfl:=hK2.symm
 have hD2:=hC.call hC2 fun _ _ h=>h
 have hgx2:=(hC2.keep x hlx fun h=>h).trans hgx
 have hlx2:=hC2.wt.lt hxn
 simp only[go_sem,seval]
 repeat refine aI ?_
 refine bI 1 ?_
 simp only[go_sem,seval,hgx2]
 repeat refine aI ?_
 refine bN (M9 hC2.wt hcd hcg) (by kernel_rfl) rfl (by simp[ac,V.low,hC2.wt.lt hcd]) hC2.wt.sane ?_
 rintro _ G3 K3 H3 hC3 hl3 ⟨hG3,hK3,rfl⟩
 obtain rfl:=hG3.symm
 obtain rfl:=hK3.symm
 have hD3:=hD2.call hC3 fun _ _ h=>h
 have hgx3:=(hC3.keep x hlx2 fun h=>h).trans hgx2
 have hlx3:=hC3.wt.lt hxn
 simp only[go_sem,seval,hgx3,ld hgx3]
 repeat refine aI ?_
 refine And.intro ?_ ?_
 ·refine co (cM H2.length) [([],[]),([],[]),([],[]),([],[]),([0],[]),([],[]),([],[]),([],[]),([0],[]),([0,1],[1]),([],[]),([],[]),([],[]),([0],[0])] (by kernel_rfl) (by simp only[cC,cD,cE,eH,all_cons,ia,List.nil_append,jN,ce hlx2,cT,and_true])
 exact aS (j-1) ⟨[(0,.ptr l 0),(5,.i64 1),(16,.slice na 0 xs.length 1),(17,.i64 xs.length),(18,.i64 (i+1:Nat))],H3⟩ (by omega) (by simp[St.get,ae,w1]) rfl (fun _ _ h=>h) ⟨i+1,H3,by omega,hD3,rfl⟩
theorem rf {P:Program}{f:FuncId}{args:List V}{v:V}{G':Gh}{K':Nat→Option Kd}{H':List (Option Blk)}(h:Done P f args K H (fun _=>False) v G' K' H')(hs:Sane H)(hv:v.low H.length):ao P f args H v H:=by
 intro ρ w rargs ha hm
 refine(h.spec ρ w rargs ha hm).mono ?_
 rintro e w' ⟨r,ρ',rfl,h1,h2,h3,h4,h5⟩
 have hkeep:∀ b B,aa H b=some B→aa H' b=some B:=fun b B e=>(h.cur.keep b (aj e) fun h=>h).trans e
 have hdom:∀ b,b<H.length→ρ b=ρ' b:=fun b hb=>(h4 b hb).symm
 refine⟨r,ρ,rfl,(VR.restrict h1 hv).mono (fun b hb=>hdom b hb) (fun b hb=>hb) (Lasts.refl _),⟨fun b B e=>aj e,fun b B e=>?_,fun b b' B B' e e' hr hn=>?_,fun b B e i v hi=>?_,fun b B e hr i hi=>?_,fun b B m e hm=>?_⟩,Nat.le_refl _,fun _ _=>rfl,⟨h5.os,h5.output,h5.tape,h5.size,h5.keep,h5.lasts,fun b B e hr=> .inl ⟨b,B,e,hr,rfl⟩⟩⟩
 ·rw[hdom b (aj e)];exact h2.lt b B (hkeep b B e)
 ·rw[hdom b (aj e),hdom b' (aj e')];exact h2.inj b b' B B' (hkeep b B e) (hkeep b' B' e') hr hn
 ·rw[hdom b (aj e)]
  obtain⟨r,g1,g2⟩:=h2.cell b B (hkeep b B e) i v hi
  have hl:v.low H.length:=mR (hs b B e).1 hi
  exact⟨r,g1,(VR.restrict g2 hl).mono (fun b hb=>hdom b hb) (fun b hb=>hb) (Lasts.refl _)⟩
 ·rw[hdom b (aj e)];exact h2.free b B (hkeep b B e) hr i hi
 ·rw[hdom b (aj e)];exact h2.mapc b B m (hkeep b B e) hm
end
end Go.Vm
end
section
namespace Go.Vm
section
open Go Go.RowKit
mutual
theorem V.ren_congr {σ τ:Nat→Nat}{n:Nat}(h:∀ b,b<n→σ b=τ b):∀ (v:V),v.low n→v.ren σ=v.ren τ
 | .junk,_| .bool _,_| .u8 _,_| .u32 _,_| .u64 _,_| .i64 _,_| .i32 _,_| .str _,_| .nilPtr,_| .nilSlice,_| .nilFn,_| .nilIface,_=>by unfold V.ren;rfl
 | .aFn _ _ v,hb=>by unfold V.low at hb;unfold V.ren;rw[V.ren_congr h v hb]
 | .ptr b _,hb=>by unfold V.low at hb;unfold V.ren;rw[h b hb]
 | .map b,hb=>by unfold V.low at hb;unfold V.ren;rw[h b hb]
 | .slice b _ _ _,hb=>by unfold V.low at hb;unfold V.ren;rw[h b hb]
 | .fn _ fs cs,hb=>by unfold V.low at hb;unfold V.ren;rw[kK h fs hb.1,kK h cs hb.2]
 | .agg cs,hb=>by unfold V.low at hb;unfold V.ren;rw[kK h cs hb]
 | .tup cs,hb=>by unfold V.low at hb;unfold V.ren;rw[kK h cs hb]
 | .iface _ v,hb=>by unfold V.low at hb;unfold V.ren;rw[V.ren_congr h v hb]
theorem kK {σ τ:Nat→Nat}{n:Nat}(h:∀ b,b<n→σ b=τ b):∀ (l:List V),ac n l→rens σ l=rens τ l
 |[],_=>by unfold rens;rfl
 |v::l,hb=>by unfold ac at hb;unfold rens;rw[V.ren_congr h v hb.1,kK h l hb.2]
end
structure Emb (sg:List Nat) (h H:List (Option Blk)):Prop where
 len:sg.length=h.length
 nd:sg.Nodup
 lt:∀ b∈sg,b<H.length
 blk:∀ b B,aa h b=some B→aa H (ah sg b)=some ⟨B.ro,rens (ah sg) B.cs,B.mp⟩∧ac h.length B.cs
structure Nxt (h h':List (Option Blk)):Prop where
 le:h.length≤h'.length
 ro:∀ b B,aa h' b=some B→(h.length≤b∨aa h b=none)→B.ro=false
 sane:∀ b B,aa h' b=some B→ac h'.length B.cs
section
variable {sg sg1 sg2:List Nat}{h h' h1 h2 h1' H H':List (Option Blk)}{P:Program}{m n:Nat}{R:Exit→St→Prop}{k:List Fr}{l:List Oper}{ops:Array Oper}{dst:Option Tmp}{f:FuncId}{args args0:List V}{v v':V}{t:List (Nat×V)}
theorem Emb.mem (hE:Emb sg h H){i:Nat}(hi:i<h.length):ah sg i∈sg:=List.mem_of_getElem? (fK (by rw[hE.len];exact hi))
theorem Emb.ltOf (hE:Emb sg h H){i:Nat}(hi:i<h.length):ah sg i<H.length:=hE.lt _ (hE.mem hi)
theorem kV {b N:Nat}(hb:b∈au sg N h'):b∈sg∨(N≤b∧b<N+(h'.length-sg.length)):=by
 rcases List.mem_append.1 hb with hb|hb
 ·exact .inl hb
 ·rw[List.mem_range'_1] at hb;exact .inr hb
theorem Emb.call (hE:Emb sg h H)(hN:Nxt h h'):Emb (au sg H.length h') h' (az sg H h'):=by
 have hl:=hE.len
 have hle:=hN.le
 refine⟨?_,?_,fun b hb=>?_,fun b B e=>⟨?_,hN.sane b B e⟩⟩
 ·unfold au;rw[List.length_append,List.length_range'];omega
 ·unfold au
  refine List.nodup_append.2 ⟨hE.nd,List.nodup_range',fun a ha b hb e=>?_⟩
  have :=hE.lt a ha
  rw[List.mem_range'_1] at hb
  omega
 ·rw[df]
  rcases kV hb with hb|hb
  ·have :=hE.lt b hb;omega
  ·omega
 ·have :=Kl (sg:=sg) (H:=H) (h':=h') hE.nd hE.lt (aj e)
  rw[e] at this
  exact this
theorem mF {N:Nat}(h0:0<sg.length):ah (au sg N h') 0=ah sg 0:=iU h0
theorem fJ (hE:Emb sg h H)(hs:ao P f args0 h v h')(hN:Nxt h h')(hc:cw P f=true)(ha:rens (ah sg) args0=args)(hlow:ac h.length args0)(hv:v.ren (ah (au sg H.length h'))=v')
  (hk:dp P m n R l ops k ⟨cz t dst v',az sg H h'⟩):gH P m n R (.fn f [] []) args dst l ops k ⟨t,H⟩:=by
 have hS:=md (get0:=aa H) (nid:=H.length) hs hE.len hlow hE.nd hE.lt hE.blk hN.ro hN.le
 refine⟨cO sg H.length v h',.inl ⟨f,[],[],rfl,hc,trivial,?_⟩,?_⟩
 ·rw[ha] at hS
  rw[List.append_nil]
  exact hS
 ·show bT P n ops l ⟨cz t dst (v.ren (ah (au sg H.length h'))),az sg H h'⟩ _
  rw[hv]
  exact hk
theorem iE {tr:Tr}(hE:Emb sg h H)(hs:ao P f args0 h v h')(hN:Nxt h h')(hc:cw P f=true)(ha:rens (ah sg) args0=args)(hlow:ac h.length args0)(hv:v.ren (ah (au sg H.length h'))=v')
  (hk:dn P m n R l (tr++[(sg,sg++List.range' H.length (h'.length-sg.length))]) ops k ⟨cz t dst v',az sg H h'⟩):eF P m n R (.fn f [] []) args dst l tr ops k ⟨t,H⟩:=by
 have hS:=md (get0:=aa H) (nid:=H.length) hs hE.len hlow hE.nd hE.lt hE.blk hN.ro hN.le
 have hl:=hE.len
 have hle:=hN.le
 have hfo:(cO sg H.length v h').old.map (·.1)=sg:=xS (by omega)
 have hfn:(cO sg H.length v h').news.length=h'.length-sg.length:=by
  show(cK _ sg h').length=_
  rw[iL,List.length_map,List.length_drop]
 refine⟨cO sg H.length v h',.inl ⟨f,[],[],rfl,hc,trivial,?_⟩,fun x hx=>?_,?_⟩
 ·rw[ha] at hS
  rw[List.append_nil]
  exact hS
 ·have :x.1∈(cO sg H.length v h').old.map (·.1):=List.mem_map.2 ⟨x,hx,rfl⟩
  rw[hfo] at this
  exact hE.lt _ this
 ·have hf:aZ ⟨t,H⟩ (cO sg H.length v h')=(sg,sg++List.range' H.length (h'.length-sg.length)):=by
   unfold aZ
   rw[hfo,hfn];rfl
  rw[hf]
  show dc P n ops _ l _ ⟨cz t dst (v.ren (ah (au sg H.length h'))),az sg H h'⟩
  rw[hv]
  exact hk
theorem Emb.shrink (hE:Emb sg h' H)(hle:h.length≤h'.length)(hk:∀ b B,aa h b=some B→aa h' b=some B∧ac h.length B.cs):Emb (sg.take h.length) h H:=by
 have hl:=hE.len
 have hsg:∀ b,b<h.length→ah (sg.take h.length) b=ah sg b:=fun b hb=>by
  unfold ah
  rw[List.getD_eq_getElem?_getD,List.getD_eq_getElem?_getD,List.getElem?_take_of_lt hb]
 refine⟨by rw[List.length_take];omega,hE.nd.sublist (List.take_sublist _ _),fun b hb=>hE.lt b (List.mem_of_mem_take hb),fun b B e=>?_⟩
 obtain⟨g1,g2⟩:=hk b B e
 obtain⟨q1,-⟩:=hE.blk b B g1
 refine⟨?_,g2⟩
 rw[hsg b (aj e),q1]
 have :rens (ah sg) B.cs=rens (ah (sg.take h.length)) B.cs:=kK (fun b hb=>(hsg b hb).symm) _ g2
 rw[this]
theorem wy {N:Nat}(hl:sg.length=h.length):(au sg N h').take h.length=sg:=by
 unfold au
 rw[←hl,List.take_left']
 rfl
theorem Emb.stay (hE:Emb sg h H)(hle:H.length≤H'.length)(hk:∀ i B,aa h i=some B→aa H' (ah sg i)=aa H (ah sg i)):Emb sg h H':=
 ⟨hE.len,hE.nd,fun b hb=>Nat.lt_of_lt_of_le (hE.lt b hb) hle,fun b B e=>⟨(hk b B e).trans (hE.blk b B e).1,(hE.blk b B e).2⟩⟩
end
end
section
open Go Go.RowKit
structure TwoL (β:Nat) (bB:Blk) (sg1:List Nat) (h1:List (Option Blk)) (sg2:List Nat) (h2 H:List (Option Blk)):Prop where
 e1:Emb sg1 h1 H
 e2:Emb sg2 h2 H
 z1:ah sg1 0=β
 z2:ah sg2 0=β
 b1:aa h1 0=some bB
 b2:aa h2 0=some bB
 ap:∀ i j,i<sg1.length→j<sg2.length→ah sg1 i=ah sg2 j→i=0∧j=0
section
variable {β:Nat}{bB:Blk}{sg sg1 sg2:List Nat}{h h1 h2 h1' H H':List (Option Blk)}
theorem TwoL.swap (h:TwoL β bB sg1 h1 sg2 h2 H):TwoL β bB sg2 h2 sg1 h1 H:=⟨h.e2,h.e1,h.z2,h.z1,h.b2,h.b1,fun i j hi hj e=>(h.ap j i hj hi e.symm).symm⟩
theorem yZ (hp:∀ σ,rens σ bB.cs=bB.cs)(σ:Nat→Nat):(⟨bB.ro,rens σ bB.cs,bB.mp⟩:Blk)=bB:=by rw[hp]
theorem TwoL.bH (h:TwoL β bB sg1 h1 sg2 h2 H)(hp:∀ σ,rens σ bB.cs=bB.cs):aa H β=some bB:=by
 have :=(h.e1.blk 0 bB h.b1).1
 rw[h.z1,yZ hp] at this
 exact this
theorem Emb.idx (hE:Emb sg h H){b:Nat}(hb:b∈sg):∃ i,i<sg.length∧ah sg i=b:=by
 obtain⟨i,hi,rfl⟩:=List.getElem_of_mem hb
 exact⟨i,hi,by unfold ah;rw[List.getD_eq_getElem?_getD,List.getElem?_eq_getElem hi];rfl⟩
theorem TwoL.left (h:TwoL β bB sg1 h1 sg2 h2 H)(hp:∀ σ,rens σ bB.cs=bB.cs)(hN:Nxt h1 h1')(h0:aa h1' 0=some bB):TwoL β bB (au sg1 H.length h1') h1' sg2 h2 (az sg1 H h1'):=by
 have hl1:=h.e1.len
 have hl2:=h.e2.len
 have h0l:=aj h.b1
 have hE:=h.e1.call hN
 have hz:ah (au sg1 H.length h1') 0=β:=by rw[iU (by omega)];exact h.z1
 have hβ:aa (az sg1 H h1') β=some bB:=by
  have :=(hE.blk 0 bB h0).1
  rw[hz,yZ hp] at this
  exact this
 refine⟨hE,h.e2.stay (by rw[df];omega) fun i B e=>?_,hz,h.z2,h0,h.b2,fun i j hi hj e=>?_⟩
 ·have hi:=aj e
  by_cases hm:ah sg2 i∈sg1
  ·obtain⟨j,hj,ej⟩:=h.e1.idx hm
   obtain⟨rfl,rfl⟩:=h.ap j i hj (by omega) ej
   rw[h.z2,hβ,h.bH hp]
  ·exact iM (h.e2.ltOf hi) hm
 ·by_cases hi1:i<sg1.length
  ·rw[iU hi1] at e
   exact h.ap i j hi1 hj e
  ·have hlt:=h.e2.ltOf (i:=j) (by omega)
   have :i<h1'.length:=by
    have :=hE.len
    omega
   rw[fM (by omega) this] at e
   omega
theorem TwoL.shrink (h:TwoL β bB sg1 h1' sg2 h2 H)(hle:h1.length≤h1'.length)(h0:aa h1 0=some bB)(hk:∀ b B,aa h1 b=some B→aa h1' b=some B∧ac h1.length B.cs):TwoL β bB (sg1.take h1.length) h1 sg2 h2 H:=by
 have hl:=h.e1.len
 have h0l:=aj h0
 have hsg:∀ b,b<h1.length→ah (sg1.take h1.length) b=ah sg1 b:=fun b hb=>by
  unfold ah
  rw[List.getD_eq_getElem?_getD,List.getD_eq_getElem?_getD,List.getElem?_take_of_lt hb]
 refine⟨h.e1.shrink hle hk,h.e2,by rw[hsg 0 h0l];exact h.z1,h.z2,h0,h.b2,fun i j hi hj e=>?_⟩
 rw[List.length_take] at hi
 rw[hsg i (by omega)] at e
 exact h.ap i j (by omega) hj e
theorem TwoL.read (h:TwoL β bB sg1 h1 sg2 h2 H)(hp:∀ σ,rens σ bB.cs=bB.cs)(hN:Nxt h1 h1')(hk:∀ b B,aa h1 b=some B→aa h1' b=some B)(hs:∀ b B,aa h1 b=some B→ac h1.length B.cs):TwoL β bB sg1 h1 sg2 h2 (az sg1 H h1'):=by
 have :=(h.left hp hN (hk 0 bB h.b1)).shrink hN.le h.b1 fun b B e=>⟨hk b B e,hs b B e⟩
 rwa [wy h.e1.len] at this
theorem TwoL.stay (h:TwoL β bB sg1 h1 sg2 h2 H)(hle:H.length≤H'.length)(hk:∀ b,b∈sg1∨b∈sg2→aa H' b=aa H b):TwoL β bB sg1 h1 sg2 h2 H':=by
 have hl1:=h.e1.len
 have hl2:=h.e2.len
 exact⟨h.e1.stay hle fun i B e=>hk _ (.inl (h.e1.mem (aj e))),h.e2.stay hle fun i B e=>hk _ (.inr (h.e2.mem (aj e))),h.z1,h.z2,h.b1,h.b2,h.ap⟩
end
end
end Go.Vm
end
section
namespace Go.Vm
open Go.Proofs
section
variable {G:Gh}{K K0:Nat→Option Kd}{H H0 h h':List (Option Blk)}{a b c p q d m n M l s N x:Nat}{xs:List Nat}{cs:List V}{bB:Blk}
structure LInv (bB:Blk) (l:Nat) (xs:List Nat) (N:Nat) (h:List (Option Blk)) (G:Gh) (K:Nat→Option Kd):Prop where
 wt:WT G K h
 inv:LkInv G K l xs N
 b0:aa h 0=some bB
 k0:K 0=none
theorem nj {P:Program}{f:FuncId}{args:List V}{v:V}{W:Nat→Prop}{G':Gh}{K':Nat→Option Kd}(hd:Done P f args K h W v G' K' h'):Nxt h h':=by
 refine⟨hd.cur.len,fun b B e hor=>?_,fun b B e=>(hd.cur.wt.sane b B e).1⟩
 cases r:B.ro with
 |false=>rfl
 |true=>
  obtain⟨g1,g2⟩:=hd.cur.ro b B e r
  rcases hor with hb|hb
  ·omega
  ·rw[g2] at hb
   cases hb
def ActC (cs:List V):Prop:=∃ (kind A B C:Int) (src dst:BitVec 32) (txt:List af),cs=[.i64 kind,.i64 A,.i64 B,.i64 C,.u32 src,.u32 dst,.str txt]∧txt.length≤140737488355328
theorem Nb (hL:LInv bB l xs N h G K)(hx3:xs.length≤3)(hN:N≤6000000000000)(ha:ActC cs):∃ (e:Int) (h':List (Option Blk)),ao Tryz.prog 6 [.ptr l 0,.agg cs] h (.i64 e) h'∧Nxt h h'∧∃ G' K',LInv bB l xs (N+2) h' G' K':=by
 obtain⟨kind,A,B,C,src,dst,txt,rfl,htx⟩:=ha
 obtain⟨v,G',K',h',hd,hI,e,rfl⟩:=RB hL.wt hL.inv hx3 hN kind A B C src dst txt htx
 refine⟨e,h',hd.spec,nj hd,G',K',hd.cur.wt,hI,?_,hd.cur.unt 0 (aj hL.b0) hL.k0⟩
 exact(hd.cur.keep 0 (aj hL.b0) fun h=>h hL.k0).trans hL.b0
def tR (Fs:List Ft)(h:List (Option Blk))(row v:V)(h':List (Option Blk)):Prop:=(row= .nilSlice∧v= .nilSlice)∨∃ a n ds N,row= .slice a 0 n 3∧aa h a=some ⟨false,ds,none⟩∧ds.length=n*3∧v= .slice N 0 n 3∧h.length≤N∧aa h' N=some ⟨false,ds,none⟩∧∃ K,Row K (aU n Fs) ds
theorem yt (hL:LInv bB l xs N h G K)(hN:N≤7000000000000){i:Nat}(hx:xs[i]?=some x):∃ (row:V),(∃ v1,aa h x=some ⟨false,[v1,row],none⟩)∧∃ (v:V) (h':List (Option Blk)),ao Tryz.prog 11 [.ptr l 0,.i64 i] h v h'∧Nxt h h'∧(∀ b B,aa h b=some B→aa h' b=some B)∧tR packF h row v h'∧v.low h'.length:=by
 obtain⟨c,m,hxn,hcd,-,-,-,hxg⟩:=hL.inv.node x (List.mem_of_getElem? hx)
 obtain⟨all,hg,hF⟩:=hL.wt.node hxn
 refine⟨all,⟨_,hg⟩,?_⟩
 obtain⟨v,G',K',h',hd,-,-,hcp⟩:=M0 hL.wt hL.inv.link (fun y hy=>by
  obtain⟨_,_,-,-,-,-,-,g⟩:=hL.inv.node y hy
  omega) i hx hg
 refine⟨v,h',hd.spec,nj hd,fun b B e=>(hd.cur.keep b (aj e) fun h=>h).trans e,?_,hd.low⟩
 rcases hcp with⟨rfl,rfl⟩|⟨a,n,ds,N,rfl,g1,g2,rfl,g3,g4⟩
 ·exact .inl ⟨rfl,rfl⟩
 ·refine .inr ⟨a,n,ds,N,rfl,g1,g2,rfl,g3,g4,K,?_⟩
  rcases hF.fall with e|⟨a',n',e,-,-,ha⟩
  ·cases e
  ·cases e
   exact hL.wt.rowOf ha rfl g1
theorem Nc:am Tryz.prog 7 [.nilSlice,.nilSlice] (.bool true):=by
 refine aw (by kernel_rfl) (fn:=Tryz.f7) (by kernel_rfl) Tryz.func7 rfl (by show 2≤26;decide) (by simp[ac,V.low]) (by simp[V.low]) (ag ?_)
 simp only[go_sem,seval,Tryz.ntmps7]
 refine bI 1 ?_
 simp only[go_sem,seval]
theorem y6:am Tryz.prog 10 [.nilSlice,.nilSlice] (.bool true):=by
 refine aw (by kernel_rfl) (fn:=Tryz.f10) (by kernel_rfl) Tryz.func10 rfl (by show 2≤26;decide) (by simp[ac,V.low]) (by simp[V.low]) (ag ?_)
 simp only[go_sem,seval,Tryz.ntmps10]
 refine bI 1 ?_
 simp only[go_sem,seval]
theorem JL (n:Nat)(hn2:n≤7000000000000)(ds:List V)(hr:Row K (aU n gramF) ds):ao Tryz.prog 7 [.slice 0 0 n 3,.slice 1 0 n 3] [some ⟨false,ds,none⟩,some ⟨false,ds,none⟩] (.bool true) [some ⟨false,ds,none⟩,some ⟨false,ds,none⟩]:=by
 obtain⟨o1,o2,o3⟩:=lp hr
 have hlen:=jO hr
 refine aR (by kernel_rfl) (fn:=Tryz.f7) Tryz.func7 rfl (by show 2≤26;decide) (ag ?_)
 simp only[go_sem,seval,Tryz.ntmps7]
 refine aH (fun ji st=>∃ i:Nat,i+ji=n∧st=⟨[(1,.slice 1 0 n 3),(12,.slice 0 0 n 3),(13,.i64 n),(14,.i64 (i:Nat))],[some ⟨false,ds,none⟩,some ⟨false,ds,none⟩]⟩) ?_ ?_
 ·exact aX (n) ⟨[(1,.slice 1 0 n 3),(12,.slice 0 0 n 3),(13,.i64 n),(14,.i64 ((0:Nat):Nat))],[some ⟨false,ds,none⟩,some ⟨false,ds,none⟩]⟩ (by simp[St.get,ae,-List.map_set,-List.map_map]) rfl (fun _ _ h=>h) ⟨0,by omega,rfl⟩
 rintro ji st ⟨i,hi,rfl⟩ _
 simp only[go_sem,seval]
 by_cases hi2:i<n
 rotate_left
 ·have hi':¬ (i:Int)<(n:Int):=by omega
  simp only[go_sem,seval,hi']
  exact Fin.id (s:=⟨_,[some ⟨false,ds,none⟩,some ⟨false,ds,none⟩]⟩) (by show 2≤2;omega)
 have hi':(i:Int)<(n:Int):=by omega
 have hi0:(0:Int)≤(i:Int):=by omega
 have hgr:=m7 hr hi2
 have hrow:∃ (fr tg:BitVec 32) (tx:List af),(ds.drop (i*3)).take 3=[.u32 fr,.u32 tg,.str tx]:=by
  have e3:gramF.length=3:=rfl
  rw[e3] at hgr
  generalize (ds.drop (i*3)).take 3=r at hgr
  match r,hgr with
  |[v0,v1,v2],⟨⟨f,e0⟩,⟨t,e1⟩,⟨s,e2,h1,h2⟩,_⟩=>exact⟨f,t,s,by rw[e0,e1,e2]⟩
 obtain⟨fr,tg,tx,hcell⟩:=hrow
 have hm3:min 3 (ds.length-i*3)=3:=by omega
 simp only[go_sem,seval,hi',hi0,hcell,hm3]
 repeat refine aI ?_
 have hw1:ai ((i:Int)+1)=((i+1:Nat):Int):=by rw[al (by omega) (by omega)];omega
 refine db (ji-1) ⟨[(1,.slice 1 0 n 3),(12,.slice 0 0 n 3),(13,.i64 n),(14,.i64 ((i+1:Nat):Nat))],[some ⟨false,ds,none⟩,some ⟨false,ds,none⟩]⟩ [0,1] (by omega) rfl (by simp) rfl (by decide) (by simp[cp,St.get,ae,hw1,-List.map_map,-List.map_set]) (by simp[o2,o3]) ⟨i+1,by omega,rfl⟩
theorem yu (n:Nat)(hn2:n≤7000000000000)(ds:List V)(hr:Row K (aU n packF) ds):ao Tryz.prog 10 [.slice 0 0 n 3,.slice 1 0 n 3] [some ⟨false,ds,none⟩,some ⟨false,ds,none⟩] (.bool true) [some ⟨false,ds,none⟩,some ⟨false,ds,none⟩]:=by
 obtain⟨o1,o2,o3⟩:=m9 hr
 have hlen:=k9 hr
 refine aR (by kernel_rfl) (fn:=Tryz.f10) Tryz.func10 rfl (by show 2≤26;decide) (ag ?_)
 simp only[go_sem,seval,Tryz.ntmps10]
 refine aH (fun ji st=>∃ i:Nat,i+ji=n∧st=⟨[(1,.slice 1 0 n 3),(12,.slice 0 0 n 3),(13,.i64 n),(14,.i64 (i:Nat))],[some ⟨false,ds,none⟩,some ⟨false,ds,none⟩]⟩) ?_ ?_
 ·exact aX (n) ⟨[(1,.slice 1 0 n 3),(12,.slice 0 0 n 3),(13,.i64 n),(14,.i64 ((0:Nat):Nat))],[some ⟨false,ds,none⟩,some ⟨false,ds,none⟩]⟩ (by simp[St.get,ae,-List.map_set,-List.map_map]) rfl (fun _ _ h=>h) ⟨0,by omega,rfl⟩
 rintro ji st ⟨i,hi,rfl⟩ _
 simp only[go_sem,seval]
 by_cases hi2:i<n
 rotate_left
 ·have hi':¬ (i:Int)<(n:Int):=by omega
  simp only[go_sem,seval,hi']
  exact Fin.id (s:=⟨_,[some ⟨false,ds,none⟩,some ⟨false,ds,none⟩]⟩) (by show 2≤2;omega)
 have hi':(i:Int)<(n:Int):=by omega
 have hi0:(0:Int)≤(i:Int):=by omega
 have hgr:=m7 hr hi2
 have hrow:∃ (fr:Int) (tg:BitVec 32) (tx:List af),(ds.drop (i*3)).take 3=[.i64 fr,.u32 tg,.str tx]:=by
  have e3:packF.length=3:=rfl
  rw[e3] at hgr
  generalize (ds.drop (i*3)).take 3=r at hgr
  match r,hgr with
  |[v0,v1,v2],⟨⟨f,e0⟩,⟨t,e1⟩,⟨s,e2,h1⟩,_⟩=>exact⟨f,t,s,by rw[e0,e1,e2]⟩
 obtain⟨fr,tg,tx,hcell⟩:=hrow
 have hm3:min 3 (ds.length-i*3)=3:=by omega
 simp only[go_sem,seval,hi',hi0,hcell,hm3]
 repeat refine aI ?_
 have hw1:ai ((i:Int)+1)=((i+1:Nat):Int):=by rw[al (by omega) (by omega)];omega
 refine db (ji-1) ⟨[(1,.slice 1 0 n 3),(12,.slice 0 0 n 3),(13,.i64 n),(14,.i64 ((i+1:Nat):Nat))],[some ⟨false,ds,none⟩,some ⟨false,ds,none⟩]⟩ [0,1] (by omega) rfl (by simp) rfl (by decide) (by simp[cp,St.get,ae,hw1,-List.map_map,-List.map_set]) (by simp[o2,o3]) ⟨i+1,by omega,rfl⟩
end
section
variable {G:Gh}{K K0:Nat→Option Kd}{H H0 h h' h0 h1:List (Option Blk)}{a b c p q d m n M l s N x:Nat}{xs:List Nat}{cs:List V}{bB:Blk}
def zG:Gh:=⟨fun _=>0,fun _=>0⟩
def zK:Nat→Option Kd:=fun _=>none
theorem sV (hs:Sane H):WT zG zK H:=⟨fun b k e=>(by cases e),hs⟩
theorem rg {P:Program}{f:FuncId}{args:List V}{v:V}(hs:ao P f args h v h)(hl:ac h.length args)(hsane:Sane h)(hv:v.low h.length):Whole P f args h v h []:=
 ⟨hs,Nat.le_refl _,hl,hsane,hsane,hv,fun _ _ _=>rfl,fun b hb=>(by cases hb),fun b B e hor=>(by
  have :=aj e
  rcases hor with hb|hb
  ·omega
  ·rw[hb] at e;cases e)⟩
theorem Nd {bv:V}{seed:List af}{W:Nat→Prop}(hd:Done Tryz.prog 12 [bv,.str seed] K0 h0 W (.tup [.ptr l 0,.i64 0]) G K h1)(hlow:ac h0.length [bv,.str seed])(hs0:Sane h0)(hI:LkInv G K l xs 0)(hx3:xs.length≤3):ao Tryz.prog 4 [bv,.str seed] h0 (.ptr l 0) h1:=by
 obtain⟨v,G',K',h',hDo,hG,hK,rfl⟩:=PE hd.cur.wt hI hx3
 have hll:=hd.cur.wt.lt hI.link
 have hsame:=rf hDo hd.cur.wt.sane trivial
 refine aR (by kernel_rfl) (fn:=Tryz.f4) Tryz.func4 rfl (by show 2≤26;decide) (ag ?_)
 simp only[go_sem,seval,Tryz.ntmps4]
 refine mI (hd.whole hlow hs0) (by kernel_rfl) rfl ?_
 simp only[go_sem,seval]
 repeat refine aI ?_
 refine mI (rg hsame (by simp[ac,V.low];exact hll) hd.cur.wt.sane trivial) (by kernel_rfl) rfl ?_
 simp only[go_sem,seval]
 repeat refine aI ?_
 exact Fin.id (s:=⟨_,h1⟩) hd.cur.len
theorem sW {bv:V}{seed:List af}{e:Int}(he:e≠0)(hd:Done Tryz.prog 12 [bv,.str seed] K0 h0 (fun _=>False) (.tup [.nilPtr,.i64 e]) G K h1)(hlow:ac h0.length [bv,.str seed])(hs0:Sane h0):ao Tryz.prog 4 [bv,.str seed] h0 .nilPtr h0:=by
 have hsame:=rf hd hs0 (by simp[ac,V.low])
 refine aR (by kernel_rfl) (fn:=Tryz.f4) Tryz.func4 rfl (by show 2≤26;decide) (ag ?_)
 simp only[go_sem,seval,Tryz.ntmps4]
 refine mI (rg hsame hlow hs0 (by simp[ac,V.low])) (by kernel_rfl) rfl ?_
 simp only[go_sem,seval,he,ne_eq,not_false_eq_true,decide_true]
 exact Fin.id (s:=⟨_,h0⟩) (Nat.le_refl _)
theorem qB {bv:V}{seed:List af}{e:Int}(he:e≠0)(hd:Done Tryz.prog 12 [bv,.str seed] K0 h0 (fun _=>False) (.tup [.nilPtr,.i64 e]) G K h1)(hlow:ac h0.length [bv,.str seed])(hs0:Sane h0):ao Tryz.prog 5 [bv,.str seed] h0 (.bool true) h0:=by
 have hsame:=rf hd hs0 (by simp[ac,V.low])
 refine aR (by kernel_rfl) (fn:=Tryz.f5) Tryz.func5 rfl (by show 2≤19;decide) (ag ?_)
 simp only[go_sem,seval,Tryz.ntmps5]
 refine mI (rg hsame hlow hs0 (by simp[ac,V.low])) (by kernel_rfl) rfl ?_
 simp only[go_sem,seval,he,ne_eq,not_false_eq_true,decide_true]
 exact Fin.id (s:=⟨_,h0⟩) (Nat.le_refl _)
end
section
section
variable {G:Gh}{K:Nat→Option Kd}{h h1:List (Option Blk)}{l N:Nat}{xs:List Nat}{c:List V}{bB:Blk}{rows:List (List V)}
def nl (bB:Blk)(l:Nat)(xs:List Nat)(N:Nat)(h:List (Option Blk))(c:List V)(p:Int×List (Option Blk)):Prop:=ao Tryz.prog 6 [.ptr l 0,.agg c] h (.i64 p.1) p.2∧Nxt h p.2∧∃ G K,LInv bB l xs (N+2) p.2 G K
open Classical in
noncomputable def lz (bB:Blk) (l:Nat) (xs:List Nat) (N:Nat) (h:List (Option Blk)) (c:List V):Int×List (Option Blk):=if hx:∃ p,nl bB l xs N h c p then hx.choose else(0,h)
theorem Gl (hx:∃ p,nl bB l xs N h c p):nl bB l xs N h c (lz bB l xs N h c):=by
 unfold lz
 rw[dif_pos hx]
 exact hx.choose_spec
noncomputable def cr (bB:Blk) (l:Nat) (xs:List Nat) (h1:List (Option Blk)) (rows:List (List V)):Nat→List (Option Blk)
 |0=>h1
 |i+1=>(lz bB l xs (2*i) (cr bB l xs h1 rows i) (rows.getD i [])).2
theorem EF (bB:Blk)(l:Nat)(xs:List Nat)(h1:List (Option Blk))(rows:List (List V))(i:Nat):cr bB l xs h1 rows (i+1)=(lz bB l xs (2*i) (cr bB l xs h1 rows i) (rows.getD i [])).2:=by rw[cr]
theorem pB (hL:LInv bB l xs 0 h1 G K)(hx3:xs.length≤3)(hr:∀ r∈rows,ActC r)(hl:rows.length≤2600000000000):∀ i,i≤rows.length→(∃ G K,LInv bB l xs (2*i) (cr bB l xs h1 rows i) G K)∧(i<rows.length→nl bB l xs (2*i) (cr bB l xs h1 rows i) (rows.getD i []) (lz bB l xs (2*i) (cr bB l xs h1 rows i) (rows.getD i []))):=by
 have step:∀ i,i<rows.length→(∃ G K,LInv bB l xs (2*i) (cr bB l xs h1 rows i) G K)→nl bB l xs (2*i) (cr bB l xs h1 rows i) (rows.getD i []) (lz bB l xs (2*i) (cr bB l xs h1 rows i) (rows.getD i [])):=fun i hi ⟨G,K,hI⟩=>by
  have hm:rows.getD i []∈rows:=by rw[List.getD_eq_getElem?_getD,List.getElem?_eq_getElem hi];exact List.getElem_mem hi
  obtain⟨e,h',q1,q2,q3⟩:=Nb hI hx3 (by omega) (hr _ hm)
  exact Gl ⟨(e,h'),q1,q2,q3⟩
 have inv:∀ i,i≤rows.length→∃ G K,LInv bB l xs (2*i) (cr bB l xs h1 rows i) G K:=by
  intro i
  induction i with
  |zero=>exact fun _=>⟨G,K,hL⟩
  |succ i ih=>
   intro hi
   obtain⟨-,-,q3⟩:=step i (by omega) (ih (by omega))
   rw[show 2*(i+1)=2*i+2 by omega]
   exact q3
 exact fun i hi=>⟨inv i hi,fun hlt=>step i hlt (inv i hi)⟩
theorem yv (hL:LInv bB l xs 0 h1 G K)(hx3:xs.length≤3)(hr:∀ r∈rows,ActC r)(hl:rows.length≤2600000000000){i:Nat}(hi:i<rows.length):∃ e:Int,ao Tryz.prog 6 [.ptr l 0,.agg (rows.getD i [])] (cr bB l xs h1 rows i) (.i64 e) (cr bB l xs h1 rows (i+1))∧Nxt (cr bB l xs h1 rows i) (cr bB l xs h1 rows (i+1)):=by
 obtain⟨-,h⟩:=pB hL hx3 hr hl i (Nat.le_of_lt hi)
 obtain⟨q1,q2,-⟩:=h hi
 rw[EF]
 exact⟨_,q1,q2⟩
end
def gg (H:List (Option Blk))(av:V)(α:Nat)(aB:Blk)(rows:List (List V)):Prop:=(rows=[]∧av= .nilSlice)∨(av= .slice α 0 rows.length 7∧α<H.length∧(0<rows.length→aa H α=some aB)∧aB.cs=rows.flatten∧∀ r∈rows,ActC r)
theorem ActC.plain {r:List V}(h:ActC r):r.length=7∧(∀ σ,rens σ r=r)∧(∀ n,ac n r)∧(∀ u∈r,u.one=true):=by
 obtain⟨k,A,B,C,s,d,t,rfl,-⟩:=h
 exact⟨rfl,fun _=>rfl,fun _=>by simp[ac,V.low],by simp[V.one]⟩
section
variable {G:Gh}{K:Nat→Option Kd}{H H' h h' h1:List (Option Blk)}{l N n β α:Nat}{xs sg:List Nat}{c:List V}{bB aB:Blk}{rows:List (List V)}{av:V}
theorem Emb.app (hE:Emb sg h H)(X:List (Option Blk)):Emb sg h (H++X):=hE.stay (by rw[List.length_append];omega) fun i B e=>bW (hE.ltOf (aj e)) X
theorem Emb.set (hE:Emb sg h H){b:Nat}{x:Option Blk}(hb:b∉sg):Emb sg h (H.set b x):=hE.stay (by rw[List.length_set];omega) fun i B e=>aP (fun e2=>hb (by rw[e2];exact hE.mem (aj e))) x
end
end
section
section
variable {G:Gh}{K:Nat→Option Kd}{H H' h h' ha h1:List (Option Blk)}{l N n β α m0 L x:Nat}{xs sg:List Nat}{c:List V}{bB aB:Blk}{rows:List (List V)}{av v row:V}{Fs:List Ft}
def CopyE (Fs:List Ft)(h:List (Option Blk))(row v:V)(lo hi:Nat)(H:List (Option Blk)):Prop:=(row= .nilSlice∧v= .nilSlice)∨∃ a n ds N,row= .slice a 0 n 3∧aa h a=some ⟨false,ds,none⟩∧ds.length=n*3∧v= .slice N 0 n 3∧lo≤N∧N<hi∧aa H N=some ⟨false,ds,none⟩∧∃ K,Row K (aU n Fs) ds
theorem CopyE.one {lo hi:Nat}(h:CopyE Fs h row v lo hi H):v.one=true∧v.solid=true∧v.cells=[v]:=by
 rcases h with⟨-,rfl⟩|⟨a,n,ds,N,-,-,-,rfl,-⟩<;>exact⟨rfl,rfl,rfl⟩
theorem CopyE.mono {lo hi hi':Nat}(hc:CopyE Fs h row v lo hi H)(hh:hi≤hi')(hk:∀ b,lo≤b→b<hi→aa H' b=aa H b):CopyE Fs h row v lo hi' H':=by
 rcases hc with h|⟨a,n,ds,N,e1,e2,e3,e4,e5,e6,e7,e8⟩
 ·exact .inl h
 ·exact .inr ⟨a,n,ds,N,e1,e2,e3,e4,e5,by omega,(hk N e5 e6).trans e7,e8⟩
theorem CopyE.lowr {lo lo' hi:Nat}(hc:CopyE Fs h row v lo hi H)(hh:lo'≤lo):CopyE Fs h row v lo' hi H:=by
 rcases hc with h|⟨a,n,ds,N,e1,e2,e3,e4,e5,e6,e7,e8⟩
 ·exact .inl h
 ·exact .inr ⟨a,n,ds,N,e1,e2,e3,e4,by omega,e6,e7,e8⟩
theorem CopyE.vlow {lo hi:Nat}(hc:CopyE Fs h row v lo hi H):v.low hi:=by
 rcases hc with⟨-,rfl⟩|⟨a,n,ds,N,-,-,-,rfl,-,h6,-⟩
 ·trivial
 ·exact h6
theorem jQ (hf:∀ f∈Fs,f.free=true)(hE:Emb sg h H)(hN:Nxt h ha)(hcp:tR Fs h row v ha):CopyE Fs h row (v.ren (ah (au sg H.length ha))) H.length (az sg H ha).length (az sg H ha):=by
 have hE2:=hE.call hN
 have hl:=hE.len
 rcases hcp with⟨rfl,rfl⟩|⟨a,n,ds,N,rfl,g1,g2,rfl,g3,g4,K,hr⟩
 ·exact .inl ⟨rfl,rfl⟩
 ·have hlt:=aj g4
  obtain⟨o1,o2,o3⟩:=Row.oneFree (fun f hf'=>hf f (eT hf')) hr
  have hb:=(hE2.blk N _ g4).1
  simp only at hb
  rw[o2] at hb
  refine .inr ⟨a,n,ds,ah (au sg H.length ha) N,rfl,g1,g2,rfl,?_,hE2.ltOf hlt,hb,K,hr⟩
  rw[fM (by omega) hlt]
  omega
theorem oZ (hE:Emb sg h H)(hN:Nxt h ha)(hk:∀ b B,aa h b=some B→aa ha b=some B)(hs:∀ b B,aa h b=some B→ac h.length B.cs):Emb sg h (az sg H ha):=by
 have :=(hE.call hN).shrink hN.le fun b B e=>⟨hk b B e,hs b B e⟩
 rwa [wy hE.len] at this
theorem kW (hE:Emb sg h H)(hN:Nxt h ha)(hk:∀ b B,aa h b=some B→aa ha b=some B)(hs:∀ b B,aa h b=some B→ac h.length B.cs){b:Nat}(hb:b<H.length)(hx:b∉sg∨∃ i B,b=ah sg i∧aa h i=some B):aa (az sg H ha) b=aa H b:=by
 rcases hx with hx|⟨i,B,rfl,e⟩
 ·exact iM hb hx
 ·exact((oZ hE hN hk hs).blk i B e).1.trans (hE.blk i B e).1.symm
theorem jF:∀ f∈packF,f.free=true:=fun f hf=>by simp[packF] at hf;rcases hf with rfl|rfl|rfl<;>rfl
theorem oE:∀ f∈gramF,f.free=true:=fun f hf=>by simp[gramF] at hf;rcases hf with rfl|rfl|rfl<;>rfl
def nF (h:List (Option Blk))(lo hi:Nat)(H:List (Option Blk))(x:Nat)(v:V):Prop:=∃ v1 row,aa h x=some ⟨false,[v1,row],none⟩∧CopyE packF h row v lo hi H
def pJ (h:List (Option Blk))(xs:List Nat)(hP:List (Option Blk))(v:V)(h':List (Option Blk)):Prop:=Nxt hP h'∧(∀ b B,aa hP b=some B→aa h' b=some B)∧v.low h'.length∧∃ ob vs,v= .tup [.slice ob 0 xs.length 1,.i64 0]∧hP.length≤ob∧aa h' ob=some ⟨false,vs,none⟩∧vs.length=xs.length∧∀ i x,xs[i]?=some x→nF h hP.length ob h' x (vs.getD i .junk)
noncomputable def gm (p:Nat→Bool) (H:List (Option Blk)):List (Option Blk):=(List.range H.length).map fun b=>if p b=true then aa H b else none
theorem rj {p:Nat→Bool}{b:Nat}{B:Blk}(e:aa (gm p H) b=some B):p b=true∧aa H b=some B:=by
 unfold aa gm at e
 rw[List.getElem?_map] at e
 by_cases hb:b<H.length
 ·rw[List.getElem?_range hb] at e
  simp only[Option.map_some,Option.join_some] at e
  by_cases hp:p b=true
  ·rw[if_pos hp] at e;exact⟨hp,e⟩
  ·rw[if_neg hp] at e;cases e
 ·rw[List.getElem?_eq_none (by simp;omega)] at e;cases e
theorem rS {p:Nat→Bool}{b:Nat}(hp:p b=true):aa (gm p H) b=aa H b:=by
 by_cases hb:b<H.length
 ·unfold aa gm
  rw[List.getElem?_map,List.getElem?_range hb]
  simp only[Option.map_some,Option.join_some,if_pos hp]
  rfl
 ·rw[sJ (by unfold gm;simp;omega),sJ (by omega)]
theorem Cb {p:Nat→Bool}:(gm p H).length=H.length:=by unfold gm;simp
end
end
end Go.Vm
end
