/- Proved: laws of a machine of values, or what a function answers; no conditions but each theorem's own. -/
import Derived.WalkKit
import Derived.Deep.RegionLaw
import Derived.Lib.SliceRun
import Derived.Test.YtgnnehmeciepaaaGreatDoorProg
import Derived.Test.YtgnnehmeciepaaaGreatDoorVmAToVmC
import Derived.Test.YtgnnehmeciepaaaGreatDoorVmXToVmQ
import Derived.Test.YtgnnehmeciepaaaGreatDoorTypesToLsE
set_option linter.unusedVariables false
set_option linter.unusedSimpArgs false
set_option linter.unusedSectionVars false
set_option maxRecDepth 20000
set_option maxHeartbeats 8000000
section
namespace Go.Proofs
open Go.RowKit
theorem GL:(Tryz.prog.info? 54).map (fun i=>i.size)=some 3:=by kernel_rfl
def jt (k:Nat):List Value:=(Builtin.zeroCells #[.int .u32 0,.int .u32 0,.string {data:=#[]}] k).toList
theorem un (k:Nat):(jt k).length=k*3:=by simp[jt,Builtin.zeroCells]
theorem JK (k:Nat):∀ u∈jt k,u.oneCell'=true:=fun u hu=>by
 unfold jt Builtin.zeroCells at hu
 rw[Array.toList_map] at hu
 obtain⟨i,-,rfl⟩:=List.mem_map.1 hu
 have h3:i%3<3:=Nat.mod_lt _ (by omega)
 show Value.oneCell' (#[Value.int IntKind.u32 0,.int .u32 0,.string {data:=#[]}][i%3]!)=true
 generalize i%3=j at*
 match j,h3 with
 |0,_=>rfl
 |1,_=>rfl
 |2,_=>rfl
theorem EN (w:World)(ty:TypeId)(b o n c:Nat)(hn:0<n)(hc:∀ j,j<n*3→(w.cell? ⟨b,o+j,none⟩).isSome=true)(hf:∀ j,j<n*3→w.frozen? ⟨b,o+j,none⟩=false):
  (Builtin.clear_ #[45] ty #[.slice (some ⟨b,o,none⟩) n c]).run Tryz.prog w= .ok (.tuple #[]) (w.setCells b o (jt n)):=by
 have hst:=run_storeCells_cells (P:=Tryz.prog) b o (jt n) 0 w (by rw[un];simpa using hc) (by rw[un];simpa using hf) (JK n)
 simp only[Nat.add_zero] at hst
 obtain⟨m,rfl⟩:∃ m,n=m+1:=⟨n-1,by omega⟩
 unfold jt at hst
 simp[Builtin.clear_,run_underlying Tryz.underlying45,Tryz.zeroValue54,Value.cells,hst]
 rfl
set_option maxRecDepth 1000000 in
theorem FK (blk off n cap i j:Nat)(news:List Value)(w:World)(hij:i<j)(hj:j≤n)(hl:n≤cap)
  (hc:∀ k,k<cap*3→(w.cell? ⟨blk,off+k,none⟩).isSome=true∧w.frozen? ⟨blk,off+k,none⟩=false)
  (hnl:news.length=(n-j)*3) (hnc:∀ k u,news[k]?=some u→w.cell? ⟨blk,off+j*3+k,none⟩=some u) (hn1:∀ u∈news,u.oneCell'=true):
  Calls Tryz.prog 47 #[.slice (some ⟨blk,off,none⟩) n cap,.int .i64 i,.int .i64 j] w fun e w'=>e= .returned (.slice (some ⟨blk,off,none⟩) (i+(n-j)) cap)∧w'=(w.drew.setCells blk (off+i*3) news).setCells blk (off+(i+(n-j))*3) (jt (n-(i+(n-j)))):=by
 obtain⟨i0,hi0,hz0⟩:∃ i0,Tryz.prog.info? 54=some i0∧i0.size=3:=by
  have h:=GL
  cases e:Tryz.prog.info? 54 with
  |none=>rw[e] at h;cases h
  |some i0=>rw[e] at h;simpa using h
 obtain⟨A,hA,hsrc⟩:∃ A:Addr,(if cap=j then some (⟨blk,off,none⟩:Addr) else some ⟨blk,off+j*3,none⟩)=some A∧Hid (∀ t u,news[t]?=some u→w.drew.cell? (A.add t)=some u):=by
  by_cases h:cap=j
  ·refine⟨⟨blk,off,none⟩,by simp[h],fun t u hu=>?_⟩
   have h0:news.length=0:=by rw[hnl];omega
   rw[List.length_eq_zero_iff.1 h0] at hu
   simp at hu
  ·refine⟨⟨blk,off+j*3,none⟩,by simp[h],fun t u hu=>?_⟩
   rw[Addr.add_lit]
   exact hnc t u hu
 have s1:Hid (news.length=(n-j)*3):=hnl
 have s2:Hid (∀ u∈news,u.oneCell'=true):=hn1
 have s3:Hid (∀ t,t<news.length→(w.drew.cell? ⟨blk,off+i*3+t,none⟩).isSome=true∧w.drew.frozen? ⟨blk,off+i*3+t,none⟩=false):=by
  intro t ht
  rw[hnl] at ht
  rw[Nat.add_assoc]
  exact hc (i*3+t) (by omega)
 obtain⟨W1,hW1⟩:∃ W1,W1=w.drew.setCells blk (off+i*3) news:=⟨_,rfl⟩
 have hl1:∀ k,k<cap*3→(W1.cell? ⟨blk,off+k,none⟩).isSome=true∧W1.frozen? ⟨blk,off+k,none⟩=false:=by
  intro k hk
  rw[hW1]
  have h:=Go.Vm.lasts_setCells blk (off+i*3) news w.drew blk (off+k) (hc k hk).1
  exact⟨h.1,h.2 (hc k hk).2⟩
 have hcl:∀ ty,(Builtin.clear_ #[45] ty #[.slice (some ⟨blk,off+(i+(n-j))*3,none⟩) (n-(i+(n-j))) (cap-(i+(n-j)))]).run Tryz.prog W1= .ok (.tuple #[]) (W1.setCells blk (off+(i+(n-j))*3) (jt (n-(i+(n-j))))):=
  fun ty=>EN W1 ty blk _ _ _ (by omega) (fun t ht=>by rw[Nat.add_assoc];exact(hl1 _ (by omega)).1) (fun t ht=>by rw[Nat.add_assoc];exact(hl1 _ (by omega)).2)
 have hW:Hid (W1=w.drew.setCells blk (off+i*3) news):=hW1
 have hic:i≤cap:=by omega
 have hjc:j≤cap:=by omega
 have hne:¬ i=j:=by omega
 clear hW1 hl1 hc hnl hnc hn1
 go_enter Tryz.func47,Tryz.ntmps47
 go_wp2_with fail
 go_region_law (refine step_append_room rfl (.tmp 22) (.tmp 25) 45 rfl 54 i0 3 Tryz.underlying45 hi0 hz0 blk off i cap (by simp[Act.eval,Act.put]) A (n-j) (cap-j) news (by simp[Act.eval,Act.put]) s1.out hsrc.out s2.out (by omega) s3.out ?_;rw[←hW.out])
 go_wp2
 go_ret
 exact⟨rfl,by rw[hW.out]⟩
end Go.Proofs
end
section
namespace Go.Vm
section
open Go Go.Proofs Go.RowKit
theorem VRs.junks {ρ:Nat→Nat×Nat}{dom:Nat→Prop}{w:World}:∀ {rs:List Value},VRs ρ dom w (List.replicate rs.length .junk) rs
 |[]=>VRs.nil
 |_::_=>VRs.cons (by unfold VR;trivial) VRs.junks
theorem FL (n i:Nat)(hi:i<n)(cs:List V)(hcs:cs.length=n*3)(hone:∀ u∈cs,u.one=true):ag Tryz.prog 47 [.slice 0 0 n 3,.i64 (i:Nat),.i64 ((i+1:Nat):Int)] [bK cs] (.slice 1 0 (n-1) 3) [none,bK (cs.take (i*3)++cs.drop ((i+1)*3))]:=by
 rintro ρ w ⟨l⟩ ha hm
 have hg:ab [bK cs] 0=bK cs:=rfl
 unfold VRs at ha
 obtain⟨r0,l0,e0,h0,ha⟩:=ha
 unfold VRs at ha
 obtain⟨r1,l1,e1,h1,ha⟩:=ha
 unfold VRs at ha
 obtain⟨r2,l2,e2,h2,ha⟩:=ha
 unfold VRs at ha
 simp only at e0
 subst ha e2 e1 e0
 unfold VR at h0 h1 h2
 obtain⟨hd,a,cap,rfl,hle,hcap⟩:=h0
 subst h1 h2
 obtain⟨rfl,hth⟩:=hcap (by omega)
 simp only[Nat.add_zero] at hth ⊢
 obtain⟨rs,hrs,hat⟩:=hm.range hg ((i+1)*3) ((n-(i+1))*3)
 simp only at hrs
 have hxl:(cs.drop ((i+1)*3)).length=(n-(i+1))*3:=by rw[List.length_drop,hcs,Nat.sub_mul]
 rw[List.take_of_length_le (by omega)] at hrs
 have hrl:=hrs.length
 have hon:∀ u∈rs,u.oneCell'=true:=fun u hu=>by
  obtain⟨k,hk,rfl⟩:=List.mem_iff_getElem.1 hu
  have hk2:k<(cs.drop ((i+1)*3)).length:=by omega
  obtain⟨r,g1,g2⟩:=hrs.get (i:=k) (v:=(cs.drop ((i+1)*3))[k]) (by simp)
  rw[List.getElem?_eq_getElem hk] at g1
  cases g1
  exact qU (hone _ (List.mem_of_mem_drop (List.getElem_mem hk2))) g2
 refine(FK (ρ 0).1 (ρ 0).2 n cap i (i+1) rs w (by omega) (by omega) hle (fun k hk=>hth k hk) (by omega) (fun k u hu=>?_) hon).mono ?_
 ·exact hat k u hu
 rintro e w' ⟨rfl,rfl⟩
 have m0:=hm.alike (Alike.drew w)
 have hz:(jt (n-(i+(n-(i+1))))).length=(n-(i+(n-(i+1))))*3:=un _
 obtain⟨m1,f1⟩:=qT m0 (nid:=1) (b:=0) (o:=i*3) (mp:=none) (fun _ e=>by cases e) hg (hrs.mono (fun _ _=>rfl) (fun _ h=>h) (Alike.drew w).lasts) (by rw[hxl];omega)
 have hlen:(splice cs (i*3) (cs.drop ((i+1)*3))).length=n*3:=by rw[mh (by rw[hxl];omega)];exact hcs
 rw[qc] at m1 f1
 obtain⟨m2,f2⟩:=qT m1 (nid:=1) (b:=0) (o:=(i+(n-(i+1)))*3) (mp:=none) (fun _ e=>by cases e) (if_pos rfl) VRs.junks (by rw[List.length_replicate,hz,hlen];omega)
 rw[qc] at m2 f2
 have F:=f1.trans f2
 have hll:=F.lasts
 have hcs':∀ (k:Nat) (v:V),(cs.take (i*3)++cs.drop ((i+1)*3))[k]?=some v→(splice (splice cs (i*3) (cs.drop ((i+1)*3))) ((i+(n-(i+1)))*3) (List.replicate (jt (n-(i+(n-(i+1))))).length .junk))[k]?=some v:=fun k v hv=>by
  have hk:k<(n-1)*3:=by
   have :=(List.getElem?_eq_some_iff.1 hv).1
   rw[List.length_append,List.length_take,hxl,hcs] at this
   omega
  rw[rp (by rw[List.length_replicate,hz,hlen];omega),if_neg (by omega),rp (by rw[hxl];omega)]
  by_cases h1:k<i*3
  ·rw[if_neg (by omega)]
   rw[List.getElem?_append_left (by rw[List.length_take,hcs];omega),List.getElem?_take,if_pos h1] at hv
   exact hv
  ·rw[if_pos ⟨by omega,by omega⟩]
   rw[List.getElem?_append_right (by rw[List.length_take,hcs];omega),List.length_take,hcs,Nat.min_eq_left (by omega)] at hv
   exact hv
 have e0:∀ b B,ab [none,bK (cs.take (i*3)++cs.drop ((i+1)*3))] b=some B→b=1∧B=⟨false,cs.take (i*3)++cs.drop ((i+1)*3),none⟩:=fun b B h=>by
  match b with
  |0=>simp[ab] at h
  |1=>exact⟨rfl,by simpa [ab] using h.symm⟩
  |b+2=>simp[ab] at h
 have hdom:∀ b,bZ (bZ (· <1) 1 0) 1 0 b→b<1:=fun b h=>by
  rcases h with(h|h)|h<;>omega
 have hdom2:∀ b,bZ (bZ (· <1) 1 0) 1 0 b→b<2:=fun b h=>by have :=hdom b h;omega
 have hρ:∀ b,bZ (bZ (· <1) 1 0) 1 0 b→(fun b=>if b=1 then ρ 0 else ρ b) b=ρ b:=fun b h=>by
  have :=hdom b h
  exact if_neg (by omega)
 have hρ1:(fun b=>if b=1 then ρ 0 else ρ b) 1=ρ 0:=if_pos rfl
 refine⟨.slice (some ⟨(ρ 0).1,(ρ 0).2,none⟩) (i+(n-(i+1))) cap,fun b=>if b=1 then ρ 0 else ρ b,rfl,?_,⟨fun b B h=>?_,fun b B h=>?_,fun b b' B B' h h' _ hn=>?_,fun b B h k v hv=>?_,fun b B h hr k hk=>?_,fun b B m h hmp=>?_⟩,by simp,fun b hb=>if_neg (by simp at hb;omega),⟨F.os,F.output,F.tape,F.size,F.keep,F.lasts,fun b B h hr=>?_⟩⟩
 ·unfold VR
  exact⟨by show 1<2;omega,⟨(ρ 0).1,(ρ 0).2,none⟩,cap,by rw[show i+(n-(i+1))=n-1 by omega],by omega,fun hc=>⟨rfl,hll.there hth⟩⟩
 ·obtain⟨rfl,rfl⟩:=e0 b B h;show 1<2;omega
 ·obtain⟨rfl,rfl⟩:=e0 b B h;exact m2.lt 0 _ (if_pos rfl)
 ·obtain⟨rfl,rfl⟩:=e0 b B h;obtain⟨rfl,rfl⟩:=e0 b' B' h';exact absurd rfl hn
 ·obtain⟨rfl,rfl⟩:=e0 b B h
  obtain⟨r,g1,g2⟩:=m2.cell 0 _ (if_pos rfl) k v (hcs' k v hv)
  exact⟨r,g1,g2.mono hρ hdom2 (Lasts.refl _)⟩
 ·obtain⟨rfl,rfl⟩:=e0 b B h
  refine m2.free 0 _ (if_pos rfl) rfl k ?_
  have hk2:k<(cs.take (i*3)++cs.drop ((i+1)*3)).length:=hk
  show k<(splice _ _ _).length
  rw[mh (by rw[List.length_replicate,hz,hlen];omega),hlen]
  rw[List.length_append,List.length_take,hxl,hcs] at hk2
  omega
 ·obtain⟨rfl,rfl⟩:=e0 b B h;cases hmp
 ·obtain⟨rfl,rfl⟩:=e0 b B h;exact .inl ⟨0,_,hg,rfl,rfl⟩
end
end Go.Vm
end
section
namespace Go.Vm
open Go.Proofs
section
variable {K K0:Nat→Nat}{H H0:List (Option Blk)}{l na x0 x1 x k k0 k1 rn rd ra:Nat}{va v0 v1:V}{g:Option G3}{sg sg0 sg1:List Nat}{d d1 d0 d0' d1':List (Option Blk)}
theorem GM (hC:CurL K0 H0 K H){fr tg:BitVec 32}{tx:List ac}(hL:LAt K H l na x0 x1 va (some (fr,tg,tx)))(hN:NAt K H rn rd ra x sg v0 d k)(hr1:rn≠0∧rn≠rd)(hr3:ra≠0∧ra≠rd)(hr0:rd≠0)(hr5:rn≠5∧rd≠5∧ra≠5)(hr6:rn≠1∧rd≠1∧ra≠1)(hr7:rd≠2)(hx:tg=1#32∧x=x0∨tg=2#32∧x=x1){e:Int}
  (hS:Stp Tryz.prog 48 [.ptr 0 0,.u32 fr,.str tx] d (.i64 e) d1):
  ∃ v K' H',DoneL Tryz.prog 29 [.ptr l 0,.agg [.i64 3,.i64 0,.i64 0,.i64 0,.u32 0#32,.u32 0#32,.str []]] K H v K' H'∧(v= .i64 e∧Kp (fun q=>q≠0∧q≠rd∧q≠1∧q≠5) K H K' H'∧(∃ va',LAt K' H' l na x0 x1 va' none)∧∃ sg',NAt K' H' rn rd ra x sg' v0 d1 k):=by
 obtain⟨a,rfl,ha,hga⟩:∃ a,va= .slice a 0 1 3∧K a=5∧ab H a=bK [.u32 fr,.u32 tg,.str tx]:=by
  rcases hL.air with⟨-,e⟩|h
  ·cases e
  ·exact h
 have hll:=hC.lt (b:=l) (by rw[hL.kl];decide)
 have hla:=hC.lt (b:=a) (by rw[ha];decide)
 have hgl:=hL.gl
 have hne:a≠l:=fun e=>by subst e;have :=hL.kl;omega
 have hJ:=hC.start.junk (vs:=[.i64 3,.i64 0,.i64 0,.i64 0,.u32 0#32,.u32 0#32,.str []]) (by simp[aa,V.low])
 have hk1:=hC.kpJunk (X:=[bK [.i64 3,.i64 0,.i64 0,.i64 0,.u32 0#32,.u32 0#32,.str []]])
 have hz:H.length+1<(H++[bK [.i64 3,.i64 0,.i64 0,.i64 0,.u32 0#32,.u32 0#32,.str []]]++[bK [.u32 0#32,.u32 0#32,.str []]]).length:=by simp
 refine dg (Post:=fun v K' H'=>v= .i64 e∧Kp (fun q=>q≠0∧q≠rd∧q≠1∧q≠5) K H K' H'∧(∃ va',LAt K' H' l na x0 x1 va' none)∧∃ sg',NAt K' H' rn rd ra x sg' v0 d1 k) (by kernel_rfl) (fn:=Tryz.f29) Tryz.func29 rfl (by show 2≤118;decide) (ae ?_)
 simp only[go_sem,seval,hgl,rX hll,rX hla,hga,cP]
 repeat refine aI ?_
 have hll1:l<H.length+1:=by omega
 have hla1:a<H.length+1:=by omega
 have hN1:H.length<H.length+1:=by omega
 refine And.intro ?_ ?_
 ·refine jh (np (H.length+1)) [([],[]),([],[]),([],[]),([0],[]),([],[]),([0],[]),([],[]),([0],[]),([],[1]),([0,1],[0,1])] (by kernel_rfl) (by simp only[jl,jm,aV,Pf,all_cons,Dz,qf hll1,qf hla1,qf hN1,jz,sW,and_true])
 have hl0:(H++[bK [.i64 3,.i64 0,.i64 0,.i64 0,.u32 0#32,.u32 0#32,.str []]]).length=H.length+1:=by simp
 have hD1:=hJ.boxed (zs:=[.u32 0#32,.u32 0#32,.str []]) (ys:=[.u32 fr,.u32 tg,.str tx]) (by simp[aa,V.low]) (by simp[aa,V.low])
 have hk2:=hk1.trans (hJ.kpBox (x:=bK [.u32 0#32,.u32 0#32,.str []]) (y:=bK [.u32 fr,.u32 tg,.str tx]))
 have aset:=fun(x:Nat) (hx:x<H.length+1)=>pI (H:=H++[bK [.i64 3,.i64 0,.i64 0,.i64 0,.u32 0#32,.u32 0#32,.str []]]) (x:=bK [.u32 0#32,.u32 0#32,.str []]) (y:=bK [.u32 fr,.u32 tg,.str tx]) (c:=x) (by rw[hl0];exact hx)
 have hact:=(aset H.length hN1).trans cP
 have hb:=rA (H:=H++[bK [.i64 3,.i64 0,.i64 0,.i64 0,.u32 0#32,.u32 0#32,.str []]]) (x:=bK [.u32 0#32,.u32 0#32,.str []]) (y:=bK [.u32 fr,.u32 tg,.str tx])
 have hlT:((H++[bK [.i64 3,.i64 0,.i64 0,.i64 0,.u32 0#32,.u32 0#32,.str []]]++[bK [.u32 0#32,.u32 0#32,.str []]]).set (H++[bK [.i64 3,.i64 0,.i64 0,.i64 0,.u32 0#32,.u32 0#32,.str []]]).length (bK [.u32 fr,.u32 tg,.str tx])).length=H.length+2:=by simp
 rw[hl0] at hD1 hk2 hact hb hlT
 clear aset
 generalize ((H++[bK [.i64 3,.i64 0,.i64 0,.i64 0,.u32 0#32,.u32 0#32,.str []]]++[bK [.u32 0#32,.u32 0#32,.str []]]).set (H.length+1) (bK [.u32 fr,.u32 tg,.str tx]))=T at*
 have hLT:=hL.keep hk2 (by decide) (by decide) (by decide)
 have hNT:=hN.keep hk2 hr1.1 hr0 hr3.1
 have hgT:=hLT.gl
 have hgaT:ab T a=_:=(hk2.h a (by rw[ha];decide)).trans hga
 have hllT:l<T.length:=by omega
 have hlaT:a<T.length:=by omega
 have hlN:H.length<T.length:=by omega
 have hlN1:H.length+1<T.length:=by omega
 have hKN:K H.length=0:=hC.fresh _ (Nat.le_refl _)
 have hKN1:K (H.length+1)=0:=hC.fresh _ (by omega)
 simp only[go_sem,seval,hact,hgT]
 repeat refine aI ?_
 have hsp:=FL 1 0 (by decide) [.u32 fr,.u32 tg,.str tx] rfl (by simp[V.one])
 simp only[List.take_zero,Nat.zero_mul,Nat.zero_add,Nat.one_mul,List.drop_succ_cons,List.drop_zero,List.nil_append,Nat.sub_self] at hsp
 refine bh [a] (hsp) (by kernel_rfl) (by simp) rfl (by simp) (by first|decide|simp) (by simp[hlaT]) (by simp) (by simp[hgaT]) (by simp) (by simp) ?_
 simp only[go_sem,seval,hlaT,rR hllT hne,hgT]
 repeat refine aI ?_
 obtain⟨hD2,hk3,hL2⟩:=hLT.grow hD1 (some a) (fun y e=>by cases e;exact ha) none
 have hk4:=(hk2.mono fun q (h:q≠0∧q≠1∧q≠5)=>h.1).trans hk3
 have hN2:=hNT.keep hk3 ⟨hr1.1,hr6.1,hr5.1⟩ ⟨hr0,hr6.2.1,hr5.2.1⟩ ⟨hr3.1,hr6.2.2,hr5.2.2⟩
 have hb2:ab ((cutH (some a) T++[bK (g9 none)]).set l (bK [.slice na 0 2 1,.slice T.length 0 (gk none) 3])) (H.length+1)=_:=(cp (by omega) _).trans ((rR hlN1 (by omega)).trans hb)
 have hact2:ab ((cutH (some a) T++[bK (g9 none)]).set l (bK [.slice na 0 2 1,.slice T.length 0 (gk none) 3])) H.length=_:=(cp (by omega) _).trans ((rR hlN (by omega)).trans hact)
 have hKN2:d8 (iY (some a) K) T.length (T.length+1) 5 (H.length+1)=0:=(kp (by omega)).trans (vB hKN1)
 rw[show(T.set a none++[bK []]).set l (bK [.slice na 0 2 1,.slice T.length 0 0 3])=(cutH (some a) T++[bK (g9 none)]).set l (bK [.slice na 0 2 1,.slice T.length 0 (gk none) 3]) from rfl]
 have hbl:=aM hb2
 generalize (cutH (some a) T++[bK (g9 none)]).set l (bK [.slice na 0 2 1,.slice T.length 0 (gk none) 3])=M2 at*
 generalize d8 (iY (some a) K) T.length (T.length+1) 5=K2 at*
 have hgl2:=hL2.gl
 have hga2:=hL2.ga
 have hgx2:=hN2.g
 simp only[go_sem,seval,hact2]
 repeat refine aI ?_
 rcases hx with⟨rfl,rfl⟩|⟨rfl,rfl⟩
 all_goals
  simp only[go_sem,seval,hb2,hgl2,hga2,hgx2,BitVec.reduceSub]
  repeat refine aJ ?_
 all_goals
  refine nw hN2.e hS.spec hS.nxt (by kernel_rfl) rfl hS.low rfl ?_
  simp only[go_sem,seval]
  refine And.intro ?_ ?_
  ·have q1:=iO (K:=K2) (r:=rd) (N:=M2.length) (x:=l) (by rw[hL2.kl];exact Ne.symm hr6.2.1) (aM hgl2)
   have q5:=iO (K:=K2) (r:=rd) (N:=M2.length) (x:=na) (by rw[hL2.ka];exact Ne.symm hr7) (aM hga2)
   have q6:=iO (K:=K2) (r:=rd) (N:=M2.length) (by rw[hN2.kx];exact hr1.2) (aM hgx2)
   have q2:=iO (K:=K2) (r:=rd) (N:=M2.length) (x:=H.length+1) (by rw[hKN2];exact Ne.symm hr0) hbl
   have q3:=qg (K:=K2) (r:=rd) (N:=M2.length) (sg:=sg) hN2.ks hN2.e.lt
   have q4:=pZ (K:=K2) (r:=rd) (N:=M2.length) (sg:=sg) (n:=M2.length) (k:=d1.length-sg.length) hN2.ks hN2.e.lt (Nat.le_refl _)
   refine jh (eZ K2 rd M2.length) [([],[]),([],[]),([],[]),([0],[]),([],[]),([0],[]),([],[]),([],[]),([0],[]),([],[]),([],[]),([0],[]),([],[]),([0],[]),([],[]),([0],[]),([2],[1,2]),([],[])] (by kernel_rfl) (by simp only[jl,jm,aV,all_cons,jz,and_true,q1,q2,q3,q4,q5,q6])
  have hk5:=hD2.kpDev (d':=d1) hN2.ks
  exact EndL.of (hD2.dev hN2.e hN2.ks hr0 hS.dv hS.le) trivial ⟨rfl,(hk4.mono fun q h=>⟨h.1,h.2.2.1,h.2.2.2⟩).trans (hk5.mono fun q h=>⟨h.1,h.2.1⟩),⟨_,hL2.keep hk5 ⟨by decide,Ne.symm hr6.2.1⟩ ⟨by decide,Ne.symm hr7⟩ ⟨by decide,Ne.symm hr5.2.1⟩⟩,_,hN2.dev hD2 hS.dv hS.le hr1 hr3⟩
end
section
variable {K K0:Nat→Nat}{H H0:List (Option Blk)}{l na x0 x1 x k k0 k1 rn rd ra:Nat}{va v0 v1:V}{g:Option G3}{sg sg0 sg1:List Nat}{d d1 d0 d0' d1':List (Option Blk)}
theorem Co (hC:CurL K0 H0 K H){fr tg:BitVec 32}{tx:List ac}(hL:LAt K H l na x0 x1 va (some (fr,tg,tx)))(hx0:x0<H.length)(hN:NAt K H rn rd ra x sg v0 d k)(hr1:rn≠0∧rn≠rd)(hr3:ra≠0∧ra≠rd)(hr0:rd≠0)(hr5:rn≠5∧rd≠5∧ra≠5)(hr6:rn≠1∧rd≠1∧ra≠1)(hr7:rd≠2)(hx:tg=1#32∧x=x0∨tg=2#32∧x=x1){e:Int}
  (hS:Stp Tryz.prog 48 [.ptr 0 0,.u32 fr,.str tx] d (.i64 e) d1):
  ∃ v K' H',DoneL Tryz.prog 15 [.ptr l 0,.agg [.i64 3,.i64 0,.i64 0,.i64 0,.u32 0#32,.u32 0#32,.str []]] K H v K' H'∧(v= .i64 e∧Kp (fun q=>q≠0∧q≠rd∧q≠1∧q≠5) K H K' H'∧(∃ va',LAt K' H' l na x0 x1 va' none)∧∃ sg',NAt K' H' rn rd ra x sg' v0 d1 k):=by
 have hJ:=hC.start.junk (vs:=[.i64 3,.i64 0,.i64 0,.i64 0,.u32 0#32,.u32 0#32,.str []]) (by simp[aa,V.low])
 have hk:=hC.kpJunk (X:=[bK [.i64 3,.i64 0,.i64 0,.i64 0,.u32 0#32,.u32 0#32,.str []]])
 have hL1:=hL.keep hk (by decide) (by decide) (by decide)
 have hN1:=hN.keep hk hr1.1 hr0 hr3.1
 have hll:=hJ.lt (b:=l) (by rw[hL1.kl];decide)
 obtain⟨a,hva,-,-⟩:∃ a,va= .slice a 0 1 3∧K a=5∧ab H a=bK [.u32 fr,.u32 tg,.str tx]:=by
  rcases hL.air with⟨-,e⟩|h
  ·cases e
  ·exact h
 refine dg (Post:=fun v K' H'=>v= .i64 e∧Kp (fun q=>q≠0∧q≠rd∧q≠1∧q≠5) K H K' H'∧(∃ va',LAt K' H' l na x0 x1 va' none)∧∃ sg',NAt K' H' rn rd ra x sg' v0 d1 k) (by kernel_rfl) (fn:=Tryz.f15) Tryz.func15 rfl (by show 2≤84;decide) (ae ?_)
 simp only[go_sem,seval,cP]
 repeat refine aI ?_
 refine bx (lJ hJ hL1 (x:=x0) (by simp;omega) (.inl ⟨rfl,rfl⟩)) (by kernel_rfl) rfl (by simp[aa,V.low,(by simpa using hll)]) hJ.sane ?_
 rintro _ K1 H1 hC1 hl1 ⟨rfl,hK,hH⟩
 obtain rfl:=hK.symm
 subst hH
 have hgl:=hL1.gl
 have hact:=cP (H:=H) (x:=bK [.i64 3,.i64 0,.i64 0,.i64 0,.u32 0#32,.u32 0#32,.str []])
 generalize (H++[bK [.i64 3,.i64 0,.i64 0,.i64 0,.u32 0#32,.u32 0#32,.str []]])=M at*
 rw[hva] at hgl
 simp only[go_sem,seval,hact,hgl]
 repeat refine aJ ?_
 refine bx (GM hJ hL1 hN1 hr1 hr3 hr0 hr5 hr6 hr7 hx hS) (by kernel_rfl) rfl (by simp[aa,V.low,hll]) hJ.sane ?_
 rintro _ K2 H2 hC2 hl2 ⟨rfl,hk2,hL2,hN2⟩
 simp only[go_sem,seval]
 repeat refine aI ?_
 exact EndL.of (hJ.trans hC2) trivial ⟨rfl,(hk.mono fun r h=>h.1).trans hk2,hL2,hN2⟩
end
section
variable {K K0:Nat→Nat}{H H0:List (Option Blk)}{l na x0 x1 x k k0 k1 rn rd ra b:Nat}{va v0 v1:V}{g:Option G3}{sg sg0 sg1:List Nat}{d d1 d2 d0 d0' d1':List (Option Blk)}
theorem qh {P:Program}{m n:Nat}{R:Exit→St→Prop}{k:List Fr}{e:Exit}{s:St}(h:gone P m n R k e s):kQ P m n R k e s:=h
theorem U8 (hC:CurL K0 H0 K H)(hL:LAt K H l na x0 x1 va none){fr tg:BitVec 32}{tx:List ac}(hb:ab H b=bK [.u32 fr,.u32 tg,.str tx])(hKb:K b=0)
  {t:List (Nat×V)} (h0:af t 0= .ptr l 0) (h9:af t 9= .ptr b 0) {R:Exit→St→Prop} {r0 r1 r2 r3 c3 r4 r5 r6 c6 r7 r8 r9 e9 r10 r11 r12 c13:Code} {x37:Operand} {b0 b1 b2 b3:Nat}
  (hc:Tryz.f9.body=some (.seq r0 (.seq r1 (.seq (.seq r2 (.block b0 (.loop (.seq r3 (.seq c3 (.seq (.block b1 (.seq r4 (.seq (.seq r5 (.block b2 (.loop (.seq r6 (.seq c6 (.seq (.block b3 (.seq r7 (.seq r8 (.cond x37 r9 e9)))) r10)))))) r11))) r12)))))) c13))))
  (hR:∀ (t':List (Nat×V)) (K':Nat→Nat) (H':List (Option Blk)) (va':V),CurL K0 H0 K' H'→Kp (fun q=>q≠0∧q≠1∧q≠5) K H K' H'→LAt K' H' l na x0 x1 va' (some (fr,tg,tx))→(∀ k,k<38→af t' k=af t k)→R .normal ⟨t',H'⟩):
  vc Tryz.prog H0.length Tryz.f9.ntmps r9 R ⟨t,H⟩:=by
 have hg:=hL.gl
 have hll:=hC.lt (b:=l) (by rw[hL.kl];decide)
 have hlb:=aM hb
 simp only[Tryz.f9,Option.some.injEq,Code.seq.injEq,Code.block.injEq,Code.loop.injEq,Code.cond.injEq] at hc
 obtain⟨-,-,⟨⟨-,-,-,-,⟨⟨-,-,⟨⟨-,-,-,-,⟨⟨-,-,-,-,rfl,-⟩,-⟩⟩,-⟩⟩,-⟩⟩,-⟩⟩:=hc
 refine ae ?_
 have hJ:=hC.junk (vs:=[.u32 fr,.u32 tg,.str tx]) (by simp[aa,V.low])
 have hk:=hC.kpJunk (X:=[bK [.u32 fr,.u32 tg,.str tx]])
 have hLJ:=hL.keep hk (by decide) (by decide) (by decide)
 rcases hL.air with⟨rfl,-⟩|⟨a,rfl,ha,hga⟩
 ·simp only[go_sem,seval,h0,h9,hg,hb,mS hll]
  repeat refine aI ?_
  refine And.intro ?_ ?_
  ·refine jh (np H.length) [([],[]),([],[]),([],[]),([],[]),([0],[]),([0],[]),([],[1]),([1],[1]),([],[]),([],[]),([0],[0])] (by kernel_rfl) (by simp only[jl,jm,aV,all_cons,Dz,Pe,qf hll,qf hlb,jz,sW,and_true])
  obtain⟨hD,hk2,hL2⟩:=hLJ.grow hJ none (fun _ e=>by cases e) (some (fr,tg,tx))
  have e2:(H++[bK [.u32 fr,.u32 tg,.str tx]]).length=H.length+1:=by simp
  rw[e2] at hD hk2 hL2
  refine hR _ _ _ _ hD ((hk.mono fun q h=>h.1).trans hk2) hL2 (fun k hk=>?_)
  simp only[af]
  iterate 10 rw[if_neg (by omega)]
 ·have hla:=hC.lt (b:=a) (by rw[ha];decide)
  have hne:a≠l:=fun e=>by subst e;have :=hL.kl;omega
  have hba:b≠a:=fun e=>by subst e;omega
  have hga':ab H a=bK []:=hga
  simp only[go_sem,seval,h0,h9,hg,hb,gk,hga',rX hla,Pi hll hne,List.drop_nil,List.take_nil]
  repeat refine aI ?_
  refine And.intro ?_ ?_
  ·refine jh (md a H.length) [([],[]),([],[]),([],[]),([],[]),([0],[]),([0],[]),([],[1]),([1,2],[1,2]),([],[]),([],[]),([0],[0])] (by kernel_rfl) (by simp only[jl,jm,aV,all_cons,TO,Ck hll hne.symm,Ck hlb hba,Rm,TP hla,Pg hla,jz,sW,VZ,and_true])
  obtain⟨hD,hk2,hL2⟩:=hLJ.grow hJ (some a) (fun _ e=>by cases e;exact ha) (some (fr,tg,tx))
  have e2:(H++[bK [.u32 fr,.u32 tg,.str tx]]).length=H.length+1:=by simp
  rw[e2] at hD hk2 hL2
  refine hR _ _ _ _ hD ((hk.mono fun q h=>h.1).trans hk2) hL2 (fun k hk=>?_)
  simp only[af]
  iterate 10 rw[if_neg (by omega)]
end
section
variable {K K0:Nat→Nat}{H H0:List (Option Blk)}{l na x0 x1 x k kk k0 k1 rn rd ra b:Nat}{va v v0 v1 vg:V}{g:Option G3}{sg sg0 sg1:List Nat}{d d1 d2 d0 d0' d1':List (Option Blk)}
theorem S0 (hC:CurL K0 H0 K H)(hN:NAt K H rn rd ra x sg v d k)(hr1:rn≠0∧rn≠rd)(hr2:rd≠0∧rd≠rn∧rd≠ra)(hr3:ra≠0∧ra≠rd)(hr4:rn≠0∧rn≠ra)(hk1000:k≤1000)
  (hG:Stp Tryz.prog 17 [.ptr 0 0] d vg d2) (hg:kk=0∧vg= .nilSlice∨∃ b cs,kk=1∧vg= .slice b 0 1 3∧ab d2 b=bK cs∧cs.length=3∧l7 cs)
  {t:List (Nat×V)} (h7:af t 7= .ptr x 0) {R:Exit→St→Prop} {r0 r1 r2 r3 c3 r4 r5 r6 c6 r7 r8 r9 e9 r10 r11 r12 c13:Code} {x37:Operand} {b0 b1 b2 b3:Nat}
  (hc:Tryz.f9.body=some (.seq r0 (.seq r1 (.seq (.seq r2 (.block b0 (.loop (.seq r3 (.seq c3 (.seq (.block b1 (.seq r4 (.seq (.seq r5 (.block b2 (.loop (.seq r6 (.seq c6 (.seq (.block b3 (.seq r7 (.seq r8 (.cond x37 r9 e9)))) r10)))))) r11))) r12)))))) c13))))
  (hR:∀ (t':List (Nat×V)) (K':Nat→Nat) (H':List (Option Blk)) (sg':List Nat) (v':V),CurL K0 H0 K' H'→Kp (fun q=>q≠0∧q≠rn∧q≠rd∧q≠ra) K H K' H'→NAt K' H' rn rd ra x sg' v' d2 (k+kk)→(∀ k,k<49→af t' k=af t k)→R .normal ⟨t',H'⟩):
  vc Tryz.prog H0.length Tryz.f9.ntmps r11 R ⟨t,H⟩:=by
 have hgx:=hN.g
 have hlx:=hC.lt (b:=x) (by rw[hN.kx];exact hr1.1)
 simp only[Tryz.f9,Option.some.injEq,Code.seq.injEq,Code.block.injEq,Code.loop.injEq,Code.cond.injEq] at hc
 obtain⟨-,-,⟨⟨-,-,-,-,⟨⟨-,-,⟨-,rfl⟩⟩,-⟩⟩,-⟩⟩:=hc
 refine ae ?_
 simp only[go_sem,seval,h7,hgx]
 repeat refine aI ?_
 have hD1:=hC.dev hN.e hN.ks hr2.1 hG.dv hG.le
 have hk1:=hC.kpDev (d':=d2) hN.ks
 have hN2:=hN.dev hC hG.dv hG.le hr1 hr3
 have hml:=jb (sg:=sg) (H:=H) (h':=d2)
 have hse:=hN.e.len
 have hle:=hG.le
 have hg2:=hN2.g
 have q1:=iO (K:=K) (r:=rd) (N:=H.length) (x:=x) (by rw[hN.kx];exact hr1.2) hlx
 have q3:=qg (K:=K) (r:=rd) (N:=H.length) (sg:=sg) hN.ks hN.e.lt
 have q4:=pZ (K:=K) (r:=rd) (N:=H.length) (sg:=sg) (n:=H.length) (k:=d2.length-sg.length) hN.ks hN.e.lt (Nat.le_refl _)
 have q5:=fun y=>Pk (K:=K) (r:=rd) (N:=H.length) (x:=y)
 have q6:=C1 (K:=K) (r:=rd) (N:=H.length) (x:=(memH sg H d2).length) (by omega)
 have hsame:=HX (N:=H.length) (h':=d2) (sg:=sg) (by have :=hN.dv.pos;omega)
 rw[hsame] at hg2
 rcases hg with⟨rfl,rfl⟩|⟨b,cs,rfl,rfl,hgb,hcl,ho⟩
 ·refine nw hN.e hG.spec hG.nxt (by kernel_rfl) rfl hG.low rfl ?_
  generalize memH sg H d2=H1 at*
  generalize d8 K H.length H1.length rd=K1 at*
  have hx1:K1 x≠0:=by rw[hN2.kx];exact hr1.1
  have done:∀ t',(∀ k,k<49→af t' k=af t k)→R .normal ⟨t',H1.set x (bK [.ptr (ah sg 0) 0,v])⟩:=fun t' ht=>by
   have hs:=Pm (S:=fun q=>q≠0) (K:=K1) hg2
   refine hR t' K1 _ _ v (hD1.put hx1 (hD1.sane x _ hg2).1) ((hk1.mono fun q h=>⟨h.1,h.2.2.1⟩).trans (hs.mono fun q h=>h.1)) (hN2.keep hs hr1.1 hr2.1 hr3.1) ht
  rcases hN2.all with⟨rfl,-⟩|⟨a,cs,rfl,hk0,hka,hga,hcl,ho⟩
  ·simp only[go_sem,seval,hg2]
   repeat refine aI ?_
   refine And.intro ?_ ?_
   ·refine jh (eZ K rd H.length) [([],[]),([],[]),([],[]),([],[]),([0],[]),([],[]),([],[]),([],[]),([0],[]),([2],[1,2]),([0,1,2],[]),([],[]),([],[]),([0],[0])] (by kernel_rfl) (by simp only[jl,jm,aV,all_cons,jz,and_true,q1,q3,q4,q5])
   refine done _ (fun k hk=>?_)
   simp only[af]
   iterate 13 rw[if_neg (by omega)]
  ·simp only[go_sem,seval,hg2,hga]
   repeat refine aI ?_
   refine And.intro ?_ ?_
   ·refine jh (eZ K rd H.length) [([],[]),([],[]),([],[]),([],[]),([0],[]),([],[]),([],[]),([],[]),([0],[]),([2],[1,2]),([0,1,2],[]),([],[]),([],[]),([0],[0])] (by kernel_rfl) (by simp only[jl,jm,aV,all_cons,jz,and_true,q1,q3,q4,q5])
   refine done _ (fun k hk=>?_)
   simp only[af]
   iterate 13 rw[if_neg (by omega)]
 ·refine nw (v':= .slice (ah (az sg H.length d2) b) 0 1 3) hN.e hG.spec hG.nxt (by kernel_rfl) rfl hG.low rfl ?_
  have hbl:=aM hgb
  have hgg:ab (memH sg H d2) (ah (az sg H.length d2) b)=bK cs:=by
   rw[qe hN.e.nd hN.e.lt hbl,hgb]
   show some (Blk.mk _ (rens _ cs) _)=_
   rw[ho.2.1]
  have hbs:ah (az sg H.length d2) b∈az sg H.length d2:=hN2.e.mem hbl
  have hbk:=hN2.ks _ hbs
  generalize ah (az sg H.length d2) b=gb at*
  generalize memH sg H d2=H1 at*
  generalize d8 K H.length H1.length rd=K1 at*
  have hlx1:=hD1.lt (b:=x) (by rw[hN2.kx];exact hr1.1)
  have hlb1:=aM hgg
  obtain⟨p1,p2,p3⟩:=ho
  rcases hN.all with⟨rfl,rfl⟩|⟨a,as_,rfl,hk0,hka',hga',hal,hao⟩
  ·simp only[go_sem,seval,hg2,hgg,rX hlx1,List.take_of_length_le (show cs.length≤3 by omega)]
   refine⟨⟨by omega,p1,by omega⟩,by omega,?_,?_⟩
   ·refine jh (eZ K rd H.length) [([],[]),([],[]),([],[]),([],[]),([0],[]),([],[]),([],[]),([],[]),([0],[]),([2],[1,2]),([0,1,2],[1]),([],[]),([],[]),([0],[0])] (by kernel_rfl) (by simp only[jl,jm,aV,all_cons,jz,sW,and_true,q1,q3,q4,q5,q6])
   have hgr:=hN2.grow hD1 (k:=1) hr4 hr2 hr3.1 none (fun _ e=>by cases e) (by decide) hcl ⟨p1,p2,p3⟩
   rw[hsame] at hgr
   obtain⟨hD,hk2,hNn⟩:=hgr
   refine hR _ _ _ _ _ hD ((hk1.mono fun q h=>⟨h.1,h.2.2.1⟩).trans (hk2.mono fun q h=>⟨h.1,h.2.1,h.2.2.2⟩)) hNn (fun k hk=>?_)
   simp only[af]
   iterate 13 rw[if_neg (by omega)]
  ·have hka:=(hk1.k a (by rw[hka'];exact hr3)).trans hka'
   have hga:=(hk1.h a (by rw[hka'];exact hr3)).trans hga'
   have hla1:=aM hga
   have hax:a≠x:=fun e=>by subst e;have :=hN2.kx;omega
   have hab:a≠gb:=fun e=>by subst e;omega
   obtain⟨u1,u2,u3⟩:=hao
   have hkz:(k=0)=False:=eq_false (by omega)
   simp only[go_sem,seval,hg2,hgg,hga,rR hlx1 hax,List.take_of_length_le (show cs.length≤3 by omega),List.take_of_length_le (show as_.length≤k*3 by omega)]
   refine⟨⟨by omega,by omega,by omega,by omega,p1,by omega⟩,by omega,by omega,?_,?_⟩
   ·have q7:=iO (K:=K) (r:=rd) (N:=H.length) (x:=a) (by rw[hka'];exact hr3.2) (aM hga')
    refine jh (eZ K rd H.length) [([],[]),([],[]),([],[]),([],[]),([0],[]),([],[]),([],[]),([],[]),([0],[]),([2],[1,2]),([0,1,2],[0,1]),([],[]),([],[]),([0],[0])] (by kernel_rfl) (by simp only[jl,jm,aV,all_cons,jz,VY,and_true,q1,q3,q4,q5,q6,q7])
   have hgr:=hN2.grow hD1 (k:=k+1) (ds:=as_++cs) hr4 hr2 hr3.1 (some a) (fun _ e=>by cases e;exact hka) (by omega) (by rw[List.length_append];omega) ⟨fun u hu=>(List.mem_append.1 hu).elim (u1 u) (p1 u),fun σ=>by rw[cX,List.map_append,←cX,←cX,u2,p2],fun n=>vZ.2 fun u hu=>(List.mem_append.1 hu).elim (vZ.1 (u3 n) u) (vZ.1 (p3 n) u)⟩
   rw[hsame] at hgr
   obtain⟨hD,hk2,hNn⟩:=hgr
   refine hR _ _ _ _ _ hD ((hk1.mono fun q h=>⟨h.1,h.2.2.1⟩).trans (hk2.mono fun q h=>⟨h.1,h.2.1,h.2.2.2⟩)) hNn (fun k hk=>?_)
   simp only[af]
   iterate 13 rw[if_neg (by omega)]
end
end Go.Vm
end
