/- Proved: laws of a machine of values; no conditions but each theorem's own. -/
import Derived.WalkKit
import Derived.Deep.RegionLaw
import Derived.Lib.SliceRun
import Derived.Test.YtidjknjilnopnaaGreatDoorProg
import Derived.Test.YtidjknjilnopnaaGreatDoorXcIToXdA
set_option linter.unusedVariables false
set_option linter.unusedSimpArgs false
set_option maxRecDepth 20000
set_option maxHeartbeats 8000000
section
namespace Go.Proofs
open Go.RowKit
theorem ahb:(Tryz.prog.info? 58).map (fun i=>i.size)=some 3:=by kernel_rfl
def mJ (k:Nat):List Value:=(Builtin.zeroCells #[.int .u32 0,.int .u32 0,.string {data:=#[]}] k).toList
theorem B8 (k:Nat):(mJ k).length=k*3:=by simp[mJ,Builtin.zeroCells]
theorem Zw (k:Nat):∀ u∈mJ k,u.oneCell'=true:=fun u hu=>by
 unfold mJ Builtin.zeroCells at hu;rw[Array.toList_map] at hu;obtain⟨i,-,rfl⟩:=List.mem_map.1 hu;have a:i%3<3:=Nat.mod_lt _ (by omega);show Value.oneCell' (#[Value.int IntKind.u32 0,.int .u32 0,.string {data:=#[]}][i%3]!)=true;generalize i%3=j at*
 match j,a with
 |0,_=>rfl
 |1,_=>rfl
 |2,_=>rfl
theorem VW (w:World)(ty:TypeId)(b o n c:Nat)(e:0<n)(hc:∀ j,j<n*3->(w.cell? ⟨b,o+j,none⟩).isSome=true)(d:∀ j,j<n*3->w.frozen? ⟨b,o+j,none⟩=false):
  (Builtin.clear_ #[49] ty #[.slice (some ⟨b,o,none⟩) n c]).run Tryz.prog w= .ok (.tuple #[]) (w.setCells b o (mJ n)):=by
 have a:=run_storeCells_cells (P:=Tryz.prog) b o (mJ n) 0 w (by rw[B8];simpa using hc) (by rw[B8];simpa using d) (Zw n);simp only[Nat.add_zero] at a;obtain⟨m,rfl⟩:∃ m,n=m+1:=⟨n-1,by omega⟩;unfold mJ at a;simp[Builtin.clear_,run_underlying Tryz.underlying49,Tryz.zeroValue58,Value.cells,a];rfl
set_option maxRecDepth 1000000 in
theorem afS (blk off n cap i j:Nat)(news:List Value)(w:World)(hij:i<j)(hj:j<=n)(hl:n<=cap)
  (hc:∀ k,k<cap*3->(w.cell? ⟨blk,off+k,none⟩).isSome=true/\w.frozen? ⟨blk,off+k,none⟩=false)
  (hnl:news.length=(n-j)*3) (hnc:∀ k u,news[k]?=some u->w.cell? ⟨blk,off+j*3+k,none⟩=some u) (hn1:∀ u∈news,u.oneCell'=true):
  Calls Tryz.prog 49 #[.slice (some ⟨blk,off,none⟩) n cap,.int .i64 i,.int .i64 j] w fun e w'=>e= .returned (.slice (some ⟨blk,off,none⟩) (i+(n-j)) cap)/\w'=(w.drew.setCells blk (off+i*3) news).setCells blk (off+(i+(n-j))*3) (mJ (n-(i+(n-j)))):=by
 obtain⟨i0,hi0,hz0⟩:∃ i0,Tryz.prog.info? 58=some i0/\i0.size=3:=by
  have h:=ahb;cases e:Tryz.prog.info? 58 with
  |none=>rw[e] at h;cases h
  |some i0=>rw[e] at h;simpa using h
 obtain⟨A,hA,hsrc⟩:∃ A:Addr,(if cap=j then some (⟨blk,off,none⟩:Addr) else some ⟨blk,off+j*3,none⟩)=some A/\Hid (∀ t u,news[t]?=some u->w.drew.cell? (A.add t)=some u):=by
  by_cases h:cap=j
  ·refine⟨⟨blk,off,none⟩,by simp[h],fun t u hu=>?_⟩;have h0:news.length=0:=by rw[hnl];omega
   rw[List.length_eq_zero_iff.1 h0] at hu;simp at hu
  ·refine⟨⟨blk,off+j*3,none⟩,by simp[h],fun t u hu=>?_⟩;rw[Addr.add_lit];exact hnc t u hu
 have s1:Hid (news.length=(n-j)*3):=hnl;have s2:Hid (∀ u∈news,u.oneCell'=true):=hn1;have s3:Hid (∀ t,t<news.length->(w.drew.cell? ⟨blk,off+i*3+t,none⟩).isSome=true/\w.drew.frozen? ⟨blk,off+i*3+t,none⟩=false):=by
  intro t ht;rw[hnl] at ht;rw[Nat.add_assoc];exact hc (i*3+t) (by omega)
 obtain⟨W1,hW1⟩:∃ W1,W1=w.drew.setCells blk (off+i*3) news:=⟨_,rfl⟩;have hl1:∀ k,k<cap*3->(W1.cell? ⟨blk,off+k,none⟩).isSome=true/\W1.frozen? ⟨blk,off+k,none⟩=false:=by
  intro k hk;rw[hW1];have h:=Go.Vm.lasts_setCells blk (off+i*3) news w.drew blk (off+k) (hc k hk).1;exact⟨h.1,h.2 (hc k hk).2⟩
 have hcl:∀ ty,(Builtin.clear_ #[49] ty #[.slice (some ⟨blk,off+(i+(n-j))*3,none⟩) (n-(i+(n-j))) (cap-(i+(n-j)))]).run Tryz.prog W1= .ok (.tuple #[]) (W1.setCells blk (off+(i+(n-j))*3) (mJ (n-(i+(n-j))))):=
  fun ty=>VW W1 ty blk _ _ _ (by omega) (fun t ht=>by rw[Nat.add_assoc];exact(hl1 _ (by omega)).1) (fun t ht=>by rw[Nat.add_assoc];exact(hl1 _ (by omega)).2)
 have hW:Hid (W1=w.drew.setCells blk (off+i*3) news):=hW1;have hic:i<=cap:=by omega
 have hjc:j<=cap:=by omega
 have hne:¬ i=j:=by omega
 clear hW1 hl1 hc hnl hnc hn1
 go_enter Tryz.func49,Tryz.ntmps49
 go_wp2_with fail
 go_region_law (refine step_append_room rfl (.tmp 22) (.tmp 25) 49 rfl 58 i0 3 Tryz.underlying49 hi0 hz0 blk off i cap (by simp[Act.eval,Act.put]) A (n-j) (cap-j) news (by simp[Act.eval,Act.put]) s1.out hsrc.out s2.out (by omega) s3.out ?_;rw[<-hW.out])
 go_wp2
 go_ret
 exact⟨rfl,by rw[hW.out]⟩
end Go.Proofs
end
section
namespace Go.Vm
section
open Go Go.Proofs Go.RowKit
theorem VRs.junks {ρ:Nat->Nat×Nat}{dom:Nat->Prop}{w:World}:∀ {rs:List Value},VRs ρ dom w (List.replicate rs.length .junk) rs
 |[]=>VRs.nil
 |_::_=>VRs.cons (by unfold VR;trivial) VRs.junks
theorem SR (n i:Nat)(Y:i<n)(cs:List V)(c:cs.length=n*3)(A:∀ u∈cs,u.one=true):aq Tryz.prog 49 [.slice 0 0 n 3,.i64 (i:Nat),.i64 ((i+1:Nat):Int)] [bK cs] (.slice 1 0 (n-1) 3) [none,bK (cs.take (i*3)++cs.drop ((i+1)*3))]:=by
 rintro ρ w ⟨l⟩ f N;have G:ag [bK cs] 0=bK cs:=rfl;unfold VRs at f;obtain⟨Z,l0,g,h0,f⟩:=f;unfold VRs at f;obtain⟨r1,l1,O,h1,f⟩:=f;unfold VRs at f;obtain⟨r2,l2,P,h2,f⟩:=f;unfold VRs at f;simp only at g;subst f P O g;unfold VR at h0 h1 h2;obtain⟨hd,a,cap,rfl,H,C⟩:=h0;subst h1 h2;obtain⟨rfl,s⟩:=C aa;simp only[iQ] at s |-
 obtain⟨rs,j,I⟩:=N.range G ((i+1)*3) ((n-(i+1))*3);simp only at j;have p:(cs.drop ((i+1)*3)).length=(n-(i+1))*3:=by rw[bU,c,Nat.sub_mul]
 rw[ar aa] at j;have Q:=j.length;have J:∀ u∈rs,u.oneCell'=true:=fun u hu=>by
  obtain⟨k,z,rfl⟩:=xE.1 hu;have t:k<(cs.drop ((i+1)*3)).length:=aa;obtain⟨r,g1,g2⟩:=j.get (i:=k) (v:=(cs.drop ((i+1)*3))[k]) ae;rw[aF z] at g1;cases g1;exact zC (A _ (BW (dd t))) g2
 refine(afS (ρ 0).1 (ρ 0).2 n cap i (i+1) rs w aa aa H (fun k z=>s k z) aa (fun k u hu=>?_) J).mono ?_
 ·exact I k u hu
 rintro e w' ⟨rfl,rfl⟩;have m0:=N.alike (Alike.drew w);have K:(mJ (n-(i+(n-(i+1))))).length=(n-(i+(n-(i+1))))*3:=B8 _;obtain⟨m1,f1⟩:=yM m0 (nid:=1) (b:=0) (o:=i*3) (mp:=none) (fun _ e=>by cases e) G (j.mono (fun _ _=>rfl) (fun _ h=>h) (Alike.drew w).lasts) (by rw[p];omega);have d:(splice cs (i*3) (cs.drop ((i+1)*3))).length=n*3:=by rw[rq (by rw[p];omega)];exact c
 rw[xu] at m1 f1;obtain⟨E,f2⟩:=yM m1 (nid:=1) (b:=0) (o:=(i+(n-(i+1)))*3) (mp:=none) (fun _ e=>by cases e) (if_pos rfl) VRs.junks (by rw[gv,K,d];omega);rw[xu] at E f2;have F:=f1.trans f2;have L:=F.lasts;have D:∀ (k:Nat) (v:V),(cs.take (i*3)++cs.drop ((i+1)*3))[k]?=some v->(splice (splice cs (i*3) (cs.drop ((i+1)*3))) ((i+(n-(i+1)))*3) (List.replicate (mJ (n-(i+(n-(i+1))))).length .junk))[k]?=some v:=fun k v x=>by
  have z:k<(n-1)*3:=by
   have :=(ca.1 x).1;rw[aE,br,p,c] at this;omega
  rw[Ax (by rw[gv,K,d];omega),if_neg aa,Ax (by rw[p];omega)];by_cases h1:k<i*3
  ·rw[if_neg aa];rw[gh (by rw[br,c];omega),oK,if_pos h1] at x;exact x
  ·rw[if_pos ⟨aa,aa⟩];rw[dL (by rw[br,c];omega),br,c,iM aa] at x;exact x
 have g:∀ b B,ag [none,bK (cs.take (i*3)++cs.drop ((i+1)*3))] b=some B->b=1/\B=⟨false,cs.take (i*3)++cs.drop ((i+1)*3),none⟩:=fun b B h=>by
  match b with
  |0=>simp[ag] at h
  |1=>exact⟨rfl,by simpa [ag] using h.symm⟩
  |b+2=>simp[ag] at h
 have q:∀ b,cU (cU (· <1) 1 0) 1 0 b->b<1:=fun b h=>by
  rcases h with(h|h)|h<;>omega
 have y:∀ b,cU (cU (· <1) 1 0) 1 0 b->b<2:=fun b h=>by have :=q b h;omega
 have R:∀ b,cU (cU (· <1) 1 0) 1 0 b->(fun b=>if b=1 then ρ 0 else ρ b) b=ρ b:=fun b h=>by
  have :=q b h;exact if_neg aa
 have S:(fun b=>if b=1 then ρ 0 else ρ b) 1=ρ 0:=if_pos rfl;refine⟨.slice (some ⟨(ρ 0).1,(ρ 0).2,none⟩) (i+(n-(i+1))) cap,fun b=>if b=1 then ρ 0 else ρ b,rfl,?_,⟨fun b B h=>?_,fun b B h=>?_,fun b T B B' h h' _ U=>?_,fun b B h k v x=>?_,fun b B h W k z=>?_,fun b B m h M=>?_⟩,ae,fun b X=>if_neg (by simp at X;omega),⟨F.os,F.output,F.tape,F.size,F.keep,F.lasts,fun b B h W=>?_⟩⟩
 ·unfold VR;exact⟨by show 1<2;omega,⟨(ρ 0).1,(ρ 0).2,none⟩,cap,by rw[show i+(n-(i+1))=n-1 by omega],aa,fun hc=>⟨rfl,L.there s⟩⟩
 ·obtain⟨rfl,rfl⟩:=g b B h;show 1<2;omega
 ·obtain⟨rfl,rfl⟩:=g b B h;exact E.lt 0 _ (if_pos rfl)
 ·obtain⟨rfl,rfl⟩:=g b B h;obtain⟨rfl,rfl⟩:=g T B' h';exact absurd rfl U
 ·obtain⟨rfl,rfl⟩:=g b B h;obtain⟨r,g1,g2⟩:=E.cell 0 _ (if_pos rfl) k v (D k v x);exact⟨r,g1,g2.mono R y (Lasts.refl _)⟩
 ·obtain⟨rfl,rfl⟩:=g b B h;refine E.free 0 _ (if_pos rfl) rfl k ?_;have t:k<(cs.take (i*3)++cs.drop ((i+1)*3)).length:=z;show k<(splice _ _ _).length;rw[rq (by rw[gv,K,d];omega),d];rw[aE,br,p,c] at t;omega
 ·obtain⟨rfl,rfl⟩:=g b B h;cases M
 ·obtain⟨rfl,rfl⟩:=g b B h;exact .inl ⟨0,_,G,rfl,rfl⟩
end
end Go.Vm
end
section
namespace Go.Vm
open Go.Proofs Go.Proofs.Tryz
section
theorem Be (l:List Gr):(∀ u∈cg l,u.one=true)/\(∀ σ,rens σ (cg l)=cg l)/\(∀ n,af n (cg l)):=by
 induction l with
 |nil=>exact⟨by simp[cg],fun _=>rfl,fun _=>trivial⟩
 |cons g l ih=>
  obtain⟨a,b,s⟩:=g;obtain⟨h1,h2,d⟩:=ih;refine⟨fun u hu=>?_,fun σ=>?_,fun n=>xf n _⟩
  ·have hu:u∈V.u32 a:: .u32 b:: .str s::cg l:=hu;simp only[cQ] at hu;rcases hu with rfl|rfl|rfl|hu
   ·rfl
   ·rfl
   ·rfl
   ·exact h1 u hu
  ·show rens σ (V.u32 a:: .u32 b:: .str s::cg l)=_;simp only[rens,V.ren,h2];rfl
theorem ag9 (l:List Pk):(∀ u∈cS l,u.one=true)/\(∀ σ,rens σ (cS l)=cS l)/\(∀ n,af n (cS l)):=by
 induction l with
 |nil=>exact⟨by simp[cS],fun _=>rfl,fun _=>trivial⟩
 |cons g l ih=>
  obtain⟨a,b,s⟩:=g;obtain⟨h1,h2,d⟩:=ih;refine⟨fun u hu=>?_,fun σ=>?_,fun n=>um n _⟩
  ·have hu:u∈V.i64 a:: .u32 b:: .str s::cS l:=hu;simp only[cQ] at hu;rcases hu with rfl|rfl|rfl|hu
   ·rfl
   ·rfl
   ·rfl
   ·exact h1 u hu
  ·show rens σ (V.i64 a:: .u32 b:: .str s::cS l)=_;simp only[rens,V.ren,h2];rfl
theorem Bv:∀ {l:List Gr} {i:Nat} (h:i<l.length),((cg l).drop (i*3)).take 3=[.u32 l[i].1,.u32 l[i].2.1,.str l[i].2.2]
 |(a,b,s)::l,0,_=>rfl
 |(a,b,s)::l,i+1,h=>by
  have :=Bv (l:=l) (i:=i) (by simpa using h);rw[show(i+1)*3=i*3+1+1+1 by omega];exact this
theorem Hh:∀ {l:List Gr} {i:Nat},i<l.length->(cg l).take (i*3)++(cg l).drop ((i+1)*3)=cg (l.eraseIdx i)
 |(a,b,s)::l,0,_=>rfl
 |(a,b,s)::l,i+1,h=>by
  have :=Hh (l:=l) (i:=i) (by simpa using h);rw[show(i+1)*3=i*3+1+1+1 by omega,show(i+1+1)*3=(i+1)*3+1+1+1 by omega];show V.u32 a:: .u32 b:: .str s::((cg l).take (i*3)++(cg l).drop ((i+1)*3))=_;rw[this];rfl
def jD (L:LnS)(a p:Int):Int:=if a<0\/(L.N.length:Int)<=a\/p<0\/(L.N.length:Int)<=p\/a=p then 0 else match L.N[a.toNat]? with
 |none=>0
 |some N=>ow N (if a<p then p-1 else p)
section
variable {K K0 K':RK}{H H0 H':List (Option Blk)}{Q0 Q:Rl->Prop}{i j j' n x:Nat}{c:NoK}{N N':NoS}{k:LnK}{L:LnS}{v:V}{air:List Gr}{all:List Pk}
theorem U0 (b:Cx K0 H0 Q0 K H)(g:LnAt K H k L)(F:k.xs.length<=3)(a p:Int):
  ∃ v K' H',Dx prog 15 [.ptr k.l 0,.i64 a,.i64 p] K H (fun _=>False) v K' H'/\(v= .i64 (jD L a p)/\K'=K/\H'=H):=by
 have m:=b.lt g.kl;have y:=g.l1;have z:=g.l2;have o:=g.l3;generalize e:jD L a p=R;unfold jD at e;refine bV (Q:=fun _=>False) (Post:=fun v K' H'=>v= .i64 R/\K'=K/\H'=H) ac (fn:=f15) func15 rfl am (ak ?_);simp -implicitDefEqProofs only[go_sem,seval];repeat refine aI ?_
 refine bA (En b g a) ac rfl (by simp[af,V.low,m]) b.sane ?_;rintro _ K1 H1 G y ⟨rfl,rfl,rfl⟩;have f:∀ t,R=0->Ex K1 H1 (fun _=>False) (fun v K' H'=>v= .i64 R/\K'=K1/\H'=H1) (.i64 0) ⟨t,H1⟩:=fun t h=>by subst h;exact Ex.of (s:=⟨t,H1⟩) (b.start _) trivial ⟨rfl,rfl,rfl⟩
 by_cases h1:a<0\/(k.xs.length:Int)<=a
 ·rw[if_pos h1];rw[if_pos aa] at e;simp -implicitDefEqProofs only[go_sem,seval,jh];repeat refine aI ?_
  exact f _ e.symm
 rw[if_neg h1];obtain⟨i,rfl⟩:∃ i:Nat,a=(i:Int):=⟨a.toNat,aa⟩;have D:i<k.xs.length:=aa;rw[cT,lp D];obtain⟨av,I,r,-,A⟩:=g.nd i D aa aa aa;simp -implicitDefEqProofs only[go_sem,seval];repeat refine aI ?_
 refine bA (En b g p) ac rfl (by simp[af,V.low,m]) b.sane ?_;rintro _ K2 H2 J z ⟨rfl,rfl,rfl⟩;by_cases h2:p<0\/(k.xs.length:Int)<=p
 ·rw[if_pos h2];rw[if_pos aa] at e;simp -implicitDefEqProofs only[go_sem,seval,jh];repeat refine aI ?_
  exact f _ e.symm
 rw[if_neg h2];obtain⟨q,rfl⟩:∃ i:Nat,p=(i:Int):=⟨p.toNat,aa⟩;have M:q<k.xs.length:=aa;rw[cT,lp M];by_cases O:i=q
 ·subst O;rw[if_pos aa] at e;simp -implicitDefEqProofs only[go_sem,seval];repeat refine aI ?_
  exact f _ e.symm
 have u:¬ (i:Int)=(q:Int):=aa;rw[if_neg aa,cT,aF aa] at e;dsimp only at e;have B:∀ (c:NoK) (N:NoS),NodeAt K2 H2 i c N->c.d<H2.length:=fun c N h=>by obtain⟨_,_,P⟩:=h.dev;exact b.lt P.kd
 have E:=B _ _ A;by_cases w:(i:Int)<(q:Int)
 ·rw[if_pos w] at e;have w1:ao ((q:Int)-1)=(q:Int)-1:=az aa aa;simp -implicitDefEqProofs only[go_sem,seval,u,w,decide_true,decide_false,r,w1];repeat refine aI ?_
  refine bA (HC b A ((q:Int)-1)) ac rfl (by simp[af,V.low,E]) b.sane ?_;rintro _ K3 H3 C o ⟨rfl,rfl,rfl⟩;simp -implicitDefEqProofs only[go_sem,seval];exact Ex.of (b.start _) trivial ⟨congrArg V.i64 e,rfl,rfl⟩
 ·rw[if_neg w] at e;simp -implicitDefEqProofs only[go_sem,seval,u,w,decide_false,r];repeat refine aI ?_
  refine bA (HC b A (q:Int)) ac rfl (by simp[af,V.low,E]) b.sane ?_;rintro _ K3 H3 C o ⟨rfl,rfl,rfl⟩;simp -implicitDefEqProofs only[go_sem,seval];exact Ex.of (b.start _) trivial ⟨congrArg V.i64 e,rfl,rfl⟩
end
end
section
def qT:Rl->Prop:=fun _=>True
section
variable {K K0 K':RK}{H H0 H':List (Option Blk)}{Q0 Q:Rl->Prop}{i j j' n x W a:Nat}{c:NoK}{N N':NoS}{k:LnK}{L:LnS}{v:V}{air:List Gr}{all:List Pk}
theorem zn {H:List (Option Blk)}{b a:Nat}{X:List (Option Blk)}{x:Option Blk}(h:b<H.length)(d:a≠b):ag (H.set a x++X) b=ag H b:=by
 rw[cz (by rw[aY];exact h),bW d]
theorem aaK:NoD (fun r=>r= .link\/r= .air) j:=⟨ae,ae⟩
theorem LnAt.airG (h:LnAt K H k L)(f:Cx K0 H0 qT K H)(g:H.length=W)(a:Option Nat)(m:∀ x,a=some x->K x=some .air)(b:List Gr):
  Cx K0 H0 qT (cV (fQ a K) W (some .air)) ((cutH a H++[bK (cg b)]).set k.l (bK [.slice k.na 0 k.xs.length 1,.slice W 0 b.length 3]))/\
  LnAt (cV (fQ a K) W (some .air)) ((cutH a H++[bK (cg b)]).set k.l (bK [.slice k.na 0 k.xs.length 1,.slice W 0 b.length 3])) k {L with air:=b}/\
  Cx K H (fun r=>r= .link\/r= .air) (cV (fQ a K) W (some .air)) ((cutH a H++[bK (cg b)]).set k.l (bK [.slice k.na 0 k.xs.length 1,.slice W 0 b.length 3])):=by
 have p:=f.lt h.ka;have q:af (H.length+1) [V.slice k.na 0 k.xs.length 1,.slice W 0 b.length 3]:=by simp[af,V.low];omega
 have s:=f.growN g h.kl trivial a .air m trivial (xf _ b) q;have d:=(f.start (fun r=>r= .link\/r= .air)).growN g h.kl (.inl rfl) a .air m (.inr rfl) (xf _ b) q;obtain⟨g1,g2,g3⟩:=uh (ds:=cg b) (vs:=[V.slice k.na 0 k.xs.length 1,.slice W 0 b.length 3]) f g h.kl m ae;have o:=d.off;refine⟨s,⟨g1,o.k _ _ h.ka ae,⟨_,g2,.inr ⟨_,rfl,gB,g3⟩⟩,(o.h _ _ h.ka ae).trans h.ga,h.l1,h.l2,h.l3,fun j a h1 h2 t=>(h.nd j a h1 h2 t).off o d.len ae ae aaK⟩,d⟩
noncomputable def rZ (k:LnK) (L:LnS) (kind:Int) (A:Nat) (M:Msg):Int×LnS:=match L.air[A]? with
 |none=>(7,L)
 |some g=>if kind=5 then(if L.air.length=60 then(9,L) else(0,{L with air:=L.air++[g]}))
  else if kind=4 then(0,{L with air:=L.air.eraseIdx A})
  else match L.N[(g.2.1-1#32).toNat]?,k.cs[(g.2.1-1#32).toNat]? with
   |some N,some c=>((vi N c.F g.1 M).1,{L with air:=L.air.eraseIdx A,N:=L.N.set (g.2.1-1#32).toNat (vi N c.F g.1 M).2})
   |_,_=>(13,{L with air:=L.air.eraseIdx A})
def uD (k:LnK)(L:LnS)(A:Nat)(M:Msg):Prop:=∀ g,L.air[A]?=some g->1<=g.2.1.toNat/\g.2.1.toNat<=k.xs.length/\g.2.2=M.text/\∀ N,L.N[(g.2.1-1#32).toNat]?=some N->M.fits N
theorem aey (hC:Cx K0 H0 Q0 K H)(hL:LnAt K H k L)(ho:∀ N∈L.N,N.ok n)(hn:n<=900000000)(hp8:∀ N∈L.N,N.Ps.length<=8)(kind B C:Int)(hk:kind=3\/kind=4\/kind=5)(A:Nat)(hA:A<L.air.length)(h60:L.air.length<=60)(src dst:BitVec 32)(txt:List ai)(M:Msg)(hM:kind=3->uD k L A M):
  ∃ v K' H',Dx prog 31 [.ptr k.l 0,.agg [.i64 kind,.i64 A,.i64 B,.i64 C,.u32 src,.u32 dst,.str txt]] K H qT v K' H'/\(v= .i64 (rZ k L kind A M).1/\LnAt K' H' k (rZ k L kind A M).2):=by
 have hl1:=hL.l1;have hl2:=hL.l2;have hl3:=hL.l3;obtain⟨av,hg,hair⟩:=hL.gl;obtain⟨a,rfl,ha,hga⟩:∃ a,av= .slice a 0 L.air.length 3/\K a=some .air/\ag H a=bK (cg L.air):=by
  rcases hair with⟨-,e⟩|h
  ·rw[e] at hA;simp at hA
  ·exact h
 have hcell:=Bv hA;have hlen:=vR L.air;obtain⟨o1,o2,o3⟩:=Be L.air;have hcut:=Hh hA;have hge:=aF hA;generalize hR:rZ k L kind A M=R;unfold rZ at hR;rw[hge] at hR;dsimp only at hR;obtain⟨fr,tg,tx,hge2⟩:∃ (fr tg:BitVec 32) (tx:List ai),L.air[A]=(fr,tg,tx):=⟨_,_,_,rfl⟩;rw[hge2] at hcell hR hge;dsimp only at hcell hR;have hll:=hC.lt hL.kl;have hla:=hC.lt ha;have hne:a≠k.l:=fun e=>by have :=hL.kl;rw[<-e,ha] at this;cases this
 have hC0:=(hC.start qT).junk (vs:=[.i64 kind,.i64 A,.i64 B,.i64 C,.u32 src,.u32 dst,.str txt]) (mm:=none) (by simp[af,V.low]);have hF0:=(hC.start (fun _=>False)).junk (vs:=[.i64 kind,.i64 A,.i64 B,.i64 C,.u32 src,.u32 dst,.str txt]) (mm:=none) (by simp[af,V.low]);have hA1:(0:Int)<=(A:Int):=aa;have hA2:(A:Int)<(L.air.length:Int):=aa;have hA3:A*3+3<=L.air.length*3:=aa;have hz:H.length+1<(H++[bK [.i64 kind,.i64 A,.i64 B,.i64 C,.u32 src,.u32 dst,.str txt]]++[bK [.u32 0#32,.u32 0#32,.str []]]).length:=ae;refine bV (Q:=qT) (Post:=fun v K' H'=>v= .i64 R.1/\LnAt K' H' k R.2) ac (fn:=f31) func31 rfl am (ak ?_);simp -implicitDefEqProofs only[go_sem,seval,hg,lI hll,lI hla,hga,hcell,hlen,eY];repeat refine aI ?_
 have hll1:k.l<H.length+1:=aa;have hla1:a<H.length+1:=aa;have hN1:H.length<H.length+1:=aa;refine And.intro ?_ ?_
 ·refine eC (fw (H.length+1)) [([],[]),([],[]),([],[]),([0],[]),([],[]),([0],[]),([],[]),([0],[]),([],[1]),([0,1],[0,1])] ac (by simp only[eO,eG,bh,mz,all_cons,rG,dU hll1,dU hla1,dU hN1,fC,kN,and_true])
 have hl0:(H++[bK [.i64 kind,.i64 A,.i64 B,.i64 C,.u32 src,.u32 dst,.str txt]]).length=H.length+1:=ae;have hD1:=hC0.boxed (zs:=[.u32 0#32,.u32 0#32,.str []]) (ys:=[.u32 fr,.u32 tg,.str tx]) (by simp[af,V.low]) (by simp[af,V.low]);have hF1:=hF0.boxed (zs:=[.u32 0#32,.u32 0#32,.str []]) (ys:=[.u32 fr,.u32 tg,.str tx]) (by simp[af,V.low]) (by simp[af,V.low]);have aset:=fun(x:Nat) (hx:x<H.length+1)=>lc (H:=H++[bK [.i64 kind,.i64 A,.i64 B,.i64 C,.u32 src,.u32 dst,.str txt]]) (x:=bK [.u32 0#32,.u32 0#32,.str []]) (y:=bK [.u32 fr,.u32 tg,.str tx]) (c:=x) (by rw[hl0];exact hx)
 have hact:=(aset H.length hN1).trans eY;have hb:=lF (H:=H++[bK [.i64 kind,.i64 A,.i64 B,.i64 C,.u32 src,.u32 dst,.str txt]]) (x:=bK [.u32 0#32,.u32 0#32,.str []]) (y:=bK [.u32 fr,.u32 tg,.str tx]);have hlT:((H++[bK [.i64 kind,.i64 A,.i64 B,.i64 C,.u32 src,.u32 dst,.str txt]]++[bK [.u32 0#32,.u32 0#32,.str []]]).set (H++[bK [.i64 kind,.i64 A,.i64 B,.i64 C,.u32 src,.u32 dst,.str txt]]).length (bK [.u32 fr,.u32 tg,.str tx])).length=H.length+2:=ae;rw[hl0] at hD1 hF1 hact hb hlT;clear aset;generalize ((H++[bK [.i64 kind,.i64 A,.i64 B,.i64 C,.u32 src,.u32 dst,.str txt]]++[bK [.u32 0#32,.u32 0#32,.str []]]).set (H.length+1) (bK [.u32 fr,.u32 tg,.str tx]))=T at*;have hLT:=hL.offF hF1;have hgT:=(hF1.off.h _ _ hL.kl id).trans hg;have hgaT:=(hF1.off.h _ _ ha id).trans hga;have hKN:K H.length=none:=hC.fresh _ (aH _);have hKN1:K (H.length+1)=none:=hC.fresh _ aa;simp -implicitDefEqProofs only[go_sem,seval,hact];repeat refine aI ?_
 have hllT:k.l<T.length:=aa;have hlaT:a<T.length:=aa;have hlN:H.length<T.length:=aa;have hlN1:H.length+1<T.length:=aa;by_cases h5:kind=5
 ·rw[if_pos h5] at hR;simp -implicitDefEqProofs only[go_sem,seval,h5,decide_true,hgT];repeat refine aI ?_
  by_cases hn60:L.air.length=60
  ·rw[if_pos hn60] at hR;have hn60':(L.air.length:Int)=60:=aa;subst hR;simp -implicitDefEqProofs only[go_sem,seval,hn60',decide_true];exact Ex.of hD1 trivial ⟨rfl,hLT⟩
  rw[if_neg hn60] at hR;have hn60':¬ (L.air.length:Int)=60:=aa;simp -implicitDefEqProofs only[go_sem,seval,hn60',decide_false,hb,hgT,hgaT,lI hlaT,sa hllT hne,jC,ar (show(cg L.air).length<=L.air.length*3 by omega)];repeat refine aI ?_
  refine And.intro ?_ ?_
  ·refine eC (iD a T.length) [([],[]),([],[]),([],[]),([],[]),([0],[]),([0],[]),([],[1]),([1,2],[1,2]),([],[]),([],[]),([0],[0])] ac (by simp only[eO,eG,bh,all_cons,wx,om hllT hne.symm,om hlN1 (show H.length+1≠a by omega),CP,CT hlaT,CN hlaT,fC,kN,yU,and_true])
  have hJ:=hD1.junk (vs:=[.u32 fr,.u32 tg,.str tx]) (mm:=none) (by simp[af,V.low]);have hLJ:=hLT.offF ((hD1.start (fun _=>False)).junk (vs:=[.u32 fr,.u32 tg,.str tx]) (mm:=none) (by simp[af,V.low]));obtain⟨hG,hLG,-⟩:=hLJ.airG hJ (W:=T.length+1) ae (some a) (fun x e=>by cases e;exact ha) (L.air++[(fr,tg,tx)]);subst hR;rw[AH,aE] at hG hLG;exact Ex.of hG trivial ⟨rfl,hLG⟩
 rw[if_neg h5] at hR;have h6:¬ kind=6:=aa;simp -implicitDefEqProofs only[go_sem,seval,h5,h6,decide_false,hgT,hact];repeat refine aI ?_
 have w1:=dw (i:=A) aa;refine iq [a] (SR L.air.length A hA (cg L.air) hlen o1) ac (by simp[w1]) rfl ae aM (by simp[hlaT]) ae (by simp[hgaT,o2,o3,w1]) ae ae ?_;simp -implicitDefEqProofs only[go_sem,seval,hlaT,(Be (L.air.eraseIdx A)).2.1,hcut,zn hllT hne,hgT];repeat refine aI ?_
 obtain⟨hD2,hL2,-⟩:=hLT.airG hD1 (W:=T.length) rfl (some a) (fun x e=>by cases e;exact ha) (L.air.eraseIdx A);have el:(L.air.eraseIdx A).length=L.air.length-1:=Br hA;have hnaN:a≠H.length:=aa;have hnlN:k.l≠H.length:=aa;have hnaN1:a≠H.length+1:=aa;have hnlN1:k.l≠H.length+1:=aa;have hact2:ag ((cutH (some a) T++[bK (cg (L.air.eraseIdx A))]).set k.l (bK [.slice k.na 0 k.xs.length 1,.slice T.length 0 (L.air.eraseIdx A).length 3])) H.length=_:=(bW hnlN _).trans ((zn hlN hnaN).trans hact);have hb2:ag ((cutH (some a) T++[bK (cg (L.air.eraseIdx A))]).set k.l (bK [.slice k.na 0 k.xs.length 1,.slice T.length 0 (L.air.eraseIdx A).length 3])) (H.length+1)=_:=(bW hnlN1 _).trans ((zn hlN1 hnaN1).trans hb);have e0:(cutH (some a) T++[bK (cg (L.air.eraseIdx A))]).set k.l (bK [.slice k.na 0 k.xs.length 1,.slice T.length 0 (L.air.eraseIdx A).length 3])=(T.set a none++[bK (cg (L.air.eraseIdx A))]).set k.l (bK [.slice k.na 0 k.xs.length 1,.slice T.length 0 (L.air.length-1) 3]):=by rw[el];rfl
 rw[e0] at hD2 hL2 hact2 hb2;clear e0;generalize (T.set a none++[bK (cg (L.air.eraseIdx A))]).set k.l (bK [.slice k.na 0 k.xs.length 1,.slice T.length 0 (L.air.length-1) 3])=M2 at*;generalize cV (fQ (some a) K) T.length (some .air)=K2 at*;obtain⟨av2,hgl2,-⟩:=hL2.gl;have hga2:=hL2.ga;simp -implicitDefEqProofs only[go_sem,seval,hact2];repeat refine aI ?_
 by_cases h4:kind=4
 ·rw[if_pos h4] at hR;subst hR;simp -implicitDefEqProofs only[go_sem,seval,h4,decide_true];exact Ex.of hD2 trivial ⟨rfl,hL2⟩
 rw[if_neg h4] at hR;obtain⟨ht1',ht2',ht3,hfit⟩:=hM aa _ hge;dsimp only at ht1' ht2' ht3 hfit;have ht1:¬ tg<1#32:=fun e=>by rw[wE] at e;have e:tg.toNat<1:=e;omega
 have hbig:¬ (k.xs.length:Int)<(tg.toNat:Int):=aa;have hi:(tg-1#32).toNat<k.xs.length:=by
  rw[BitVec.toNat_sub_of_le (by rw[BitVec.le_def];exact ht1')];show tg.toNat-1<_;omega
 have hi2:((tg-1#32).toNat:Int)<(k.xs.length:Int):=aa;have hi3:(0:Int)<=((tg-1#32).toNat:Int):=aa;obtain⟨i,hie⟩:∃ i:Nat,(tg-1#32).toNat=i:=⟨_,rfl⟩;rw[hie] at hi hi2 hi3 hR hfit;have hic:i<k.cs.length:=aa;have hiN:i<L.N.length:=aa;obtain⟨av3,hkx,hgx,hA3',hN⟩:=hL2.nd i hi hic hiN (by show i<L.all.length;omega);have hN:NodeAt K2 M2 i k.cs[i] L.N[i]:=hN;have hf:=hfit _ (aF hiN);have hoN:=ho _ (dd hiN);have hpN:=hp8 _ (dd hiN);rw[aF hiN,aF hic] at hR;dsimp only at hR;subst ht3;have hq:(k.xs.map (fun p=>V.ptr p 0)).getD i .junk= .ptr k.xs[i] 0:=by
  rw[aW,ci,aF hi];rfl
 have hX:=R2 hD2 hN hoN hn hpN M hf fr;have hdl:k.cs[i].d<M2.length:=by obtain⟨_,_,hD⟩:=hN.dev;exact hD2.lt hD.kd
 generalize M.text=tx at*;simp -implicitDefEqProofs only[go_sem,seval,ht1,decide_false,h4,hb2,hgl2,hbig,hie,hga2,hq,hgx,hi,hi2,hi3,ba];repeat refine aJ ?_
 refine cN (hX) ac rfl (by simp[af,V.low,hdl]) hD2.sane ?_;rintro _ K9 H9 hC9 hl9 ⟨rfl,hN1⟩;simp -implicitDefEqProofs only[go_sem,seval];repeat refine aI ?_
 subst hR;exact Ex.of (hD2.call hC9 fun _ _=>trivial) trivial ⟨rfl,hL2.one hC9 hi hic hN1⟩
end
end
section
structure ActP where
 kind:Int
 A:Int
 B:Int
 C:Int
 src:BitVec 32
 dst:BitVec 32
 txt:List ai
structure LnK.ok (k:LnK):Prop where
 x3:k.xs.length<=3
 F:∀ c∈k.cs,∀ a,(c.F a).2=true->0<=(c.F a).1/\(c.F a).1<c.ps.length
structure LnS.ok (L:LnS) (n:Nat):Prop where
 N:∀ N∈L.N,N.ok n
 p:∀ N∈L.N,0<N.Ps.length/\N.Ps.length<=8
 air:L.air.length<=60
noncomputable def kV (A:Int) (L:LnS) (i:Nat):LnS:={L with N:=(L.N.take i).map (fun N=>(fW N A).2)++L.N.drop i}
noncomputable def yq (A:Int) (L:LnS):Nat->Int
 |0=>0
 |i+1=>((L.N[i]?).map fun N=>(fW N A).1).getD 0
noncomputable def gO (k:LnK) (L:LnS) (a:ActP) (M:Msg):Int×LnS:=
 if a.kind=1\/a.kind=7 then
  if a.A<0\/(L.N.length:Int)<=a.A then(7,L) else match L.N[a.A.toNat]?,k.cs[a.A.toNat]? with
   |some N,some c=>if a.kind=1 then((rM N c.F a.src a.dst a.txt).1,{L with N:=L.N.set a.A.toNat (rM N c.F a.src a.dst a.txt).2}) else(0,{L with N:=L.N.set a.A.toNat {N with D:={N.D with busy:=decide (a.B=1)}}})
   |_,_=>(7,L)
 else if a.kind=2 then(yq a.A L L.N.length,kV a.A L L.N.length)
 else if a.kind=3\/a.kind=4\/a.kind=5 then(if a.A<0\/(L.air.length:Int)<=a.A then(7,L) else rZ k L a.kind a.A.toNat M)
 else(1,L)
section
variable {K K0 K':RK}{H H0 H':List (Option Blk)}{Q0 Q:Rl->Prop}{i j j' n x W a:Nat}{c:NoK}{N N':NoS}{k:LnK}{L:LnS}{v:V}{air:List Gr}{all:List Pk}
theorem adU {A:Int}(h:i<L.N.length):{kV A L i with N:=(kV A L i).N.set i (fW L.N[i] A).2}=kV A L (i+1):=by
 have e:((L.N.take i).map (fun N=>(fW N A).2)++L.N.drop i).set i (fW L.N[i] A).2=(L.N.take (i+1)).map (fun N=>(fW N A).2)++L.N.drop (i+1):=by
  have b:((L.N.take i).map (fun N=>(fW N A).2)).length=i:=by simp;omega
  rw[ou _ _ aa,b,gf,sO h,iI,o7 h,gD,dV];rfl
 show({L with N:=((L.N.take i).map (fun N=>(fW N A).2)++L.N.drop i).set i (fW L.N[i] A).2}:LnS)=_;rw[e];rfl
theorem agp {A:Int}(h:i<L.N.length)(h2:i<(kV A L i).N.length):(kV A L i).N[i]=L.N[i]:=by
 have b:((L.N.take i).map (fun N=>(fW N A).2)).length=i:=by simp;omega
 have e:(kV A L i).N[i]?=L.N[i]?:=by
  show((L.N.take i).map (fun N=>(fW N A).2)++L.N.drop i)[i]?=_;rw[dL aa,b,gf,il,iQ]
 rw[aF h2,aF h] at e;exact kJ e
theorem FE {A:Int}(h:i<=L.N.length):(kV A L i).N.length=L.N.length:=by
 show((L.N.take i).map (fun N=>(fW N A).2)++L.N.drop i).length=_;simp;omega
theorem Vn {A:Int}(h:i<L.N.length):yq A L (i+1)=(fW L.N[i] A).1:=by
 show((L.N[i]?).map fun N=>(fW N A).1).getD 0=_;rw[aF h];rfl
theorem VH (hC:Cx K0 H0 Q0 K H)(hL:LnAt K H k L)(hk:k.ok)(ho:L.ok n)(hn:n<=900000000)(a:ActP)(h6:a.kind≠6)(hA:-9223372036854775808<=a.A/\a.A<9223372036854775808)(M:Msg)(hM:a.kind=3->0<=a.A->uD k L a.A.toNat M):
  ∃ v K' H',Dx prog 17 [.ptr k.l 0,.agg [.i64 a.kind,.i64 a.A,.i64 a.B,.i64 a.C,.u32 a.src,.u32 a.dst,.str a.txt]] K H qT v K' H'/\(v= .i64 (gO k L a M).1/\LnAt K' H' k (gO k L a M).2):=by
 have hl1:=hL.l1;have hl2:=hL.l2;have hl3:=hL.l3;have hll:=hC.lt hL.kl;have hll1:k.l<H.length+1:=aa;obtain⟨kind,A,B,Cc,src,dst,txt⟩:=a;dsimp only at*;generalize hR:gO k L ⟨kind,A,B,Cc,src,dst,txt⟩ M=R;unfold gO at hR;dsimp only at hR;have hC0:=(hC.start qT).junk (vs:=[.i64 kind,.i64 A,.i64 B,.i64 Cc,.u32 src,.u32 dst,.str txt]) (mm:=none) (by simp[af,V.low]);have hF0:=(hC.start (fun _=>False)).junk (vs:=[.i64 kind,.i64 A,.i64 B,.i64 Cc,.u32 src,.u32 dst,.str txt]) (mm:=none) (by simp[af,V.low]);have hLT:=hL.offF hF0;have hact:ag (H++[bK [.i64 kind,.i64 A,.i64 B,.i64 Cc,.u32 src,.u32 dst,.str txt]]) H.length=bK [.i64 kind,.i64 A,.i64 B,.i64 Cc,.u32 src,.u32 dst,.str txt]:=eY;have hlT:(H++[bK [.i64 kind,.i64 A,.i64 B,.i64 Cc,.u32 src,.u32 dst,.str txt]]).length=H.length+1:=ae;have hKN:K H.length=none:=hC.fresh _ (aH _);refine bV (Q:=qT) (Post:=fun v K' H'=>v= .i64 R.1/\LnAt K' H' k R.2) ac (fn:=f17) func17 rfl am (ak ?_);simp -implicitDefEqProofs only[go_sem,seval,eY];repeat refine aI ?_
 generalize H++[bK [.i64 kind,.i64 A,.i64 B,.i64 Cc,.u32 src,.u32 dst,.str txt]]=T at*;have hllT:k.l<T.length:=aa;refine bA (En hC0 hLT A) ac rfl (by simp[af,V.low,hllT]) hC0.sane ?_;rintro _ K1 H1 hC1 hl1 ⟨rfl,hK1,hH1⟩;obtain rfl:=hK1.symm;obtain rfl:=hH1.symm;have ret_:∀ (e:Int) (t:List (Nat×V)),R=(e,L)->Ex K H qT (fun v K' H'=>v= .i64 R.1/\LnAt K' H' k R.2) (.i64 e) ⟨t,T⟩:=fun e t h=>by subst h;exact Ex.of (s:=⟨t,T⟩) hC0 trivial ⟨rfl,hLT⟩
 by_cases h17:kind=1\/kind=7
 ·rw[if_pos h17] at hR;by_cases hs:A<0\/(k.xs.length:Int)<=A
  ·rw[if_pos aa] at hR;rw[if_pos hs];rcases h17 with rfl|rfl
   all_goals
    simp -implicitDefEqProofs only[go_sem,seval,jh,hact,decide_true,decide_false];repeat refine aI ?_
    exact ret_ _ _ hR.symm
  rw[if_neg hs];obtain⟨i,rfl⟩:∃ i:Nat,A=(i:Int):=⟨A.toNat,aa⟩;have hi:i<k.xs.length:=aa;have hiN:i<L.N.length:=aa;have hic:i<k.cs.length:=aa;rw[cT,lp hi];rw[if_neg aa,cT,aF hiN,aF hic] at hR;dsimp only at hR;obtain⟨av,hkx,hgx,-,hN⟩:=hLT.nd i hi hic hiN aa;have hd:k.cs[i].d<T.length:=by obtain⟨_,_,hD⟩:=hN.dev;exact hC0.lt hD.kd
  rcases h17 with rfl|rfl
  ·rw[if_pos rfl] at hR;simp -implicitDefEqProofs only[go_sem,seval,hact,hgx,decide_true];repeat refine aI ?_
   refine cN (agN hC0 hN (ho.N _ (dd hiN)) hn (hk.F _ (dd hic)) src dst txt) ac rfl (by simp[af,V.low,hd]) hC0.sane ?_;rintro _ K2 H2 hC2 hl2 ⟨rfl,hN2⟩;simp -implicitDefEqProofs only[go_sem,seval];repeat refine aI ?_
   subst hR;exact Ex.of (hC0.call hC2 fun _ _=>trivial) trivial ⟨rfl,hLT.one hC2 hi hic hN2⟩
  ·rw[if_neg ah] at hR;obtain⟨out,got,hD⟩:=hN.dev;simp -implicitDefEqProofs only[go_sem,seval,hact,hgx,decide_true,decide_false];repeat refine aI ?_
   refine cN (Ql hC0 hD (decide (B=1))) ac rfl (by simp[af,V.low,hd]) hC0.sane ?_;rintro _ K2 H2 hC2 hl2 ⟨rfl,hK2,hD2⟩;obtain rfl:=hK2.symm;simp -implicitDefEqProofs only[go_sem,seval];repeat refine aI ?_
   subst hR;have hCd:=hC2.mono (Q2:=qD i) fun r e=>by subst e;rfl
   have ho2:=hC2.off;refine Ex.of (hC0.call hC2 fun _ _=>trivial) trivial ⟨rfl,hLT.one hCd hi hic ⟨⟨_,_,hD2⟩,hN.len,fun i' h1 h2=>(hN.peer i' h1 h2).off ho2 ae ae ae ae ae ae,hN.bkt.off ho2 ae ae,hN.pth.off ho2 hC2.len ae⟩⟩
 rw[if_neg h17] at hR;have h1:¬ kind=1:=aa;have h7:¬ kind=7:=aa;by_cases h2:kind=2
 ·subst h2;rw[if_pos rfl] at hR;obtain⟨av,hgl,-⟩:=hLT.gl;simp -implicitDefEqProofs only[go_sem,seval,hact,hgl,decide_true,decide_false];repeat refine aI ?_
  refine bq (fun j st=>∃ (i:Nat) (Hi:List (Option Blk)) (Ki:RK),i+j=k.xs.length/\Cx K H qT Ki Hi/\LnAt Ki Hi k (kV A L i)/\Ki H.length=none/\ag Hi H.length=bK [.i64 2,.i64 A,.i64 B,.i64 Cc,.u32 src,.u32 dst,.str txt]/\st=⟨[(3,.ptr H.length 0),(4,.i64 (yq A L i)),(48,.slice k.na 0 k.xs.length 1),(49,.i64 k.xs.length),(50,.i64 i)],Hi⟩) ?_ ?_
  ·exact bJ k.xs.length ⟨[(3,.ptr H.length 0),(4,.i64 0),(48,.slice k.na 0 k.xs.length 1),(49,.i64 k.xs.length),(50,.i64 (0:Nat))],T⟩ (by simp[St.get,aj]) rfl (fun _ _ h=>h) ⟨0,T,K,aa,hC0,hLT,hKN,hact,rfl⟩
  rintro j st ⟨i,Hi,Ki,hij,hCi,hLi,hKi,hgi,rfl⟩-;by_cases hi:i<k.xs.length
  rotate_left
  ·have hi':¬ (i:Int)<(k.xs.length:Int):=aa;obtain rfl:i=k.xs.length:=aa;simp -implicitDefEqProofs only[go_sem,seval,hi',decide_false];repeat refine aI ?_
   subst hR;rw[<-hl2] at hLi |-
   exact Ex.of hCi trivial ⟨rfl,hLi⟩
  have hi':(i:Int)<(k.xs.length:Int):=aa;have hi0:(0:Int)<=(i:Int):=aa;have w1:=dw (i:=i) (by have :=hk.x3;omega);have hga:=hLi.ga;have hq:(k.xs.map (fun p=>V.ptr p 0)).getD i .junk= .ptr k.xs[i] 0:=by
   rw[aW,ci,aF hi];rfl
  have hiN:i<L.N.length:=aa;have hic:i<k.cs.length:=aa;have hiN2:i<(kV A L i).N.length:=by rw[FE aa];exact hiN
  obtain⟨av2,hkx,hgx,-,hN⟩:=hLi.nd i hi hic hiN2 (by show i<L.all.length;omega);rw[agp hiN] at hN;have hd:k.cs[i].d<Hi.length:=by obtain⟨_,_,hD⟩:=hN.dev;exact hCi.lt hD.kd
  have hpN:=ho.p _ (dd hiN);simp -implicitDefEqProofs only[go_sem,seval,hi',decide_true,hga,hq,hgx,hgi,hi,hi0,ba];repeat refine aI ?_
  refine cN (ag5 hCi hN (ho.N _ (dd hiN)) hn hpN.2 hpN.1 A hA.1 hA.2) ac rfl (by simp[af,V.low,hd]) hCi.sane ?_;rintro _ K2 H2 hC2 hl2 ⟨rfl,hN2⟩;simp -implicitDefEqProofs only[go_sem,seval];repeat refine aI ?_
  have hL2:=hLi.one hC2 hi hic hN2;rw[adU hiN] at hL2;refine bx (j-1) ⟨[(3,.ptr H.length 0),(4,.i64 (yq A L (i+1))),(48,.slice k.na 0 k.xs.length 1),(49,.i64 k.xs.length),(50,.i64 (i+1:Nat))],H2⟩ aa (by simp[St.get,aj,w1,Vn hiN]) rfl (fun _ _ h=>h) ⟨i+1,H2,K2,aa,hCi.call hC2 fun _ _=>trivial,hL2,?_,?_,rfl⟩
  ·cases e:K2 H.length with
   |none=>rfl
   |some r=>
    obtain⟨r0,e0,-⟩:=hC2.kin _ _ (aU hgi) e;rw[hKi] at e0;cases e0
  ·exact(hC2.getN hKi (aU hgi)).trans hgi
 rw[if_neg h2] at hR;by_cases hk3:kind=3\/kind=4\/kind=5
 rotate_left
 ·rw[if_neg hk3] at hR;have h3:¬ kind=3:=aa;have h4:¬ kind=4:=aa;have h5:¬ kind=5:=aa;simp -implicitDefEqProofs only[go_sem,seval,hact,h1,h7,h2,h3,h4,h5,h6,decide_false];repeat refine aI ?_
  exact ret_ _ _ hR.symm
 rw[if_pos hk3] at hR;obtain⟨av,hgl,hair⟩:=hLT.gl;by_cases hA0:A<0
 ·rw[if_pos (.inl hA0)] at hR;rcases hk3 with rfl|rfl|rfl
  all_goals
   simp -implicitDefEqProofs only[go_sem,seval,hact,hA0,decide_true,decide_false];repeat refine aJ ?_
   exact ret_ _ _ hR.symm
 by_cases hAn:(L.air.length:Int)<=A
 ·rw[if_pos (.inr hAn)] at hR;rcases hair with⟨rfl,h0⟩|⟨a,rfl,ha,-⟩
  ·have hA1:(0:Int)<=A:=aa;rcases hk3 with rfl|rfl|rfl
   all_goals
    simp -implicitDefEqProofs only[go_sem,seval,hact,hgl,hA0,hA1,decide_true,decide_false];repeat refine aJ ?_
    exact ret_ _ _ hR.symm
  ·rcases hk3 with rfl|rfl|rfl
   all_goals
    simp -implicitDefEqProofs only[go_sem,seval,hact,hgl,hA0,hAn,decide_true,decide_false];repeat refine aJ ?_
    exact ret_ _ _ hR.symm
 rw[if_neg aa] at hR;obtain⟨a,rfl⟩:∃ a,av= .slice a 0 L.air.length 3:=by
  rcases hair with⟨-,e⟩|⟨a,e,-⟩
  ·rw[e] at hAn;simp at hAn;omega
  ·exact⟨a,e⟩
 obtain⟨i,rfl⟩:∃ i:Nat,A=(i:Int):=⟨A.toNat,aa⟩;rw[cT] at hR;have hX:=aey hC0 hLT ho.N hn (fun N h=>(ho.p N h).2) kind B Cc hk3 i aa ho.air src dst txt M (fun e=>by have :=hM e aa;rwa [cT] at this);rcases hk3 with rfl|rfl|rfl
 all_goals
  simp -implicitDefEqProofs only[go_sem,seval,hact,hgl,hA0,hAn,decide_true,decide_false];repeat refine aJ ?_
  refine bA (hX) ac rfl (by simp[af,V.low,hllT]) hC0.sane ?_;rintro _ K9 H9 hC9 hl9 ⟨rfl,hL9⟩;simp -implicitDefEqProofs only[go_sem,seval];subst hR;exact Ex.of (hC0.call hC9 fun _ _=>trivial) trivial ⟨rfl,hL9⟩
end
end
section
section
variable {K K0 K':RK}{H H0 H':List (Option Blk)}{Q0 Q:Rl->Prop}{i j j' n x W a b:Nat}{c:NoK}{N N':NoS}{k:LnK}{L:LnS}{v:V}{air:List Gr}{all al:List Pk}
theorem Sz {N n:Nat}(h:N<=n):ia K Q N n=1:=by unfold ia;rw[if_neg aa]
theorem LnAt.oneA (h:LnAt K H k L)(q:Cx K H Q K' H')(f:∀ r,Q r->qD j r\/r= .node j\/r= .all j)(D:j<k.xs.length)(t:j<k.cs.length)(u:NdAt K' H' j k.xs[j] k.cs[j] N' all):LnAt K' H' k {L with N:=L.N.set j N',all:=L.all.set j all}:=by
 have g:=q.off;have s:¬ Q .link:=fun d=>by rcases f _ d with h|h|h<;>first|exact h|cases h
 have n2:¬ Q .nodes:=fun d=>by rcases f _ d with h|h|h<;>first|exact h|cases h
 have w:¬ Q .air:=fun d=>by rcases f _ d with h|h|h<;>first|exact h|cases h
 have y:∀ j',j'≠j->¬ Q (.node j'):=fun j' e d=>by
  rcases f _ d with h|h|h
  ·exact h
  ·cases h;exact e rfl
  ·cases h
 have z:∀ j',j'≠j->¬ Q (.all j'):=fun j' e d=>by
  rcases f _ d with h|h|h
  ·exact h
  ·cases h
  ·cases h;exact e rfl
 have A:∀ j',j'≠j->NoD Q j':=fun j' e=>by
  have key:∀ r,qD j' r->¬ Q r:=fun r p d=>by
   rcases f _ d with h|h|h
   ·cases r<;>first|exact e (p.symm.trans h)|exact p
   ·subst h;exact p
   ·subst h;exact p
  exact⟨⟨key _ rfl,key _ rfl,key _ rfl,key _ rfl,key _ rfl,key _ rfl,key _ rfl⟩,fun _=>⟨key _ rfl,key _ rfl,key _ rfl,key _ rfl,key _ rfl,fun _=>⟨key _ rfl,key _ rfl⟩⟩⟩
 obtain⟨v,g1,g2⟩:=h.gl;have B:=h.l2;have C:=h.l3;refine⟨g.k _ _ h.kl s,g.k _ _ h.ka n2,⟨v,(g.h _ _ h.kl s).trans g1,g2.off g w⟩,(g.h _ _ h.ka n2).trans h.ga,h.l1,by show(L.N.set j N').length=_;rw[aY];exact h.l2,by show(L.all.set j all).length=_;rw[aY];exact h.l3,fun j' a h1 h2 E=>?_⟩;have l:j'<L.N.length:=aa;have m:j'<L.all.length:=aa;show NdAt K' H' j' k.xs[j'] k.cs[j'] ((L.N.set j N')[j']'(by rw[aY];exact l)) ((L.all.set j all)[j']'(by rw[aY];exact m));by_cases e:j'=j
 ·subst e;rw[sR,sR];exact u
 ·rw[uT (fun h=>e h.symm),uT (fun h=>e h.symm)];exact(h.nd j' a h1 l m).off g q.len (y _ e) (z _ e) (A _ e)
theorem aeZ (hC:Cx K0 H0 qT K H)(hL:LnAt K H k L){fr tg:BitVec 32}{tx:List ai}(hb:ag H b=bK [.u32 fr,.u32 tg,.str tx])(hKb:K b=none)(h60:L.air.length<60)
  {t:List (Nat×V)} (h0:aj t 0= .ptr k.l 0) (h9:aj t 9= .ptr b 0) {R:Exit->St->Prop} {r0 r1 r2 r3 c3 r4 r5 r6 c6 r7 r8 r9 e9 r10 r11 r12 c13:Code} {x37:Operand} {b0 b1 b2 b3:Nat}
  (hc:f10.body=some (.seq r0 (.seq r1 (.seq (.seq r2 (.block b0 (.loop (.seq r3 (.seq c3 (.seq (.block b1 (.seq r4 (.seq (.seq r5 (.block b2 (.loop (.seq r6 (.seq c6 (.seq (.block b3 (.seq r7 (.seq r8 (.cond x37 r9 e9)))) r10)))))) r11))) r12)))))) c13))))
  (hR:∀ (t':List (Nat×V)) (K':RK) (H':List (Option Blk)),Cx K0 H0 qT K' H'->Cx K H (fun r=>r= .link\/r= .air) K' H'->LnAt K' H' k {L with air:=L.air++[(fr,tg,tx)]}->(∀ q,q<38->aj t' q=aj t q)->R .normal ⟨t',H'⟩):
  vc prog H0.length f10.ntmps r9 R ⟨t,H⟩:=by
 have hll:=hC.lt hL.kl;have hlb:=aU hb;obtain⟨av,hg,hair⟩:=hL.gl;simp only[f10,cf,Code.seq.injEq,Code.block.injEq,Code.loop.injEq,Code.cond.injEq] at hc;obtain⟨-,-,⟨⟨-,-,-,-,⟨⟨-,-,⟨⟨-,-,-,-,⟨⟨-,-,-,-,rfl,-⟩,-⟩⟩,-⟩⟩,-⟩⟩,-⟩⟩:=hc;refine ak ?_;have hJ:=hC.junk (vs:=[.u32 fr,.u32 tg,.str tx]) (mm:=none) (by simp[af,V.low]);have hF:=(hC.start (fun _=>False)).junk (vs:=[.u32 fr,.u32 tg,.str tx]) (mm:=none) (by simp[af,V.low]);have hLJ:=hL.offF hF;rcases hair with⟨rfl,h00⟩|⟨a,rfl,ha,hga⟩
 ·simp -implicitDefEqProofs only[go_sem,seval,h0,h9,hg,hb,m7 hll];repeat refine aI ?_
  refine And.intro ?_ ?_
  ·refine eC (fw H.length) [([],[]),([],[]),([],[]),([],[]),([0],[]),([0],[]),([],[1]),([1],[1]),([],[]),([],[]),([0],[0])] ac (by simp only[eO,eG,bh,all_cons,rG,DD,dU hll,dU hlb,fC,kN,and_true])
  obtain⟨hG,hLG,hX⟩:=hLJ.airG hJ (W:=H.length+1) ae none (fun _ e=>by cases e) [(fr,tg,tx)];refine hR _ _ _ hG ((hF.mono fun _ h=>h.elim).call hX fun _ h=>h) (by rw[h00];exact hLG) (fun q hq=>?_);simp only[aj];iterate 10 rw[if_neg aa]
 ·have hla:=hC.lt ha;have hlen:=vR L.air;have hne:a≠k.l:=fun e=>by have :=hL.kl;rw[<-e,ha] at this;cases this
  have hba:b≠a:=fun e=>by subst e;rw[hKb] at ha;cases ha
  obtain⟨o1,o2,o3⟩:=Be L.air;simp -implicitDefEqProofs only[go_sem,seval,h0,h9,hg,hb,hga,lI hla,sa hll hne,jC,ar (show(cg L.air).length<=L.air.length*3 by omega)];repeat refine aI ?_
  refine And.intro ?_ ?_
  ·refine eC (iD a H.length) [([],[]),([],[]),([],[]),([],[]),([0],[]),([0],[]),([],[1]),([1,2],[1,2]),([],[]),([],[]),([0],[0])] ac (by simp only[eO,eG,bh,all_cons,wx,om hll hne.symm,om hlb hba,CP,CT hla,CN hla,fC,kN,yU,and_true])
  obtain⟨hG,hLG,hX⟩:=hLJ.airG hJ (W:=H.length+1) ae (some a) (fun _ e=>by cases e;exact ha) (L.air++[(fr,tg,tx)]);rw[AH,aE] at hG hLG hX;refine hR _ _ _ hG ((hF.mono fun _ h=>h.elim).call hX fun _ h=>h) hLG (fun q hq=>?_);simp only[aj];iterate 10 rw[if_neg aa]
end
end
section
section
variable {K K0 K':RK}{H H0 H':List (Option Blk)}{Q0 Q:Rl->Prop}{i j j' n x W a b:Nat}{c:NoK}{N N':NoS}{k:LnK}{L:LnS}{v:V}{air:List Gr}{all al:List Pk}
def qN (j:Nat):Rl->Prop:=fun r=>qD j r\/r= .node j\/r= .all j
theorem LnAt.node (h:LnAt K H k L)(hi:i<k.xs.length)(d:i<k.cs.length)(e:L.N[i]?=some N)(f:L.all[i]?=some al):NdAt K H i k.xs[i] k.cs[i] N al:=by
 obtain⟨h2,rfl⟩:=ca.1 e;obtain⟨g,rfl⟩:=ca.1 f;exact h.nd i hi d h2 g
theorem Lp (g:Cx K0 H0 qT K H)(h:K x=some (.node i))(l:H.length=W)(d:Nat)(u:d<H.length)(a:Option Nat)(m:∀ y,a=some y->K y=some (.all i))(gs:List Pk)(h0:0<gs.length):
  Cx K0 H0 qT (cV (fQ a K) W (some (.all i))) ((cutH a H++[bK (cS gs)]).set x (bK [.ptr d 0,.slice W 0 gs.length 3]))/\
  Cx K H (fun r=>r= .node i\/r= .all i) (cV (fQ a K) W (some (.all i))) ((cutH a H++[bK (cS gs)]).set x (bK [.ptr d 0,.slice W 0 gs.length 3]))/\
  cV (fQ a K) W (some (.all i)) x=some (.node i)/\
  ag ((cutH a H++[bK (cS gs)]).set x (bK [.ptr d 0,.slice W 0 gs.length 3])) x=bK [.ptr d 0,.slice W 0 gs.length 3]/\
  RwAt (cV (fQ a K) W (some (.all i))) ((cutH a H++[bK (cS gs)]).set x (bK [.ptr d 0,.slice W 0 gs.length 3])) (.all i) (.slice W 0 gs.length 3) gs.length (cS gs):=by
 have s:af (H.length+1) [V.ptr d 0,.slice W 0 gs.length 3]:=by simp[af,V.low];omega
 have t:=g.growN l h trivial a (.all i) m trivial (um _ gs) s;have o:=(g.start (fun r=>r= .node i\/r= .all i)).growN l h (.inl rfl) a (.all i) m (.inr rfl) (um _ gs) s;obtain⟨g1,g2,g3⟩:=uh (ds:=cS gs) (vs:=[V.ptr d 0,.slice W 0 gs.length 3]) g l h m ae;exact⟨t,o,g1,g2,.inr ⟨W,rfl,h0,gB,g3⟩⟩
theorem Nj (hC:Cx K0 H0 qT K H)(hL:LnAt K H k L)(hi:i<k.xs.length)(hic:i<k.cs.length)(hNi:L.N[i]?=some N)(hai:L.all[i]?=some al)(hb:al.length+N.D.got.length<=6500000000000)
  {t:List (Nat×V)} (h7:aj t 7= .ptr k.xs[i] 0) {R:Exit->St->Prop} {r0 r1 r2 r3 c3 r4 r5 r6 c6 r7 r8 r9 e9 r10 r11 r12 c13:Code} {x37:Operand} {b0 b1 b2 b3:Nat}
  (hc:f10.body=some (.seq r0 (.seq r1 (.seq (.seq r2 (.block b0 (.loop (.seq r3 (.seq c3 (.seq (.block b1 (.seq r4 (.seq (.seq r5 (.block b2 (.loop (.seq r6 (.seq c6 (.seq (.block b3 (.seq r7 (.seq r8 (.cond x37 r9 e9)))) r10)))))) r11))) r12)))))) c13))))
  (hR:∀ (t':List (Nat×V)) (K':RK) (H':List (Option Blk)),Cx K0 H0 qT K' H'->LnAt K' H' k {L with N:=L.N.set i {N with D:={N.D with got:=[]}},all:=L.all.set i (al++N.D.got)}->(∀ q,q<49->aj t' q=aj t q)->R .normal ⟨t',H'⟩):
  vc prog H0.length f10.ntmps r11 R ⟨t,H⟩:=by
 obtain⟨v,hkx,hgx,hal,hN⟩:=hL.node hi hic hNi hai;generalize hx:k.xs[i]=x at*;have hxe:k.xs[i]=x:=hx;generalize hce:k.cs[i]=c at*;obtain⟨_,_,hD⟩:=hN.dev;have hkd:=hD.kd;clear hD;have hlx:=hC.lt hkx;have hlc:=hC.lt hkd;have hxc:x≠c.d:=fun e=>by rw[<-e,hkx] at hkd;cases hkd
 simp only[f10,cf,Code.seq.injEq,Code.block.injEq,Code.loop.injEq,Code.cond.injEq] at hc;obtain⟨-,-,⟨⟨-,-,-,-,⟨⟨-,-,⟨-,rfl⟩⟩,-⟩⟩,-⟩⟩:=hc;refine ak ?_;simp -implicitDefEqProofs only[go_sem,seval,h7,hgx];repeat refine aI ?_
 refine cN (aag hC hN) ac rfl (by simp[af,V.low,hlc]) hC.sane ?_;rintro _ K1 H1 hC1 hl1 ⟨hK1,hv1,hN1⟩;obtain rfl:=hK1.symm;have ho1:=hC1.off;have hD1:=hC.call hC1 fun _ _=>trivial
 have hg1:=(ho1.h _ _ hkx ae).trans hgx;have hal1:=hal.off ho1 ae;have hlx1:=hC1.lt hkx;have hlc1:=hC1.lt hkd;have hl1:H.length<=H1.length:=hC1.len;have hL1:∀ {K2:RK} {H2:List (Option Blk)} {w:V},Cx K H1 (fun r=>r= .node i\/r= .all i) K2 H2->K2 x=some (.node i)->ag H2 x=bK [.ptr c.d 0,w]->RwAt K2 H2 (.all i) w (al++N.D.got).length (cS (al++N.D.got))->LnAt K2 H2 k {L with N:=L.N.set i {N with D:={N.D with got:=[]}},all:=L.all.set i (al++N.D.got)}:=fun hC2 h1 h2 h3=>
  hL.oneA ((hC1.mono (Q2:=qN i) fun r e=>by subst e;exact .inl rfl).call hC2 fun r h=> .inr h) (fun _ h=>h) hi hic (by rw[hxe,hce];exact⟨_,h1,h2,h3,hN1.off hC2.off hC2.len ⟨ae,ae⟩⟩)
 have hw:=wM (K:=K) (Q:=fun r=>r= .dev i) (Q2:=fun r=>r= .dev i) (N:=H.length) (n:=H.length) (k:=H1.length-H.length) (aH _) (fun _ h=>h);have hcx:=vp (Q:=fun r=>r= .dev i) hkx hlx ae;have hcn:=Sz (K:=K) (Q:=fun r=>r= .dev i) hl1;rcases hv1 with⟨rfl,hn0⟩|⟨gb,rfl,hm0,hgb,hgg⟩
 ·have e0:=jJ.1 hn0;rw[e0,iw] at hL1;have hp:=hD1.put (mm:=none) hkx trivial (vs:=[.ptr c.d 0,v]) (hD1.sane _ _ hg1).1;have hp0:=(hC1.start (fun r=>r= .node i)).put (mm:=none) hkx rfl (vs:=[.ptr c.d 0,v]) (hD1.sane _ _ hg1).1;have hp1:=hp0.mono (Q2:=fun r=>r= .node i\/r= .all i) fun _ h=> .inl h
  have hLp:=hL1 hp1 hkx (bG hlx1 _) (hal1.off hp0.off ae);have done:∀ t',(∀ q,q<49->aj t' q=aj t q)->R .normal ⟨t',H1.set x (bK [.ptr c.d 0,v])⟩:=fun t' ht=>
   hR t' K _ hp (by rw[e0,iw];exact hLp) ht
  rcases hal1 with⟨rfl,h0⟩|⟨ab,rfl,h0,hab,hga⟩
  ·simp -implicitDefEqProofs only[go_sem,seval,hg1];repeat refine aI ?_
   refine And.intro ?_ ?_
   ·refine eC (ia K (fun r=>r= .dev i) H.length) [([],[]),([],[]),([],[]),([],[]),([0],[]),([],[]),([],[]),([],[]),([0],[]),([0,1,2],[1,2]),([],[]),([],[]),([],[]),([0],[0])] ac (by simp only[eO,eG,bh,all_cons,tY,fC,and_true,hcx,hw])
   refine done _ (fun q hq=>?_);simp only[aj];iterate 13 rw[if_neg aa]
  ·have hlena:=xU al;have hlab:=hC.lt hab;have hcab:=vp (Q:=fun r=>r= .dev i) hab hlab ae;simp -implicitDefEqProofs only[go_sem,seval,hg1,hga];repeat refine aI ?_
   refine And.intro ?_ ?_
   ·refine eC (ia K (fun r=>r= .dev i) H.length) [([],[]),([],[]),([],[]),([],[]),([0],[]),([],[]),([],[]),([],[]),([0],[]),([0,1,2],[1,2]),([0],[]),([],[]),([],[]),([0],[0])] ac (by simp only[eO,eG,bh,all_cons,tY,fC,and_true,hcx,hcab,hw])
   refine done _ (fun q hq=>?_);simp only[aj];iterate 13 rw[if_neg aa]
 ·have hleng:=xU N.D.got;have hlgb1:=hC1.lt hgb;have hlgb:=hC.lt hgb;obtain⟨p1,p2,p3⟩:=ag9 N.D.got;have hm0':(N.D.got.length=0)=False:=eq_false aa;have hcg:=vp (Q:=fun r=>r= .dev i) hgb hlgb ae;rcases hal1 with⟨rfl,h0⟩|⟨ab,rfl,h0,hab,hga⟩
  ·have e0:=jJ.1 h0;subst e0;simp -implicitDefEqProofs only[go_sem,seval,hg1,hgg,hm0',lI hlx1,ar (show(cS N.D.got).length<=N.D.got.length*3 by omega)];refine⟨⟨aa,aa,aa,p1,aa⟩,aa,?_,?_⟩
   ·refine eC (ia K (fun r=>r= .dev i) H.length) [([],[]),([],[]),([],[]),([],[]),([0],[]),([],[]),([],[]),([],[]),([0],[]),([0,1,2],[1,2]),([0],[1]),([],[]),([],[]),([0],[0])] ac (by simp only[eO,eG,bh,all_cons,tY,fC,kN,and_true,hcx,hcg,hw,hcn])
   obtain⟨g1,g2,g3,g4,g5⟩:=Lp hD1 hkx rfl c.d hlc1 none (fun _ e=>by cases e) N.D.got hm0;refine hR _ _ _ g1 (hL1 g2 g3 g4 g5) (fun q hq=>?_);simp only[aj];iterate 13 rw[if_neg aa]
  ·have hlena:=xU al;have hlab:=hC.lt hab;have hlab1:=hC1.lt hab;have habx:ab≠x:=fun e=>by subst e;rw[hab] at hkx;cases hkx
   have habg:ab≠gb:=fun e=>by subst e;rw[hab] at hgb;cases hgb
   have hcab:=vp (Q:=fun r=>r= .dev i) hab hlab ae;simp -implicitDefEqProofs only[go_sem,seval,hg1,hgg,hga,hm0',zn hlx1 habx,ar (show(cS N.D.got).length<=N.D.got.length*3 by omega),ar (show(cS al).length<=al.length*3 by omega)];refine⟨⟨aa,aa,aa,aa,p1,aa⟩,aa,aa,?_,?_⟩
   ·refine eC (ia K (fun r=>r= .dev i) H.length) [([],[]),([],[]),([],[]),([],[]),([0],[]),([],[]),([],[]),([],[]),([0],[]),([0,1,2],[1,2]),([0],[0,1]),([],[]),([],[]),([0],[0])] ac (by simp only[eO,eG,bh,all_cons,tY,fC,MQ,and_true,hcx,hcg,hcab,hw,hcn])
   obtain⟨g1,g2,g3,g4,g5⟩:=Lp hD1 hkx rfl c.d hlc1 (some ab) (fun _ e=>by cases e;exact hab) (al++N.D.got) (by simp;omega);have hLx:=hL1 g2 g3 g4 g5;rw[DA,aE] at g1 hLx;refine hR _ _ _ g1 hLx (fun q hq=>?_);simp only[aj];iterate 13 rw[if_neg aa]
end
end
section
section
variable {K K0 K':RK}{H H0 H':List (Option Blk)}{Q0 Q:Rl->Prop}{i j j' n x W a b:Nat}{c:NoK}{N N':NoS}{k:LnK}{L:LnS}{v:V}{air:List Gr}{all al:List Pk}
theorem ru {P:Program}{m n:Nat}{R:Exit->St->Prop}{k:List Fr}{e:Exit}{s:St}(h:gone P m n R k e s):kQ P m n R k e s:=h
def my (L:LnS)(i:Nat):LnS:=match L.N[i]?,L.all[i]? with
 |some N,some al=>{N:=L.N.set i {N with D:={N.D with out:=[],got:=[]}},air:=(L.air++N.D.out).take 60,all:=L.all.set i (al++N.D.got)}
 |_,_=>L
def di (L:LnS):Nat->LnS
 |0=>L
 |i+1=>my (di L i) i
noncomputable def oQ (k:LnK) (L:LnS) (a:ActP) (M:Msg):Int×LnS:=((gO k L a M).1,di (gO k L a M).2 (gO k L a M).2.N.length)
def fa (i:Nat)(N:NoS)(L:LnS)(i2:Nat):LnS:={L with N:=L.N.set i {N with D:={N.D with out:=[]}},air:=(L.air++N.D.out.take i2).take 60}
theorem Io:(my L i).N.length=L.N.length/\(my L i).all.length=L.all.length:=by
 unfold my;split
 ·exact⟨aY,aY⟩
 ·exact⟨rfl,rfl⟩
theorem abu (h:L.air.length<=60):(my L i).air.length<=60:=by
 unfold my;split
 ·exact List.length_take_le _ _
 ·exact h
theorem J3 (h:j≠i):(my L i).N[j]?=L.N[j]?/\(my L i).all[j]?=L.all[j]?:=by
 unfold my;split
 ·exact⟨mF (fun e=>h e.symm),mF (fun e=>h e.symm)⟩
 ·exact⟨rfl,rfl⟩
theorem zP:∀ i,(di L i).N.length=L.N.length/\(di L i).all.length=L.all.length
 |0=>⟨rfl,rfl⟩
 |i+1=>⟨Io.1.trans (zP i).1,Io.2.trans (zP i).2⟩
theorem A5 (h:L.air.length<=60):∀ i,(di L i).air.length<=60
 |0=>h
 |i+1=>abu (A5 h i)
theorem tp:∀ {i j:Nat},i<=j->(di L i).N[j]?=L.N[j]?/\(di L i).all[j]?=L.all[j]?
 |0,_,_=>⟨rfl,rfl⟩
 |i+1,j,h=>⟨(J3 aa).1.trans (tp aa).1,(J3 aa).2.trans (tp aa).2⟩
theorem Ho (h1:L.N[i]?=some N)(h2:L.all[i]?=some al):my L i={N:=L.N.set i {N with D:={N.D with out:=[],got:=[]}},air:=(L.air++N.D.out).take 60,all:=L.all.set i (al++N.D.got)}:=by
 unfold my;rw[h1,h2]
theorem Wp {l:List Gr}{x:Gr}(h:(l.take 60).length<60):(l++[x]).take 60=l.take 60++[x]:=by
 have d:l.length<60:=by rw[br] at h;omega
 rw[ar (by simp;omega),ar aa]
theorem Se {l:List Gr}{x:Gr}(h:¬ (l.take 60).length<60):(l++[x]).take 60=l.take 60:=by
 have d:60<=l.length:=by rw[br] at h;omega
 rw[xH d]
theorem Wc {i2:Nat}(h:i2<N.D.out.length)(d:(fa i N L i2).air.length<60):{fa i N L i2 with air:=(fa i N L i2).air++[N.D.out[i2]]}=fa i N L (i2+1):=by
 have e:(L.air++N.D.out.take (i2+1)).take 60=(L.air++N.D.out.take i2).take 60++[N.D.out[i2]]:=by
  rw[o7 h,<-dV,Wp d]
 unfold fa;rw[e]
theorem Pm {i2:Nat}(h:i2<N.D.out.length)(d:¬ (fa i N L i2).air.length<60):fa i N L i2=fa i N L (i2+1):=by
 have e:(L.air++N.D.out.take (i2+1)).take 60=(L.air++N.D.out.take i2).take 60:=by
  rw[o7 h,<-dV,Se d]
 unfold fa;rw[e]
theorem R3 (h:L.air.length<=60):fa i N L 0={L with N:=L.N.set i {N with D:={N.D with out:=[]}}}:=by
 unfold fa;rw[ez,iw,ar h]
theorem aeI (hC:Cx K0 H0 Q0 K H)(hL:LnAt K H k L)(hk:k.ok)(ho:L.ok n)(hn:n<=900000000)(a:ActP)(h6:a.kind≠6)(hA:-9223372036854775808<=a.A/\a.A<9223372036854775808)(M:Msg)(hM:a.kind=3->0<=a.A->uD k L a.A.toNat M)
  (hb:∀ (i:Nat) (N:NoS) (al:List Pk),(gO k L a M).2.N[i]?=some N->(gO k L a M).2.all[i]?=some al->al.length+N.D.got.length<=6500000000000/\N.D.out.length<=1000000000) (h60:(gO k L a M).2.air.length<=60)
  {r0 r1 r2 r3 c3 r4 r5 r6 c6 r7 r8 r9 e9 r10 r11 r12 c13:Code} {x37:Operand} {b0 b1 b2 b3:Nat}
  (hc:f10.body=some (.seq r0 (.seq r1 (.seq (.seq r2 (.block b0 (.loop (.seq r3 (.seq c3 (.seq (.block b1 (.seq r4 (.seq (.seq r5 (.block b2 (.loop (.seq r6 (.seq c6 (.seq (.block b3 (.seq r7 (.seq r8 (.cond x37 r9 e9)))) r10)))))) r11))) r12)))))) c13)))):
  vc prog H.length f10.ntmps (.seq r0 (.seq r1 (.seq (.seq r2 (.block b0 (.loop (.seq r3 (.seq c3 (.seq (.block b1 (.seq r4 (.seq (.seq r5 (.block b2 (.loop (.seq r6 (.seq c6 (.seq (.block b3 (.seq r7 (.seq r8 (.cond x37 r9 e9)))) r10)))))) r11))) r12)))))) c13))) (eW prog f10 (Ex K H qT fun v K' H'=>v= .i64 (oQ k L a M).1/\LnAt K' H' k (oQ k L a M).2)) ⟨gU [.ptr k.l 0,.agg [.i64 a.kind,.i64 a.A,.i64 a.B,.i64 a.C,.u32 a.src,.u32 a.dst,.str a.txt]] 0,H⟩:=by
 have hl1:=hL.l1;have hll:=hC.lt hL.kl;have hll1:k.l<H.length+1:=aa;have R9:=fun {K0:RK} {H0:List (Option Blk)} {K:RK} {H:List (Option Blk)} {L:LnS} {b:Nat} (hC:Cx K0 H0 qT K H) (hL:LnAt K H k L) {fr tg:BitVec 32} {tx:List ai} (hb:ag H b=bK [.u32 fr,.u32 tg,.str tx]) (hKb:K b=none) (h60:L.air.length<60) {t:List (Nat×V)} (h0:aj t 0= .ptr k.l 0) (h9:aj t 9= .ptr b 0) {R:Exit->St->Prop}=>aeZ hC hL hb hKb h60 h0 h9 hc (R:=R)
 have R11:=fun {K0:RK} {H0:List (Option Blk)} {K:RK} {H:List (Option Blk)} {L:LnS} {i:Nat} {N:NoS} {al:List Pk} (hC:Cx K0 H0 qT K H) (hL:LnAt K H k L) (hi:i<k.xs.length) (hic:i<k.cs.length) (hNi:L.N[i]?=some N) (hai:L.all[i]?=some al) (hb:al.length+N.D.got.length<=6500000000000) {t:List (Nat×V)} (h7:aj t 7= .ptr k.xs[i] 0) {R:Exit->St->Prop}=>Nj hC hL hi hic hNi hai hb h7 hc (R:=R)
 simp only[f10,cf,Code.seq.injEq,Code.block.injEq,Code.loop.injEq,Code.cond.injEq] at hc;obtain⟨rfl,rfl,⟨⟨rfl,rfl,rfl,rfl,⟨⟨rfl,rfl,⟨⟨rfl,rfl,rfl,rfl,⟨⟨rfl,rfl,rfl,rfl,q9,rfl⟩,rfl⟩⟩,q11⟩⟩,rfl⟩⟩,rfl⟩⟩:=hc;clear q9 q11;have hC0:=(hC.start qT).junk (vs:=[.i64 a.kind,.i64 a.A,.i64 a.B,.i64 a.C,.u32 a.src,.u32 a.dst,.str a.txt]) (mm:=none) (by simp[af,V.low]);have hF0:=(hC.start (fun _=>False)).junk (vs:=[.i64 a.kind,.i64 a.A,.i64 a.B,.i64 a.C,.u32 a.src,.u32 a.dst,.str a.txt]) (mm:=none) (by simp[af,V.low]);have hLT:=hL.offF hF0;refine ak ?_;simp -implicitDefEqProofs only[go_sem,seval,eY];repeat refine aI ?_
 refine bA (VH hC0 hLT hk ho hn a h6 hA M hM) ac rfl (by simp[af,V.low,hll1]) hC0.sane ?_;rintro _ K1 H1 hC1 hl1 ⟨rfl,hL1⟩;have hD1:=hC0.call hC1 fun _ h=>h
 unfold oQ;generalize gO k L a M=RR at*;obtain⟨e1,L1⟩:=RR;dsimp only at hL1 hb h60 |-
 have h12:=hL1.l2;have h13:=hL1.l3;rw[h12];obtain⟨av,hgl,-⟩:=hL1.gl;simp -implicitDefEqProofs only[go_sem,seval,hgl];repeat refine aI ?_
 refine bq (fun j st=>∃ (i:Nat) (Hi:List (Option Blk)) (Ki:RK),i+j=k.xs.length/\Cx K H qT Ki Hi/\LnAt Ki Hi k (di L1 i)/\st=⟨[(0,.ptr k.l 0),(5,.i64 e1),(16,.slice k.na 0 k.xs.length 1),(17,.i64 k.xs.length),(18,.i64 i)],Hi⟩) ?_ ?_
 ·exact bJ k.xs.length ⟨[(0,.ptr k.l 0),(5,.i64 e1),(16,.slice k.na 0 k.xs.length 1),(17,.i64 k.xs.length),(18,.i64 (0:Nat))],H1⟩ (by simp[St.get,aj]) rfl (fun _ _ h=>h) ⟨0,H1,K1,aa,hD1,hL1,rfl⟩
 rintro j st ⟨i,Hi,Ki,hij,hCi,hLi,rfl⟩-;by_cases hi:i<k.xs.length
 rotate_left
 ·have hi':¬ (i:Int)<(k.xs.length:Int):=aa;obtain rfl:i=k.xs.length:=aa;simp -implicitDefEqProofs only[go_sem,seval,hi',decide_false];repeat refine aI ?_
  exact Ex.of hCi trivial ⟨rfl,hLi⟩
 have hi':(i:Int)<(k.xs.length:Int):=aa;have hi0:(0:Int)<=(i:Int):=aa;have w1:=dw (i:=i) (by have :=hk.x3;omega);have hga:=hLi.ga;have hq:(k.xs.map (fun p=>V.ptr p 0)).getD i .junk= .ptr k.xs[i] 0:=by
  rw[aW,ci,aF hi];rfl
 have hic:i<k.cs.length:=aa;obtain⟨N,hNi1⟩:∃ N,L1.N[i]?=some N:=⟨_,aF aa⟩;obtain⟨al,hai1⟩:∃ al,L1.all[i]?=some al:=⟨_,aF aa⟩;obtain⟨hb1,hb2⟩:=hb i N al hNi1 hai1;have hNi:=(tp (L:=L1) (aH i)).1.trans hNi1;have hai:=(tp (L:=L1) (aH i)).2.trans hai1;have h60i:=A5 h60 i;have hnx:di L1 (i+1)=my (di L1 i) i:=rfl;generalize di L1 i=L2 at*;have hin:i<L2.N.length:=(ca.1 hNi).1;obtain⟨v2,hkx,hgx,hal,hN⟩:=hLi.node hi hic hNi hai;have hd:k.cs[i].d<Hi.length:=by obtain⟨_,_,hD⟩:=hN.dev;exact hCi.lt hD.kd
 simp -implicitDefEqProofs only[go_sem,seval,hi',decide_true,hga,hq,hgx,hi,hi0,ba];repeat refine aI ?_
 refine bA (Tw hCi hN) ac rfl (by simp[af,V.low,hd]) hCi.sane ?_;rintro _ K2 H2 hC2 hl2 ⟨hK2,hv2,hN2⟩;obtain rfl:=hK2.symm;have hD2:=hCi.call hC2 fun _ _=>trivial
 have hL2:LnAt Ki H2 k (fa i N L2 0):=by
  rw[R3 h60i];exact hLi.one (hC2.mono (Q2:=qD i) fun r e=>by subst e;rfl) hi hic hN2
 have hNo:∀ i2,(fa i N L2 i2).N[i]?=some {N with D:={N.D with out:=[]}}:=fun i2=>by
  show(L2.N.set i _)[i]?=_;rw[kL hin]
 have hao:∀ i2,(fa i N L2 i2).all[i]?=some al:=fun i2=>hai
 have hend:{fa i N L2 N.D.out.length with N:=(fa i N L2 N.D.out.length).N.set i {N with D:={N.D with out:=[],got:=[]}},all:=(fa i N L2 N.D.out.length).all.set i (al++N.D.got)}=di L1 (i+1):=by
  rw[hnx,Ho hNi hai];unfold fa;rw[ar (aH _),iX]
 have hnext:∀ (t':List (Nat×V)) (K':RK) (H':List (Option Blk)),Cx K H qT K' H'->LnAt K' H' k (di L1 (i+1))->aj t' 0= .ptr k.l 0->aj t' 5= .i64 e1->aj t' 16= .slice k.na 0 k.xs.length 1->aj t' 17= .i64 k.xs.length->aj t' 18= .i64 (ao ((i:Int)+1))->
   jS H.length 64 (fun j st=>∃ (i:Nat) (Hi:List (Option Blk)) (Ki:RK),i+j=k.xs.length/\Cx K H qT Ki Hi/\LnAt Ki Hi k (di L1 i)/\st=⟨[(0,.ptr k.l 0),(5,.i64 e1),(16,.slice k.na 0 k.xs.length 1),(17,.i64 k.xs.length),(18,.i64 i)],Hi⟩) j ⟨t',H'⟩:=fun t' K' H' hC' hL' e0 e5 e16 e17 e18=>
  bx (j-1) ⟨[(0,.ptr k.l 0),(5,.i64 e1),(16,.slice k.na 0 k.xs.length 1),(17,.i64 k.xs.length),(18,.i64 (i+1:Nat))],H'⟩ aa (by simp[St.get,e0,e5,e16,e17,e18,w1]) rfl (fun _ _ h=>h) ⟨i+1,H',K',aa,hC',hL',rfl⟩
 rcases hv2 with⟨rfl,hm0⟩|⟨ob,rfl,hm0,hob,hgo⟩
 ·simp -implicitDefEqProofs only[go_sem,seval];repeat refine aI ?_
  refine dz 1 ?_;simp -implicitDefEqProofs only[go_sem,seval];rw[hm0] at hend;refine R11 hD2 hL2 hi hic (hNo 0) (hao 0) hb1 (by simp -implicitDefEqProofs only[go_sem,seval]) fun t' K' H' hC' hL' hlk=>ru ?_
  have hL':LnAt K' H' k (di L1 (i+1)):=hend▸hL';have f0:=hlk 0 ah;have f5:=hlk 5 ah;have f16:=hlk 16 ah;have f17:=hlk 17 ah;have f18:=hlk 18 ah;simp -implicitDefEqProofs only[go_sem,seval] at f0 f5 f16 f17 f18;simp -implicitDefEqProofs only[go_sem,seval,f18];exact hnext _ _ _ hC' hL' (by simp -implicitDefEqProofs only[go_sem,seval,f0]) (by simp -implicitDefEqProofs only[go_sem,seval,f5]) (by simp -implicitDefEqProofs only[go_sem,seval,f16]) (by simp -implicitDefEqProofs only[go_sem,seval,f17]) (by simp -implicitDefEqProofs only[go_sem,seval])
 simp -implicitDefEqProofs only[go_sem,seval];repeat refine aI ?_
 refine bq (fun j st=>∃ (i2:Nat) (Hj:List (Option Blk)) (Kj:RK),i2+j=N.D.out.length/\Cx K H qT Kj Hj/\Kj ob=some (.out i)/\ag Hj ob=bK (cg N.D.out)/\LnAt Kj Hj k (fa i N L2 i2)/\st=⟨[(0,.ptr k.l 0),(5,.i64 e1),(7,.ptr k.xs[i] 0),(16,.slice k.na 0 k.xs.length 1),(17,.i64 k.xs.length),(18,.i64 i),(26,.slice ob 0 N.D.out.length 3),(27,.i64 N.D.out.length),(28,.i64 i2)],Hj⟩) ?_ ?_
 ·exact bJ N.D.out.length ⟨[(0,.ptr k.l 0),(5,.i64 e1),(7,.ptr k.xs[i] 0),(16,.slice k.na 0 k.xs.length 1),(17,.i64 k.xs.length),(18,.i64 i),(26,.slice ob 0 N.D.out.length 3),(27,.i64 N.D.out.length),(28,.i64 (0:Nat))],H2⟩ (by simp[St.get,aj]) rfl (fun _ _ h=>h) ⟨0,H2,Ki,aa,hD2,hob,hgo,hL2,rfl⟩
 rintro j2 st ⟨i2,Hj,Kj,hij2,hCj,hobj,hgoj,hLj,rfl⟩-;by_cases hi2:i2<N.D.out.length
 rotate_left
 ·have hi2':¬ (i2:Int)<(N.D.out.length:Int):=aa;obtain rfl:i2=N.D.out.length:=aa;simp -implicitDefEqProofs only[go_sem,seval,hi2',decide_false];repeat refine aI ?_
  refine R11 hCj hLj hi hic (hNo _) (hao _) hb1 (by simp -implicitDefEqProofs only[go_sem,seval]) fun t' K' H' hC' hL' hlk=>ru ?_
  have hL':LnAt K' H' k (di L1 (i+1)):=hend▸hL';have f0:=hlk 0 ah;have f5:=hlk 5 ah;have f16:=hlk 16 ah;have f17:=hlk 17 ah;have f18:=hlk 18 ah;simp -implicitDefEqProofs only[go_sem,seval] at f0 f5 f16 f17 f18;simp -implicitDefEqProofs only[go_sem,seval,f18];exact hnext _ _ _ hC' hL' (by simp -implicitDefEqProofs only[go_sem,seval,f0]) (by simp -implicitDefEqProofs only[go_sem,seval,f5]) (by simp -implicitDefEqProofs only[go_sem,seval,f16]) (by simp -implicitDefEqProofs only[go_sem,seval,f17]) (by simp -implicitDefEqProofs only[go_sem,seval])
 have hi2':(i2:Int)<(N.D.out.length:Int):=aa;have hi20:(0:Int)<=(i2:Int):=aa;have w2:=dw (i:=i2) aa;have hcell:=Bv hi2;have hleno:=vR N.D.out;have hstep1:=Wc (i:=i) (L:=L2) hi2;have hstep2:=Pm (i:=i) (L:=L2) hi2;obtain⟨fr,tg,tx,hg2⟩:∃ (fr tg:BitVec 32) (tx:List ai),N.D.out[i2]=(fr,tg,tx):=⟨_,_,_,rfl⟩;rw[hg2] at hcell hstep1;dsimp only at hcell;obtain⟨av2,hgl2,hair⟩:=hLj.gl;have hllj:=hCj.lt hLj.kl;have hz:Hj.length<(Hj++[bK [.u32 0#32,.u32 0#32,.str []]]).length:=ae;have hbox:=hCj.boxed (zs:=[.u32 0#32,.u32 0#32,.str []]) (ys:=[.u32 fr,.u32 tg,.str tx]) (by simp[af,V.low]) (by simp[af,V.low]);have hboxF:=(hCj.start (fun _=>False)).boxed (zs:=[.u32 0#32,.u32 0#32,.str []]) (ys:=[.u32 fr,.u32 tg,.str tx]) (by simp[af,V.low]) (by simp[af,V.low]);have hgl3:=(hboxF.off.h _ _ hLj.kl id).trans hgl2;have hb3:=lF (H:=Hj) (x:=bK [.u32 0#32,.u32 0#32,.str []]) (y:=bK [.u32 fr,.u32 tg,.str tx]);have hob3:=(hboxF.off.h _ _ hobj id).trans hgoj;have hLb:=hLj.offF hboxF;have hKb:Kj Hj.length=none:=hCj.fresh _ (aH _);simp -implicitDefEqProofs only[go_sem,seval,hi2',decide_true,hgoj,hcell,hleno,hi20,hgl3];repeat refine aI ?_
 have inext:∀ (t':List (Nat×V)) (K':RK) (H':List (Option Blk)),Cx K H qT K' H'->K' ob=some (.out i)->ag H' ob=bK (cg N.D.out)->LnAt K' H' k (fa i N L2 (i2+1))->aj t' 0= .ptr k.l 0->aj t' 5= .i64 e1->aj t' 7= .ptr k.xs[i] 0->aj t' 16= .slice k.na 0 k.xs.length 1->aj t' 17= .i64 k.xs.length->aj t' 18= .i64 i->aj t' 26= .slice ob 0 N.D.out.length 3->aj t' 27= .i64 N.D.out.length->aj t' 28= .i64 (ao ((i2:Int)+1))->
   jS H.length 64 (fun j st=>∃ (i2:Nat) (Hj:List (Option Blk)) (Kj:RK),i2+j=N.D.out.length/\Cx K H qT Kj Hj/\Kj ob=some (.out i)/\ag Hj ob=bK (cg N.D.out)/\LnAt Kj Hj k (fa i N L2 i2)/\st=⟨[(0,.ptr k.l 0),(5,.i64 e1),(7,.ptr k.xs[i] 0),(16,.slice k.na 0 k.xs.length 1),(17,.i64 k.xs.length),(18,.i64 i),(26,.slice ob 0 N.D.out.length 3),(27,.i64 N.D.out.length),(28,.i64 i2)],Hj⟩) j2 ⟨t',H'⟩:=fun t' K' H' hC' ho' hg' hL' e0 e5 e7 e16 e17 e18 e26 e27 e28=>
  bx (j2-1) ⟨[(0,.ptr k.l 0),(5,.i64 e1),(7,.ptr k.xs[i] 0),(16,.slice k.na 0 k.xs.length 1),(17,.i64 k.xs.length),(18,.i64 i),(26,.slice ob 0 N.D.out.length 3),(27,.i64 N.D.out.length),(28,.i64 (i2+1:Nat))],H'⟩ aa (by simp[St.get,e0,e5,e7,e16,e17,e18,e26,e27,e28,w2]) rfl (fun _ _ h=>h) ⟨i2+1,H',K',aa,hC',ho',hg',hL',rfl⟩
 rcases hair with⟨rfl,h0⟩|⟨a2,rfl,ha2,-⟩
 ·have hn2:(fa i N L2 i2).air.length<60:=by rw[h0];decide
  simp -implicitDefEqProofs only[go_sem,seval];repeat refine aI ?_
  refine R9 hbox hLb hb3 hKb hn2 (by simp -implicitDefEqProofs only[go_sem,seval]) (by simp -implicitDefEqProofs only[go_sem,seval]) fun t' K' H' hC' hX' hL' hlk=>ru ?_
  have f0:=hlk 0 ah;have f5:=hlk 5 ah;have f7:=hlk 7 ah;have f16:=hlk 16 ah;have f17:=hlk 17 ah;have f18:=hlk 18 ah;have f26:=hlk 26 ah;have f27:=hlk 27 ah;have f28:=hlk 28 ah;simp -implicitDefEqProofs only[go_sem,seval] at f0 f5 f7 f16 f17 f18 f26 f27 f28;simp -implicitDefEqProofs only[go_sem,seval,f28];exact inext _ _ _ hC' (hX'.off.k _ _ hobj ae) ((hX'.off.h _ _ hobj ae).trans hob3) (hstep1 hn2▸hL') (by simp -implicitDefEqProofs only[go_sem,seval,f0]) (by simp -implicitDefEqProofs only[go_sem,seval,f5]) (by simp -implicitDefEqProofs only[go_sem,seval,f7]) (by simp -implicitDefEqProofs only[go_sem,seval,f16]) (by simp -implicitDefEqProofs only[go_sem,seval,f17]) (by simp -implicitDefEqProofs only[go_sem,seval,f18]) (by simp -implicitDefEqProofs only[go_sem,seval,f26]) (by simp -implicitDefEqProofs only[go_sem,seval,f27]) (by simp -implicitDefEqProofs only[go_sem,seval])
 by_cases hn2:(fa i N L2 i2).air.length<60
 ·have hn2':((fa i N L2 i2).air.length:Int)<60:=aa;simp -implicitDefEqProofs only[go_sem,seval,hn2',decide_true];repeat refine aI ?_
  refine R9 hbox hLb hb3 hKb hn2 (by simp -implicitDefEqProofs only[go_sem,seval]) (by simp -implicitDefEqProofs only[go_sem,seval]) fun t' K' H' hC' hX' hL' hlk=>ru ?_
  have f0:=hlk 0 ah;have f5:=hlk 5 ah;have f7:=hlk 7 ah;have f16:=hlk 16 ah;have f17:=hlk 17 ah;have f18:=hlk 18 ah;have f26:=hlk 26 ah;have f27:=hlk 27 ah;have f28:=hlk 28 ah;simp -implicitDefEqProofs only[go_sem,seval] at f0 f5 f7 f16 f17 f18 f26 f27 f28;simp -implicitDefEqProofs only[go_sem,seval,f28];exact inext _ _ _ hC' (hX'.off.k _ _ hobj ae) ((hX'.off.h _ _ hobj ae).trans hob3) (hstep1 hn2▸hL') (by simp -implicitDefEqProofs only[go_sem,seval,f0]) (by simp -implicitDefEqProofs only[go_sem,seval,f5]) (by simp -implicitDefEqProofs only[go_sem,seval,f7]) (by simp -implicitDefEqProofs only[go_sem,seval,f16]) (by simp -implicitDefEqProofs only[go_sem,seval,f17]) (by simp -implicitDefEqProofs only[go_sem,seval,f18]) (by simp -implicitDefEqProofs only[go_sem,seval,f26]) (by simp -implicitDefEqProofs only[go_sem,seval,f27]) (by simp -implicitDefEqProofs only[go_sem,seval])
 have hn2':¬ ((fa i N L2 i2).air.length:Int)<60:=aa;simp -implicitDefEqProofs only[go_sem,seval,hn2',decide_false];repeat refine aI ?_
 exact inext _ _ _ hbox hobj hob3 (hstep2 hn2▸hLb) (by simp -implicitDefEqProofs only[go_sem,seval]) (by simp -implicitDefEqProofs only[go_sem,seval]) (by simp -implicitDefEqProofs only[go_sem,seval]) (by simp -implicitDefEqProofs only[go_sem,seval]) (by simp -implicitDefEqProofs only[go_sem,seval]) (by simp -implicitDefEqProofs only[go_sem,seval]) (by simp -implicitDefEqProofs only[go_sem,seval]) (by simp -implicitDefEqProofs only[go_sem,seval]) (by simp -implicitDefEqProofs only[go_sem,seval])
theorem EO (e:Cx K0 H0 Q0 K H)(f:LnAt K H k L)(g:k.ok)(h:L.ok n)(m:n<=900000000)(a:ActP)(o:a.kind≠6)(p:-9223372036854775808<=a.A/\a.A<9223372036854775808)(M:Msg)(q:a.kind=3->0<=a.A->uD k L a.A.toNat M)
  (r:∀ (i:Nat) (N:NoS) (al:List Pk),(gO k L a M).2.N[i]?=some N->(gO k L a M).2.all[i]?=some al->al.length+N.D.got.length<=6500000000000/\N.D.out.length<=1000000000) (d:(gO k L a M).2.air.length<=60):
  ∃ v K' H',Dx prog 10 [.ptr k.l 0,.agg [.i64 a.kind,.i64 a.A,.i64 a.B,.i64 a.C,.u32 a.src,.u32 a.dst,.str a.txt]] K H qT v K' H'/\(v= .i64 (oQ k L a M).1/\LnAt K' H' k (oQ k L a M).2):=
 bV ac (fn:=f10) func10 rfl am (aeI e f g h m a o p M q r d rfl)
end
end
end Go.Vm
end
section
namespace Go.Vm
section
structure Nd where
 k0:Nat
 k1:Nat
 is:Bool
 owner:Int
 deriving Inhabited
def leaf:Nd:=⟨0,0,false,0⟩
def cu (pos:Nat->Nat)(j:Nat):V:=if j=0 then .nilPtr else .ptr (pos j) 0
def fc (many:Int)(j:Nat):List V:=if j=0 then[.i64 many] else[]
def eS (pos:Nat->Nat)(many:Int)(j:Nat)(nd:Nd):Blk:=⟨false,cu pos nd.k0::cu pos nd.k1:: .bool nd.is:: .i64 nd.owner::fc many j,none⟩
def b7 (many:Int)(A:List Nd):List (Option Blk):=A.zipIdx.map fun p=>some (eS id many p.2 p.1)
def iC (A:List Nd):Prop:=0<A.length/\∀ (j:Nat) nd,A[j]?=some nd->nd.k0<A.length/\nd.k1<A.length
structure TreeAt (pos:Nat->Nat) (many:Int) (A:List Nd) (H:List (Option Blk)):Prop where
 here:∀ (j:Nat) nd,A[j]?=some nd->ag H (pos j)=some (eS pos many j nd)
 inj:∀ i j,i<A.length->j<A.length->pos i=pos j->i=j
 closed:iC A
theorem fS (many:Int)(A:List Nd):(b7 many A).length=A.length:=by unfold b7;simp
theorem vY (many:Int)(A:List Nd)(j:Nat):ag (b7 many A) j=(A[j]?).map (eS id many j):=by
 unfold ag b7;rw[ci,List.getElem?_zipIdx];cases A[j]? with
 |none=>rfl
 |some nd=>simp
theorem TreeAt.init {many:Int}{A:List Nd}(h:iC A):TreeAt id many A (b7 many A):=
 ⟨fun j nd e=>by rw[show id j=j from rfl,vY,e];rfl,fun _ _ _ _ e=>e,h⟩
theorem TreeAt.lt {pos:Nat->Nat}{many:Int}{A:List Nd}{H:List (Option Blk)}(h:TreeAt pos many A H){j:Nat}(a:j<A.length):pos j<H.length:=
 aU (h.here j A[j] (aF a))
theorem TreeAt.keep {pos:Nat->Nat}{many:Int}{A:List Nd}{H H':List (Option Blk)}(h:TreeAt pos many A H)(c:∀ j,j<A.length->ag H' (pos j)=ag H (pos j)):TreeAt pos many A H':=
 ⟨fun j nd e=>by rw[c j (ca.1 e).1];exact h.here j nd e,h.inj,h.closed⟩
theorem TreeAt.app {pos:Nat->Nat}{many:Int}{A:List Nd}{H:List (Option Blk)}(h:TreeAt pos many A H)(X:List (Option Blk)):TreeAt pos many A (H++X):=
 h.keep fun _ a=>cz (h.lt a) X
theorem TreeAt.put {pos:Nat->Nat}{many many':Int}{A:List Nd}{H:List (Option Blk)}(h:TreeAt pos many A H){j:Nat}(q:j<A.length)(d:Nd)(r:d.k0<A.length/\d.k1<A.length)(o:j=0\/many'=many):
  TreeAt pos many' (A.set j d) (H.set (pos j) (some (eS pos many' j d))):=by
 refine⟨fun i nd e=>?_,fun a b t u e=>h.inj a b (by simpa using t) (by simpa using u) e,by simpa using h.closed.1,fun i nd e=>?_⟩
 ·rw[wH] at e;by_cases c:j=i
  ·subst c;rw[if_pos rfl,if_pos q] at e;cases e;exact bG (h.lt q) _
  ·rw[if_neg c] at e;have w:i<A.length:=(ca.1 e).1;rw[bW (fun x=>c (h.inj _ _ q w x)),h.here i nd e];unfold eS fc;by_cases g:i=0
   ·rcases o with o|o
    ·exact absurd (o.trans g.symm) c
    ·rw[o]
   ·rw[if_neg g,if_neg g]
 ·rw[aY];rw[wH] at e;by_cases c:j=i
  ·subst c;rw[if_pos rfl,if_pos q] at e;cases e;exact r
  ·rw[if_neg c] at e;exact h.closed.2 i nd e
theorem TreeAt.grow {pos:Nat->Nat}{many:Int}{A:List Nd}{H:List (Option Blk)}(h:TreeAt pos many A H)(t:A.length≠0:=by omega):
  TreeAt (fun j=>if j=A.length then H.length else pos j) many (A++[leaf]) (H++[bK [.nilPtr,.nilPtr,.bool false,.i64 0]]):=by
 have i:∀ j,j<A.length->(if j=A.length then H.length else pos j)=pos j:=fun j d=>if_neg aa
 have g:∀ j,j<A.length->cu (fun j=>if j=A.length then H.length else pos j) j=cu pos j:=fun j d=>by unfold cu;simp only[i j d]
 refine⟨fun j nd e=>?_,fun a b q r e=>?_,ae,fun j nd e=>?_⟩
 ·by_cases d:j<A.length
  ·rw[gh d] at e;obtain⟨c0,u⟩:=h.closed.2 j nd e;show ag _ (if j=A.length then H.length else pos j)=_;rw[i j d,cz (h.lt d),h.here j nd e];unfold eS;rw[g _ c0,g _ u]
  ·rw[dL aa] at e;have p:j=A.length:=by
    have :=(ca.1 e).1;simp at this;omega
   subst p;simp at e;subst e;show ag _ (if A.length=A.length then H.length else pos A.length)=_;rw[if_pos rfl,kj];unfold eS fc;rw[if_neg t];rfl
 ·have e:(if a=A.length then H.length else pos a)=(if b=A.length then H.length else pos b):=e;have c:∀ x,x<(A++[leaf]).length->x≠A.length->x<A.length:=fun x o h2=>by simp at o;omega
  by_cases h1:a=A.length<;>by_cases h2:b=A.length
  ·omega
  ·rw[if_pos h1,if_neg h2] at e;have :=h.lt (c b r h2);omega
  ·rw[if_neg h1,if_pos h2] at e;have :=h.lt (c a q h1);omega
  ·rw[if_neg h1,if_neg h2] at e;exact h.inj a b (c a q h1) (c b r h2) e
 ·rw[aE];by_cases d:j<A.length
  ·rw[gh d] at e;have :=h.closed.2 j nd e;simp;omega
  ·rw[dL aa] at e;have :nd=leaf:=by
    cases o:j-A.length with
    |zero=>rw[o] at e;simp at e;exact e.symm
    |succ k=>rw[o] at e;simp at e
   subst this;simp[leaf]
def ef (pos:Nat->Nat)(n:Nat):List Nat:=(List.range n).map pos
theorem oI (pos:Nat->Nat)(n:Nat):(ef pos n).length=n:=by unfold ef;simp
theorem tq (pos:Nat->Nat){n j:Nat}(h:j<n):aw (ef pos n) j=pos j:=by
 unfold aw ef;rw[aW,ci,nB h];rfl
theorem TreeAt.sgNodup {pos:Nat->Nat}{many:Int}{A:List Nd}{H:List (Option Blk)}(h:TreeAt pos many A H):(ef pos A.length).Nodup:=by
 unfold ef;refine List.pairwise_iff_getElem.2 fun i j a b c e=>?_
 simp only[ba,xx] at a b;simp only[rS,List.getElem_range] at e;have :=h.inj i j a b e;omega
theorem TreeAt.sgLt {pos:Nat->Nat}{many:Int}{A:List Nd}{H:List (Option Blk)}(h:TreeAt pos many A H):∀ b∈ef pos A.length,b<H.length:=fun b a=>by
 unfold ef at a;obtain⟨j,c,rfl⟩:=cD.1 a;exact h.lt (by simpa using c)
theorem G9 {σ pos:Nat->Nat}{many:Int}{j:Nat}{nd:Nd}(h0:nd.k0≠0->σ nd.k0=pos nd.k0)(h1:nd.k1≠0->σ nd.k1=pos nd.k1):rens σ (eS id many j nd).cs=(eS pos many j nd).cs:=by
 have a:∀ k,(k≠0->σ k=pos k)->(cu id k).ren σ=cu pos k:=fun k h=>by
  unfold cu;by_cases e:k=0
  ·rw[if_pos e,if_pos e];rfl
  ·rw[if_neg e,if_neg e];show V.ptr (σ k) 0=_;rw[h e]
 have b:rens σ (fc many j)=fc many j:=by
  unfold fc;split <;>rfl
 unfold eS;simp only[rens,a _ h0,a _ h1,b];rfl
theorem Hb {many:Int}{j n:Nat}{nd:Nd}(h0:nd.k0<n)(h1:nd.k1<n):af n (eS id many j nd).cs:=by
 have a:∀ k,k<n->(cu id k).low n:=fun k h=>by
  unfold cu;split
  ·trivial
  ·exact h
 have b:af n (fc many j):=by
  unfold fc;split
  ·exact⟨trivial,trivial⟩
  ·trivial
 exact⟨a _ h0,a _ h1,trivial,trivial,b⟩
theorem D5 {σ:Nat->Nat}{N:Nat}{s:St}:∀ {l:List (Option Blk)} {i:Nat},(∀ b B,ag l b=some B->ag s.H (σ (i+b))=some ⟨B.ro,rens σ B.cs,B.mp⟩/\af N B.cs)->iB σ N s l i
 |[],_,_=>trivial
 |none::l,i,h=>D5 (l:=l) (i:=i+1) fun b B e=>by
   have :=h (b+1) B (by simpa [ag] using e)
   rwa [show i+(b+1)=i+1+b by omega] at this
 |some C::l,i,h=>⟨h 0 C rfl,D5 (l:=l) (i:=i+1) fun b B e=>by
   have :=h (b+1) B (by simpa [ag] using e)
   rwa [show i+(b+1)=i+1+b by omega] at this⟩
theorem TreeAt.blks {pos:Nat->Nat}{many:Int}{A:List Nd}{s:St}(h:TreeAt pos many A s.H):iB (aw (ef pos A.length)) A.length s (b7 many A) 0:=by
 refine D5 fun b B e=>?_
 rw[vY] at e;cases a:A[b]? with
 |none=>rw[a] at e;cases e
 |some nd=>
  rw[a] at e;cases e;have d:=(ca.1 a).1;obtain⟨c0,c⟩:=h.closed.2 b nd a;rw[cw,tq pos d,h.here b nd a];refine⟨?_,Hb c0 c⟩;rw[G9 (pos:=pos) (fun _=>tq pos c0) (fun _=>tq pos c)];rfl
theorem Ss (many:Int)(A:List Nd):lV (b7 many A):=by
 have :∀ (l:List (Nd×Nat)),lV (l.map fun p=>some (eS id many p.2 p.1)):=by
  intro l;induction l with
  |nil=>trivial
  |cons x l ih=>exact ih
 exact this _
theorem Qm (many:Int)(A:List Nd)(k:Nat):kS ((b7 many A).drop k):=by
 have :∀ (l:List (Nd×Nat)),kS (l.map fun p=>some (eS id many p.2 p.1)):=by
  intro l;induction l with
  |nil=>trivial
  |cons x l ih=>exact⟨rfl,ih⟩
 unfold b7;rw[<-pg];exact this _
theorem Fin.tree {m:Nat}{v' v:V}{pos:Nat->Nat}{many:Int}{A:List Nd}{s:St}(h:TreeAt pos many A s.H)(r:m<=A.length)(t:∀ j,j<m->pos j=j)(u:v'.ren (aw (ef pos A.length))=v/\v'.low A.length):Fin m v' (b7 many A) v s:=by
 refine Fin.ren (ef pos A.length) (by rw[oI,fS]) (by rw[oI];exact r) ?_ h.sgNodup (by rw[fS];exact u) (by rw[fS];exact h.blks);unfold ef;refine qM fun i=>?_
 rw[oK];by_cases d:i<m
 ·rw[if_pos d,ci,nB aa,nB d];simp[t i d]
 ·rw[if_neg d,gi (by simp;omega)]
def mf (pos:Nat->Nat)(n L:Nat)(j:Nat):Nat:=if j<n then pos j else L+(j-n)
section
variable {pos:Nat->Nat}{many many':Int}{A A':List Nd}{H:List (Option Blk)}
def qZ (pos:Nat->Nat)(n:Nat)(H:List (Option Blk))(h':List (Option Blk)):List (Option Blk):=
 cK H (cR (aw (bd (ef pos n) H.length h')) (ef pos n) h')++dQ (aw (bd (ef pos n) H.length h')) (ef pos n) h'
theorem EC (a:A.length<=A'.length){j:Nat}(b:j<A'.length):aw (bd (ef pos A.length) H.length (b7 many' A')) j=mf pos A.length H.length j:=by
 unfold mf bd;by_cases h:j<A.length
 ·rw[if_pos h,uf (by rw[oI];exact h),tq pos h]
 ·rw[if_neg h,sY (by rw[oI];omega) (by rw[oI,fS];omega),oI]
theorem Wb (a:A.length<=A'.length):(qZ pos A.length H (b7 many' A')).length=H.length+(A'.length-A.length):=by
 unfold qZ;rw[aE,eT,pd,ba,bU,oI,fS]
theorem adj {b:Nat}(a:b<H.length)(d:∀ j,j<A.length->pos j≠b)(h':List (Option Blk)):ag (qZ pos A.length H h') b=ag H b:=by
 unfold qZ;rw[cz (by rw[eT];exact a),oT _ _ _ a,tM];intro c;unfold ef at c;obtain⟨j,g,e⟩:=cD.1 c;exact d j (by simpa using g) e
theorem TreeAt.call (h:TreeAt pos many A H)(hc:iC A')(g:A.length<=A'.length):TreeAt (mf pos A.length H.length) many' A' (qZ pos A.length H (b7 many' A')):=by
 have c:∀ (j:Nat) nd,A'[j]?=some nd->dx (aw (bd (ef pos A.length) H.length (b7 many' A'))) (some (eS id many' j nd))=some (eS (mf pos A.length H.length) many' j nd):=fun j nd e=>by
  obtain⟨c0,q⟩:=hc.2 j nd e;unfold dx Blk.ren;rw[jA,G9 (pos:=mf pos A.length H.length) (fun _=>EC g c0) (fun _=>EC g q)];rfl
 refine⟨fun j nd e=>?_,fun a b t u e=>?_,hc⟩
 ·have r:=(ca.1 e).1;have o:(b7 many' A')[j]?=some (some (eS id many' j nd)):=by
   unfold b7;rw[ci,List.getElem?_zipIdx,e];simp
  unfold mf;by_cases d:j<A.length
  ·rw[if_pos d];have p:=h.lt d;unfold qZ;rw[cz (by rw[eT];exact p),oT _ _ _ p,xy h.sgNodup (i:=j) (by unfold ef;rw[ci,nB d];rfl) (by rw[fS];exact r),o];exact c j nd e
  ·rw[if_neg d];unfold qZ ag;rw[dL (by rw[eT];omega),eT,pd,ci,il,oI,show A.length+(H.length+(j-A.length)-H.length)=j by omega,o];exact c j nd e
 ·unfold mf at e;by_cases h1:a<A.length<;>by_cases h2:b<A.length
  ·rw[if_pos h1,if_pos h2] at e;exact h.inj a b h1 h2 e
  ·rw[if_pos h1,if_neg h2] at e;have :=h.lt h1;omega
  ·rw[if_neg h1,if_pos h2] at e;have :=h.lt h2;omega
  ·rw[if_neg h1,if_neg h2] at e;omega
end
section
variable {P:Program}{m n:Nat}{R:Exit->St->Prop}{k:List Fr}{s:St}{l:List Oper}{ops:Array Oper}{dst:Option Tmp}
variable {f:FuncId}{fs cs args args0:List V}{v:V}{pos:Nat->Nat}{many many':Int}{A A':List Nd}
theorem ZD (d:aq P f args0 (b7 many A) v (b7 many' A'))(hc:eu P f=true)(b:TreeAt pos many A s.H)(e:iC A')(c:A.length<=A'.length)
  (g:rens (aw (ef pos A.length)) args0=fs++args++cs) (a:af A.length args0):VCall P (.fn f fs cs) args (ag s.H) s.H.length (gJ (ef pos A.length) s.H.length v (b7 many' A')):=
 xZ (ef pos A.length) d hc g (by rw[oI,fS]) (by rw[fS];exact a) b.sgNodup b.sgLt (Ss many A) (by rw[fS];exact b.blks) (Qm _ _ _) (by rw[fS,fS];exact c)
theorem U4 (v':V)(p:aq P f args0 (b7 many A) v (b7 many' A'))(hc:eu P f=true)(i:TreeAt pos many A s.H)(d:iC A')(c:A.length<=A'.length)
  (q:rens (aw (ef pos A.length)) args0=fs++args++cs) (e:af A.length args0) (r:v.ren (aw (bd (ef pos A.length) s.H.length (b7 many' A')))=v')
  (u:∀ H',TreeAt (mf pos A.length s.H.length) many' A' H'->(∀ b,b<s.H.length->(∀ j,j<A.length->pos j≠b)->ag H' b=ag s.H b)->H'.length=s.H.length+(A'.length-A.length)->
   fY P m n R l ops k ⟨putS s.t dst v',H'⟩):n9 P m n R (.fn f fs cs) args dst l ops k s:=
 ⟨_,ZD p hc i d c q e,by
  have :=u _ (i.call (many':=many') d c) (fun _ w x=>adj w x _) (Wb c);rw[<-r] at this;exact this⟩
end
end
end Go.Vm
end
section
namespace Go.Vm
open Go.Proofs Go.Proofs.Tryz
def Nd.kid (nd:Nd)(b:Bool):Nat:=if b=true then nd.k1 else nd.k0
def Nd.setKid (nd:Nd)(b:Bool)(j:Nat):Nd:=if b=true then⟨nd.k0,j,nd.is,nd.owner⟩ else⟨j,nd.k1,nd.is,nd.owner⟩
def b9 (x:List Nd×Nat)(b:Bool):List Nd×Nat:=
 if(x.1.getD x.2 leaf).kid b=0 then(x.1.set x.2 ((x.1.getD x.2 leaf).setKid b x.1.length)++[leaf],x.1.length) else(x.1,(x.1.getD x.2 leaf).kid b)
def pR (a:BitVec 32)(i:Nat):Bool:=a.getLsbD (31-i)
def cp (a:BitVec 32)(n:Nat):List Bool:=(List.range n).map (pR a)
theorem ZO (a:BitVec 32)(n:Nat):cp a (n+1)=cp a n++[pR a n]:=by unfold cp;rw[List.range_succ,gD];rfl
theorem EW (a:BitVec 32)(i:Nat):(a>>>(31-i))&&&1#32=if pR a i=true then 1#32 else 0#32:=by
 unfold pR;apply BitVec.eq_of_getLsbD_eq;intro k b;rw[BitVec.getLsbD_and,BitVec.getLsbD_ushiftRight];by_cases h:k=0
 ·subst h;rw[iQ];cases a.getLsbD (31-i)<;>simp
 ·have h1:(1#32).getLsbD k=false:=by rw[BitVec.getLsbD_one];simp[h]
  rw[h1,Bool.and_false];split
  ·exact h1.symm
  ·simp
theorem TreeAt.grow2 {pos:Nat->Nat}{many:Int}{B:List Nd}{H:List (Option Blk)}{c:Nat}{nd:Nd}(h:TreeAt pos many B H)(hc:B[c]?=some nd)(b:Bool)(cs:List V)
  (f:cs=if b=true then cu pos nd.k0::V.ptr H.length 0:: .bool nd.is:: .i64 nd.owner::fc many c else V.ptr H.length 0::cu pos nd.k1:: .bool nd.is:: .i64 nd.owner::fc many c):
  TreeAt (fun j=>if j=B.length then H.length else pos j) many (B.set c (nd.setKid b B.length)++[leaf]) ((H++[bK [.nilPtr,.nilPtr,.bool false,.i64 0]]).set (pos c) (bK cs)):=by
 have g:=(ca.1 hc).1;have a:=h.closed.2 c nd hc;have i:(if c=B.length then H.length else pos c)=pos c:=if_neg aa;have h2:=TreeAt.put (many':=many) (h.grow aa) (j:=c) (by simp;omega) (nd.setKid b B.length) (by unfold Nd.setKid;cases b<;>simp <;>omega) (.inr rfl);rw[y6 _ _ g] at h2;simp only[i] at h2;have k:∀ j,j<B.length->cu (fun j=>if j=B.length then H.length else pos j) j=cu pos j:=fun j l=>by
  unfold cu;simp only[show(j=B.length)=False from eq_false aa,if_false]
 have d:cu (fun j=>if j=B.length then H.length else pos j) B.length= .ptr H.length 0:=by
  unfold cu;simp only[show(B.length=0)=False from eq_false aa,if_false,if_true]
 have e:some (eS (fun j=>if j=B.length then H.length else pos j) many c (nd.setKid b B.length))=bK cs:=by
  rw[f];unfold eS Nd.setKid;cases b with
  |true=>simp only[if_true,d,k _ a.1]
  |false=>simp only[ct,if_false,d,k _ a.2]
 rw[e] at h2;exact h2
theorem aeC (many:Int)(A:List Nd)(G:iC A)(a:BitVec 32)(n:Nat)(M:n<=32):aq prog 61 [.ptr 0 0,.agg [.u32 a,.i64 n]] (b7 many A) (.ptr ((cp a n).foldl b9 (A,0)).2 0) (b7 many ((cp a n).foldl b9 (A,0)).1):=by
 have C:ag (b7 many A++[bK [.u32 a,.i64 n]]) A.length=bK [.u32 a,.i64 n]:=by
  rw[<-fS many A];exact kj _ _ _
 refine bf ac (fn:=f61) func61 rfl am (ak ?_);simp -implicitDefEqProofs only[go_sem,seval,ntmps61,fS,C];refine bq (fun j st=>∃ (i:Nat) (pos:Nat->Nat) (B:List Nd) (c:Nat) (H:List (Option Blk)),i+j=n/\(cp a i).foldl b9 (A,0)=(B,c)/\TreeAt pos many B H/\c<B.length/\A.length<=B.length/\(∀ j,j<A.length->pos j=j)/\
  (∀ j,j<B.length->pos j≠A.length)/\ag H A.length=bK [.u32 a,.i64 n]/\st=⟨[(3,.ptr A.length 0),(5,.ptr (pos c) 0),(12,.i64 n),(13,.i64 i)],H⟩) ?_ ?_
 ·refine bJ n ⟨[(3,.ptr A.length 0),(5,.ptr 0 0),(12,.i64 n),(13,.i64 (0:Nat))],b7 many A++[bK [.u32 a,.i64 n]]⟩ (by simp[St.get,aj]) rfl (fun _ _ h=>h)
   ⟨0,id,A,0,_,aa,rfl,(TreeAt.init G).app _,G.1,aH _,fun _ _=>rfl,fun j s=>vO s,C,rfl⟩
 rintro j st ⟨i,pos,B,c,H,K,I,p,hc,x,D,m,f,rfl⟩ _;by_cases N:i<n
 ·have o:(i:Int)<(n:Int):=aa;have hw:ao (31-(i:Int))=((31-i:Nat):Int):=by rw[az aa aa];omega
  have t:ao ((i:Int)+1)=((i+1:Nat):Int):=by rw[az aa aa];omega
  have u:(0:Int)<=((31-i:Nat):Int):=aa;have e:=EW a i;have g:(cp a (i+1)).foldl b9 (A,0)=b9 (B,c) (pR a i):=by rw[ZO,Ch,I];rfl
  obtain⟨nd,q⟩:∃ nd,B[c]?=some nd:=⟨B[c],aF hc⟩;have l:=p.here c nd q;have v:B.getD c leaf=nd:=by rw[aW,q];rfl
  have E:=p.closed.2 c nd q;cases J:pR a i with
  |false=>
   rw[J] at e g;simp only[ct,if_false] at e;by_cases w:nd.k0=0
   ·have k:ag H (pos c)=bK (.nilPtr::cu pos nd.k1:: .bool nd.is:: .i64 nd.owner::fc many c):=by
     rw[l];unfold eS;rw[w];rfl
    have y:ag (H++[bK [.nilPtr,.nilPtr,.bool false,.i64 0]]) (pos c)=bK (.nilPtr::cu pos nd.k1:: .bool nd.is:: .i64 nd.owner::fc many c):=by
     rw[cz (p.lt hc)];exact k
    have z:=bG (H:=H++[bK [.nilPtr,.nilPtr,.bool false,.i64 0]]) (b:=pos c) (by have :=p.lt hc;simp;omega) (bK (.ptr H.length 0::cu pos nd.k1:: .bool nd.is:: .i64 nd.owner::fc many c));have d:b9 (B,c) false=(B.set c (nd.setKid false B.length)++[leaf],B.length):=by
     unfold b9;simp only[v];rw[if_pos (by unfold Nd.kid;simp[w])]
    rw[d] at g;simp -implicitDefEqProofs only[go_sem,seval,o,f,hw,u,cT,e,k,y,z];refine bx (j-1) ⟨[(3,.ptr A.length 0),(5,.ptr ((fun j=>if j=B.length then H.length else pos j) B.length) 0),(12,.i64 n),(13,.i64 (i+1:Nat))],(H++[bK [.nilPtr,.nilPtr,.bool false,.i64 0]]).set (pos c) (bK (.ptr H.length 0::cu pos nd.k1:: .bool nd.is:: .i64 nd.owner::fc many c))⟩ aa ?_ rfl (fun _ _ h=>h)
     ⟨i+1,fun j=>if j=B.length then H.length else pos j,_,B.length,_,aa,g,p.grow2 q false _ rfl,ae,by simp;omega,fun j s=>?_,fun j s=>?_,?_,rfl⟩
    ·simp[St.get,aj,t]
    ·show(if j=B.length then H.length else pos j)=j;rw[if_neg aa];exact D j s
    ·show(if j=B.length then H.length else pos j)≠A.length;have L:=aU f;by_cases r:j=B.length
     ·rw[if_pos r];omega
     ·rw[if_neg r];exact m j (by simp at s;omega)
    ·rw[bW (m c hc),cz (aU f)];exact f
   ·have k:ag H (pos c)=bK (.ptr (pos nd.k0) 0::cu pos nd.k1:: .bool nd.is:: .i64 nd.owner::fc many c):=by
     rw[l];unfold eS;rw[show cu pos nd.k0= .ptr (pos nd.k0) 0 from if_neg w]
    have d:b9 (B,c) false=(B,nd.k0):=by
     unfold b9;simp only[v];rw[if_neg (by unfold Nd.kid;simp[w])];unfold Nd.kid;simp
    rw[d] at g;simp -implicitDefEqProofs only[go_sem,seval,o,f,hw,u,cT,e,k];refine bx (j-1) ⟨[(3,.ptr A.length 0),(5,.ptr (pos nd.k0) 0),(12,.i64 n),(13,.i64 (i+1:Nat))],H⟩ aa (by simp[St.get,aj,t]) rfl (fun _ _ h=>h)
     ⟨i+1,pos,B,nd.k0,H,aa,g,p,E.1,x,D,m,f,rfl⟩
  |true=>
   rw[J] at e g;simp only[if_true] at e;by_cases w:nd.k1=0
   ·have k:ag H (pos c)=bK (cu pos nd.k0:: .nilPtr:: .bool nd.is:: .i64 nd.owner::fc many c):=by
     rw[l];unfold eS;rw[w];rfl
    have y:ag (H++[bK [.nilPtr,.nilPtr,.bool false,.i64 0]]) (pos c)=bK (cu pos nd.k0:: .nilPtr:: .bool nd.is:: .i64 nd.owner::fc many c):=by
     rw[cz (p.lt hc)];exact k
    have z:=bG (H:=H++[bK [.nilPtr,.nilPtr,.bool false,.i64 0]]) (b:=pos c) (by have :=p.lt hc;simp;omega) (bK (cu pos nd.k0:: .ptr H.length 0:: .bool nd.is:: .i64 nd.owner::fc many c));have d:b9 (B,c) true=(B.set c (nd.setKid true B.length)++[leaf],B.length):=by
     unfold b9;simp only[v];rw[if_pos (by unfold Nd.kid;simp[w])]
    rw[d] at g;simp -implicitDefEqProofs only[go_sem,seval,o,f,hw,u,cT,e,k,y,z];refine⟨aa,aa,?_⟩;refine bx (j-1) ⟨[(3,.ptr A.length 0),(5,.ptr ((fun j=>if j=B.length then H.length else pos j) B.length) 0),(12,.i64 n),(13,.i64 (i+1:Nat))],(H++[bK [.nilPtr,.nilPtr,.bool false,.i64 0]]).set (pos c) (bK (cu pos nd.k0:: .ptr H.length 0:: .bool nd.is:: .i64 nd.owner::fc many c))⟩ aa ?_ rfl (fun _ _ h=>h)
     ⟨i+1,fun j=>if j=B.length then H.length else pos j,_,B.length,_,aa,g,p.grow2 q true _ rfl,ae,by simp;omega,fun j s=>?_,fun j s=>?_,?_,rfl⟩
    ·simp[St.get,aj,t]
    ·show(if j=B.length then H.length else pos j)=j;rw[if_neg aa];exact D j s
    ·show(if j=B.length then H.length else pos j)≠A.length;have L:=aU f;by_cases r:j=B.length
     ·rw[if_pos r];omega
     ·rw[if_neg r];exact m j (by simp at s;omega)
    ·rw[bW (m c hc),cz (aU f)];exact f
   ·have k:ag H (pos c)=bK (cu pos nd.k0:: .ptr (pos nd.k1) 0:: .bool nd.is:: .i64 nd.owner::fc many c):=by
     rw[l];unfold eS;rw[show cu pos nd.k1= .ptr (pos nd.k1) 0 from if_neg w]
    have d:b9 (B,c) true=(B,nd.k1):=by
     unfold b9;simp only[v];rw[if_neg (by unfold Nd.kid;simp[w])];unfold Nd.kid;simp
    rw[d] at g;simp -implicitDefEqProofs only[go_sem,seval,o,f,hw,u,cT,e,k];refine⟨aa,aa,?_⟩;refine bx (j-1) ⟨[(3,.ptr A.length 0),(5,.ptr (pos nd.k1) 0),(12,.i64 n),(13,.i64 (i+1:Nat))],H⟩ aa (by simp[St.get,aj,t]) rfl (fun _ _ h=>h)
     ⟨i+1,pos,B,nd.k1,H,aa,g,p,E.2,x,D,m,f,rfl⟩
 ·have o:¬ (i:Int)<(n:Int):=aa;have F:i=n:=aa;subst F;simp -implicitDefEqProofs only[go_sem,seval,o];rw[I];exact Fin.tree p x D ⟨by show V.ptr (aw (ef pos B.length) c) 0=_;rw[tq pos hc],hc⟩
theorem Wv {A:List Nd}{j:Nat}{nd:Nd}(h:A[j]?=some nd):A.getD j leaf=nd:=by rw[aW,h];rfl
theorem GL {A:List Nd}(h:iC A){j:Nat}(a:Nd)(c:a.k0<A.length/\a.k1<A.length):iC (A.set j a):=by
 refine⟨by simpa using h.1,fun i nd e=>?_⟩;rw[aY];rw[wH] at e;by_cases b:j=i
 ·subst b;rw[if_pos rfl] at e;split at e
  ·rw[<-kJ e];exact c
  ·cases e
 ·rw[if_neg b] at e;exact h.2 i nd e
theorem Qr {A:List Nd}(h:iC A):iC (A++[leaf]):=by
 refine⟨ae,fun i nd e=>?_⟩;rw[aE];by_cases b:i<A.length
 ·rw[gh b] at e;have :=h.2 i nd e;simp;omega
 ·rw[dL aa] at e;have :nd=leaf:=by
   cases a:i-A.length with
   |zero=>rw[a] at e;simp at e;exact e.symm
   |succ k=>rw[a] at e;simp at e
  subst this;simp[leaf]
theorem Qe {B:List Nd}{c:Nat}(h:iC B)(hc:c<B.length)(b:Bool):iC (b9 (B,c) b).1/\(b9 (B,c) b).2<(b9 (B,c) b).1.length/\B.length<=(b9 (B,c) b).1.length:=by
 have a:B[c]?=some (B.getD c leaf):=by rw[aW,aF hc];rfl
 have d:=h.2 c _ a;unfold b9;simp only;generalize B.getD c leaf=nd at*;split
 ·refine⟨?_,ae,ae⟩;rw[<-y6 _ _ hc];refine GL (Qr h) _ ?_;unfold Nd.setKid;cases b<;>simp <;>omega
 ·refine⟨h,?_,aH _⟩;unfold Nd.kid;cases b<;>simp <;>omega
theorem Bu:∀ (p:List Bool) {B:List Nd} {c:Nat},iC B->c<B.length->iC (p.foldl b9 (B,c)).1/\(p.foldl b9 (B,c)).2<(p.foldl b9 (B,c)).1.length/\B.length<=(p.foldl b9 (B,c)).1.length
 |[],_,_,h,hc=>⟨h,hc,aH _⟩
 |b::p,B,c,h,hc=>by
  obtain⟨h1,h2,a⟩:=Qe h hc b;obtain⟨g1,g2,g3⟩:=Bu p h1 h2;exact⟨g1,g2,fF a g3⟩
theorem ON (a:BitVec 32)(n:Nat)(p many:Int)(A B:List Nd)(c:Nat)(nd:Nd)(hA:iC A)(hn:n<=32)(hp0:0<=p)(hp8:p<8)(hf:a<<<n=0#32)(hm0:0<=many)(hm1:many<=64)
  (hat:(cp a n).foldl b9 (A,0)=(B,c)) (hnd:B[c]?=some nd):
  aq prog 40 [.ptr 0 0,.agg [.u32 a,.i64 n],.i64 p] (b7 many A) (.i64 (if nd.is=true then 0 else if many=64 then 9 else 0))
   (b7 (if nd.is=true then many else if many=64 then many else many+1) (if nd.is=true then B.set c ⟨nd.k0,nd.k1,true,p⟩ else if many=64 then B else B.set c ⟨nd.k0,nd.k1,true,p⟩)):=by
 have hg0:ag (b7 many A++[bK [.u32 a,.i64 n]]) A.length=bK [.u32 a,.i64 n]:=by
  rw[<-fS many A];exact kj _ _ _
 have hT0:TreeAt id many A (b7 many A++[bK [.u32 a,.i64 n]]):=(TreeAt.init hA).app _;have h1:¬ (n:Int)<0:=aa;have h2:¬ (32:Int)<n:=aa;have h3:¬ p<0:=aa;have h4:¬ 8<=p:=aa;have h5:(0:Int)<=n:=aa;have hw:=az (n:=many+1) aa aa;have hcl:=Bu (cp a n) hA hA.1;have hsp:=aeC many A hA a n hn;rw[hat] at hcl hsp;obtain⟨hcB,hc,hle⟩:=hcl;simp only at hcB hc hle hsp;obtain⟨r,hr⟩:∃ r,B[0]?=some r:=⟨B[0]'hcB.1,aF hcB.1⟩;refine bf ac (fn:=f40) func40 rfl am (ak ?_);simp -implicitDefEqProofs only[go_sem,seval,ntmps40,fS,hg0,h1,h2,h3,h4,h5,cT,hf];refine U4 (.ptr (mf id A.length (A.length+1) c) 0) hsp ac hT0 hcB hle ?_ ?_ ?_ ?_
 ·show[V.ptr (aw (ef id A.length) 0) 0,V.agg [V.u32 a,V.i64 n]]=[V.ptr 0 0,V.agg [V.u32 a,V.i64 n]];rw[tq _ hA.1];rfl
 ·exact⟨hA.1,⟨trivial,trivial,trivial⟩,trivial⟩
 ·show V.ptr (aw _ c) 0=_;rw[EC hle hc];simp only[aE,fS,ce,ig]
 intro H' hT hkeep hlen;have hL:(b7 many A++[bK [.u32 a,.i64 n]]).length=A.length+1:=by simp[fS]
 simp only[hL] at hT;have hp0':mf id A.length (A.length+1) 0=0:=if_pos hA.1;have hpos:∀ j,j<A.length->mf id A.length (A.length+1) j=j:=fun j hj=>if_pos hj
 generalize mf id A.length (A.length+1)=pos at*;have hgc:=hT.here c nd hnd;have hgr:=hT.here 0 r hr;rw[hp0'] at hgr;unfold eS at hgc hgr;rw[show fc many 0=[.i64 many] from rfl] at hgr;have hkc:=hT.closed.2 c nd hnd;by_cases his:nd.is=true
 ·rw[his] at hgc;simp only[his,if_true];have hs1:=bG (hT.lt hc) (bK (cu pos nd.k0::cu pos nd.k1:: .bool true:: .i64 nd.owner::fc many c));simp -implicitDefEqProofs only[go_sem,seval,hgc,hs1,iX];refine⟨aa,?_⟩;exact Fin.tree (hT.put hc ⟨nd.k0,nd.k1,true,p⟩ hkc (.inr rfl)) (by simpa using hle) hpos ⟨rfl,trivial⟩
 ·have his':nd.is=false:=by simpa using his
  rw[his'] at hgc;simp only[his',ct,if_false];by_cases h64:many=64
  ·simp only[h64,if_true] at hgc hgr hT |-
   simp -implicitDefEqProofs only[go_sem,seval,hgc,hgr];refine⟨aa,?_⟩;exact Fin.tree hT hle hpos ⟨rfl,trivial⟩
  ·simp only[if_neg h64];have hT2:=hT.put (many':=many+1) hcB.1 r (hT.closed.2 0 r hr) (.inl rfl);rw[hp0',show B.set 0 r=B from by rw[<-kJ ((aF hcB.1).symm.trans hr)];exact Ee _] at hT2;have hgc2:=hT2.here c nd hnd;unfold eS at hgc2;rw[show fc (many+1) 0=[.i64 (many+1)] from rfl,his'] at hgc2;have hs1:=bG (hT2.lt hc) (bK (cu pos nd.k0::cu pos nd.k1:: .bool true:: .i64 nd.owner::fc (many+1) c));have hT3:=hT2.put hc ⟨nd.k0,nd.k1,true,p⟩ hkc (.inr rfl);unfold eS at hs1 hT3;rw[show fc (many+1) 0=[.i64 (many+1)] from rfl] at hs1 hT3;simp -implicitDefEqProofs only[go_sem,seval,hgc,hgr,hgc2,hs1,h64,hw,iX];refine⟨aa,?_⟩;exact Fin.tree hT3 (by simpa using hle) hpos ⟨rfl,trivial⟩
def mA (A:List Nd):List Bool->Nat->Int×Bool->Int×Bool
 |[],c,best=>if(A.getD c leaf).is=true then((A.getD c leaf).owner,true) else best
 |b::p,c,best=>
  let d:=if(A.getD c leaf).is=true then((A.getD c leaf).owner,true) else best
  if(A.getD c leaf).kid b=0 then d else mA A p ((A.getD c leaf).kid b) d
theorem UG (a:BitVec 32){i:Nat}(b:i<32):(cp a 32).drop i=pR a i::(cp a 32).drop (i+1):=by
 rw[sO (by unfold cp;simpa using b)];congr 1;unfold cp;rw[rS,List.getElem_range]
theorem aaH (a:BitVec 32)(many:Int)(A:List Nd)(hA:iC A):aq prog 43 [.ptr 0 0,.u32 a] (b7 many A) (.tup [.i64 (mA A (cp a 32) 0 (0,false)).1,.bool (mA A (cp a 32) 0 (0,false)).2]) (b7 many A):=by
 have hT:=TreeAt.init (many:=many) hA;generalize hR:mA A (cp a 32) 0 (0,false)=R;refine bf ac (fn:=f43) func43 rfl am (ak ?_);simp -implicitDefEqProofs only[go_sem,seval,ntmps43,fS];refine bq (fun j st=>∃ (i:Nat) (best:Int×Bool) (v:V),i+j=33/\((∃ c,i<=32/\c<A.length/\v= .ptr c 0/\mA A ((cp a 32).drop i) c best=R)\/(v= .nilPtr/\best=R))/\
  st=⟨[(0,.ptr 0 0),(1,.u32 a),(6,.i64 best.1),(7,.bool best.2),(8,v),(9,.i64 i)],b7 many A⟩) ?_ ?_
 ·exact bJ 33 ⟨[(0,.ptr 0 0),(1,.u32 a),(6,.i64 0),(7,.bool false),(8,.ptr 0 0),(9,.i64 (0:Nat))],b7 many A⟩ (by simp[St.get,aj]) rfl (fun _ _ h=>h)
   ⟨0,(0,false),.ptr 0 0,aa,.inl ⟨0,aa,hA.1,rfl,hR⟩,rfl⟩
 rintro j st ⟨i,best,v,hij,hv,rfl⟩ _;rcases hv with⟨c,hi,hc,rfl,hf⟩|⟨rfl,rfl⟩
 ·obtain⟨nd,hnd⟩:∃ nd,A[c]?=some nd:=⟨A[c],aF hc⟩;have hget:=hT.here c nd hnd;rw[show id c=c from rfl] at hget;unfold eS at hget;have hgd:=Wv hnd;have hkc:=hA.2 c nd hnd;by_cases h32:i=32
  ·have hd:(cp a 32).drop i=[]:=gP (by unfold cp;simp;omega);have h32':((i:Int)=32)=True:=eq_true aa;rw[hd] at hf;unfold mA at hf;rw[hgd] at hf;cases his:nd.is with
   |true=>
    rw[his,if_pos rfl] at hf;rw[his] at hget;subst hf;simp -implicitDefEqProofs only[go_sem,seval,hget,h32'];refine⟨aa,aa,?_⟩;exact Fin.tree hT (aH _) (fun _ _=>rfl) ⟨rfl,⟨trivial,trivial,trivial⟩⟩
   |false=>
    rw[his,if_neg ae] at hf;rw[his] at hget;subst hf;simp -implicitDefEqProofs only[go_sem,seval,hget,h32'];refine⟨aa,?_⟩;exact Fin.tree hT (aH _) (fun _ _=>rfl) ⟨rfl,⟨trivial,trivial,trivial⟩⟩
  ·have h32':((i:Int)=32)=False:=eq_false aa;have hw:ao (31-(i:Int))=((31-i:Nat):Int):=by rw[az aa aa];omega
   have hw1:ao ((i:Int)+1)=((i+1:Nat):Int):=by rw[az aa aa];omega
   have hnn:(0:Int)<=((31-i:Nat):Int):=aa;have hbit:=EW a i;rw[UG a aa] at hf;unfold mA at hf;simp only[hgd] at hf;cases hb:pR a i with
   |false=>
    rw[hb] at hbit hf;simp only[ct,if_false] at hbit;rw[show nd.kid false=nd.k0 from rfl] at hf;cases his:nd.is with
    |true=>
     rw[his] at hf hget;simp only[if_true] at hf;by_cases hk:nd.k0=0
     ·rw[if_pos hk] at hf;have hkv:cu id nd.k0= .nilPtr:=if_pos hk;rw[hkv] at hget;simp -implicitDefEqProofs only[go_sem,seval,hget,h32',hw,hnn,cT,hbit];refine⟨aa,aa,ac,?_⟩;exact bx (j-1) ⟨[(0,.ptr 0 0),(1,.u32 a),(6,.i64 nd.owner),(7,.bool true),(8,.nilPtr),(9,.i64 (i+1:Nat))],b7 many A⟩ aa (by simp[St.get,aj,hw1]) rfl (fun _ _ h=>h) ⟨i+1,(nd.owner,true),.nilPtr,aa,.inr ⟨rfl,hf⟩,rfl⟩
     ·rw[if_neg hk] at hf;have hkv:cu id nd.k0= .ptr nd.k0 0:=if_neg hk;rw[hkv] at hget;simp -implicitDefEqProofs only[go_sem,seval,hget,h32',hw,hnn,cT,hbit];refine⟨aa,aa,ac,?_⟩;exact bx (j-1) ⟨[(0,.ptr 0 0),(1,.u32 a),(6,.i64 nd.owner),(7,.bool true),(8,.ptr nd.k0 0),(9,.i64 (i+1:Nat))],b7 many A⟩ aa (by simp[St.get,aj,hw1]) rfl (fun _ _ h=>h) ⟨i+1,(nd.owner,true),.ptr nd.k0 0,aa,.inl ⟨nd.k0,aa,hkc.1,rfl,hf⟩,rfl⟩
    |false=>
     rw[his] at hf hget;simp only[ct,if_false] at hf;by_cases hk:nd.k0=0
     ·rw[if_pos hk] at hf;have hkv:cu id nd.k0= .nilPtr:=if_pos hk;rw[hkv] at hget;simp -implicitDefEqProofs only[go_sem,seval,hget,h32',hw,hnn,cT,hbit];refine⟨aa,ac,?_⟩;exact bx (j-1) ⟨[(0,.ptr 0 0),(1,.u32 a),(6,.i64 best.1),(7,.bool best.2),(8,.nilPtr),(9,.i64 (i+1:Nat))],b7 many A⟩ aa (by simp[St.get,aj,hw1]) rfl (fun _ _ h=>h) ⟨i+1,best,.nilPtr,aa,.inr ⟨rfl,hf⟩,rfl⟩
     ·rw[if_neg hk] at hf;have hkv:cu id nd.k0= .ptr nd.k0 0:=if_neg hk;rw[hkv] at hget;simp -implicitDefEqProofs only[go_sem,seval,hget,h32',hw,hnn,cT,hbit];refine⟨aa,ac,?_⟩;exact bx (j-1) ⟨[(0,.ptr 0 0),(1,.u32 a),(6,.i64 best.1),(7,.bool best.2),(8,.ptr nd.k0 0),(9,.i64 (i+1:Nat))],b7 many A⟩ aa (by simp[St.get,aj,hw1]) rfl (fun _ _ h=>h) ⟨i+1,best,.ptr nd.k0 0,aa,.inl ⟨nd.k0,aa,hkc.1,rfl,hf⟩,rfl⟩
   |true=>
    rw[hb] at hbit hf;simp only[if_true] at hbit;rw[show nd.kid true=nd.k1 from rfl] at hf;cases his:nd.is with
    |true=>
     rw[his] at hf hget;simp only[if_true] at hf;by_cases hk:nd.k1=0
     ·rw[if_pos hk] at hf;have hkv:cu id nd.k1= .nilPtr:=if_pos hk;rw[hkv] at hget;simp -implicitDefEqProofs only[go_sem,seval,hget,h32',hw,hnn,cT,hbit];refine⟨aa,aa,aa,ac,?_⟩;exact bx (j-1) ⟨[(0,.ptr 0 0),(1,.u32 a),(6,.i64 nd.owner),(7,.bool true),(8,.nilPtr),(9,.i64 (i+1:Nat))],b7 many A⟩ aa (by simp[St.get,aj,hw1]) rfl (fun _ _ h=>h) ⟨i+1,(nd.owner,true),.nilPtr,aa,.inr ⟨rfl,hf⟩,rfl⟩
     ·rw[if_neg hk] at hf;have hkv:cu id nd.k1= .ptr nd.k1 0:=if_neg hk;rw[hkv] at hget;simp -implicitDefEqProofs only[go_sem,seval,hget,h32',hw,hnn,cT,hbit];refine⟨aa,aa,aa,ac,?_⟩;exact bx (j-1) ⟨[(0,.ptr 0 0),(1,.u32 a),(6,.i64 nd.owner),(7,.bool true),(8,.ptr nd.k1 0),(9,.i64 (i+1:Nat))],b7 many A⟩ aa (by simp[St.get,aj,hw1]) rfl (fun _ _ h=>h) ⟨i+1,(nd.owner,true),.ptr nd.k1 0,aa,.inl ⟨nd.k1,aa,hkc.2,rfl,hf⟩,rfl⟩
    |false=>
     rw[his] at hf hget;simp only[ct,if_false] at hf;by_cases hk:nd.k1=0
     ·rw[if_pos hk] at hf;have hkv:cu id nd.k1= .nilPtr:=if_pos hk;rw[hkv] at hget;simp -implicitDefEqProofs only[go_sem,seval,hget,h32',hw,hnn,cT,hbit];refine⟨aa,aa,ac,?_⟩;exact bx (j-1) ⟨[(0,.ptr 0 0),(1,.u32 a),(6,.i64 best.1),(7,.bool best.2),(8,.nilPtr),(9,.i64 (i+1:Nat))],b7 many A⟩ aa (by simp[St.get,aj,hw1]) rfl (fun _ _ h=>h) ⟨i+1,best,.nilPtr,aa,.inr ⟨rfl,hf⟩,rfl⟩
     ·rw[if_neg hk] at hf;have hkv:cu id nd.k1= .ptr nd.k1 0:=if_neg hk;rw[hkv] at hget;simp -implicitDefEqProofs only[go_sem,seval,hget,h32',hw,hnn,cT,hbit];refine⟨aa,aa,ac,?_⟩;exact bx (j-1) ⟨[(0,.ptr 0 0),(1,.u32 a),(6,.i64 best.1),(7,.bool best.2),(8,.ptr nd.k1 0),(9,.i64 (i+1:Nat))],b7 many A⟩ aa (by simp[St.get,aj,hw1]) rfl (fun _ _ h=>h) ⟨i+1,best,.ptr nd.k1 0,aa,.inl ⟨nd.k1,aa,hkc.2,rfl,hf⟩,rfl⟩
 ·simp -implicitDefEqProofs only[go_sem,seval];exact Fin.tree hT (aH _) (fun _ _=>rfl) ⟨rfl,⟨trivial,trivial,trivial⟩⟩
section
theorem Zn:aq prog 41 [] [] (.ptr 0 0) [bK [.bool false,.i64 0,.i64 0,.bool false,.i64 0]]:=by
 refine bf ac (fn:=f41) func41 rfl am (ak ?_);simp -implicitDefEqProofs only[go_sem,seval,ntmps41,results41];exact Fin.ren [0] ae ae aZ ah ae ae
theorem RY:aq prog 37 [] [] (.ptr 0 0) [bK [.nilPtr,.nilPtr,.bool false,.i64 0,.i64 0]]:=by
 refine bf ac (fn:=f37) func37 rfl am (ak ?_);simp -implicitDefEqProofs only[go_sem,seval,ntmps37,results37];exact Fin.ren [0] ae ae aZ ah ae ae
theorem Uy:aq prog 38 [] [] (.ptr 1 0) [some ⟨false,[],some ⟨[],0⟩⟩,bK [.i64 0,.map 0]]:=by
 refine bf ac (fn:=f38) func38 rfl am (ak ?_);simp -implicitDefEqProofs only[go_sem,seval,ntmps38,results38];exact Fin.id (s:=⟨_,_⟩) (fg _)
def Ha (K:RK)(N n:Nat)(r:Rl):RK:=fun x=>if N<=x/\x<N+n then some r else K x
theorem adK {A:List Nd}{P:Int->Prop}(f:∀ c,(A.getD c leaf).is=true->P (A.getD c leaf).owner):∀ (l:List Bool) (c:Nat) (b:Int×Bool),(b.2=true->P b.1)->(mA A l c b).2=true->P (mA A l c b).1:=by
 have step:∀ (c:Nat) (b:Int×Bool),(b.2=true->P b.1)->(if(A.getD c leaf).is=true then((A.getD c leaf).owner,true) else b).2=true->P (if(A.getD c leaf).is=true then((A.getD c leaf).owner,true) else b).1:=fun c b e=>by
  by_cases h:(A.getD c leaf).is=true
  ·rw[if_pos h];exact fun _=>f c h
  ·rw[if_neg h];exact e
 intro l;induction l with
 |nil=>intro c b e;exact step c b e
 |cons x l ih=>
  intro c b e;have h1:=step c b e;show(if(A.getD c leaf).kid x=0 then(if(A.getD c leaf).is=true then((A.getD c leaf).owner,true) else b) else mA A l ((A.getD c leaf).kid x) (if(A.getD c leaf).is=true then((A.getD c leaf).owner,true) else b)).2=true->P (if(A.getD c leaf).kid x=0 then(if(A.getD c leaf).is=true then((A.getD c leaf).owner,true) else b) else mA A l ((A.getD c leaf).kid x) (if(A.getD c leaf).is=true then((A.getD c leaf).owner,true) else b)).1;by_cases h:(A.getD c leaf).kid x=0
  ·rw[if_pos h];exact h1
  ·rw[if_neg h];exact ih _ _ h1
section
variable {K K0 K':RK}{H H0 H':List (Option Blk)}{Q0 Q:Rl->Prop}{i j j' n x W a b pb:Nat}{c:NoK}{N N':NoS}{k:LnK}{L:LnS}{v:V}{many:Int}{A:List Nd}{sg:List Nat}{d d':List (Option Blk)}{r:Rl}
theorem Cx.stp (h:Cx K0 H0 Q K H)(o:Emb sg d H)(u:∀ b∈sg,K b=some r)(w:Q r)(p:Nxt d d')(q:∀ b B,ag d' b=some B->B.ro=false):Cx K0 H0 Q (Ha K H.length (d'.length-d.length) r) (memH sg H d'):=by
 have y:=o.len;have z:=p.le;have D:=h.len;have t:(memH sg H d').length=H.length+(d'.length-d.length):=by rw[pP,y]
 refine⟨by rw[t];omega,fun b f g=>?_,fun b m e g=>?_,fun b m f e=>?_,fun b B e l=>?_,h.sane.memH o p,fun b f=>?_,h.old⟩
 ·rw[Ab aa fun s=>h.inQ (u b s) w f g];exact h.keep b f g
 ·have :=h.lt (h.stay b m e g);show(if _ then _ else _)=_;rw[if_neg aa];exact h.stay b m e g
 ·unfold Ha at e;rw[if_neg aa] at e;exact h.kin b m f e
 ·rcases L5 o p e with⟨g1,-,-⟩|⟨i,C,g1,rfl⟩
  ·exact h.ro b B g1 l
  ·have :=q i C g1;have h2:C.ro=true:=l;rw[this] at h2;cases h2
 ·show(if _ then _ else _)=_;rw[t] at f;rw[if_neg aa];exact h.fresh b aa
def TrAt (K:RK)(H:List (Option Blk))(j pb:Nat)(many:Int)(A:List Nd):Prop:=∃ sg,Emb sg (b7 many A) H/\(∀ b∈sg,K b=some (.path j))/\aw sg 0=pb/\iC A
def oX (A:List Nd)(a:BitVec 32):Int×Bool:=mA A (cp a 32) 0 (0,false)
theorem uS (g:iC A):Dv (b7 many A):=by
 refine⟨fun b B e=>?_,fun b B e=>?_,by rw[fS];exact g.1⟩
 ·rw[vY] at e;cases f:A[b]? with
  |none=>rw[f] at e;cases e
  |some nd=>rw[f] at e;cases e;rfl
 ·rw[vY] at e;cases f:A[b]? with
  |none=>rw[f] at e;cases e
  |some nd=>
   rw[f] at e;cases e;obtain⟨c0,h⟩:=g.2 b nd f;rw[fS];exact Hb c0 h
theorem TrAt.path (h:TrAt K H j pb many A):PathAt K H j pb (oX A):=by
 obtain⟨sg,h1,h2,g,e⟩:=h;refine⟨_,sg,h1,h2,g,uS e,fun i f=>?_,fun a=>aaH a many A e⟩;rw[fS] at f;rw[vY,aF f];exact⟨_,rfl⟩
theorem TrAt.off (h:TrAt K H j pb many A)(f:Off Q K H K' H')(l:H.length<=H'.length)(g:¬ Q (.path j)):TrAt K' H' j pb many A:=by
 obtain⟨sg,h1,h2,m,o⟩:=h;refine⟨sg,h1.stay l fun i B e=>f.h _ _ (h2 _ (h1.mem (aU e))) g,fun b p=>f.k _ _ (h2 b p) g,m,o⟩
def setA (A:List Nd)(a:BitVec 32)(n:Nat)(p:Int):List Nd:=
 ((cp a n).foldl b9 (A,0)).1.set ((cp a n).foldl b9 (A,0)).2 ⟨(((cp a n).foldl b9 (A,0)).1.getD ((cp a n).foldl b9 (A,0)).2 leaf).k0,(((cp a n).foldl b9 (A,0)).1.getD ((cp a n).foldl b9 (A,0)).2 leaf).k1,true,p⟩
theorem Pu (G:Cx K0 H0 Q0 K H)(I:TrAt K H j pb many A)(a:BitVec 32)(n:Nat)(p:Int)(J:n<=32)(u:0<=p)(w:p<8)(M:a<<<n=0#32)(y:0<=many)(O:many<64)
  (h:(((cp a n).foldl b9 (A,0)).1.getD ((cp a n).foldl b9 (A,0)).2 leaf).is=false):
  ∃ v K' H',Dx prog 40 [.ptr pb 0,.agg [.u32 a,.i64 n],.i64 p] K H (fun r=>r= .path j) v K' H'/\(v= .i64 0/\TrAt K' H' j pb (many+1) (setA A a n p)):=by
 obtain⟨sg,g,F,rfl,l⟩:=I;obtain⟨g1,g2,g3⟩:=Bu (cp a n) l l.1;have z:=ON a n p many A _ _ _ l J u w M y aa rfl (aF g2);have m:((cp a n).foldl b9 (A,0)).1[((cp a n).foldl b9 (A,0)).2]=((cp a n).foldl b9 (A,0)).1.getD ((cp a n).foldl b9 (A,0)).2 leaf:=by
  rw[aW,aF g2];rfl
 rw[m,h] at z;have C:¬ many=64:=aa;simp only[ct,if_false,C] at z;have o:=g1.2 _ _ (aF g2);rw[m] at o;have f:iC (setA A a n p):=GL g1 _ o;have q:(setA A a n p).length=((cp a n).foldl b9 (A,0)).1.length:=aY;have t:Nxt (b7 many A) (b7 (many+1) (setA A a n p)):=⟨by rw[fS,fS,q];exact g3,fun b B e _=>(uS f).rw_ b B e,(uS f).sane⟩;have P:=qa (H:=H) z sg g.len ⟨(uS l).pos,⟨trivial,trivial,trivial⟩,trivial,trivial⟩ g.nd g.lt g.blk t.ro t.le;have D:=g.call t;have E:=(G.start (fun r=>r= .path j)).stp g F rfl t (uS f).rw_;refine⟨_,_,_,⟨P,E,trivial⟩,rfl,_,D,fun b s=>?_,Yg (by rw[g.len];exact(uS l).pos),f⟩;show(if _ then _ else _)=_;rcases Kq s with s|s
 ·split
  ·rfl
  ·exact F b s
 ·rw[if_pos (by rw[<-g.len];exact s)]
theorem VF (l:Cx K0 H0 Q0 K H)(j:Nat):∃ v K' H',Dx prog 37 [] K H (fun _=>False) v K' H'/\(v= .ptr H.length 0/\TrAt K' H' j H.length 0 [leaf]):=by
 have m:=zD (H:=H) RY (fun _=>rfl) trivial (fun _=>rfl) (v':= .ptr H.length 0) (fun σ e=>by simp[V.ren,e]);have h:=(l.start (fun _=>False)).new (.path j) (vs:=[.nilPtr,.nilPtr,.bool false,.i64 0,.i64 0]) (mm:=none) (by simp[af,V.low]);refine⟨_,_,_,⟨m,h,by simp[V.low]⟩,rfl,[H.length],⟨rfl,ae,fun b f=>?_,fun b B e=>?_⟩,fun b f=>?_,rfl,⟨ah,fun j nd e=>?_⟩⟩
 ·simp at f;simp[f]
 ·match b with
  |0=>
   have g:bK [.nilPtr,.nilPtr,.bool false,.i64 0,.i64 0]=some B:=e;cases g;exact⟨eY,by simp[af,V.low]⟩
  |b+1=>
   have g:(none:Option Blk)=some B:=by
    rw[<-e];simp[ag,b7]
   cases g
 ·simp at f;subst f;exact gB
 ·match j with
  |0=>
   have g:some leaf=some nd:=e;cases g;exact⟨ah,ah⟩
  |j+1=>simp at e
theorem JA (f:Cx K0 H0 Q0 K H)(j i:Nat):∃ v K' H',Dx prog 41 [] K H (fun _=>False) v K' H'/\(v= .ptr H.length 0/\K' H.length=some (.tm j i)/\ag H' H.length=bK ((⟨false,0,0,false,0⟩:TmS).cs)/\H'.length=H.length+1):=
 ⟨_,_,_,⟨zD (H:=H) Zn (fun _=>rfl) trivial (fun _=>rfl) (v':= .ptr H.length 0) (fun σ e=>by simp[V.ren,e]),(f.start (fun _=>False)).new (.tm j i) (vs:=[.bool false,.i64 0,.i64 0,.bool false,.i64 0]) (mm:=none) (by simp[af,V.low]),by simp[V.low]⟩,rfl,gB,eY,ae⟩
theorem afz (l:Cx K0 H0 Q0 K H)(j:Nat):∃ v K' H',Dx prog 38 [] K H (fun _=>False) v K' H'/\(∃ b,v= .ptr b 0/\BkAt K' H' j b ⟨0,⟨[],0⟩⟩):=by
 have f:=qa (H:=H) Uy [] rfl trivial ae ae (fun b B e=>by simp[ag] at e) (fun b B e _=>by
  match b with
  |0=>have g:some (⟨false,[],some ⟨[],0⟩⟩:Blk)=some B:=e;cases g;rfl
  |1=>have g:bK [.i64 0,.map 0]=some B:=e;cases g;rfl
  |b+2=>simp[ag] at e) (fg _)
 have h:∀ i,i<2->aw (bd [] H.length [some (⟨false,[],some ⟨[],0⟩⟩:Blk),bK [.i64 0,.map 0]]) i=H.length+i:=fun i m=>by
  rw[pU (fg _) m];simp
 have o:memH [] H [some (⟨false,[],some ⟨[],0⟩⟩:Blk),bK [.i64 0,.map 0]]=H++[some ⟨false,[],some ⟨[],0⟩⟩]++[bK [.i64 0,.map H.length]]:=by
  have p:=h 0 ah;unfold memH;simp only[dQ,cR,cK,bN,cO,dx,jA,Blk.ren,rens,V.ren,p,dV,fO,ff,iQ]
 rw[o] at f;have q:(V.ptr 1 0).ren (aw (bd [] H.length [some (⟨false,[],some ⟨[],0⟩⟩:Blk),bK [.i64 0,.map 0]]))= .ptr (H.length+1) 0:=by
  unfold V.ren;rw[h 1 ah]
 rw[q] at f;have l1:(H++[some (⟨false,[],some ⟨[],0⟩⟩:Blk)]).length=H.length+1:=ae;have s:=(l.start (fun _=>False)).new (.bm j) (vs:=[]) (mm:=some ⟨[],0⟩) (by simp[af]);have t:=s.new (.bk j) (vs:=[.i64 0,.map H.length]) (mm:=none) (by simp[af,V.low];omega);refine⟨_,_,_,⟨f,t,by simp[V.low]⟩,H.length+1,rfl,H.length,by rw[<-l1];exact gB,?_,?_,?_⟩
 ·rw[dW (by rw[l1];omega)];exact gB
 ·rw[<-l1];exact eY
 ·rw[cz (by rw[l1];omega)];exact eY
end
end
end Go.Vm
end
section
namespace Go.Vm
section
section
variable {H H' H0:List (Option Blk)}{W:Nat->Prop}{b c d m n n' N:Nat}{cs ds:List V}
end
end
section
section
variable {H H0:List (Option Blk)}{W:Nat->Prop}{d m n q:Nat}{ps:List V}
variable {here:BitVec 32}{own pub seed:List ai}{best:Int}{fresh:BitVec 64}{secret:List ai}{index:BitVec 32}{firsts now:Int}{busy:Bool}{peers:V}{paths bucket:Nat}{out got:V}
theorem J7 {N x:Nat}(h:N<=x):fw N x=1:=if_neg aa
theorem ag1 {N x k:Nat}(h:N<=x):fw N (x+k)=1:=if_neg aa
theorem BO {d N x:Nat}(h:N<=x)(a:d<N):iD d N x=1:=by unfold iD;rw[if_neg aa,if_neg aa]
theorem NI {d N x k:Nat}(h:N<=x)(a:d<N):iD d N (x+k)=1:=by unfold iD;rw[if_neg aa,if_neg aa]
theorem wu {b a:Nat}{X Y Z:List (Option Blk)}{x:Option Blk}(h:b<H.length)(c:a≠b):ag ((H++X++Y).set a x++Z) b=ag H b:=by
 rw[cz (by rw[aY,aE,aE];omega),bW c,m7 h]
theorem ahd:(1∈[1,2])=True:=ae
theorem PF {d N k:Nat}(c:d<N):(∀ b∈List.range' N k,iD d N b∈[1])=True:=eq_true fun b a=>by
 rw[qf] at a;rw[BO a.1 c];simp
end
end
end Go.Vm
end
section
namespace Go.Vm
open Go.Proofs Go.Proofs.Tryz
section
structure PaS where
 pub:List ai
 psk:List ai
 at_:BitVec 32
 addr:BitVec 32
 q:List ai
def lq (p:PaS)(i:Nat):PeS:=⟨p.q,i,p.pub,p.psk,p.at_,1,1,false,0,0,[],0,[],none,0#32,[],none,none,none,⟨false,0,0,false,0⟩⟩
def gX (L:List PaS):List PeS:=L.zipIdx.map fun x=>lq x.1 x.2
theorem qH (L:List PaS):(gX L).length=L.length:=by simp[gX]
theorem wm (L:List PaS)(i:Nat)(h:i<(gX L).length):(gX L)[i]=lq (L[i]'(by rw[qH] at h;exact h)) i:=by simp[gX]
def arN (L:List PaS):Nat->List Nd
 |0=>[leaf]
 |i+1=>setA (arN L i) ((L.map (·.addr)).getD i 0#32) 24 i
def newB:BkS:=⟨0,⟨[],0⟩⟩
noncomputable def m9 (here:BitVec 32) (own seed:List ai) (best:Int):DeS:=⟨here,own,aK own,seed,best,0#64,[],0#32,0,0,false,[],[]⟩
noncomputable def vW (here:BitVec 32) (own seed:List ai) (best:Int):DeS:={m9 here own seed best with fresh:=0#64+1#64,secret:=(m9 here own seed best).keyV}
def qR (own:List ai)(L:List PaS):Prop:=∃ (i:Nat) (h:i<L.length),L[i].pub=aK own\/∃ (e:Nat) (h':e<i),(L[e]'(aa)).pub=L[i].pub
structure PaS.ok (p:PaS):Prop where
 pub:p.pub.length=32
 psk:p.psk.length=32
 addr:p.addr<<<24=0#32
section
variable {K K0 K':RK}{H H0 H':List (Option Blk)}{Q0 Q:Rl->Prop}{i j j' n m x W a b d pb bk:Nat}{c:NoK}{N N':NoS}{k:LnK}{v av:V}{D:DeS}{ps:List Nat}{L:List PaS}{r:Rl}
theorem Cx.stayN (h:Cx K0 H0 Q K H)(g:K0 b=none)(l:b<H0.length):K b=none:=by
 cases e:K b with
 |none=>rfl
 |some r=>
  obtain⟨o,f,-⟩:=h.kin b r l e;rw[g] at f;cases f
structure PaAt (K:RK) (H:List (Option Blk)) (a:Nat) (L:List PaS) (cs:List V):Prop where
 here:ag H a=bK cs
 no:K a=none
 len:cs.length=L.length*4
 row:∀ i (h:i<L.length),∃ pb,(cs.drop (i*4)).take 4=[.str L[i].pub,.str L[i].psk,.u32 L[i].at_,.slice pb 0 1 2]/\ag H pb=bK [.u32 L[i].addr,.i64 24]/\K pb=none
theorem PaAt.keep {cs:List V}(h:PaAt K H a L cs)(g:Cx K H Q K' H'):PaAt K' H' a L cs:=by
 have e:∀ b B,ag H b=some B->K b=none->ag H' b=some B/\K' b=none:=fun b B f l=>⟨(g.getN l (aU f)).trans f,g.stayN l (aU f)⟩
 refine⟨(e _ _ h.here h.no).1,(e _ _ h.here h.no).2,h.len,fun i p=>?_⟩;obtain⟨pb,h1,h2,o⟩:=h.row i p;exact⟨pb,h1,(e _ _ h2 o).1,(e _ _ h2 o).2⟩
structure DnI (K:RK) (H:List (Option Blk)) (j d pb bk:Nat) (D:DeS) (av:V) (ps:List Nat) (L:List PaS) (i m:Nat):Prop where
 kd:K d=some (.dev j)
 g:ag H d=bK [.u32 D.here,.str D.own,.str D.pub,.str D.seed,.i64 D.best,.u64 D.fresh,.str D.secret,.u32 D.index,.i64 D.firsts,.i64 D.now,.bool D.busy,av,.ptr pb 0,.ptr bk 0,.nilSlice,.nilSlice]
 o:D.out=[]/\D.got=[]
 av:(av= .nilSlice/\ps=[])\/∃ arr,av= .slice arr 0 ps.length 1/\0<ps.length/\K arr=some (.parr j)/\ag H arr=bK (ps.map (fun p=> .ptr p 0))
 len:ps.length=i
 iL:i<=L.length
 peer:∀ i' (h:i'<ps.length) (h2:i'<L.length),PeerIn K H j i' d ps[i'] (lq L[i'] i')
 tr:TrAt K H j pb m (arN L m)
 bkt:BkAt K H j bk newB
theorem DnI.off (h:DnI K H j d pb bk D av ps L i m)(e:Off Q K H K' H')(s:H.length<=H'.length)(f:NoD Q j):DnI K' H' j d pb bk D av ps L i m:=by
 obtain⟨d1,d2,d3,d4,d5,d6,d7⟩:=f.d;refine⟨e.k _ _ h.kd d1,(e.h _ _ h.kd d1).trans h.g,h.o,?_,h.len,h.iL,fun l t u=>?_,h.tr.off e s d7,h.bkt.off e d5 d6⟩
 ·rcases h.av with h1|⟨arr,h1,h2,q,w⟩
  ·exact .inl h1
  ·exact .inr ⟨arr,h1,h2,e.k _ _ q d2,(e.h _ _ q d2).trans w⟩
 ·obtain⟨y,p2,p3,z,p5,A⟩:=f.p l;exact(h.peer l t u).off e y p2 p3 z p5 A
theorem DnI.node (h:DnI K H j d pb bk D av ps L i m)(w:0<i):∃ arr,av= .slice arr 0 ps.length 1/\NodeAt K H j ⟨d,arr,ps,pb,bk,oX (arN L m)⟩ ⟨D,gX (L.take i),newB⟩/\DevAt K H j d D arr ps pb bk .nilSlice .nilSlice:=by
 have l:=h.len;rcases h.av with⟨-,e⟩|⟨arr,rfl,h2,q,s⟩
 ·rw[e] at l;simp at l;omega
 ·have t:=h.iL;have p:DevAt K H j d D arr ps pb bk .nilSlice .nilSlice:=⟨h.kd,q,h.g,s,by rw[h.o.1];exact .inl ⟨rfl,rfl⟩,by rw[h.o.2];exact .inl ⟨rfl,rfl⟩⟩;refine⟨arr,rfl,⟨⟨_,_,p⟩,by show ps.length=(gX (L.take i)).length;rw[qH,br];omega,fun f h1 u=>?_,h.bkt,h.tr.path⟩,p⟩;have h1:f<ps.length:=h1;show PeerIn K H j f d ps[f] (gX (L.take i))[f];rw[wm,List.getElem_take];exact h.peer f h1 aa
theorem TI (e:Cx K0 H0 Q0 K H)(g:K d=some (.dev j))(f:ag H d=bK [.u32 D.here,.str D.own,.str D.pub,.str D.seed,.i64 D.best,.u64 D.fresh,.str D.secret,.u32 D.index,.i64 D.firsts,.i64 D.now,.bool D.busy,.nilSlice,.ptr pb 0,.ptr bk 0,.nilSlice,.nilSlice])(x:List ai):
  ∃ v K' H',Dx prog 39 [.ptr d 0,.str x] K H (fun _=>False) v K' H'/\(v= .nilPtr/\K'=K/\H'=H):=by
 refine bV (Q:=fun _=>False) (Post:=fun v K' H'=>v= .nilPtr/\K'=K/\H'=H) ac (fn:=f39) func39 rfl am (ak ?_);simp -implicitDefEqProofs only[go_sem,seval,f];repeat refine aJ ?_
 refine dz 1 ?_;simp -implicitDefEqProofs only[go_sem,seval];exact Ex.of (e.start _) trivial ⟨rfl,rfl,rfl⟩
theorem abC (t:Cx K0 H0 Q0 K H)(h:DnI K H j d pb bk D av ps L i m)(y:L.length<=8)(x:List ai):
  ∃ v K' H',Dx prog 39 [.ptr d 0,.str x] K H (fun _=>False) v K' H'/\((v= .nilPtr/\∀ f (h:f<i) (h2:f<L.length),L[f].pub≠x)\/((∃ b o,v= .ptr b o)/\∃ f,∃ (h:f<i) (h2:f<L.length),L[f].pub=x))/\K'=K/\H'=H:=by
 by_cases z:0<i
 ·obtain⟨arr,-,A,-⟩:=h.node z;have B:=h.iL;obtain⟨v,K',H',h1,rfl,l,C⟩:=JC t A (by show(gX (L.take i)).length<=8;rw[qH,br];omega) x;refine⟨_,K',H',h1,?_,l,C⟩;dsimp only;cases e:(gX (L.take i)).findIdx? fun P=>decide (P.pub=x) with
  |none=>
   refine .inl ⟨rfl,fun f u p E=>?_⟩;rw[List.findIdx?_eq_none_iff] at e;have s:f<(gX (L.take i)).length:=by rw[qH,br];omega
   have :=e _ (dd s);rw[wm] at this;simp[lq,E] at this
  |some f=>
   obtain⟨u,p,-⟩:=sM.1 e;have F:=u;rw[qH,br] at F;rw[wm] at p;refine .inr ⟨⟨_,_,lp (by rw[h.len];omega)⟩,f,aa,aa,?_⟩;simpa [lq] using p
 ·obtain rfl:i=0:=aa;have G:=h.len;rcases h.av with⟨rfl,-⟩|⟨arr,-,h2,-⟩
  ·obtain⟨v,K',H',h1,h2,l⟩:=TI t h.kd h.g x;exact⟨v,K',H',h1,.inl ⟨h2,fun f q=>by omega⟩,l⟩
  ·omega
end
end
end Go.Vm
end
section
namespace Go.Vm
open Go.Proofs
section
section
variable {K K0 K':RK}{H H0 H':List (Option Blk)}{Q0 Q:Rl->Prop}{i j j' n m x W b d pb bk tm:Nat}{a:Option Nat}{c:NoK}{N N':NoS}{k:LnK}{v av:V}{D:DeS}{ps:List Nat}{L:List PaS}{r:Rl}
theorem DnI.add (B:Cx K0 H0 Q K H)(h:DnI K H j d pb bk D av ps L i m)(hi:i<L.length)(M:Q (.dev j))(O:Q (.parr j))(u:K tm=some (.tm j i))(P:ag H tm=bK ((⟨false,0,0,false,0⟩:TmS).cs))(Y:∀ y,a=some y->K y=some (.parr j))(R:H.length+2=W):
  Cx K0 H0 Q (cV (fQ a (cV K H.length (some (.peer j i)))) W (some (.parr j))) ((cutH a (H++[bK ((lq L[i] i).cs d tm .nilSlice .nilPtr .nilPtr .nilPtr .nilPtr)]++[bK [.ptr H.length 0]])++[bK ((ps++[H.length]).map (fun p=> .ptr p 0))]).set d (bK [.u32 D.here,.str D.own,.str D.pub,.str D.seed,.i64 D.best,.u64 D.fresh,.str D.secret,.u32 D.index,.i64 D.firsts,.i64 D.now,.bool D.busy,.slice W 0 (i+1) 1,.ptr pb 0,.ptr bk 0,.nilSlice,.nilSlice]))/\
  DnI (cV (fQ a (cV K H.length (some (.peer j i)))) W (some (.parr j))) ((cutH a (H++[bK ((lq L[i] i).cs d tm .nilSlice .nilPtr .nilPtr .nilPtr .nilPtr)]++[bK [.ptr H.length 0]])++[bK ((ps++[H.length]).map (fun p=> .ptr p 0))]).set d (bK [.u32 D.here,.str D.own,.str D.pub,.str D.seed,.i64 D.best,.u64 D.fresh,.str D.secret,.u32 D.index,.i64 D.firsts,.i64 D.now,.bool D.busy,.slice W 0 (i+1) 1,.ptr pb 0,.ptr bk 0,.nilSlice,.nilSlice])) j d pb bk D (.slice W 0 (i+1) 1) (ps++[H.length]) L (i+1) m:=by
 have hld:=B.lt h.kd;have hlt:=B.lt u;have A:=h.len;have G:=(B.sane _ _ h.g).1;have S:∀ p∈ps,p<H.length:=fun p w=>by
  obtain⟨C,z,rfl⟩:=mK w;obtain⟨_,_,_,_,_,_,hP⟩:=h.peer C z aa;exact B.lt hP.kp
 have l1:af (H.length+1) ((lq L[i] i).cs d tm .nilSlice .nilPtr .nilPtr .nilPtr .nilPtr):=by
  simp[PeS.cs,af,V.low];omega
 have hA:=B.new (.peer j i) (mm:=none) l1;have T:=(B.start (fun _=>False)).new (.peer j i) (mm:=none) l1;have U:=hA.junk (vs:=[.ptr H.length 0]) (mm:=none) (by simp[af,V.low];omega);have I:=T.junk (vs:=[.ptr H.length 0]) (mm:=none) (by simp[af,V.low];omega);have E:cV K H.length (some (.peer j i)) d=some (.dev j):=by rw[dW aa];exact h.kd
 have F:∀ y,a=some y->cV K H.length (some (.peer j i)) y=some (.parr j):=fun y e=>by
  have :=B.lt (Y y e);rw[dW aa];exact Y y e
 have t:(H++[bK ((lq L[i] i).cs d tm .nilSlice .nilPtr .nilPtr .nilPtr .nilPtr)]++[bK [.ptr H.length 0]]).length=H.length+2:=ae;have l2:af ((H++[bK ((lq L[i] i).cs d tm .nilSlice .nilPtr .nilPtr .nilPtr .nilPtr)]++[bK [.ptr H.length 0]]).length+1) ((ps++[H.length]).map (fun p=>V.ptr p 0)):=by
  rw[t];have :∀ l:List Nat,(∀ p∈l,p<H.length+2+1)->af (H.length+2+1) (l.map fun p=>V.ptr p 0):=by
   intro l;induction l with
   |nil=>intro _;trivial
   |cons q l ih=>intro Z;exact⟨Z q ae,ih fun p w=>Z p (by simp[w])⟩
  refine this _ fun p w=>?_
  rcases eB.1 w with w|w
  ·have :=S p w;omega
  ·simp at w;omega
 have l3:af ((H++[bK ((lq L[i] i).cs d tm .nilSlice .nilPtr .nilPtr .nilPtr .nilPtr)]++[bK [.ptr H.length 0]]).length+1) [V.u32 D.here,.str D.own,.str D.pub,.str D.seed,.i64 D.best,.u64 D.fresh,.str D.secret,.u32 D.index,.i64 D.firsts,.i64 D.now,.bool D.busy,.slice W 0 (i+1) 1,.ptr pb 0,.ptr bk 0,.nilSlice,.nilSlice]:=by
  rw[t];simp[af,V.low] at G |-
  omega
 have hG:=U.growN (t.trans R) E M a (.parr j) F O l2 l3;have J:=(U.start (fun r=>r= .dev j\/r= .parr j)).growN (t.trans R) E (.inl rfl) a (.parr j) F (.inr rfl) l2 l3;obtain⟨g1,g2,g3⟩:=uh (ds:=(ps++[H.length]).map (fun p=>V.ptr p 0)) (vs:=[V.u32 D.here,.str D.own,.str D.pub,.str D.seed,.i64 D.best,.u64 D.fresh,.str D.secret,.u32 D.index,.i64 D.firsts,.i64 D.now,.bool D.busy,.slice W 0 (i+1) 1,.ptr pb 0,.ptr bk 0,.nilSlice,.nilSlice]) U (t.trans R) E F ae;have f:=J.off;have s:=I.off;have kp:cV K H.length (some (.peer j i)) H.length=some (.peer j i):=gB;have gp:ag (H++[bK ((lq L[i] i).cs d tm .nilSlice .nilPtr .nilPtr .nilPtr .nilPtr)]++[bK [.ptr H.length 0]]) H.length=bK ((lq L[i] i).cs d tm .nilSlice .nilPtr .nilPtr .nilPtr .nilPtr):=by
  rw[cz ae];exact eY
 refine⟨hG,g1,g2,h.o,.inr ⟨W,?_,ae,gB,g3⟩,by simp[A],aa,fun C h1 h2=>?_,(h.tr.off s I.len id).off f J.len ae,(h.bkt.off s id id).off f ae ae⟩
 ·rw[aE,A];rfl
 ·by_cases z:C<ps.length
  ·rw[xa z];exact((h.peer C z h2).off s id id id id id fun _=>⟨id,id⟩).off f ae ae ae ae ae ae
  ·have h1':C<(ps++[H.length]).length:=h1;rw[aE,qv] at h1';obtain rfl:C=i:=aa;have X:(ps++[H.length])[C]'h1=H.length:=by
    rw[tj aa];simp
   rw[X];exact⟨tm,.nilSlice,.nilPtr,.nilPtr,.nilPtr,.nilPtr,f.k _ _ kp ae,f.k _ _ (s.k _ _ u id) ae,(f.h _ _ kp ae).trans gp,(f.h _ _ (s.k _ _ u id) ae).trans ((s.h _ _ u id).trans P),.inl ⟨rfl,rfl⟩,rfl,rfl,rfl,rfl,.inl rfl,.inl rfl,.inl rfl⟩
end
end
end Go.Vm
end
section
namespace Go.Vm
open Go.Proofs Go.Proofs.Tryz
section
section
variable {K K0 K':RK}{H H0 H':List (Option Blk)}{Q0 Q:Rl->Prop}{i j j' jj n m x W b d pb bk tm a:Nat}{c:NoK}{N N':NoS}{k:LnK}{v av:V}{D:DeS}{ps:List Nat}{L:List PaS}{r:Rl}
def yP (j:Nat)(L:List PaS)(here:BitVec 32)(own seed:List ai)(best:Int):V->RK->List (Option Blk)->Prop:=fun v K' H'=>
 (qR own L/\∃ e:Int,e≠0/\v= .tup [.nilPtr,.i64 e])\/(¬ qR own L/\∃ c:NoK,v= .tup [.ptr c.d 0,.i64 0]/\c.F=oX (arN L L.length)/\c.ps.length=L.length/\NodeAt K' H' j c ⟨vW here own seed best,gX L,newB⟩)
def sk (L:List PaS):Prop:=∀ i (h:i<L.length),(((cp L[i].addr 24).foldl b9 (arN L i,0)).1.getD ((cp L[i].addr 24).foldl b9 (arN L i,0)).2 leaf).is=false
theorem XT (h:i<L.length):arN L (i+1)=setA (arN L i) L[i].addr 24 i:=by
 show setA (arN L i) ((L.map (·.addr)).getD i 0#32) 24 i=_;rw[aW,ci,aF h];rfl
theorem UK (hC0:Cx K H (qD jj) K H)(here:BitVec 32)(own seed:List ai)(h1:own.length=32)(h2:seed.length=32)(best:Int){cs:List V}(hP:PaAt K H a L cs)(hM0:0<L.length)(hM8:L.length<=8)(hok:∀ p∈L,p.ok)(hfree:sk L){t:List (Nat×V)}
  (e0:aj t 0= .u32 here) (e1:aj t 1= .str own) (e2:aj t 2= .str seed) (e3:aj t 3= .i64 best) (e4:aj t 4= .slice a 0 L.length 4) (r0 b1 c5:Code) (hc:f27.body=some (.seq r0 (.seq b1 c5))):
  vc prog H.length f27.ntmps c5 (eW prog f27 (Ex K H (qD jj) (yP jj L here own seed best))) ⟨t,H⟩:=by
 have hla:=aU hP.here;simp only[f27,cf,Code.seq.injEq] at hc;obtain⟨-,-,rfl⟩:=hc;have hPb:aG prog 26 [.str own] (.tup [.str (aK own),.i64 0]):=vu own h1;refine ak ?_;simp -implicitDefEqProofs only[go_sem,seval,e1];repeat refine aI ?_
 refine au (hPb) ?_;simp -implicitDefEqProofs only[go_sem,seval];repeat refine aI ?_
 simp -implicitDefEqProofs only[go_sem,e0,e1,e2,e3];repeat refine aI ?_
 refine bA (VF hC0 jj) ac rfl (by simp[af]) hC0.sane ?_;rintro _ K1 H1 hC1 hl1 ⟨rfl,hT1⟩;have hD1:=hC0.call hC1 fun _ h=>h.elim
 simp -implicitDefEqProofs only[go_sem,seval];repeat refine aI ?_
 refine bA (afz hC1 jj) ac rfl (by simp[af]) hC1.sane ?_;rintro _ K2 H2 hC2 hl2 ⟨bk,rfl,hB2⟩;have hD2:=hD1.call hC2 fun _ h=>h.elim
 have hT2:=hT1.off hC2.off hC2.len id;have hl12:=hC2.len;have hlb2:bk<H2.length:=by obtain⟨_,q,_⟩:=hB2;exact hC2.lt q
 have hlp2:=xI hC2 hT2.path;have hlen2:=hD2.len;simp -implicitDefEqProofs only[go_sem,seval,e4];repeat refine aI ?_
 have hlow3:af (H2.length+1) [V.u32 here,.str own,.str (aK own),.str seed,.i64 best,.u64 0#64,.str [],.u32 0#32,.i64 0,.i64 0,.bool false,.nilSlice,.ptr H.length 0,.ptr bk 0,.nilSlice,.nilSlice]:=by simp[af,V.low];omega
 have hD3:=hD2.new (.dev jj) (mm:=none) hlow3;have hX3:=(hC2.start (fun _=>False)).new (.dev jj) (mm:=none) hlow3;have hI3:DnI (cV K2 H2.length (some (.dev jj))) (H2++[bK [.u32 here,.str own,.str (aK own),.str seed,.i64 best,.u64 0#64,.str [],.u32 0#32,.i64 0,.i64 0,.bool false,.nilSlice,.ptr H.length 0,.ptr bk 0,.nilSlice,.nilSlice]]) jj H2.length H.length bk (m9 here own seed best) .nilSlice [] L 0 0:=
  ⟨gB,eY,⟨rfl,rfl⟩,.inl ⟨rfl,rfl⟩,rfl,fg _,fun i' h=>by simp at h,hT2.off hX3.off hX3.len id,hB2.off hX3.off id id⟩
 have hP3:=hP.keep hD3;have hpbH:H.length<H2.length:=hlp2;generalize cV K2 H2.length (some (.dev jj))=K3 at*;generalize (H2++[bK [.u32 here,.str own,.str (aK own),.str seed,.i64 best,.u64 0#64,.str [],.u32 0#32,.i64 0,.i64 0,.bool false,.nilSlice,.ptr H.length 0,.ptr bk 0,.nilSlice,.nilSlice]])=H3 at*;generalize H2.length=d at*;refine bq (fun j st=>∃ (i:Nat) (Hi:List (Option Blk)) (Ki:RK) (av:V) (ps:List Nat),i+j=L.length/\Cx K H (qD jj) Ki Hi/\PaAt Ki Hi a L cs/\DnI Ki Hi jj d H.length bk (m9 here own seed best) av ps L i i/\(∀ i' (h:i'<i) (h2:i'<L.length),L[i'].pub≠aK own/\∀ k (h:k<i'),(L[k]'(aa)).pub≠L[i'].pub)/\st=⟨[(12,.str (aK own)),(14,.ptr d 0),(59,.slice a 0 L.length 4),(60,.i64 L.length),(61,.i64 i)],Hi⟩) ?_ ?_
 ·exact bJ L.length ⟨[(12,.str (aK own)),(14,.ptr d 0),(59,.slice a 0 L.length 4),(60,.i64 L.length),(61,.i64 (0:Nat))],H3⟩ (by simp[St.get,aj]) rfl (fun _ _ h=>h) ⟨0,H3,K3,.nilSlice,[],aa,hD3,hP3,hI3,fun _ h=>by omega,rfl⟩
 rintro j st ⟨i,Hi,Ki,av,ps,hij,hC,hPi,hI,hnt,rfl⟩-;have hld:=hC.lt hI.kd;by_cases hi:i<L.length
 rotate_left
 ·have hi':¬ (i:Int)<(L.length:Int):=aa;obtain rfl:i=L.length:=aa;obtain⟨arr,rfl,hN,hDv⟩:=hI.node hM0;have hntw:¬ qR own L:=fun⟨i',h,hor⟩=>by
   obtain⟨q1,q2⟩:=hnt i' h h;rcases hor with e|⟨k,hk,e⟩
   ·exact q1 e
   ·exact q2 k hk e
  simp -implicitDefEqProofs only[go_sem,seval,hi',decide_false];repeat refine aI ?_
  refine bA (x6 hC hDv h2) ac rfl (by simp[af,V.low,hld]) hC.sane ?_;rintro _ K8 H8 hC8 hl8 ⟨rfl,hK8,hDv8⟩;obtain rfl:=hK8.symm;have hD8:=hC.call hC8 fun r e=>by subst e;rfl
  have ho8:=hC8.off;have hg8:=hDv8.g;unfold DeS.cs at hg8;dsimp only[m9] at hg8;have hld8:=hC8.lt hDv8.kd;obtain⟨s1,s2⟩:=hDv8.set hC8 (D':=vW here own seed best) rfl rfl;have hDv9:=s2;unfold DeS.cs at s1 hDv9;dsimp only[vW,m9] at s1 hDv9;simp -implicitDefEqProofs only[go_sem,seval,hg8];repeat refine aI ?_
  have ho9:=ho8.trans s1.off;refine Ex.of (hD8.call s1 fun r e=>by subst e;rfl) (by simp[af,V.low,hld8]) (.inr ⟨hntw,⟨d,arr,ps,H.length,bk,oX (arN L L.length)⟩,rfl,rfl,hI.len,⟨⟨_,_,hDv9⟩,?_,fun i' h1 h2=>?_,hN.bkt.off ho9 ae ae,hN.pth.off ho9 (fF hC8.len s1.len) ae⟩⟩)
  ·show ps.length=(gX L).length;rw[qH];exact hI.len
  ·have h1:i'<ps.length:=h1;have h2:i'<(gX L).length:=h2;rw[qH] at h2;show PeerIn _ _ jj i' d ps[i'] (gX L)[i'];rw[wm];exact(hI.peer i' h1 h2).off ho9 ae ae ae ae ae ae
 have hi':(i:Int)<(L.length:Int):=aa;obtain⟨pb,hrow,hgpb,hkpb⟩:=hPi.row i hi;have hpok:=hok _ (dd hi);have hpl:=hpok.pub;have hkl:=hpok.psk;have hga:=hPi.here;have hlen:=hPi.len;have hmul:i*4+4<=L.length*4:=aa;have hz:Hi.length<(Hi++[bK [.str [],.str [],.u32 0#32,.nilSlice]]).length:=ae;simp -implicitDefEqProofs only[go_sem,seval,hi',decide_true,hga,hrow,hlen,bG hz];repeat refine aI ?_
 have hlai:=aU hga;have hlpb:=aU hgpb;have hbox:=hC.boxed (zs:=[.str [],.str [],.u32 0#32,.nilSlice]) (ys:=[.str L[i].pub,.str L[i].psk,.u32 L[i].at_,.slice pb 0 1 2]) (by simp[af,V.low]) (by simp[af,V.low];omega);have hboxF:=(hC.start (fun _=>False)).boxed (zs:=[.str [],.str [],.u32 0#32,.nilSlice]) (ys:=[.str L[i].pub,.str L[i].psk,.u32 L[i].at_,.slice pb 0 1 2]) (by simp[af,V.low]) (by simp[af,V.low];omega);have hb4:=lF (H:=Hi) (x:=bK [.str [],.str [],.u32 0#32,.nilSlice]) (y:=bK [.str L[i].pub,.str L[i].psk,.u32 L[i].at_,.slice pb 0 1 2]);have hgpb4:=(hboxF.getN hkpb hlpb).trans hgpb;have hI4:=hI.off hboxF.off hboxF.len nX;have hP4:=hP.keep hbox;have hNK:Ki Hi.length=none:=hC.fresh _ (aH _);have hlT:((Hi++[bK [.str [],.str [],.u32 0#32,.nilSlice]]).set Hi.length (bK [.str L[i].pub,.str L[i].psk,.u32 L[i].at_,.slice pb 0 1 2])).length=Hi.length+1:=ae;have hlHi:=hC.len;generalize ((Hi++[bK [.str [],.str [],.u32 0#32,.nilSlice]]).set Hi.length (bK [.str L[i].pub,.str L[i].psk,.u32 L[i].at_,.slice pb 0 1 2]))=T1 at*;generalize Hi.length=NN at*;have ret_:∀ (e:Int) (t:List (Nat×V)) (K2:RK) (H2:List (Option Blk)),e≠0->Cx K H (qD jj) K2 H2->qR own L->Ex K H (qD jj) (yP jj L here own seed best) (.tup [.nilPtr,.i64 e]) ⟨t,H2⟩:=fun e t K2 H2 he hC ht=>Ex.of (s:=⟨t,H2⟩) hC (by simp[af,V.low]) (.inl ⟨ht,e,he,rfl⟩)
 have hpl':(L[i].pub.length:Int)=32:=aa;have hkl':(L[i].psk.length:Int)=32:=aa;simp -implicitDefEqProofs only[go_sem,seval,hpl',hkl',not_true,not_false_eq_true,hb4,decide_false];repeat refine aI ?_
 have hldT:d<T1.length:=hbox.lt hI4.kd;have hldT2:d<NN+1:=aa;by_cases hpp:L[i].pub=aK own
 ·simp -implicitDefEqProofs only[go_sem,seval,hpp,decide_true];repeat refine aI ?_
  exact ret_ _ _ _ _ ah hbox ⟨i,hi,.inl hpp⟩
 simp -implicitDefEqProofs only[go_sem,seval,hpp,decide_false,not_false_eq_true];repeat refine aI ?_
 refine bA (abC hbox hI4 hM8 L[i].pub) ac rfl (by simp[af,V.low,hldT]) hbox.sane ?_;rintro _ K5 H5 hC5 hl5 ⟨hv5,hK5,hH5⟩;obtain rfl:=hK5.symm;obtain rfl:=hH5.symm;rcases hv5 with⟨rfl,hno⟩|⟨⟨pq,po,rfl⟩,i',q1,q2,q3⟩
 rotate_left
 ·simp -implicitDefEqProofs only[go_sem,seval];repeat refine aI ?_
  exact ret_ _ _ _ _ ah hbox ⟨i,hi,.inr ⟨i',q1,q3⟩⟩
 simp -implicitDefEqProofs only[go_sem,seval,hb4];repeat refine aI ?_
 refine dz 2 ?_;have hg5:=hI4.g;dsimp only[m9] at hg5;have hz5:T1.length<(T1++[bK [.u32 0#32,.i64 0]]).length:=ae;have hg6:=(lc (x:=bK [.u32 0#32,.i64 0]) (y:=bK [.u32 L[i].addr,.i64 24]) hldT).trans hg5;simp -implicitDefEqProofs only[go_sem,seval,hgpb4,bG hz5,hg6];repeat refine aI ?_
 have hNl5:NN<T1.length:=aa;have hI6:=hI4.off ((hbox.start (fun _=>False)).boxed (zs:=[.u32 0#32,.i64 0]) (ys:=[.u32 L[i].addr,.i64 24]) (by simp[af,V.low]) (by simp[af,V.low])).off ae nX;have hD6:=hbox.boxed (zs:=[.u32 0#32,.i64 0]) (ys:=[.u32 L[i].addr,.i64 24]) (by simp[af,V.low]) (by simp[af,V.low]);have hb56:=(lc (x:=bK [.u32 0#32,.i64 0]) (y:=bK [.u32 L[i].addr,.i64 24]) hNl5).trans hb4;have hb6:=lF (H:=T1) (x:=bK [.u32 0#32,.i64 0]) (y:=bK [.u32 L[i].addr,.i64 24]);have hlT6:((T1++[bK [.u32 0#32,.i64 0]]).set T1.length (bK [.u32 L[i].addr,.i64 24])).length=T1.length+1:=ae;generalize ((T1++[bK [.u32 0#32,.i64 0]]).set T1.length (bK [.u32 L[i].addr,.i64 24]))=T6 at*;refine cN (Pu hD6 hI6.tr L[i].addr 24 i aa aa aa hpok.addr aa aa (hfree i hi)) ac rfl (by simp[af,V.low,xI hD6 hI6.tr.path]) hD6.sane ?_;rintro _ K7 H7 hC7 hl7 ⟨rfl,hT7⟩;simp -implicitDefEqProofs only[go_sem,seval];repeat refine aI ?_
 have hD7:=hD6.call hC7 fun r e=>by subst e;rfl
 have ho7:=hC7.off;have hlT6:T6.length=T1.length+1:=hlT6;have hI6d:=hI6.kd;have hT7':=hT7;have hI7:DnI K7 H7 jj d H.length bk (m9 here own seed best) av ps L i (i+1):=by
  rw[<-XT hi] at hT7;refine⟨ho7.k _ _ hI6.kd ae,(ho7.h _ _ hI6.kd ae).trans hI6.g,hI6.o,?_,hI6.len,hI6.iL,fun i' q1 q2=>(hI6.peer i' q1 q2).off ho7 ae ae ae ae ae ae,hT7,hI6.bkt.off ho7 ae ae⟩;rcases hI6.av with h1|⟨arr,h1,h2,h3,h4⟩
  ·exact .inl h1
  ·exact .inr ⟨arr,h1,h2,ho7.k _ _ h3 ae,(ho7.h _ _ h3 ae).trans h4⟩
 have hb7:=(hC7.getN hNK aa).trans hb56;have hP7:PaAt K7 H7 a L cs:=hP.keep hD7;have hl7:=hC7.len;have hg7:=hI7.g;dsimp only[m9] at hg7;have hld7:=hC7.lt hI7.kd;have hlN7:=aU hb7;have nxt:∀ (i':Nat) (h:i'<i+1) (h2:i'<L.length),L[i'].pub≠aK own/\∀ k (h:k<i'),(L[k]'(aa)).pub≠L[i'].pub:=fun i' h h2=>by
  by_cases hlt:i'<i
  ·exact hnt i' hlt h2
  ·obtain rfl:i'=i:=aa;exact⟨hpp,fun k hk=>hno k hk aa⟩
 rcases hI7.av with⟨rfl,rfl⟩|⟨arr,rfl,hi0,hka,hga7⟩
 ·obtain rfl:(0:Nat)=i:=hI7.len;simp -implicitDefEqProofs only[go_sem,seval,hg7,hb7];repeat refine aI ?_
  refine cN (JA hC7 jj 0) ac rfl (by simp[af]) hC7.sane ?_;rintro _ K8 H8 hC8 hl8 ⟨rfl,hk8,hg8t,hll8⟩;have hD8:=hD7.call hC8 fun r e=>e.elim
  have hI8:=hI7.off hC8.off hC8.len nX;have hg8:=hI8.g;dsimp only[m9] at hg8;simp -implicitDefEqProofs only[go_sem,seval];repeat refine aI ?_
  have hld8:=hC8.lt hI8.kd;have hl8:H7.length<=H8.length:=hC8.len;simp -implicitDefEqProofs only[go_sem,seval,hg8,ub hld8];repeat refine aI ?_
  refine And.intro ?_ ?_
  ·refine eC (fw H7.length) [([],[]),([],[]),([],[]),([],[]),([0],[]),([],[]),([],[]),([],[]),([0],[]),([],[]),([0],[]),([],[]),([0],[]),([0,1],[1]),([],[]),([],[1]),([],[1]),([1],[1]),([],[]),([],[]),([0],[0])] ac (by simp only[eO,eG,bh,mz,all_cons,pO,ff,w8,dU hld7,dU hlN7,J7 hl8,ag1 hl8,J7 (show H7.length<=H8.length+1+1 by omega),fC,kN,and_true])
  obtain⟨hG,hI9⟩:=DnI.add (a:=none) hD8 hI8 hi rfl rfl hk8 hg8t (fun _ e=>by cases e) (W:=H8.length+1+1) rfl;refine bx (j-1) ⟨[(12,.str (aK own)),(14,.ptr d 0),(59,.slice a 0 L.length 4),(60,.i64 L.length),(61,.i64 ((0+1:Nat):Int))],_⟩ aa (by simp[St.get,aj]) rfl (fun _ _ h=>h) ⟨0+1,_,_,_,_,aa,hG,hP.keep hG,hI9,nxt,rfl⟩
 ·simp -implicitDefEqProofs only[go_sem,seval,hg7,hb7];repeat refine aI ?_
  refine cN (JA hC7 jj i) ac rfl (by simp[af]) hC7.sane ?_;rintro _ K8 H8 hC8 hl8 ⟨rfl,hk8,hg8t,hll8⟩;have hD8:=hD7.call hC8 fun r e=>e.elim
  have hI8:=hI7.off hC8.off hC8.len nX;have hg8:=hI8.g;dsimp only[m9] at hg8;have hgp:=(hC8.off.h _ _ hka id).trans hga7;have hka8:=hC8.off.k _ _ hka id;simp -implicitDefEqProofs only[go_sem,seval];repeat refine aI ?_
  have hld8:=hC8.lt hI8.kd;have hl8:H7.length<=H8.length:=hC8.len;have w1:=dw (i:=i) aa;have hlps:ps.length=i:=hI7.len;have hlpa:=hC8.lt hka8;have hlpa7:=hC7.lt hka;have hne:arr≠d:=fun e=>by have :=hI7.kd;rw[<-e,hka] at this;cases this
  have hNpa:NN≠arr:=fun e=>by have :=hC7.stayN hNK aa;rw[e,hka] at this;cases this
  have hlpm:(ps.map (fun p=>V.ptr p 0)).length=i:=by rw[ba];exact hlps
  rw[hlps] at hg7 hg8;simp -implicitDefEqProofs only[go_sem,seval,hg8,hgp,hlps,m7 hlpa,wu hld8 hne,ar (show(ps.map (fun p=>V.ptr p 0)).length<=i by omega)];repeat refine aI ?_
  refine And.intro ?_ ?_
  ·refine eC (iD arr H7.length) [([],[]),([],[]),([],[]),([],[]),([0],[]),([],[]),([],[]),([],[]),([0],[]),([],[]),([0],[]),([],[]),([0],[]),([0,1,2],[1]),([],[]),([],[1]),([],[1]),([1,2],[1,2]),([],[]),([],[]),([0],[0])] ac (by simp only[eO,eG,bh,aas,all_cons,pO,ff,wx,om hld7 hne.symm,om hlN7 hNpa,ahd,PF hlpa7,BO hl8 hlpa7,NI hl8 hlpa7,BO (show H7.length<=H8.length+1+1 by omega) hlpa7,fC,kN,yU,and_true])
  obtain⟨hG,hI9⟩:=DnI.add (a:=some arr) hD8 hI8 hi rfl rfl hk8 hg8t (fun _ e=>by cases e;exact hka8) (W:=H8.length+1+1) rfl;rw[gD] at hG hI9;refine bx (j-1) ⟨[(12,.str (aK own)),(14,.ptr d 0),(59,.slice a 0 L.length 4),(60,.i64 L.length),(61,.i64 ((i+1:Nat):Int))],_⟩ aa (by simp[St.get,aj,w1]) rfl (fun _ _ h=>h) ⟨i+1,_,_,_,_,aa,hG,hP.keep hG,hI9,nxt,rfl⟩
end
end
section
section
variable {K K0 K':RK}{H H0 H':List (Option Blk)}{Q0 Q:Rl->Prop}{i j j' jj n m x W b d pb bk tm a:Nat}{c:NoK}{N N':NoS}{k:LnK}{v av:V}{D:DeS}{ps:List Nat}{L:List PaS}{r:Rl}
theorem Vx (hC0:Cx K H (qD jj) K H)(here:BitVec 32)(h0:here≠0#32)(own seed:List ai)(h1:own.length=32)(h2:seed.length=32)(best:Int)(hb:best=1\/best=2){cs:List V}(hP:PaAt K H a L cs)(hM0:0<L.length)(hM8:L.length<=8)(hok:∀ p∈L,p.ok)(hfree:sk L)(r0 b1 c5:Code)(hc:f27.body=some (.seq r0 (.seq b1 c5))):
  vc prog H.length f27.ntmps (.seq r0 (.seq b1 c5)) (eW prog f27 (Ex K H (qD jj) (yP jj L here own seed best))) ⟨gU [.u32 here,.str own,.str seed,.i64 best,.slice a 0 L.length 4] 0,H⟩:=by
 have main:=fun {t:List (Nat×V)} (e0:aj t 0= .u32 here) (e1:aj t 1= .str own) (e2:aj t 2= .str seed) (e3:aj t 3= .i64 best) (e4:aj t 4= .slice a 0 L.length 4)=>
  UK hC0 here own seed h1 h2 best hP hM0 hM8 hok hfree e0 e1 e2 e3 e4 r0 b1 c5 hc
 simp only[f27,cf,Code.seq.injEq] at hc;obtain⟨rfl,rfl,hc⟩:=hc;clear hc;have q1:(own.length:Int)=32:=aa;have q2:(seed.length:Int)=32:=aa;have q3:¬ (8:Int)<(L.length:Int):=aa;refine ak ?_;simp -implicitDefEqProofs only[go_sem,seval,h0,q1,q2];repeat refine aI ?_
 rcases hb with rfl|rfl
 ·simp -implicitDefEqProofs only[go_sem,seval,q3,not_true,decide_false];repeat refine aI ?_
  exact main rfl rfl rfl rfl rfl
 ·simp -implicitDefEqProofs only[go_sem,seval,q3,not_true,not_false_eq_true,decide_false];repeat refine aI ?_
  exact main rfl rfl rfl rfl rfl
theorem aay (l:Cx K0 H0 Q K H)(here:BitVec 32)(h0:here≠0#32)(own seed:List ai)(h1:own.length=32)(h2:seed.length=32)(best:Int)(o:best=1\/best=2){cs:List V}(q:PaAt K H a L cs)(f:0<L.length)(g:L.length<=8)(h:∀ p∈L,p.ok)(e:sk L)(jj:Nat):
  ∃ v K' H',Dx prog 27 [.u32 here,.str own,.str seed,.i64 best,.slice a 0 L.length 4] K H (qD jj) v K' H'/\yP jj L here own seed best v K' H':=
 bV ac (fn:=f27) func27 rfl am (Vx (l.start _) here h0 own seed h1 h2 best o q f g h e _ _ _ rfl)
theorem ZT (g:Cx K0 H0 Q K H)(here:BitVec 32)(h0:here≠0#32)(own seed:List ai)(h1:own.length=32)(h2:seed.length=32)(best:Int)(q:¬ (best=1\/best=2))(s:a<H.length)(n:Nat):
  ∃ v K' H',Dx prog 27 [.u32 here,.str own,.str seed,.i64 best,.slice a 0 n 4] K H (fun _=>False) v K' H'/\v= .tup [.nilPtr,.i64 1]:=by
 have h:(own.length:Int)=32:=aa;have l:(seed.length:Int)=32:=aa;have o:best≠1:=aa;have p:best≠2:=aa;refine bV (Q:=fun _=>False) (Post:=fun v K' H'=>v= .tup [.nilPtr,.i64 1]) ac (fn:=f27) func27 rfl am (ak ?_);simp -implicitDefEqProofs only[go_sem,seval,h0,h,l,o,p,ne_eq,not_true,not_false_eq_true,decide_true];repeat refine aI ?_
 exact Ex.of (g.start _) (by simp[af,V.low]) rfl
end
end
section
noncomputable def dq (seed:List ai) (n:Int):List ai:=(tP 1 seed [BitVec.ofInt 8 n] 1).getD 0 []
theorem lS {seed:List ai}(h:seed.length=32)(n:Int):aq prog 25 [.i64 1,.str seed,.str [BitVec.ofInt 8 n],.i64 1] [] (.tup [.slice 0 0 1 1,.i64 0]) [bK [.str (dq seed n)]]/\(dq seed n).length=32:=by
 obtain⟨h1,h2,f⟩:=yw (x:=1) (.inl rfl) seed [BitVec.ofInt 8 n] aa ae (n:=1) ah ah;unfold dq;obtain⟨a,e,g⟩:=J6 h2 f;rw[e] at h1 |-
 exact⟨h1,g⟩
noncomputable def jO (seed:List ai) (i k:Nat):PaS:=⟨aK (dq seed k),dq seed (20+(i:Int)+(k:Int)),BitVec.ofInt 32 (ao ((k:Int)+1)),167772160#32+BitVec.ofInt 32 (k:Int)<<<8,dq seed k⟩
noncomputable def eQ (seed:List ai) (i:Nat):Nat->List PaS
 |0=>[]
 |k+1=>if k=i then eQ seed i k else eQ seed i k++[jO seed i k]
section
variable {K K0 K':RK}{H H0 H':List (Option Blk)}{Q0 Q:Rl->Prop}{i j j' jj n m x W b d pb bk tm a cnt n0 s:Nat}{c:NoK}{N N':NoS}{k:LnK}{v av:V}{D:DeS}{ps:List Nat}{L:List PaS}{r:Rl}
theorem Ag (g:Cx K0 H0 Q0 K H){seed:List ai}(h:seed.length=32)(e:ag H s=bK [.str seed])(n:Int):
  ∃ v K' H',Dx prog 24 [.i64 n,.ptr s 0] K H (fun _=>False) v K' H'/\(v= .str (dq seed n)/\K'=K):=by
 have l:=aU e;obtain⟨o,-⟩:=lS h n;generalize dq seed n=f at*;refine bV (Q:=fun _=>False) (Post:=fun v K' H'=>v= .str f/\K'=K) ac (fn:=f24) func24 rfl am (ak ?_);simp -implicitDefEqProofs only[go_sem,seval,e];repeat refine aI ?_
 refine aS [] (o) ac ae rfl ae aM ae ae ae ae ae ?_;simp -implicitDefEqProofs only[go_sem,seval];repeat refine aI ?_
 exact Ex.of (((g.start (fun _=>False)).junk (vs:=[.u8 (BitVec.ofInt 8 n)]) (mm:=none) (by simp[af,V.low])).junk (vs:=[.str f]) (mm:=none) (by simp[af,V.low])) trivial ⟨rfl,rfl⟩
def PrsX (n0:Nat)(K:RK)(H:List (Option Blk))(v:V)(L:List PaS):Prop:=(L=[]/\v= .nilSlice)\/∃ f cs,v= .slice f 0 L.length 4/\0<L.length/\n0<=f/\PaAt K H f L cs
theorem PrsX.keep (h:PrsX n0 K H v L)(f:Cx K H Q K' H'):PrsX n0 K' H' v L:=by
 rcases h with h|⟨g,cs,e,h0,h1,l⟩
 ·exact .inl h
 ·exact .inr ⟨g,cs,e,h0,h1,l.keep f⟩
theorem Cx.getS (h:Cx K H Q K' H'){b:Nat}{B:Blk}(e:ag H b=some B)(f:K b=none):ag H' b=some B/\K' b=none:=⟨(h.getN f (aU e)).trans e,h.stayN f (aU e)⟩
theorem adw (hC:Cx K0 H0 qT K H){seed:List ai}(hs:seed.length=32)(hsb:ag H s=bK [.str seed])(hKs:K s=none){v:V}(hP:PrsX H0.length K H v L)(hcnt:L.length<=8){i k:Nat}(hi:i<=10)(hk:k<=10)
  {t:List (Nat×V)} (h6:aj t 6= .fn 24 [] [.ptr s 0]) (h8:aj t 8= .i64 i) (h10:aj t 10=v) (h11:aj t 11= .i64 k) {R:Exit->St->Prop} {r0 s1 r3 r4 r5 r6 c6 r7 r8 r9 r10 c10 r11 s12 r13 r14 r15 r16 s17 r19 r20 c21:Code} {b0 b1 b2 b3:Nat}
  (hc:f16.body=some (.seq r0 (.seq s1 (.seq r3 (.seq r4 (.seq (.seq r5 (.block b0 (.loop (.seq r6 (.seq c6 (.seq (.block b1 (.seq r7 (.seq r8 (.seq (.seq r9 (.block b2 (.loop (.seq r10 (.seq c10 (.seq (.block b3 (.seq r11 (.seq s12 (.seq r13 r14)))) r15)))))) (.seq r16 (.seq s17 r19)))))) r20)))))) c21))))))
  (hR:∀ (t':List (Nat×V)) (v':V) (K':RK) (H':List (Option Blk)),Cx K0 H0 qT K' H'->(∀ b r,K b=some r->K' b=some r/\ag H' b=ag H b)->H.length<=H'.length->(∀ b,K b=none->K' b=none)->PrsX H0.length K' H' v' (L++[jO seed i k])->(∀ b B,ag H b=some B->B.cs.length<4->ag H' b=some B)->aj t' 10=v'->(∀ j,j<47->j≠10->j≠12->j≠13->aj t' j=aj t j)->R .normal ⟨t',H'⟩):
  vc prog H0.length f16.ntmps (.seq r13 r14) R ⟨t,H⟩:=by
 simp only[f16,cf,Code.seq.injEq,Code.block.injEq,Code.loop.injEq] at hc;obtain⟨-,-,-,-,⟨⟨-,-,-,-,⟨⟨-,-,-,⟨⟨-,-,-,-,⟨⟨-,-,-,rfl,rfl⟩,-⟩⟩,-,-,-⟩⟩,-⟩⟩,-⟩⟩:=hc;have hls:=aU hsb;have w5:ao (20+(i:Int))=20+(i:Int):=az aa aa;have w6:ao (20+(i:Int)+(k:Int))=20+(i:Int)+(k:Int):=az aa aa;have hpk:aK (dq seed k)=cm (dq seed k) basePt:=rfl;have hPb:aG prog 26 [.str (dq seed k)] (.tup [.str (aK (dq seed k)),.i64 0]):=vu _ (lS hs _).2;have hK1:=(lS hs (k:Int)).2;have hpr:jO seed i k=⟨aK (dq seed k),dq seed (20+(i:Int)+(k:Int)),BitVec.ofInt 32 (ao ((k:Int)+1)),167772160#32+BitVec.ofInt 32 (k:Int)<<<8,dq seed k⟩:=rfl;have hX1:=Ag hC hs hsb (k:Int);refine ak ?_;simp -implicitDefEqProofs only[go_sem,seval,h6,h11];repeat refine aI ?_
 refine bA (hX1) ac rfl (by simp[af,V.low,hls]) hC.sane ?_;rintro _ K1 H1 hC1 hl1 ⟨rfl,hK1⟩;obtain rfl:=hK1.symm;have hD1:=hC.call hC1 fun _ h=>h.elim
 obtain⟨hsb1,-⟩:=hC1.getS hsb hKs;have hX2:=Ag hC1 hs hsb1 (20+(i:Int)+(k:Int));generalize aK (dq seed k)=pu at*;generalize dq seed (20+(i:Int)+(k:Int))=k2 at*;simp -implicitDefEqProofs only[go_sem,seval];repeat refine aI ?_
 refine au (hPb) ?_;simp -implicitDefEqProofs only[go_sem,seval];repeat refine aI ?_
 simp -implicitDefEqProofs only[go_sem,seval,h6,h8,h10,h11,w5,w6];repeat refine aI ?_
 refine bA (hX2) ac rfl (by simp[af,V.low,aU hsb1]) hC1.sane ?_;rintro _ K2 H2 hC2 hl2 ⟨rfl,hK2⟩;obtain rfl:=hK2.symm;have hD2:=hD1.call hC2 fun _ h=>h.elim
 have hX12:=hC1.call hC2 fun _ h=>h
 have hP2:=hP.keep hX12;have hlen0:=hC.len;have hl12:=hX12.len;have w1:ao ((k:Int)+1)=((k+1:Nat):Int):=dw aa;have hold:∀ b r,K b=some r->ag H2 b=ag H b:=fun b r e=>hX12.get e (hC.lt e) id
 have hoN:∀ b B,ag H b=some B->ag H2 b=some B:=fun b B e=>(hX12.keep b (aU e) fun _ _ h=>h).trans e
 rcases hP2 with⟨rfl,rfl⟩|⟨pa,cs,rfl,hc0,hpa0,hPA⟩
 ·simp -implicitDefEqProofs only[go_sem,seval,h11];repeat refine aI ?_
  have hD:=((hD2.junk (vs:=[.u32 (167772160#32+BitVec.ofInt 32 ↑k<<<8),.i64 24]) (mm:=none) (by simp[af,V.low])).junk (vs:=[.str pu,.str k2,.u32 (BitVec.ofInt 32 (ao (↑k+1))),.slice H2.length 0 1 2]) (mm:=none) (by simp[af,V.low];omega)).junk (vs:=[.str pu,.str k2,.u32 (BitVec.ofInt 32 (ao (↑k+1))),.slice H2.length 0 1 2]) (mm:=none) (by simp[af,V.low];omega);refine hR _ (.slice (H2.length+1+1) 0 1 4) _ _ hD (fun b r e=>⟨e,(ub (hC2.lt e)).trans (hold b r e)⟩) (by simp;omega) (fun b e=>e) (.inr ⟨H2.length+1+1,_,rfl,ae,aa,⟨zj,hC2.fresh _ aa,ae,fun i' hi'=>?_⟩⟩) (fun b B hb _=>?_) (by simp -implicitDefEqProofs only[go_sem,seval]) (fun j g1 g2 g3 g4=>?_)
  ·obtain rfl:i'=0:=by simp at hi';omega
   rw[hpr];exact⟨H2.length,rfl,Cu,hC2.fresh _ (aH _)⟩
  ·have :=hoN b B hb;exact(ub (aU this)).trans this
  ·simp only[aj];repeat rw[if_neg aa]
 ·have hlpa:=aU hPA.here;have hlencs:=hPA.len;simp -implicitDefEqProofs only[go_sem,seval,h11,hPA.here,m7 hlpa,jC,ar (show cs.length<=L.length*4 by omega)];repeat refine aI ?_
  have hD:=(((hD2.junk (vs:=[.u32 (167772160#32+BitVec.ofInt 32 ↑k<<<8),.i64 24]) (mm:=none) (by simp[af,V.low])).junk (vs:=[.str pu,.str k2,.u32 (BitVec.ofInt 32 (ao (↑k+1))),.slice H2.length 0 1 2]) (mm:=none) (by simp[af,V.low];omega)).jcut hpa0).junk (vs:=cs++[.str pu,.str k2,.u32 (BitVec.ofInt 32 (ao (↑k+1))),.slice H2.length 0 1 2]) (mm:=none) (by
   rw[aY,aE,aE,oZ];exact⟨ma (by simp;omega) _ (hC2.sane pa _ hPA.here).1,by simp[af,V.low];omega⟩)
  have hother:∀ b B,ag H2 b=some B->B.cs.length<4->b≠pa:=fun b B hb hB e=>by
   subst e;rw[hPA.here] at hb;cases hb;have hB':cs.length<4:=hB;omega
  have hget2:∀ b,b<H2.length->b≠pa->ag ((H2++[bK [.u32 (167772160#32+BitVec.ofInt 32 ↑k<<<8),.i64 24]]++[bK [.str pu,.str k2,.u32 (BitVec.ofInt 32 (ao (↑k+1))),.slice H2.length 0 1 2]]).set pa none++[bK (cs++[.str pu,.str k2,.u32 (BitVec.ofInt 32 (ao (↑k+1))),.slice H2.length 0 1 2])]) b=ag H2 b:=fun b hb hne=>wu hb hne.symm
  have hnew:ag ((H2++[bK [.u32 (167772160#32+BitVec.ofInt 32 ↑k<<<8),.i64 24]]++[bK [.str pu,.str k2,.u32 (BitVec.ofInt 32 (ao (↑k+1))),.slice H2.length 0 1 2]]).set pa none++[bK (cs++[.str pu,.str k2,.u32 (BitVec.ofInt 32 (ao (↑k+1))),.slice H2.length 0 1 2])]) (H2.length+1+1)=bK (cs++[.str pu,.str k2,.u32 (BitVec.ofInt 32 (ao (↑k+1))),.slice H2.length 0 1 2]):=by
   have :=kj ((H2++[bK [.u32 (167772160#32+BitVec.ofInt 32 ↑k<<<8),.i64 24]]++[bK [.str pu,.str k2,.u32 (BitVec.ofInt 32 (ao (↑k+1))),.slice H2.length 0 1 2]]).set pa none) (bK (cs++[.str pu,.str k2,.u32 (BitVec.ofInt 32 (ao (↑k+1))),.slice H2.length 0 1 2])) [];simp only[aY,aE,qv] at this;exact this
  have hpath:ag ((H2++[bK [.u32 (167772160#32+BitVec.ofInt 32 ↑k<<<8),.i64 24]]++[bK [.str pu,.str k2,.u32 (BitVec.ofInt 32 (ao (↑k+1))),.slice H2.length 0 1 2]]).set pa none++[bK (cs++[.str pu,.str k2,.u32 (BitVec.ofInt 32 (ao (↑k+1))),.slice H2.length 0 1 2])]) H2.length=bK [.u32 (167772160#32+BitVec.ofInt 32 ↑k<<<8),.i64 24]:=by
   rw[cz ae,bW aa];exact yx
  refine hR _ (.slice (H2.length+1+1) 0 (L.length+1) 4) _ _ hD (fun b r e=>⟨e,(hget2 b (hC2.lt e) fun e2=>by rw[e2,hPA.no] at e;cases e).trans (hold b r e)⟩) (by simp;omega) (fun b e=>e) (.inr ⟨H2.length+1+1,_,ae,ae,aa,⟨hnew,hC2.fresh _ aa,by simp;omega,fun i' hi'=>?_⟩⟩) (fun b B hb hB=>?_) (by simp -implicitDefEqProofs only[go_sem,seval]) (fun j g1 g2 g3 g4=>?_)
  ·by_cases hlast:i'<L.length
   ·obtain⟨pb,q1,q4,q5⟩:=hPA.row i' hlast;rw[xa hlast];refine⟨pb,?_,(hget2 pb (aU q4) (hother pb _ q4 (by show 2<4;omega))).trans q4,q5⟩;rw[List.drop_append_of_le_length aa,xH (by rw[bU];omega)];exact q1
   ·obtain rfl:i'=L.length:=by simp at hi';omega
    rw[tj (aH _)];simp only[gf,Cq];rw[hpr];refine⟨H2.length,?_,hpath,hC2.fresh _ (aH _)⟩;rw[kg aa];rfl
  ·have :=hoN b B hb;exact(hget2 b (aU this) (hother b B this hB)).trans this
  ·simp only[aj];repeat rw[if_neg aa]
end
end
section
section
variable {K K0 K':RK}{H H0 H':List (Option Blk)}{Q0 Q:Rl->Prop}{i j j' jj n m x W b d pb bk tm a cnt n0 s Lb:Nat}{c:NoK}{N N':NoS}{k:LnK}{v av:V}{D:DeS}{ps xs:List Nat}{L:List PaS}{r:Rl}
def NdsX (n0 s Lb:Nat)(K:RK)(H:List (Option Blk))(f:V)(xs:List Nat):Prop:=(xs=[]/\f= .nilSlice)\/∃ na,f= .slice na 0 xs.length 1/\0<xs.length/\n0<=na/\na≠Lb/\na≠s/\K na=none/\ag H na=bK (xs.map fun x=> .ptr x 0)
theorem NdsX.keep {f:V}(h:NdsX n0 s Lb K H f xs)(g:Cx K H Q K' H'):NdsX n0 s Lb K' H' f xs:=by
 rcases h with h|⟨na,e,h0,h1,h2,l,o,p⟩
 ·exact .inl h
 ·obtain⟨g1,g2⟩:=g.getS p o;exact .inr ⟨na,e,h0,h1,h2,l,g2,g1⟩
noncomputable def xb (seed:List ai) (i:Nat) (best:Int) (L:List PaS):NoS:=⟨vW (BitVec.ofInt 32 (ao ((i:Int)+1))) (dq seed i) (dq seed ((i:Int)+10)) best,gX L,newB⟩
theorem SF (hK0:∀ b,K0 b=none)(hC:Cx K0 H0 qT K H){seed:List ai}(hs:seed.length=32)(hsb:ag H s=bK [.str seed])(hKs:K s=none){v:V}(hP:PrsX H0.length K H v L)(hM0:0<L.length)(hM8:L.length<=8)(hok:∀ p∈L,p.ok)(hfree:sk L){nv:V}(hLb:ag H Lb=bK [nv,.nilSlice])(hKL:K Lb=none)(hL0:H0.length<=Lb)(hLs:Lb≠s)(hNR:NdsX H0.length s Lb K H nv xs){i:Nat}(hi:i<=10)(best:Int)(hxs:xs.length<=8)
  {t:List (Nat×V)} (h6:aj t 6= .fn 24 [] [.ptr s 0]) (h7:aj t 7= .ptr Lb 0) (h8:aj t 8= .i64 i) (h9:aj t 9= .i64 best) (h10:aj t 10=v) {R:Exit->St->Prop} {r0 s1 r3 r4 r5 r6 c6 r7 r8 r9 r10 c10 r11 s12 r13 r14 r15 r16 s17 r19 r20 c21:Code} {b0 b1 b2 b3:Nat}
  (hc:f16.body=some (.seq r0 (.seq s1 (.seq r3 (.seq r4 (.seq (.seq r5 (.block b0 (.loop (.seq r6 (.seq c6 (.seq (.block b1 (.seq r7 (.seq r8 (.seq (.seq r9 (.block b2 (.loop (.seq r10 (.seq c10 (.seq (.block b3 (.seq r11 (.seq s12 (.seq r13 r14)))) r15)))))) (.seq r16 (.seq s17 r19)))))) r20)))))) c21))))))
  (hret:∀ (t':List (Nat×V)) (K':RK) (H':List (Option Blk)) (e:Int),Cx K0 H0 qT K' H'->e≠0->¬ (best=1\/best=2)\/qR (dq seed i) L->aj t' 4= .nilPtr->aj t' 5= .i64 e->R .ret ⟨t',H'⟩)
  (hR:∀ (t':List (Nat×V)) (nv':V) (K':RK) (H':List (Option Blk)) (x:Nat) (c:NoK),Cx K0 H0 qT K' H'->ag H' s=bK [.str seed]->K' s=none->ag H' Lb=bK [nv',.nilSlice]->K' Lb=none->NdsX H0.length s Lb K' H' nv' (xs++[x])->NdAt K' H' i x c (xb seed i best L) []->c.F=oX (arN L L.length)->c.ps.length=L.length->(best=1\/best=2)->¬ qR (dq seed i) L->Off (qD i) K H K' H'->H.length<=H'.length->(∀ j,j<75->j≠14->j≠15->aj t' j=aj t j)->R .normal ⟨t',H'⟩):
  vc prog H0.length f16.ntmps (.seq r16 (.seq s17 r19)) R ⟨t,H⟩:=by
 simp only[f16,cf,Code.seq.injEq,Code.block.injEq,Code.loop.injEq] at hc;obtain⟨-,-,-,-,⟨⟨-,-,-,-,⟨⟨-,-,-,⟨-,rfl,rfl,rfl⟩⟩,-⟩⟩,-⟩⟩:=hc;rcases hP with⟨e,-⟩|⟨pa,cs,rfl,hc0,hpa0,hPA⟩
 ·rw[e] at hM0;simp at hM0
 have hls:=aU hsb;have hlL:=aU hLb;have w5:ao ((i:Int)+10)=(i:Int)+10:=az aa aa;have hX1:=Ag hC hs hsb (i:Int);have hk1:=(lS hs (i:Int)).2;have hk2:=(lS hs ((i:Int)+10)).2;have hnn:xb seed i best L=⟨vW (BitVec.ofInt 32 (ao ((i:Int)+1))) (dq seed i) (dq seed ((i:Int)+10)) best,gX L,newB⟩:=rfl;refine ak ?_;simp -implicitDefEqProofs only[go_sem,seval,h6,h8];repeat refine aI ?_
 refine bA (hX1) ac rfl (by simp[af,V.low,hls]) hC.sane ?_;rintro _ K1 H1 hC1 hl1 ⟨rfl,hK1⟩;obtain rfl:=hK1.symm;have hD1:=hC.call hC1 fun _ h=>h.elim
 obtain⟨hsb1,-⟩:=hC1.getS hsb hKs;have hX2:=Ag hC1 hs hsb1 ((i:Int)+10);generalize dq seed (i:Int)=k1 at*;generalize dq seed ((i:Int)+10)=k2 at*;simp -implicitDefEqProofs only[go_sem,seval,h6,h8,w5];repeat refine aI ?_
 refine bA (hX2) ac rfl (by simp[af,V.low,aU hsb1]) hC1.sane ?_;rintro _ K2 H2 hC2 hl2 ⟨rfl,hK2⟩;obtain rfl:=hK2.symm;have hD2:=hD1.call hC2 fun _ h=>h.elim
 have hX12:=hC1.call hC2 fun _ h=>h
 have hPA2:=hPA.keep hX12;have hlpa:=aU hPA2.here;have w1:ao ((i:Int)+1)=((i+1:Nat):Int):=dw aa;have hne0:BitVec.ofInt 32 (ao ((i:Int)+1))≠0#32:=by
  rw[w1];have hi2:i=0\/i=1\/i=2\/i=3\/i=4\/i=5\/i=6\/i=7\/i=8\/i=9\/i=10:=aa;rcases hi2 with rfl|rfl|rfl|rfl|rfl|rfl|rfl|rfl|rfl|rfl|rfl<;>decide
 generalize BitVec.ofInt 32 (ao ((i:Int)+1))=here at*;simp -implicitDefEqProofs only[go_sem,seval,h9,h10];repeat refine aI ?_
 by_cases hb:best=1\/best=2
 rotate_left
 ·refine bA (ZT hC2 _ hne0 k1 k2 hk1 hk2 best hb hlpa L.length) ac rfl (by simp[af,V.low,hlpa]) hC2.sane ?_;rintro _ K3 H3 hC3 hl3 rfl;have hD3:=hD2.call hC3 fun _ h=>h.elim
  have he:(1:Int)≠0:=ah;simp -implicitDefEqProofs only[go_sem,seval,he,ne_eq,not_false_eq_true,decide_true];repeat refine aI ?_
  exact hret _ K3 H3 1 hD3 he (.inl hb) (by simp -implicitDefEqProofs only[go_sem,seval]) (by simp -implicitDefEqProofs only[go_sem,seval])
 refine bA (aay hC2 _ hne0 k1 k2 hk1 hk2 best hb hPA2 hM0 hM8 hok hfree i) ac rfl (by simp[af,V.low,hlpa]) hC2.sane ?_;rintro _ K3 H3 hC3 hl3 hv3;have hD3:=hD2.call hC3 fun _ _=>trivial
 have hX3:=(hX12.mono (Q2:=qD i) fun _ h=>h.elim).call hC3 fun _ h=>h
 rcases hv3 with⟨htw,e,he,rfl⟩|⟨htw,c,rfl,hcF,hcl,hN⟩
 ·simp -implicitDefEqProofs only[go_sem,seval,he,ne_eq,not_false_eq_true,decide_true];exact hret _ K3 H3 e hD3 he (.inr htw) (by simp -implicitDefEqProofs only[go_sem,seval]) (by simp -implicitDefEqProofs only[go_sem,seval])
 rw[<-hnn] at hN;obtain⟨hsb3,hKs3⟩:=hX3.getS hsb hKs;obtain⟨hLb3,hKL3⟩:=hX3.getS hLb hKL;have hNR3:NdsX H0.length s Lb K3 H3 nv xs:=hNR.keep hX3;have hlL3:=aU hLb3;have hdl:c.d<H3.length:=by obtain⟨_,_,hD⟩:=hN.dev;exact hC3.lt hD.kd
 have hlen3:=hX3.len;have hl3:=hD3.len;have hLne:Lb≠H3.length:=aa;have hls3:=aU hsb3;have hsne:s≠H3.length:=aa;have hNew:=hD3.new (.node i) (vs:=[.ptr c.d 0,.nilSlice]) (mm:=none) (by simp[af,V.low];omega);have hfr:∀ y,H3.length<y->cV K3 H3.length (some (.node i)) y=none:=fun y hy=>by rw[dW aa];exact hC3.fresh _ aa
 rcases hNR3 with⟨rfl,rfl⟩|⟨na,rfl,hx0,hna0,hnaL,hnas,hKna,hgna⟩
 ·simp -implicitDefEqProofs only[go_sem,seval,h7,hLb3,ub hlL3];repeat refine aI ?_
  have hS:=((hNew.junk (vs:=[.ptr H3.length 0]) (mm:=none) (by simp[af,V.low];omega)).junk (vs:=[.ptr H3.length 0]) (mm:=none) (by simp[af,V.low];omega)).jput (b:=Lb) hL0 (vs:=[.slice (H3.length+1+1) 0 1 1,.nilSlice]) (mm:=none) (by simp[af,V.low]);have hOf:Off (fun _=>False) K3 H3 (cV K3 H3.length (some (.node i))) ((H3++[bK [.ptr c.d 0,.nilSlice]]++[bK [.ptr H3.length 0]]++[bK [.ptr H3.length 0]]).set Lb (bK [.slice (H3.length+1+1) 0 1 1,.nilSlice])):=
   ⟨fun b r e _=>by rw[dW (by have :=hC3.lt e;omega)];exact e,fun b r e _=>by rw[bW (fun e2=>by rw[<-e2,hKL3] at e;cases e),ub (hC3.lt e)]⟩
  refine hR _ (.slice (H3.length+1+1) 0 1 1) _ _ H3.length c hS ((bW hLs _).trans ((ub hls3).trans hsb3)) (by rw[dW hsne];exact hKs3) (bG (by simp <;>omega) _) (by rw[dW hLne];exact hKL3) (.inr ⟨H3.length+1+1,rfl,ae,aa,aa,aa,hfr _ aa,(bW aa _).trans zj⟩) ⟨.nilSlice,gB,?_,.inl ⟨rfl,rfl⟩,hN.off hOf (by simp <;>omega) nX⟩ hcF hcl hb htw (hX3.off.trans (hOf.mono fun _ h=>h.elim)) (by simp <;>omega) (fun j g1 g2 g3=>?_)
  ·rw[bW hLne,cz ae,cz ae];exact eY
  ·simp only[aj];repeat rw[if_neg aa]
 ·have hlna:=aU hgna;simp -implicitDefEqProofs only[go_sem,seval,h7,hLb3,hgna,m7 hlna,wu hlL3 hnaL,jC,ar (show(xs.map fun x=>V.ptr x 0).length<=xs.length by simp)];repeat refine aI ?_
  have hnane:na≠H3.length:=aa;have hS:=(((hNew.junk (vs:=[.ptr H3.length 0]) (mm:=none) (by simp[af,V.low];omega)).jcut (b:=na) hna0).junk (vs:=(xs.map fun x=>V.ptr x 0)++[.ptr H3.length 0]) (mm:=none) (by
   rw[aY,aE,aE,oZ];exact⟨ma (by simp;omega) _ (hC3.sane na _ hgna).1,by simp[af,V.low];omega⟩)).jput (b:=Lb) hL0 (vs:=[.slice (H3.length+1+1) 0 (xs.length+1) 1,.nilSlice]) (mm:=none) (by simp[af,V.low])
  have hnew:ag ((H3++[bK [.ptr c.d 0,.nilSlice]]++[bK [.ptr H3.length 0]]).set na none++[bK ((xs.map fun x=>V.ptr x 0)++[.ptr H3.length 0])]) (H3.length+1+1)=bK ((xs.map fun x=>V.ptr x 0)++[.ptr H3.length 0]):=by
   have :=kj ((H3++[bK [.ptr c.d 0,.nilSlice]]++[bK [.ptr H3.length 0]]).set na none) (bK ((xs.map fun x=>V.ptr x 0)++[.ptr H3.length 0])) [];simp only[aY,aE,qv] at this;exact this
  have hOf:Off (fun _=>False) K3 H3 (cV K3 H3.length (some (.node i))) (((H3++[bK [.ptr c.d 0,.nilSlice]]++[bK [.ptr H3.length 0]]).set na none++[bK ((xs.map fun x=>V.ptr x 0)++[.ptr H3.length 0])]).set Lb (bK [.slice (H3.length+1+1) 0 (xs.length+1) 1,.nilSlice])):=
   ⟨fun b r e _=>by rw[dW (by have :=hC3.lt e;omega)];exact e,fun b r e _=>by rw[bW (fun e2=>by rw[<-e2,hKL3] at e;cases e),wu (hC3.lt e) (fun e2=>by rw[<-e2,hKna] at e;cases e)]⟩
  refine hR _ (.slice (H3.length+1+1) 0 (xs.length+1) 1) _ _ H3.length c hS ((bW hLs _).trans ((wu hls3 hnas).trans hsb3)) (by rw[dW hsne];exact hKs3) (bG (by simp <;>omega) _) (by rw[dW hLne];exact hKL3) (.inr ⟨H3.length+1+1,ae,ae,aa,aa,aa,hfr _ aa,?_⟩) ⟨.nilSlice,gB,?_,.inl ⟨rfl,rfl⟩,hN.off hOf (by simp <;>omega) nX⟩ hcF hcl hb htw (hX3.off.trans (hOf.mono fun _ h=>h.elim)) (by simp <;>omega) (fun j g1 g2 g3=>?_)
  ·rw[gD];exact(bW aa _).trans hnew
  ·rw[bW hLne,cz ae,bW hnane,cz ae];exact eY
  ·simp only[aj];repeat rw[if_neg aa]
end
end
section
def BP (seed:List ai)(bs:List Int)(i:Nat):Prop:=¬ (bs.getD i 0=1\/bs.getD i 0=2)\/qR (dq seed i) (eQ seed i bs.length)
def pE (seed:List ai)(bs:List Int):Prop:=seed.length≠32\/bs.length<2\/3<bs.length\/∃ i,i<bs.length/\BP seed bs i
noncomputable def jY (seed:List ai) (bs:List Int):LnS:=⟨(List.range bs.length).map fun i=>xb seed i (bs.getD i 0) (eQ seed i bs.length),[],List.replicate bs.length []⟩
def FOf (seed:List ai)(n:Nat)(cs:List NoK):Prop:=∀ i (h:i<cs.length),cs[i].F=oX (arN (eQ seed i n) (n-1))/\cs[i].ps.length=n-1
def sS (seed:List ai)(bs:List Int):V->RK->List (Option Blk)->Prop:=fun v K' H'=>
 (pE seed bs/\∃ e:Int,e≠0/\v= .tup [.nilPtr,.i64 e])\/(¬ pE seed bs/\∃ k:LnK,v= .tup [.ptr k.l 0,.i64 0]/\k.xs.length=bs.length/\LnAt K' H' k (jY seed bs)/\FOf seed bs.length k.cs)
theorem sJ (seed:List ai)(i:Nat):∀ k,(eQ seed i k).length=if k<=i then k else k-1
 |0=>by simp[eQ]
 |k+1=>by
  have ih:=sJ seed i k;unfold eQ;by_cases h:k=i
  ·rw[if_pos h,ih,if_pos aa,if_neg aa];omega
  ·rw[if_neg h,aE,ih,qv];by_cases h2:k<=i
   ·rw[if_pos h2,if_pos aa]
   ·rw[if_neg h2,if_neg aa];omega
theorem CE {seed:List ai}{i:Nat}{p:PaS}:∀ {k},p∈eQ seed i k->∃ f,f<k/\p=jO seed i f
 |0,h=>by simp[eQ] at h
 |k+1,h=>by
  unfold eQ at h;by_cases e:k=i
  ·rw[if_pos e] at h;obtain⟨f,h1,h2⟩:=CE h;exact⟨f,aa,h2⟩
  ·rw[if_neg e] at h;rcases eB.1 h with h|h
   ·obtain⟨f,h1,h2⟩:=CE h;exact⟨f,aa,h2⟩
   ·rw[lh] at h;exact⟨k,aa,h⟩
theorem WC {seed:List ai}(e:seed.length=32){i k:Nat}(f:k<3):(jO seed i k).ok:=by
 refine⟨qh _ _,(lS e _).2,?_⟩;show(167772160#32+BitVec.ofInt 32 (k:Int)<<<8)<<<24=0#32;have :k=0\/k=1\/k=2:=aa;rcases this with rfl|rfl|rfl<;>decide
theorem ED {p q:PaS}(h0:((((cp p.addr 24).foldl b9 ([leaf],0)).1.getD ((cp p.addr 24).foldl b9 ([leaf],0)).2 leaf).is=false))(h1:(((cp q.addr 24).foldl b9 (setA [leaf] p.addr 24 0,0)).1.getD ((cp q.addr 24).foldl b9 (setA [leaf] p.addr 24 0,0)).2 leaf).is=false):sk [p,q]:=fun i h=>by
 match i,h with
 |0,_=>exact h0
 |1,_=>exact h1
theorem IN {p:PaS}(h0:((((cp p.addr 24).foldl b9 ([leaf],0)).1.getD ((cp p.addr 24).foldl b9 ([leaf],0)).2 leaf).is=false)):sk [p]:=fun i h=>by
 match i,h with
 |0,_=>exact h0
theorem Xz (seed:List ai){i n:Nat}(e:n=2\/n=3)(hi:i<n):sk (eQ seed i n):=by
 rcases e with rfl|rfl
 ·have :i=0\/i=1:=aa;rcases this with rfl|rfl
  ·exact IN (p:=jO seed 0 1) ac
  ·exact IN (p:=jO seed 1 0) ac
 ·have :i=0\/i=1\/i=2:=aa;rcases this with rfl|rfl|rfl
  ·exact ED (p:=jO seed 0 1) (q:=jO seed 0 2) ac ac
  ·exact ED (p:=jO seed 1 0) (q:=jO seed 1 2) ac ac
  ·exact ED (p:=jO seed 2 0) (q:=jO seed 2 1) ac ac
theorem E8 (seed:List ai)(bs:List Int){j:Nat}(h:j<(jY seed bs).N.length):(jY seed bs).N[j]=xb seed j (bs.getD j 0) (eQ seed j bs.length):=by simp[jY]
theorem YK (seed:List ai)(bs:List Int){j:Nat}(h:j<(jY seed bs).all.length):(jY seed bs).all[j]=[]:=by simp[jY]
section
variable {K K0 K':RK}{H H0 H':List (Option Blk)}{Q0 Q:Rl->Prop}{i j j' jj n m x W b d pb bk tm a cnt n0 s Lb:Nat}{c:NoK}{N N':NoS}{k:LnK}{v av:V}{D:DeS}{ps xs:List Nat}{L:List PaS}{r:Rl}{all:List Pk}
theorem Nh (hC:Cx K H qT K H)(hK0:∀ b,K b=none)(seed:List ai){bv:V}{bs:List Int}{ro:Bool}(hb:(bs=[]/\bv= .nilSlice)\/∃ bb,bv= .slice bb 0 bs.length 1/\ag H bb=some ⟨ro,bs.map V.i64,none⟩)
  {r0 s1 r3 r4 r5 r6 c6 r7 r8 r9 r10 c10 r11 s12 r13 r14 r15 r16 s17 r19 r20 c21:Code} {b0 b1 b2 b3:Nat}
  (hc:f16.body=some (.seq r0 (.seq s1 (.seq r3 (.seq r4 (.seq (.seq r5 (.block b0 (.loop (.seq r6 (.seq c6 (.seq (.block b1 (.seq r7 (.seq r8 (.seq (.seq r9 (.block b2 (.loop (.seq r10 (.seq c10 (.seq (.block b3 (.seq r11 (.seq s12 (.seq r13 r14)))) r15)))))) (.seq r16 (.seq s17 r19)))))) r20)))))) c21)))))):
  vc prog H.length f16.ntmps (.seq r0 (.seq s1 (.seq r3 (.seq r4 (.seq (.seq r5 (.block b0 (.loop (.seq r6 (.seq c6 (.seq (.block b1 (.seq r7 (.seq r8 (.seq (.seq r9 (.block b2 (.loop (.seq r10 (.seq c10 (.seq (.block b3 (.seq r11 (.seq s12 (.seq r13 r14)))) r15)))))) (.seq r16 (.seq s17 r19)))))) r20)))))) c21))))) (eW prog f16 (Ex K H qT (sS seed bs))) ⟨gU [bv,.str seed] 0,H⟩:=by
 have R13:=@adw;have R16:=@SF;have hc0:=hc;simp only[f16,cf,Code.seq.injEq,Code.block.injEq,Code.loop.injEq] at hc;obtain⟨rfl,rfl,rfl,rfl,⟨⟨rfl,rfl,rfl,rfl,⟨⟨rfl,rfl,rfl,⟨⟨rfl,rfl,rfl,rfl,⟨⟨rfl,rfl,rfl,q13,q14⟩,rfl⟩⟩,q16,q17,q19⟩⟩,rfl⟩⟩,rfl⟩⟩:=hc;clear q13 q14 q16 q17 q19;have hC0:=hC.junk (vs:=[.str seed]) (mm:=none) (by simp[af,V.low]);have ret_:∀ (e:Int) (t:List (Nat×V)) (K2:RK) (H2:List (Option Blk)),e≠0->Cx K H qT K2 H2->pE seed bs->Ex K H qT (sS seed bs) (.tup [.nilPtr,.i64 e]) ⟨t,H2⟩:=fun e t K2 H2 he hC hl=>Ex.of (s:=⟨t,H2⟩) hC (by simp[af,V.low]) (.inl ⟨hl,e,he,rfl⟩)
 refine ak ?_;simp -implicitDefEqProofs only[go_sem,seval,eY];repeat refine aI ?_
 by_cases hs:seed.length=32
 rotate_left
 ·have hs':¬ (seed.length:Int)=32:=aa;simp -implicitDefEqProofs only[go_sem,seval,hs',not_false_eq_true,decide_true];repeat refine aI ?_
  exact ret_ _ _ _ _ ah hC0 (.inl hs)
 have hs':(seed.length:Int)=32:=aa;rcases hb with⟨rfl,rfl⟩|⟨bb,rfl,hgb⟩
 ·simp -implicitDefEqProofs only[go_sem,seval,hs',not_true,decide_false];repeat refine aI ?_
  exact ret_ _ _ _ _ ah hC0 (.inr (.inl ah))
 by_cases hn2:(bs.length:Int)<2
 ·simp -implicitDefEqProofs only[go_sem,seval,hs',hn2,not_true,decide_false,decide_true];repeat refine aI ?_
  exact ret_ _ _ _ _ ah hC0 (.inr (.inl aa))
 by_cases hn3:3<(bs.length:Int)
 ·simp -implicitDefEqProofs only[go_sem,seval,hs',hn2,hn3,not_true,decide_false,decide_true];repeat refine aI ?_
  exact ret_ _ _ _ _ ah hC0 (.inr (.inr (.inl aa)))
 simp -implicitDefEqProofs only[go_sem,seval,hs',hn2,hn3,not_true,decide_false];repeat refine aI ?_
 have hn23:bs.length=2\/bs.length=3:=aa;have hlbb:=aU hgb;have hC1:=hC0.junk (vs:=[.nilSlice,.nilSlice]) (mm:=none) (by simp[af,V.low]);have hKs:K H.length=none:=hK0 _;have hKL:K (H.length+1)=none:=hK0 _;have hsb1:ag (H++[bK [.str seed]]++[bK [.nilSlice,.nilSlice]]) H.length=bK [.str seed]:=yx;have hLb1:ag (H++[bK [.str seed]]++[bK [.nilSlice,.nilSlice]]) (H.length+1)=bK [.nilSlice,.nilSlice]:=BY;refine bq (fun j st=>∃ (i:Nat) (Hi:List (Option Blk)) (Ki:RK) (xs:List Nat) (cs:List NoK) (nv:V),i+j=bs.length/\xs.length=i/\cs.length=i/\Cx K H qT Ki Hi/\ag Hi H.length=bK [.str seed]/\Ki H.length=none/\ag Hi (H.length+1)=bK [nv,.nilSlice]/\Ki (H.length+1)=none/\NdsX H.length H.length (H.length+1) Ki Hi nv xs/\(∀ i' (h1:i'<xs.length) (h2:i'<cs.length),NdAt Ki Hi i' xs[i'] cs[i'] (xb seed i' (bs.getD i' 0) (eQ seed i' bs.length)) [])/\FOf seed bs.length cs/\(∀ i',i'<i->¬ BP seed bs i')/\
  st=⟨[(0,.slice bb 0 bs.length 1),(6,.fn 24 [] [.ptr H.length 0]),(7,.ptr (H.length+1) 0),(32,.slice bb 0 bs.length 1),(33,.i64 bs.length),(34,.i64 i)],Hi⟩) ?_ ?_
 ·exact bJ bs.length ⟨[(0,.slice bb 0 bs.length 1),(6,.fn 24 [] [.ptr H.length 0]),(7,.ptr (H.length+1) 0),(32,.slice bb 0 bs.length 1),(33,.i64 bs.length),(34,.i64 (0:Nat))],_⟩ (by simp[St.get,aj]) rfl (fun _ _ h=>h) ⟨0,_,K,[],[],.nilSlice,aa,rfl,rfl,hC1,hsb1,hKs,hLb1,hKL,.inl ⟨rfl,rfl⟩,fun i' h=>by simp at h,fun i' h=>by simp at h,fun i' h=>by omega,rfl⟩
 rintro j st ⟨i,Hi,Ki,xs,cs,nv,hij,hxl,hcl,hC,hsb,hKs,hLb,hKL,hNR,hnodes,hFO,hnb,rfl⟩-;by_cases hi:i<bs.length
 rotate_left
 ·have hi':¬ (i:Int)<(bs.length:Int):=aa;simp -implicitDefEqProofs only[go_sem,seval,hi',decide_false];repeat refine aI ?_
  have hil:i=bs.length:=aa;rcases hNR with⟨rfl,-⟩|⟨na,rfl,hx0,hna0,hnaL,hnas,hKna,hgna⟩
  ·exact absurd hxl (by simp;omega)
  have hT1:=hC.role (b:=na) hna0 (aU hgna) .nodes;have hT2:=hT1.role (b:=H.length+1) aa (aU hLb) .link;have hOf:Off (fun _=>False) Ki Hi (cV (cV Ki na (some .nodes)) (H.length+1) (some .link)) Hi:=
   ⟨fun b r e _=>by rw[dW (fun e2=>by rw[e2,hKL] at e;cases e),dW (fun e2=>by rw[e2,hKna] at e;cases e)];exact e,fun _ _ _ _=>rfl⟩
  refine Ex.of hT2 (by simp[af,V.low];exact aU hLb) (.inr ⟨?_,⟨H.length+1,na,xs,cs⟩,rfl,by show xs.length=_;omega,⟨gB,?_,⟨.nilSlice,hLb,.inl ⟨rfl,rfl⟩⟩,hgna,by show cs.length=xs.length;omega,?_,?_,fun j' g1 g2 g3 g4=>?_⟩,hFO⟩)
  ·rintro(h|h|h|⟨i',h,hb⟩)
   ·exact h hs
   ·omega
   ·omega
   ·exact hnb i' aa hb
  ·rw[dW hnaL];exact gB
  ·show((List.range bs.length).map _).length=xs.length;rw[ba,xx];omega
  ·show(List.replicate bs.length _).length=xs.length;rw[gv];omega
  ·have hnd:=(hnodes j' g1 g2).off hOf (aH _) id id nX;rw[E8,YK];exact hnd
 have hi':(i:Int)<(bs.length:Int):=aa;have hi0:(0:Int)<=(i:Int):=aa;have w1:=dw (i:=i) aa;have hgbi:=(hC.getN (hK0 bb) hlbb).trans hgb;have hbest:(bs.map V.i64).getD i V.junk=V.i64 (bs.getD i 0):=by rw[fJ V.i64 0,if_pos hi]
 simp -implicitDefEqProofs only[go_sem,seval,hi',decide_true,hgbi,hbest,hi,hi0,ba];repeat refine aI ?_
 have hxs3:xs.length<4:=aa;refine bq (fun j2 st=>∃ (k:Nat) (Hj:List (Option Blk)) (Kj:RK) (pv:V),k+j2=bs.length/\Cx K H qT Kj Hj/\Off (fun _=>False) Ki Hi Kj Hj/\Hi.length<=Hj.length/\(∀ b,Ki b=none->Kj b=none)/\ag Hj H.length=bK [.str seed]/\ag Hj (H.length+1)=bK [nv,.nilSlice]/\NdsX H.length H.length (H.length+1) Kj Hj nv xs/\PrsX H.length Kj Hj pv (eQ seed i k)/\
  st=⟨[(0,.slice bb 0 bs.length 1),(6,.fn 24 [] [.ptr H.length 0]),(7,.ptr (H.length+1) 0),(8,.i64 i),(9,.i64 (bs.getD i 0)),(10,pv),(32,.slice bb 0 bs.length 1),(33,.i64 bs.length),(34,.i64 i),(40,.i64 bs.length),(41,.i64 k)],Hj⟩) ?_ ?_
 ·exact bJ bs.length ⟨[(0,.slice bb 0 bs.length 1),(6,.fn 24 [] [.ptr H.length 0]),(7,.ptr (H.length+1) 0),(8,.i64 i),(9,.i64 (bs.getD i 0)),(10,.nilSlice),(32,.slice bb 0 bs.length 1),(33,.i64 bs.length),(34,.i64 i),(40,.i64 bs.length),(41,.i64 (0:Nat))],Hi⟩ (by simp[St.get,aj]) rfl (fun _ _ h=>h) ⟨0,Hi,Ki,.nilSlice,aa,hC,⟨fun _ _ e _=>e,fun _ _ _ _=>rfl⟩,aH _,fun _ e=>e,hsb,hLb,hNR,.inl ⟨rfl,rfl⟩,rfl⟩
 rintro j2 st ⟨k,Hj,Kj,pv,hkj,hCj,hOfj,hlj,hKnj,hsbj,hLbj,hNRj,hPj,rfl⟩-;by_cases hk:k<bs.length
 rotate_left
 ·have hk':¬ (k:Int)<(bs.length:Int):=aa;obtain rfl:k=bs.length:=aa;simp -implicitDefEqProofs only[go_sem,seval,hk',decide_false];repeat refine aI ?_
  have hpl:(eQ seed i bs.length).length=bs.length-1:=by rw[sJ,if_neg aa]
  refine R16 hK0 hCj hs hsbj (hKnj _ hKs) hPj aa aa (fun p hp=>by obtain⟨k',h1,rfl⟩:=CE hp;exact WC hs aa) (Xz seed hn23 hi) hLbj (hKnj _ hKL) aa aa hNRj (i:=i) aa (bs.getD i 0) aa (by simp -implicitDefEqProofs only[go_sem,seval]) (by simp -implicitDefEqProofs only[go_sem,seval]) (by simp -implicitDefEqProofs only[go_sem,seval]) (by simp -implicitDefEqProofs only[go_sem,seval]) (by simp -implicitDefEqProofs only[go_sem,seval]) hc0 (fun t' K' H' e hC' he hbad e4 e5=>ru ?_) (fun t' nv' K' H' x c hC' hsb' hKs' hLb' hKL' hNR' hnd hcF hcp hbo htw hOf' hl' hlk=>ru ?_)
  ·simp -implicitDefEqProofs only[go_sem,e4,e5];exact ret_ _ _ _ _ he hC' (.inr (.inr (.inr ⟨i,hi,hbad⟩)))
  ·have f0:=hlk 0 ah ah ah;have f6:=hlk 6 ah ah ah;have f7:=hlk 7 ah ah ah;have f32:=hlk 32 ah ah ah;have f33:=hlk 33 ah ah ah;have f34:=hlk 34 ah ah ah;simp -implicitDefEqProofs only[go_sem,seval] at f0 f6 f7 f32 f33 f34;simp -implicitDefEqProofs only[go_sem,seval,f34];refine bx (j-1) ⟨[(0,.slice bb 0 bs.length 1),(6,.fn 24 [] [.ptr H.length 0]),(7,.ptr (H.length+1) 0),(32,.slice bb 0 bs.length 1),(33,.i64 bs.length),(34,.i64 (i+1:Nat))],H'⟩ aa (by simp[St.get,aj,f0,f6,f7,f32,f33,w1]) rfl (fun _ _ h=>h) ⟨i+1,H',K',xs++[x],cs++[c],nv',aa,by simp[hxl],by simp[hcl],hC',hsb',hKs',hLb',hKL',hNR',fun i' h1 h2=>?_,fun i' h=>?_,fun i' h=>?_,rfl⟩
   ·by_cases hlt:i'<i
    ·rw[xa aa,xa aa];exact((hnodes i' aa aa).off hOfj hlj id id nX).off hOf' hl' (by simp[qD]) (by simp[qD]) (Ku aa)
    ·rw[aE,qv] at h1 h2;obtain rfl:i'=i:=aa;rw[tj aa,tj aa];simp only[hxl,hcl,gf,Cq];exact hnd
   ·by_cases hlt:i'<i
    ·rw[xa aa];exact hFO i' aa
    ·rw[aE,qv] at h;obtain rfl:i'=i:=aa;rw[tj aa];simp only[hcl,gf,Cq];rw[hpl] at hcF hcp;exact⟨hcF,hcp⟩
   ·by_cases hlt:i'<i
    ·exact hnb i' hlt
    ·obtain rfl:i'=i:=aa;rintro(h1|h1)
     ·exact h1 hbo
     ·exact htw h1
 have hk':(k:Int)<(bs.length:Int):=aa;have w2:=dw (i:=k) aa;by_cases hki:k=i
 ·obtain rfl:=hki;simp -implicitDefEqProofs only[go_sem,seval,hk',decide_true];repeat refine aI ?_
  refine bx (j2-1) ⟨[(0,.slice bb 0 bs.length 1),(6,.fn 24 [] [.ptr H.length 0]),(7,.ptr (H.length+1) 0),(8,.i64 k),(9,.i64 (bs.getD k 0)),(10,pv),(32,.slice bb 0 bs.length 1),(33,.i64 bs.length),(34,.i64 k),(40,.i64 bs.length),(41,.i64 (k+1:Nat))],Hj⟩ aa (by simp[St.get,aj,w2]) rfl (fun _ _ h=>h) ⟨k+1,Hj,Kj,pv,aa,hCj,hOfj,hlj,hKnj,hsbj,hLbj,hNRj,?_,rfl⟩;have e:eQ seed k (k+1)=eQ seed k k:=if_pos rfl;rw[e];exact hPj
 have hki':¬ (k:Int)=(i:Int):=aa;simp -implicitDefEqProofs only[go_sem,seval,hk',hki',decide_true,decide_false];repeat refine aI ?_
 have hpl:(eQ seed i k).length<=8:=by rw[sJ];split <;>omega
 refine R13 hCj hs hsbj (hKnj _ hKs) hPj hpl (i:=i) (k:=k) aa aa (by simp -implicitDefEqProofs only[go_sem,seval]) (by simp -implicitDefEqProofs only[go_sem,seval]) (by simp -implicitDefEqProofs only[go_sem,seval]) (by simp -implicitDefEqProofs only[go_sem,seval]) hc0 fun t' v' K' H' hC' hof' hl' hkn' hP' hkeep e10 hlk=>ru ?_
 have f0:=hlk 0 ah ah ah ah;have f6:=hlk 6 ah ah ah ah;have f7:=hlk 7 ah ah ah ah;have f8:=hlk 8 ah ah ah ah;have f9:=hlk 9 ah ah ah ah;have f32:=hlk 32 ah ah ah ah;have f33:=hlk 33 ah ah ah ah;have f34:=hlk 34 ah ah ah ah;have f40:=hlk 40 ah ah ah ah;have f41:=hlk 41 ah ah ah ah;simp -implicitDefEqProofs only[go_sem,seval] at f0 f6 f7 f8 f9 f32 f33 f34 f40 f41;simp -implicitDefEqProofs only[go_sem,seval,f41];refine bx (j2-1) ⟨[(0,.slice bb 0 bs.length 1),(6,.fn 24 [] [.ptr H.length 0]),(7,.ptr (H.length+1) 0),(8,.i64 i),(9,.i64 (bs.getD i 0)),(10,v'),(32,.slice bb 0 bs.length 1),(33,.i64 bs.length),(34,.i64 i),(40,.i64 bs.length),(41,.i64 (k+1:Nat))],H'⟩ aa (by simp[St.get,aj,f0,f6,f7,f8,f9,f32,f33,f34,f40,e10,w2]) rfl (fun _ _ h=>h) ⟨k+1,H',K',v',aa,hC',hOfj.trans ⟨fun b r e _=>(hof' b r e).1,fun b r e _=>(hof' b r e).2⟩,aa,fun b e=>hkn' b (hKnj b e),hkeep _ _ hsbj (by show 1<4;omega),hkeep _ _ hLbj (by show 2<4;omega),?_,?_,rfl⟩
 ·rcases hNRj with h|⟨na,e,h0,h1,h2,h3,h4,h5⟩
  ·exact .inl h
  ·exact .inr ⟨na,e,h0,h1,h2,h3,hkn' _ h4,hkeep _ _ h5 (by show(xs.map _).length<4;rw[ba];exact hxs3)⟩
 ·have e:eQ seed i (k+1)=eQ seed i k++[jO seed i k]:=if_neg hki;rw[e];exact hP'
theorem JY (g:Cx K0 H0 Q K H)(e:∀ b,K b=none)(seed:List ai){bv:V}{bs:List Int}{ro:Bool}(h:(bs=[]/\bv= .nilSlice)\/∃ f,bv= .slice f 0 bs.length 1/\ag H f=some ⟨ro,bs.map V.i64,none⟩):
  ∃ v K' H',Dx prog 16 [bv,.str seed] K H qT v K' H'/\sS seed bs v K' H':=
 bV ac (fn:=f16) func16 rfl am (Nh (g.start _) e seed h rfl)
end
end
end Go.Vm
end
section
namespace Go.Vm
open Go.Proofs
section
structure Cfg where
 n:Nat
 best:Nat->Int
 own:Nat->List ai
 psk:Nat->Nat->List ai
structure Cfg.ok (C:Cfg):Prop where
 n:C.n=2\/C.n=3
 best:∀ j,j<C.n->C.best j=1\/C.best j=2
 own:∀ j,(C.own j).length=32
 psk:∀ j k,(C.psk j k).length=32/\C.psk j k=C.psk k j
 dist:∀ j k,j<C.n->k<C.n->aK (C.own j)=aK (C.own k)->j=k
def bF (j i:Nat):Nat:=if j<=i then i+1 else i
abbrev Log:=Nat->Nat->Option (Option FiP×Nat)
def Log.le (l l':Log):Prop:=∀ s id x,l s id=some x->l' s id=some x
structure Log.ok (C:Cfg) (l:Log):Prop where
 here:∀ s id f t,l s id=some (some f,t)->s<C.n/\t<C.n/\s≠t/\f.ok/\f.q=C.own t/\f.own=C.own s/\f.id.toNat=id/\f.best=C.best s/\f.su<=C.best s/\f.su<=C.best t
inductive MsgG (C:Cfg) (l:Log) (s t:Nat):List ai->Prop
 |first(f:FiP) (m:List ai):l s f.id.toNat=some (some f,t)->m.length=16->MsgG C l s t (Msg.first f (aK (C.own t)) m).text
 |second (g:SeP) (m:List ai):l t g.f.id.toNat=some (some g.f,s)->l s g.id2.toNat=some (none,t)->g.psk=C.psk s t->g.e.length=32->g.best=C.best s->m.length=16->MsgG C l s t (Msg.second g (aK (C.own t)) m).text
 |reply (f:FiP) (nonce ck:List ai):l t f.id.toNat=some (some f,s)->nonce.length=24->ck.length=16->MsgG C l s t (Msg.reply (aK (C.own s)) nonce ck f.text (bX (aK (C.own s)) f.text) f.id).text
 |data (id:BitVec 32) (x:Option FiP) (k:Int) (z:List ai):l t id.toNat=some (x,s)->0<=k->k<=1099511627776->16<=z.length->z.length<=1000000->MsgG C l s t (Msg.data id k z).text
def GramG (C:Cfg)(l:Log)(g:Gr):Prop:=∃ s t,s<C.n/\t<C.n/\s≠t/\g.1=BitVec.ofNat 32 (s+1)/\g.2.1=BitVec.ofNat 32 (t+1)/\MsgG C l s t g.2.2
def gz:Option SeS->Int
 |none=>0
 |some S=>S.su
def SG (l:Log)(j t:Nat)(S:SeS):Prop:=(∃ x,l j S.mine.toNat=some (x,t))/\∃ x,l t S.theirs.toNat=some (x,j)
structure PG (C:Cfg) (l:Log) (j i:Nat) (P:PeS):Prop where
 ok:P.ok
 num:P.num=i
 q:P.q=C.own (bF j i)
 psk:P.psk=C.psk j (bF j i)
 at_:P.at_=BitVec.ofNat 32 (bF j i+1)
 kn:P.kn=1\/P.kn=C.best (bF j i)
 bg:∀ f,P.bg=some f->P.bi=f.id/\l j f.id.toNat=some (some f,bF j i)/\∃ m:List ai,m.length=16/\P.bt=f.text++bX P.pub f.text++m
 se:∀ S,P.se=some S->S.su<=P.pin/\S.su<=C.best j/\S.su<=C.best (bF j i)
 ne:∀ S,P.ne=some S->P.pin<=S.su/\S.su<=C.best j/\S.su<=C.best (bF j i)
 ses:∀ S,P.ol=some S\/P.se=some S\/P.ne=some S->SG l j (bF j i) S
structure DG (C:Cfg) (l:Log) (j:Nat) (D:DeS) (c:Nat):Prop where
 ok:D.ok c
 here:D.here=BitVec.ofNat 32 (j+1)
 own:D.own=C.own j
 best:D.best=C.best j
 ix:D.index.toNat<=c
 new:∀ id,D.index.toNat<id->l j id=none
 out:∀ g∈D.out,GramG C l g
structure Ext (j:Nat) (l l':Log):Prop where
 le:Log.le l l'
 other:∀ s,s≠j->l' s=l s
section
variable {C:Cfg}{l l' l2:Log}{j i s t c n:Nat}{D D':DeS}{P P':PeS}{x txt:List ai}{g:Gr}{f:FiP}
theorem Ext.refl (l:Log):Ext j l l:=⟨fun _ _ _ e=>e,fun _ _=>rfl⟩
theorem Ext.trans (h:Ext j l l')(h2:Ext j l' l2):Ext j l l2:=⟨fun _ _ _ e=>h2.le _ _ _ (h.le _ _ _ e),fun s e=>(h2.other s e).trans (h.other s e)⟩
theorem MsgG.mono (h:MsgG C l s t txt)(b:Log.le l l'):MsgG C l' s t txt:=by
 cases h with
 |first f m h1 h2=>exact .first f m (b _ _ _ h1) h2
 |second g m h1 h0 h2 d e o=>exact .second g m (b _ _ _ h1) (b _ _ _ h0) h2 d e o
 |reply f a ck h1 h2 d=>exact .reply f a ck (b _ _ _ h1) h2 d
 |data id x k z h0 h1 h2 d e=>exact .data id x k z (b _ _ _ h0) h1 h2 d e
theorem GramG.mono (h:GramG C l g)(a:Log.le l l'):GramG C l' g:=by
 obtain⟨s,t,h1,h2,b,d,e,k⟩:=h;exact⟨s,t,h1,h2,b,d,e,k.mono a⟩
theorem SG.mono {S:SeS}(h:SG l s t S)(a:Log.le l l'):SG l' s t S:=by
 obtain⟨⟨x,h1⟩,y,h2⟩:=h;exact⟨⟨x,a _ _ _ h1⟩,y,a _ _ _ h2⟩
theorem PG.mono (h:PG C l j i P)(a:Log.le l l'):PG C l' j i P:=
 ⟨h.ok,h.num,h.q,h.psk,h.at_,h.kn,fun f e=>by obtain⟨h1,h2,b⟩:=h.bg f e;exact⟨h1,a _ _ _ h2,b⟩,h.se,h.ne,fun S e=>(h.ses S e).mono a⟩
theorem PG.pub (h:PG C l j i P):P.pub=aK (C.own (bF j i)):=by rw[h.ok.pub,h.q]
theorem DG.up (h:DG C l j D c)(a:c<=n):DG C l j D n:=⟨h.ok.up a,h.here,h.own,h.best,fF h.ix a,h.new,h.out⟩
theorem DG.goes (h:DG C l j D c)(b:(D.goes (BitVec.ofNat 32 (t+1)) txt).ok n)(e:c<=n)(k:j<C.n)(m:t<C.n)(d:j≠t)(o:MsgG C l j t txt):DG C l j (D.goes (BitVec.ofNat 32 (t+1)) txt) n:=by
 refine⟨b,?_,?_,?_,?_,?_,?_⟩;all_goals unfold DeS.goes;split
 all_goals first|exact h.here|exact h.own|exact h.best|exact fF h.ix e|exact h.new|exact h.out|skip
 intro g a;rcases eB.1 a with a|a
 ·exact h.out g a
 ·rw[lh] at a;subst a;exact⟨j,t,k,m,d,h.here,rfl,o⟩
theorem Bm:j≠bF j i:=by unfold bF;split <;>omega
theorem uR (a:i<n-1)(b:j<n):bF j i<n:=by unfold bF;split <;>omega
structure StepG (C:Cfg) (l:Log) (j i:Nat) (D:DeS) (P:PeS) (s:DeS×PeS) (c k:Nat):Prop where
 ex:∃ l',Ext j l l'/\Log.ok C l'/\DG C l' j s.1 (c+k)/\PG C l' j i s.2
 su:gz P.se<=gz s.2.se
 now:s.1.now=D.now
theorem StepG.refl (a:Log.ok C l)(b:DG C l j D c)(d:PG C l j i P):StepG C l j i D P (D,P) c 0:=⟨⟨l,.refl l,a,b,d⟩,cC _,rfl⟩
theorem StepG.same (a:Log.ok C l)(b:DG C l j D' (c+n))(d:PG C l j i P')(e:gz P.se<=gz P'.se)(h:D'.now=D.now):StepG C l j i D P (D',P') c n:=⟨⟨l,.refl l,a,b,d⟩,e,h⟩
theorem AJ (v:j<C.n)(z:i<C.n-1)(o:Log.ok C l)(k:DG C l j D c)(a:PG C l j i P)(A:x.length<=2000):StepG C l j i D P (dn D P x) c 1:=by
 obtain⟨p,m⟩:=wB a.ok k.ok x;cases d:P.se with
 |none=>
  have e:dn D P x=(D,P):=by unfold dn;rw[d]
  rw[e];exact .same o (k.up (nj c)) a (cC _) rfl
 |some S=>
  by_cases w:S.over D.now=true
  ·have e:dn D P x=(D,P):=by unfold dn;rw[d];exact if_pos w
   rw[e];exact .same o (k.up (nj c)) a (cC _) rfl
  ·have e:dn D P x=(D.goes P.at_ (cY S.theirs S.se (mP S.su S.sd S.se x)),{P with se:=some {S with se:=S.se+1},tm:=if({S with se:=S.se+1}:SeS).stale D.now=true then(P.tm.ev 1 D.now).ev 3 D.now else P.tm.ev 1 D.now}):=by unfold dn;rw[d];exact if_neg w
   rw[e] at p m |-
   have h:=a.ok.se S d;have y:=GK (s:=S.su) (n:=S.se) h.sd A;obtain⟨-,r,u⟩:=a.ses S (.inr (.inl d));have B:MsgG C l j (bF j i) (cY S.theirs S.se (mP S.su S.sd S.se x)):= .data S.theirs r S.se _ u h.se.1 (by have :=h.se.2;omega) aa aa;dsimp only at p m;have E:DG C l j (D.goes P.at_ (cY S.theirs S.se (mP S.su S.sd S.se x))) (c+1):=by
    rw[a.at_] at m |-
    exact k.goes m (nj c) v (uR z v) Bm B
   refine .same o E ⟨p,a.num,a.q,a.psk,a.at_,a.kn,a.bg,fun S2 b=>?_,a.ne,fun S2 b=>?_⟩ ?_ (by unfold DeS.goes;split <;>rfl)
   ·cases b;exact a.se S d
   ·rcases b with b|b|b
    ·exact a.ses S2 (.inl b)
    ·cases b;exact a.ses S (.inr (.inl d))
    ·exact a.ses S2 (.inr (.inr b))
   ·rw[d];exact cC _
end
end
section
section
variable {C:Cfg}{l l' l2:Log}{j i s t c n k k2:Nat}{D D':DeS}{P P':PeS}{x txt:List ai}{g:Gr}{f:FiP}{s1 s2:DeS×PeS}
theorem StepG.thn (h:StepG C l j i D P s1 c k)(h2:∀ l',Ext j l l'->Log.ok C l'->DG C l' j s1.1 (c+k)->PG C l' j i s1.2->StepG C l' j i s1.1 s1.2 s2 (c+k) k2):StepG C l j i D P s2 c (k+k2):=by
 obtain⟨l',a,b,d,e⟩:=h.ex;have g:=h2 l' a b d e;obtain⟨l2,f1,f2,f3,f4⟩:=g.ex;exact⟨⟨l2,a.trans f1,f2,by rw[<-kh];exact f3,f4⟩,wR h.su g.su,g.now.trans h.now⟩
theorem StepG.up (h:StepG C l j i D P s1 c k)(m:k<=k2):StepG C l j i D P s1 c k2:=by
 obtain⟨l',a,b,d,e⟩:=h.ex;exact⟨⟨l',a,b,d.up aa,e⟩,h.su,h.now⟩
theorem StepG.of (h:StepG C l j i D P' s1 c k)(d:gz P.se<=gz P'.se):StepG C l j i D P s1 c k:=⟨h.ex,wR d h.su,h.now⟩
theorem HE (e:j<C.n)(hi:i<C.n-1):∀ (ws:List (List ai)) {l:Log} {D:DeS} {P:PeS} {c:Nat},(∀ x∈ws,x.length<=2000)->Log.ok C l->DG C l j D c->PG C l j i P->StepG C l j i D P (iR (D,P) ws) c ws.length
 |[],_,_,_,_,_,a,b,d=> .refl a b d
 |x::ws,l,D,P,c,hw,a,b,d=>by
  have h:=(AJ e hi a b d (hw x ae)).thn (k2:=ws.length) (s2:=iR (dn D P x) ws) fun l' r m o p=>HE e hi ws (fun y q=>hw y (by simp[q])) m o p
  show StepG C l j i D P (iR (dn D P x) ws) c (ws.length+1);rw[wN];exact h
theorem CF (e:j<C.n)(hi:i<C.n-1)(m:Log.ok C l)(o:DG C l j D c)(b:PG C l j i P):StepG C l j i D P (jP D P) c 4:=by
 have a:=b.ok;have d:PG C l j i {P with waits:=[]}:=⟨⟨a.q,a.pub,a.psk,a.kn,a.pin,a.ck,a.un,fg _,(fun x h=>nomatch h),a.bg,a.bt,a.ol,a.se,a.ne,a.tm⟩,b.num,b.q,b.psk,b.at_,b.kn,b.bg,b.se,b.ne,b.ses⟩;exact((HE e hi P.waits a.ws m o d).up a.wl).of (cC _)
theorem VP (a:C.ok)(b:j<C.n)(hi:i<C.n-1)(d:DG C l j D c)(e:PG C l j i P):(eF D P).su<=C.best j/\(eF D P).su<=C.best (bF j i):=by
 have m:=a.best j b;have o:=a.best _ (uR hi b);have p:=e.kn;have h:=d.best;show(if P.kn<D.best then P.kn else D.best)<=_/\(if P.kn<D.best then P.kn else D.best)<=_;rw[h];split <;>omega
theorem Qn (L:C.ok)(A:j<C.n)(hi:i<C.n-1)(M:Log.ok C l)(b:DG C l j D c)(p:PG C l j i P)(ht:P.tm.t<=5)(hc:c<=4000000000):StepG C l j i D P (qF D P) c 2:=by
 obtain⟨E,B⟩:=Gv p.ok b.ok ht;have F:=Bo p.ok b.ok;obtain⟨G,H⟩:=VP L A hi b p;have N:=b.ix;have w:(D.index+1#32).toNat=D.index.toNat+1:=by
  rw[fk];show(D.index.toNat+1)%4294967296=_;omega
 have r:(eF D P).id=D.index+1#32:=rfl;have y:=uR hi A;have z:=Bm (j:=j) (i:=i)
 let l':Log:=fun s id=>if s=j/\id=D.index.toNat+1 then some (some (eF D P),bF j i) else l s id
 have u:l' j (eF D P).id.toNat=some (some (eF D P),bF j i):=by
  show(if _ then _ else _)=_;rw[if_pos ⟨rfl,by rw[r,w]⟩]
 have I:Ext j l l':=by
  refine⟨fun s id x e=>?_,fun s O=>funext fun id=>if_neg fun h=>O h.1⟩;show(if _ then _ else _)=_;rw[if_neg fun h=>by obtain⟨rfl,rfl⟩:=h;rw[b.new _ aa] at e;cases e];exact e
 have J:Log.ok C l':=by
  refine⟨fun s id f t e=>?_⟩;have e:(if s=j/\id=D.index.toNat+1 then some (some (eF D P),bF j i) else l s id)=some (some f,t):=e;by_cases h:s=j/\id=D.index.toNat+1
  ·rw[if_pos h] at e;cases e;obtain⟨rfl,rfl⟩:=h;exact⟨A,y,z,F,p.q,b.own,by rw[r,w],b.best,G,H⟩
  ·rw[if_neg h] at e;exact M.here s id f t e
 have a:=p.mono I.le;have d:(if(if P.un<D.now then[] else P.ck)=[] then List.replicate 16 0#8 else ik (if P.un<D.now then[] else P.ck) ((eF D P).text++bX P.pub (eF D P).text) 16).length=16:=by
  have h:=PeS.mkd_length p.ok (now:=D.now) (x:=(eF D P).text) (by rw[FiP.text_length F];decide);unfold PeS.mkd nD at h;have h2:=vK P.pub (eF D P).text (by rw[p.ok.pub,cB];decide) (by rw[FiP.text_length F];decide);rw[aE,aE,h2] at h;omega
 have v:P.mkd D.now (eF D P).text=(eF D P).text++bX P.pub (eF D P).text++(if(if P.un<D.now then[] else P.ck)=[] then List.replicate 16 0#8 else ik (if P.un<D.now then[] else P.ck) ((eF D P).text++bX P.pub (eF D P).text) 16):=rfl;generalize (if(if P.un<D.now then[] else P.ck)=[] then List.replicate 16 0#8 else ik (if P.un<D.now then[] else P.ck) ((eF D P).text++bX P.pub (eF D P).text) 16)=m at d v;have Q:MsgG C l' j (bF j i) (P.mkd D.now (eF D P).text):=by
  rw[v,p.pub];exact .first _ m u d
 unfold qF at E B |-
 dsimp only at E B;refine⟨⟨l',I,J,?_,⟨E,a.num,a.q,a.psk,a.at_,a.kn,fun f e=>?_,a.se,a.ne,a.ses⟩⟩,cC _,by show(DeS.goes _ _ _).now=_;unfold DeS.goes;split <;>rfl⟩
 ·have K:DG C l' j {D with fresh:=D.fresh+1#64,index:=D.index+1#32,firsts:=D.firsts+1} (c+1):=by
   have o:=b.ok;refine⟨⟨o.own,o.pub,o.seed,o.best,o.secret,o.now,⟨by have :=o.firsts.1;show 0<=D.firsts+1;omega,by have :=o.firsts.2;show D.firsts+1<=((c+1:Nat):Int);omega⟩,rQ o.out,rQ o.got⟩,b.here,b.own,b.best,by show(D.index+1#32).toNat<=_;omega,fun id h=>?_,fun g R=>(b.out g R).mono I.le⟩;have h:(D.index+1#32).toNat<id:=h;show(if _ then _ else _)=_;rw[if_neg aa];exact b.new id aa
  rw[p.at_] at B |-
  exact K.goes B aa A y z Q
 ·cases e;exact⟨rfl,u,m,d,v⟩
theorem DQ (r:C.ok)(p:j<C.n)(hi:i<C.n-1)(m:Log.ok C l)(d:DG C l j D c)(a:PG C l j i P)(hc:c<=4000000000):StepG C l j i D P (dM D P) c 2:=by
 obtain⟨b,h⟩:=F4 a.ok d.ok;unfold dM at b h |-
 by_cases h1:P.tm.nx D.now=1
 ·rw[if_pos h1] at b h |-
  by_cases h2:P.at_=0#32
  ·rw[if_pos h2];exact(StepG.refl m d a).up ah
  ·rw[if_neg h2];exact Qn r p hi m d a (HP P.tm a.ok.tm D.now h1) hc
 rw[if_neg h1] at b h |-
 by_cases h2:P.tm.nx D.now=2
 ·rw[if_pos h2] at b h |-
  by_cases o:P.useB D.now=true
  ·rw[if_pos o];exact(AJ p hi m d a ah).up ah
  ·rw[if_neg o] at b h |-
   exact .same m (d.up (nW _ _)) ⟨b,a.num,a.q,a.psk,a.at_,a.kn,a.bg,a.se,a.ne,a.ses⟩ (cC _) rfl
 rw[if_neg h2] at b h |-
 by_cases o:P.tm.nx D.now=3
 ·rw[if_pos o] at b h |-
  exact .same m (d.up (nW _ _)) ⟨b,a.num,a.q,a.psk,a.at_,a.kn,(fun f e=>nomatch e),a.se,a.ne,a.ses⟩ (cC _) rfl
 ·rw[if_neg o];exact(StepG.refl m d a).up ah
end
end
section
structure NG (C:Cfg) (l:Log) (j:Nat) (N:NoS) (c:Nat):Prop where
 D:DG C l j N.D c
 P:∀ i (h:i<N.Ps.length),PG C l j i N.Ps[i]
 len:N.Ps.length=C.n-1
 B:N.B.ok
def jn (N:NoS)(i:Nat):Int:=gz ((N.Ps[i]?).bind PeS.se)
structure StepN (C:Cfg) (l:Log) (j:Nat) (N N':NoS) (c k:Nat):Prop where
 ex:∃ l',Ext j l l'/\Log.ok C l'/\NG C l' j N' (c+k)
 su:∀ i,jn N i<=jn N' i
 now:N'.D.now=N.D.now
section
variable {C:Cfg}{l l' l2:Log}{j i s t c n k k2:Nat}{D D':DeS}{P P':PeS}{N N':NoS}{x txt:List ai}{g:SeP}{f:FiP}{s1 s2:DeS×PeS}{B:BkS}
theorem NG.ok (h:NG C l j N c):N.ok c:=⟨h.D.ok,fun P a=>by obtain⟨i,hi,rfl⟩:=mK a;exact(h.P i hi).ok,h.B,fun i hi=>(h.P i hi).num⟩
theorem NG.up (h:NG C l j N c)(a:c<=n):NG C l j N n:=⟨h.D.up a,h.P,h.len,h.B⟩
theorem NG.pos (a:C.ok)(h:NG C l j N c):0<N.Ps.length/\N.Ps.length<=8:=by
 have :=h.len;have :=a.n;omega
theorem StepN.refl (a:Log.ok C l)(h:NG C l j N c):StepN C l j N N c 0:=⟨⟨l,.refl l,a,h⟩,fun _=>cC _,rfl⟩
theorem StepN.up (h:StepN C l j N N' c k)(e:k<=k2):StepN C l j N N' c k2:=by
 obtain⟨l',a,b,d⟩:=h.ex;exact⟨⟨l',a,b,d.up aa⟩,h.su,h.now⟩
theorem StepN.peer (o:NG C l j N c)(hi:N.Ps[i]?=some P)(q:B.ok)(h:StepG C l j i N.D P s1 c k):StepN C l j N {N with B:=B,D:=s1.1,Ps:=N.Ps.set i s1.2} c k:=by
 obtain⟨d,w⟩:=ca.1 hi;obtain⟨l',p,r,u,v⟩:=h.ex;refine⟨⟨l',p,r,u,fun a b=>?_,by show(N.Ps.set i s1.2).length=_;rw[aY];exact o.len,q⟩,fun a=>?_,h.now⟩
 ·have m:a<N.Ps.length:=by rw[aY] at b;exact b
  show PG C l' j a (N.Ps.set i s1.2)[a];by_cases e:a=i
  ·subst e;rw[sR];exact v
  ·rw[uT (fun h=>e h.symm)];exact(o.P a m).mono p.le
 ·unfold jn;show _<=gz (((N.Ps.set i s1.2)[a]?).bind PeS.se);by_cases e:a=i
  ·subst e;rw[kL d,hi];exact h.su
  ·rw[mF (fun h=>e h.symm)];exact cC _
theorem Gg (e:C.ok)(m:j<C.n):∀ (ps:List PeS) (i0:Nat) {l:Log} {D:DeS} {c:Nat},i0+ps.length<=C.n-1->Log.ok C l->DG C l j D c->(∀ i (h:i<ps.length),PG C l j (i0+i) ps[i])->c+2*ps.length<=4000000000->
  (∃ l',Ext j l l'/\Log.ok C l'/\DG C l' j (cP D ps).1 (c+2*ps.length)/\∀ i (h:i<(cP D ps).2.length),PG C l' j (i0+i) (cP D ps).2[i])/\(∀ i:Nat,gz ((ps[i]?).bind PeS.se)<=gz (((cP D ps).2[i]?).bind PeS.se))/\(cP D ps).1.now=D.now
 |[],i0,l,D,c,_,b,d,_,_=>⟨⟨l,.refl l,b,d,fun i h=>by simp[cP] at h⟩,fun i=>by simp[cP],rfl⟩
 |P::ps,i0,l,D,c,a,b,d,o,hc=>by
  simp only[ce] at a hc;have h1:=DQ e m (i:=i0) aa b d (o 0 ae) aa;obtain⟨l',p,q,r,u⟩:=h1.ex;obtain⟨⟨l2,f1,f2,f3,f4⟩,f5,f6⟩:=Gg e m ps (i0+1) (D:=(dM D P).1) (c:=c+2) aa q r (fun i h=>by
   have :=(o (i+1) (by simp;omega)).mono p.le;rw[show i0+1+i=i0+(i+1) by omega];exact this) aa
  refine⟨⟨l2,p.trans f1,f2,?_,fun i h=>?_⟩,fun i=>?_,f6.trans h1.now⟩
  ·show DG C l2 j (cP (dM D P).1 ps).1 (c+2*(ps.length+1));rw[show c+2*(ps.length+1)=c+2+2*ps.length by omega];exact f3
  ·match i,h with
   |0,_=>exact u.mono f1.le
   |i+1,h=>
    have :=f4 i (by simpa [cP] using h);rw[show i0+(i+1)=i0+1+i by omega];exact this
  ·match i with
   |0=>exact h1.su
   |i+1=>exact f5 i
theorem OY (o:C.ok)(q:j<C.n)(p:Log.ok C l)(d:NG C l j N c)(hc:c<=3000000000)(k:Int):∃ l',Ext j l l'/\Log.ok C l'/\NG C l' j (fW N k).2 (c+4)/\∀ i,jn N i<=jn (fW N k).2 i:=by
 have e:=d.len;have r:=o.n;unfold fW;by_cases h:k<0\/1099511627776-N.D.now<k
 ·rw[if_pos h];exact⟨l,.refl l,p,d.up aa,fun _=>cC _⟩
 rw[if_neg h];have b:=d.D;have a:=b.ok;have m:DG C l j {N.D with now:=N.D.now+k} c:=⟨⟨a.own,a.pub,a.seed,a.best,a.secret,by have :=a.now;show 0<=N.D.now+k/\N.D.now+k<=1099511627776;omega,a.firsts,a.out,a.got⟩,b.here,b.own,b.best,b.ix,b.new,b.out⟩;obtain⟨⟨l',f1,f2,f3,f4⟩,f5,-⟩:=Gg o q N.Ps 0 aa p m (fun i h=>by rw[cw];exact d.P i h) aa;refine⟨l',f1,f2,⟨f3.up aa,fun i hi=>?_,(CI _ _).trans e,d.B⟩,f5⟩;have :=f4 i hi;rw[cw] at this;exact this
theorem agm (v:C.ok)(m:j<C.n)(d:Log.ok C l)(a:NG C l j N c)(hc:c<=3000000000)(F:BitVec 32->Int×Bool)(src dst:BitVec 32)(x:List ai):StepN C l j N (rM N F src dst x).2 c 3:=by
 unfold rM;by_cases h1:1000<(x.length:Int)
 ·rw[if_pos h1];exact(StepN.refl d a).up ah
 rw[if_neg h1];by_cases h2:(F dst).2=false
 ·rw[if_pos h2];exact(StepN.refl d a).up ah
 rw[if_neg h2];cases o:N.Ps[(F dst).1.toNat]? with
 |none=>exact(StepN.refl d a).up ah
 |some P=>
  dsimp only;obtain⟨e,p⟩:=ca.1 o;have hi:(F dst).1.toNat<C.n-1:=by rw[<-a.len];exact e
  have b:=a.P _ e;rw[p] at b;have h:(jE src x).length<=2000:=by
   unfold jE;rw[aE,cF];omega
  by_cases w:P.useB N.D.now=true
  ·rw[if_pos w];exact StepN.peer a o a.B ((AJ m hi d a.D b h).thn (k2:=2) fun l' G y z A=>DQ v m hi y z A aa)
  ·rw[if_neg w];have r:=HZ b.ok h a.D.ok.now;have u:PG C l j (F dst).1.toNat {P with waits:=jF P.waits (jE src x),tm:=P.tm.ev 3 N.D.now}:=⟨r,b.num,b.q,b.psk,b.at_,b.kn,b.bg,b.se,b.ne,b.ses⟩;have E:StepG C l j (F dst).1.toNat N.D P (dM N.D {P with waits:=jF P.waits (jE src x),tm:=P.tm.ev 3 N.D.now}) c 2:=(DQ v m hi d a.D u aa).of (cC _);exact StepN.peer a o a.B (E.up (k2:=3) ah)
theorem Eu (o:NG C l j N c){id:BitVec 32}{f:FiP}{t:Nat}(a:l j id.toNat=some (some f,t))(h1:N.Ps.findIdx? (gM id)=some i)(h2:N.Ps[i]?=some P):P.bg=some f/\bF j i=t/\P.bi=id/\PG C l j i P:=by
 obtain⟨p,e,-⟩:=sM.1 h1;obtain⟨q,b⟩:=ca.1 h2;rw[b] at e;have h:=o.P i p;rw[b] at h;unfold gM at e;simp only[ic,decide_eq_true_eq] at e;obtain⟨r,m⟩:=e;obtain⟨u,d⟩:=rV.1 r;obtain⟨g1,g2,-⟩:=h.bg u d;rw[<-g1,m,a] at g2;cases g2;exact⟨d,rfl,m,h⟩
theorem LM (e:Log.ok C l)(d:NG C l j N c){id:BitVec 32}(ck:List ai)(h:ck.length=16):StepN C l j N (ns N id ck).2 c 0:=by
 unfold ns;cases h1:N.Ps.findIdx? (gM id) with
 |none=>exact .refl e d
 |some i=>
  dsimp only;cases h2:N.Ps[i]? with
  |none=>exact .refl e d
  |some P=>
   dsimp only;obtain⟨m,o⟩:=ca.1 h2;have b:=d.P _ m;rw[o] at b;have a:=b.ok;have p:=d.D.ok.now;have r:StepG C l j i N.D P (N.D,{P with ck:=ck,un:=N.D.now+120}) c 0:= .same e d.D ⟨⟨a.q,a.pub,a.psk,a.kn,a.pin,.inr h,by show 0<=N.D.now+120/\N.D.now+120<=2099511627776;omega,a.wl,a.ws,a.bg,a.bt,a.ol,a.se,a.ne,a.tm⟩,b.num,b.q,b.psk,b.at_,b.kn,b.bg,b.se,b.ne,b.ses⟩ (cC _) rfl;exact StepN.peer d h2 d.B r
theorem GM (a:PG C l j i P){m:Int}(h0:0<=m)(h:P.pin<=m):gz P.se<=m:=by
 cases b:P.se with
 |none=>exact h0
 |some S=>exact wR (a.se S b).1 h
theorem aao (p:j<C.n)(b:Log.ok C l)(a:NG C l j N c){g:SeP}{s:Nat}(h0:l j g.f.id.toNat=some (some g.f,s))(r:l s g.id2.toNat=some (none,j))(F:g.ok)(u:g.best=C.best s):StepN C l j N (nr N g (BitVec.ofNat 32 (s+1))).2 c 5:=by
 unfold nr;cases h1:N.Ps.findIdx? (gM g.f.id) with
 |none=>exact(StepN.refl b a).up ah
 |some i=>
  dsimp only;cases h2:N.Ps[i]? with
  |none=>exact(StepN.refl b a).up ah
  |some P=>
   dsimp only;by_cases E:g.f.su<P.pin
   ·rw[if_pos E];exact(StepN.refl b a).up ah
   rw[if_neg E];obtain⟨O,rfl,G,d⟩:=Eu a h0 h1 h2;obtain⟨v,H⟩:=ca.1 h2;have hi:i<C.n-1:=by rw[<-a.len];exact v
   obtain⟨-,-,-,w,-,-,-,-,y,z⟩:=b.here _ _ _ _ h0;have I:=w.su;have A:=HO d.ok F (BitVec.ofNat 32 (bF j i+1)) a.D.ok.now;have J:SG l j (bF j i) (SeS.fresh g.f.su P.bi g.id2 (g.key 0) (g.key 1) N.D.now true):=⟨⟨_,by show l j P.bi.toNat=_;rw[G];exact h0⟩,_,r⟩;have h:PG C l j i (m6 P g (BitVec.ofNat 32 (bF j i+1)) N.D.now):=by
    refine⟨A,d.num,d.q,d.psk,rfl,.inr u,(fun f e=>nomatch e),fun S e=>?_,(fun S e=>nomatch e),fun S e=>?_⟩
    ·cases e;refine⟨?_,y,z⟩;show g.f.su<=(if P.pin<g.f.su then g.f.su else P.pin);split <;>omega
    ·rcases e with e|e|e
     ·exact d.ses S (.inr (.inl e))
     ·cases e;exact J
     ·cases e
   have o:StepG C l j i N.D (m6 P g (BitVec.ofNat 32 (bF j i+1)) N.D.now) (xc N.D (m6 P g (BitVec.ofNat 32 (bF j i+1)) N.D.now)) c 5:=by
    unfold xc;split
    ·exact(AJ p hi b a.D h ah).thn (k2:=4) fun l' Q K L M=>CF p hi K L M
    ·exact(CF p hi b a.D h).up ah
   exact StepN.peer a h2 a.B (o.of (GM d (m:=g.f.su) aa aa))
end
end
section
section
variable {C:Cfg}{l l' l2:Log}{j i s t c n k k2 w:Nat}{D D':DeS}{P P':PeS}{N N':NoS}{x txt:List ai}{g:SeP}{f:FiP}{s1 s2:DeS×PeS}{B:BkS}{S S':SeS}{F:BitVec 32->Int×Bool}
theorem aeX (S:SeS)(k:Int)(z:List ai)(now:Int):(S.open_ k z now).2.2.su=S.su/\(S.open_ k z now).2.2.mine=S.mine/\(S.open_ k z now).2.2.theirs=S.theirs:=by
 unfold SeS.open_;split
 ·exact⟨rfl,rfl,rfl⟩
 ·split
  ·split <;>exact⟨rfl,rfl,rfl⟩
  ·exact⟨rfl,rfl,rfl⟩
theorem PG.setSlot (a:PG C l j i P)(hw:P.slot w=some S)(o:S'.ok)(m:S'.su=S.su)(p:S'.mine=S.mine)(r:S'.theirs=S.theirs):PG C l j i (P.setSlot w S')/\gz (P.setSlot w S').se=gz P.se:=by
 have b:=FF (w:=w) a.ok o;have d:SG l j (bF j i) S->SG l j (bF j i) S':=fun h=>by unfold SG at h |-;rw[p,r];exact h
 match w,hw with
 |0,hw=>
  have hw:P.se=some S:=hw;refine⟨⟨b,a.num,a.q,a.psk,a.at_,a.kn,a.bg,fun S2 e=>?_,a.ne,fun S2 e=>?_⟩,?_⟩
  ·cases e;rw[m];exact a.se S hw
  ·rcases e with e|e|e
   ·exact a.ses S2 (.inl e)
   ·cases e;exact d (a.ses S (.inr (.inl hw)))
   ·exact a.ses S2 (.inr (.inr e))
  ·rw[hw];exact m
 |1,hw=>
  have hw:P.ol=some S:=hw;refine⟨⟨b,a.num,a.q,a.psk,a.at_,a.kn,a.bg,a.se,a.ne,fun S2 e=>?_⟩,rfl⟩;rcases e with e|e|e
  ·cases e;exact d (a.ses S (.inl hw))
  ·exact a.ses S2 (.inr (.inl e))
  ·exact a.ses S2 (.inr (.inr e))
 |w+2,hw=>
  have hw:P.ne=some S:=hw;refine⟨⟨b,a.num,a.q,a.psk,a.at_,a.kn,a.bg,a.se,fun S2 e=>?_,fun S2 e=>?_⟩,rfl⟩
  ·cases e;rw[m];exact a.ne S hw
  ·rcases e with e|e|e
   ·exact a.ses S2 (.inl e)
   ·exact a.ses S2 (.inr (.inl e))
   ·cases e;exact d (a.ses S (.inr (.inr hw)))
theorem PG.tm (b:PG C l j i P){T:TmS}(d:T.ok):PG C l j i {P with at_:=BitVec.ofNat 32 (bF j i+1),tm:=T}:=by
 have a:=b.ok;exact⟨⟨a.q,a.pub,a.psk,a.kn,a.pin,a.ck,a.un,a.wl,a.ws,a.bg,a.bt,a.ol,a.se,a.ne,d⟩,b.num,b.q,b.psk,rfl,b.kn,b.bg,b.se,b.ne,b.ses⟩
theorem Iy (e:Log.ok C l)(a:DG C l j D c)(d:PG C l j i P):StepG C l j i D P (rY D P F (BitVec.ofNat 32 (bF j i+1)) txt).2 c 1:=by
 have h:=TmS.ev_ok d.ok.tm (k:=2) (.inl ah) a.ok.now;unfold rY;by_cases h1:txt=[]
 ·rw[if_pos h1];exact .same e (a.up (nj c)) (d.tm d.ok.tm) (cC _) rfl
 rw[if_neg h1];by_cases h2:(txt.length:Int)<4
 ·rw[if_pos h2];exact .same e (a.up (nj c)) (d.tm h) (cC _) rfl
 rw[if_neg h2];split
 ·have b:=a.ok;have up:=b.up (nj c);exact .same e ⟨⟨b.own,b.pub,b.seed,b.best,b.secret,b.now,up.firsts,up.out,by have :=b.got;simp;omega⟩,a.here,a.own,a.best,rQ a.ix,a.new,a.out⟩ (d.tm h) (cC _) rfl
 ·exact .same e (a.up (nj c)) (d.tm h) (cC _) rfl
theorem Uh (y:j<C.n)(hi:i<C.n-1)(z:Log.ok C l)(u:DG C l j D c)(b:PG C l j i P)(d:P.ne=some S')(m:S'.su=S.su):StepG C l j i D P (rT D P S (BitVec.ofNat 32 (bF j i+1))) c 4:=by
 have a:=b.ok;have o:=a.ne S' d;obtain⟨A,n2,v⟩:=b.ne S' d;rw[m] at A n2 v;have p:(if P.pin<S.su then S.su else P.pin)=1\/(if P.pin<S.su then S.su else P.pin)=2:=by
  have h1:=o.su;rw[m] at h1;have h2:=a.pin;split <;>assumption
 have r:PG C l j i {P with ol:=P.se,se:=P.ne,ne:=none,pin:=if P.pin<S.su then S.su else P.pin,at_:=BitVec.ofNat 32 (bF j i+1),tm:=P.tm.ev 5 D.now}:=by
  refine⟨⟨a.q,a.pub,a.psk,a.kn,p,a.ck,a.un,a.wl,a.ws,a.bg,a.bt,a.se,a.ne,(fun _ h=>nomatch h),TmS.ev_ok a.tm (.inl ah) u.ok.now⟩,b.num,b.q,b.psk,rfl,b.kn,b.bg,fun S2 e=>?_,(fun _ h=>nomatch h),fun S2 e=>?_⟩
  ·have e:P.ne=some S2:=e;rw[d] at e;cases e;rw[m];refine⟨?_,n2,v⟩;show S.su<=(if P.pin<S.su then S.su else P.pin);split <;>omega
  ·rcases e with e|e|e
   ·exact b.ses S2 (.inr (.inl e))
   ·exact b.ses S2 (.inr (.inr e))
   ·cases e
 have E:gz P.se<=gz P.ne:=by
  rw[d];show gz P.se<=S'.su;have :=o.su;exact GM b aa aa
 exact(CF y hi z u r).of E
theorem T8 (q:j<C.n)(hi:i<C.n-1)(e:Log.ok C l)(m:DG C l j D c)(a:PG C l j i P)(hw:P.slot w=some S)(r:w<3)(k:Int)(z:List ai):StepG C l j i D P (nP D P F w S k z (BitVec.ofNat 32 (bF j i+1))).2 c 5:=by
 obtain⟨p,u,v⟩:=aeX S k z D.now;have o:S.ok:=by
  match w,hw with
  |0,hw=>exact a.ok.se S hw
  |1,hw=>exact a.ok.ol S hw
  |w+2,hw=>exact a.ok.ne S hw
 obtain⟨b,d⟩:=a.setSlot hw (F0 o k z D.now) p u v;unfold nP;by_cases h:(S.open_ k z D.now).2.1=0
 ·rw[if_pos h];by_cases h2:w=2
  ·rw[if_pos h2];subst h2;have y:StepG C l j i D (P.setSlot 2 (S.open_ k z D.now).2.2) (rT D (P.setSlot 2 (S.open_ k z D.now).2.2) S (BitVec.ofNat 32 (bF j i+1))) c 4:=Uh q hi e m b rfl p;exact(y.thn (k2:=1) fun l' A a2 a3 a4=>Iy a2 a3 a4).of (by rw[d];exact cC _)
  ·rw[if_neg h2];exact((Iy e m b).up ah).of (by rw[d];exact cC _)
 ·rw[if_neg h];exact(StepG.refl e m a).up ah
theorem Oj {id:BitVec 32}(h:kI id P=some w):w<3/\∃ S,P.slot w=some S/\S.mine=id:=by
 have key:∀ w,iN id P w=true->∃ S,P.slot w=some S/\S.mine=id:=fun w h=>by
  unfold iN at h;split at h
  ·cases h
  ·rename_i S a;exact⟨S,a,by simpa using h⟩
 unfold kI at h;by_cases h0:iN id P 0=true
 ·rw[if_pos h0] at h;cases h;exact⟨ah,key 0 h0⟩
 rw[if_neg h0] at h;by_cases h1:iN id P 1=true
 ·rw[if_pos h1] at h;cases h;exact⟨ah,key 1 h1⟩
 rw[if_neg h1] at h;by_cases h2:iN id P 2=true
 ·rw[if_pos h2] at h;cases h;exact⟨ah,key 2 h2⟩
 rw[if_neg h2] at h;cases h
theorem adp (hw:P.slot w=some S):P.ol=some S\/P.se=some S\/P.ne=some S:=by
 match w,hw with
 |0,hw=>exact .inr (.inl hw)
 |1,hw=>exact .inl hw
 |w+2,hw=>exact .inr (.inr hw)
theorem L7 (q:j<C.n)(e:Log.ok C l)(a:NG C l j N c){id:BitVec 32}{s:Nat}{x:Option FiP}(h0:l j id.toNat=some (x,s))(k:Int)(z:List ai):StepN C l j N (mR N F id k z (BitVec.ofNat 32 (s+1))).2 c 5:=by
 unfold mR;cases h1:N.Ps.findIdx? (fun P=>(kI id P).isSome) with
 |none=>exact(StepN.refl e a).up ah
 |some i=>
  dsimp only;cases h2:N.Ps[i]? with
  |none=>exact(StepN.refl e a).up ah
  |some P=>
   dsimp only;cases r:kI id P with
   |none=>exact(StepN.refl e a).up ah
   |some w=>
    dsimp only;obtain⟨h,S,m,u⟩:=Oj r;rw[m];dsimp only;obtain⟨b,o⟩:=ca.1 h2;have hi:i<C.n-1:=by rw[<-a.len];exact b
    have p:=a.P i b;rw[o] at p;obtain⟨⟨v,d⟩,-⟩:=p.ses S (adp m);rw[u,h0] at d;cases d;exact StepN.peer a h2 a.B (T8 q hi e a.D p m h k z)
theorem Ui (hj:j<C.n)(hi:i<C.n-1)(hl:Log.ok C l)(p:DG C l j D c)(u:PG C l j i P)(h0:l (bF j i) f.id.toNat=some (some f,j))(hb:f.su<=D.best)(a1:¬ f.su<P.pin)(hc:c<=4000000000):StepG C l j i D P (oS D P f (BitVec.ofNat 32 (bF j i+1))) c 2:=by
 obtain⟨-,-,-,y,a6,M,-,O,Q,R⟩:=hl.here _ _ _ _ h0;have a7:=p.ix;have o:=p.ok;have a:=u.ok;have T:(D.index+1#32).toNat=D.index.toNat+1:=by
  rw[fk];show(D.index.toNat+1)%4294967296=_;omega
 have E:=(D.keyV_spec o.seed).2;have A:SeP.ok ⟨f,P.psk,D.keyV,D.best,D.index+1#32⟩:=⟨y,a.psk,E,o.best⟩;have U:=uR hi hj;have V:=Bm (j:=j) (i:=i)
 let l':Log:=fun s id=>if s=j/\id=D.index.toNat+1 then some (none,bF j i) else l s id
 have v:l' j (D.index+1#32).toNat=some (none,bF j i):=by
  show(if _ then _ else _)=_;rw[if_pos ⟨rfl,T⟩]
 have G:Ext j l l':=by
  refine⟨fun s id x e=>?_,fun s hs=>funext fun id=>if_neg fun h=>hs h.1⟩;show(if _ then _ else _)=_;rw[if_neg fun h=>by obtain⟨rfl,rfl⟩:=h;rw[p.new _ aa] at e;cases e];exact e
 have W:Log.ok C l':=by
  refine⟨fun s id f t e=>?_⟩;have e:(if s=j/\id=D.index.toNat+1 then some (none,bF j i) else l s id)=some (some f,t):=e;by_cases h:s=j/\id=D.index.toNat+1
  ·rw[if_pos h] at e;cases e
  ·rw[if_neg h] at e;exact hl.here s id f t e
 have r:=u.mono G.le;generalize b:(⟨f,P.psk,D.keyV,D.best,D.index+1#32⟩:SeP)=g at A;have d:g.f=f:=by rw[<-b]
 have H:g.id2=D.index+1#32:=by rw[<-b]
 have X:g.psk=P.psk:=by rw[<-b]
 have Y:g.e=D.keyV:=by rw[<-b]
 have Z:g.best=D.best:=by rw[<-b]
 have I:PG C l' j i (rN P g (BitVec.ofNat 32 (bF j i+1)) D.now):=by
  refine⟨⟨a.q,a.pub,a.psk,by show g.f.best=1\/g.f.best=2;rw[d];exact y.best,a.pin,a.ck,a.un,a.wl,a.ws,a.bg,a.bt,a.ol,a.se,fun S e=>?_,a.tm⟩,u.num,u.q,u.psk,rfl,.inr (by show g.f.best=_;rw[d];exact O),r.bg,r.se,fun S e=>?_,fun S e=>?_⟩
  ·cases e;exact⟨by rw[d];exact y.su,g.key_length A ah,g.key_length A ah,o.now,by show(0:Int)<=0/\(0:Int)<=1000;omega,by show(0:Int)<=0/\(0:Int)<=1099511627777;omega⟩
  ·cases e;show P.pin<=g.f.su/\g.f.su<=C.best j/\g.f.su<=C.best (bF j i);rw[d];exact⟨aa,R,Q⟩
  ·rcases e with e|e|e
   ·exact r.ses S (.inl e)
   ·exact r.ses S (.inr (.inl e))
   ·cases e;refine⟨⟨none,?_⟩,some f,?_⟩
    ·show l' j g.id2.toNat=_;rw[H];exact v
    ·show l' (bF j i) g.f.id.toNat=_;rw[d];exact G.le _ _ _ h0
 have z:∃ m:List ai,m.length=16/\(rN P g (BitVec.ofNat 32 (bF j i+1)) D.now).mkd D.now g.text=g.text++bX P.pub g.text++m:=by
  have J:=g.facts A |>.1
  have h:=PeS.mkd_length I.ok (now:=D.now) (x:=g.text) (by rw[J];decide);have h2:=vK P.pub g.text (by rw[u.ok.pub,cB];decide) (by rw[J];decide);refine⟨_,?_,rfl⟩;unfold PeS.mkd nD at h;rw[aE,aE] at h;have a8:(bX (rN P g (BitVec.ofNat 32 (bF j i+1)) D.now).pub g.text).length=16:=h2;omega
 obtain⟨m,K,z⟩:=z;have hm:MsgG C l' j (bF j i) ((rN P g (BitVec.ofNat 32 (bF j i+1)) D.now).mkd D.now g.text):=by
  rw[z,u.pub];refine .second g m ?_ ?_ (by rw[X];exact u.psk) (by rw[Y];exact E) (by rw[Z];exact p.best) K
  ·rw[d];exact G.le _ _ _ h0
  ·rw[H];exact v
 have L:DG C l' j {D with index:=D.index+1#32,fresh:=D.fresh+1#64} (c+1):=
  ⟨⟨o.own,o.pub,o.seed,o.best,o.secret,o.now,(o.up (nj c)).firsts,rQ o.out,rQ o.got⟩,p.here,p.own,p.best,by show(D.index+1#32).toNat<=_;omega,fun id h=>by
   have h:(D.index+1#32).toNat<id:=h;show(if _ then _ else _)=_;rw[if_neg aa];exact p.new id aa,fun g A=>(p.out g A).mono G.le⟩
 unfold oS;rw[b];exact⟨⟨l',G,W,L.goes (L.ok.goes _ _) aa hj U V hm,I⟩,cC _,by show(DeS.goes _ _ _).now=_;unfold DeS.goes;split <;>rfl⟩
end
end
section
section
variable {C:Cfg}{l l' l2:Log}{j i s t c n k k2 w:Nat}{D D':DeS}{P P':PeS}{N N':NoS}{x txt:List ai}{g:SeP}{f:FiP}{s1 s2:DeS×PeS}{B:BkS}{S S':SeS}{F:BitVec 32->Int×Bool}
theorem FiP.text_ix (a:f.ok):List.drop 2 (List.take 6 f.text)=cW f.id:=(C0 (k:=1#8) (s:=BitVec.ofInt 8 f.su) (fE _) (cB _) (xD a.su) (xq a.su)).2.2.2.2
theorem DG.pub (h:DG C l j D c):D.pub=aK (C.own j):=by rw[h.ok.pub,h.own]
theorem StepN.dev (a:NG C l j N c)(b:Log.ok C l)(d:DG C l j D (c+k))(e:D.now=N.D.now)(h:B.ok):StepN C l j N {N with D:=D,B:=B} c k:=
 ⟨⟨l,.refl l,b,d,a.P,a.len,h⟩,fun _=>cC _,e⟩
theorem Y8 (K:C.ok)(v:j<C.n)(u:Log.ok C l)(d:NG C l j N c)(h0:l s f.id.toNat=some (some f,j))(m:List ai)(hc:c<=4000000000):StepN C l j N (mo N f m (BitVec.ofNat 32 (s+1))).2 c 2:=by
 obtain⟨G,-,y,L,M,o,-,O,Q,R⟩:=u.here _ _ _ _ h0;have a:=Lf d.B (BitVec.ofNat 32 (s+1)) N.D.now;have stay:∀ {B:BkS},B.ok->StepN C l j N {N with B:=B} c 2:=fun T=>(StepN.dev d u (D:=N.D) (k:=0) d.D rfl T).up ah
 unfold mo;by_cases H:N.D.busy=true/\¬ ik (gV N.D.secret (BitVec.ofNat 32 (s+1)) N.D.now) (f.text++bX N.D.pub f.text) 16=m
 ·rw[if_pos H];have h:=d.D;have b:=h.ok;have p:DG C l j {N.D with fresh:=N.D.fresh+1#64} c:=⟨⟨b.own,b.pub,b.seed,b.best,b.secret,b.now,b.firsts,b.out,b.got⟩,h.here,h.own,h.best,h.ix,h.new,h.out⟩;have U:MsgG C l j s (dj N.D.pub (N.D.keyV.take 24) (gV N.D.secret (BitVec.ofNat 32 (s+1)) N.D.now) f.text (bX N.D.pub f.text)):=by
   rw[h.pub];exact .reply f _ _ h0 (by rw[br,(N.D.keyV_spec b.seed).2];rfl) (DR _ _ b.secret)
  exact StepN.dev d u (p.goes ((p.ok.goes _ _).up aa) aa v G (fun e=>y e.symm) U) (by show(DeS.goes _ _ _).now=_;unfold DeS.goes;split <;>rfl) d.B
 rw[if_neg H];by_cases h1:¬ (iu N.B (BitVec.ofNat 32 (s+1)) N.D.now).1=0
 ·rw[if_pos h1];exact stay a
 rw[if_neg h1];by_cases h2:N.D.best<f.su
 ·rw[if_pos h2];exact stay a
 rw[if_neg h2];cases V:N.Ps.findIdx? (fun P=>decide (P.pub=aK f.own)) with
 |none=>exact stay a
 |some i=>
  dsimp only;cases I:N.Ps[i]? with
  |none=>exact stay a
  |some P=>
   dsimp only;by_cases J:P.stp=true/\¬ later f.sec f.nano P.sec P.nano
   ·rw[if_pos J];exact stay a
   rw[if_neg J];by_cases z:f.su<P.pin
   ·rw[if_pos z];exact stay a
   rw[if_neg z];obtain⟨W,q,-⟩:=sM.1 V;obtain⟨r,A⟩:=ca.1 I;have hi:i<C.n-1:=by rw[<-d.len];exact r
   have E:=d.P i r;rw[A] at E q;have q:P.pub=aK f.own:=by simpa using q
   rw[E.pub,o] at q;obtain rfl:=K.dist _ _ (uR hi v) G q;exact StepN.peer d I a (Ui v hi u d.D E h0 aa z hc)
theorem Wx (v:C.ok)(ht:t<C.n)(o:Log.ok C l)(e:NG C l t N c)(T:MsgG C l s t txt)(hc:c<=4000000000):∃ M:Msg,M.text=txt/\M.fits N/\StepN C l t N (vi N F (BitVec.ofNat 32 (s+1)) M).2 c 5:=by
 have h:=e.D.pub;cases T with
 |first f m h1 h2=>
  obtain⟨-,-,-,a,G,-⟩:=o.here _ _ _ _ h1;exact⟨.first f (aK (C.own t)) m,rfl,⟨a,G.trans e.D.own.symm,h.symm,h2⟩,(Y8 v ht o e h1 m hc).up ah⟩
 |second g m h1 h0 h2 q y U=>
  obtain⟨-,Q,-,a,-⟩:=o.here _ _ _ _ h1;have R:g.ok:=⟨a,by rw[h2];exact(v.psk s t).1,q,by rw[y];exact v.best s Q⟩;refine⟨.second g (aK (C.own t)) m,rfl,⟨R,h.symm,U,fun i P H I=>?_⟩,aao ht o e h1 h0 R y⟩;obtain⟨J,K,-,E⟩:=Eu e h1 H I;exact⟨J,by rw[E.psk,K,(v.psk t s).2,h2]⟩
 |reply f p ck h1 h2 q=>
  obtain⟨-,Q,-,a,-⟩:=o.here _ _ _ _ h1;have L:=FiP.text_length a;have O:=vK (aK (C.own s)) f.text (by rw[cB];decide) (by rw[L];decide);refine⟨.reply (aK (C.own s)) p ck f.text (bX (aK (C.own s)) f.text) f.id,rfl,⟨cB _,h2,q,aa,aa,O,FiP.text_ix a,fun i P H I=>?_⟩,(LM o e ck q).up ah⟩;obtain⟨J,K,V,E⟩:=Eu e h1 H I;have u:P.pub=aK (C.own s):=by rw[E.pub,K]
  obtain⟨-,-,m,g3,g4⟩:=E.bg f J;exact⟨u,m,g3,by rw[g4,u]⟩
 |data id x k z h0 h1 h2 q y=>
  exact⟨.data id k z,rfl,⟨⟨h1,h2⟩,q,y⟩,L7 ht o e h0 k z⟩
end
end
section
structure LG (C:Cfg) (l:Log) (L:LnS) (c A:Nat):Prop where
 lo:Log.ok C l
 len:L.N.length=C.n
 len2:L.all.length=C.n
 N:∀ j (h:j<L.N.length),NG C l j L.N[j] c
 air:∀ g∈L.air,GramG C l g
 a60:L.air.length<=60
 all:∀ al∈L.all,al.length<=A
def eV (L:LnS)(j i:Nat):Int:=((L.N[j]?).map fun N=>jn N i).getD 0
structure StepL (C:Cfg) (l:Log) (L L':LnS) (c A k:Nat):Prop where
 ex:∃ l',Log.le l l'/\LG C l' L' (c+k) A
 su:∀ j i,eV L j i<=eV L' j i
section
variable {C:Cfg}{l l' l2:Log}{j i s t c n k2 w A m:Nat}{D D':DeS}{P P':PeS}{N N':NoS}{x txt:List ai}{g:Gr}{f:FiP}{B:BkS}{L L':LnS}{k:LnK}
theorem DG.ext {j':Nat}(h:DG C l j' D c)(b:Ext j l l')(a:j'≠j):DG C l' j' D c:=⟨h.ok,h.here,h.own,h.best,h.ix,fun id hi=>by rw[b.other _ a];exact h.new id hi,fun g d=>(h.out g d).mono b.le⟩
theorem NG.ext {j':Nat}(h:NG C l j' N c)(b:Ext j l l')(a:j'≠j):NG C l' j' N c:=⟨h.D.ext b a,fun i hi=>(h.P i hi).mono b.le,h.len,h.B⟩
theorem LG.up (h:LG C l L c A)(hc:c<=n):LG C l L n A:=⟨h.lo,h.len,h.len2,fun j a=>(h.N j a).up hc,h.air,h.a60,h.all⟩
theorem StepL.refl (h:LG C l L c A)(k:Nat):StepL C l L L c A k:=⟨⟨l,fun _ _ _ e=>e,h.up (nW _ _)⟩,fun _ _=>cC _⟩
theorem StepL.up (h:StepL C l L L' c A n)(a:n<=m):StepL C l L L' c A m:=by
 obtain⟨l',h1,h2⟩:=h.ex;exact⟨⟨l',h1,h2.up aa⟩,h.su⟩
theorem OJ (b:L.N[j]?=some N)(air:List Gr)(h:∀ i,jn N i<=jn N' i):∀ j' i,eV L j' i<=eV {L with air:=air,N:=L.N.set j N'} j' i:=fun j' i=>by
 obtain⟨a,d⟩:=ca.1 b;unfold eV;show _<=(((L.N.set j N')[j']?).map fun N=>jn N i).getD 0;by_cases e:j'=j
 ·subst e;rw[kL a,b];exact h i
 ·rw[mF (fun h=>e h.symm)];exact cC _
theorem LG.node (h:LG C l L c A)(d:L.N[j]?=some N){air:List Gr}(o:∀ g∈air,g∈L.air)(a:air.length<=60)(p:∃ l',Ext j l l'/\Log.ok C l'/\NG C l' j N' (c+n)):∃ l',Log.le l l'/\LG C l' {L with air:=air,N:=L.N.set j N'} (c+n) A:=by
 obtain⟨q,y⟩:=ca.1 d;obtain⟨l',b,r,u⟩:=p;refine⟨l',b.le,r,by show(L.N.set j N').length=_;rw[aY];exact h.len,h.len2,fun j' h1=>?_,fun g v=>(h.air g (o g v)).mono b.le,a,h.all⟩;have h1':j'<L.N.length:=by
  have h1:j'<(L.N.set j N').length:=h1;rw[aY] at h1;exact h1
 show NG C l' j' (L.N.set j N')[j'] (c+n);by_cases e:j'=j
 ·subst e;rw[sR];exact u
 ·rw[uT (fun h=>e h.symm)];exact((h.N j' h1').ext b e).up (nW _ _)
theorem StepL.node (h:LG C l L c A)(b:L.N[j]?=some N){air:List Gr}(e:∀ g∈air,g∈L.air)(a:air.length<=60)(d:StepN C l j N N' c n):StepL C l L {L with air:=air,N:=L.N.set j N'} c A n:=⟨h.node b e a d.ex,OJ b air d.su⟩
theorem rK {a:Int}{i:Nat}(hi:i<=L.N.length)(j:Nat):(kV a L i).N[j]?=if j<i then(L.N[j]?).map fun N=>(fW N a).2 else L.N[j]?:=by
 have b:((L.N.take i).map (fun N=>(fW N a).2)).length=i:=by simp;omega
 show((L.N.take i).map (fun N=>(fW N a).2)++L.N.drop i)[j]?=_;by_cases h:j<i
 ·rw[if_pos h,gh aa,ci,sP h]
 ·rw[if_neg h,dL aa,b,il];congr 1;omega
theorem IX (r:C.ok)(h:LG C l L c A)(hc:c<=3000000000)(a:Int):∀ i,i<=L.N.length->∃ l',Log.le l l'/\Log.ok C l'/\(∀ j N,(kV a L i).N[j]?=some N->NG C l' j N (c+4))/\(∀ j N,i<=j->L.N[j]?=some N->NG C l' j N c)/\∀ j p,eV L j p<=eV (kV a L i) j p
 |0,_=>⟨l,fun _ _ _ e=>e,h.lo,fun j N d=>by
   rw[rK (fg _),if_neg aa] at d;obtain⟨b,rfl⟩:=ca.1 d;exact(h.N j b).up aa,fun j N _ d=>by
   obtain⟨b,rfl⟩:=ca.1 d;exact h.N j b,fun j p=>by
   unfold eV;rw[rK (fg _),if_neg aa];exact cC _⟩
 |i+1,hi=>by
  obtain⟨l1,v,y,z,u,E⟩:=IX r h hc a i aa;have b:i<L.N.length:=aa;have q:=u i _ (aH _) (aF b);obtain⟨l2,f1,f2,f3,f4⟩:=OY r (j:=i) (by rw[<-h.len];exact b) y q hc a;refine⟨l2,fun s id x e=>f1.le _ _ _ (v _ _ _ e),f2,fun j N d=>?_,fun j N F d=>(u j N aa d).ext f1 aa,fun j p=>?_⟩
  ·by_cases o:j=i
   ·subst o;rw[rK hi,if_pos aa,aF b] at d;cases d;exact f3
   ·have :(kV a L i).N[j]?=some N:=by
     rw[rK hi] at d;rw[rK aa];by_cases h1:j<i
     ·rw[if_pos aa] at d;rw[if_pos h1];exact d
     ·rw[if_neg aa] at d;rw[if_neg h1];exact d
    exact(z j N this).ext f1 o
  ·refine wR (E j p) ?_;unfold eV;rw[rK hi,rK aa];by_cases o:j=i
   ·subst o;rw[if_neg aa,if_pos aa,aF b];exact f4 p
   ·by_cases h1:j<i
    ·rw[if_pos h1,if_pos aa];exact cC _
    ·rw[if_neg h1,if_neg aa];exact cC _
theorem Nl (I:C.ok)(h:LG C l L c A)(hk:k.xs.length=C.n)(X:k.cs.length=C.n)(hc:c<=3000000000)(a:ActP)(Y:a.kind≠6):∃ M,(a.kind=3->0<=a.A->uD k L a.A.toNat M)/\StepL C l L (gO k L a M).2 c A 5:=by
 have z:=h.len;have hn:=I.n;obtain⟨kind,d,R,aC,src,dst,txt⟩:=a;dsimp only at Y |-
 by_cases K:kind=3/\0<=d/\d<L.air.length
 ·obtain⟨rfl,g1,g2⟩:=K;have o:d.toNat<L.air.length:=aa;obtain⟨s,t,q1,Z,q3,q4,S,q6⟩:=h.air _ (dd o);have a1:(L.air[d.toNat].2.1).toNat=t+1:=by rw[S];simp;omega
  have E:(L.air[d.toNat].2.1-1#32).toNat=t:=by
   rw[S];have :BitVec.ofNat 32 (t+1)-1#32=BitVec.ofNat 32 t:=by
    apply eE;rw[uv];simp;omega
   rw[this];simp;omega
  have p:t<L.N.length:=aa;obtain⟨M,m1,m2,m3⟩:=Wx (F:=(k.cs[t]'(aa)).F) I Z h.lo (h.N t p) q6 aa;refine⟨M,fun _ _ g b=>?_,?_⟩
  ·rw[aF o] at b;cases b;refine⟨aa,aa,m1.symm,fun N T=>?_⟩;rw[E,aF p] at T;cases T;exact m2
  ·have e:(gO k L ⟨3,d,R,aC,src,dst,txt⟩ M).2={L with air:=L.air.eraseIdx d.toNat,N:=L.N.set t (vi L.N[t] (k.cs[t]'(aa)).F L.air[d.toNat].1 M).2}:=by
    unfold gO;dsimp only;rw[if_neg ah,if_neg ah,if_pos ah,if_neg aa];unfold rZ;rw[aF o];dsimp only;rw[if_neg ah,if_neg ah,E,aF p,aF aa]
   rw[e,q4];exact StepL.node h (aF p) (fun g b=>List.mem_of_mem_eraseIdx b) (by rw[Br o];have :=h.a60;omega) m3
 refine⟨.data 0#32 0 [],fun J O g b=>absurd ⟨J,O,by have :=(ca.1 b).1;omega⟩ K,?_⟩;unfold gO;dsimp only;by_cases G:kind=1\/kind=7
 ·rw[if_pos G];by_cases U:d<0\/(L.N.length:Int)<=d
  ·rw[if_pos U];exact StepL.refl h 5
  rw[if_neg U];have q:d.toNat<L.N.length:=aa;rw[aF q,aF (show d.toNat<k.cs.length by omega)];dsimp only;have r:=h.N _ q;by_cases h1:kind=1
  ·rw[if_pos h1];exact(StepL.node h (aF q) (air:=L.air) (fun g b=>b) h.a60 (agm I aa h.lo r hc _ src dst txt)).up ah
  ·rw[if_neg h1];have y:=r.D;have u:=y.ok;exact(StepL.node h (aF q) (air:=L.air) (fun g b=>b) h.a60 (StepN.dev r h.lo (k:=0) (D:={L.N[d.toNat].D with busy:=decide (R=1)}) ⟨⟨u.own,u.pub,u.seed,u.best,u.secret,u.now,u.firsts,u.out,u.got⟩,y.here,y.own,y.best,y.ix,y.new,y.out⟩ rfl r.B)).up ah
 rw[if_neg G];by_cases h2:kind=2
 ·rw[if_pos h2];obtain⟨l',J,O,e3,-,e5⟩:=IX I h hc d L.N.length (aH _);refine⟨⟨l',J,O,(FE (aH _)).trans z,h.len2,fun j hj=>(e3 j _ (aF hj)).up aa,fun g b=>(h.air g b).mono J,h.a60,h.all⟩,e5⟩
 rw[if_neg h2];by_cases v:kind=3\/kind=4\/kind=5
 rotate_left
 ·rw[if_neg v];exact StepL.refl h 5
 rw[if_pos v];by_cases V:d<0\/(L.air.length:Int)<=d
 ·rw[if_pos V];exact StepL.refl h 5
 rw[if_neg V];have a6:kind≠3:=fun e=>K ⟨e,aa,aa⟩
 have o:d.toNat<L.air.length:=aa;unfold rZ;rw[aF o];dsimp only;have same:∀ (air:List Gr),(∀ g∈air,g∈L.air)->air.length<=60->StepL C l L {L with air:=air} c A 5:=fun air ha Q=>⟨⟨l,fun _ _ _ e=>e,(show LG C l {L with air:=air} c A from⟨h.lo,h.len,h.len2,h.N,fun g b=>h.air g (ha g b),Q,h.all⟩).up aa⟩,fun _ _=>cC _⟩
 by_cases W:kind=5
 ·rw[if_pos W];by_cases H:L.air.length=60
  ·rw[if_pos H];exact StepL.refl h 5
  ·rw[if_neg H];refine same _ (fun g b=>?_) (by have :=h.a60;simp;omega);rcases eB.1 b with b|b
   ·exact b
   ·rw[lh] at b;subst b;exact dd o
 ·rw[if_neg W,if_pos aa];exact same _ (fun g b=>List.mem_of_mem_eraseIdx b) (by rw[Br o];have :=h.a60;omega)
end
end
end Go.Vm
end
section
namespace Go.Vm
open Go.Proofs Go.Proofs.Tryz
section
section
variable {C:Cfg}{l l' l2:Log}{j i s t c n k2 w A m:Nat}{D D':DeS}{P P':PeS}{N N':NoS}{x txt:List ai}{g:Gr}{f:FiP}{B:BkS}{L L':LnS}{k:LnK}{al:List Pk}
theorem NG.clear (h:NG C l j N c):NG C l j {N with D:={N.D with out:=[],got:=[]}} c:=by
 have b:=h.D;have a:=b.ok;exact⟨⟨⟨a.own,a.pub,a.seed,a.best,a.secret,a.now,a.firsts,fg _,fg _⟩,b.here,b.own,b.best,b.ix,b.new,(fun _ h=>nomatch h)⟩,h.P,h.len,h.B⟩
theorem IL (h:LG C l L c A):∀ i,i<=L.N.length->(∀ (j:Nat) (N:NoS),(di L i).N[j]?=some N->NG C l j N c)/\(∀ g∈(di L i).air,GramG C l g)/\(∀ (j:Nat) (al:List Pk),(di L i).all[j]?=some al->al.length<=A+c)/\∀ j p,eV (di L i) j p=eV L j p
 |0,_=>⟨fun j N a=>by obtain⟨b,rfl⟩:=ca.1 a;exact h.N j b,h.air,fun j al a=>fF (h.all _ (kP a)) (nW _ _),fun _ _=>rfl⟩
 |i+1,hi=>by
  obtain⟨y,z,E,F⟩:=IL h i aa;have b:i<L.N.length:=aa;have d:i<L.all.length:=by rw[h.len2,<-h.len];exact b
  have g1:=(tp (L:=L) (aH i)).1.trans (aF b);have g2:=(tp (L:=L) (aH i)).2.trans (aF d);have o:=y i _ g1;have G:=h.all _ (dd d);generalize L.N[i]=N0 at*;generalize L.all[i]=q at*;have I:di L (i+1)={N:=(di L i).N.set i {N0 with D:={N0.D with out:=[],got:=[]}},air:=((di L i).air++N0.D.out).take 60,all:=(di L i).all.set i (q++N0.D.got)}:=Ho g1 g2;have r:=(ca.1 g1).1;have v:=(ca.1 g2).1;rw[I];generalize di L i=M at*;refine⟨fun j N a=>?_,fun g u=>?_,fun j al a=>?_,fun j p=>?_⟩
  ·have a:(M.N.set i {N0 with D:={N0.D with out:=[],got:=[]}})[j]?=some N:=a;by_cases e:j=i
   ·subst e;rw[kL r] at a;cases a;exact o.clear
   ·rw[mF (fun h=>e h.symm)] at a;exact y j N a
  ·rcases eB.1 (AY u) with u|u
   ·exact z g u
   ·exact o.D.out g u
  ·have a:(M.all.set i (q++N0.D.got))[j]?=some al:=a;by_cases e:j=i
   ·subst e;rw[kL v] at a;cases a;have :=o.D.ok.got;rw[aE];omega
   ·rw[mF (fun h=>e h.symm)] at a;exact E j al a
  ·rw[<-F j p];unfold eV;show(((M.N.set i {N0 with D:={N0.D with out:=[],got:=[]}})[j]?).map fun N=>jn N p).getD 0=_;by_cases e:j=i
   ·subst e;rw[kL r,g1];rfl
   ·rw[mF (fun h=>e h.symm)]
theorem LG.gath (h:LG C l L c A):LG C l (di L L.N.length) c (A+c)/\∀ j b,eV (di L L.N.length) j b=eV L j b:=by
 obtain⟨d,e,o,p⟩:=IL h L.N.length (aH _);exact⟨⟨h.lo,(zP _).1.trans h.len,(zP _).2.trans h.len2,fun j a=>d j _ (aF a),e,A5 h.a60 _,fun al q=>by obtain⟨j,a,rfl⟩:=mK q;exact o j _ (aF a)⟩,p⟩
theorem Oz (e:C.ok)(h:LG C l L c A)(o:k.xs.length=C.n)(b:k.cs.length=C.n)(hc:c<=3000000000)(a:ActP)(p:a.kind≠6):∃ M,(a.kind=3->0<=a.A->uD k L a.A.toNat M)/\(∃ l',Log.le l l'/\LG C l' (gO k L a M).2 (c+5) A/\LG C l' (oQ k L a M).2 (c+5) (A+(c+5)))/\∀ j i,eV L j i<=eV (oQ k L a M).2 j i:=by
 obtain⟨M,h1,⟨l',q,d⟩,r⟩:=Nl e h o b hc a p;obtain⟨g1,g2⟩:=d.gath;exact⟨M,h1,⟨l',q,d,g1⟩,fun j i=>by show _<=eV (di _ _) j i;rw[g2];exact r j i⟩
variable {K K0 K':RK}{H H0 H':List (Option Blk)}{Q0 Q:Rl->Prop}
theorem LG.ok (d:C.ok)(h:LG C l L c A):L.ok c:=⟨fun N a=>by obtain⟨j,b,rfl⟩:=mK a;exact(h.N j b).ok,fun N a=>by obtain⟨j,b,rfl⟩:=mK a;exact(h.N j b).pos d,h.a60⟩
theorem afg (o:Cx K0 H0 Q0 K H)(r:LnAt K H k L)(F:k.ok)(u:C.ok)(h:LG C l L c A)(y:k.xs.length=C.n)(hc:c<=800000000)(T:A<=6400000000000)(a:ActP)(z:a.kind≠6)(G:-9223372036854775808<=a.A/\a.A<9223372036854775808):
  ∃ v K' H',Dx prog 10 [.ptr k.l 0,.agg [.i64 a.kind,.i64 a.A,.i64 a.B,.i64 a.C,.u32 a.src,.u32 a.dst,.str a.txt]] K H qT v K' H'/\(∃ e L',v= .i64 e/\LnAt K' H' k L'/\(∃ l',Log.le l l'/\LG C l' L' (c+5) (A+(c+5)))/\∀ j i,eV L j i<=eV L' j i):=by
 obtain⟨M,h1,⟨l',I,p,J⟩,O⟩:=Oz u h y (by rw[r.l1,y]) aa a z;obtain⟨v,K',H',g1,rfl,g3⟩:=EO o r F (h.ok u) aa a z G M h1 (fun i N al R S=>by
  obtain⟨q,rfl⟩:=ca.1 R;have E:=(p.N i q).D.ok;have :=E.got;have :=E.out;have :=p.all _ (kP S);omega) p.a60
 exact⟨_,K',H',g1,_,_,rfl,g3,⟨l',I,J⟩,O⟩
end
end
end Go.Vm
end
section
namespace Go.Vm
open Go.Proofs
def AllOwn (P:Int->Prop)(A:List Nd):Prop:=∀ nd∈A,nd.is=true->P nd.owner
theorem AllOwn.leaf {P:Int->Prop}:AllOwn P [leaf]:=fun nd h e=>by
 rw[lh] at h;subst h;cases e
theorem AllOwn.get {P:Int->Prop}{A:List Nd}(h:AllOwn P A)(c:Nat):(A.getD c Vm.leaf).is=true->P (A.getD c Vm.leaf).owner:=fun e=>by
 rw[aW] at e |-
 cases hc:A[c]? with
 |none=>rw[hc] at e;cases e
 |some nd=>rw[hc] at e;exact h nd (kP hc) e
theorem AllOwn.set {P:Int->Prop}{A:List Nd}(h:AllOwn P A)(c:Nat)(nd:Nd)(b:nd.is=true->P nd.owner):AllOwn P (A.set c nd):=fun x a e=>by
 rcases Ae a with a|rfl
 ·exact h x a e
 ·exact b e
theorem AllOwn.step {P:Int->Prop}{x:List Nd×Nat}(h:AllOwn P x.1)(b:Bool):AllOwn P (b9 x b).1:=by
 unfold b9;split
 ·intro nd a e;rcases eB.1 a with a|a
  ·refine h.set x.2 _ (fun c=>?_) nd a e;unfold Nd.setKid at c |-
   split at c
   ·rw[if_pos (by assumption)];exact h.get x.2 c
   ·rw[if_neg (by assumption)];exact h.get x.2 c
  ·exact AllOwn.leaf nd a e
 ·exact h
theorem AllOwn.steps {P:Int->Prop}:∀ (p:List Bool) {x:List Nd×Nat},AllOwn P x.1->AllOwn P (p.foldl b9 x).1
 |[],_,h=>h
 |b::p,_,h=>AllOwn.steps p (h.step b)
theorem AllOwn.setA {P:Int->Prop}{A:List Nd}(h:AllOwn P A)(a:BitVec 32)(n:Nat)(p:Int)(b:P p):AllOwn P (setA A a n p):=(AllOwn.steps (x:=(A,0)) _ h).set _ _ fun _=>b
theorem AllOwn.arN (L:List PaS):∀ m:Nat,AllOwn (fun o=>0<=o/\o<(m:Int)) (Vm.arN L m)
 |0=>AllOwn.leaf
 |m+1=>by
  have h:AllOwn (fun o=>0<=o/\o<((m+1:Nat):Int)) (Vm.arN L m):=fun nd a e=>by
   have :=AllOwn.arN L m nd a e;omega
  exact h.setA _ _ _ aa
theorem S9 (L:List PaS)(m:Nat)(a:BitVec 32)(h:(oX (arN L m) a).2=true):0<=(oX (arN L m) a).1/\(oX (arN L m) a).1<m:=
 adK (P:=fun o=>0<=o/\o<(m:Int)) (AllOwn.arN L m).get _ _ _ (fun h=>Bool.noConfusion h) h
theorem FOf.ok {seed:List ai}{n:Nat}{k:LnK}(h:FOf seed n k.cs)(d:n=2\/n=3)(e:k.xs.length=n):k.ok:=⟨aa,fun c hc a b=>by
 obtain⟨i,hi,rfl⟩:=mK hc;obtain⟨h1,h2⟩:=h i hi;rw[h1] at b |-
 rw[h2];exact S9 _ _ a b⟩
theorem aav:newB.ok:=by
 unfold newB;exact⟨⟨⟨ae,ae,ae⟩,ae⟩,by show(0:Int)<=0/\(0:Int)<=1099511627776;omega⟩
noncomputable def zp (seed:List ai) (bs:List Int):Cfg:=⟨bs.length,fun j=>bs.getD j 0,fun j=>dq seed j,fun j k=>dq seed (20+(j:Int)+(k:Int))⟩
theorem KA (seed:List ai){i n:Nat}(a:n=2\/n=3)(hi:i<n):∀ (k:Nat) (h:k<(eQ seed i n).length),(eQ seed i n)[k]=jO seed i (bF i k):=by
 rcases a with rfl|rfl
 ·have :i=0\/i=1:=aa;rcases this with rfl|rfl
  all_goals
   intro k h;have b:k<1:=by rw[sJ] at h;exact h
   obtain rfl:k=0:=aa;rfl
 ·have :i=0\/i=1\/i=2:=aa;rcases this with rfl|rfl|rfl
  all_goals
   intro k h;have b:k<2:=by rw[sJ] at h;exact h
   have :k=0\/k=1:=aa;rcases this with rfl|rfl<;>rfl
theorem zU {seed:List ai}{bs:List Int}(h:¬ pE seed bs):(zp seed bs).ok:=by
 have h1:seed.length=32:=pX fun e=>h (.inl e)
 have c:bs.length=2\/bs.length=3:=by
  have h2:¬ bs.length<2:=fun e=>h (.inr (.inl e))
  have m:¬ 3<bs.length:=fun e=>h (.inr (.inr (.inl e)))
  omega
 have d:∀ j,j<bs.length->¬ BP seed bs j:=fun j a e=>h (.inr (.inr (.inr ⟨j,a,e⟩)))
 refine⟨c,fun j a=>pX fun e=>d j a (.inl e),fun j=>(lS h1 _).2,fun j k=>⟨(lS h1 _).2,by show dq seed _=dq seed _;congr 1;omega⟩,fun j k a f e=>pX fun g=>?_⟩;have a:j<bs.length:=a;have f:k<bs.length:=f;have e:aK (dq seed j)=aK (dq seed k):=e;obtain⟨x,i,b⟩:∃ x,x<bs.length-1/\bF j x=k:=by
  unfold bF;by_cases l:k<j
  ·exact⟨k,aa,by rw[if_neg aa]⟩
  ·exact⟨k-1,aa,by rw[if_pos aa];omega⟩
 refine d j a (.inr ⟨x,by rw[sJ,if_neg aa];exact i,.inl ?_⟩);rw[KA seed c a,b];exact e.symm
theorem IM {seed:List ai}{bs:List Int}(h:¬ pE seed bs):LG (zp seed bs) (fun _ _=>none) (jY seed bs) 0 0:=by
 have p:=zU h;have h1:seed.length=32:=pX fun e=>h (.inl e)
 have d:bs.length=2\/bs.length=3:=p.n;have a:(jY seed bs).N.length=bs.length:=by simp[jY]
 refine⟨⟨fun s id f t e=>nomatch e⟩,a,by simp[jY,zp],fun j c=>?_,(fun g q=>nomatch q),fg _,fun al k=>?_⟩
 ·rw[a] at c;rw[E8];have r:=(lS h1 (j:Int)).2;have b:=(lS h1 ((j:Int)+10)).2;have u:=p.best j c;have l:(gX (eQ seed j bs.length)).length=bs.length-1:=by rw[qH,sJ,if_neg aa]
  refine⟨⟨⟨r,rfl,b,u,(DeS.keyV_spec _ b).2,by show(0:Int)<=0/\(0:Int)<=1099511627776;omega,by show(0:Int)<=0/\(0:Int)<=((0:Nat):Int);omega,fg _,fg _⟩,?_,rfl,rfl,fg _,fun _ _=>rfl,(fun _ h=>nomatch h)⟩,fun i hi=>?_,l,aav⟩
  ·show BitVec.ofInt 32 (ao ((j:Int)+1))=BitVec.ofNat 32 (j+1);have :j=0\/j=1\/j=2:=by have v:bs.length=2\/bs.length=3:=d;omega
   rcases this with rfl|rfl|rfl<;>decide
  ·have hi:i<(gX (eQ seed j bs.length)).length:=hi;show PG _ _ j i (gX (eQ seed j bs.length))[i];rw[wm,KA seed d c];have w:bF j i<3:=by
    have :=uR (j:=j) (i:=i) (n:=bs.length) aa c;have v:bs.length=2\/bs.length=3:=d;omega
   have m:=(lS h1 ((bF j i:Nat):Int)).2;have o:=(lS h1 (20+(j:Int)+((bF j i:Nat):Int))).2;refine⟨⟨m,rfl,o,.inl rfl,.inl rfl,.inl rfl,by show(0:Int)<=0/\(0:Int)<=2099511627776;omega,fg _,(fun _ h=>nomatch h),(fun _ h=>nomatch h),fg _,(fun _ h=>nomatch h),(fun _ h=>nomatch h),(fun _ h=>nomatch h),⟨cC _,by show(0:Int)<=6;omega,by show(0:Int)<=0/\(0:Int)<=1099511627776;omega,by show(0:Int)<=0/\(0:Int)<=1099511627776;omega⟩⟩,rfl,rfl,rfl,?_,.inl rfl,(fun _ h=>nomatch h),(fun _ h=>nomatch h),(fun _ h=>nomatch h),fun S e=>?_⟩
   ·show BitVec.ofInt 32 (ao (((bF j i:Nat):Int)+1))=BitVec.ofNat 32 (bF j i+1);generalize bF j i=t at*;have :t=0\/t=1\/t=2:=aa;rcases this with rfl|rfl|rfl<;>decide
   ·rcases e with e|e|e<;>cases e
 ·have :al=[]:=by
   have k:al∈List.replicate bs.length []:=k;exact List.eq_of_mem_replicate k
  rw[this];exact fg _
end Go.Vm
end
section
namespace Go.Vm
open Go.Proofs Go.Proofs.Tryz
section
def kn:RK:=fun _=>none
section
variable {K K0 K':RK}{H H0 H':List (Option Blk)}{Q0 Q:Rl->Prop}{k:LnK}{L:LnS}{bv av:V}{bs:List Int}{seed:List ai}{C:Cfg}{l:Log}{n:Nat}
theorem Cx.drop (h:Cx K0 H0 qT K H):Cx K0 H0 qT kn H:=⟨h.len,h.keep,fun _ _ _ a=>(a trivial).elim,fun _ _ _ e=>(nomatch e),h.ro,h.sane,fun _ _=>rfl,h.old⟩
theorem DT (a:Sane H):Cx kn H qT kn H:= .refl a (fun _ _=>rfl) _
def BvAt (H:List (Option Blk))(bv:V)(bs:List Int):Prop:=(bs=[]/\(bv= .nilSlice\/∃ a,bv= .slice a 0 0 1/\a<H.length))\/∃ a ro,bv= .slice a 0 bs.length 1/\ag H a=some ⟨ro,bs.map V.i64,none⟩
theorem BvAt.low (h:BvAt H bv bs):bv.low H.length:=by
 rcases h with⟨-,rfl|⟨a,rfl,h⟩⟩|⟨a,ro,rfl,h⟩
 ·trivial
 ·exact h
 ·exact aU h
theorem BvAt.keep (h:BvAt H bv bs)(b:Cx kn H Q K' H'):BvAt H' bv bs:=by
 rcases h with⟨h,h1|⟨a,rfl,h1⟩⟩|⟨a,ro,rfl,h⟩
 ·exact .inl ⟨h,.inl h1⟩
 ·exact .inl ⟨h,.inr ⟨a,rfl,mw h1 b.len⟩⟩
 ·exact .inr ⟨a,ro,rfl,(b.getN rfl (aU h)).trans h⟩
theorem Pz (d:Cx K0 H0 Q0 K H)(seed:List ai){c:Nat}(e:c<H.length):
  ∃ v K' H',Dx prog 16 [.slice c 0 0 1,.str seed] K H qT v K' H'/\sS seed [] v K' H':=by
 have b:=(d.start qT).junk (vs:=[.str seed]) (mm:=none) (by simp[af,V.low]);refine bV (Q:=qT) (Post:=sS seed []) ac (fn:=f16) func16 rfl am (ak ?_);simp -implicitDefEqProofs only[go_sem,seval,eY];repeat refine aI ?_
 by_cases f:seed.length=32
 rotate_left
 ·have a:¬ (seed.length:Int)=32:=aa;simp -implicitDefEqProofs only[go_sem,seval,a,not_false_eq_true,decide_true];repeat refine aI ?_
  exact Ex.of b (by simp[af,V.low]) (.inl ⟨.inl f,1,ah,rfl⟩)
 have a:(seed.length:Int)=32:=aa;simp -implicitDefEqProofs only[go_sem,seval,a,not_true,decide_false];repeat refine aI ?_
 exact Ex.of b (by simp[af,V.low]) (.inl ⟨.inr (.inl ah),1,ah,rfl⟩)
theorem JD (a:Sane H)(c:BvAt H bv bs)(seed:List ai):∃ v K' H',Dx prog 16 [bv,.str seed] kn H qT v K' H'/\sS seed bs v K' H':=by
 rcases c with⟨rfl,rfl|⟨b,rfl,h⟩⟩|⟨b,ro,rfl,h⟩
 ·exact JY (DT a) (fun _=>rfl) seed (bs:=[]) (ro:=true) (.inl ⟨rfl,rfl⟩)
 ·exact Pz (DT a) seed h
 ·exact JY (DT a) (fun _=>rfl) seed (.inr ⟨b,rfl,h⟩)
def zL:ActP:=⟨0,0,0,0,0#32,0#32,[]⟩
theorem aaD (j:Cx K0 H0 Q0 K H)(m:LnAt K H k L)(o:k.ok)(a:C.ok)(h:LG C l L 0 0):∃ v K' H',Dx prog 10 [.ptr k.l 0,.agg [.i64 0,.i64 0,.i64 0,.i64 0,.u32 0#32,.u32 0#32,.str []]] K H qT v K' H'/\(v= .i64 1/\LnAt K' H' k (di L L.N.length)):=
 by
 have b:gO k L zL (.data 0#32 0 [])=(1,L):=by
  unfold gO zL;dsimp only;rw[if_neg ah,if_neg ah,if_neg ah]
 have p:oQ k L zL (.data 0#32 0 [])=(1,di L L.N.length):=by unfold oQ;rw[b]
 have :=EO j m o (h.ok a) ah zL ah ah (.data 0#32 0 []) (fun e=>by cases e) (fun i N al c d=>by
  rw[b] at c d;dsimp only at c d;obtain⟨f,rfl⟩:=ca.1 c;have g:=(h.N i f).D.ok;have :=g.got;have :=g.out;have :=h.all _ (kP d);omega) (by rw[b];exact h.a60)
 rw[p] at this;exact this
structure MadeX (seed:List ai) (bs:List Int) (K:RK) (H:List (Option Blk)) (k:LnK):Prop where
 ok:k.ok
 x:k.xs.length=bs.length
 F:FOf seed bs.length k.cs
 at_:LnAt K H k (di (jY seed bs) (jY seed bs).N.length)
def Lw (seed:List ai)(bs:List Int):V->RK->List (Option Blk)->Prop:=fun v K' H'=>(pE seed bs/\v= .nilPtr)\/(¬ pE seed bs/\∃ k:LnK,v= .ptr k.l 0/\MadeX seed bs K' H' k)
theorem ZV (g:Sane H)(i:BvAt H bv bs)(seed:List ai):∃ v K' H',Dx prog 5 [bv,.str seed] kn H qT v K' H'/\Lw seed bs v K' H':=by
 have f:=i.low;refine bV (Q:=qT) (Post:=Lw seed bs) ac (fn:=f5) func5 rfl am (ak ?_);simp -implicitDefEqProofs only[go_sem,seval];repeat refine aI ?_
 refine bA (JD g i seed) ac rfl (by simp[af,V.low,f]) g ?_;rintro _ K1 H1 b q r;rcases r with⟨a,e,s,rfl⟩|⟨a,k,rfl,j,m,o⟩
 ·simp -implicitDefEqProofs only[go_sem,seval,s,ne_eq,not_false_eq_true,decide_true];repeat refine aI ?_
  exact Ex.of b trivial (.inl ⟨a,rfl⟩)
 have t:bs.length=2\/bs.length=3:=(zU a).n;have p:=o.ok t j;simp -implicitDefEqProofs only[go_sem,seval];repeat refine aI ?_
 refine bA (aaD b m p (zU a) (IM a)) ac rfl (by simp[af,V.low,b.lt m.kl]) b.sane ?_;rintro _ K2 H2 c u ⟨rfl,d⟩;simp -implicitDefEqProofs only[go_sem,seval];repeat refine aI ?_
 exact Ex.of (b.call c fun _ h=>h) (c.lt d.kl) (.inr ⟨a,k,rfl,p,j,o,d⟩)
theorem Yc (f:Sane H)(g:BvAt H bv bs)(seed:List ai)(b:pE seed bs):∃ v K' H',Dx prog 6 [bv,.str seed] kn H qT v K' H'/\v= .bool true:=by
 have c:=g.low;refine bV (Q:=qT) (Post:=fun v K' H'=>v= .bool true) ac (fn:=f6) func6 rfl am (ak ?_);simp -implicitDefEqProofs only[go_sem,seval];repeat refine aI ?_
 refine bA (JD f g seed) ac rfl (by simp[af,V.low,c]) f ?_;rintro _ K1 H1 d h i;rcases i with⟨-,e,j,rfl⟩|⟨a,-⟩
 rotate_left
 ·exact absurd b a
 simp -implicitDefEqProofs only[go_sem,seval,j,ne_eq,not_false_eq_true,decide_true];repeat refine aI ?_
 exact Ex.of d trivial rfl
def AcAt (H:List (Option Blk))(av:V)(as_:List ActP):Prop:=(av= .nilSlice/\as_=[])\/∃ b,av= .slice b 0 as_.length 7/\b<H.length/\(0<as_.length->∃ ro,ag H b=some ⟨ro,(as_.map fun a=>[V.i64 a.kind,.i64 a.A,.i64 a.B,.i64 a.C,.u32 a.src,.u32 a.dst,.str a.txt]).flatten,none⟩)
theorem AcAt.low {as_:List ActP}(h:AcAt H av as_):av.low H.length:=by
 rcases h with⟨rfl,-⟩|⟨b,rfl,h,-⟩
 ·trivial
 ·exact h
theorem AcAt.keep {as_:List ActP}(h:AcAt H av as_)(a:∀ b,b<H.length->ag H' b=ag H b)(c:H.length<=H'.length):AcAt H' av as_:=by
 rcases h with h|⟨b,rfl,h,h1⟩
 ·exact .inl h
 ·exact .inr ⟨b,rfl,aa,fun h0=>by obtain⟨ro,h2⟩:=h1 h0;exact⟨ro,(a b h).trans h2⟩⟩
theorem Ca:∀ {as_:List ActP} {i:Nat} (h:i<as_.length),((as_.map fun a=>[V.i64 a.kind,.i64 a.A,.i64 a.B,.i64 a.C,.u32 a.src,.u32 a.dst,.str a.txt]).flatten.drop (i*7)).take 7=[V.i64 as_[i].kind,.i64 as_[i].A,.i64 as_[i].B,.i64 as_[i].C,.u32 as_[i].src,.u32 as_[i].dst,.str as_[i].txt]
 |a::as_,0,_=>rfl
 |a::as_,i+1,h=>by
  have :=Ca (as_:=as_) (i:=i) (by simpa using h);rw[show(i+1)*7=i*7+1+1+1+1+1+1+1 by omega];exact this
theorem KM (as_:List ActP):((as_.map fun a=>[V.i64 a.kind,.i64 a.A,.i64 a.B,.i64 a.C,.u32 a.src,.u32 a.dst,.str a.txt]).flatten).length=as_.length*7:=by
 induction as_ with
 |nil=>rfl
 |cons a as_ ih=>rw[bN,qo,aE,ih];simp;omega
end
end
section
section
variable {K K0 K':RK}{H H0 H':List (Option Blk)}{Q0 Q:Rl->Prop}{k:LnK}{L:LnS}{bv av:V}{bs:List Int}{seed:List ai}{C:Cfg}{l:Log}{n:Nat}{as_:List ActP}
theorem Uw (D:Cx K0 H0 Q0 K H)(E:AcAt H av as_)(P:as_.length<=900000000000):
  ∃ v K' H',Dx prog 7 [av] K H (fun _=>False) v K' H'/\v= .bool (decide (∀ a∈as_,a.kind≠6)):=by
 have G:=E.low;generalize w:decide (∀ a∈as_,a.kind≠6)=R;refine bV (Q:=fun _=>False) (Post:=fun v K' H'=>v= .bool R) ac (fn:=f7) func7 rfl am (ak ?_);simp -implicitDefEqProofs only[go_sem,seval];rcases E with⟨rfl,rfl⟩|⟨b,rfl,I,J⟩
 ·simp -implicitDefEqProofs only[go_sem,seval];repeat refine aI ?_
  refine dz 1 ?_;simp -implicitDefEqProofs only[go_sem,seval];exact Ex.of (D.start _) trivial (by rw[<-w];rfl)
 simp -implicitDefEqProofs only[go_sem,seval];repeat refine aI ?_
 refine bq (fun j st=>∃ (i:Nat) (Hi:List (Option Blk)),i+j=as_.length/\Cx K H (fun _=>False) K Hi/\(∀ c,c<H.length->ag Hi c=ag H c)/\(∀ m (h:m<i) (h2:m<as_.length),as_[m].kind≠6)/\st=⟨[(5,.slice b 0 as_.length 7),(6,.i64 as_.length),(7,.i64 i)],Hi⟩) ?_ ?_
 ·exact bJ as_.length ⟨[(5,.slice b 0 as_.length 7),(6,.i64 as_.length),(7,.i64 (0:Nat))],H⟩ (by simp[St.get,aj]) rfl (fun _ _ h=>h) ⟨0,H,aa,D.start _,fun _ _=>rfl,fun m h=>by omega,rfl⟩
 rintro j st ⟨i,Hi,M,o,d,r,rfl⟩-;by_cases F:i<as_.length
 rotate_left
 ·have p:¬ (i:Int)<(as_.length:Int):=aa;simp -implicitDefEqProofs only[go_sem,seval,p,decide_false];repeat refine aI ?_
  have f:∀ a∈as_,a.kind≠6:=fun a N=>by
   obtain⟨m,h1,rfl⟩:=mK N;exact r m aa h1
  exact Ex.of o trivial (by rw[<-w,decide_eq_true f])
 have p:(i:Int)<(as_.length:Int):=aa;have x:(0:Int)<=(i:Int):=aa;have w1:=dw (i:=i) aa;obtain⟨ro,y⟩:=J aa;have z:=(d b I).trans y;have q:=Ca F;have s:=KM as_;have t:i*7+7<=as_.length*7:=aa;have O:Hi.length<(Hi++[bK [.i64 0,.i64 0,.i64 0,.i64 0,.u32 0#32,.u32 0#32,.str []]]).length:=ae;generalize (as_.map fun a=>[V.i64 a.kind,.i64 a.A,.i64 a.B,.i64 a.C,.u32 a.src,.u32 a.dst,.str a.txt]).flatten=rows at*;simp -implicitDefEqProofs only[go_sem,seval,p,decide_true,z,q,s,t,x,bG O];repeat refine aI ?_
 have g:=o.boxed (zs:=[.i64 0,.i64 0,.i64 0,.i64 0,.u32 0#32,.u32 0#32,.str []]) (ys:=[.i64 as_[i].kind,.i64 as_[i].A,.i64 as_[i].B,.i64 as_[i].C,.u32 as_[i].src,.u32 as_[i].dst,.str as_[i].txt]) (by simp[af,V.low]) (by simp[af,V.low]);by_cases u:as_[i].kind=6
 ·simp -implicitDefEqProofs only[go_sem,seval,u,decide_true];repeat refine aI ?_
  rw[u] at g;have f:¬ ∀ a∈as_,a.kind≠6:=fun h=>h _ (dd F) u
  exact Ex.of g trivial (by rw[<-w,decide_eq_false f])
 simp -implicitDefEqProofs only[go_sem,seval,u,decide_false];repeat refine aI ?_
 refine bx (j-1) ⟨[(5,.slice b 0 as_.length 7),(6,.i64 as_.length),(7,.i64 (i+1:Nat))],_⟩ aa (by simp[St.get,aj,w1]) rfl (fun _ _ h=>h) ⟨i+1,_,aa,g,fun c hc=>?_,fun m h h2=>?_,rfl⟩
 ·exact(lc (by have :=o.len;omega)).trans (d c hc)
 ·by_cases e:m=i
  ·subst e;exact u
  ·exact r m aa h2
end
end
section
theorem acr:qp prog 43=false:=ac
theorem M8:vE prog 43=true:=ac
attribute [go_sem] acr M8
theorem Gw {k:BitVec 32}:∀ {l l2:List (Nat×BitVec 32×Int)},bB k (l++l2)=match bB k l with
  |some n=>some n
  |none=>bB k l2
 |[],_=>rfl
 |e::l,l2=>by
  show(if e.2.1=k then some e.2.2 else bB k (l++l2))=match (if e.2.1=k then some e.2.2 else bB k l) with
   |some n=>some n
   |none=>bB k l2
  by_cases h:e.2.1=k
  ·rw[if_pos h,if_pos h]
  ·rw[if_neg h,if_neg h];exact Gw
theorem Ib {k x:BitVec 32}{n:Int}:∀ {l:List (Nat×BitVec 32×Int)},(bB k l).isSome=true->bB x (jf k n l)=if x=k then some n else bB x l
 |[],h=>by cases h
 |e::l,h=>by
  have h:(if e.2.1=k then some e.2.2 else bB k l).isSome=true:=h;show bB x (if e.2.1=k then(e.1,k,n)::l else e::jf k n l)=if x=k then some n else(if e.2.1=x then some e.2.2 else bB x l)
  by_cases h1:e.2.1=k
  ·rw[if_pos h1];show(if k=x then some n else bB x l)=_;by_cases h2:x=k
   ·rw[if_pos h2,if_pos h2.symm]
   ·rw[if_neg h2,if_neg (fun e=>h2 e.symm),if_neg (fun a=>h2 (a.symm.trans h1))]
  ·rw[if_neg h1] at h |-
   show(if e.2.1=x then some e.2.2 else bB x (jf k n l))=_;rw[Ib h];by_cases h2:x=k
   ·rw[if_pos h2,if_pos h2,if_neg (fun a=>h1 (a.trans h2))]
   ·rw[if_neg h2,if_neg h2]
theorem Z6 (m:MapC)(k x:BitVec 32)(n:Int):bB x (m.set k n).es=if x=k then some n else bB x m.es:=by
 unfold MapC.set;by_cases h:(bB k m.es).isSome=true
 ·rw[if_pos h];exact Ib h
 ·rw[if_neg h];show bB x (m.es++[(m.clock,k,n)])=_;rw[Gw];have a:bB k m.es=none:=by
   cases e:bB k m.es with
   |none=>rfl
   |some v=>rw[e] at h;exact absurd rfl h
  by_cases h2:x=k
  ·subst h2;rw[a,if_pos rfl];show(if x=x then some n else none)=_;rw[if_pos rfl]
  ·rw[if_neg h2];cases bB x m.es with
   |some v=>rfl
   |none=>show(if k=x then some n else none)=none;rw[if_neg (fun e=>h2 e.symm)]
def Was (m:MapC)(n:Nat)(L:LnS):Prop:=m.pairy/\∀ i k,i<n->k<n->(bB (pk i k) m.es.tail).getD 0<=jD L i k
theorem LN {i k a b:Nat}(h1:i<3)(h2:k<3)(d:a<3)(e:b<3)(h:pk i k=pk a b):i=a/\k=b:=by
 have :=congrArg BitVec.toNat h;unfold pk at this;rw[cx,cx,cT,cT,cT,cT] at this;omega
section
variable {C:Cfg}{l:Log}{L L':LnS}{c A i k n:Nat}{m:MapC}
theorem AI (b:n=L.N.length){i k:Nat}(d:i<n)(e:k<n):jD L i k=if i=k then 0 else eV L i (if i<k then k-1 else k):=by
 unfold jD;by_cases h:i=k
 ·rw[if_pos h,if_pos aa]
 rw[if_neg h,if_neg aa,cT];unfold eV;rw[aF aa];show ow L.N[i] _=jn L.N[i] _;unfold ow jn;have key:∀ q:Nat,(if(q:Int)<0\/(L.N[i].Ps.length:Int)<=q then(0:Int) else match L.N[i].Ps[(q:Int).toNat]? with
   |none=>0
   |some P=>match P.se with
    |none=>0
    |some S=>S.su)=gz ((L.N[i].Ps[q]?).bind PeS.se):=fun q=>by
  rw[cT];by_cases a:q<L.N[i].Ps.length
  ·rw[if_neg aa,aF a];show(match L.N[i].Ps[q].se with
    |none=>0
    |some S=>S.su)=gz L.N[i].Ps[q].se
   cases L.N[i].Ps[q].se<;>rfl
  ·rw[if_pos aa,gi aa];rfl
 have a:(if(i:Int)<(k:Int) then(k:Int)-1 else(k:Int))=(((if i<k then k-1 else k):Nat):Int):=by split <;>split <;>omega
 rw[a];exact key _
theorem aex (d:C.ok)(h:LG C l L c A)(f:i<C.n)(g:k<C.n):jD L i k<=C.best i/\jD L i k<=C.best k:=by
 have a:=h.len;have s:=d.best i f;have t:=d.best k g;rw[AI a.symm f g];by_cases e:i=k
 ·rw[if_pos e];omega
 rw[if_neg e];have o:=h.N i aa;unfold eV;rw[aF aa];show jn L.N[i] _<=_/\jn L.N[i] _<=_;unfold jn;have b:bF i (if i<k then k-1 else k)=k:=by unfold bF;split <;>split <;>omega
 generalize (if i<k then k-1 else k)=q at*;by_cases j:q<L.N[i].Ps.length
 ·rw[aF j];show gz L.N[i].Ps[q].se<=_/\gz L.N[i].Ps[q].se<=_;have p:=o.P q j;cases r:L.N[i].Ps[q].se with
  |none=>show(0:Int)<=_/\(0:Int)<=_;omega
  |some S=>
   obtain⟨-,s1,s2⟩:=p.se S r;rw[b] at s2;exact⟨s1,s2⟩
 ·rw[gi aa];show(0:Int)<=_/\(0:Int)<=_;omega
theorem Was.mono (h:Was m n L)(e:n=L.N.length)(a:n=L'.N.length)(f:∀ j i,eV L j i<=eV L' j i):Was m n L':=⟨h.1,fun i k b d=>by
 refine wR (h.2 i k b d) ?_;rw[AI e b d,AI a b d];split
 ·exact cC _
 ·exact f _ _⟩
theorem Was.set (h:Was m n L)(g:n<=3)(j:i<n)(o:k<n):Was (m.set2 (pk i k) (jD L i k)) n L:=⟨rfl,fun a b d f=>by
 show(bB (pk a b) (MapC.set ⟨m.es.tail,m.clock⟩ (pk i k) (jD L i k)).es).getD 0<=_;rw[Z6];by_cases e:pk a b=pk i k
 ·obtain⟨rfl,rfl⟩:=LN aa aa aa aa e;rw[if_pos rfl];exact cC _
 ·rw[if_neg e];exact h.2 a b d f⟩
end
end
end Go.Vm
end
