/- Proved: laws of a machine of values; no conditions but each theorem's own. -/
import Derived.WalkKit
import Derived.Deep.RegionLaw
import Derived.Lib.SliceRun
import Derived.Test.YtidjknjilnopnaaGreatDoorProg
import Derived.Test.YtidjknjilnopnaaGreatDoorXcNToXdA
set_option linter.unusedVariables false
set_option linter.unusedSimpArgs false
set_option maxRecDepth 20000
set_option maxHeartbeats 8000000
section
namespace Go.Proofs
open Go.RowKit Go.Vm
theorem XM:(Tryz.prog.info? 58).map (fun i=>i.size)=some 3:=U
def tc (k:Nat):List Value:=(Builtin.zeroCells #[.int .u32 0,.int .u32 0,.string {data:=#[]}] k).toList
theorem KW (k:Nat):(tc k).length=k*3:=by simp[tc,Builtin.zeroCells]
theorem Vb (k:Nat):∀ u∈tc k,u.oneCell'=true:=fun u b=>by
 unfold tc Builtin.zeroCells at b;rw[Bh] at b;obtain⟨i,-,rfl⟩:=eZ.1 b;have a:i%3<3:=AH _ I;show Value.oneCell' (#[Value.int IntKind.u32 0,.int .u32 0,.string {data:=#[]}][i%3]!)=true;generalize i%3=j at*
 match j,a with
 |0,_=>rfl
 |1,_=>rfl
 |2,_=>rfl
theorem acG (w:World)(ty:TypeId)(b o n c:Nat)(d:0<n)(hc:∀ j,j<n*3->(w.cell? ⟨b,o+j,none⟩).isSome=true)(e:∀ j,j<n*3->w.frozen? ⟨b,o+j,none⟩=false):
  (Builtin.clear_ #[49] ty #[.slice (some ⟨b,o,none⟩) n c]).run Tryz.prog w= .ok (.tuple #[]) (w.setCells b o (tc n)):=by
 have a:=HE (P:=Tryz.prog) b o (tc n) 0 w (by rw[KW];simpa using hc) (by rw[KW];simpa using e) (Vb n);simp only[nJ] at a;obtain⟨m,rfl⟩:∃ m,n=m+1:=⟨n-1,I⟩;unfold tc at a;simp[Builtin.clear_,dS Tryz.underlying49,Tryz.zeroValue58,Value.cells,a];rfl
set_option maxRecDepth 1000000 in
theorem afH (dc off n cap i j:Nat)(a:List Value)(w:World)(z:i<j)(L:j<=n)(M:n<=cap)
  (hc:∀ k,k<cap*3->(w.cell? ⟨dc,off+k,none⟩).isSome=true/\w.frozen? ⟨dc,off+k,none⟩=false)
  (b:a.length=(n-j)*3) (g:∀ k u,a[k]?=some u->w.cell? ⟨dc,off+j*3+k,none⟩=some u) (l:∀ u∈a,u.oneCell'=true):
  Calls Tryz.prog 49 #[.slice (some ⟨dc,off,none⟩) n cap,.int .i64 i,.int .i64 j] w fun e w'=>e= .returned (.slice (some ⟨dc,off,none⟩) (i+(n-j)) cap)/\w'=(w.drew.setCells dc (off+i*3) a).setCells dc (off+(i+(n-j))*3) (tc (n-(i+(n-j)))):=by
 obtain⟨m,s,v⟩:∃ m,Tryz.prog.info? 58=some m/\m.size=3:=by
  have h:=XM;cases e:Tryz.prog.info? 58 with
  |none=>rw[e] at h;cases h
  |some m=>rw[e] at h;simpa using h
 obtain⟨A,N,o⟩:∃ A:Addr,(if cap=j then some (⟨dc,off,none⟩:Addr) else some ⟨dc,off+j*3,none⟩)=some A/\Hid (∀ t u,a[t]?=some u->w.drew.cell? (A.add t)=some u):=by
  by_cases h:cap=j
  .refine⟨⟨dc,off,none⟩,by simp[h],fun t u p=>?_⟩;have B:a.length=0:=by rw[b];omega
   rw[nK.1 B] at p;simp at p
  .refine⟨⟨dc,off+j*3,none⟩,by simp[h],fun t u p=>?_⟩;rw[Addr.add_lit];exact g t u p
 have C:Hid (a.length=(n-j)*3):=b;have D:Hid (∀ u∈a,u.oneCell'=true):=l;have E:Hid (∀ t,t<a.length->(w.drew.cell? ⟨dc,off+i*3+t,none⟩).isSome=true/\w.drew.frozen? ⟨dc,off+i*3+t,none⟩=false):=by
  intro t r;rw[b] at r;rw[qe];exact hc (i*3+t) I
 obtain⟨c,f⟩:∃ c,c=w.drew.setCells dc (off+i*3) a:=⟨_,rfl⟩;have d:∀ k,k<cap*3->(c.cell? ⟨dc,off+k,none⟩).isSome=true/\c.frozen? ⟨dc,off+k,none⟩=false:=by
  intro k y;rw[f];have h:=Go.Vm.AB dc (off+i*3) a w.drew dc (off+k) (hc k y).1;exact⟨h.1,h.2 (hc k y).2⟩
 have F:∀ q,(Builtin.clear_ #[49] q #[.slice (some ⟨dc,off+(i+(n-j))*3,none⟩) (n-(i+(n-j))) (cap-(i+(n-j)))]).run Tryz.prog c= .ok (.tuple #[]) (c.setCells dc (off+(i+(n-j))*3) (tc (n-(i+(n-j))))):=
  fun q=>acG c q dc _ _ _ I (fun t r=>by rw[qe];exact(d _ I).1) (fun t r=>by rw[qe];exact(d _ I).2)
 have x:Hid (c=w.drew.setCells dc (off+i*3) a):=f;have G:i<=cap:=I;have H:j<=cap:=I;have K:¬ i=j:=I;clear f d hc b g l
 go_enter Tryz.func49,Tryz.ntmps49
 go_wp2_with fail
 go_region_law (refine step_append_room rfl (.tmp 22) (.tmp 25) 49 rfl 58 m 3 Tryz.underlying49 s v dc off i cap (by simp[Act.eval,Act.put]) A (n-j) (cap-j) a (by simp[Act.eval,Act.put]) C.out o.out D.out I E.out ?_;rw[<-x.out])
 go_wp2
 go_ret
 exact⟨rfl,by rw[x.out]⟩
end Go.Proofs
end
section
namespace Go.Vm
section
open Go Go.Proofs Go.RowKit
theorem ao.Ou {ρ:Nat->Nat×Nat}{dom:Nat->Prop}{w:World}:∀ {a:List Value},ao ρ dom w (List.replicate a.length .bH) a
 |[]=>ao.nil
 |_::_=>ao.cons (by unfold VR;trivial) ao.Ou
theorem acD (n i:Nat)(hi:i<n)(cs:List V)(c:cs.length=n*3)(z:∀ u∈cs,u.one=true):bp Tryz.prog 49 [.slice 0 0 n 3,.i64 (i:Nat),.i64 ((i+1:Nat):Int)] [bK cs] (.slice 1 0 (n-1) 3) [none,bK (cs.take (i*3)++cs.drop ((i+1)*3))]:=by
 rintro ρ w ⟨l⟩ d hm;have hg:ah [bK cs] 0=bK cs:=rfl;unfold ao at d;obtain⟨X,Y,f,h0,d⟩:=d;unfold ao at d;obtain⟨r1,l1,M,h1,d⟩:=d;unfold ao at d;obtain⟨r2,l2,N,h2,d⟩:=d;unfold ao at d;simp only at f;subst d N M f;unfold VR at h0 h1 h2;obtain⟨hd,a,a7,rfl,a8,A⟩:=h0;subst h1 h2;obtain⟨rfl,q⟩:=A I;simp only[nJ] at q |-
 obtain⟨rs,g,E⟩:=hm.range hg ((i+1)*3) ((n-(i+1))*3);simp only at g;have j:(cs.drop ((i+1)*3)).length=(n-(i+1))*3:=by rw[dO,c,Nat.sub_mul]
 rw[bq I] at g;have O:=g.length;have G:∀ u∈rs,u.oneCell'=true:=fun u hu=>by
  obtain⟨k,y,rfl⟩:=Cj.1 hu;have s:k<(cs.drop ((i+1)*3)).length:=I;obtain⟨r,g1,g2⟩:=g.get (i:=k) (v:=(cs.drop ((i+1)*3))[k]) J;rw[bn y] at g1;cases g1;exact DR (z _ (HJ (eM s))) g2
 refine(afH (ρ 0).1 (ρ 0).2 n a7 i (i+1) rs w I I a8 (fun k y=>q k y) I (fun k u hu=>?_) G).mono ?_
 .exact E k u hu
 rintro e w' ⟨rfl,rfl⟩;have m0:=hm.alike (Alike.drew w);have H:(tc (n-(i+(n-(i+1))))).length=(n-(i+(n-(i+1))))*3:=KW _;obtain⟨m1,f1⟩:=DH m0 (nid:=1) (b:=0) (o:=i*3) (mp:=none) (fun _ e=>by cases e) hg (g.mono (fun _ _=>rfl) (fun _ h=>h) (Alike.drew w).kL) (by rw[j];omega);have a6:(cC cs (i*3) (cs.drop ((i+1)*3))).length=n*3:=by rw[xT (by rw[j];omega)];exact c
 rw[CX] at m1 f1;obtain⟨D,f2⟩:=DH m1 (nid:=1) (b:=0) (o:=(i+(n-(i+1)))*3) (mp:=none) (fun _ e=>by cases e) (aM rfl) ao.Ou (by rw[kV,H,a6];omega);rw[CX] at D f2;have F:=f1.trans f2;have K:=F.kL;have C:∀ (k:Nat) (v:V),(cs.take (i*3)++cs.drop ((i+1)*3))[k]?=some v->(cC (cC cs (i*3) (cs.drop ((i+1)*3))) ((i+(n-(i+1)))*3) (List.replicate (tc (n-(i+(n-(i+1))))).length .bH))[k]?=some v:=fun k v t=>by
  have y:k<(n-1)*3:=by
   have :=(cA.1 t).1;rw[bA,cF,j,c] at this;omega
  rw[FX (by rw[kV,H,a6];omega),aq I,FX (by rw[j];omega)];by_cases h1:k<i*3
  .rw[aq I];rw[kY (by rw[cF,c];omega),uE,aM h1] at t;exact t
  .rw[aM ⟨I,I⟩];rw[iy (by rw[cF,c];omega),cF,c,lH I] at t;exact t
 have f:∀ b B,ah [none,bK (cs.take (i*3)++cs.drop ((i+1)*3))] b=some B->b=1/\B=⟨false,cs.take (i*3)++cs.drop ((i+1)*3),none⟩:=fun b B h=>by
  match b with
  |0=>simp[ah] at h
  |1=>exact⟨rfl,by simpa [ah] using h.symm⟩
  |b+2=>simp[ah] at h
 have p:∀ b,gr (gr (· <1) 1 0) 1 0 b->b<1:=fun b h=>by
  rcases h with(h|h)|h<;>omega
 have x:∀ b,gr (gr (· <1) 1 0) 1 0 b->b<2:=fun b h=>by have :=p b h;omega
 have P:∀ b,gr (gr (· <1) 1 0) 1 0 b->(fun b=>if b=1 then ρ 0 else ρ b) b=ρ b:=fun b h=>by
  have :=p b h;exact aq I
 have Q:(fun b=>if b=1 then ρ 0 else ρ b) 1=ρ 0:=aM rfl;refine⟨.slice (some ⟨(ρ 0).1,(ρ 0).2,none⟩) (i+(n-(i+1))) a7,fun b=>if b=1 then ρ 0 else ρ b,rfl,?_,⟨fun b B h=>?_,fun b B h=>?_,fun b R B B' h h' _ S=>?_,fun b B h k v t=>?_,fun b B h T k y=>?_,fun b B m h L=>?_⟩,J,fun b W=>aq (by simp at W;omega),⟨F.os,F.output,F.tape,F.size,F.de,F.kL,fun b B h T=>?_⟩⟩
 .unfold VR;exact⟨by show 1<2;omega,⟨(ρ 0).1,(ρ 0).2,none⟩,a7,by rw[show i+(n-(i+1))=n-1 by omega],I,fun hc=>⟨rfl,K.there q⟩⟩
 .obtain⟨rfl,rfl⟩:=f b B h;show 1<2;omega
 .obtain⟨rfl,rfl⟩:=f b B h;exact D.lt 0 _ (aM rfl)
 .obtain⟨rfl,rfl⟩:=f b B h;obtain⟨rfl,rfl⟩:=f R B' h';exact absurd rfl S
 .obtain⟨rfl,rfl⟩:=f b B h;obtain⟨r,g1,g2⟩:=D.cell 0 _ (aM rfl) k v (C k v t);exact⟨r,g1,g2.mono P x (cN.refl _)⟩
 .obtain⟨rfl,rfl⟩:=f b B h;refine D.free 0 _ (aM rfl) rfl k ?_;have s:k<(cs.take (i*3)++cs.drop ((i+1)*3)).length:=y;show k<(cC _ _ _).length;rw[xT (by rw[kV,H,a6];omega),a6];rw[bA,cF,j,c] at s;omega
 .obtain⟨rfl,rfl⟩:=f b B h;cases L
 .obtain⟨rfl,rfl⟩:=f b B h;exact .inl ⟨0,_,hg,rfl,rfl⟩
end
end Go.Vm
end
section
namespace Go.Vm
open Go.Proofs Go.Proofs.Tryz
section
theorem Dc (l:List Gr):(∀ u∈dT l,u.one=true)/\(∀ e,aW e (dT l)=dT l)/\(∀ n,lows n (dT l)):=by
 induction l with
 |nil=>exact⟨by simp[dT],fun _=>rfl,fun _=>trivial⟩
 |cons g l ih=>
  obtain⟨a,b,s⟩:=g;obtain⟨f,h,d⟩:=ih;refine⟨fun u hu=>?_,fun e=>?_,fun n=>BW n _⟩
  .have hu:u∈V.u32 a:: .u32 b:: .str s::dT l:=hu;simp only[gz] at hu;rcases hu with rfl|rfl|rfl|hu
   .rfl
   .rfl
   .rfl
   .exact f u hu
  .show aW e (V.u32 a:: .u32 b:: .str s::dT l)=_;simp only[aW,V.bd,h];rfl
theorem QM (l:List Pk):(∀ u∈fy l,u.one=true)/\(∀ e,aW e (fy l)=fy l)/\(∀ n,lows n (fy l)):=by
 induction l with
 |nil=>exact⟨by simp[fy],fun _=>rfl,fun _=>trivial⟩
 |cons g l ih=>
  obtain⟨a,b,s⟩:=g;obtain⟨f,h,d⟩:=ih;refine⟨fun u hu=>?_,fun e=>?_,fun n=>AQ n _⟩
  .have hu:u∈V.i64 a:: .u32 b:: .str s::fy l:=hu;simp only[gz] at hu;rcases hu with rfl|rfl|rfl|hu
   .rfl
   .rfl
   .rfl
   .exact f u hu
  .show aW e (V.i64 a:: .u32 b:: .str s::fy l)=_;simp only[aW,V.bd,h];rfl
theorem Js:∀ {l:List Gr} {i:Nat} (h:i<l.length),((dT l).drop (i*3)).take 3=[.u32 l[i].1,.u32 l[i].2.1,.str l[i].2.2]
 |(a,b,s)::l,0,_=>rfl
 |(a,b,s)::l,i+1,h=>by
  have :=Js (l:=l) (i:=i) (by simpa using h);rw[show(i+1)*3=i*3+1+1+1 by omega];exact this
theorem Ld:∀ {l:List Gr} {i:Nat},i<l.length->(dT l).take (i*3)++(dT l).drop ((i+1)*3)=dT (l.eraseIdx i)
 |(a,b,s)::l,0,_=>rfl
 |(a,b,s)::l,i+1,h=>by
  have :=Ld (l:=l) (i:=i) (by simpa using h);rw[show(i+1)*3=i*3+1+1+1 by omega,show(i+1+1)*3=(i+1)*3+1+1+1 by omega];show V.u32 a:: .u32 b:: .str s::((dT l).take (i*3)++(dT l).drop ((i+1)*3))=_;rw[this];rfl
theorem ajq:bp prog 32 [.bG] [] .bG []:=by
 refine ak func32 ?_;simp only[go_sem,seval,ntmps32,results32];exact Fin.bd [] J J ci ag J J
theorem aaR:bp prog 22 [.bG] [] .bG []:=by
 refine ak func22 ?_;simp only[go_sem,seval,ntmps22,results22];exact Fin.bd [] J J ci ag J J
theorem VY:bp prog 32 [.slice 0 0 0 3] [bK []] (.slice 1 0 0 3) [bK [],bK []]:=by
 refine ak func32 ?_;simp only[go_sem,seval,ntmps32,results32];refine Fin.id (s:=⟨_,[bK [],bK []]⟩) ?_;show 1<=2;decide
theorem Ye (n:Nat)(f:0<n)(a:n<=7000000000000)(ds:List V)(g:ds.length=n*3)(h:(∀ u∈ds,u.one=true)/\(∀ l,aW l ds=ds)/\(∀ n,lows n ds)):bp prog 32 [.slice 0 0 n 3] [bK ds] (.slice 1 0 n 3) [bK ds,bK ds]:=by
 obtain⟨b,d,e⟩:=h;refine ak func32 ?_;simp only[go_sem,seval,ntmps32,results32];refine aF ?_
 simp only[go_sem,seval,show(n=0)=False from nY I,bq (show ds.length<=n*3 by omega),lH (show n*3<=ds.length by omega)];refine⟨⟨I,I,I,b⟩,?_⟩;exact Fin.bd [0,2] J J ci ag J (by simp[d,e])
theorem aaH (n:Nat)(f:0<n)(a:n<=7000000000000)(ds:List V)(g:ds.length=n*3)(h:(∀ u∈ds,u.one=true)/\(∀ l,aW l ds=ds)/\(∀ n,lows n ds)):bp prog 22 [.slice 0 0 n 3] [bK ds] (.slice 1 0 n 3) [bK ds,bK ds]:=by
 obtain⟨b,d,e⟩:=h;refine ak func22 ?_;simp only[go_sem,seval,ntmps22,results22];refine aF ?_
 simp only[go_sem,seval,show(n=0)=False from nY I,bq (show ds.length<=n*3 by omega),lH (show n*3<=ds.length by omega)];refine⟨⟨I,I,I,b⟩,?_⟩;exact Fin.bd [0,2] J J ci ag J (by simp[d,e])
section
variable {K K0 K':RK}{H H0 H':aU}{Q0 Q:Rl->Prop}{i j j' n x:Nat}{c:cR}{N N':bf}{k:b9}{L:bl}{v:V}{aO:List Gr}{all:List Pk}
def C9 (H:aU)(v:V)(n:Nat)(cs:List V)(H':aU):Prop:=(v= .bG/\n=0)\/∃ W,v= .slice W 0 n 3/\H.length<=W/\ah H' W=bK cs
theorem agk (f:Cx K0 H0 Q0 K H)(o:bM K H k L)(r:L.aO.length<=60):
  ∃ v K' H',Dx prog 20 [.ptr k.l 0] K H (fun _=>False) v K' H'/\(C9 H v L.aO.length (dT L.aO) H'/\K'=K):=by
 obtain⟨y,t,p⟩:=o.gl;have s:=zu L.aO;obtain⟨q,g,h⟩:=Dc L.aO;refine ar (Q:=fun _=>False) (Post:=fun v K' H'=>C9 H v L.aO.length (dT L.aO) H'/\K'=K) func20 (aH ?_);rcases p with⟨rfl,u⟩|⟨a,rfl,m,b⟩
 .refine d8 t ?_
  refine am [] ajq (aH ?_);exact Ex.of (f.start _) trivial ⟨.inl ⟨rfl,by rw[u];rfl⟩,rfl⟩
 have d:=f.lt m;by_cases u:L.aO.length=0
 .have e:=nK.1 u;rw[e] at b t |-
  simp only[lq,dT] at b t |-
  refine d8 t ?_
  refine fY [a] (VY) U J rfl J fO (by simp[d]) J (by simp[b]) J J (aH ?_);rw[wN b rfl];exact Ex.of ((f.start (fun _=>False)).bH (vs:=[]) (mm:=none) trivial) uQ ⟨.inr ⟨H.length,rfl,bz _,ja⟩,rfl⟩
 generalize L.aO.length=n at*;generalize dT L.aO=w at*;refine d8 t ?_
 refine fY [a] (Ye n I I w s ⟨q,g,h⟩) U J rfl J fO (by simp[d]) J (by simp[b,g,h]) J J ?_;refine aL g ?_;rw[wN b rfl];exact Ex.of ((f.start (fun _=>False)).bH (vs:=w) (mm:=none) (h _)) uQ ⟨.inr ⟨H.length,rfl,bz _,ja⟩,rfl⟩
theorem Qj (b:Cx K0 H0 Q0 K H)(d:bM K H k L)(hi:i<k.xs.length)(g:i<L.all.length)(z:L.all[i].length<=7000000000000):
  ∃ v K' H',Dx prog 13 [.ptr k.l 0,.i64 i] K H (fun _=>False) v K' H'/\(C9 H v L.all[i].length (fy L.all[i]) H'/\K'=K):=by
 have h:=b.lt d.kl;have m:=d.l1;have s:=d.l2;have B:=xy L.all[i];obtain⟨t,o,p⟩:=QM L.all[i];obtain⟨M,u,e,w,A⟩:=d.nd i hi I I g;refine ar (Q:=fun _=>False) (Post:=fun v K' H'=>C9 H v L.all[i].length (fy L.all[i]) H'/\K'=K) func13 ?_;simp only[go_sem,seval];repeat refine aI ?_
 refine cQ (Ot b d (i:Int)) U rfl (by simp[lows,V.low,h]) b.bD ?_;rintro _ F G y m ⟨rfl,rfl,rfl⟩;rw[aq I,iG,uh hi];generalize L.all[i]=D at*;generalize D.length=n at*;generalize fy D=E at*;rcases w with⟨rfl,C⟩|⟨a,rfl,C,q,f⟩
 .simp only[go_sem,seval,e];repeat refine aI ?_
  refine am [] aaR ?_;simp only[go_sem,seval];exact Ex.of (b.start _) trivial ⟨.inl ⟨rfl,C⟩,rfl⟩
 have r:=b.lt q;simp only[go_sem,seval,e];repeat refine aI ?_
 refine fY [a] (aaH n C I E B ⟨t,o,p⟩) U J rfl J fO (by simp[r]) J (by simp[f,o,p]) J J ?_;simp only[go_sem,seval,o];rw[wN f rfl];exact Ex.of ((b.start (fun _=>False)).bH (vs:=E) (mm:=none) (p _)) uQ ⟨.inr ⟨_,rfl,bz _,ja⟩,rfl⟩
end
end
section
def qT:Rl->Prop:=fun _=>True
section
variable {K K0 K':RK}{H H0 H':aU}{Q0 Q:Rl->Prop}{i j j' n x W a:Nat}{c:cR}{N N':bf}{k:b9}{L:bl}{v:V}{aO:List Gr}{all:List Pk}
theorem Fl {H:aU}{b a:Nat}{X:aU}{x:Option aa}(h:b<H.length)(d:a≠b):ah (H.set a x++X) b=ah H b:=by
 rw[fJ (by rw[b7];exact h),eA d]
theorem Z0:nP (fun r=>r= .link\/r= .aO) j:=⟨J,J⟩
theorem bM.EK (h:bM K H k L)(f:Cx K0 H0 qT K H)(g:H.length=W)(a:Option Nat)(m:∀ x,a=some x->K x=some .aO)(b:List Gr):
  Cx K0 H0 qT (gm (kj a K) W (some .aO)) ((cI a H++[bK (dT b)]).set k.l (bK [.slice k.na 0 k.xs.length 1,.slice W 0 b.length 3]))/\
  bM (gm (kj a K) W (some .aO)) ((cI a H++[bK (dT b)]).set k.l (bK [.slice k.na 0 k.xs.length 1,.slice W 0 b.length 3])) k {L with aO:=b}/\
  Cx K H (fun r=>r= .link\/r= .aO) (gm (kj a K) W (some .aO)) ((cI a H++[bK (dT b)]).set k.l (bK [.slice k.na 0 k.xs.length 1,.slice W 0 b.length 3])):=by
 have o:=f.lt h.ka;have p:lows (H.length+1) [V.slice k.na 0 k.xs.length 1,.slice W 0 b.length 3]:=by simp[lows,V.low];omega
 have q:=f.tp g h.kl trivial a .aO m trivial (BW _ b) p;have d:=(f.start (fun r=>r= .link\/r= .aO)).tp g h.kl (.inl rfl) a .aO m (.inr rfl) (BW _ b) p;obtain⟨y,z,A⟩:=AU (ds:=dT b) (vs:=[V.slice k.na 0 k.xs.length 1,.slice W 0 b.length 3]) f g h.kl m J;have t:=d.off;refine⟨q,⟨y,t.k _ _ h.ka J,⟨_,z,.inr ⟨_,rfl,lS,A⟩⟩,(t.h _ _ h.ka J).trans h.ga,h.l1,h.l2,h.l3,fun j a u w s=>(h.nd j a u w s).off t d.len J J Z0⟩,d⟩
noncomputable def wJ (k:b9) (L:bl) (f:Int) (A:Nat) (M:bW):Int×bl:=match L.aO[A]? with
 |none=>(7,L)
 |some g=>if f=5 then(if L.aO.length=60 then(9,L) else(0,{L with aO:=L.aO++[g]}))
  else if f=4 then(0,{L with aO:=L.aO.eraseIdx A})
  else match L.N[(g.2.1-1#32).toNat]?,k.cs[(g.2.1-1#32).toNat]? with
   |some N,some c=>((mB N c.F g.1 M).1,{L with aO:=L.aO.eraseIdx A,N:=L.N.set (g.2.1-1#32).toNat (mB N c.F g.1 M).2})
   |_,_=>(13,{L with aO:=L.aO.eraseIdx A})
def pY (k:b9)(L:bl)(A:Nat)(M:bW):Prop:=∀ g,L.aO[A]?=some g->1<=g.2.1.toNat/\g.2.1.toNat<=k.xs.length/\g.2.2=M.text/\∀ N,L.N[(g.2.1-1#32).toNat]?=some N->M.fits N
theorem UF (hC:Cx K0 H0 Q0 K H)(X:bM K H k L)(ho:∀ N∈L.N,N.ok n)(hn:n<=900000000)(h7:∀ N∈L.N,N.Ps.length<=8)(b B C:Int)(hk:b=3\/b=4\/b=5)(A:Nat)(hA:A<L.aO.length)(l7:L.aO.length<=60)(src dst:aQ)(aY:Z)(M:bW)(hM:b=3->pY k L A M):
  ∃ v K' H',Dx prog 31 [.ptr k.l 0,.agg [.i64 b,.i64 A,.i64 B,.i64 C,.u32 src,.u32 dst,.str aY]] K H qT v K' H'/\(v= .i64 (wJ k L b A M).1/\bM K' H' k (wJ k L b A M).2):=by
 have m0:=X.l1;have m1:=X.l2;have m2:=X.l3;obtain⟨av,hg,e5⟩:=X.gl;obtain⟨a,rfl,ha,e6⟩:∃ a,av= .slice a 0 L.aO.length 3/\K a=some .aO/\ah H a=bK (dT L.aO):=by
  rcases e5 with⟨-,e⟩|h
  .rw[e] at hA;simp at hA
  .exact h
 have o:=Js hA;have Y:=zu L.aO;obtain⟨o1,o2,o3⟩:=Dc L.aO;have c2:=Ld hA;have b3:=bn hA;generalize g:wJ k L b A M=R;unfold wJ at g;rw[b3] at g;dsimp only at g;obtain⟨u,f,w,e7⟩:∃ (u f:aQ) (w:Z),L.aO[A]=(u,f,w):=⟨_,_,_,rfl⟩;rw[e7] at o g b3;dsimp only at o g;have h8:=hC.lt X.kl;have h9:=hC.lt ha;have b4:a≠k.l:=fun e=>by have :=X.kl;rw[<-e,ha] at this;cases this
 have j1:=(hC.start qT).bH (vs:=[.i64 b,.i64 A,.i64 B,.i64 C,.u32 src,.u32 dst,.str aY]) (mm:=none) bT;have j2:=(hC.start (fun _=>False)).bH (vs:=[.i64 b,.i64 A,.i64 B,.i64 C,.u32 src,.u32 dst,.str aY]) (mm:=none) bT;have m3:(0:Int)<=(A:Int):=I;have m4:(A:Int)<(L.aO.length:Int):=I;have m5:A*3+3<=L.aO.length*3:=I;have hz:H.length+1<(H++[bK [.i64 b,.i64 A,.i64 B,.i64 C,.u32 src,.u32 dst,.str aY]]++[bK [.u32 0#32,.u32 0#32,.str []]]).length:=J;refine ar (Q:=qT) (Post:=fun v K' H'=>v= .i64 R.1/\bM K' H' k R.2) func31 ?_;simp only[go_sem,seval,hg,qk h8,qk h9,e6,o,Y,ja];refine aF ?_
 have c3:k.l<H.length+1:=I;have c4:a<H.length+1:=I;have O:H.length<H.length+1:=I;refine And.intro ?_ ?_
 .refine jg (jY (H.length+1)) [([],[]),([],[]),([],[]),([0],[]),([],[]),([0],[]),([],[]),([0],[]),([],[1]),([0,1],[0,1])] U (by simp only[jA,jy,cv,rN,all_cons,xx,iN c3,iN c4,iN O,j6,pB,gG])
 have c5:(H++[bK [.i64 b,.i64 A,.i64 B,.i64 C,.u32 src,.u32 dst,.str aY]]).length=H.length+1:=J;have z:=j1.boxed (zs:=[.u32 0#32,.u32 0#32,.str []]) (ys:=[.u32 u,.u32 f,.str w]) bT bT;have P:=j2.boxed (zs:=[.u32 0#32,.u32 0#32,.str []]) (ys:=[.u32 u,.u32 f,.str w]) bT bT;have a6:=fun(x:Nat) (hx:x<H.length+1)=>pz (H:=H++[bK [.i64 b,.i64 A,.i64 B,.i64 C,.u32 src,.u32 dst,.str aY]]) (x:=bK [.u32 0#32,.u32 0#32,.str []]) (y:=bK [.u32 u,.u32 f,.str w]) (c:=x) (by rw[c5];exact hx)
 have r:=(a6 H.length O).trans ja;have hb:=pM (H:=H++[bK [.i64 b,.i64 A,.i64 B,.i64 C,.u32 src,.u32 dst,.str aY]]) (x:=bK [.u32 0#32,.u32 0#32,.str []]) (y:=bK [.u32 u,.u32 f,.str w]);have j3:((H++[bK [.i64 b,.i64 A,.i64 B,.i64 C,.u32 src,.u32 dst,.str aY]]++[bK [.u32 0#32,.u32 0#32,.str []]]).set (H++[bK [.i64 b,.i64 A,.i64 B,.i64 C,.u32 src,.u32 dst,.str aY]]).length (bK [.u32 u,.u32 f,.str w])).length=H.length+2:=J;rw[c5] at z P r hb j3;clear a6;generalize ((H++[bK [.i64 b,.i64 A,.i64 B,.i64 C,.u32 src,.u32 dst,.str aY]]++[bK [.u32 0#32,.u32 0#32,.str []]]).set (H.length+1) (bK [.u32 u,.u32 f,.str w]))=T at*;have b5:=X.eH P;have S:=(P.off.h _ _ X.kl id).trans hg;have a7:=(P.off.h _ _ ha id).trans e6;have m6:K H.length=none:=hC.fresh _ (bz _);have l5:K (H.length+1)=none:=hC.fresh _ I;refine d8 r ?_
 have D:k.l<T.length:=I;have m:a<T.length:=I;have j4:H.length<T.length:=I;have a8:H.length+1<T.length:=I;by_cases h5:b=5
 .rw[aM h5] at g;refine Gh h5 S ?_
  by_cases b0:L.aO.length=60
  .rw[aM b0] at g;have q:(L.aO.length:Int)=60:=I;subst g;refine g9 q ?_;exact Ex.of z trivial ⟨rfl,b5⟩
  rw[aq b0] at g;have q:¬ (L.aO.length:Int)=60:=I;simp only[go_sem,seval,q,cr,hb,S,a7,qk m,xR D b4,nW,bq (show(dT L.aO).length<=L.aO.length*3 by omega)];refine aF ?_
  refine And.intro ?_ ?_
  .refine jg (mL a T.length) [([],[]),([],[]),([],[]),([],[]),([0],[]),([0],[]),([],[1]),([1,2],[1,2]),([],[]),([],[]),([0],[0])] U (by simp only[jA,jy,cv,all_cons,B4,uX D b4.symm,uX a8 (show H.length+1≠a by omega),KJ,IN m,J3 m,j6,pB,FO,gG])
  have hJ:=z.bH (vs:=[.u32 u,.u32 f,.str w]) (mm:=none) bT;have k3:=b5.eH ((z.start (fun _=>False)).bH (vs:=[.u32 u,.u32 f,.str w]) (mm:=none) bT);obtain⟨hG,e8,-⟩:=k3.EK hJ (W:=T.length+1) J (some a) (fun x e=>by cases e;exact ha) (L.aO++[(u,f,w)]);subst g;rw[F0,bA] at hG e8;exact Ex.of hG trivial ⟨rfl,e8⟩
 rw[aq h5] at g;have h6:¬ b=6:=I;refine qa7 h5 h6 S r ?_
 have w1:=iq (i:=A) I;refine Bs [a] (acD L.aO.length A hA (dT L.aO) Y o1) U (by simp[w1]) rfl J fO (by simp[m]) J (by simp[a7,o2,o3,w1]) J J ?_;simp only[go_sem,seval,m,(Dc (L.aO.eraseIdx A)).2.1,c2,Fl D b4,S];refine aF ?_
 obtain⟨s,t,-⟩:=b5.EK z (W:=T.length) rfl (some a) (fun x e=>by cases e;exact ha) (L.aO.eraseIdx A);have el:(L.aO.eraseIdx A).length=L.aO.length-1:=FZ hA;have c6:a≠H.length:=I;have c7:k.l≠H.length:=I;have b6:a≠H.length+1:=I;have c0:k.l≠H.length+1:=I;have E:ah ((cI (some a) T++[bK (dT (L.aO.eraseIdx A))]).set k.l (bK [.slice k.na 0 k.xs.length 1,.slice T.length 0 (L.aO.eraseIdx A).length 3])) H.length=_:=(eA c7 _).trans ((Fl j4 c6).trans r);have c8:ah ((cI (some a) T++[bK (dT (L.aO.eraseIdx A))]).set k.l (bK [.slice k.na 0 k.xs.length 1,.slice T.length 0 (L.aO.eraseIdx A).length 3])) (H.length+1)=_:=(eA c0 _).trans ((Fl a8 b6).trans hb);have e0:(cI (some a) T++[bK (dT (L.aO.eraseIdx A))]).set k.l (bK [.slice k.na 0 k.xs.length 1,.slice T.length 0 (L.aO.eraseIdx A).length 3])=(T.set a none++[bK (dT (L.aO.eraseIdx A))]).set k.l (bK [.slice k.na 0 k.xs.length 1,.slice T.length 0 (L.aO.length-1) 3]):=by rw[el];rfl
 rw[e0] at s t E c8;clear e0;generalize (T.set a none++[bK (dT (L.aO.eraseIdx A))]).set k.l (bK [.slice k.na 0 k.xs.length 1,.slice T.length 0 (L.aO.length-1) 3])=M2 at*;generalize gm (kj (some a) K) T.length (some .aO)=K2 at*;obtain⟨m8,e9,-⟩:=t.gl;have c9:=t.ga;refine d8 E ?_
 by_cases h4:b=4
 .rw[aM h4] at g;subst g;refine g9 h4 ?_;exact Ex.of s trivial ⟨rfl,t⟩
 rw[aq h4] at g;obtain⟨b2,h0,h1,G⟩:=hM I _ b3;dsimp only at b2 h0 h1 G;have k4:¬ f<1#32:=fun e=>by rw[Bz] at e;have e:f.toNat<1:=e;omega
 have e1:¬ (k.xs.length:Int)<(f.toNat:Int):=I;have hi:(f-1#32).toNat<k.xs.length:=by
  rw[BitVec.toNat_sub_of_le (by rw[BitVec.le_def];exact b2)];show f.toNat-1<_;omega
 have e2:((f-1#32).toNat:Int)<(k.xs.length:Int):=I;have e3:(0:Int)<=((f-1#32).toNat:Int):=I;obtain⟨i,h3⟩:∃ i:Nat,(f-1#32).toNat=i:=⟨_,rfl⟩;rw[h3] at hi e2 e3 g G;have c1:i<k.cs.length:=I;have F:i<L.N.length:=I;obtain⟨m9,n0,l4,l6,hN⟩:=t.nd i hi c1 F (by show i<L.all.length;omega);have hN:bB K2 M2 i k.cs[i] L.N[i]:=hN;have hf:=G _ (bn F);have k5:=ho _ (eM F);have k6:=h7 _ (eM F);rw[bn F,bn c1] at g;dsimp only at g;subst h1;have hq:(k.xs.map (fun p=>V.ptr p 0)).getD i .bH= .ptr k.xs[i] 0:=by
  rw[bY,dU,bn hi];rfl
 have hX:=ajL s hN k5 hn k6 M hf u;have l0:k.cs[i].d<M2.length:=by obtain⟨_,_,hD⟩:=hN.dev;exact s.lt hD.kd
 generalize M.text=w at*;simp only[go_sem,seval,k4,cr,h4,c8,e9,e1,h3,c9,hq,l4,hi,e2,e3,cq];refine aE ?_
 refine gh (hX) U rfl (by simp[lows,V.low,l0]) s.bD ?_;rintro _ K9 H9 e4 m7 ⟨rfl,O⟩;refine aK ?_
 subst g;exact Ex.of (s.call e4 fun _ _=>trivial) trivial ⟨rfl,t.one e4 hi c1 O⟩
end
end
section
structure cX where
 kind:Int
 A:Int
 B:Int
 C:Int
 src:aQ
 dst:aQ
 aY:Z
structure b9.ok (k:b9):Prop where
 x3:k.xs.length<=3
 F:∀ c∈k.cs,∀ a,(c.F a).2=true->0<=(c.F a).1/\(c.F a).1<c.ps.length
structure bl.ok (L:bl) (n:Nat):Prop where
 N:∀ N∈L.N,N.ok n
 p:∀ N∈L.N,0<N.Ps.length/\N.Ps.length<=8
 aO:L.aO.length<=60
noncomputable def mI (A:Int) (L:bl) (i:Nat):bl:={L with N:=(L.N.take i).map (fun N=>(dd N A).2)++L.N.drop i}
noncomputable def Ad (A:Int) (L:bl):Nat->Int
 |0=>0
 |i+1=>((L.N[i]?).map fun N=>(dd N A).1).getD 0
noncomputable def cV (k:b9) (L:bl) (a:cX) (M:bW):Int×bl:=
 if a.kind=1\/a.kind=7 then
  if a.A<0\/(L.N.length:Int)<=a.A then(7,L) else match L.N[a.A.toNat]?,k.cs[a.A.toNat]? with
   |some N,some c=>if a.kind=1 then((oT N c.F a.src a.dst a.aY).1,{L with N:=L.N.set a.A.toNat (oT N c.F a.src a.dst a.aY).2}) else(0,{L with N:=L.N.set a.A.toNat {N with D:={N.D with busy:=decide (a.B=1)}}})
   |_,_=>(7,L)
 else if a.kind=2 then(Ad a.A L L.N.length,mI a.A L L.N.length)
 else if a.kind=3\/a.kind=4\/a.kind=5 then(if a.A<0\/(L.aO.length:Int)<=a.A then(7,L) else wJ k L a.kind a.A.toNat M)
 else(1,L)
section
variable {K K0 K':RK}{H H0 H':aU}{Q0 Q:Rl->Prop}{i j j' n x W a:Nat}{c:cR}{N N':bf}{k:b9}{L:bl}{v:V}{aO:List Gr}{all:List Pk}
theorem aci {A:Int}(h:i<L.N.length):{mI A L i with N:=(mI A L i).N.set i (dd L.N[i] A).2}=mI A L (i+1):=by
 have e:((L.N.take i).map (fun N=>(dd N A).2)++L.N.drop i).set i (dd L.N[i] A).2=(L.N.take (i+1)).map (fun N=>(dd N A).2)++L.N.drop (i+1):=by
  have b:((L.N.take i).map (fun N=>(dd N A).2)).length=i:=cp;rw[uD _ _ I,b,k8,wA h,lF,uV h,lw,hZ];rfl
 show({L with N:=((L.N.take i).map (fun N=>(dd N A).2)++L.N.drop i).set i (dd L.N[i] A).2}:bl)=_;rw[e];rfl
theorem ahz {A:Int}(h:i<L.N.length)(h2:i<(mI A L i).N.length):(mI A L i).N[i]=L.N[i]:=by
 have b:((L.N.take i).map (fun N=>(dd N A).2)).length=i:=cp;have e:(mI A L i).N[i]?=L.N[i]?:=by
  show((L.N.take i).map (fun N=>(dd N A).2)++L.N.drop i)[i]?=_;rw[iy I,b,k8,mA,nJ]
 rw[bn h2,bn h] at e;exact nc e
theorem EA {A:Int}(h:i<=L.N.length):(mI A L i).N.length=L.N.length:=by
 show((L.N.take i).map (fun N=>(dd N A).2)++L.N.drop i).length=_;simp;omega
theorem MW {A:Int}(h:i<L.N.length):Ad A L (i+1)=(dd L.N[i] A).1:=by
 show((L.N[i]?).map fun N=>(dd N A).1).getD 0=_;rw[bn h];rfl
theorem Zl (hC:Cx K0 H0 Q0 K H)(hL:bM K H k L)(hk:k.ok)(ho:L.ok n)(hn:n<=900000000)(a:cX)(h6:a.kind≠6)(hA:-9223372036854775808<=a.A/\a.A<9223372036854775808)(M:bW)(hM:a.kind=3->0<=a.A->pY k L a.A.toNat M):
  ∃ v K' H',Dx prog 17 [.ptr k.l 0,.agg [.i64 a.kind,.i64 a.A,.i64 a.B,.i64 a.C,.u32 a.src,.u32 a.dst,.str a.aY]] K H qT v K' H'/\(v= .i64 (cV k L a M).1/\bM K' H' k (cV k L a M).2):=by
 have c2:=hL.l1;have S:=hL.l2;have e8:=hL.l3;have e9:=hC.lt hL.kl;have e7:k.l<H.length+1:=I;obtain⟨kind,A,B,Cc,src,dst,aY⟩:=a;dsimp only at*;generalize g:cV k L ⟨kind,A,B,Cc,src,dst,aY⟩ M=R;unfold cV at g;dsimp only at g;have f:=(hC.start qT).bH (vs:=[.i64 kind,.i64 A,.i64 B,.i64 Cc,.u32 src,.u32 dst,.str aY]) (mm:=none) bT;have c3:=(hC.start (fun _=>False)).bH (vs:=[.i64 kind,.i64 A,.i64 B,.i64 Cc,.u32 src,.u32 dst,.str aY]) (mm:=none) bT;have q:=hL.eH c3;have b:ah (H++[bK [.i64 kind,.i64 A,.i64 B,.i64 Cc,.u32 src,.u32 dst,.str aY]]) H.length=bK [.i64 kind,.i64 A,.i64 B,.i64 Cc,.u32 src,.u32 dst,.str aY]:=ja;have h8:(H++[bK [.i64 kind,.i64 A,.i64 B,.i64 Cc,.u32 src,.u32 dst,.str aY]]).length=H.length+1:=J;have c4:K H.length=none:=hC.fresh _ (bz _);refine ar (Q:=qT) (Post:=fun v K' H'=>v= .i64 R.1/\bM K' H' k R.2) func17 ?_;refine d8 @ja ?_
 generalize H++[bK [.i64 kind,.i64 A,.i64 B,.i64 Cc,.u32 src,.u32 dst,.str aY]]=T at*;have a8:k.l<T.length:=I;refine cQ (Ot f q A) U rfl (by simp[lows,V.low,a8]) f.bD ?_;rintro _ K1 H1 h9 c2 ⟨rfl,c9,e1⟩;obtain rfl:=c9.symm;obtain rfl:=e1.symm;have u:∀ (e:Int) (t:List (Nat×V)),R=(e,L)->Ex K H qT (fun v K' H'=>v= .i64 R.1/\bM K' H' k R.2) (.i64 e) ⟨t,T⟩:=fun e t h=>by subst h;exact Ex.of (s:=⟨t,T⟩) f trivial ⟨rfl,q⟩
 by_cases X:kind=1\/kind=7
 .rw[aM X] at g;by_cases hs:A<0\/(k.xs.length:Int)<=A
  .rw[aM I] at g;rw[aM hs];rcases X with rfl|rfl
   all_goals
    simp only[go_sem,seval,rY,b,cE,cr];refine aF ?_
    exact u _ _ g.symm
  rw[aq hs];obtain⟨i,rfl⟩:∃ i:Nat,A=(i:Int):=⟨A.toNat,I⟩;have Y:i<k.xs.length:=I;have o:i<L.N.length:=I;have w:i<k.cs.length:=I;rw[iG,uh Y];rw[aq I,iG,bn o,bn w] at g;dsimp only at g;obtain⟨av,e6,a7,-,O⟩:=q.nd i Y w o I;have hd:k.cs[i].d<T.length:=by obtain⟨_,_,hD⟩:=O.dev;exact f.lt hD.kd
  rcases X with rfl|rfl
  .rw[aM rfl] at g;refine Gh b a7 ?_
   refine gh (af0 f O (ho.N _ (eM o)) hn (hk.F _ (eM w)) src dst aY) U rfl (by simp[lows,V.low,hd]) f.bD ?_;rintro _ K2 H2 m S ⟨rfl,b4⟩;refine aK ?_
   subst g;exact Ex.of (f.call m fun _ _=>trivial) trivial ⟨rfl,q.one m Y w b4⟩
  .rw[aq ag] at g;obtain⟨j3,aT,hD⟩:=O.dev;refine Gh b a7 ?_
   refine gh (aaq f hD (decide (B=1))) U rfl (by simp[lows,V.low,hd]) f.bD ?_;rintro _ K2 H2 m S ⟨rfl,e2,e3⟩;obtain rfl:=e2.symm;refine aK ?_
   subst g;have c5:=m.mono (Q2:=qD i) fun r e=>by subst e;rfl
   have b2:=m.off;refine Ex.of (f.call m fun _ _=>trivial) trivial ⟨rfl,q.one c5 Y w ⟨⟨_,_,e3⟩,O.len,fun i' h1 h2=>(O.peer i' h1 h2).off b2 J J J J J J,O.mX.off b2 J J,O.oG.off b2 m.len J⟩⟩
 rw[aq X] at g;have h1:¬ kind=1:=I;have h7:¬ kind=7:=I;by_cases h2:kind=2
 .subst h2;rw[aM rfl] at g;obtain⟨av,P,-⟩:=q.gl;refine Gh b P ?_
  refine cG (fun j st=>∃ (i:Nat) (Hi:aU) (Ki:RK),i+j=k.xs.length/\Cx K H qT Ki Hi/\bM Ki Hi k (mI A L i)/\Ki H.length=none/\ah Hi H.length=bK [.i64 2,.i64 A,.i64 B,.i64 Cc,.u32 src,.u32 dst,.str aY]/\st=⟨[(3,.ptr H.length 0),(4,.i64 (Ad A L i)),(48,.slice k.na 0 k.xs.length 1),(49,.i64 k.xs.length),(50,.i64 i)],Hi⟩) ?_ ?_
  .exact dh k.xs.length ⟨[(3,.ptr H.length 0),(4,.i64 0),(48,.slice k.na 0 k.xs.length 1),(49,.i64 k.xs.length),(50,.i64 (0:Nat))],T⟩ gJ rfl (fun _ _ h=>h) ⟨0,T,K,I,f,q,c4,b,rfl⟩
  rintro j st ⟨i,Hi,Ki,j1,E,G,c1,a6,rfl⟩-;by_cases Y:i<k.xs.length
  rotate_left
  .have b3:¬ (i:Int)<(k.xs.length:Int):=I;obtain rfl:i=k.xs.length:=I;refine pL b3 ?_
   subst g;rw[<-S] at G |-
   exact Ex.of E trivial ⟨rfl,G⟩
  have b3:(i:Int)<(k.xs.length:Int):=I;have c6:(0:Int)<=(i:Int):=I;have w1:=iq (i:=i) (by have :=hk.x3;omega);have c7:=G.ga;have hq:(k.xs.map (fun p=>V.ptr p 0)).getD i .bH= .ptr k.xs[i] 0:=by
   rw[bY,dU,bn Y];rfl
  have o:i<L.N.length:=I;have w:i<k.cs.length:=I;have b5:i<(mI A L i).N.length:=by rw[EA I];exact o
  obtain⟨j4,e6,a7,-,O⟩:=G.nd i Y w b5 (by show i<L.all.length;omega);rw[ahz o] at O;have hd:k.cs[i].d<Hi.length:=by obtain⟨_,_,hD⟩:=O.dev;exact E.lt hD.kd
  have b6:=ho.p _ (eM o);refine qb9 b3 c7 hq a7 a6 Y c6 ?_
  refine gh (af7 E O (ho.N _ (eM o)) hn b6.2 b6.1 A hA.1 hA.2) U rfl (by simp[lows,V.low,hd]) E.bD ?_;rintro _ K2 H2 m S ⟨rfl,b4⟩;refine aK ?_
  have c0:=G.one m Y w b4;rw[aci o] at c0;refine cH (j-1) ⟨[(3,.ptr H.length 0),(4,.i64 (Ad A L (i+1))),(48,.slice k.na 0 k.xs.length 1),(49,.i64 k.xs.length),(50,.i64 (i+1:Nat))],H2⟩ I (by simp[St.get,lookS,w1,MW o]) rfl (fun _ _ h=>h) ⟨i+1,H2,K2,I,E.call m fun _ _=>trivial,c0,?_,?_,rfl⟩
  .cases e:K2 H.length with
   |none=>rfl
   |some r=>
    obtain⟨r0,e0,-⟩:=m.od _ _ (b8 a6) e;rw[c1] at e0;cases e0
  .exact(m.mQ c1 (b8 a6)).trans a6
 rw[aq h2] at g;by_cases y:kind=3\/kind=4\/kind=5
 rotate_left
 .rw[aq y] at g;have h3:¬ kind=3:=I;have h4:¬ kind=4:=I;have h5:¬ kind=5:=I;simp only[go_sem,seval,b,h1,h7,h2,h3,h4,h5,h6,cr];refine aF ?_
  exact u _ _ g.symm
 rw[aM y] at g;obtain⟨av,P,b0⟩:=q.gl;by_cases z:A<0
 .rw[aM (.inl z)] at g;rcases y with rfl|rfl|rfl
  all_goals
   refine mq b z ?_;refine aE ?_
   exact u _ _ g.symm
 by_cases D:(L.aO.length:Int)<=A
 .rw[aM (.inr D)] at g;rcases b0 with⟨rfl,h0⟩|⟨a,rfl,ha,-⟩
  .have c8:(0:Int)<=A:=I;rcases y with rfl|rfl|rfl
   all_goals
    refine Wk b P z c8 ?_;refine aE ?_
    exact u _ _ g.symm
  .rcases y with rfl|rfl|rfl
   all_goals
    refine Wk b P z D ?_;refine aE ?_
    exact u _ _ g.symm
 rw[aq I] at g;obtain⟨a,rfl⟩:∃ a,av= .slice a 0 L.aO.length 3:=by
  rcases b0 with⟨-,e⟩|⟨a,e,-⟩
  .rw[e] at D;simp at D;omega
  .exact⟨a,e⟩
 obtain⟨i,rfl⟩:∃ i:Nat,A=(i:Int):=⟨A.toNat,I⟩;rw[iG] at g;have hX:=UF f q ho.N hn (fun N h=>(ho.p N h).2) kind B Cc y i I ho.aO src dst aY M (fun e=>by have :=hM e I;rwa [iG] at this);rcases y with rfl|rfl|rfl
 all_goals
  refine Wk b P z D ?_;refine aE ?_
  refine cQ (hX) U rfl (by simp[lows,V.low,a8]) f.bD ?_;rintro _ K9 H9 e4 j2 ⟨rfl,e5⟩;refine aH ?_;subst g;exact Ex.of (f.call e4 fun _ _=>trivial) trivial ⟨rfl,e5⟩
end
end
section
section
variable {K K0 K':RK}{H H0 H':aU}{Q0 Q:Rl->Prop}{i j j' n x W a b:Nat}{c:cR}{N N':bf}{k:b9}{L:bl}{v:V}{aO:List Gr}{all al:List Pk}
theorem aeD {N n:Nat}(h:N<=n):me K Q N n=1:=by unfold me;rw[aq I]
theorem bM.afA (h:bM K H k L)(p:Cx K H Q K' H')(f:∀ r,Q r->qD j r\/r= .node j\/r= .all j)(C:j<k.xs.length)(s:j<k.cs.length)(t:l8 K' H' j k.xs[j] k.cs[j] N' all):bM K' H' k {L with N:=L.N.set j N',all:=L.all.set j all}:=by
 have F:=p.off;have q:¬ Q .link:=fun d=>by rcases f _ d with h|h|h<;>first|exact h|cases h
 have G:¬ Q .nodes:=fun d=>by rcases f _ d with h|h|h<;>first|exact h|cases h
 have u:¬ Q .aO:=fun d=>by rcases f _ d with h|h|h<;>first|exact h|cases h
 have w:∀ j',j'≠j->¬ Q (.node j'):=fun j' e d=>by
  rcases f _ d with h|h|h
  .exact h
  .cases h;exact e rfl
  .cases h
 have y:∀ j',j'≠j->¬ Q (.all j'):=fun j' e d=>by
  rcases f _ d with h|h|h
  .exact h
  .cases h
  .cases h;exact e rfl
 have z:∀ j',j'≠j->nP Q j':=fun j' e=>by
  have E:∀ r,qD j' r->¬ Q r:=fun r o d=>by
   rcases f _ d with h|h|h
   .cases r<;>first|exact e (o.symm.trans h)|exact o
   .subst h;exact o
   .subst h;exact o
  exact⟨⟨E _ rfl,E _ rfl,E _ rfl,E _ rfl,E _ rfl,E _ rfl,E _ rfl⟩,fun _=>⟨E _ rfl,E _ rfl,E _ rfl,E _ rfl,E _ rfl,fun _=>⟨E _ rfl,E _ rfl⟩⟩⟩
 obtain⟨v,O,P⟩:=h.gl;have A:=h.l2;have B:=h.l3;refine⟨F.k _ _ h.kl q,F.k _ _ h.ka G,⟨v,(F.h _ _ h.kl q).trans O,P.off F u⟩,(F.h _ _ h.ka G).trans h.ga,h.l1,by show(L.N.set j N').length=_;rw[b7];exact h.l2,by show(L.all.set j all).length=_;rw[b7];exact h.l3,fun j' a M R D=>?_⟩;have g:j'<L.N.length:=I;have l:j'<L.all.length:=I;show l8 K' H' j' k.xs[j'] k.cs[j'] ((L.N.set j N')[j']'(by rw[b7];exact g)) ((L.all.set j all)[j']'(by rw[b7];exact l));by_cases e:j'=j
 .subst e;rw[uO,uO];exact t
 .rw[vS (fun h=>e h.symm),vS (fun h=>e h.symm)];exact(h.nd j' a M g l).off F p.len (w _ e) (y _ e) (z _ e)
theorem Ur (y:Cx K0 H0 qT K H)(z:bM K H k L){fr m:aQ}{tx:Z}(C:ah H b=bK [.u32 fr,.u32 m,.str tx])(D:K b=none)(a7:L.aO.length<60)
  {t:List (Nat×V)} (h0:lookS t 0= .ptr k.l 0) (Y:lookS t 9= .ptr b 0) {R:Exit->St->Prop} {r0 r1 r2 r3 c3 r4 r5 r6 c6 r7 r8 r9 e9 E F G M:Code} {O:Operand} {b0 b1 b2 b3:Nat}
  (hc:f10.body=some (.seq r0 (.seq r1 (.seq (.seq r2 (.block b0 (.loop (.seq r3 (.seq c3 (.seq (.block b1 (.seq r4 (.seq (.seq r5 (.block b2 (.loop (.seq r6 (.seq c6 (.seq (.block b3 (.seq r7 (.seq r8 (.cond O r9 e9)))) E)))))) F))) G)))))) M))))
  (hR:∀ (t':List (Nat×V)) (K':RK) (H':aU),Cx K0 H0 qT K' H'->Cx K H (fun r=>r= .link\/r= .aO) K' H'->bM K' H' k {L with aO:=L.aO++[(fr,m,tx)]}->(∀ q,q<38->lookS t' q=lookS t q)->R .normal ⟨t',H'⟩):
  vc prog H0.length f10.ntmps r9 R ⟨t,H⟩:=by
 have d:=y.lt z.kl;have o:=b8 C;obtain⟨av,hg,w⟩:=z.gl;simp only[f10,eg,mJ,zD,y8,DS] at hc;obtain⟨-,-,⟨⟨-,-,-,-,⟨⟨-,-,⟨⟨-,-,-,-,⟨⟨-,-,-,-,rfl,-⟩,-⟩⟩,-⟩⟩,-⟩⟩,-⟩⟩:=hc;refine ce ?_;have hJ:=y.bH (vs:=[.u32 fr,.u32 m,.str tx]) (mm:=none) bT;have P:=(y.start (fun _=>False)).bH (vs:=[.u32 fr,.u32 m,.str tx]) (mm:=none) bT;have p:=z.eH P;rcases w with⟨rfl,T⟩|⟨a,rfl,u,X⟩
 .simp only[go_sem,seval,h0,Y,hg,C,th d];refine aF ?_
  refine And.intro ?_ ?_
  .refine jg (jY H.length) [([],[]),([],[]),([],[]),([],[]),([0],[]),([0],[]),([],[1]),([1],[1]),([],[]),([],[]),([0],[0])] U (by simp only[jA,jy,cv,all_cons,xx,KD,iN d,iN o,j6,pB,gG])
  obtain⟨A,f,B⟩:=p.EK hJ (W:=H.length+1) J none (fun _ e=>by cases e) [(fr,m,tx)];refine hR _ _ _ A ((P.mono fun _ h=>h.elim).call B fun _ h=>h) (by rw[T];exact f) (fun q hq=>?_);simp only[lookS];iterate 10 rw[aq I]
 .have g:=y.lt u;have a6:=zu L.aO;have s:a≠k.l:=fun e=>by have :=z.kl;rw[<-e,u] at this;cases this
  have S:b≠a:=fun e=>by subst e;rw[D] at u;cases u
  obtain⟨o1,o2,o3⟩:=Dc L.aO;simp only[go_sem,seval,h0,Y,hg,C,X,qk g,xR d s,nW,bq (show(dT L.aO).length<=L.aO.length*3 by omega)];refine aF ?_
  refine And.intro ?_ ?_
  .refine jg (mL a H.length) [([],[]),([],[]),([],[]),([],[]),([0],[]),([0],[]),([],[1]),([1,2],[1,2]),([],[]),([],[]),([0],[0])] U (by simp only[jA,jy,cv,all_cons,B4,uX d s.symm,uX o S,KJ,IN g,J3 g,j6,pB,FO,gG])
  obtain⟨A,f,B⟩:=p.EK hJ (W:=H.length+1) J (some a) (fun _ e=>by cases e;exact u) (L.aO++[(fr,m,tx)]);rw[F0,bA] at A f B;refine hR _ _ _ A ((P.mono fun _ h=>h.elim).call B fun _ h=>h) f (fun q hq=>?_);simp only[lookS];iterate 10 rw[aq I]
end
end
section
section
variable {K K0 K':RK}{H H0 H':aU}{Q0 Q:Rl->Prop}{i j j' n x W a b:Nat}{c:cR}{N N':bf}{k:b9}{L:bl}{v:V}{aO:List Gr}{all al:List Pk}
def qN (j:Nat):Rl->Prop:=fun r=>qD j r\/r= .node j\/r= .all j
theorem bM.node (h:bM K H k L)(hi:i<k.xs.length)(d:i<k.cs.length)(e:L.N[i]?=some N)(f:L.all[i]?=some al):l8 K H i k.xs[i] k.cs[i] N al:=by
 obtain⟨l,rfl⟩:=cA.1 e;obtain⟨g,rfl⟩:=cA.1 f;exact h.nd i hi d l g
theorem N4 (g:Cx K0 H0 qT K H)(h:K x=some (.node i))(l:H.length=W)(d:Nat)(t:d<H.length)(a:Option Nat)(m:∀ y,a=some y->K y=some (.all i))(u:List Pk)(h0:0<u.length):
  Cx K0 H0 qT (gm (kj a K) W (some (.all i))) ((cI a H++[bK (fy u)]).set x (bK [.ptr d 0,.slice W 0 u.length 3]))/\
  Cx K H (fun r=>r= .node i\/r= .all i) (gm (kj a K) W (some (.all i))) ((cI a H++[bK (fy u)]).set x (bK [.ptr d 0,.slice W 0 u.length 3]))/\
  gm (kj a K) W (some (.all i)) x=some (.node i)/\
  ah ((cI a H++[bK (fy u)]).set x (bK [.ptr d 0,.slice W 0 u.length 3])) x=bK [.ptr d 0,.slice W 0 u.length 3]/\
  jD (gm (kj a K) W (some (.all i))) ((cI a H++[bK (fy u)]).set x (bK [.ptr d 0,.slice W 0 u.length 3])) (.all i) (.slice W 0 u.length 3) u.length (fy u):=by
 have q:lows (H.length+1) [V.ptr d 0,.slice W 0 u.length 3]:=by simp[lows,V.low];omega
 have s:=g.tp l h trivial a (.all i) m trivial (AQ _ u) q;have o:=(g.start (fun r=>r= .node i\/r= .all i)).tp l h (.inl rfl) a (.all i) m (.inr rfl) (AQ _ u) q;obtain⟨w,z,A⟩:=AU (ds:=fy u) (vs:=[V.ptr d 0,.slice W 0 u.length 3]) g l h m J;exact⟨s,o,w,z,.inr ⟨W,rfl,h0,lS,A⟩⟩
theorem XQ (E:Cx K0 H0 qT K H)(hL:bM K H k L)(hi:i<k.xs.length)(T:i<k.cs.length)(c4:L.N[i]?=some N)(c5:L.all[i]?=some al)(hb:al.length+N.D.aT.length<=6500000000000)
  {t:List (Nat×V)} (h7:lookS t 7= .ptr k.xs[i] 0) {R:Exit->St->Prop} {r0 r1 r2 r3 c3 r4 r5 r6 c6 r7 r8 r9 e9 c7 X c8 c9:Code} {e1:Operand} {b0 b1 b2 b3:Nat}
  (hc:f10.body=some (.seq r0 (.seq r1 (.seq (.seq r2 (.block b0 (.loop (.seq r3 (.seq c3 (.seq (.block b1 (.seq r4 (.seq (.seq r5 (.block b2 (.loop (.seq r6 (.seq c6 (.seq (.block b3 (.seq r7 (.seq r8 (.cond e1 r9 e9)))) c7)))))) X))) c8)))))) c9))))
  (hR:∀ (M:List (Nat×V)) (K':RK) (H':aU),Cx K0 H0 qT K' H'->bM K' H' k {L with N:=L.N.set i {N with D:={N.D with aT:=[]}},all:=L.all.set i (al++N.D.aT)}->(∀ q,q<49->lookS M q=lookS t q)->R .normal ⟨M,H'⟩):
  vc prog H0.length f10.ntmps X R ⟨t,H⟩:=by
 obtain⟨v,f,c2,j3,hN⟩:=hL.node hi T c4 c5;generalize hx:k.xs[i]=x at*;have e2:k.xs[i]=x:=hx;generalize e3:k.cs[i]=c at*;obtain⟨_,_,hD⟩:=hN.dev;have A:=hD.kd;clear hD;have e4:=E.lt f;have e5:=E.lt A;have k3:x≠c.d:=fun e=>by rw[<-e,f] at A;cases A
 simp only[f10,eg,mJ,zD,y8,DS] at hc;obtain⟨-,-,⟨⟨-,-,-,-,⟨⟨-,-,⟨-,rfl⟩⟩,-⟩⟩,-⟩⟩:=hc;refine ce ?_;refine i7 h7 c2 ?_
 refine gh (ajg E hN) U rfl (by simp[lows,V.low,e5]) E.bD ?_;rintro _ K1 H1 g c0 ⟨h6,h8,h9⟩;obtain rfl:=h6.symm;have Y:=g.off;have o:=E.call g fun _ _=>trivial
 have m:=(Y.h _ _ f J).trans c2;have p:=j3.off Y J;have s:=g.lt f;have F:=g.lt A;have c0:H.length<=H1.length:=g.len;have B:∀ {K2:RK} {H2:aU} {w:V},Cx K H1 (fun r=>r= .node i\/r= .all i) K2 H2->K2 x=some (.node i)->ah H2 x=bK [.ptr c.d 0,w]->jD K2 H2 (.all i) w (al++N.D.aT).length (fy (al++N.D.aT))->bM K2 H2 k {L with N:=L.N.set i {N with D:={N.D with aT:=[]}},all:=L.all.set i (al++N.D.aT)}:=fun P h1 h2 h3=>
  hL.afA ((g.mono (Q2:=qN i) fun r e=>by subst e;exact .inl rfl).call P fun r h=> .inr h) (fun _ h=>h) hi T (by rw[e2,e3];exact⟨_,h1,h2,h3,h9.off P.off P.len ⟨J,J⟩⟩)
 have hw:=CU (K:=K) (Q:=fun r=>r= .dev i) (Q2:=fun r=>r= .dev i) (N:=H.length) (n:=H.length) (k:=H1.length-H.length) (bz _) (fun _ h=>h);have C:=yP (Q:=fun r=>r= .dev i) f e4 J;have a6:=aeD (K:=K) (Q:=fun r=>r= .dev i) c0;rcases h8 with⟨rfl,j1⟩|⟨gb,rfl,j2,z,c1⟩
 .have e0:=nK.1 j1;rw[e0,jn] at B;have hp:=o.put (mm:=none) f trivial (vs:=[.ptr c.d 0,v]) (o.bD _ _ m).1;have a7:=(g.start (fun r=>r= .node i)).put (mm:=none) f rfl (vs:=[.ptr c.d 0,v]) (o.bD _ _ m).1;have e6:=a7.mono (Q2:=fun r=>r= .node i\/r= .all i) fun _ h=> .inl h
  have e7:=B e6 f (dr s _) (p.off a7.off J);have done:∀ M,(∀ q,q<49->lookS M q=lookS t q)->R .normal ⟨M,H1.set x (bK [.ptr c.d 0,v])⟩:=fun M ht=>
   hR M K _ hp (by rw[e0,jn];exact e7) ht
  rcases p with⟨rfl,h0⟩|⟨ab,rfl,h0,l,S⟩
  .refine d8 m ?_
   refine And.intro ?_ ?_
   .refine jg (me K (fun r=>r= .dev i) H.length) [([],[]),([],[]),([],[]),([],[]),([0],[]),([],[]),([],[]),([],[]),([0],[]),([0,1,2],[1,2]),([],[]),([],[]),([],[]),([0],[0])] U (by simp only[jA,jy,cv,all_cons,zz,j6,gG,C,hw])
   refine done _ (fun q hq=>?_);simp only[lookS];iterate 13 rw[aq I]
  .have O:=xy al;have u:=E.lt l;have y:=yP (Q:=fun r=>r= .dev i) l u J;simp only[go_sem,seval,m,S];refine aF ?_
   refine And.intro ?_ ?_
   .refine jg (me K (fun r=>r= .dev i) H.length) [([],[]),([],[]),([],[]),([],[]),([0],[]),([],[]),([],[]),([],[]),([0],[]),([0,1,2],[1,2]),([0],[]),([],[]),([],[]),([0],[0])] U (by simp only[jA,jy,cv,all_cons,zz,j6,gG,C,y,hw])
   refine done _ (fun q hq=>?_);simp only[lookS];iterate 13 rw[aq I]
 .have e8:=xy N.D.aT;have h4:=g.lt z;have a8:=E.lt z;obtain⟨p1,p2,p3⟩:=QM N.D.aT;have G:(N.D.aT.length=0)=False:=nY I;have b4:=yP (Q:=fun r=>r= .dev i) z a8 J;rcases p with⟨rfl,h0⟩|⟨ab,rfl,h0,l,S⟩
  .have e0:=nK.1 h0;subst e0;simp only[go_sem,seval,m,c1,G,qk s,bq (show(fy N.D.aT).length<=N.D.aT.length*3 by omega)];refine⟨⟨I,I,I,p1,I⟩,I,?_,?_⟩
   .refine jg (me K (fun r=>r= .dev i) H.length) [([],[]),([],[]),([],[]),([],[]),([0],[]),([],[]),([],[]),([],[]),([0],[]),([0,1,2],[1,2]),([0],[1]),([],[]),([],[]),([0],[0])] U (by simp only[jA,jy,cv,all_cons,zz,j6,pB,gG,C,b4,hw,a6])
   obtain⟨g1,g2,g3,g4,g5⟩:=N4 o f rfl c.d F none (fun _ e=>by cases e) N.D.aT j2;refine hR _ _ _ g1 (B g2 g3 g4 g5) (fun q hq=>?_);simp only[lookS];iterate 13 rw[aq I]
  .have O:=xy al;have u:=E.lt l;have h5:=g.lt l;have b5:ab≠x:=fun e=>by subst e;rw[l] at f;cases f
   have j4:ab≠gb:=fun e=>by subst e;rw[l] at z;cases z
   have y:=yP (Q:=fun r=>r= .dev i) l u J;simp only[go_sem,seval,m,c1,S,G,Fl s b5,bq (show(fy N.D.aT).length<=N.D.aT.length*3 by omega),bq (show(fy al).length<=al.length*3 by omega)];refine⟨⟨I,I,I,I,p1,I⟩,I,I,?_,?_⟩
   .refine jg (me K (fun r=>r= .dev i) H.length) [([],[]),([],[]),([],[]),([],[]),([0],[]),([],[]),([],[]),([],[]),([0],[]),([0,1,2],[1,2]),([0],[0,1]),([],[]),([],[]),([0],[0])] U (by simp only[jA,jy,cv,all_cons,zz,j6,aa6,gG,C,b4,y,hw,a6])
   obtain⟨g1,g2,g3,g4,g5⟩:=N4 o f rfl c.d F (some ab) (fun _ e=>by cases e;exact l) (al++N.D.aT) cp;have b6:=B g2 g3 g4 g5;rw[Kf,bA] at g1 b6;refine hR _ _ _ g1 b6 (fun q hq=>?_);simp only[lookS];iterate 13 rw[aq I]
end
end
section
section
variable {K K0 K':RK}{H H0 H':aU}{Q0 Q:Rl->Prop}{i j j' n x W a b:Nat}{c:cR}{N N':bf}{k:b9}{L:bl}{v:V}{aO:List Gr}{all al:List Pk}
theorem yC {P:Program}{m n:Nat}{R:Exit->St->Prop}{k:List Fr}{e:Exit}{s:St}(h:gone P m n R k e s):kQ P m n R k e s:=h
def oN (L:bl)(i:Nat):bl:=match L.N[i]?,L.all[i]? with
 |some N,some al=>{N:=L.N.set i {N with D:={N.D with out:=[],aT:=[]}},aO:=(L.aO++N.D.out).take 60,all:=L.all.set i (al++N.D.aT)}
 |_,_=>L
def da (L:bl):Nat->bl
 |0=>L
 |i+1=>oN (da L i) i
noncomputable def cO (k:b9) (L:bl) (a:cX) (M:bW):Int×bl:=((cV k L a M).1,da (cV k L a M).2 (cV k L a M).2.N.length)
def jO (i:Nat)(N:bf)(L:bl)(f:Nat):bl:={L with N:=L.N.set i {N with D:={N.D with out:=[]}},aO:=(L.aO++N.D.out.take f).take 60}
theorem Qn:(oN L i).N.length=L.N.length/\(oN L i).all.length=L.all.length:=by
 unfold oN;split
 .exact⟨b7,b7⟩
 .exact⟨rfl,rfl⟩
theorem Ud (h:L.aO.length<=60):(oN L i).aO.length<=60:=by
 unfold oN;split
 .exact List.length_take_le _ _
 .exact h
theorem QP (h:j≠i):(oN L i).N[j]?=L.N[j]?/\(oN L i).all[j]?=L.all[j]?:=by
 unfold oN;split
 .exact⟨mV (fun e=>h e.symm),mV (fun e=>h e.symm)⟩
 .exact⟨rfl,rfl⟩
theorem xd:∀ i,(da L i).N.length=L.N.length/\(da L i).all.length=L.all.length
 |0=>⟨rfl,rfl⟩
 |i+1=>⟨Qn.1.trans (xd i).1,Qn.2.trans (xd i).2⟩
theorem KU (h:L.aO.length<=60):∀ i,(da L i).aO.length<=60
 |0=>h
 |i+1=>Ud (KU h i)
theorem we:∀ {i j:Nat},i<=j->(da L i).N[j]?=L.N[j]?/\(da L i).all[j]?=L.all[j]?
 |0,_,_=>⟨rfl,rfl⟩
 |i+1,j,h=>⟨(QP I).1.trans (we I).1,(QP I).2.trans (we I).2⟩
theorem Kn (h1:L.N[i]?=some N)(h2:L.all[i]?=some al):oN L i={N:=L.N.set i {N with D:={N.D with out:=[],aT:=[]}},aO:=(L.aO++N.D.out).take 60,all:=L.all.set i (al++N.D.aT)}:=by
 unfold oN;rw[h1,h2]
theorem adV {l:List Gr}{x:Gr}(h:(l.take 60).length<60):(l++[x]).take 60=l.take 60++[x]:=by
 have d:l.length<60:=by rw[cF] at h;omega
 rw[bq cp,bq I]
theorem VZ {l:List Gr}{x:Gr}(h:¬ (l.take 60).length<60):(l++[x]).take 60=l.take 60:=by
 have d:60<=l.length:=by rw[cF] at h;omega
 rw[CB d]
theorem Tq {f:Nat}(h:f<N.D.out.length)(d:(jO i N L f).aO.length<60):{jO i N L f with aO:=(jO i N L f).aO++[N.D.out[f]]}=jO i N L (f+1):=by
 have e:(L.aO++N.D.out.take (f+1)).take 60=(L.aO++N.D.out.take f).take 60++[N.D.out[f]]:=by
  rw[uV h,<-hZ,adV d]
 unfold jO;rw[e]
theorem W9 {f:Nat}(h:f<N.D.out.length)(d:¬ (jO i N L f).aO.length<60):jO i N L f=jO i N L (f+1):=by
 have e:(L.aO++N.D.out.take (f+1)).take 60=(L.aO++N.D.out.take f).take 60:=by
  rw[uV h,<-hZ,VZ d]
 unfold jO;rw[e]
theorem acB (h:L.aO.length<=60):jO i N L 0={L with N:=L.N.set i {N with D:={N.D with out:=[]}}}:=by
 unfold jO;rw[iX,jn,bq h]
theorem aeI (hC:Cx K0 H0 Q0 K H)(hL:bM K H k L)(hk:k.ok)(ho:L.ok n)(hn:n<=900000000)(a:cX)(h6:a.kind≠6)(hA:-9223372036854775808<=a.A/\a.A<9223372036854775808)(M:bW)(hM:a.kind=3->0<=a.A->pY k L a.A.toNat M)
  (hb:∀ (i:Nat) (N:bf) (al:List Pk),(cV k L a M).2.N[i]?=some N->(cV k L a M).2.all[i]?=some al->al.length+N.D.aT.length<=6500000000000/\N.D.out.length<=1000000000) (c5:(cV k L a M).2.aO.length<=60)
  {r0 r1 r2 r3 c3 r4 r5 r6 c6 r7 r8 r9 e9 j3 j4 k3 k4:Code} {k5:Operand} {b0 b1 b2 b3:Nat}
  (hc:f10.body=some (.seq r0 (.seq r1 (.seq (.seq r2 (.block b0 (.loop (.seq r3 (.seq c3 (.seq (.block b1 (.seq r4 (.seq (.seq r5 (.block b2 (.loop (.seq r6 (.seq c6 (.seq (.block b3 (.seq r7 (.seq r8 (.cond k5 r9 e9)))) j3)))))) j4))) k3)))))) k4)))):
  vc prog H.length f10.ntmps (.seq r0 (.seq r1 (.seq (.seq r2 (.block b0 (.loop (.seq r3 (.seq c3 (.seq (.block b1 (.seq r4 (.seq (.seq r5 (.block b2 (.loop (.seq r6 (.seq c6 (.seq (.block b3 (.seq r7 (.seq r8 (.cond k5 r9 e9)))) j3)))))) j4))) k3)))))) k4))) (gV prog f10 (Ex K H qT fun v K' H'=>v= .i64 (cO k L a M).1/\bM K' H' k (cO k L a M).2)) ⟨jX [.ptr k.l 0,.agg [.i64 a.kind,.i64 a.A,.i64 a.B,.i64 a.C,.u32 a.src,.u32 a.dst,.str a.aY]] 0,H⟩:=by
 have m9:=hL.l1;have q6:=hC.lt hL.kl;have k6:k.l<H.length+1:=I;have R9:=fun {K0:RK} {H0:aU} {K:RK} {H:aU} {L:bl} {b:Nat} (hC:Cx K0 H0 qT K H) (hL:bM K H k L) {fr tg:aQ} {tx:Z} (hb:ah H b=bK [.u32 fr,.u32 tg,.str tx]) (c7:K b=none) (c5:L.aO.length<60) {t:List (Nat×V)} (h0:lookS t 0= .ptr k.l 0) (h9:lookS t 9= .ptr b 0) {R:Exit->St->Prop}=>Ur hC hL hb c7 c5 h0 h9 hc (R:=R)
 have l0:=fun {K0:RK} {H0:aU} {K:RK} {H:aU} {L:bl} {i:Nat} {N:bf} {al:List Pk} (hC:Cx K0 H0 qT K H) (hL:bM K H k L) (hi:i<k.xs.length) (O:i<k.cs.length) (T:L.N[i]?=some N) (X:L.all[i]?=some al) (hb:al.length+N.D.aT.length<=6500000000000) {t:List (Nat×V)} (h7:lookS t 7= .ptr k.xs[i] 0) {R:Exit->St->Prop}=>XQ hC hL hi O T X hb h7 hc (R:=R)
 simp only[f10,eg,mJ,zD,y8,DS] at hc;obtain⟨rfl,rfl,⟨⟨rfl,rfl,rfl,rfl,⟨⟨rfl,rfl,⟨⟨rfl,rfl,rfl,rfl,⟨⟨rfl,rfl,rfl,rfl,q9,rfl⟩,rfl⟩⟩,q0⟩⟩,rfl⟩⟩,rfl⟩⟩:=hc;clear q9 q0;have e6:=(hC.start qT).bH (vs:=[.i64 a.kind,.i64 a.A,.i64 a.B,.i64 a.C,.u32 a.src,.u32 a.dst,.str a.aY]) (mm:=none) bT;have n0:=(hC.start (fun _=>False)).bH (vs:=[.i64 a.kind,.i64 a.A,.i64 a.B,.i64 a.C,.u32 a.src,.u32 a.dst,.str a.aY]) (mm:=none) bT;have n1:=hL.eH n0;refine ce ?_;refine d8 @ja ?_
 refine cQ (Zl e6 n1 hk ho hn a h6 hA M hM) U rfl (by simp[lows,V.low,k6]) e6.bD ?_;rintro _ K1 H1 o8 m9 ⟨rfl,c0⟩;have n3:=e6.call o8 fun _ h=>h
 unfold cO;generalize cV k L a M=RR at*;obtain⟨e1,S⟩:=RR;dsimp only at c0 hb c5 |-
 have n4:=c0.l2;have q7:=c0.l3;rw[n4];obtain⟨av,q1,-⟩:=c0.gl;refine d8 q1 ?_
 refine cG (fun j st=>∃ (i:Nat) (Hi:aU) (Ki:RK),i+j=k.xs.length/\Cx K H qT Ki Hi/\bM Ki Hi k (da S i)/\st=⟨[(0,.ptr k.l 0),(5,.i64 e1),(16,.slice k.na 0 k.xs.length 1),(17,.i64 k.xs.length),(18,.i64 i)],Hi⟩) ?_ ?_
 .exact dh k.xs.length ⟨[(0,.ptr k.l 0),(5,.i64 e1),(16,.slice k.na 0 k.xs.length 1),(17,.i64 k.xs.length),(18,.i64 (0:Nat))],H1⟩ gJ rfl (fun _ _ h=>h) ⟨0,H1,K1,I,n3,c0,rfl⟩
 rintro j st ⟨i,Hi,Ki,q8,c1,c9,rfl⟩-;by_cases hi:i<k.xs.length
 rotate_left
 .have e8:¬ (i:Int)<(k.xs.length:Int):=I;obtain rfl:i=k.xs.length:=I;refine pL e8 ?_
  exact Ex.of c1 trivial ⟨rfl,c9⟩
 have e8:(i:Int)<(k.xs.length:Int):=I;have n5:(0:Int)<=(i:Int):=I;have w1:=iq (i:=i) (by have :=hk.x3;omega);have n6:=c9.ga;have hq:(k.xs.map (fun p=>V.ptr p 0)).getD i .bH= .ptr k.xs[i] 0:=by
  rw[bY,dU,bn hi];rfl
 have O:i<k.cs.length:=I;obtain⟨N,e3⟩:∃ N,S.N[i]?=some N:=⟨_,bn I⟩;obtain⟨al,e4⟩:∃ al,S.all[i]?=some al:=⟨_,bn I⟩;obtain⟨m6,s4⟩:=hb i N al e3 e4;have T:=(we (L:=S) (bz i)).1.trans e3;have X:=(we (L:=S) (bz i)).2.trans e4;have l4:=KU c5 i;have o1:da S (i+1)=oN (da S i) i:=rfl;generalize da S i=w at*;have o2:i<w.N.length:=(cA.1 T).1;obtain⟨v2,s5,q2,s6,hN⟩:=c9.node hi O T X;have hd:k.cs[i].d<Hi.length:=by obtain⟨_,_,hD⟩:=hN.dev;exact c1.lt hD.kd
 refine qb8 e8 n6 hq q2 hi n5 ?_
 refine cQ (aaP c1 hN) U rfl (by simp[lows,V.low,hd]) c1.bD ?_;rintro _ K2 H2 m4 s0 ⟨o9,p0,p1⟩;obtain rfl:=o9.symm;have l5:=c1.call m4 fun _ _=>trivial
 have l6:bM Ki H2 k (jO i N w 0):=by
  rw[acB l4];exact c9.one (m4.mono (Q2:=qD i) fun r e=>by subst e;rfl) hi O p1
 have l7:∀ m,(jO i N w m).N[i]?=some {N with D:={N.D with out:=[]}}:=fun m=>by
  show(w.N.set i _)[i]?=_;rw[kF o2]
 have m0:∀ m,(jO i N w m).all[i]?=some al:=fun m=>X
 have Y:{jO i N w N.D.out.length with N:=(jO i N w N.D.out.length).N.set i {N with D:={N.D with out:=[],aT:=[]}},all:=(jO i N w N.D.out.length).all.set i (al++N.D.aT)}=da S (i+1):=by
  rw[o1,Kn T X];unfold jO;rw[bq (bz _),nC]
 have a6:∀ (o:List (Nat×V)) (K':RK) (H':aU),Cx K H qT K' H'->bM K' H' k (da S (i+1))->lookS o 0= .ptr k.l 0->lookS o 5= .i64 e1->lookS o 16= .slice k.na 0 k.xs.length 1->lookS o 17= .i64 k.xs.length->lookS o 18= .i64 (bh ((i:Int)+1))->
   nV H.length 64 (fun j st=>∃ (i:Nat) (Hi:aU) (Ki:RK),i+j=k.xs.length/\Cx K H qT Ki Hi/\bM Ki Hi k (da S i)/\st=⟨[(0,.ptr k.l 0),(5,.i64 e1),(16,.slice k.na 0 k.xs.length 1),(17,.i64 k.xs.length),(18,.i64 i)],Hi⟩) j ⟨o,H'⟩:=fun o K' H' q g e0 e5 h5 h8 j1=>
  cH (j-1) ⟨[(0,.ptr k.l 0),(5,.i64 e1),(16,.slice k.na 0 k.xs.length 1),(17,.i64 k.xs.length),(18,.i64 (i+1:Nat))],H'⟩ I (by simp[St.get,e0,e5,h5,h8,j1,w1]) rfl (fun _ _ h=>h) ⟨i+1,H',K',I,q,g,rfl⟩
 rcases p0 with⟨rfl,m5⟩|⟨ob,rfl,m5,p4,p6⟩
 .refine aK ?_
  refine ij 1 (aH ?_);rw[m5] at Y;refine l0 l5 l6 hi O (l7 0) (m0 0) m6 aky fun o K' H' q g f=>yC ?_
  have g:bM K' H' k (da S (i+1)):=Y▸g;have f0:=f 0 ag;have f5:=f 5 ag;have f16:=f 16 ag;have f17:=f 17 ag;have f18:=f 18 ag;simp only[go_sem,seval] at f0 f5 f16 f17 f18;refine aL f18 ?_;exact a6 _ _ _ q g (by simp only[go_sem,seval,f0]) (by simp only[go_sem,seval,f5]) (by simp only[go_sem,seval,f16]) (by simp only[go_sem,seval,f17]) aky
 refine aK ?_
 refine cG (fun j st=>∃ (m:Nat) (G:aU) (Kj:RK),m+j=N.D.out.length/\Cx K H qT Kj G/\Kj ob=some (.out i)/\ah G ob=bK (dT N.D.out)/\bM Kj G k (jO i N w m)/\st=⟨[(0,.ptr k.l 0),(5,.i64 e1),(7,.ptr k.xs[i] 0),(16,.slice k.na 0 k.xs.length 1),(17,.i64 k.xs.length),(18,.i64 i),(26,.slice ob 0 N.D.out.length 3),(27,.i64 N.D.out.length),(28,.i64 m)],G⟩) ?_ ?_
 .exact dh N.D.out.length ⟨[(0,.ptr k.l 0),(5,.i64 e1),(7,.ptr k.xs[i] 0),(16,.slice k.na 0 k.xs.length 1),(17,.i64 k.xs.length),(18,.i64 i),(26,.slice ob 0 N.D.out.length 3),(27,.i64 N.D.out.length),(28,.i64 (0:Nat))],H2⟩ gJ rfl (fun _ _ h=>h) ⟨0,H2,Ki,I,l5,p4,p6,l6,rfl⟩
 rintro j2 st ⟨m,G,Kj,q5,c2,s,e2,c4,rfl⟩-;by_cases h1:m<N.D.out.length
 rotate_left
 .have a7:¬ (m:Int)<(N.D.out.length:Int):=I;obtain rfl:m=N.D.out.length:=I;refine pL a7 ?_
  refine l0 c2 c4 hi O (l7 _) (m0 _) m6 aky fun o K' H' q g f=>yC ?_
  have g:bM K' H' k (da S (i+1)):=Y▸g;have f0:=f 0 ag;have f5:=f 5 ag;have f16:=f 16 ag;have f17:=f 17 ag;have f18:=f 18 ag;simp only[go_sem,seval] at f0 f5 f16 f17 f18;refine aL f18 ?_;exact a6 _ _ _ q g (by simp only[go_sem,seval,f0]) (by simp only[go_sem,seval,f5]) (by simp only[go_sem,seval,f16]) (by simp only[go_sem,seval,f17]) aky
 have a7:(m:Int)<(N.D.out.length:Int):=I;have m1:(0:Int)<=(m:Int):=I;have w2:=iq (i:=m) I;have z:=Js h1;have h3:=zu N.D.out;have u:=Tq (i:=i) (L:=w) h1;have c8:=W9 (i:=i) (L:=w) h1;obtain⟨fr,tg,tx,q3⟩:∃ (fr tg:aQ) (tx:Z),N.D.out[m]=(fr,tg,tx):=⟨_,_,_,rfl⟩;rw[q3] at z u;dsimp only at z;obtain⟨s7,m7,m8⟩:=c4.gl;have q4:=c2.lt c4.kl;have hz:G.length<(G++[bK [.u32 0#32,.u32 0#32,.str []]]).length:=J;have a8:=c2.boxed (zs:=[.u32 0#32,.u32 0#32,.str []]) (ys:=[.u32 fr,.u32 tg,.str tx]) bT bT;have E:=(c2.start (fun _=>False)).boxed (zs:=[.u32 0#32,.u32 0#32,.str []]) (ys:=[.u32 fr,.u32 tg,.str tx]) bT bT;have m2:=(E.off.h _ _ c4.kl id).trans m7;have m3:=pM (H:=G) (x:=bK [.u32 0#32,.u32 0#32,.str []]) (y:=bK [.u32 fr,.u32 tg,.str tx]);have b4:=(E.off.h _ _ s id).trans e2;have h4:=c4.eH E;have c7:Kj G.length=none:=c2.fresh _ (bz _);refine qb8 a7 e2 z h3 m1 m2 ?_
 have F:∀ (o:List (Nat×V)) (K':RK) (H':aU),Cx K H qT K' H'->K' ob=some (.out i)->ah H' ob=bK (dT N.D.out)->bM K' H' k (jO i N w (m+1))->lookS o 0= .ptr k.l 0->lookS o 5= .i64 e1->lookS o 7= .ptr k.xs[i] 0->lookS o 16= .slice k.na 0 k.xs.length 1->lookS o 17= .i64 k.xs.length->lookS o 18= .i64 i->lookS o 26= .slice ob 0 N.D.out.length 3->lookS o 27= .i64 N.D.out.length->lookS o 28= .i64 (bh ((m:Int)+1))->
   nV H.length 64 (fun j st=>∃ (m:Nat) (G:aU) (Kj:RK),m+j=N.D.out.length/\Cx K H qT Kj G/\Kj ob=some (.out i)/\ah G ob=bK (dT N.D.out)/\bM Kj G k (jO i N w m)/\st=⟨[(0,.ptr k.l 0),(5,.i64 e1),(7,.ptr k.xs[i] 0),(16,.slice k.na 0 k.xs.length 1),(17,.i64 k.xs.length),(18,.i64 i),(26,.slice ob 0 N.D.out.length 3),(27,.i64 N.D.out.length),(28,.i64 m)],G⟩) j2 ⟨o,H'⟩:=fun o K' H' q o3 o4 g e0 e5 e7 h5 h8 j1 o5 o6 o7=>
  cH (j2-1) ⟨[(0,.ptr k.l 0),(5,.i64 e1),(7,.ptr k.xs[i] 0),(16,.slice k.na 0 k.xs.length 1),(17,.i64 k.xs.length),(18,.i64 i),(26,.slice ob 0 N.D.out.length 3),(27,.i64 N.D.out.length),(28,.i64 (m+1:Nat))],H'⟩ I (by simp[St.get,e0,e5,e7,h5,h8,j1,o5,o6,o7,w2]) rfl (fun _ _ h=>h) ⟨m+1,H',K',I,q,o3,o4,g,rfl⟩
 rcases m8 with⟨rfl,h0⟩|⟨a2,rfl,s3,-⟩
 .have P:(jO i N w m).aO.length<60:=by rw[h0];decide
  refine aK ?_
  refine R9 a8 h4 m3 c7 P aky aky fun o K' H' q b6 g f=>yC ?_
  have f0:=f 0 ag;have f5:=f 5 ag;have f7:=f 7 ag;have f16:=f 16 ag;have f17:=f 17 ag;have f18:=f 18 ag;have f26:=f 26 ag;have f27:=f 27 ag;have f28:=f 28 ag;simp only[go_sem,seval] at f0 f5 f7 f16 f17 f18 f26 f27 f28;refine aL f28 ?_;exact F _ _ _ q (b6.off.k _ _ s J) ((b6.off.h _ _ s J).trans b4) (u P▸g) (by simp only[go_sem,seval,f0]) (by simp only[go_sem,seval,f5]) (by simp only[go_sem,seval,f7]) (by simp only[go_sem,seval,f16]) (by simp only[go_sem,seval,f17]) (by simp only[go_sem,seval,f18]) (by simp only[go_sem,seval,f26]) (by simp only[go_sem,seval,f27]) aky
 by_cases P:(jO i N w m).aO.length<60
 .have b5:((jO i N w m).aO.length:Int)<60:=I;refine pL b5 ?_
  refine R9 a8 h4 m3 c7 P aky aky fun o K' H' q b6 g f=>yC ?_
  have f0:=f 0 ag;have f5:=f 5 ag;have f7:=f 7 ag;have f16:=f 16 ag;have f17:=f 17 ag;have f18:=f 18 ag;have f26:=f 26 ag;have f27:=f 27 ag;have f28:=f 28 ag;simp only[go_sem,seval] at f0 f5 f7 f16 f17 f18 f26 f27 f28;refine aL f28 ?_;exact F _ _ _ q (b6.off.k _ _ s J) ((b6.off.h _ _ s J).trans b4) (u P▸g) (by simp only[go_sem,seval,f0]) (by simp only[go_sem,seval,f5]) (by simp only[go_sem,seval,f7]) (by simp only[go_sem,seval,f16]) (by simp only[go_sem,seval,f17]) (by simp only[go_sem,seval,f18]) (by simp only[go_sem,seval,f26]) (by simp only[go_sem,seval,f27]) aky
 have b5:¬ ((jO i N w m).aO.length:Int)<60:=I;refine pL b5 ?_
 exact F _ _ _ a8 s b4 (c8 P▸h4) aky aky aky aky aky aky aky aky aky
theorem Q9 (e:Cx K0 H0 Q0 K H)(f:bM K H k L)(g:k.ok)(r:L.ok n)(h:n<=900000000)(a:cX)(m:a.kind≠6)(o:-9223372036854775808<=a.A/\a.A<9223372036854775808)(M:bW)(p:a.kind=3->0<=a.A->pY k L a.A.toNat M)
  (q:∀ (i:Nat) (N:bf) (al:List Pk),(cV k L a M).2.N[i]?=some N->(cV k L a M).2.all[i]?=some al->al.length+N.D.aT.length<=6500000000000/\N.D.out.length<=1000000000) (d:(cV k L a M).2.aO.length<=60):
  ∃ v K' H',Dx prog 10 [.ptr k.l 0,.agg [.i64 a.kind,.i64 a.A,.i64 a.B,.i64 a.C,.u32 a.src,.u32 a.dst,.str a.aY]] K H qT v K' H'/\(v= .i64 (cO k L a M).1/\bM K' H' k (cO k L a M).2):=
 xQ U func10 rfl db (aeI e f g r h a m o M p q d rfl)
end
end
end Go.Vm
end
section
namespace Go.Vm
section
structure Nd where
 k0:Nat
 k1:Nat
 is:Bool
 owner:Int
 deriving Inhabited
def leaf:Nd:=⟨0,0,false,0⟩
def fc (pos:Nat->Nat)(j:Nat):V:=if j=0 then .nilPtr else .ptr (pos j) 0
def jF (many:Int)(j:Nat):List V:=if j=0 then[.i64 many] else[]
def js (pos:Nat->Nat)(many:Int)(j:Nat)(a:Nd):aa:=⟨false,fc pos a.k0::fc pos a.k1:: .bool a.is:: .i64 a.owner::jF many j,none⟩
def ef (many:Int)(A:List Nd):aU:=A.zipIdx.map fun p=>some (js id many p.2 p.1)
def mU (A:List Nd):Prop:=0<A.length/\∀ (j:Nat) nd,A[j]?=some nd->nd.k0<A.length/\nd.k1<A.length
structure cB (pos:Nat->Nat) (many:Int) (A:List Nd) (H:aU):Prop where
 here:∀ (j:Nat) nd,A[j]?=some nd->ah H (pos j)=some (js pos many j nd)
 inj:∀ i j,i<A.length->j<A.length->pos i=pos j->i=j
 closed:mU A
theorem km (many:Int)(A:List Nd):(ef many A).length=A.length:=by unfold ef;simp
theorem Bn (many:Int)(A:List Nd)(j:Nat):ah (ef many A) j=(A[j]?).map (js id many j):=by
 unfold ah ef;rw[dU,List.getElem?_zipIdx];cases A[j]? with
 |none=>rfl
 |some a=>simp
theorem cB.init {many:Int}{A:List Nd}(h:mU A):cB id many A (ef many A):=
 ⟨fun j a e=>by rw[show id j=j from rfl,Bn,e];rfl,fun _ _ _ _ e=>e,h⟩
theorem cB.lt {pos:Nat->Nat}{many:Int}{A:List Nd}{H:aU}(h:cB pos many A H){j:Nat}(a:j<A.length):pos j<H.length:=
 b8 (h.here j A[j] (bn a))
theorem cB.de {pos:Nat->Nat}{many:Int}{A:List Nd}{H H':aU}(h:cB pos many A H)(b:∀ j,j<A.length->ah H' (pos j)=ah H (pos j)):cB pos many A H':=
 ⟨fun j c e=>by rw[b j (cA.1 e).1];exact h.here j c e,h.inj,h.closed⟩
theorem cB.app {pos:Nat->Nat}{many:Int}{A:List Nd}{H:aU}(h:cB pos many A H)(X:aU):cB pos many A (H++X):=
 h.de fun _ a=>fJ (h.lt a) X
theorem cB.put {pos:Nat->Nat}{many many':Int}{A:List Nd}{H:aU}(h:cB pos many A H){j:Nat}(p:j<A.length)(d:Nd)(q:d.k0<A.length/\d.k1<A.length)(hm:j=0\/many'=many):
  cB pos many' (A.set j d) (H.set (pos j) (some (js pos many' j d))):=by
 refine⟨fun i w e=>?_,fun a b r t e=>h.inj a b (by simpa using r) (by simpa using t) e,by simpa using h.closed.1,fun i w e=>?_⟩
 .rw[Bd] at e;by_cases c:j=i
  .subst c;rw[aM rfl,aM p] at e;cases e;exact dr (h.lt p) _
  .rw[aq c] at e;have x:i<A.length:=(cA.1 e).1;rw[eA (fun u=>c (h.inj _ _ p x u)),h.here i w e];unfold js jF;by_cases g:i=0
   .rcases hm with hm|hm
    .exact absurd (hm.trans g.symm) c
    .rw[hm]
   .rw[aq g,aq g]
 .rw[b7];rw[Bd] at e;by_cases c:j=i
  .subst c;rw[aM rfl,aM p] at e;cases e;exact q
  .rw[aq c] at e;exact h.closed.2 i w e
theorem cB.grow {pos:Nat->Nat}{many:Int}{A:List Nd}{H:aU}(h:cB pos many A H)(y:A.length≠0:=by omega):
  cB (fun j=>if j=A.length then H.length else pos j) many (A++[leaf]) (H++[bK [.nilPtr,.nilPtr,.bool false,.i64 0]]):=by
 have i:∀ j,j<A.length->(if j=A.length then H.length else pos j)=pos j:=fun j d=>aq I
 have g:∀ j,j<A.length->fc (fun j=>if j=A.length then H.length else pos j) j=fc pos j:=fun j d=>by unfold fc;simp only[i j d]
 refine⟨fun j w e=>?_,fun a b q r e=>?_,J,fun j w e=>?_⟩
 .by_cases d:j<A.length
  .rw[kY d] at e;obtain⟨z,B⟩:=h.closed.2 j w e;show ah _ (if j=A.length then H.length else pos j)=_;rw[i j d,fJ (h.lt d),h.here j w e];unfold js;rw[g _ z,g _ B]
  .rw[iy I] at e;have p:j=A.length:=by
    have :=(cA.1 e).1;simp at this;omega
   subst p;simp at e;subst e;show ah _ (if A.length=A.length then H.length else pos A.length)=_;rw[aM rfl,qb];unfold js jF;rw[aq y];rfl
 .have e:(if a=A.length then H.length else pos a)=(if b=A.length then H.length else pos b):=e;have c:∀ x,x<(A++[leaf]).length->x≠A.length->x<A.length:=fun x o t=>by simp at o;omega
  by_cases u:a=A.length<;>by_cases t:b=A.length
  .omega
  .rw[aM u,aq t] at e;have :=h.lt (c b r t);omega
  .rw[aq u,aM t] at e;have :=h.lt (c a q u);omega
  .rw[aq u,aq t] at e;exact h.inj a b (c a q u) (c b r t) e
 .rw[bA];by_cases d:j<A.length
  .rw[kY d] at e;have :=h.closed.2 j w e;simp;omega
  .rw[iy I] at e;have :w=leaf:=by
    cases o:j-A.length with
    |zero=>rw[o] at e;simp at e;exact e.symm
    |succ k=>rw[o] at e;simp at e
   subst this;simp[leaf]
def jf (pos:Nat->Nat)(n:Nat):List Nat:=(List.range n).map pos
theorem u5 (pos:Nat->Nat)(n:Nat):(jf pos n).length=n:=by unfold jf;simp
theorem zY (pos:Nat->Nat){n j:Nat}(h:j<n):bx (jf pos n) j=pos j:=by
 unfold bx jf;rw[bY,dU,tS h];rfl
theorem cB.J8 {pos:Nat->Nat}{many:Int}{A:List Nd}{H:aU}(h:cB pos many A H):(jf pos A.length).Nodup:=by
 unfold jf;refine List.pairwise_iff_getElem.2 fun i j c a b e=>?_
 simp only[cq,CO] at c a;simp only[wq,List.getElem_range] at e;have :=h.inj i j c a e;omega
theorem cB.aaI {pos:Nat->Nat}{many:Int}{A:List Nd}{H:aU}(h:cB pos many A H):∀ b∈jf pos A.length,b<H.length:=fun b a=>by
 unfold jf at a;obtain⟨j,c,rfl⟩:=eZ.1 a;exact h.lt (by simpa using c)
theorem SL {c pos:Nat->Nat}{many:Int}{j:Nat}{b:Nd}(h0:b.k0≠0->c b.k0=pos b.k0)(h1:b.k1≠0->c b.k1=pos b.k1):aW c (js id many j b).cs=(js pos many j b).cs:=by
 have a:∀ k,(k≠0->c k=pos k)->(fc id k).bd c=fc pos k:=fun k h=>by
  unfold fc;by_cases e:k=0
  .rw[aM e,aM e];rfl
  .rw[aq e,aq e];show V.ptr (c k) 0=_;rw[h e]
 have d:aW c (jF many j)=jF many j:=by
  unfold jF;split <;>rfl
 unfold js;simp only[aW,a _ h0,a _ h1,d];rfl
theorem OT {many:Int}{j n:Nat}{b:Nd}(h0:b.k0<n)(h1:b.k1<n):lows n (js id many j b).cs:=by
 have a:∀ k,k<n->(fc id k).low n:=fun k h=>by
  unfold fc;split
  .trivial
  .exact h
 have c:lows n (jF many j):=by
  unfold jF;split
  .exact⟨trivial,trivial⟩
  .trivial
 exact⟨a _ h0,a _ h1,trivial,trivial,c⟩
theorem Ku {a:Nat->Nat}{N:Nat}{s:St}:∀ {l:aU} {i:Nat},(∀ b B,ah l b=some B->ah s.H (a (i+b))=some ⟨B.ro,aW a B.cs,B.mp⟩/\lows N B.cs)->lu a N s l i
 |[],_,_=>trivial
 |none::l,i,h=>Ku (l:=l) (i:=i+1) fun b B e=>by
   have :=h (b+1) B (by simpa [ah] using e)
   rwa [show i+(b+1)=i+1+b by omega] at this
 |some C::l,i,h=>⟨h 0 C rfl,Ku (l:=l) (i:=i+1) fun b B e=>by
   have :=h (b+1) B (by simpa [ah] using e)
   rwa [show i+(b+1)=i+1+b by omega] at this⟩
theorem cB.NH {pos:Nat->Nat}{many:Int}{A:List Nd}{s:St}(h:cB pos many A s.H):lu (bx (jf pos A.length)) A.length s (ef many A) 0:=by
 refine Ku fun b B e=>?_
 rw[Bn] at e;cases a:A[b]? with
 |none=>rw[a] at e;cases e
 |some d=>
  rw[a] at e;cases e;have c:=(cA.1 a).1;obtain⟨g,i⟩:=h.closed.2 b d a;rw[eX,zY pos c,h.here b d a];refine⟨?_,OT g i⟩;rw[SL (pos:=pos) (fun _=>zY pos g) (fun _=>zY pos i)];rfl
theorem Vd (many:Int)(A:List Nd):pO (ef many A):=by
 have :∀ (l:List (Nd×Nat)),pO (l.map fun p=>some (js id many p.2 p.1)):=by
  intro l;induction l with
  |nil=>trivial
  |cons x l ih=>exact ih
 exact this _
theorem agL (many:Int)(A:List Nd)(k:Nat):oe ((ef many A).drop k):=by
 have :∀ (l:List (Nd×Nat)),oe (l.map fun p=>some (js id many p.2 p.1)):=by
  intro l;induction l with
  |nil=>trivial
  |cons x l ih=>exact⟨rfl,ih⟩
 unfold ef;rw[<-ve];exact this _
theorem Fin.tree {m:Nat}{v' v:V}{pos:Nat->Nat}{many:Int}{A:List Nd}{s:St}(h:cB pos many A s.H)(t:m<=A.length)(p:∀ j,j<m->pos j=j)(q:v'.bd (bx (jf pos A.length))=v/\v'.low A.length):Fin m v' (ef many A) v s:=by
 refine Fin.bd (jf pos A.length) (by rw[u5,km]) (by rw[u5];exact t) ?_ h.J8 (by rw[km];exact q) (by rw[km];exact h.NH);unfold jf;refine wG fun i=>?_
 rw[uE];by_cases r:i<m
 .rw[aM r,dU,tS I,tS r];simp[p i r]
 .rw[aq r,iW cp]
def rn (pos:Nat->Nat)(n L:Nat)(j:Nat):Nat:=if j<n then pos j else L+(j-n)
section
variable {pos:Nat->Nat}{many many':Int}{A A':List Nd}{H:aU}
def yn (pos:Nat->Nat)(n:Nat)(H:aU)(h':aU):aU:=
 fX H (gn (bx (cu (jf pos n) H.length h')) (jf pos n) h')++iQ (bx (cu (jf pos n) H.length h')) (jf pos n) h'
theorem Gf (b:A.length<=A'.length){j:Nat}(a:j<A'.length):bx (cu (jf pos A.length) H.length (ef many' A')) j=rn pos A.length H.length j:=by
 unfold rn cu;by_cases h:j<A.length
 .rw[aM h,AP (by rw[u5];exact h),zY pos h]
 .rw[aq h,z8 (by rw[u5];omega) (by rw[u5,km];omega),u5]
theorem V2 (a:A.length<=A'.length):(yn pos A.length H (ef many' A')).length=H.length+(A'.length-A.length):=by
 unfold yn;rw[bA,jE,vA,cq,dO,u5,km]
theorem aiY {b:Nat}(a:b<H.length)(c:∀ j,j<A.length->pos j≠b)(h':aU):ah (yn pos A.length H h') b=ah H b:=by
 unfold yn;rw[fJ (by rw[jE];exact a),uH _ _ _ a,zP];intro g;unfold jf at g;obtain⟨j,d,e⟩:=eZ.1 g;exact c j (by simpa using d) e
theorem cB.call (h:cB pos many A H)(hc:mU A')(u:A.length<=A'.length):cB (rn pos A.length H.length) many' A' (yn pos A.length H (ef many' A')):=by
 have c:∀ (j:Nat) nd,A'[j]?=some nd->ik (bx (cu (jf pos A.length) H.length (ef many' A'))) (some (js id many' j nd))=some (js (rn pos A.length H.length) many' j nd):=fun j nd e=>by
  obtain⟨x,y⟩:=hc.2 j nd e;unfold ik aa.bd;rw[ou,SL (pos:=rn pos A.length H.length) (fun _=>Gf u x) (fun _=>Gf u y)];rfl
 refine⟨fun j nd e=>?_,fun a b p q e=>?_,hc⟩
 .have o:=(cA.1 e).1;have w:(ef many' A')[j]?=some (some (js id many' j nd)):=by
   unfold ef;rw[dU,List.getElem?_zipIdx,e];simp
  unfold rn;by_cases d:j<A.length
  .rw[aM d];have g:=h.lt d;unfold yn;rw[fJ (by rw[jE];exact g),uH _ _ _ g,BB h.J8 (i:=j) (by unfold jf;rw[dU,tS d];rfl) (by rw[km];exact o),w];exact c j nd e
  .rw[aq d];unfold yn ah;rw[iy (by rw[jE];omega),jE,vA,dU,mA,u5,show A.length+(H.length+(j-A.length)-H.length)=j by omega,w];exact c j nd e
 .unfold rn at e;by_cases r:a<A.length<;>by_cases t:b<A.length
  .rw[aM r,aM t] at e;exact h.inj a b r t e
  .rw[aM r,aq t] at e;have :=h.lt r;omega
  .rw[aq r,aM t] at e;have :=h.lt t;omega
  .rw[aq r,aq t] at e;omega
end
section
variable {P:Program}{m n:Nat}{R:Exit->St->Prop}{k:List Fr}{s:St}{l:List Oper}{ops:Array Oper}{dst:Option Tmp}
variable {f:FuncId}{fs cs args args0:List V}{v:V}{pos:Nat->Nat}{many many':Int}{A A':List Nd}
theorem abp (b:bp P f args0 (ef many A) v (ef many' A'))(hc:iu P f=true)(ht:cB pos many A s.H)(c:mU A')(e:A.length<=A'.length)
  (d:aW (bx (jf pos A.length)) args0=fs++args++cs) (a:lows A.length args0):lQ P (.fn f fs cs) args (ah s.H) s.H.length (jJ (jf pos A.length) s.H.length v (ef many' A')):=
 DZ (jf pos A.length) b hc d (by rw[u5,km]) (by rw[km];exact a) ht.J8 ht.aaI (Vd many A) (by rw[km];exact ht.NH) (agL _ _ _) (by rw[km,km];exact e)
theorem aiJ (v':V)(h:bp P f args0 (ef many A) v (ef many' A'))(hc:iu P f=true)(ht:cB pos many A s.H)(c:mU A')(u:A.length<=A'.length)
  (i:aW (bx (jf pos A.length)) args0=fs++args++cs) (d:lows A.length args0) (o:v.bd (bx (cu (jf pos A.length) s.H.length (ef many' A')))=v')
  (p:∀ H',cB (rn pos A.length s.H.length) many' A' H'->(∀ b,b<s.H.length->(∀ j,j<A.length->pos j≠b)->ah H' b=ah s.H b)->H'.length=s.H.length+(A'.length-A.length)->
   kC P m n R l ops k ⟨di s.t dst v',H'⟩):s8 P m n R (.fn f fs cs) args dst l ops k s:=
 ⟨_,abp h hc ht c u i d,by
  have :=p _ (ht.call (many':=many') c u) (fun _ q r=>aiY q r _) (V2 u);rw[<-o] at this;exact this⟩
end
end
end Go.Vm
end
section
namespace Go.Vm
open Go.Proofs Go.Proofs.Tryz
def Nd.mZ (a:Nd)(b:Bool):Nat:=if b=true then a.k1 else a.k0
def Nd.tY (a:Nd)(b:Bool)(j:Nat):Nd:=if b=true then⟨a.k0,j,a.is,a.owner⟩ else⟨j,a.k1,a.is,a.owner⟩
def eB (x:List Nd×Nat)(b:Bool):List Nd×Nat:=
 if(x.1.getD x.2 leaf).mZ b=0 then(x.1.set x.2 ((x.1.getD x.2 leaf).tY b x.1.length)++[leaf],x.1.length) else(x.1,(x.1.getD x.2 leaf).mZ b)
def vW (a:aQ)(i:Nat):Bool:=a.getLsbD (31-i)
def eY (a:aQ)(n:Nat):List Bool:=(List.range n).map (vW a)
theorem ajr (a:aQ)(n:Nat):eY a (n+1)=eY a n++[vW a n]:=by unfold eY;rw[List.range_succ,lw];rfl
theorem OY (a:aQ)(i:Nat):(a>>>(31-i))&&&1#32=if vW a i=true then 1#32 else 0#32:=by
 unfold vW;apply BitVec.eq_of_getLsbD_eq;intro k b;rw[BitVec.getLsbD_and,BitVec.getLsbD_ushiftRight];by_cases h:k=0
 .subst h;rw[nJ];cases a.getLsbD (31-i)<;>simp
 .have c:(1#32).getLsbD k=false:=by rw[BitVec.getLsbD_one];simp[h]
  rw[c,Bool.and_false];split
  .exact c.symm
  .simp
theorem cB.PT {pos:Nat->Nat}{many:Int}{B:List Nd}{H:aU}{c:Nat}{m:Nd}(h:cB pos many B H)(hc:B[c]?=some m)(b:Bool)(cs:List V)
  (f:cs=if b=true then fc pos m.k0::V.ptr H.length 0:: .bool m.is:: .i64 m.owner::jF many c else V.ptr H.length 0::fc pos m.k1:: .bool m.is:: .i64 m.owner::jF many c):
  cB (fun j=>if j=B.length then H.length else pos j) many (B.set c (m.tY b B.length)++[leaf]) ((H++[bK [.nilPtr,.nilPtr,.bool false,.i64 0]]).set (pos c) (bK cs)):=by
 have g:=(cA.1 hc).1;have a:=h.closed.2 c m hc;have i:(if c=B.length then H.length else pos c)=pos c:=aq I;have n:=cB.put (many':=many) (h.grow I) (j:=c) cp (m.tY b B.length) (by unfold Nd.tY;cases b<;>simp <;>omega) (.inr rfl);rw[FG _ _ g] at n;simp only[i] at n;have k:∀ j,j<B.length->fc (fun j=>if j=B.length then H.length else pos j) j=fc pos j:=fun j l=>by
  unfold fc;simp only[show(j=B.length)=False from nY I,fH]
 have d:fc (fun j=>if j=B.length then H.length else pos j) B.length= .ptr H.length 0:=by
  unfold fc;simp only[show(B.length=0)=False from nY I,fH,eJ]
 have e:some (js (fun j=>if j=B.length then H.length else pos j) many c (m.tY b B.length))=bK cs:=by
  rw[f];unfold js Nd.tY;cases b with
  |true=>simp only[eJ,d,k _ a.1]
  |false=>simp only[fh,fH,d,k _ a.2]
 rw[e] at n;exact n
theorem adb (many:Int)(A:List Nd)(E:mU A)(a:aQ)(n:Nat)(L:n<=32):bp prog 61 [.ptr 0 0,.agg [.u32 a,.i64 n]] (ef many A) (.ptr ((eY a n).foldl eB (A,0)).2 0) (ef many ((eY a n).foldl eB (A,0)).1):=by
 have y:ah (ef many A++[bK [.u32 a,.i64 n]]) A.length=bK [.u32 a,.i64 n]:=by
  rw[<-km many A];exact qb _ _ _
 refine ak func61 ?_;simp only[go_sem,seval,ntmps61,km,y];refine cG (fun j S=>∃ (i:Nat) (M:Nat->Nat) (B:List Nd) (c:Nat) (H:aU),i+j=n/\(eY a i).foldl eB (A,0)=(B,c)/\cB M many B H/\c<B.length/\A.length<=B.length/\(∀ j,j<A.length->M j=j)/\
  (∀ j,j<B.length->M j≠A.length)/\ah H A.length=bK [.u32 a,.i64 n]/\S=⟨[(3,.ptr A.length 0),(5,.ptr (M c) 0),(12,.i64 n),(13,.i64 i)],H⟩) ?_ ?_
 .refine dh n ⟨[(3,.ptr A.length 0),(5,.ptr 0 0),(12,.i64 n),(13,.i64 (0:Nat))],ef many A++[bK [.u32 a,.i64 n]]⟩ gJ rfl (fun _ _ h=>h)
   ⟨0,id,A,0,_,I,rfl,(cB.init E).app _,E.1,bz _,fun _ _=>rfl,fun j s=>BC s,y,rfl⟩
 rintro j S ⟨i,M,B,c,H,G,T,p,P,Q,z,m,f,rfl⟩ _;by_cases W:i<n
 .have o:(i:Int)<(n:Int):=I;have R:bh (31-(i:Int))=((31-i:Nat):Int):=by rw[bC I I];omega
  have t:bh ((i:Int)+1)=((i+1:Nat):Int):=by rw[bC I I];omega
  have u:(0:Int)<=((31-i:Nat):Int):=I;have e:=OY a i;have g:(eY a (i+1)).foldl eB (A,0)=eB (B,c) (vW a i):=by rw[ajr,Jm,T];rfl
  obtain⟨N,q⟩:∃ N,B[c]?=some N:=⟨B[c],bn P⟩;have l:=p.here c N q;have O:B.getD c leaf=N:=by rw[bY,q];rfl
  have C:=p.closed.2 c N q;cases F:vW a i with
  |false=>
   rw[F] at e g;simp only[fh,fH] at e;by_cases v:N.k0=0
   .have k:ah H (M c)=bK (.nilPtr::fc M N.k1:: .bool N.is:: .i64 N.owner::jF many c):=by
     rw[l];unfold js;rw[v];rfl
    have w:ah (H++[bK [.nilPtr,.nilPtr,.bool false,.i64 0]]) (M c)=bK (.nilPtr::fc M N.k1:: .bool N.is:: .i64 N.owner::jF many c):=by
     rw[fJ (p.lt P)];exact k
    have x:=dr (H:=H++[bK [.nilPtr,.nilPtr,.bool false,.i64 0]]) (b:=M c) (by have :=p.lt P;simp;omega) (bK (.ptr H.length 0::fc M N.k1:: .bool N.is:: .i64 N.owner::jF many c));have d:eB (B,c) false=(B.set c (N.tY false B.length)++[leaf],B.length):=by
     unfold eB;simp only[O];rw[aM (by unfold Nd.mZ;simp[v])]
    rw[d] at g;simp only[go_sem,seval,o,f,R,u,iG,e,k,w,x];refine cH (j-1) ⟨[(3,.ptr A.length 0),(5,.ptr ((fun j=>if j=B.length then H.length else M j) B.length) 0),(12,.i64 n),(13,.i64 (i+1:Nat))],(H++[bK [.nilPtr,.nilPtr,.bool false,.i64 0]]).set (M c) (bK (.ptr H.length 0::fc M N.k1:: .bool N.is:: .i64 N.owner::jF many c))⟩ I ?_ rfl (fun _ _ h=>h)
     ⟨i+1,fun j=>if j=B.length then H.length else M j,_,B.length,_,I,g,p.PT q false _ rfl,J,cp,fun j s=>?_,fun j s=>?_,?_,rfl⟩
    .simp[St.get,lookS,t]
    .show(if j=B.length then H.length else M j)=j;rw[aq I];exact z j s
    .show(if j=B.length then H.length else M j)≠A.length;have K:=b8 f;by_cases r:j=B.length
     .rw[aM r];omega
     .rw[aq r];exact m j (by simp at s;omega)
    .rw[eA (m c P),fJ (b8 f)];exact f
   .have k:ah H (M c)=bK (.ptr (M N.k0) 0::fc M N.k1:: .bool N.is:: .i64 N.owner::jF many c):=by
     rw[l];unfold js;rw[show fc M N.k0= .ptr (M N.k0) 0 from aq v]
    have d:eB (B,c) false=(B,N.k0):=by
     unfold eB;simp only[O];rw[aq (by unfold Nd.mZ;simp[v])];unfold Nd.mZ;simp
    rw[d] at g;refine qb0 o f R u e k ?_;refine cH (j-1) ⟨[(3,.ptr A.length 0),(5,.ptr (M N.k0) 0),(12,.i64 n),(13,.i64 (i+1:Nat))],H⟩ I (by simp[St.get,lookS,t]) rfl (fun _ _ h=>h)
     ⟨i+1,M,B,N.k0,H,I,g,p,C.1,Q,z,m,f,rfl⟩
  |true=>
   rw[F] at e g;simp only[eJ] at e;by_cases v:N.k1=0
   .have k:ah H (M c)=bK (fc M N.k0:: .nilPtr:: .bool N.is:: .i64 N.owner::jF many c):=by
     rw[l];unfold js;rw[v];rfl
    have w:ah (H++[bK [.nilPtr,.nilPtr,.bool false,.i64 0]]) (M c)=bK (fc M N.k0:: .nilPtr:: .bool N.is:: .i64 N.owner::jF many c):=by
     rw[fJ (p.lt P)];exact k
    have x:=dr (H:=H++[bK [.nilPtr,.nilPtr,.bool false,.i64 0]]) (b:=M c) (by have :=p.lt P;simp;omega) (bK (fc M N.k0:: .ptr H.length 0:: .bool N.is:: .i64 N.owner::jF many c));have d:eB (B,c) true=(B.set c (N.tY true B.length)++[leaf],B.length):=by
     unfold eB;simp only[O];rw[aM (by unfold Nd.mZ;simp[v])]
    rw[d] at g;simp only[go_sem,seval,o,f,R,u,iG,e,k,w,x];refine⟨I,I,?_⟩;refine cH (j-1) ⟨[(3,.ptr A.length 0),(5,.ptr ((fun j=>if j=B.length then H.length else M j) B.length) 0),(12,.i64 n),(13,.i64 (i+1:Nat))],(H++[bK [.nilPtr,.nilPtr,.bool false,.i64 0]]).set (M c) (bK (fc M N.k0:: .ptr H.length 0:: .bool N.is:: .i64 N.owner::jF many c))⟩ I ?_ rfl (fun _ _ h=>h)
     ⟨i+1,fun j=>if j=B.length then H.length else M j,_,B.length,_,I,g,p.PT q true _ rfl,J,cp,fun j s=>?_,fun j s=>?_,?_,rfl⟩
    .simp[St.get,lookS,t]
    .show(if j=B.length then H.length else M j)=j;rw[aq I];exact z j s
    .show(if j=B.length then H.length else M j)≠A.length;have K:=b8 f;by_cases r:j=B.length
     .rw[aM r];omega
     .rw[aq r];exact m j (by simp at s;omega)
    .rw[eA (m c P),fJ (b8 f)];exact f
   .have k:ah H (M c)=bK (fc M N.k0:: .ptr (M N.k1) 0:: .bool N.is:: .i64 N.owner::jF many c):=by
     rw[l];unfold js;rw[show fc M N.k1= .ptr (M N.k1) 0 from aq v]
    have d:eB (B,c) true=(B,N.k1):=by
     unfold eB;simp only[O];rw[aq (by unfold Nd.mZ;simp[v])];unfold Nd.mZ;simp
    rw[d] at g;refine qb0 o f R u e k ?_;refine⟨I,I,?_⟩;refine cH (j-1) ⟨[(3,.ptr A.length 0),(5,.ptr (M N.k1) 0),(12,.i64 n),(13,.i64 (i+1:Nat))],H⟩ I (by simp[St.get,lookS,t]) rfl (fun _ _ h=>h)
     ⟨i+1,M,B,N.k1,H,I,g,p,C.2,Q,z,m,f,rfl⟩
 .have o:¬ (i:Int)<(n:Int):=I;have D:i=n:=I;subst D;refine aL o ?_;rw[T];exact Fin.tree p Q z ⟨by show V.ptr (bx (jf M B.length) c) 0=_;rw[zY M P],P⟩
theorem af4 {A:List Nd}{j:Nat}{a:Nd}(h:A[j]?=some a):A.getD j leaf=a:=by rw[bY,h];rfl
theorem Mz {A:List Nd}(h:mU A){j:Nat}(a:Nd)(c:a.k0<A.length/\a.k1<A.length):mU (A.set j a):=by
 refine⟨by simpa using h.1,fun i d e=>?_⟩;rw[b7];rw[Bd] at e;by_cases b:j=i
 .subst b;rw[aM rfl] at e;split at e
  .rw[<-nc e];exact c
  .cases e
 .rw[aq b] at e;exact h.2 i d e
theorem Vw {A:List Nd}(h:mU A):mU (A++[leaf]):=by
 refine⟨J,fun i b e=>?_⟩;rw[bA];by_cases c:i<A.length
 .rw[kY c] at e;have :=h.2 i b e;simp;omega
 .rw[iy I] at e;have :b=leaf:=by
   cases a:i-A.length with
   |zero=>rw[a] at e;simp at e;exact e.symm
   |succ k=>rw[a] at e;simp at e
  subst this;simp[leaf]
theorem aio {B:List Nd}{c:Nat}(h:mU B)(hc:c<B.length)(b:Bool):mU (eB (B,c) b).1/\(eB (B,c) b).2<(eB (B,c) b).1.length/\B.length<=(eB (B,c) b).1.length:=by
 have a:B[c]?=some (B.getD c leaf):=by rw[bY,bn hc];rfl
 have d:=h.2 c _ a;unfold eB;simp only;generalize B.getD c leaf=e at*;split
 .refine⟨?_,J,J⟩;rw[<-FG _ _ hc];refine Mz (Vw h) _ ?_;unfold Nd.tY;cases b<;>simp <;>omega
 .refine⟨h,?_,bz _⟩;unfold Nd.mZ;cases b<;>simp <;>omega
theorem Jz:∀ (p:List Bool) {B:List Nd} {c:Nat},mU B->c<B.length->mU (p.foldl eB (B,c)).1/\(p.foldl eB (B,c)).2<(p.foldl eB (B,c)).1.length/\B.length<=(p.foldl eB (B,c)).1.length
 |[],_,_,h,d=>⟨h,d,bz _⟩
 |b::p,B,c,h,d=>by
  obtain⟨e,f,a⟩:=aio h d b;obtain⟨g,i,j⟩:=Jz p e f;exact⟨g,i,j7 a j⟩
theorem Y6 (a:aQ)(n:Nat)(p many:Int)(A B:List Nd)(c:Nat)(nd:Nd)(hA:mU A)(hn:n<=32)(hp0:0<=p)(hp8:p<8)(hf:a<<<n=0#32)(hm0:0<=many)(hm1:many<=64)
  (hat:(eY a n).foldl eB (A,0)=(B,c)) (hnd:B[c]?=some nd):
  bp prog 40 [.ptr 0 0,.agg [.u32 a,.i64 n],.i64 p] (ef many A) (.i64 (if nd.is=true then 0 else if many=64 then 9 else 0))
   (ef (if nd.is=true then many else if many=64 then many else many+1) (if nd.is=true then B.set c ⟨nd.k0,nd.k1,true,p⟩ else if many=64 then B else B.set c ⟨nd.k0,nd.k1,true,p⟩)):=by
 have hg0:ah (ef many A++[bK [.u32 a,.i64 n]]) A.length=bK [.u32 a,.i64 n]:=by
  rw[<-km many A];exact qb _ _ _
 have hT0:cB id many A (ef many A++[bK [.u32 a,.i64 n]]):=(cB.init hA).app _;have h1:¬ (n:Int)<0:=I;have h2:¬ (32:Int)<n:=I;have h3:¬ p<0:=I;have h4:¬ 8<=p:=I;have h5:(0:Int)<=n:=I;have hw:=bC (n:=many+1) I I;have hcl:=Jz (eY a n) hA hA.1;have hsp:=adb many A hA a n hn;rw[hat] at hcl hsp;obtain⟨hcB,hc,hle⟩:=hcl;simp only at hcB hc hle hsp;obtain⟨r,hr⟩:∃ r,B[0]?=some r:=⟨B[0]'hcB.1,bn hcB.1⟩;refine ak func40 ?_;simp -implicitDefEqProofs only[go_sem,seval,ntmps40,km,hg0,h1,h2,h3,h4,h5,iG,hf];refine aiJ (.ptr (rn id A.length (A.length+1) c) 0) hsp U hT0 hcB hle ?_ ?_ ?_ ?_
 ·show[V.ptr (bx (jf id A.length) 0) 0,V.agg [V.u32 a,V.i64 n]]=[V.ptr 0 0,V.agg [V.u32 a,V.i64 n]];rw[zY _ hA.1];rfl
 ·exact⟨hA.1,⟨trivial,trivial,trivial⟩,trivial⟩
 ·show V.ptr (bx _ c) 0=_;rw[Gf hle hc];simp only[bA,km,dM,lq]
 intro H' hT hkeep hlen;have hL:(ef many A++[bK [.u32 a,.i64 n]]).length=A.length+1:=by simp[km]
 simp only[hL] at hT;have hp0':rn id A.length (A.length+1) 0=0:=aM hA.1;have hpos:∀ j,j<A.length->rn id A.length (A.length+1) j=j:=fun j hj=>aM hj
 generalize rn id A.length (A.length+1)=pos at*;have hgc:=hT.here c nd hnd;have hgr:=hT.here 0 r hr;rw[hp0'] at hgr;unfold js at hgc hgr;rw[show jF many 0=[.i64 many] from rfl] at hgr;have hkc:=hT.closed.2 c nd hnd;by_cases his:nd.is=true
 ·rw[his] at hgc;simp only[his,eJ];have hs1:=dr (hT.lt hc) (bK (fc pos nd.k0::fc pos nd.k1:: .bool true:: .i64 nd.owner::jF many c));refine mq hgc hs1 ?_;refine⟨I,?_⟩;exact Fin.tree (hT.put hc ⟨nd.k0,nd.k1,true,p⟩ hkc (.inr rfl)) (by simpa using hle) hpos ⟨rfl,trivial⟩
 ·have his':nd.is=false:=by simpa using his
  rw[his'] at hgc;simp only[his',fh,fH];by_cases h64:many=64
  ·simp only[h64,eJ] at hgc hgr hT |-
   refine d9 hgc hgr ?_;refine⟨I,?_⟩;exact Fin.tree hT hle hpos ⟨rfl,trivial⟩
  ·simp only[aq h64];have hT2:=hT.put (many':=many+1) hcB.1 r (hT.closed.2 0 r hr) (.inl rfl);rw[hp0',show B.set 0 r=B from by rw[<-nc ((bn hcB.1).symm.trans hr)];exact G7 _] at hT2;have hgc2:=hT2.here c nd hnd;unfold js at hgc2;rw[show jF (many+1) 0=[.i64 (many+1)] from rfl,his'] at hgc2;have hs1:=dr (hT2.lt hc) (bK (fc pos nd.k0::fc pos nd.k1:: .bool true:: .i64 nd.owner::jF (many+1) c));have hT3:=hT2.put hc ⟨nd.k0,nd.k1,true,p⟩ hkc (.inr rfl);unfold js at hs1 hT3;rw[show jF (many+1) 0=[.i64 (many+1)] from rfl] at hs1 hT3;refine qb0 hgc hgr hgc2 hs1 h64 hw ?_;refine⟨I,?_⟩;exact Fin.tree hT3 (by simpa using hle) hpos ⟨rfl,trivial⟩
def rK (A:List Nd):List Bool->Nat->Int×Bool->Int×Bool
 |[],c,ac=>if(A.getD c leaf).is=true then((A.getD c leaf).owner,true) else ac
 |b::p,c,ac=>
  let d:=if(A.getD c leaf).is=true then((A.getD c leaf).owner,true) else ac
  if(A.getD c leaf).mZ b=0 then d else rK A p ((A.getD c leaf).mZ b) d
theorem aa0 (a:aQ){i:Nat}(hi:i<32):(eY a 32).drop i=vW a i::(eY a 32).drop (i+1):=by
 rw[wA (by unfold eY;simpa using hi)];congr 1;unfold eY;rw[wq,List.getElem_range]
theorem abh (a:aQ)(many:Int)(A:List Nd)(t:mU A):bp prog 43 [.ptr 0 0,.u32 a] (ef many A) (.aZ [.i64 (rK A (eY a 32) 0 (0,false)).1,.bool (rK A (eY a 32) 0 (0,false)).2]) (ef many A):=by
 have s:=cB.init (many:=many) t;generalize w:rK A (eY a 32) 0 (0,false)=R;refine ak func43 ?_;simp only[go_sem,seval,ntmps43,km];refine cG (fun j u=>∃ (i:Nat) (ac:Int×Bool) (v:V),i+j=33/\((∃ c,i<=32/\c<A.length/\v= .ptr c 0/\rK A ((eY a 32).drop i) c ac=R)\/(v= .nilPtr/\ac=R))/\
  u=⟨[(0,.ptr 0 0),(1,.u32 a),(6,.i64 ac.1),(7,.bool ac.2),(8,v),(9,.i64 i)],ef many A⟩) ?_ ?_
 .exact dh 33 ⟨[(0,.ptr 0 0),(1,.u32 a),(6,.i64 0),(7,.bool false),(8,.ptr 0 0),(9,.i64 (0:Nat))],ef many A⟩ gJ rfl (fun _ _ h=>h)
   ⟨0,(0,false),.ptr 0 0,I,.inl ⟨0,I,t.1,rfl,w⟩,rfl⟩
 rintro j u ⟨i,ac,v,z,B,rfl⟩ _;rcases B with⟨c,D,C,rfl,f⟩|⟨rfl,rfl⟩
 .obtain⟨d,q⟩:∃ d,A[c]?=some d:=⟨A[c],bn C⟩;have b:=s.here c d q;rw[show id c=c from rfl] at b;unfold js at b;have r:=af4 q;have o:=t.2 c d q;by_cases x:i=32
  .have y:(eY a 32).drop i=[]:=lP (by unfold eY;simp;omega);have g:((i:Int)=32)=True:=gg I;rw[y] at f;unfold rK at f;rw[r] at f;cases his:d.is with
   |true=>
    rw[his,aM rfl] at f;rw[his] at b;subst f;refine d9 b g ?_;refine⟨I,I,?_⟩;exact Fin.tree s (bz _) (fun _ _=>rfl) ⟨rfl,⟨trivial,trivial,trivial⟩⟩
   |false=>
    rw[his,aq J] at f;rw[his] at b;subst f;refine d9 b g ?_;refine⟨I,?_⟩;exact Fin.tree s (bz _) (fun _ _=>rfl) ⟨rfl,⟨trivial,trivial,trivial⟩⟩
  .have g:((i:Int)=32)=False:=nY I;have p:bh (31-(i:Int))=((31-i:Nat):Int):=by rw[bC I I];omega
   have m:bh ((i:Int)+1)=((i+1:Nat):Int):=by rw[bC I I];omega
   have n:(0:Int)<=((31-i:Nat):Int):=I;have e:=OY a i;rw[aa0 a I] at f;unfold rK at f;simp only[r] at f;cases hb:vW a i with
   |false=>
    rw[hb] at e f;simp only[fh,fH] at e;rw[show d.mZ false=d.k0 from rfl] at f;cases his:d.is with
    |true=>
     rw[his] at f b;simp only[eJ] at f;by_cases l:d.k0=0
     .rw[aM l] at f;have k:fc id d.k0= .nilPtr:=aM l;rw[k] at b;refine qa6 b g p n e ?_;refine⟨I,I,U,?_⟩;exact cH (j-1) ⟨[(0,.ptr 0 0),(1,.u32 a),(6,.i64 d.owner),(7,.bool true),(8,.nilPtr),(9,.i64 (i+1:Nat))],ef many A⟩ I (by simp[St.get,lookS,m]) rfl (fun _ _ h=>h) ⟨i+1,(d.owner,true),.nilPtr,I,.inr ⟨rfl,f⟩,rfl⟩
     .rw[aq l] at f;have k:fc id d.k0= .ptr d.k0 0:=aq l;rw[k] at b;refine qa6 b g p n e ?_;refine⟨I,I,U,?_⟩;exact cH (j-1) ⟨[(0,.ptr 0 0),(1,.u32 a),(6,.i64 d.owner),(7,.bool true),(8,.ptr d.k0 0),(9,.i64 (i+1:Nat))],ef many A⟩ I (by simp[St.get,lookS,m]) rfl (fun _ _ h=>h) ⟨i+1,(d.owner,true),.ptr d.k0 0,I,.inl ⟨d.k0,I,o.1,rfl,f⟩,rfl⟩
    |false=>
     rw[his] at f b;simp only[fh,fH] at f;by_cases l:d.k0=0
     .rw[aM l] at f;have k:fc id d.k0= .nilPtr:=aM l;rw[k] at b;refine qa6 b g p n e ?_;refine⟨I,U,?_⟩;exact cH (j-1) ⟨[(0,.ptr 0 0),(1,.u32 a),(6,.i64 ac.1),(7,.bool ac.2),(8,.nilPtr),(9,.i64 (i+1:Nat))],ef many A⟩ I (by simp[St.get,lookS,m]) rfl (fun _ _ h=>h) ⟨i+1,ac,.nilPtr,I,.inr ⟨rfl,f⟩,rfl⟩
     .rw[aq l] at f;have k:fc id d.k0= .ptr d.k0 0:=aq l;rw[k] at b;refine qa6 b g p n e ?_;refine⟨I,U,?_⟩;exact cH (j-1) ⟨[(0,.ptr 0 0),(1,.u32 a),(6,.i64 ac.1),(7,.bool ac.2),(8,.ptr d.k0 0),(9,.i64 (i+1:Nat))],ef many A⟩ I (by simp[St.get,lookS,m]) rfl (fun _ _ h=>h) ⟨i+1,ac,.ptr d.k0 0,I,.inl ⟨d.k0,I,o.1,rfl,f⟩,rfl⟩
   |true=>
    rw[hb] at e f;simp only[eJ] at e;rw[show d.mZ true=d.k1 from rfl] at f;cases his:d.is with
    |true=>
     rw[his] at f b;simp only[eJ] at f;by_cases l:d.k1=0
     .rw[aM l] at f;have k:fc id d.k1= .nilPtr:=aM l;rw[k] at b;refine qa6 b g p n e ?_;refine⟨I,I,I,U,?_⟩;exact cH (j-1) ⟨[(0,.ptr 0 0),(1,.u32 a),(6,.i64 d.owner),(7,.bool true),(8,.nilPtr),(9,.i64 (i+1:Nat))],ef many A⟩ I (by simp[St.get,lookS,m]) rfl (fun _ _ h=>h) ⟨i+1,(d.owner,true),.nilPtr,I,.inr ⟨rfl,f⟩,rfl⟩
     .rw[aq l] at f;have k:fc id d.k1= .ptr d.k1 0:=aq l;rw[k] at b;refine qa6 b g p n e ?_;refine⟨I,I,I,U,?_⟩;exact cH (j-1) ⟨[(0,.ptr 0 0),(1,.u32 a),(6,.i64 d.owner),(7,.bool true),(8,.ptr d.k1 0),(9,.i64 (i+1:Nat))],ef many A⟩ I (by simp[St.get,lookS,m]) rfl (fun _ _ h=>h) ⟨i+1,(d.owner,true),.ptr d.k1 0,I,.inl ⟨d.k1,I,o.2,rfl,f⟩,rfl⟩
    |false=>
     rw[his] at f b;simp only[fh,fH] at f;by_cases l:d.k1=0
     .rw[aM l] at f;have k:fc id d.k1= .nilPtr:=aM l;rw[k] at b;refine qa6 b g p n e ?_;refine⟨I,I,U,?_⟩;exact cH (j-1) ⟨[(0,.ptr 0 0),(1,.u32 a),(6,.i64 ac.1),(7,.bool ac.2),(8,.nilPtr),(9,.i64 (i+1:Nat))],ef many A⟩ I (by simp[St.get,lookS,m]) rfl (fun _ _ h=>h) ⟨i+1,ac,.nilPtr,I,.inr ⟨rfl,f⟩,rfl⟩
     .rw[aq l] at f;have k:fc id d.k1= .ptr d.k1 0:=aq l;rw[k] at b;refine qa6 b g p n e ?_;refine⟨I,I,U,?_⟩;exact cH (j-1) ⟨[(0,.ptr 0 0),(1,.u32 a),(6,.i64 ac.1),(7,.bool ac.2),(8,.ptr d.k1 0),(9,.i64 (i+1:Nat))],ef many A⟩ I (by simp[St.get,lookS,m]) rfl (fun _ _ h=>h) ⟨i+1,ac,.ptr d.k1 0,I,.inl ⟨d.k1,I,o.2,rfl,f⟩,rfl⟩
 .refine aH ?_;exact Fin.tree s (bz _) (fun _ _=>rfl) ⟨rfl,⟨trivial,trivial,trivial⟩⟩
section
theorem Xx:bp prog 41 [] [] (.ptr 0 0) [bK [.bool false,.i64 0,.i64 0,.bool false,.i64 0]]:=by
 refine ak func41 ?_;simp only[go_sem,seval,ntmps41,results41];exact Fin.bd [0] J J ci ag J J
theorem ajj:bp prog 37 [] [] (.ptr 0 0) [bK [.nilPtr,.nilPtr,.bool false,.i64 0,.i64 0]]:=by
 refine ak func37 ?_;simp only[go_sem,seval,ntmps37,results37];exact Fin.bd [0] J J ci ag J J
theorem aby:bp prog 38 [] [] (.ptr 1 0) [some ⟨false,[],some ⟨[],0⟩⟩,bK [.i64 0,.map 0]]:=by
 refine ak func38 ?_;simp only[go_sem,seval,ntmps38,results38];exact Fin.id (s:=⟨_,_⟩) (lI _)
def Li (K:RK)(N n:Nat)(r:Rl):RK:=fun x=>if N<=x/\x<N+n then some r else K x
theorem abQ {A:List Nd}{P:Int->Prop}(f:∀ c,(A.getD c leaf).is=true->P (A.getD c leaf).owner):∀ (l:List Bool) (c:Nat) (b:Int×Bool),(b.2=true->P b.1)->(rK A l c b).2=true->P (rK A l c b).1:=by
 have g:∀ (c:Nat) (b:Int×Bool),(b.2=true->P b.1)->(if(A.getD c leaf).is=true then((A.getD c leaf).owner,true) else b).2=true->P (if(A.getD c leaf).is=true then((A.getD c leaf).owner,true) else b).1:=fun c b e=>by
  by_cases h:(A.getD c leaf).is=true
  .rw[aM h];exact fun _=>f c h
  .rw[aq h];exact e
 intro l;induction l with
 |nil=>intro c b e;exact g c b e
 |cons x l ih=>
  intro c b e;have m:=g c b e;show(if(A.getD c leaf).mZ x=0 then(if(A.getD c leaf).is=true then((A.getD c leaf).owner,true) else b) else rK A l ((A.getD c leaf).mZ x) (if(A.getD c leaf).is=true then((A.getD c leaf).owner,true) else b)).2=true->P (if(A.getD c leaf).mZ x=0 then(if(A.getD c leaf).is=true then((A.getD c leaf).owner,true) else b) else rK A l ((A.getD c leaf).mZ x) (if(A.getD c leaf).is=true then((A.getD c leaf).owner,true) else b)).1;by_cases h:(A.getD c leaf).mZ x=0
  .rw[aM h];exact m
  .rw[aq h];exact ih _ _ m
section
variable {K K0 K':RK}{H H0 H':aU}{Q0 Q:Rl->Prop}{i j j' n x W a b pb:Nat}{c:cR}{N N':bf}{k:b9}{L:bl}{v:V}{many:Int}{A:List Nd}{sg:List Nat}{d d':aU}{r:Rl}
theorem Cx.dV (h:Cx K0 H0 Q K H)(o:gH sg d H)(t:∀ b∈sg,K b=some r)(u:Q r)(p:si d d')(q:∀ b B,ah d' b=some B->B.ro=false):Cx K0 H0 Q (Li K H.length (d'.length-d.length) r) (cS sg H d'):=by
 have w:=o.len;have F:=p.le;have y:=h.len;have D:(cS sg H d').length=H.length+(d'.length-d.length):=by rw[wX,w]
 refine⟨by rw[D];omega,fun b f g=>?_,fun b m e g=>?_,fun b m f e=>?_,fun b B e l=>?_,h.bD.cS o p,fun b f=>?_,h.old⟩
 .rw[Fw I fun s=>h.DV (t b s) u f g];exact h.de b f g
 .have :=h.lt (h.stay b m e g);show(if _ then _ else _)=_;rw[aq I];exact h.stay b m e g
 .unfold Li at e;rw[aq I] at e;exact h.od b m f e
 .rcases ajo o p e with⟨z,-,-⟩|⟨i,C,z,rfl⟩
  .exact h.ro b B z l
  .have :=q i C z;have E:C.ro=true:=l;rw[this] at E;cases E
 .show(if _ then _ else _)=_;rw[D] at f;rw[aq I];exact h.fresh b I
def mR (K:RK)(H:aU)(j pb:Nat)(many:Int)(A:List Nd):Prop:=∃ sg,gH sg (ef many A) H/\(∀ b∈sg,K b=some (.path j))/\bx sg 0=pb/\mU A
def rZ (A:List Nd)(a:aQ):Int×Bool:=rK A (eY a 32) 0 (0,false)
theorem yN (g:mU A):Dv (ef many A):=by
 refine⟨fun b B e=>?_,fun b B e=>?_,by rw[km];exact g.1⟩
 .rw[Bn] at e;cases f:A[b]? with
  |none=>rw[f] at e;cases e
  |some h=>rw[f] at e;cases e;rfl
 .rw[Bn] at e;cases f:A[b]? with
  |none=>rw[f] at e;cases e
  |some h=>
   rw[f] at e;cases e;obtain⟨l,m⟩:=g.2 b h f;rw[km];exact OT l m
theorem mR.path (h:mR K H j pb many A):kH K H j pb (rZ A):=by
 obtain⟨sg,l,m,f,e⟩:=h;refine⟨_,sg,l,m,f,yN e,fun i g=>?_,fun a=>abh a many A e⟩;rw[km] at g;rw[Bn,bn g];exact⟨_,rfl⟩
theorem mR.off (h:mR K H j pb many A)(p:cD Q K H K' H')(g:H.length<=H'.length)(f:¬ Q (.path j)):mR K' H' j pb many A:=by
 obtain⟨sg,q,s,l,m⟩:=h;refine⟨sg,q.stay g fun i B e=>p.h _ _ (s _ (q.mem (b8 e))) f,fun b o=>p.k _ _ (s b o) f,l,m⟩
def ke (A:List Nd)(a:aQ)(n:Nat)(p:Int):List Nd:=
 ((eY a n).foldl eB (A,0)).1.set ((eY a n).foldl eB (A,0)).2 ⟨(((eY a n).foldl eB (A,0)).1.getD ((eY a n).foldl eB (A,0)).2 leaf).k0,(((eY a n).foldl eB (A,0)).1.getD ((eY a n).foldl eB (A,0)).2 leaf).k1,true,p⟩
theorem Yl (E:Cx K0 H0 Q0 K H)(F:mR K H j pb many A)(a:aQ)(n:Nat)(p:Int)(G:n<=32)(s:0<=p)(t:p<8)(X:a<<<n=0#32)(u:0<=many)(M:many<64)
  (h:(((eY a n).foldl eB (A,0)).1.getD ((eY a n).foldl eB (A,0)).2 leaf).is=false):
  ∃ v K' H',Dx prog 40 [.ptr pb 0,.agg [.u32 a,.i64 n],.i64 p] K H (fun r=>r= .path j) v K' H'/\(v= .i64 0/\mR K' H' j pb (many+1) (ke A a n p)):=by
 obtain⟨sg,g,D,rfl,l⟩:=F;obtain⟨T,S,Y⟩:=Jz (eY a n) l l.1;have w:=Y6 a n p many A _ _ _ l G s t X u I rfl (bn S);have P:((eY a n).foldl eB (A,0)).1[((eY a n).foldl eB (A,0)).2]=((eY a n).foldl eB (A,0)).1.getD ((eY a n).foldl eB (A,0)).2 leaf:=by
  rw[bY,bn S];rfl
 rw[P,h] at w;have y:¬ many=64:=I;simp only[fh,fH,y] at w;have m:=T.2 _ _ (bn S);rw[P] at m;have f:mU (ke A a n p):=Mz T _ m;have R:(ke A a n p).length=((eY a n).foldl eB (A,0)).1.length:=b7;have q:si (ef many A) (ef (many+1) (ke A a n p)):=⟨by rw[km,km,R];exact Y,fun b B e _=>(yN f).x7 b B e,(yN f).bD⟩;have O:=wK (H:=H) w sg g.len ⟨(yN l).pos,⟨trivial,trivial,trivial⟩,trivial,trivial⟩ g.nd g.lt g.dc q.ro q.le;have z:=g.call q;have C:=(E.start (fun r=>r= .path j)).dV g D rfl q (yN f).x7;refine⟨_,_,_,⟨O,C,trivial⟩,rfl,_,z,fun b o=>?_,agX (by rw[g.len];exact(yN l).pos),f⟩;show(if _ then _ else _)=_;rcases PB o with o|o
 .split
  .rfl
  .exact D b o
 .rw[aM (by rw[<-g.len];exact o)]
theorem agD (l:Cx K0 H0 Q0 K H)(j:Nat):∃ v K' H',Dx prog 37 [] K H (fun _=>False) v K' H'/\(v= .ptr H.length 0/\mR K' H' j H.length 0 [leaf]):=by
 have m:=EV (H:=H) ajj (fun _=>rfl) trivial (fun _=>rfl) (v':= .ptr H.length 0) (fun p e=>by simp[V.bd,e]);have h:=(l.start (fun _=>False)).new (.path j) (vs:=[.nilPtr,.nilPtr,.bool false,.i64 0,.i64 0]) (mm:=none) bT;refine⟨_,_,_,⟨m,h,uQ⟩,rfl,[H.length],⟨rfl,J,fun b f=>?_,fun b B e=>?_⟩,fun b f=>?_,rfl,⟨ag,fun j o e=>?_⟩⟩
 .simp at f;simp[f]
 .match b with
  |0=>
   have g:bK [.nilPtr,.nilPtr,.bool false,.i64 0,.i64 0]=some B:=e;cases g;exact⟨ja,bT⟩
  |b+1=>
   have g:(none:Option aa)=some B:=by
    rw[<-e];simp[ah,ef]
   cases g
 .simp at f;subst f;exact lS
 .match j with
  |0=>
   have g:some leaf=some o:=e;cases g;exact⟨ag,ag⟩
  |j+1=>simp at e
theorem Pw (f:Cx K0 H0 Q0 K H)(j i:Nat):∃ v K' H',Dx prog 41 [] K H (fun _=>False) v K' H'/\(v= .ptr H.length 0/\K' H.length=some (.tm j i)/\ah H' H.length=bK ((⟨false,0,0,false,0⟩:bw).cs)/\H'.length=H.length+1):=
 ⟨_,_,_,⟨EV (H:=H) Xx (fun _=>rfl) trivial (fun _=>rfl) (v':= .ptr H.length 0) (fun g e=>by simp[V.bd,e]),(f.start (fun _=>False)).new (.tm j i) (vs:=[.bool false,.i64 0,.i64 0,.bool false,.i64 0]) (mm:=none) bT,uQ⟩,rfl,lS,ja,J⟩
theorem ahx (l:Cx K0 H0 Q0 K H)(j:Nat):∃ v K' H',Dx prog 38 [] K H (fun _=>False) v K' H'/\(∃ b,v= .ptr b 0/\mG K' H' j b ⟨0,⟨[],0⟩⟩):=by
 have f:=wK (H:=H) aby [] rfl trivial J J (fun b B e=>by simp[ah] at e) (fun b B e _=>by
  match b with
  |0=>have g:some (⟨false,[],some ⟨[],0⟩⟩:aa)=some B:=e;cases g;rfl
  |1=>have g:bK [.i64 0,.map 0]=some B:=e;cases g;rfl
  |b+2=>simp[ah] at e) (lI _)
 have h:∀ i,i<2->bx (cu [] H.length [some (⟨false,[],some ⟨[],0⟩⟩:aa),bK [.i64 0,.map 0]]) i=H.length+i:=fun i u=>by
  rw[xc (lI _) u];simp
 have m:cS [] H [some (⟨false,[],some ⟨[],0⟩⟩:aa),bK [.i64 0,.map 0]]=H++[some ⟨false,[],some ⟨[],0⟩⟩]++[bK [.i64 0,.map H.length]]:=by
  have t:=h 0 ag;unfold cS;simp only[iQ,gn,fX,dD,gi,ik,ou,aa.bd,aW,V.bd,t,hZ,kG,iY,nJ]
 rw[m] at f;have o:(V.ptr 1 0).bd (bx (cu [] H.length [some (⟨false,[],some ⟨[],0⟩⟩:aa),bK [.i64 0,.map 0]]))= .ptr (H.length+1) 0:=by
  unfold V.bd;rw[h 1 ag]
 rw[o] at f;have s:(H++[some (⟨false,[],some ⟨[],0⟩⟩:aa)]).length=H.length+1:=J;have p:=(l.start (fun _=>False)).new (.bm j) (vs:=[]) (mm:=some ⟨[],0⟩) (by simp[lows]);have q:=p.new (.bk j) (vs:=[.i64 0,.map H.length]) (mm:=none) (by simp[lows,V.low];omega);refine⟨_,_,_,⟨f,q,uQ⟩,H.length+1,rfl,H.length,by rw[<-s];exact lS,?_,?_,?_⟩
 .rw[iS (by rw[s];omega)];exact lS
 .rw[<-s];exact ja
 .rw[fJ (by rw[s];omega)];exact ja
end
end
end Go.Vm
end
section
namespace Go.Vm
section
section
variable {H H' H0:aU}{W:Nat->Prop}{b c d m n n' N:Nat}{cs ds:List V}
end
end
section
section
variable {H H0:aU}{W:Nat->Prop}{d m n q:Nat}{ps:List V}
variable {here:aQ}{own aP af:Z}{ac:Int}{fresh:aS}{cz:Z}{index:aQ}{ct now:Int}{busy:Bool}{kz:V}{paths bucket:Nat}{out aT:V}
theorem Ns {N x:Nat}(h:N<=x):jY N x=1:=aq I
theorem X8 {N x k:Nat}(h:N<=x):jY N (x+k)=1:=aq I
theorem IX {d N x:Nat}(h:N<=x)(a:d<N):mL d N x=1:=by unfold mL;rw[aq I,aq I]
theorem ZL {d N x k:Nat}(h:N<=x)(a:d<N):mL d N (x+k)=1:=by unfold mL;rw[aq I,aq I]
theorem Bp {b a:Nat}{X Y Z96:aU}{x:Option aa}(h:b<H.length)(c:a≠b):ah ((H++X++Y).set a x++Z96) b=ah H b:=by
 rw[fJ (by rw[b7,bA,bA];omega),eA c,th h]
theorem acN:(1∈[1,2])=True:=J
theorem Y3 {d N k:Nat}(c:d<N):(∀ b∈List.range' N k,mL d N b∈[1])=True:=gg fun b a=>by
 rw[wW] at a;rw[IX a.1 c];simp
end
end
end Go.Vm
end
section
namespace Go.Vm
open Go.Proofs Go.Proofs.Tryz
section
structure dk where
 aP:Z
 aR:Z
 at_:aQ
 addr:aQ
 q:Z
def qu (p:dk)(i:Nat):aj:=⟨p.q,i,p.aP,p.aR,p.at_,1,1,false,0,0,[],0,[],none,0#32,[],none,none,none,⟨false,0,0,false,0⟩⟩
def kS (L:List dk):List aj:=L.zipIdx.map fun x=>qu x.1 x.2
theorem xj (L:List dk):(kS L).length=L.length:=by simp[kS]
theorem yL (L:List dk)(i:Nat)(h:i<(kS L).length):(kS L)[i]=qu (L[i]'(by rw[xj] at h;exact h)) i:=by simp[kS]
def fC (L:List dk):Nat->List Nd
 |0=>[leaf]
 |i+1=>ke (fC L i) ((L.map (·.addr)).getD i 0#32) 24 i
def oU:eN:=⟨0,⟨[],0⟩⟩
noncomputable def rX (here:aQ) (own af:Z) (ac:Int):au:=⟨here,own,bI own,af,ac,0#64,[],0#32,0,0,false,[],[]⟩
noncomputable def Bm (here:aQ) (own af:Z) (ac:Int):au:={rX here own af ac with fresh:=0#64+1#64,cz:=(rX here own af ac).dR}
def xz (own:Z)(L:List dk):Prop:=∃ (i:Nat) (h:i<L.length),L[i].aP=bI own\/∃ (e:Nat) (g:e<i),(L[e]'(I)).aP=L[i].aP
structure dk.ok (p:dk):Prop where
 aP:p.aP.length=32
 aR:p.aR.length=32
 addr:p.addr<<<24=0#32
section
variable {K K0 K':RK}{H H0 H':aU}{Q0 Q:Rl->Prop}{i j j' n m x W a b d pb bk:Nat}{c:cR}{N N':bf}{k:b9}{v av:V}{D:au}{ps:List Nat}{L:List dk}{r:Rl}
theorem Cx.HV (h:Cx K0 H0 Q K H)(g:K0 b=none)(l:b<H0.length):K b=none:=by
 cases e:K b with
 |none=>rfl
 |some r=>
  obtain⟨o,f,-⟩:=h.od b r l e;rw[g] at f;cases f
structure mz (K:RK) (H:aU) (a:Nat) (L:List dk) (cs:List V):Prop where
 here:ah H a=bK cs
 no:K a=none
 len:cs.length=L.length*4
 row:∀ i (h:i<L.length),∃ pb,(cs.drop (i*4)).take 4=[.str L[i].aP,.str L[i].aR,.u32 L[i].at_,.slice pb 0 1 2]/\ah H pb=bK [.u32 L[i].addr,.i64 24]/\K pb=none
theorem mz.de {cs:List V}(h:mz K H a L cs)(f:Cx K H Q K' H'):mz K' H' a L cs:=by
 have e:∀ b B,ah H b=some B->K b=none->ah H' b=some B/\K' b=none:=fun b B o g=>⟨(f.mQ g (b8 o)).trans o,f.HV g (b8 o)⟩
 refine⟨(e _ _ h.here h.no).1,(e _ _ h.here h.no).2,h.len,fun i q=>?_⟩;obtain⟨pb,s,p,l⟩:=h.row i q;exact⟨pb,s,(e _ _ p l).1,(e _ _ p l).2⟩
structure iB (K:RK) (H:aU) (j d pb bk:Nat) (D:au) (av:V) (ps:List Nat) (L:List dk) (i m:Nat):Prop where
 kd:K d=some (.dev j)
 g:ah H d=bK [.u32 D.here,.str D.own,.str D.aP,.str D.af,.i64 D.ac,.u64 D.fresh,.str D.cz,.u32 D.index,.i64 D.ct,.i64 D.now,.bool D.busy,av,.ptr pb 0,.ptr bk 0,.bG,.bG]
 o:D.out=[]/\D.aT=[]
 av:(av= .bG/\ps=[])\/∃ arr,av= .slice arr 0 ps.length 1/\0<ps.length/\K arr=some (.pX j)/\ah H arr=bK (ps.map (fun p=> .ptr p 0))
 len:ps.length=i
 iL:i<=L.length
 peer:∀ i' (h:i'<ps.length) (h2:i'<L.length),dn K H j i' d ps[i'] (qu L[i'] i')
 tr:mR K H j pb m (fC L m)
 mX:mG K H j bk oU
theorem iB.off (h:iB K H j d pb bk D av ps L i m)(z:cD Q K H K' H')(q:H.length<=H'.length)(e:nP Q j):iB K' H' j d pb bk D av ps L i m:=by
 obtain⟨C,E,X,Y,M,O,P⟩:=e.d;refine⟨z.k _ _ h.kd C,(z.h _ _ h.kd C).trans h.g,h.o,?_,h.len,h.iL,fun f F s=>?_,h.tr.off z q P,h.mX.off z M O⟩
 .rcases h.av with A|⟨B,A,G,l,t⟩
  .exact .inl A
  .exact .inr ⟨B,A,G,z.k _ _ l E,(z.h _ _ l E).trans t⟩
 .obtain⟨u,R,S,w,T,y⟩:=e.p f;exact(h.peer f F s).off z u R S w T y
theorem iB.node (h:iB K H j d pb bk D av ps L i m)(hi:0<i):∃ arr,av= .slice arr 0 ps.length 1/\bB K H j ⟨d,arr,ps,pb,bk,rZ (fC L m)⟩ ⟨D,kS (L.take i),oU⟩/\cf K H j d D arr ps pb bk .bG .bG:=by
 have l:=h.len;rcases h.av with⟨-,e⟩|⟨arr,rfl,y,q,s⟩
 .rw[e] at l;simp at l;omega
 .have t:=h.iL;have p:cf K H j d D arr ps pb bk .bG .bG:=⟨h.kd,q,h.g,s,by rw[h.o.1];exact .inl ⟨rfl,rfl⟩,by rw[h.o.2];exact .inl ⟨rfl,rfl⟩⟩;refine⟨arr,rfl,⟨⟨_,_,p⟩,by show ps.length=(kS (L.take i)).length;rw[xj,cF];omega,fun f w u=>?_,h.mX,h.tr.path⟩,p⟩;have w:f<ps.length:=w;show dn K H j f d ps[f] (kS (L.take i))[f];rw[yL,List.getElem_take];exact h.peer f w I
theorem Zm (e:Cx K0 H0 Q0 K H)(f:K d=some (.dev j))(g:ah H d=bK [.u32 D.here,.str D.own,.str D.aP,.str D.af,.i64 D.ac,.u64 D.fresh,.str D.cz,.u32 D.index,.i64 D.ct,.i64 D.now,.bool D.busy,.bG,.ptr pb 0,.ptr bk 0,.bG,.bG])(x:Z):
  ∃ v K' H',Dx prog 39 [.ptr d 0,.str x] K H (fun _=>False) v K' H'/\(v= .nilPtr/\K'=K/\H'=H):=by
 refine ar (Q:=fun _=>False) (Post:=fun v K' H'=>v= .nilPtr/\K'=K/\H'=H) func39 ?_;refine aL g ?_;refine aE ?_
 refine ij 1 (aH ?_);exact Ex.of (e.start _) trivial ⟨rfl,rfl,rfl⟩
theorem aeT (t:Cx K0 H0 Q0 K H)(h:iB K H j d pb bk D av ps L i m)(u:L.length<=8)(x:Z):
  ∃ v K' H',Dx prog 39 [.ptr d 0,.str x] K H (fun _=>False) v K' H'/\((v= .nilPtr/\∀ f (h:f<i) (h2:f<L.length),L[f].aP≠x)\/((∃ b o,v= .ptr b o)/\∃ f,∃ (h:f<i) (h2:f<L.length),L[f].aP=x))/\K'=K/\H'=H:=by
 by_cases M:0<i
 .obtain⟨E,-,w,-⟩:=h.node M;have y:=h.iL;obtain⟨v,K',H',F,rfl,l,z⟩:=MK t w (by show(kS (L.take i)).length<=8;rw[xj,cF];omega) x;refine⟨_,K',H',F,?_,l,z⟩;dsimp only;cases e:(kS (L.take i)).findIdx? fun P=>decide (P.aP=x) with
  |none=>
   refine .inl ⟨rfl,fun f G p A=>?_⟩;rw[List.findIdx?_eq_none_iff] at e;have s:f<(kS (L.take i)).length:=by rw[xj,cF];omega
   have :=e _ (eM s);rw[yL] at this;simp[qu,A] at this
  |some f=>
   obtain⟨G,p,-⟩:=ub.1 e;have B:=G;rw[xj,cF] at B;rw[yL] at p;refine .inr ⟨⟨_,_,uh (by rw[h.len];omega)⟩,f,I,I,?_⟩;simpa [qu] using p
 .obtain rfl:i=0:=I;have C:=h.len;rcases h.av with⟨rfl,-⟩|⟨E,-,h2,-⟩
  .obtain⟨v,K',H',F,h2,l⟩:=Zm t h.kd h.g x;exact⟨v,K',H',F,.inl ⟨h2,fun f q=>by omega⟩,l⟩
  .omega
end
end
end Go.Vm
end
section
namespace Go.Vm
open Go.Proofs
section
section
variable {K K0 K':RK}{H H0 H':aU}{Q0 Q:Rl->Prop}{i j j' n m x W b d pb bk tm:Nat}{a:Option Nat}{c:cR}{N N':bf}{k:b9}{v av:V}{D:au}{ps:List Nat}{L:List dk}{r:Rl}
theorem iB.add (A:Cx K0 H0 Q K H)(h:iB K H j d pb bk D av ps L i m)(hi:i<L.length)(O:Q (.dev j))(P:Q (.pX j))(u:K tm=some (.tm j i))(R:ah H tm=bK ((⟨false,0,0,false,0⟩:bw).cs))(ha:∀ y,a=some y->K y=some (.pX j))(S:H.length+2=W):
  Cx K0 H0 Q (gm (kj a (gm K H.length (some (.peer j i)))) W (some (.pX j))) ((cI a (H++[bK ((qu L[i] i).cs d tm .bG .nilPtr .nilPtr .nilPtr .nilPtr)]++[bK [.ptr H.length 0]])++[bK ((ps++[H.length]).map (fun p=> .ptr p 0))]).set d (bK [.u32 D.here,.str D.own,.str D.aP,.str D.af,.i64 D.ac,.u64 D.fresh,.str D.cz,.u32 D.index,.i64 D.ct,.i64 D.now,.bool D.busy,.slice W 0 (i+1) 1,.ptr pb 0,.ptr bk 0,.bG,.bG]))/\
  iB (gm (kj a (gm K H.length (some (.peer j i)))) W (some (.pX j))) ((cI a (H++[bK ((qu L[i] i).cs d tm .bG .nilPtr .nilPtr .nilPtr .nilPtr)]++[bK [.ptr H.length 0]])++[bK ((ps++[H.length]).map (fun p=> .ptr p 0))]).set d (bK [.u32 D.here,.str D.own,.str D.aP,.str D.af,.i64 D.ac,.u64 D.fresh,.str D.cz,.u32 D.index,.i64 D.ct,.i64 D.now,.bool D.busy,.slice W 0 (i+1) 1,.ptr pb 0,.ptr bk 0,.bG,.bG])) j d pb bk D (.slice W 0 (i+1) 1) (ps++[H.length]) L (i+1) m:=by
 have a7:=A.lt h.kd;have a8:=A.lt u;have b0:=h.len;have F:=(A.bD _ _ h.g).1;have T:∀ p∈ps,p<H.length:=fun p w=>by
  obtain⟨B,z,rfl⟩:=lr w;obtain⟨_,_,_,_,_,_,hP⟩:=h.peer B z I;exact A.lt hP.kp
 have l1:lows (H.length+1) ((qu L[i] i).cs d tm .bG .nilPtr .nilPtr .nilPtr .nilPtr):=by
  simp[aj.cs,lows,V.low];omega
 have hA:=A.new (.peer j i) (mm:=none) l1;have X:=(A.start (fun _=>False)).new (.peer j i) (mm:=none) l1;have Y:=hA.bH (vs:=[.ptr H.length 0]) (mm:=none) (by simp[lows,V.low];omega);have G:=X.bH (vs:=[.ptr H.length 0]) (mm:=none) (by simp[lows,V.low];omega);have C:gm K H.length (some (.peer j i)) d=some (.dev j):=by rw[iS I];exact h.kd
 have E:∀ y,a=some y->gm K H.length (some (.peer j i)) y=some (.pX j):=fun y e=>by
  have :=A.lt (ha y e);rw[iS I];exact ha y e
 have t:(H++[bK ((qu L[i] i).cs d tm .bG .nilPtr .nilPtr .nilPtr .nilPtr)]++[bK [.ptr H.length 0]]).length=H.length+2:=J;have l2:lows ((H++[bK ((qu L[i] i).cs d tm .bG .nilPtr .nilPtr .nilPtr .nilPtr)]++[bK [.ptr H.length 0]]).length+1) ((ps++[H.length]).map (fun p=>V.ptr p 0)):=by
  rw[t];have :∀ l:List Nat,(∀ p∈l,p<H.length+2+1)->lows (H.length+2+1) (l.map fun p=>V.ptr p 0):=by
   intro l;induction l with
   |nil=>intro _;trivial
   |cons q l ih=>intro hq;exact⟨hq q J,ih fun p w=>hq p (by simp[w])⟩
  refine this _ fun p w=>?_
  rcases gZ.1 w with w|w
  .have :=T p w;omega
  .simp at w;omega
 have l3:lows ((H++[bK ((qu L[i] i).cs d tm .bG .nilPtr .nilPtr .nilPtr .nilPtr)]++[bK [.ptr H.length 0]]).length+1) [V.u32 D.here,.str D.own,.str D.aP,.str D.af,.i64 D.ac,.u64 D.fresh,.str D.cz,.u32 D.index,.i64 D.ct,.i64 D.now,.bool D.busy,.slice W 0 (i+1) 1,.ptr pb 0,.ptr bk 0,.bG,.bG]:=by
  rw[t];simp[lows,V.low] at F |-
  omega
 have hG:=Y.tp (t.trans S) C O a (.pX j) E P l2 l3;have M:=(Y.start (fun r=>r= .dev j\/r= .pX j)).tp (t.trans S) C (.inl rfl) a (.pX j) E (.inr rfl) l2 l3;obtain⟨g1,g2,g3⟩:=AU (ds:=(ps++[H.length]).map (fun p=>V.ptr p 0)) (vs:=[V.u32 D.here,.str D.own,.str D.aP,.str D.af,.i64 D.ac,.u64 D.fresh,.str D.cz,.u32 D.index,.i64 D.ct,.i64 D.now,.bool D.busy,.slice W 0 (i+1) 1,.ptr pb 0,.ptr bk 0,.bG,.bG]) Y (t.trans S) C E J;have f:=M.off;have s:=G.off;have kp:gm K H.length (some (.peer j i)) H.length=some (.peer j i):=lS;have gp:ah (H++[bK ((qu L[i] i).cs d tm .bG .nilPtr .nilPtr .nilPtr .nilPtr)]++[bK [.ptr H.length 0]]) H.length=bK ((qu L[i] i).cs d tm .bG .nilPtr .nilPtr .nilPtr .nilPtr):=by
  rw[fJ J];exact ja
 refine⟨hG,g1,g2,h.o,.inr ⟨W,?_,J,lS,g3⟩,by simp[b0],I,fun B h1 h2=>?_,(h.tr.off s G.len id).off f M.len J,(h.mX.off s id id).off f J J⟩
 .rw[bA,b0];rfl
 .by_cases z:B<ps.length
  .rw[Bg z];exact((h.peer B z h2).off s id id id id id fun _=>⟨id,id⟩).off f J J J J J J
  .have b2:B<(ps++[H.length]).length:=h1;rw[bA,vY] at b2;obtain rfl:B=i:=I;have a6:(ps++[H.length])[B]'h1=H.length:=by
    rw[AY I];simp
   rw[a6];exact⟨tm,.bG,.nilPtr,.nilPtr,.nilPtr,.nilPtr,f.k _ _ kp J,f.k _ _ (s.k _ _ u id) J,(f.h _ _ kp J).trans gp,(f.h _ _ (s.k _ _ u id) J).trans ((s.h _ _ u id).trans R),.inl ⟨rfl,rfl⟩,rfl,rfl,rfl,rfl,.inl rfl,.inl rfl,.inl rfl⟩
end
end
end Go.Vm
end
section
namespace Go.Vm
open Go.Proofs Go.Proofs.Tryz
section
section
variable {K K0 K':RK}{H H0 H':aU}{Q0 Q:Rl->Prop}{i j j' jj n m x W b d pb bk tm a:Nat}{c:cR}{N N':bf}{k:b9}{v av:V}{D:au}{ps:List Nat}{L:List dk}{r:Rl}
def FR (j:Nat)(L:List dk)(here:aQ)(own af:Z)(ac:Int):V->RK->aU->Prop:=fun v K' H'=>
 (xz own L/\∃ e:Int,e≠0/\v= .aZ [.nilPtr,.i64 e])\/(¬ xz own L/\∃ c:cR,v= .aZ [.ptr c.d 0,.i64 0]/\c.F=rZ (fC L L.length)/\c.ps.length=L.length/\bB K' H' j c ⟨Bm here own af ac,kS L,oU⟩)
def xP (L:List dk):Prop:=∀ i (h:i<L.length),(((eY L[i].addr 24).foldl eB (fC L i,0)).1.getD ((eY L[i].addr 24).foldl eB (fC L i,0)).2 leaf).is=false
theorem aiK (h:i<L.length):fC L (i+1)=ke (fC L i) L[i].addr 24 i:=by
 show ke (fC L i) ((L.map (·.addr)).getD i 0#32) 24 i=_;rw[bY,dU,bn h];rfl
theorem aiu (e5:Cx K H (qD jj) K H)(here:aQ)(own af:Z)(h1:own.length=32)(h2:af.length=32)(ac:Int){cs:List V}(hP:mz K H a L cs)(n3:0<L.length)(n4:L.length<=8)(n5:∀ p∈L,p.ok)(e6:xP L){t:List (Nat×V)}
  (e0:lookS t 0= .u32 here) (e1:lookS t 1= .str own) (e2:lookS t 2= .str af) (e3:lookS t 3= .i64 ac) (e4:lookS t 4= .slice a 0 L.length 4) (r0 b1 c5:Code) (hc:f27.body=some (.seq r0 (.seq b1 c5))):
  vc prog H.length f27.ntmps c5 (gV prog f27 (Ex K H (qD jj) (FR jj L here own af ac))) ⟨t,H⟩:=by
 have s5:=b8 hP.here;simp only[f27,eg,mJ] at hc;obtain⟨-,-,rfl⟩:=hc;have n6:bE prog 26 [.str own] (.aZ [.str (bI own),.i64 0]):=yG own h1;refine ce ?_;refine d8 e1 ?_
 refine br (n6) (aK ?_)
 simp only[go_sem,e0,e1,e2,e3];refine aF ?_
 refine cQ (agD e5 jj) U rfl (by simp[lows]) e5.bD ?_;rintro _ K1 H1 h8 w2 ⟨rfl,p4⟩;have o1:=e5.call h8 fun _ h=>h.elim
 refine aK ?_
 refine cQ (ahx h8 jj) U rfl (by simp[lows]) h8.bD ?_;rintro _ K2 S R w3 ⟨bk,rfl,m6⟩;have j3:=o1.call R fun _ h=>h.elim
 have j4:=p4.off R.off R.len id;have r4:=R.len;have r5:bk<S.length:=by obtain⟨_,q,_⟩:=m6;exact R.lt q
 have k3:=Bq R j4.path;have o2:=j3.len;refine d8 e4 ?_
 have X:lows (S.length+1) [V.u32 here,.str own,.str (bI own),.str af,.i64 ac,.u64 0#64,.str [],.u32 0#32,.i64 0,.i64 0,.bool false,.bG,.ptr H.length 0,.ptr bk 0,.bG,.bG]:=by simp[lows,V.low];omega
 have k4:=j3.new (.dev jj) (mm:=none) X;have e7:=(R.start (fun _=>False)).new (.dev jj) (mm:=none) X;have o3:iB (gm K2 S.length (some (.dev jj))) (S++[bK [.u32 here,.str own,.str (bI own),.str af,.i64 ac,.u64 0#64,.str [],.u32 0#32,.i64 0,.i64 0,.bool false,.bG,.ptr H.length 0,.ptr bk 0,.bG,.bG]]) jj S.length H.length bk (rX here own af ac) .bG [] L 0 0:=
  ⟨lS,ja,⟨rfl,rfl⟩,.inl ⟨rfl,rfl⟩,rfl,lI _,fun l h=>by simp at h,j4.off e7.off e7.len id,m6.off e7.off id id⟩
 have o4:=hP.de k4;have r6:H.length<S.length:=k3;generalize gm K2 S.length (some (.dev jj))=K3 at*;generalize (S++[bK [.u32 here,.str own,.str (bI own),.str af,.i64 ac,.u64 0#64,.str [],.u32 0#32,.i64 0,.i64 0,.bool false,.bG,.ptr H.length 0,.ptr bk 0,.bG,.bG]])=H3 at*;generalize S.length=d at*;refine cG (fun j st=>∃ (i:Nat) (M:aU) (Ki:RK) (av:V) (ps:List Nat),i+j=L.length/\Cx K H (qD jj) Ki M/\mz Ki M a L cs/\iB Ki M jj d H.length bk (rX here own af ac) av ps L i i/\(∀ l (h:l<i) (h2:l<L.length),L[l].aP≠bI own/\∀ k (h:k<l),(L[k]'(I)).aP≠L[l].aP)/\st=⟨[(12,.str (bI own)),(14,.ptr d 0),(59,.slice a 0 L.length 4),(60,.i64 L.length),(61,.i64 i)],M⟩) ?_ ?_
 .exact dh L.length ⟨[(12,.str (bI own)),(14,.ptr d 0),(59,.slice a 0 L.length 4),(60,.i64 L.length),(61,.i64 (0:Nat))],H3⟩ gJ rfl (fun _ _ h=>h) ⟨0,H3,K3,.bG,[],I,k4,o4,o3,fun _ h=>by omega,rfl⟩
 rintro j st ⟨i,M,Ki,av,ps,w4,hC,h9,hI,m7,rfl⟩-;have o5:=hC.lt hI.kd;by_cases hi:i<L.length
 rotate_left
 .have e8:¬ (i:Int)<(L.length:Int):=I;obtain rfl:i=L.length:=I;obtain⟨G,rfl,hN,q8⟩:=hI.node n3;have k5:¬ xz own L:=fun⟨l,h,q9⟩=>by
   obtain⟨q1,q2⟩:=m7 l h h;rcases q9 with e|⟨k,hk,e⟩
   .exact q1 e
   .exact q2 k hk e
  refine pL e8 ?_
  refine cQ (ET hC q8 h2) U rfl (by simp[lows,V.low,o5]) hC.bD ?_;rintro _ K8 H8 f F ⟨rfl,p6,b0⟩;obtain rfl:=p6.symm;have Y:=hC.call f fun r e=>by subst e;rfl
  have o6:=f.off;have A:=b0.g;unfold au.cs at A;dsimp only[rX] at A;have C:=f.lt b0.kd;obtain⟨s1,s2⟩:=b0.set f (D':=Bm here own af ac) rfl rfl;have a6:=s2;unfold au.cs at s1 a6;dsimp only[Bm,rX] at s1 a6;refine d8 A ?_
  have e9:=o6.trans s1.off;refine Ex.of (Y.call s1 fun r e=>by subst e;rfl) (by simp[lows,V.low,C]) (.inr ⟨k5,⟨d,G,ps,H.length,bk,rZ (fC L L.length)⟩,rfl,rfl,hI.len,⟨⟨_,_,a6⟩,?_,fun l h1 h2=>?_,hN.mX.off e9 J J,hN.oG.off e9 (j7 f.len s1.len) J⟩⟩)
  .show ps.length=(kS L).length;rw[xj];exact hI.len
  .have h1:l<ps.length:=h1;have h2:l<(kS L).length:=h2;rw[xj] at h2;show dn _ _ jj l d ps[l] (kS L)[l];rw[yL];exact(hI.peer l h1 h2).off e9 J J J J J J
 have e8:(i:Int)<(L.length:Int):=I;obtain⟨pb,n0,c9,n1⟩:=h9.row i hi;have a7:=n5 _ (eM hi);have s6:=a7.aP;have s7:=a7.aR;have k6:=h9.here;have l0:=h9.len;have r7:i*4+4<=L.length*4:=I;have hz:M.length<(M++[bK [.str [],.str [],.u32 0#32,.bG]]).length:=J;simp only[go_sem,seval,e8,cE,k6,n0,l0,dr hz];refine aF ?_
 have r8:=b8 k6;have l4:=b8 c9;have u:=hC.boxed (zs:=[.str [],.str [],.u32 0#32,.bG]) (ys:=[.str L[i].aP,.str L[i].aR,.u32 L[i].at_,.slice pb 0 1 2]) bT (by simp[lows,V.low];omega);have O:=(hC.start (fun _=>False)).boxed (zs:=[.str [],.str [],.u32 0#32,.bG]) (ys:=[.str L[i].aP,.str L[i].aR,.u32 L[i].at_,.slice pb 0 1 2]) bT (by simp[lows,V.low];omega);have h0:=pM (H:=M) (x:=bK [.str [],.str [],.u32 0#32,.bG]) (y:=bK [.str L[i].aP,.str L[i].aR,.u32 L[i].at_,.slice pb 0 1 2]);have h5:=(O.mQ n1 l4).trans c9;have b4:=hI.off O.off O.len vd;have u1:=hP.de u;have l5:Ki M.length=none:=hC.fresh _ (bz _);have u2:((M++[bK [.str [],.str [],.u32 0#32,.bG]]).set M.length (bK [.str L[i].aP,.str L[i].aR,.u32 L[i].at_,.slice pb 0 1 2])).length=M.length+1:=J;have r9:=hC.len;generalize ((M++[bK [.str [],.str [],.u32 0#32,.bG]]).set M.length (bK [.str L[i].aP,.str L[i].aR,.u32 L[i].at_,.slice pb 0 1 2]))=T1 at*;generalize M.length=NN at*;have c2:∀ (e:Int) (t:List (Nat×V)) (K2:RK) (S:aU),e≠0->Cx K H (qD jj) K2 S->xz own L->Ex K H (qD jj) (FR jj L here own af ac) (.aZ [.nilPtr,.i64 e]) ⟨t,S⟩:=fun e t K2 S he hC ht=>Ex.of (s:=⟨t,S⟩) hC bT (.inl ⟨ht,e,he,rfl⟩)
 have l6:(L[i].aP.length:Int)=32:=I;have l7:(L[i].aR.length:Int)=32:=I;refine WT l6 l7 h0 ?_
 have c3:d<T1.length:=u.lt b4.kd;have o7:d<NN+1:=I;by_cases b5:L[i].aP=bI own
 .refine pL b5 ?_
  exact c2 _ _ _ _ ag u ⟨i,hi,.inl b5⟩
 refine pL b5 ?_
 refine cQ (aeT u b4 n4 L[i].aP) U rfl (by simp[lows,V.low,c3]) u.bD ?_;rintro _ K5 H5 w5 w6 ⟨q0,q4,q5⟩;obtain rfl:=q4.symm;obtain rfl:=q5.symm;rcases q0 with⟨rfl,q6⟩|⟨⟨pq,po,rfl⟩,l,q1,q2,q3⟩
 rotate_left
 .refine aK ?_
  exact c2 _ _ _ _ ag u ⟨i,hi,.inr ⟨l,q1,q3⟩⟩
 refine d8 h0 ?_
 refine ij 2 ?_;have m0:=b4.g;dsimp only[rX] at m0;have o8:T1.length<(T1++[bK [.u32 0#32,.i64 0]]).length:=J;have o9:=(pz (x:=bK [.u32 0#32,.i64 0]) (y:=bK [.u32 L[i].addr,.i64 24]) c3).trans m0;simp only[go_sem,seval,h5,dr o8,o9];refine aF ?_
 have m1:NN<T1.length:=I;have w:=b4.off ((u.start (fun _=>False)).boxed (zs:=[.u32 0#32,.i64 0]) (ys:=[.u32 L[i].addr,.i64 24]) bT bT).off J vd;have b6:=u.boxed (zs:=[.u32 0#32,.i64 0]) (ys:=[.u32 L[i].addr,.i64 24]) bT bT;have m2:=(pz (x:=bK [.u32 0#32,.i64 0]) (y:=bK [.u32 L[i].addr,.i64 24]) m1).trans h0;have u3:=pM (H:=T1) (x:=bK [.u32 0#32,.i64 0]) (y:=bK [.u32 L[i].addr,.i64 24]);have c4:((T1++[bK [.u32 0#32,.i64 0]]).set T1.length (bK [.u32 L[i].addr,.i64 24])).length=T1.length+1:=J;generalize ((T1++[bK [.u32 0#32,.i64 0]]).set T1.length (bK [.u32 L[i].addr,.i64 24]))=T6 at*;refine gh (Yl b6 w.tr L[i].addr 24 i I I I a7.addr I I (e6 i hi)) U rfl (by simp[lows,V.low,Bq b6 w.tr.path]) b6.bD ?_;rintro _ K7 H7 z q7 ⟨rfl,j1⟩;refine aK ?_
 have h6:=b6.call z fun r e=>by subst e;rfl
 have T:=z.off;have c4:T6.length=T1.length+1:=c4;have s0:=w.kd;have s3:=j1;have E:iB K7 H7 jj d H.length bk (rX here own af ac) av ps L i (i+1):=by
  rw[<-aiK hi] at j1;refine⟨T.k _ _ w.kd J,(T.h _ _ w.kd J).trans w.g,w.o,?_,w.len,w.iL,fun l q1 q2=>(w.peer l q1 q2).off T J J J J J J,j1,w.mX.off T J J⟩;rcases w.av with h1|⟨G,h1,h2,h3,h4⟩
  .exact .inl h1
  .exact .inr ⟨G,h1,h2,T.k _ _ h3 J,(T.h _ _ h3 J).trans h4⟩
 have h7:=(z.mQ l5 I).trans m2;have w0:mz K7 H7 a L cs:=hP.de h6;have q7:=z.len;have c0:=E.g;dsimp only[rX] at c0;have c6:=z.lt E.kd;have c7:=b8 h7;have Ch:∀ (l:Nat) (h:l<i+1) (h2:l<L.length),L[l].aP≠bI own/\∀ k (h:k<l),(L[k]'(I)).aP≠L[l].aP:=fun l h h2=>by
  by_cases p0:l<i
  .exact m7 l p0 h2
  .obtain rfl:l=i:=I;exact⟨b5,fun k hk=>q6 k hk I⟩
 rcases E.av with⟨rfl,rfl⟩|⟨G,rfl,w7,b2,m8⟩
 .obtain rfl:(0:Nat)=i:=E.len;refine i7 c0 h7 ?_
  refine gh (Pw z jj 0) U rfl (by simp[lows]) z.bD ?_;rintro _ K8 H8 f F ⟨rfl,j2,b3,m9⟩;have Y:=h6.call f fun r e=>e.elim
  have P:=E.off f.off f.len vd;have A:=P.g;dsimp only[rX] at A;refine aK ?_
  have C:=f.lt P.kd;have F:H7.length<=H8.length:=f.len;simp only[go_sem,seval,A,AW C];refine aF ?_
  refine And.intro ?_ ?_
  .refine jg (jY H7.length) [([],[]),([],[]),([],[]),([],[]),([0],[]),([],[]),([],[]),([],[]),([0],[]),([],[]),([0],[]),([],[]),([0],[]),([0,1],[1]),([],[]),([],[1]),([],[1]),([1],[1]),([],[]),([],[]),([0],[0])] U (by simp only[jA,jy,cv,rN,all_cons,vM,iY,C6,iN c6,iN c7,Ns F,X8 F,Ns (show H7.length<=H8.length+1+1 by omega),j6,pB,gG])
  obtain⟨hG,c1⟩:=iB.add (a:=none) Y P hi rfl rfl j2 b3 (fun _ e=>by cases e) (W:=H8.length+1+1) rfl;refine cH (j-1) ⟨[(12,.str (bI own)),(14,.ptr d 0),(59,.slice a 0 L.length 4),(60,.i64 L.length),(61,.i64 ((0+1:Nat):Int))],_⟩ I gJ rfl (fun _ _ h=>h) ⟨0+1,_,_,_,_,I,hG,hP.de hG,c1,Ch,rfl⟩
 .refine i7 c0 h7 ?_
  refine gh (Pw z jj i) U rfl (by simp[lows]) z.bD ?_;rintro _ K8 H8 f F ⟨rfl,j2,b3,m9⟩;have Y:=h6.call f fun r e=>e.elim
  have P:=E.off f.off f.len vd;have A:=P.g;dsimp only[rX] at A;have p1:=(f.off.h _ _ b2 id).trans m8;have c8:=f.off.k _ _ b2 id;refine aK ?_
  have C:=f.lt P.kd;have F:H7.length<=H8.length:=f.len;have w1:=iq (i:=i) I;have a8:ps.length=i:=E.len;have m3:=f.lt c8;have B:=z.lt b2;have m4:G≠d:=fun e=>by have :=E.kd;rw[<-e,b2] at this;cases this
  have m5:NN≠G:=fun e=>by have :=z.HV l5 I;rw[e,b2] at this;cases this
  have s4:(ps.map (fun p=>V.ptr p 0)).length=i:=by rw[cq];exact a8
  rw[a8] at c0 A;simp only[go_sem,seval,A,p1,a8,th m3,Bp C m4,bq (show(ps.map (fun p=>V.ptr p 0)).length<=i by omega)];refine aF ?_
  refine And.intro ?_ ?_
  .refine jg (mL G H7.length) [([],[]),([],[]),([],[]),([],[]),([0],[]),([],[]),([],[]),([],[]),([0],[]),([],[]),([0],[]),([],[]),([0],[]),([0,1,2],[1]),([],[]),([],[1]),([],[1]),([1,2],[1,2]),([],[]),([],[]),([0],[0])] U (by simp only[jA,jy,cv,ZT,all_cons,vM,iY,B4,uX c6 m4.symm,uX c7 m5,acN,Y3 B,IX F B,ZL F B,IX (show H7.length<=H8.length+1+1 by omega) B,j6,pB,FO,gG])
  obtain⟨hG,c1⟩:=iB.add (a:=some G) Y P hi rfl rfl j2 b3 (fun _ e=>by cases e;exact c8) (W:=H8.length+1+1) rfl;rw[lw] at hG c1;refine cH (j-1) ⟨[(12,.str (bI own)),(14,.ptr d 0),(59,.slice a 0 L.length 4),(60,.i64 L.length),(61,.i64 ((i+1:Nat):Int))],_⟩ I (by simp[St.get,lookS,w1]) rfl (fun _ _ h=>h) ⟨i+1,_,_,_,_,I,hG,hP.de hG,c1,Ch,rfl⟩
end
end
section
section
variable {K K0 K':RK}{H H0 H':aU}{Q0 Q:Rl->Prop}{i j j' jj n m x W b d pb bk tm a:Nat}{c:cR}{N N':bf}{k:b9}{v av:V}{D:au}{ps:List Nat}{L:List dk}{r:Rl}
theorem Xk (g:Cx K H (qD jj) K H)(here:aQ)(h0:here≠0#32)(own af:Z)(h1:own.length=32)(h2:af.length=32)(ac:Int)(y:ac=1\/ac=2){cs:List V}(z:mz K H a L cs)(h:0<L.length)(l:L.length<=8)(o:∀ p∈L,p.ok)(f:xP L)(q s u:Code)(hc:f27.body=some (.seq q (.seq s u))):
  vc prog H.length f27.ntmps (.seq q (.seq s u)) (gV prog f27 (Ex K H (qD jj) (FR jj L here own af ac))) ⟨jX [.u32 here,.str own,.str af,.i64 ac,.slice a 0 L.length 4] 0,H⟩:=by
 have e:=fun {t:List (Nat×V)} (A:lookS t 0= .u32 here) (B:lookS t 1= .str own) (C:lookS t 2= .str af) (E:lookS t 3= .i64 ac) (F:lookS t 4= .slice a 0 L.length 4)=>
  aiu g here own af h1 h2 ac z h l o f A B C E F q s u hc
 simp only[f27,eg,mJ] at hc;obtain⟨rfl,rfl,hc⟩:=hc;clear hc;have G:(own.length:Int)=32:=I;have M:(af.length:Int)=32:=I;have w:¬ (8:Int)<(L.length:Int):=I;refine ce ?_;refine qA h0 G M ?_
 rcases y with rfl|rfl
 .refine pL w ?_
  exact e rfl rfl rfl rfl rfl
 .refine pL w ?_
  exact e rfl rfl rfl rfl rfl
theorem Wp (l:Cx K0 H0 Q K H)(here:aQ)(h0:here≠0#32)(own af:Z)(h1:own.length=32)(h2:af.length=32)(ac:Int)(o:ac=1\/ac=2){cs:List V}(q:mz K H a L cs)(f:0<L.length)(g:L.length<=8)(h:∀ p∈L,p.ok)(e:xP L)(jj:Nat):
  ∃ v K' H',Dx prog 27 [.u32 here,.str own,.str af,.i64 ac,.slice a 0 L.length 4] K H (qD jj) v K' H'/\FR jj L here own af ac v K' H':=
 xQ U func27 rfl db (Xk (l.start _) here h0 own af h1 h2 ac o q f g h e _ _ _ rfl)
theorem adt (g:Cx K0 H0 Q K H)(here:aQ)(h0:here≠0#32)(own af:Z)(h1:own.length=32)(h2:af.length=32)(ac:Int)(o:¬ (ac=1\/ac=2))(p:a<H.length)(n:Nat):
  ∃ v K' H',Dx prog 27 [.u32 here,.str own,.str af,.i64 ac,.slice a 0 n 4] K H (fun _=>False) v K' H'/\v= .aZ [.nilPtr,.i64 1]:=by
 have q:(own.length:Int)=32:=I;have h:(af.length:Int)=32:=I;have s:ac≠1:=I;have l:ac≠2:=I;refine ar (Q:=fun _=>False) (Post:=fun v K' H'=>v= .aZ [.nilPtr,.i64 1]) func27 ?_;refine qb5 h0 q h s l ?_
 exact Ex.of (g.start _) bT rfl
end
end
section
noncomputable def gX (af:Z) (n:Int):Z:=(Ae 1 af [BitVec.ofInt 8 n] 1).getD 0 []
theorem rD {af:Z}(h:af.length=32)(n:Int):bp prog 25 [.i64 1,.str af,.str [BitVec.ofInt 8 n],.i64 1] [] (.aZ [.slice 0 0 1 1,.i64 0]) [bK [.str (gX af n)]]/\(gX af n).length=32:=by
 obtain⟨l,o,f⟩:=EI (x:=1) (.inl rfl) af [BitVec.ofInt 8 n] I J (n:=1) ag ag;unfold gX;obtain⟨a,e,g⟩:=QX o f;rw[e] at l |-
 exact⟨l,g⟩
noncomputable def oL (af:Z) (i k:Nat):dk:=⟨bI (gX af k),gX af (20+(i:Int)+(k:Int)),BitVec.ofInt 32 (bh ((k:Int)+1)),167772160#32+BitVec.ofInt 32 (k:Int)<<<8,gX af k⟩
noncomputable def ig (af:Z) (i:Nat):Nat->List dk
 |0=>[]
 |k+1=>if k=i then ig af i k else ig af i k++[oL af i k]
section
variable {K K0 K':RK}{H H0 H':aU}{Q0 Q:Rl->Prop}{i j j' jj n m x W b d pb bk tm a cnt n0 s:Nat}{c:cR}{N N':bf}{k:b9}{v av:V}{D:au}{ps:List Nat}{L:List dk}{r:Rl}
theorem Dd (f:Cx K0 H0 Q0 K H){af:Z}(g:af.length=32)(o:ah H s=bK [.str af])(n:Int):
  ∃ v K' H',Dx prog 24 [.i64 n,.ptr s 0] K H (fun _=>False) v K' H'/\(v= .str (gX af n)/\K'=K):=by
 have h:=b8 o;obtain⟨l,-⟩:=rD g n;generalize gX af n=e at*;refine ar (Q:=fun _=>False) (Post:=fun v K' H'=>v= .str e/\K'=K) func24 ?_;refine d8 o ?_
 refine am [] l (aK ?_)
 exact Ex.of (((f.start (fun _=>False)).bH (vs:=[.u8 (BitVec.ofInt 8 n)]) (mm:=none) bT).bH (vs:=[.str e]) (mm:=none) bT) trivial ⟨rfl,rfl⟩
def oX (n0:Nat)(K:RK)(H:aU)(v:V)(L:List dk):Prop:=(L=[]/\v= .bG)\/∃ f h,v= .slice f 0 L.length 4/\0<L.length/\n0<=f/\mz K H f L h
theorem oX.de (h:oX n0 K H v L)(f:Cx K H Q K' H'):oX n0 K' H' v L:=by
 rcases h with h|⟨g,o,e,p,q,l⟩
 .exact .inl h
 .exact .inr ⟨g,o,e,p,q,l.de f⟩
theorem Cx.A4 (h:Cx K H Q K' H'){b:Nat}{B:aa}(f:ah H b=some B)(e:K b=none):ah H' b=some B/\K' b=none:=⟨(h.mQ e (b8 f)).trans f,h.HV e (b8 f)⟩
theorem ags (S:Cx K0 H0 qT K H){af:Z}(hs:af.length=32)(G:ah H s=bK [.str af])(c1:K s=none){v:V}(hP:oX H0.length K H v L)(h5:L.length<=8){i k:Nat}(hi:i<=10)(hk:k<=10)
  {t:List (Nat×V)} (h6:lookS t 6= .fn 24 [] [.ptr s 0]) (h8:lookS t 8= .i64 i) (c2:lookS t 10=v) (A:lookS t 11= .i64 k) {R:Exit->St->Prop} {r0 s1 r3 r4 r5 r6 c6 r7 r8 r9 c3 c4 c5 c7 T X c8 c9 e0 e1 e3 e4:Code} {b0 b1 b2 b3:Nat}
  (hc:f16.body=some (.seq r0 (.seq s1 (.seq r3 (.seq r4 (.seq (.seq r5 (.block b0 (.loop (.seq r6 (.seq c6 (.seq (.block b1 (.seq r7 (.seq r8 (.seq (.seq r9 (.block b2 (.loop (.seq c3 (.seq c4 (.seq (.block b3 (.seq c5 (.seq c7 (.seq T X)))) c8)))))) (.seq c9 (.seq e0 e1)))))) e3)))))) e4))))))
  (hR:∀ (t':List (Nat×V)) (v':V) (K':RK) (H':aU),Cx K0 H0 qT K' H'->(∀ b r,K b=some r->K' b=some r/\ah H' b=ah H b)->H.length<=H'.length->(∀ b,K b=none->K' b=none)->oX H0.length K' H' v' (L++[oL af i k])->(∀ b B,ah H b=some B->B.cs.length<4->ah H' b=some B)->lookS t' 10=v'->(∀ j,j<47->j≠10->j≠12->j≠13->lookS t' j=lookS t j)->R .normal ⟨t',H'⟩):
  vc prog H0.length f16.ntmps (.seq T X) R ⟨t,H⟩:=by
 simp only[f16,eg,mJ,zD,y8] at hc;obtain⟨-,-,-,-,⟨⟨-,-,-,-,⟨⟨-,-,-,⟨⟨-,-,-,-,⟨⟨-,-,-,rfl,rfl⟩,-⟩⟩,-,-,-⟩⟩,-⟩⟩,-⟩⟩:=hc;have e5:=b8 G;have w5:bh (20+(i:Int))=20+(i:Int):=bC I I;have w6:bh (20+(i:Int)+(k:Int))=20+(i:Int)+(k:Int):=bC I I;have h9:bI (gX af k)=eS (gX af k) je:=rfl;have e6:bE prog 26 [.str (gX af k)] (.aZ [.str (bI (gX af k)),.i64 0]):=yG _ (rD hs _).2;have Y:=(rD hs (k:Int)).2;have a6:oL af i k=⟨bI (gX af k),gX af (20+(i:Int)+(k:Int)),BitVec.ofInt 32 (bh ((k:Int)+1)),167772160#32+BitVec.ofInt 32 (k:Int)<<<8,gX af k⟩:=rfl;have e7:=Dd S hs G (k:Int);refine ce ?_;refine i7 h6 A ?_
 refine cQ (e7) U rfl (by simp[lows,V.low,e5]) S.bD ?_;rintro _ K1 H1 z j2 ⟨rfl,Y⟩;obtain rfl:=Y.symm;have e8:=S.call z fun _ h=>h.elim
 obtain⟨F,-⟩:=z.A4 G c1;have e9:=Dd z hs F (20+(i:Int)+(k:Int));generalize bI (gX af k)=u at*;generalize gX af (20+(i:Int)+(k:Int))=w at*;refine aK ?_
 refine br (e6) (aK ?_)
 refine qa8 h6 h8 c2 A w5 w6 ?_
 refine cQ (e9) U rfl (by simp[lows,V.low,b8 F]) z.bD ?_;rintro _ K2 f g j3 ⟨rfl,h4⟩;obtain rfl:=h4.symm;have a7:=e8.call g fun _ h=>h.elim
 have p:=z.call g fun _ h=>h
 have h0:=hP.de p;have h1:=S.len;have h7:=p.len;have w1:bh ((k:Int)+1)=((k+1:Nat):Int):=iq I;have C:∀ b r,K b=some r->ah f b=ah H b:=fun b r e=>p.get e (S.lt e) id
 have a8:∀ b B,ah H b=some B->ah f b=some B:=fun b B e=>(p.de b (b8 e) fun _ _ h=>h).trans e
 rcases h0 with⟨rfl,rfl⟩|⟨P,cs,rfl,j4,b6,o⟩
 .refine d8 A ?_
  have hD:=((a7.bH (vs:=[.u32 (167772160#32+BitVec.ofInt 32 ↑k<<<8),.i64 24]) (mm:=none) bT).bH (vs:=[.str u,.str w,.u32 (BitVec.ofInt 32 (bh (↑k+1))),.slice f.length 0 1 2]) (mm:=none) (by simp[lows,V.low];omega)).bH (vs:=[.str u,.str w,.u32 (BitVec.ofInt 32 (bh (↑k+1))),.slice f.length 0 1 2]) (mm:=none) (by simp[lows,V.low];omega);refine hR _ (.slice (f.length+1+1) 0 1 4) _ _ hD (fun b r e=>⟨e,(AW (g.lt e)).trans (C b r e)⟩) cp (fun b e=>e) (.inr ⟨f.length+1+1,_,rfl,J,I,⟨F9,g.fresh _ I,J,fun i' O=>?_⟩⟩) (fun b B E _=>?_) aky (fun j g1 g2 g3 g4=>?_)
  .obtain rfl:i'=0:=by simp at O;omega
   rw[a6];exact⟨f.length,rfl,KN,g.fresh _ (bz _)⟩
  .have :=a8 b B E;exact(AW (b8 this)).trans this
  .simp only[lookS];repeat rw[aq I]
 .have b4:=b8 o.here;have c0:=o.len;simp only[go_sem,seval,A,o.here,th b4,nW,bq (show cs.length<=L.length*4 by omega)];refine aF ?_
  have hD:=(((a7.bH (vs:=[.u32 (167772160#32+BitVec.ofInt 32 ↑k<<<8),.i64 24]) (mm:=none) bT).bH (vs:=[.str u,.str w,.u32 (BitVec.ofInt 32 (bh (↑k+1))),.slice f.length 0 1 2]) (mm:=none) (by simp[lows,V.low];omega)).F2 b6).bH (vs:=cs++[.str u,.str w,.u32 (BitVec.ofInt 32 (bh (↑k+1))),.slice f.length 0 1 2]) (mm:=none) (by
   rw[b7,bA,bA,vj];exact⟨rS cp _ (g.bD P _ o.here).1,by simp[lows,V.low];omega⟩)
  have q:∀ b B,ah f b=some B->B.cs.length<4->b≠P:=fun b B E hB e=>by
   subst e;rw[o.here] at E;cases E;have j1:cs.length<4:=hB;omega
  have l:∀ b,b<f.length->b≠P->ah ((f++[bK [.u32 (167772160#32+BitVec.ofInt 32 ↑k<<<8),.i64 24]]++[bK [.str u,.str w,.u32 (BitVec.ofInt 32 (bh (↑k+1))),.slice f.length 0 1 2]]).set P none++[bK (cs++[.str u,.str w,.u32 (BitVec.ofInt 32 (bh (↑k+1))),.slice f.length 0 1 2])]) b=ah f b:=fun b E h3=>Bp E h3.symm
  have b5:ah ((f++[bK [.u32 (167772160#32+BitVec.ofInt 32 ↑k<<<8),.i64 24]]++[bK [.str u,.str w,.u32 (BitVec.ofInt 32 (bh (↑k+1))),.slice f.length 0 1 2]]).set P none++[bK (cs++[.str u,.str w,.u32 (BitVec.ofInt 32 (bh (↑k+1))),.slice f.length 0 1 2])]) (f.length+1+1)=bK (cs++[.str u,.str w,.u32 (BitVec.ofInt 32 (bh (↑k+1))),.slice f.length 0 1 2]):=by
   have :=qb ((f++[bK [.u32 (167772160#32+BitVec.ofInt 32 ↑k<<<8),.i64 24]]++[bK [.str u,.str w,.u32 (BitVec.ofInt 32 (bh (↑k+1))),.slice f.length 0 1 2]]).set P none) (bK (cs++[.str u,.str w,.u32 (BitVec.ofInt 32 (bh (↑k+1))),.slice f.length 0 1 2])) [];simp only[b7,bA,vY] at this;exact this
  have M:ah ((f++[bK [.u32 (167772160#32+BitVec.ofInt 32 ↑k<<<8),.i64 24]]++[bK [.str u,.str w,.u32 (BitVec.ofInt 32 (bh (↑k+1))),.slice f.length 0 1 2]]).set P none++[bK (cs++[.str u,.str w,.u32 (BitVec.ofInt 32 (bh (↑k+1))),.slice f.length 0 1 2])]) f.length=bK [.u32 (167772160#32+BitVec.ofInt 32 ↑k<<<8),.i64 24]:=by
   rw[fJ J,eA I];exact Dy
  refine hR _ (.slice (f.length+1+1) 0 (L.length+1) 4) _ _ hD (fun b r e=>⟨e,(l b (g.lt e) fun e2=>by rw[e2,o.no] at e;cases e).trans (C b r e)⟩) cp (fun b e=>e) (.inr ⟨f.length+1+1,_,J,J,I,⟨b5,g.fresh _ I,cp,fun i' O=>?_⟩⟩) (fun b B E hB=>?_) aky (fun j g1 g2 g3 g4=>?_)
  .by_cases y:i'<L.length
   .obtain⟨pb,q1,q4,q5⟩:=o.row i' y;rw[Bg y];refine⟨pb,?_,(l pb (b8 q4) (q pb _ q4 (by show 2<4;omega))).trans q4,q5⟩;rw[List.drop_append_of_le_length I,CB (by rw[dO];omega)];exact q1
   .obtain rfl:i'=L.length:=by simp at O;omega
    rw[AY (bz _)];simp only[k8,GZ];rw[a6];refine⟨f.length,?_,M,g.fresh _ (bz _)⟩;rw[oI I];rfl
  .have :=a8 b B E;exact(l b (b8 this) (q b B this hB)).trans this
  .simp only[lookS];repeat rw[aq I]
end
end
section
section
variable {K K0 K':RK}{H H0 H':aU}{Q0 Q:Rl->Prop}{i j j' jj n m x W b d pb bk tm a cnt n0 s Lb:Nat}{c:cR}{N N':bf}{k:b9}{v av:V}{D:au}{ps xs:List Nat}{L:List dk}{r:Rl}
def nS (n0 s Lb:Nat)(K:RK)(H:aU)(g:V)(xs:List Nat):Prop:=(xs=[]/\g= .bG)\/∃ h,g= .slice h 0 xs.length 1/\0<xs.length/\n0<=h/\h≠Lb/\h≠s/\K h=none/\ah H h=bK (xs.map fun x=> .ptr x 0)
theorem nS.de {f:V}(h:nS n0 s Lb K H f xs)(g:Cx K H Q K' H'):nS n0 s Lb K' H' f xs:=by
 rcases h with h|⟨q,e,t,u,w,l,o,p⟩
 .exact .inl h
 .obtain⟨y,z⟩:=g.A4 p o;exact .inr ⟨q,e,t,u,w,l,z,y⟩
noncomputable def Ax (af:Z) (i:Nat) (ac:Int) (L:List dk):bf:=⟨Bm (BitVec.ofInt 32 (bh ((i:Int)+1))) (gX af i) (gX af ((i:Int)+10)) ac,kS L,oU⟩
theorem aat (o1:∀ b,K0 b=none)(hC:Cx K0 H0 qT K H){af:Z}(hs:af.length=32)(M:ah H s=bK [.str af])(c3:K s=none){v:V}(hP:oX H0.length K H v L)(c0:0<L.length)(j3:L.length<=8)(j4:∀ p∈L,p.ok)(c1:xP L){nv:V}(c4:ah H Lb=bK [nv,.bG])(k3:K Lb=none)(c5:H0.length<=Lb)(c7:Lb≠s)(k4:nS H0.length s Lb K H nv xs){i:Nat}(hi:i<=10)(ac:Int)(o2:xs.length<=8)
  {t:List (Nat×V)} (h6:lookS t 6= .fn 24 [] [.ptr s 0]) (h7:lookS t 7= .ptr Lb 0) (h8:lookS t 8= .i64 i) (h9:lookS t 9= .i64 ac) (k5:lookS t 10=v) {R:Exit->St->Prop} {r0 s1 r3 r4 r5 r6 c6 r7 r8 r9 k6 l0 l4 l5 l6 l7 m0 c8 c9 e0 m1 m2:Code} {b0 b1 b2 b3:Nat}
  (hc:f16.body=some (.seq r0 (.seq s1 (.seq r3 (.seq r4 (.seq (.seq r5 (.block b0 (.loop (.seq r6 (.seq c6 (.seq (.block b1 (.seq r7 (.seq r8 (.seq (.seq r9 (.block b2 (.loop (.seq k6 (.seq l0 (.seq (.block b3 (.seq l4 (.seq l5 (.seq l6 l7)))) m0)))))) (.seq c8 (.seq c9 e0)))))) m1)))))) m2))))))
  (S:∀ (t':List (Nat×V)) (K':RK) (H':aU) (e:Int),Cx K0 H0 qT K' H'->e≠0->¬ (ac=1\/ac=2)\/xz (gX af i) L->lookS t' 4= .nilPtr->lookS t' 5= .i64 e->R .ret ⟨t',H'⟩)
  (hR:∀ (t':List (Nat×V)) (e1:V) (K':RK) (H':aU) (x:Nat) (c:cR),Cx K0 H0 qT K' H'->ah H' s=bK [.str af]->K' s=none->ah H' Lb=bK [e1,.bG]->K' Lb=none->nS H0.length s Lb K' H' e1 (xs++[x])->l8 K' H' i x c (Ax af i ac L) []->c.F=rZ (fC L L.length)->c.ps.length=L.length->(ac=1\/ac=2)->¬ xz (gX af i) L->cD (qD i) K H K' H'->H.length<=H'.length->(∀ j,j<75->j≠14->j≠15->lookS t' j=lookS t j)->R .normal ⟨t',H'⟩):
  vc prog H0.length f16.ntmps (.seq c8 (.seq c9 e0)) R ⟨t,H⟩:=by
 simp only[f16,eg,mJ,zD,y8] at hc;obtain⟨-,-,-,-,⟨⟨-,-,-,-,⟨⟨-,-,-,⟨-,rfl,rfl,rfl⟩⟩,-⟩⟩,-⟩⟩:=hc;rcases hP with⟨e,-⟩|⟨pa,cs,rfl,o5,n6,n1⟩
 .rw[e] at c0;simp at c0
 have m3:=b8 M;have o3:=b8 c4;have w5:bh ((i:Int)+10)=(i:Int)+10:=bC I I;have m4:=Dd hC hs M (i:Int);have e3:=(rD hs (i:Int)).2;have e4:=(rD hs ((i:Int)+10)).2;have m5:Ax af i ac L=⟨Bm (BitVec.ofInt 32 (bh ((i:Int)+1))) (gX af i) (gX af ((i:Int)+10)) ac,kS L,oU⟩:=rfl;refine ce ?_;refine i7 h6 h8 ?_
 refine cQ (m4) U rfl (by simp[lows,V.low,m3]) hC.bD ?_;rintro _ K1 H1 B o6 ⟨rfl,n3⟩;obtain rfl:=n3.symm;have m6:=hC.call B fun _ h=>h.elim
 obtain⟨b5,-⟩:=B.A4 M c3;have m7:=Dd B hs b5 ((i:Int)+10);generalize gX af (i:Int)=k1 at*;generalize gX af ((i:Int)+10)=k2 at*;refine qA h6 h8 w5 ?_
 refine cQ (m7) U rfl (by simp[lows,V.low,b8 b5]) B.bD ?_;rintro _ K2 H2 u o7 ⟨rfl,n4⟩;obtain rfl:=n4.symm;have e5:=m6.call u fun _ h=>h.elim
 have T:=B.call u fun _ h=>h
 have X:=n1.de T;have w:=b8 X.here;have w1:bh ((i:Int)+1)=((i+1:Nat):Int):=iq I;have Y:BitVec.ofInt 32 (bh ((i:Int)+1))≠0#32:=by
  rw[w1];have m8:i=0\/i=1\/i=2\/i=3\/i=4\/i=5\/i=6\/i=7\/i=8\/i=9\/i=10:=I;rcases m8 with rfl|rfl|rfl|rfl|rfl|rfl|rfl|rfl|rfl|rfl|rfl<;>decide
 generalize BitVec.ofInt 32 (bh ((i:Int)+1))=here at*;refine i7 h9 k5 ?_
 by_cases hb:ac=1\/ac=2
 rotate_left
 .refine cQ (adt u _ Y k1 k2 e3 e4 ac hb w L.length) U rfl (by simp[lows,V.low,w]) u.bD ?_;rintro _ O f g h0 rfl;have z:=e5.call g fun _ h=>h.elim
  have he:(1:Int)≠0:=ag;refine pL he ?_
  exact S _ O f 1 z he (.inl hb) aky aky
 refine cQ (Wp u _ Y k1 k2 e3 e4 ac hb X c0 j3 j4 c1 i) U rfl (by simp[lows,V.low,w]) u.bD ?_;rintro _ O f g h0 n5;have z:=e5.call g fun _ _=>trivial
 have q:=(T.mono (Q2:=qD i) fun _ h=>h.elim).call g fun _ h=>h
 rcases n5 with⟨P,e,he,rfl⟩|⟨P,c,rfl,h1,h3,hN⟩
 .refine g9 he ?_;exact S _ O f e z he (.inr P) aky aky
 rw[<-m5] at hN;obtain⟨E,b6⟩:=q.A4 M c3;obtain⟨G,o⟩:=q.A4 c4 k3;have e6:nS H0.length s Lb O f nv xs:=k4.de q;have a6:=b8 G;have o4:c.d<f.length:=by obtain⟨_,_,hD⟩:=hN.dev;exact g.lt hD.kd
 have m9:=q.len;have h0:=z.len;have l:Lb≠f.length:=I;have a7:=b8 E;have a8:s≠f.length:=I;have b4:=z.new (.node i) (vs:=[.ptr c.d 0,.bG]) (mm:=none) (by simp[lows,V.low];omega);have e7:∀ y,f.length<y->gm O f.length (some (.node i)) y=none:=fun y hy=>by rw[iS I];exact g.fresh _ I
 rcases e6 with⟨rfl,rfl⟩|⟨na,rfl,o8,h4,h5,j1,j2,C⟩
 .simp only[go_sem,seval,h7,G,AW a6];refine aF ?_
  have hS:=((b4.bH (vs:=[.ptr f.length 0]) (mm:=none) (by simp[lows,V.low];omega)).bH (vs:=[.ptr f.length 0]) (mm:=none) (by simp[lows,V.low];omega)).Gj (b:=Lb) c5 (vs:=[.slice (f.length+1+1) 0 1 1,.bG]) (mm:=none) bT;have A:cD (fun _=>False) O f (gm O f.length (some (.node i))) ((f++[bK [.ptr c.d 0,.bG]]++[bK [.ptr f.length 0]]++[bK [.ptr f.length 0]]).set Lb (bK [.slice (f.length+1+1) 0 1 1,.bG])):=
   ⟨fun b r e _=>by rw[iS (by have :=g.lt e;omega)];exact e,fun b r e _=>by rw[eA (fun e2=>by rw[<-e2,o] at e;cases e),AW (g.lt e)]⟩
  refine hR _ (.slice (f.length+1+1) 0 1 1) _ _ f.length c hS ((eA c7 _).trans ((AW a7).trans E)) (by rw[iS a8];exact b6) (dr (by simp <;>omega) _) (by rw[iS l];exact o) (.inr ⟨f.length+1+1,rfl,J,I,I,I,e7 _ I,(eA I _).trans F9⟩) ⟨.bG,lS,?_,.inl ⟨rfl,rfl⟩,hN.off A (by simp <;>omega) vd⟩ h1 h3 hb P (q.off.trans (A.mono fun _ h=>h.elim)) (by simp <;>omega) (fun j g1 g2 g3=>?_)
  .rw[eA l,fJ J,fJ J];exact ja
  .simp only[lookS];repeat rw[aq I]
 .have e8:=b8 C;simp only[go_sem,seval,h7,G,C,th e8,Bp a6 h5,nW,bq (show(xs.map fun x=>V.ptr x 0).length<=xs.length by simp)];refine aF ?_
  have c2:na≠f.length:=I;have hS:=(((b4.bH (vs:=[.ptr f.length 0]) (mm:=none) (by simp[lows,V.low];omega)).F2 (b:=na) h4).bH (vs:=(xs.map fun x=>V.ptr x 0)++[.ptr f.length 0]) (mm:=none) (by
   rw[b7,bA,bA,vj];exact⟨rS cp _ (g.bD na _ C).1,by simp[lows,V.low];omega⟩)).Gj (b:=Lb) c5 (vs:=[.slice (f.length+1+1) 0 (xs.length+1) 1,.bG]) (mm:=none) bT
  have e9:ah ((f++[bK [.ptr c.d 0,.bG]]++[bK [.ptr f.length 0]]).set na none++[bK ((xs.map fun x=>V.ptr x 0)++[.ptr f.length 0])]) (f.length+1+1)=bK ((xs.map fun x=>V.ptr x 0)++[.ptr f.length 0]):=by
   have :=qb ((f++[bK [.ptr c.d 0,.bG]]++[bK [.ptr f.length 0]]).set na none) (bK ((xs.map fun x=>V.ptr x 0)++[.ptr f.length 0])) [];simp only[b7,bA,vY] at this;exact this
  have A:cD (fun _=>False) O f (gm O f.length (some (.node i))) (((f++[bK [.ptr c.d 0,.bG]]++[bK [.ptr f.length 0]]).set na none++[bK ((xs.map fun x=>V.ptr x 0)++[.ptr f.length 0])]).set Lb (bK [.slice (f.length+1+1) 0 (xs.length+1) 1,.bG])):=
   ⟨fun b r e _=>by rw[iS (by have :=g.lt e;omega)];exact e,fun b r e _=>by rw[eA (fun e2=>by rw[<-e2,o] at e;cases e),Bp (g.lt e) (fun e2=>by rw[<-e2,j2] at e;cases e)]⟩
  refine hR _ (.slice (f.length+1+1) 0 (xs.length+1) 1) _ _ f.length c hS ((eA c7 _).trans ((Bp a7 j1).trans E)) (by rw[iS a8];exact b6) (dr (by simp <;>omega) _) (by rw[iS l];exact o) (.inr ⟨f.length+1+1,J,J,I,I,I,e7 _ I,?_⟩) ⟨.bG,lS,?_,.inl ⟨rfl,rfl⟩,hN.off A (by simp <;>omega) vd⟩ h1 h3 hb P (q.off.trans (A.mono fun _ h=>h.elim)) (by simp <;>omega) (fun j g1 g2 g3=>?_)
  .rw[lw];exact(eA I _).trans e9
  .rw[eA l,fJ J,eA c2,fJ J];exact ja
  .simp only[lookS];repeat rw[aq I]
end
end
section
def GG (af:Z)(bs:List Int)(i:Nat):Prop:=¬ (bs.getD i 0=1\/bs.getD i 0=2)\/xz (gX af i) (ig af i bs.length)
def ua (af:Z)(bs:List Int):Prop:=af.length≠32\/bs.length<2\/3<bs.length\/∃ i,i<bs.length/\GG af bs i
noncomputable def mo (af:Z) (bs:List Int):bl:=⟨(List.range bs.length).map fun i=>Ax af i (bs.getD i 0) (ig af i bs.length),[],List.replicate bs.length []⟩
def qp (af:Z)(n:Nat)(cs:List cR):Prop:=∀ i (h:i<cs.length),cs[i].F=rZ (fC (ig af i n) (n-1))/\cs[i].ps.length=n-1
def zX (af:Z)(bs:List Int):V->RK->aU->Prop:=fun v K' H'=>
 (ua af bs/\∃ e:Int,e≠0/\v= .aZ [.nilPtr,.i64 e])\/(¬ ua af bs/\∃ k:b9,v= .aZ [.ptr k.l 0,.i64 0]/\k.xs.length=bs.length/\bM K' H' k (mo af bs)/\qp af bs.length k.cs)
theorem xG (af:Z)(i:Nat):∀ k,(ig af i k).length=if k<=i then k else k-1
 |0=>by simp[ig]
 |k+1=>by
  have ih:=xG af i k;unfold ig;by_cases h:k=i
  .rw[aM h,ih,aM I,aq I];omega
  .rw[aq h,bA,ih,vY];by_cases e:k<=i
   .rw[aM e,aM I]
   .rw[aq e,aq I];omega
theorem IM {af:Z}{i:Nat}{p:dk}:∀ {k},p∈ig af i k->∃ f,f<k/\p=oL af i f
 |0,h=>by simp[ig] at h
 |k+1,h=>by
  unfold ig at h;by_cases e:k=i
  .rw[aM e] at h;obtain⟨f,l,g⟩:=IM h;exact⟨f,I,g⟩
  .rw[aq e] at h;rcases gZ.1 h with h|h
   .obtain⟨f,l,g⟩:=IM h;exact⟨f,I,g⟩
   .rw[oQ] at h;exact⟨k,I,h⟩
theorem ZB {af:Z}(e:af.length=32){i k:Nat}(f:k<3):(oL af i k).ok:=by
 refine⟨vV _ _,(rD e _).2,?_⟩;show(167772160#32+BitVec.ofInt 32 (k:Int)<<<8)<<<24=0#32;have :k=0\/k=1\/k=2:=I;rcases this with rfl|rfl|rfl<;>decide
theorem Gu {p q:dk}(h0:((((eY p.addr 24).foldl eB ([leaf],0)).1.getD ((eY p.addr 24).foldl eB ([leaf],0)).2 leaf).is=false))(h1:(((eY q.addr 24).foldl eB (ke [leaf] p.addr 24 0,0)).1.getD ((eY q.addr 24).foldl eB (ke [leaf] p.addr 24 0,0)).2 leaf).is=false):xP [p,q]:=fun i h=>by
 match i,h with
 |0,_=>exact h0
 |1,_=>exact h1
theorem MR {p:dk}(h0:((((eY p.addr 24).foldl eB ([leaf],0)).1.getD ((eY p.addr 24).foldl eB ([leaf],0)).2 leaf).is=false)):xP [p]:=fun i h=>by
 match i,h with
 |0,_=>exact h0
theorem ahX (af:Z){i n:Nat}(e:n=2\/n=3)(hi:i<n):xP (ig af i n):=by
 rcases e with rfl|rfl
 .have :i=0\/i=1:=I;rcases this with rfl|rfl
  .exact MR (p:=oL af 0 1) U
  .exact MR (p:=oL af 1 0) U
 .have :i=0\/i=1\/i=2:=I;rcases this with rfl|rfl|rfl
  .exact Gu (p:=oL af 0 1) (q:=oL af 0 2) U U
  .exact Gu (p:=oL af 1 0) (q:=oL af 1 2) U U
  .exact Gu (p:=oL af 2 0) (q:=oL af 2 1) U U
theorem GX (af:Z)(bs:List Int){j:Nat}(h:j<(mo af bs).N.length):(mo af bs).N[j]=Ax af j (bs.getD j 0) (ig af j bs.length):=by simp[mo]
theorem aeG (af:Z)(bs:List Int){j:Nat}(h:j<(mo af bs).all.length):(mo af bs).all[j]=[]:=by simp[mo]
section
variable {K K0 K':RK}{H H0 H':aU}{Q0 Q:Rl->Prop}{i j j' jj n m x W b d pb bk tm a cnt n0 s Lb:Nat}{c:cR}{N N':bf}{k:b9}{v av:V}{D:au}{ps xs:List Nat}{L:List dk}{r:Rl}{all:List Pk}
theorem aen (hC:Cx K H qT K H)(M:∀ b,K b=none)(af:Z){bv:V}{bs:List Int}{ro:Bool}(hb:(bs=[]/\bv= .bG)\/∃ bb,bv= .slice bb 0 bs.length 1/\ah H bb=some ⟨ro,bs.map V.i64,none⟩)
  {r0 s1 r3 r4 r5 r6 c6 r7 r8 r9 c5 c7 c8 c9 e0 e1 e3 e6 e7 e8 e9 h6:Code} {b0 b1 b2 b3:Nat}
  (hc:f16.body=some (.seq r0 (.seq s1 (.seq r3 (.seq r4 (.seq (.seq r5 (.block b0 (.loop (.seq r6 (.seq c6 (.seq (.block b1 (.seq r7 (.seq r8 (.seq (.seq r9 (.block b2 (.loop (.seq c5 (.seq c7 (.seq (.block b3 (.seq c8 (.seq c9 (.seq e0 e1)))) e3)))))) (.seq e6 (.seq e7 e8)))))) e9)))))) h6)))))):
  vc prog H.length f16.ntmps (.seq r0 (.seq s1 (.seq r3 (.seq r4 (.seq (.seq r5 (.block b0 (.loop (.seq r6 (.seq c6 (.seq (.block b1 (.seq r7 (.seq r8 (.seq (.seq r9 (.block b2 (.loop (.seq c5 (.seq c7 (.seq (.block b3 (.seq c8 (.seq c9 (.seq e0 e1)))) e3)))))) (.seq e6 (.seq e7 e8)))))) e9)))))) h6))))) (gV prog f16 (Ex K H qT (zX af bs))) ⟨jX [bv,.str af] 0,H⟩:=by
 have n5:=@ags;have n6:=@aat;have h7:=hc;simp only[f16,eg,mJ,zD,y8] at hc;obtain⟨rfl,rfl,rfl,rfl,⟨⟨rfl,rfl,rfl,rfl,⟨⟨rfl,rfl,rfl,⟨⟨rfl,rfl,rfl,rfl,⟨⟨rfl,rfl,rfl,p4,p6⟩,rfl⟩⟩,q0,q1,q2⟩⟩,rfl⟩⟩,rfl⟩⟩:=hc;clear p4 p6 q0 q1 q2;have B:=hC.bH (vs:=[.str af]) (mm:=none) bT;have g:∀ (e:Int) (t:List (Nat×V)) (K2:RK) (H2:aU),e≠0->Cx K H qT K2 H2->ua af bs->Ex K H qT (zX af bs) (.aZ [.nilPtr,.i64 e]) ⟨t,H2⟩:=fun e t K2 H2 he hC hl=>Ex.of (s:=⟨t,H2⟩) hC bT (.inl ⟨hl,e,he,rfl⟩)
 refine ce ?_;refine d8 @ja ?_
 by_cases hs:af.length=32
 rotate_left
 .have y:¬ (af.length:Int)=32:=I;refine pL y ?_
  exact g _ _ _ _ ag B (.inl hs)
 have y:(af.length:Int)=32:=I;rcases hb with⟨rfl,rfl⟩|⟨bb,rfl,m5⟩
 .refine pL y ?_
  exact g _ _ _ _ ag B (.inr (.inl ag))
 by_cases a7:(bs.length:Int)<2
 .refine Gh y a7 ?_
  exact g _ _ _ _ ag B (.inr (.inl I))
 by_cases h8:3<(bs.length:Int)
 .refine WT y a7 h8 ?_
  exact g _ _ _ _ ag B (.inr (.inr (.inl I)))
 refine WT y a7 h8 ?_
 have h9:bs.length=2\/bs.length=3:=I;have j1:=b8 m5;have o1:=B.bH (vs:=[.bG,.bG]) (mm:=none) bT;have O:K H.length=none:=M _;have P:K (H.length+1)=none:=M _;have j3:ah (H++[bK [.str af]]++[bK [.bG,.bG]]) H.length=bK [.str af]:=Dy;have j4:ah (H++[bK [.str af]]++[bK [.bG,.bG]]) (H.length+1)=bK [.bG,.bG]:=KO;refine cG (fun j st=>∃ (i:Nat) (w:aU) (z:RK) (xs:List Nat) (T:List cR) (nv:V),i+j=bs.length/\xs.length=i/\T.length=i/\Cx K H qT z w/\ah w H.length=bK [.str af]/\z H.length=none/\ah w (H.length+1)=bK [nv,.bG]/\z (H.length+1)=none/\nS H.length H.length (H.length+1) z w nv xs/\(∀ i' (h1:i'<xs.length) (h2:i'<T.length),l8 z w i' xs[i'] T[i'] (Ax af i' (bs.getD i' 0) (ig af i' bs.length)) [])/\qp af bs.length T/\(∀ i',i'<i->¬ GG af bs i')/\
  st=⟨[(0,.slice bb 0 bs.length 1),(6,.fn 24 [] [.ptr H.length 0]),(7,.ptr (H.length+1) 0),(32,.slice bb 0 bs.length 1),(33,.i64 bs.length),(34,.i64 i)],w⟩) ?_ ?_
 .exact dh bs.length ⟨[(0,.slice bb 0 bs.length 1),(6,.fn 24 [] [.ptr H.length 0]),(7,.ptr (H.length+1) 0),(32,.slice bb 0 bs.length 1),(33,.i64 bs.length),(34,.i64 (0:Nat))],_⟩ gJ rfl (fun _ _ h=>h) ⟨0,_,K,[],[],.bG,I,rfl,rfl,o1,j3,O,j4,P,.inl ⟨rfl,rfl⟩,fun i' h=>by simp at h,fun i' h=>by simp at h,fun i' h=>by omega,rfl⟩
 rintro j st ⟨i,w,z,xs,T,nv,q5,c1,c2,hC,p1,O,S,P,m6,q,m7,m8,rfl⟩-;by_cases hi:i<bs.length
 rotate_left
 .have a8:¬ (i:Int)<(bs.length:Int):=I;refine pL a8 ?_
  have q4:i=bs.length:=I;rcases m6 with⟨rfl,-⟩|⟨na,rfl,q6,m9,n1,q3,n3,a6⟩
  .exact absurd c1 cp
  have o2:=hC.role (b:=na) m9 (b8 a6) .nodes;have o3:=o2.role (b:=H.length+1) I (b8 S) .link;have o4:cD (fun _=>False) z w (gm (gm z na (some .nodes)) (H.length+1) (some .link)) w:=
   ⟨fun b r e _=>by rw[iS (fun e2=>by rw[e2,P] at e;cases e),iS (fun e2=>by rw[e2,n3] at e;cases e)];exact e,fun _ _ _ _=>rfl⟩
  refine Ex.of o3 (by simp[lows,V.low];exact b8 S) (.inr ⟨?_,⟨H.length+1,na,xs,T⟩,rfl,by show xs.length=_;omega,⟨lS,?_,⟨.bG,S,.inl ⟨rfl,rfl⟩⟩,a6,by show T.length=xs.length;omega,?_,?_,fun j' g1 g2 g3 g4=>?_⟩,m7⟩)
  .rintro(h|h|h|⟨i',h,hb⟩)
   .exact h hs
   .omega
   .omega
   .exact m8 i' I hb
  .rw[iS n1];exact lS
  .show((List.range bs.length).map _).length=xs.length;rw[cq,CO];omega
  .show(List.replicate bs.length _).length=xs.length;rw[kV];omega
  .have b4:=(q j' g1 g2).off o4 (bz _) id id vd;rw[GX,aeG];exact b4
 have a8:(i:Int)<(bs.length:Int):=I;have o5:(0:Int)<=(i:Int):=I;have w1:=iq (i:=i) I;have k3:=(hC.mQ (M bb) j1).trans m5;have b5:(bs.map V.i64).getD i V.bH=V.i64 (bs.getD i 0):=by rw[ll V.i64 0,aM hi]
 refine qb5 a8 k3 b5 hi o5 ?_
 have k4:xs.length<4:=I;refine cG (fun j2 st=>∃ (k:Nat) (A:aU) (Kj:RK) (pv:V),k+j2=bs.length/\Cx K H qT Kj A/\cD (fun _=>False) z w Kj A/\w.length<=A.length/\(∀ b,z b=none->Kj b=none)/\ah A H.length=bK [.str af]/\ah A (H.length+1)=bK [nv,.bG]/\nS H.length H.length (H.length+1) Kj A nv xs/\oX H.length Kj A pv (ig af i k)/\
  st=⟨[(0,.slice bb 0 bs.length 1),(6,.fn 24 [] [.ptr H.length 0]),(7,.ptr (H.length+1) 0),(8,.i64 i),(9,.i64 (bs.getD i 0)),(10,pv),(32,.slice bb 0 bs.length 1),(33,.i64 bs.length),(34,.i64 i),(40,.i64 bs.length),(41,.i64 k)],A⟩) ?_ ?_
 .exact dh bs.length ⟨[(0,.slice bb 0 bs.length 1),(6,.fn 24 [] [.ptr H.length 0]),(7,.ptr (H.length+1) 0),(8,.i64 i),(9,.i64 (bs.getD i 0)),(10,.bG),(32,.slice bb 0 bs.length 1),(33,.i64 bs.length),(34,.i64 i),(40,.i64 bs.length),(41,.i64 (0:Nat))],w⟩ gJ rfl (fun _ _ h=>h) ⟨0,w,z,.bG,I,hC,⟨fun _ _ e _=>e,fun _ _ _ _=>rfl⟩,bz _,fun _ e=>e,p1,S,m6,.inl ⟨rfl,rfl⟩,rfl⟩
 rintro j2 st ⟨k,A,Kj,pv,q7,c3,E,n4,l,u,F,G,c4,rfl⟩-;by_cases hk:k<bs.length
 rotate_left
 .have R:¬ (k:Int)<(bs.length:Int):=I;obtain rfl:k=bs.length:=I;refine pL R ?_
  have b6:(ig af i bs.length).length=bs.length-1:=by rw[xG,aq I]
  refine n6 M c3 hs u (l _ O) c4 I I (fun p hp=>by obtain⟨k',h1,rfl⟩:=IM hp;exact ZB hs I) (ahX af h9 hi) F (l _ P) I I G (i:=i) I (bs.getD i 0) I aky aky aky aky aky h7 (fun t' K' H' e C he l0 e4 e5=>yC ?_) (fun t' o6 K' H' x c C l4 l5 l6 l7 m0 b4 m1 m2 o7 o8 m3 m4 f=>yC ?_)
  .simp only[go_sem,e4,e5];exact g _ _ _ _ he C (.inr (.inr (.inr ⟨i,hi,l0⟩)))
  .have f0:=f 0 ag ag ag;have f6:=f 6 ag ag ag;have f7:=f 7 ag ag ag;have f32:=f 32 ag ag ag;have f33:=f 33 ag ag ag;have f34:=f 34 ag ag ag;simp only[go_sem,seval] at f0 f6 f7 f32 f33 f34;refine aL f34 ?_;refine cH (j-1) ⟨[(0,.slice bb 0 bs.length 1),(6,.fn 24 [] [.ptr H.length 0]),(7,.ptr (H.length+1) 0),(32,.slice bb 0 bs.length 1),(33,.i64 bs.length),(34,.i64 (i+1:Nat))],H'⟩ I (by simp[St.get,lookS,f0,f6,f7,f32,f33,w1]) rfl (fun _ _ h=>h) ⟨i+1,H',K',xs++[x],T++[c],o6,I,by simp[c1],by simp[c2],C,l4,l5,l6,l7,m0,fun i' h1 h2=>?_,fun i' h=>?_,fun i' h=>?_,rfl⟩
   .by_cases c0:i'<i
    .rw[Bg I,Bg I];exact((q i' I I).off E n4 id id vd).off m3 m4 (by simp[qD]) (by simp[qD]) (SB I)
    .rw[bA,vY] at h1 h2;obtain rfl:i'=i:=I;rw[AY I,AY I];simp only[c1,c2,k8,GZ];exact b4
   .by_cases c0:i'<i
    .rw[Bg I];exact m7 i' I
    .rw[bA,vY] at h;obtain rfl:i'=i:=I;rw[AY I];simp only[c2,k8,GZ];rw[b6] at m1 m2;exact⟨m1,m2⟩
   .by_cases c0:i'<i
    .exact m8 i' c0
    .obtain rfl:i'=i:=I;rintro(h1|h1)
     .exact h1 o7
     .exact o8 h1
 have R:(k:Int)<(bs.length:Int):=I;have w2:=iq (i:=k) I;by_cases k5:k=i
 .obtain rfl:=k5;refine pL R ?_
  refine cH (j2-1) ⟨[(0,.slice bb 0 bs.length 1),(6,.fn 24 [] [.ptr H.length 0]),(7,.ptr (H.length+1) 0),(8,.i64 k),(9,.i64 (bs.getD k 0)),(10,pv),(32,.slice bb 0 bs.length 1),(33,.i64 bs.length),(34,.i64 k),(40,.i64 bs.length),(41,.i64 (k+1:Nat))],A⟩ I (by simp[St.get,lookS,w2]) rfl (fun _ _ h=>h) ⟨k+1,A,Kj,pv,I,c3,E,n4,l,u,F,G,?_,rfl⟩;have e:ig af k (k+1)=ig af k k:=aM rfl;rw[e];exact c4
 have k6:¬ (k:Int)=(i:Int):=I;refine Gh R k6 ?_
 have b6:(ig af i k).length<=8:=by rw[xG];split <;>omega
 refine n5 c3 hs u (l _ O) c4 b6 (i:=i) (k:=k) I I aky aky aky aky h7 fun t' v' K' H' C X m4 Y o9 o p0 f=>yC ?_
 have f0:=f 0 ag ag ag ag;have f6:=f 6 ag ag ag ag;have f7:=f 7 ag ag ag ag;have f8:=f 8 ag ag ag ag;have f9:=f 9 ag ag ag ag;have f32:=f 32 ag ag ag ag;have f33:=f 33 ag ag ag ag;have f34:=f 34 ag ag ag ag;have f40:=f 40 ag ag ag ag;have f41:=f 41 ag ag ag ag;simp only[go_sem,seval] at f0 f6 f7 f8 f9 f32 f33 f34 f40 f41;refine aL f41 ?_;refine cH (j2-1) ⟨[(0,.slice bb 0 bs.length 1),(6,.fn 24 [] [.ptr H.length 0]),(7,.ptr (H.length+1) 0),(8,.i64 i),(9,.i64 (bs.getD i 0)),(10,v'),(32,.slice bb 0 bs.length 1),(33,.i64 bs.length),(34,.i64 i),(40,.i64 bs.length),(41,.i64 (k+1:Nat))],H'⟩ I (by simp[St.get,lookS,f0,f6,f7,f8,f9,f32,f33,f34,f40,p0,w2]) rfl (fun _ _ h=>h) ⟨k+1,H',K',v',I,C,E.trans ⟨fun b r e _=>(X b r e).1,fun b r e _=>(X b r e).2⟩,I,fun b e=>Y b (l b e),o _ _ u (by show 1<4;omega),o _ _ F (by show 2<4;omega),?_,?_,rfl⟩
 .rcases G with h|⟨na,e,h0,h1,h2,h3,h4,h5⟩
  .exact .inl h
  .exact .inr ⟨na,e,h0,h1,h2,h3,Y _ h4,o _ _ h5 (by show(xs.map _).length<4;rw[cq];exact k4)⟩
 .have e:ig af i (k+1)=ig af i k++[oL af i k]:=aq k5;rw[e];exact o9
theorem M0 (f:Cx K0 H0 Q K H)(e:∀ b,K b=none)(af:Z){bv:V}{bs:List Int}{ro:Bool}(g:(bs=[]/\bv= .bG)\/∃ bb,bv= .slice bb 0 bs.length 1/\ah H bb=some ⟨ro,bs.map V.i64,none⟩):
  ∃ v K' H',Dx prog 16 [bv,.str af] K H qT v K' H'/\zX af bs v K' H':=
 xQ U func16 rfl db (aen (f.start _) e af g rfl)
end
end
end Go.Vm
end
section
namespace Go.Vm
open Go.Proofs
section
structure bO where
 n:Nat
 ac:Nat->Int
 own:Nat->Z
 aR:Nat->Nat->Z
structure bO.ok (C:bO):Prop where
 n:C.n=2\/C.n=3
 ac:∀ j,j<C.n->C.ac j=1\/C.ac j=2
 own:∀ j,(C.own j).length=32
 aR:∀ j k,(C.aR j k).length=32/\C.aR j k=C.aR k j
 Hv:∀ j k,j<C.n->k<C.n->bI (C.own j)=bI (C.own k)->j=k
def bN (j i:Nat):Nat:=if j<=i then i+1 else i
abbrev Log:=Nat->Nat->Option (Option bL×Nat)
def Log.le (l l':Log):Prop:=∀ s a x,l s a=some x->l' s a=some x
structure Log.ok (C:bO) (l:Log):Prop where
 here:∀ s id f t,l s id=some (some f,t)->s<C.n/\t<C.n/\s≠t/\f.ok/\f.q=C.own t/\f.own=C.own s/\f.id.toNat=id/\f.ac=C.ac s/\f.su<=C.ac s/\f.su<=C.ac t
inductive jm (C:bO) (l:Log) (s t:Nat):Z->Prop
 |first(f:bL) (m:Z):l s f.id.toNat=some (some f,t)->m.length=16->jm C l s t (bW.first f (bI (C.own t)) m).text
 |second (g:cm) (m:Z):l t g.f.id.toNat=some (some g.f,s)->l s g.cg.toNat=some (none,t)->g.aR=C.aR s t->g.e.length=32->g.ac=C.ac s->m.length=16->jm C l s t (bW.second g (bI (C.own t)) m).text
 |gI (f:bL) (nonce ck:Z):l t f.id.toNat=some (some f,s)->nonce.length=24->ck.length=16->jm C l s t (bW.gI (bI (C.own s)) nonce ck f.text (cY (bI (C.own s)) f.text) f.id).text
 |data (id:aQ) (x:Option bL) (k:Int) (z:Z):l t id.toNat=some (x,s)->0<=k->k<=1099511627776->16<=z.length->z.length<=1000000->jm C l s t (bW.data id k z).text
def qK (C:bO)(l:Log)(g:Gr):Prop:=∃ s t,s<C.n/\t<C.n/\s≠t/\g.1=BitVec.ofNat 32 (s+1)/\g.2.1=BitVec.ofNat 32 (t+1)/\jm C l s t g.2.2
def pW:Option aX->Int
 |none=>0
 |some S=>S.su
def SG (l:Log)(j t:Nat)(S:aX):Prop:=(∃ x,l j S.eF.toNat=some (x,t))/\∃ x,l t S.dX.toNat=some (x,j)
structure PG (C:bO) (l:Log) (j i:Nat) (P:aj):Prop where
 ok:P.ok
 num:P.num=i
 q:P.q=C.own (bN j i)
 aR:P.aR=C.aR j (bN j i)
 at_:P.at_=BitVec.ofNat 32 (bN j i+1)
 kn:P.kn=1\/P.kn=C.ac (bN j i)
 bg:∀ f,P.bg=some f->P.bi=f.id/\l j f.id.toNat=some (some f,bN j i)/\∃ m:Z,m.length=16/\P.bt=f.text++cY P.aP f.text++m
 se:∀ S,P.se=some S->S.su<=P.bP/\S.su<=C.ac j/\S.su<=C.ac (bN j i)
 ne:∀ S,P.ne=some S->P.bP<=S.su/\S.su<=C.ac j/\S.su<=C.ac (bN j i)
 eC:∀ S,P.ol=some S\/P.se=some S\/P.ne=some S->SG l j (bN j i) S
structure DG (C:bO) (l:Log) (j:Nat) (D:au) (c:Nat):Prop where
 ok:D.ok c
 here:D.here=BitVec.ofNat 32 (j+1)
 own:D.own=C.own j
 ac:D.ac=C.ac j
 ix:D.index.toNat<=c
 new:∀ id,D.index.toNat<id->l j id=none
 out:∀ g∈D.out,qK C l g
structure Ext (j:Nat) (l l':Log):Prop where
 le:Log.le l l'
 other:∀ s,s≠j->l' s=l s
section
variable {C:bO}{l l' l2:Log}{j i s t c n:Nat}{D D':au}{P P':aj}{x aY:Z}{g:Gr}{f:bL}
theorem Ext.refl (l:Log):Ext j l l:=⟨fun _ _ _ e=>e,fun _ _=>rfl⟩
theorem Ext.trans (h:Ext j l l')(h2:Ext j l' l2):Ext j l l2:=⟨fun _ _ _ e=>h2.le _ _ _ (h.le _ _ _ e),fun s e=>(h2.other s e).trans (h.other s e)⟩
theorem jm.mono (h:jm C l s t aY)(a:Log.le l l'):jm C l' s t aY:=by
 cases h with
 |first f m o p=>exact .first f m (a _ _ _ o) p
 |second g m o r p b d e=>exact .second g m (a _ _ _ o) (a _ _ _ r) p b d e
 |gI f q u o p b=>exact .gI f q u (a _ _ _ o) p b
 |data v x k z r o p b d=>exact .data v x k z (a _ _ _ r) o p b d
theorem qK.mono (h:qK C l g)(a:Log.le l l'):qK C l' g:=by
 obtain⟨s,t,m,o,b,d,e,k⟩:=h;exact⟨s,t,m,o,b,d,e,k.mono a⟩
theorem SG.mono {S:aX}(h:SG l s t S)(a:Log.le l l'):SG l' s t S:=by
 obtain⟨⟨x,b⟩,y,d⟩:=h;exact⟨⟨x,a _ _ _ b⟩,y,a _ _ _ d⟩
theorem PG.mono (h:PG C l j i P)(a:Log.le l l'):PG C l' j i P:=
 ⟨h.ok,h.num,h.q,h.aR,h.at_,h.kn,fun f e=>by obtain⟨d,k,b⟩:=h.bg f e;exact⟨d,a _ _ _ k,b⟩,h.se,h.ne,fun S e=>(h.eC S e).mono a⟩
theorem PG.aP (h:PG C l j i P):P.aP=bI (C.own (bN j i)):=by rw[h.ok.aP,h.q]
theorem DG.up (h:DG C l j D c)(a:c<=n):DG C l j D n:=⟨h.ok.up a,h.here,h.own,h.ac,j7 h.ix a,h.new,h.out⟩
theorem DG.goes (h:DG C l j D c)(a:(D.goes (BitVec.ofNat 32 (t+1)) aY).ok n)(d:c<=n)(e:j<C.n)(ht:t<C.n)(b:j≠t)(k:jm C l j t aY):DG C l j (D.goes (BitVec.ofNat 32 (t+1)) aY) n:=by
 refine⟨a,?_,?_,?_,?_,?_,?_⟩;all_goals unfold au.goes;split
 all_goals first|exact h.here|exact h.own|exact h.ac|exact j7 h.ix d|exact h.new|exact h.out|skip
 intro g hg;rcases gZ.1 hg with hg|hg
 .exact h.out g hg
 .rw[oQ] at hg;subst hg;exact⟨j,t,e,ht,b,h.here,rfl,k⟩
theorem pU:j≠bN j i:=by unfold bN;split <;>omega
theorem qj (hi:i<n-1)(a:j<n):bN j i<n:=by unfold bN;split <;>omega
theorem AJ {i a:Nat}(h:bN j i=bN j a):i=a:=by unfold bN at h;split at h<;>split at h<;>omega
structure cW (C:bO) (l:Log) (j i:Nat) (D:au) (P:aj) (s:au×aj) (c k:Nat):Prop where
 ex:∃ l',Ext j l l'/\Log.ok C l'/\DG C l' j s.1 (c+k)/\PG C l' j i s.2
 su:pW P.se<=pW s.2.se
 now:s.1.now=D.now
theorem cW.refl (a:Log.ok C l)(b:DG C l j D c)(d:PG C l j i P):cW C l j i D P (D,P) c 0:=⟨⟨l,.refl l,a,b,d⟩,dY _,rfl⟩
theorem cW.same (a:Log.ok C l)(b:DG C l j D' (c+n))(d:PG C l j i P')(e:pW P.se<=pW P'.se)(h:D'.now=D.now):cW C l j i D P (D',P') c n:=⟨⟨l,.refl l,a,b,d⟩,e,h⟩
theorem Gb (v:j<C.n)(hi:i<C.n-1)(o:Log.ok C l)(k:DG C l j D c)(a:PG C l j i P)(w:x.length<=2000):cW C l j i D P (eW D P x) c 1:=by
 obtain⟨p,m⟩:=Cy a.ok k.ok x;cases d:P.se with
 |none=>
  have e:eW D P x=(D,P):=by unfold eW;rw[d]
  rw[e];exact .same o (k.up (rI c)) a (dY _) rfl
 |some S=>
  by_cases A:S.over D.now=true
  .have e:eW D P x=(D,P):=by unfold eW;rw[d];exact aM A
   rw[e];exact .same o (k.up (rI c)) a (dY _) rfl
  .have e:eW D P x=(D.goes P.at_ (eI S.dX S.se (jz S.su S.sd S.se x)),{P with se:=some {S with se:=S.se+1},tm:=if({S with se:=S.se+1}:aX).pT D.now=true then(P.tm.ev 1 D.now).ev 3 D.now else P.tm.ev 1 D.now}):=by unfold eW;rw[d];exact aq A
   rw[e] at p m |-
   have h:=a.ok.se S d;have B:=yQ (s:=S.su) (n:=S.se) h.sd w;obtain⟨-,r,u⟩:=a.eC S (.inr (.inl d));have E:jm C l j (bN j i) (eI S.dX S.se (jz S.su S.sd S.se x)):= .data S.dX r S.se _ u h.se.1 (by have :=h.se.2;omega) I I;dsimp only at p m;have y:DG C l j (D.goes P.at_ (eI S.dX S.se (jz S.su S.sd S.se x))) (c+1):=by
    rw[a.at_] at m |-
    exact k.goes m (rI c) v (qj hi v) pU E
   refine .same o y ⟨p,a.num,a.q,a.aR,a.at_,a.kn,a.bg,fun z b=>?_,a.ne,fun z b=>?_⟩ ?_ (by unfold au.goes;split <;>rfl)
   .cases b;exact a.se S d
   .rcases b with b|b|b
    .exact a.eC z (.inl b)
    .cases b;exact a.eC S (.inr (.inl d))
    .exact a.eC z (.inr (.inr b))
   .rw[d];exact dY _
end
end
section
section
variable {C:bO}{l l' l2:Log}{j i s t c n k k2:Nat}{D D':au}{P P':aj}{x aY:Z}{g:Gr}{f:bL}{s1 s2:au×aj}
theorem cW.thn (h:cW C l j i D P s1 c k)(h2:∀ l',Ext j l l'->Log.ok C l'->DG C l' j s1.1 (c+k)->PG C l' j i s1.2->cW C l' j i s1.1 s1.2 s2 (c+k) k2):cW C l j i D P s2 c (k+k2):=by
 obtain⟨l',a,b,d,e⟩:=h.ex;have g:=h2 l' a b d e;obtain⟨l2,f1,f2,f3,f4⟩:=g.ex;exact⟨⟨l2,a.trans f1,f2,by rw[<-qe];exact f3,f4⟩,nG h.su g.su,g.now.trans h.now⟩
theorem cW.up (h:cW C l j i D P s1 c k)(m:k<=k2):cW C l j i D P s1 c k2:=by
 obtain⟨l',a,b,d,e⟩:=h.ex;exact⟨⟨l',a,b,d.up I,e⟩,h.su,h.now⟩
theorem cW.of (h:cW C l j i D P' s1 c k)(b:pW P.se<=pW P'.se):cW C l j i D P s1 c k:=⟨h.ex,nG b h.su,h.now⟩
theorem PE (e:j<C.n)(hi:i<C.n-1):∀ (u:List Z) {l:Log} {D:au} {P:aj} {c:Nat},(∀ x∈u,x.length<=2000)->Log.ok C l->DG C l j D c->PG C l j i P->cW C l j i D P (mj (D,P) u) c u.length
 |[],_,_,_,_,_,a,b,d=> .refl a b d
 |x::u,l,D,P,c,v,a,b,d=>by
  have h:=(Gb e hi a b d (v x J)).thn (k2:=u.length) (s2:=mj (eW D P x) u) fun l' r m o p=>PE e hi u (fun y q=>v y (by simp[q])) m o p
  show cW C l j i D P (mj (eW D P x) u) c (u.length+1);rw[CF];exact h
theorem HN (e:j<C.n)(hi:i<C.n-1)(m:Log.ok C l)(o:DG C l j D c)(b:PG C l j i P):cW C l j i D P (mf D P) c 4:=by
 have a:=b.ok;have d:PG C l j i {P with waits:=[]}:=⟨⟨a.q,a.aP,a.aR,a.kn,a.bP,a.ck,a.un,lI _,(fun x h=>nomatch h),a.bg,a.bt,a.ol,a.se,a.ne,a.tm⟩,b.num,b.q,b.aR,b.at_,b.kn,b.bg,b.se,b.ne,b.eC⟩;exact((PE e hi P.waits a.ws m o d).up a.wl).of (dY _)
theorem aaE (a:C.ok)(b:j<C.n)(hi:i<C.n-1)(d:DG C l j D c)(e:PG C l j i P):(fg D P).su<=C.ac j/\(fg D P).su<=C.ac (bN j i):=by
 have p:=a.ac j b;have m:=a.ac _ (qj hi b);have o:=e.kn;have h:=d.ac;show(if P.kn<D.ac then P.kn else D.ac)<=_/\(if P.kn<D.ac then P.kn else D.ac)<=_;rw[h];split <;>omega
theorem agU (L:C.ok)(z:j<C.n)(hi:i<C.n-1)(M:Log.ok C l)(b:DG C l j D c)(o:PG C l j i P)(ht:P.tm.t<=5)(hc:c<=4000000000):cW C l j i D P (iR D P) c 2:=by
 obtain⟨B,A⟩:=MV o.ok b.ok ht;have R:=Cm o.ok b.ok;obtain⟨E,F⟩:=aaE L z hi b o;have N:=b.ix;have v:(D.index+1#32).toNat=D.index.toNat+1:=by
  rw[jL];show(D.index.toNat+1)%4294967296=_;omega
 have p:(fg D P).id=D.index+1#32:=rfl;have w:=qj hi z;have y:=pU (j:=j) (i:=i)
 let l':Log:=fun s id=>if s=j/\id=D.index.toNat+1 then some (some (fg D P),bN j i) else l s id
 have r:l' j (fg D P).id.toNat=some (some (fg D P),bN j i):=by
  show(if _ then _ else _)=_;rw[aM ⟨rfl,by rw[p,v]⟩]
 have G:Ext j l l':=by
  refine⟨fun s id x e=>?_,fun s O=>funext fun id=>aq fun h=>O h.1⟩;show(if _ then _ else _)=_;rw[aq fun h=>by obtain⟨rfl,rfl⟩:=h;rw[b.new _ I] at e;cases e];exact e
 have H:Log.ok C l':=by
  refine⟨fun s id f t e=>?_⟩;have e:(if s=j/\id=D.index.toNat+1 then some (some (fg D P),bN j i) else l s id)=some (some f,t):=e;by_cases h:s=j/\id=D.index.toNat+1
  .rw[aM h] at e;cases e;obtain⟨rfl,rfl⟩:=h;exact⟨z,w,y,R,o.q,b.own,by rw[p,v],b.ac,E,F⟩
  .rw[aq h] at e;exact M.here s id f t e
 have a:=o.mono G.le;have d:(if(if P.un<D.now then[] else P.ck)=[] then List.replicate 16 0#8 else jV (if P.un<D.now then[] else P.ck) ((fg D P).text++cY P.aP (fg D P).text) 16).length=16:=by
  have h:=aj.Ef o.ok (now:=D.now) (x:=(fg D P).text) (by rw[bL.w9 R];decide);unfold aj.gU s9 at h;have S:=Ap P.aP (fg D P).text (by rw[o.ok.aP,fa];decide) (by rw[bL.w9 R];decide);rw[bA,bA,S] at h;omega
 have u:P.gU D.now (fg D P).text=(fg D P).text++cY P.aP (fg D P).text++(if(if P.un<D.now then[] else P.ck)=[] then List.replicate 16 0#8 else jV (if P.un<D.now then[] else P.ck) ((fg D P).text++cY P.aP (fg D P).text) 16):=rfl;generalize (if(if P.un<D.now then[] else P.ck)=[] then List.replicate 16 0#8 else jV (if P.un<D.now then[] else P.ck) ((fg D P).text++cY P.aP (fg D P).text) 16)=m at d u;have T:jm C l' j (bN j i) (P.gU D.now (fg D P).text):=by
  rw[u,o.aP];exact .first _ m r d
 unfold iR at B A |-
 dsimp only at B A;refine⟨⟨l',G,H,?_,⟨B,a.num,a.q,a.aR,a.at_,a.kn,fun f e=>?_,a.se,a.ne,a.eC⟩⟩,dY _,by show(au.goes _ _ _).now=_;unfold au.goes;split <;>rfl⟩
 .have K:DG C l' j {D with fresh:=D.fresh+1#64,index:=D.index+1#32,ct:=D.ct+1} (c+1):=by
   have Q:=b.ok;refine⟨⟨Q.own,Q.aP,Q.af,Q.ac,Q.cz,Q.now,⟨by have :=Q.ct.1;show 0<=D.ct+1;omega,by have :=Q.ct.2;show D.ct+1<=((c+1:Nat):Int);omega⟩,xt Q.out,xt Q.aT⟩,b.here,b.own,b.ac,by show(D.index+1#32).toNat<=_;omega,fun id h=>?_,fun g V=>(b.out g V).mono G.le⟩;have h:(D.index+1#32).toNat<id:=h;show(if _ then _ else _)=_;rw[aq I];exact b.new id I
  rw[o.at_] at A |-
  exact K.goes A I z w y T
 .cases e;exact⟨rfl,r,m,d,u⟩
theorem Yx (r:C.ok)(p:j<C.n)(hi:i<C.n-1)(m:Log.ok C l)(d:DG C l j D c)(a:PG C l j i P)(hc:c<=4000000000):cW C l j i D P (cT D P) c 2:=by
 obtain⟨b,h⟩:=OU a.ok d.ok;unfold cT at b h |-
 by_cases v:P.tm.nx D.now=1
 .rw[aM v] at b h |-
  by_cases u:P.at_=0#32
  .rw[aM u];exact(cW.refl m d a).up ag
  .rw[aq u];exact agU r p hi m d a (NF P.tm a.ok.tm D.now v) hc
 rw[aq v] at b h |-
 by_cases u:P.tm.nx D.now=2
 .rw[aM u] at b h |-
  by_cases o:P.my D.now=true
  .rw[aM o];exact(Gb p hi m d a ag).up ag
  .rw[aq o] at b h |-
   exact .same m (d.up (ut _ _)) ⟨b,a.num,a.q,a.aR,a.at_,a.kn,a.bg,a.se,a.ne,a.eC⟩ (dY _) rfl
 rw[aq u] at b h |-
 by_cases o:P.tm.nx D.now=3
 .rw[aM o] at b h |-
  exact .same m (d.up (ut _ _)) ⟨b,a.num,a.q,a.aR,a.at_,a.kn,(fun f e=>nomatch e),a.se,a.ne,a.eC⟩ (dY _) rfl
 .rw[aq o];exact(cW.refl m d a).up ag
end
end
section
structure NG (C:bO) (l:Log) (j:Nat) (N:bf) (c:Nat):Prop where
 D:DG C l j N.D c
 P:∀ i (h:i<N.Ps.length),PG C l j i N.Ps[i]
 len:N.Ps.length=C.n-1
 B:N.B.ok
def BR (N:bf)(i:Nat):Int:=pW ((N.Ps[i]?).bind aj.se)
structure fG (C:bO) (l:Log) (j:Nat) (N N':bf) (c k:Nat):Prop where
 ex:∃ l',Ext j l l'/\Log.ok C l'/\NG C l' j N' (c+k)
 su:∀ i,BR N i<=BR N' i
 now:N'.D.now=N.D.now
section
variable {C:bO}{l l' l2:Log}{j i s t c n k k2:Nat}{D D':au}{P P':aj}{N N':bf}{x aY:Z}{g:cm}{f:bL}{s1 s2:au×aj}{B:eN}
theorem NG.ok (h:NG C l j N c):N.ok c:=⟨h.D.ok,fun P a=>by obtain⟨i,b,rfl⟩:=lr a;exact(h.P i b).ok,h.B,fun i b=>(h.P i b).num⟩
theorem NG.up (h:NG C l j N c)(a:c<=n):NG C l j N n:=⟨h.D.up a,h.P,h.len,h.B⟩
theorem NG.pos (a:C.ok)(h:NG C l j N c):0<N.Ps.length/\N.Ps.length<=8:=by
 have :=h.len;have :=a.n;omega
theorem fG.refl (a:Log.ok C l)(h:NG C l j N c):fG C l j N N c 0:=⟨⟨l,.refl l,a,h⟩,fun _=>dY _,rfl⟩
theorem fG.up (h:fG C l j N N' c k)(e:k<=k2):fG C l j N N' c k2:=by
 obtain⟨l',a,b,d⟩:=h.ex;exact⟨⟨l',a,b,d.up I⟩,h.su,h.now⟩
theorem fG.peer (o:NG C l j N c)(hi:N.Ps[i]?=some P)(q:B.ok)(h:cW C l j i N.D P s1 c k):fG C l j N {N with B:=B,D:=s1.1,Ps:=N.Ps.set i s1.2} c k:=by
 obtain⟨d,w⟩:=cA.1 hi;obtain⟨l',p,r,u,v⟩:=h.ex;refine⟨⟨l',p,r,u,fun a b=>?_,by show(N.Ps.set i s1.2).length=_;rw[b7];exact o.len,q⟩,fun a=>?_,h.now⟩
 .have m:a<N.Ps.length:=by rw[b7] at b;exact b
  show PG C l' j a (N.Ps.set i s1.2)[a];by_cases e:a=i
  .subst e;rw[uO];exact v
  .rw[vS (fun h=>e h.symm)];exact(o.P a m).mono p.le
 .unfold BR;show _<=pW (((N.Ps.set i s1.2)[a]?).bind aj.se);by_cases e:a=i
  .subst e;rw[kF d,hi];exact h.su
  .rw[mV (fun h=>e h.symm)];exact dY _
theorem Fg (o:NG C l j N c){id:aQ}{f:bL}{t:Nat}(a:l j id.toNat=some (some f,t))(h1:N.Ps.findIdx? (iO id)=some i)(h2:N.Ps[i]?=some P):P.bg=some f/\bN j i=t/\P.bi=id/\PG C l j i P:=by
 obtain⟨v,e,-⟩:=ub.1 h1;obtain⟨p,b⟩:=cA.1 h2;rw[b] at e;have h:=o.P i v;rw[b] at h;unfold iO at e;simp only[lY,AG] at e;obtain⟨q,m⟩:=e;obtain⟨r,d⟩:=wn.1 q;obtain⟨w,u,-⟩:=h.bg r d;rw[<-w,m,a] at u;cases u;exact⟨d,rfl,m,h⟩
theorem XU (d:Log.ok C l)(b:NG C l j N c){id:aQ}(ck:Z)(e:ck.length=16):fG C l j N (oK N id ck).2 c 0:=by
 unfold oK;cases h1:N.Ps.findIdx? (iO id) with
 |none=>exact .refl d b
 |some i=>
  dsimp only;cases h2:N.Ps[i]? with
  |none=>exact .refl d b
  |some P=>
   dsimp only;obtain⟨h,m⟩:=cA.1 h2;have a:=b.P _ h;rw[m] at a;have r:=a.ok;have o:=b.D.ok.now;have p:cW C l j i N.D P (N.D,{P with ck:=ck,un:=N.D.now+120}) c 0:= .same d b.D ⟨⟨r.q,r.aP,r.aR,r.kn,r.bP,.inr e,by show 0<=N.D.now+120/\N.D.now+120<=2099511627776;omega,r.wl,r.ws,r.bg,r.bt,r.ol,r.se,r.ne,r.tm⟩,a.num,a.q,a.aR,a.at_,a.kn,a.bg,a.se,a.ne,a.eC⟩ (dY _) rfl;exact fG.peer b h2 b.B p
theorem NY (a:PG C l j i P){m:Int}(h0:0<=m)(h:P.bP<=m):pW P.se<=m:=by
 cases b:P.se with
 |none=>exact h0
 |some S=>exact nG (a.se S b).1 h
theorem agW (p:j<C.n)(b:Log.ok C l)(a:NG C l j N c){g:cm}{s:Nat}(h0:l j g.f.id.toNat=some (some g.f,s))(r:∃ x,l s g.cg.toNat=some (x,j))(T:g.ok)(u:g.ac=C.ac s):fG C l j N (mC N g (BitVec.ofNat 32 (s+1))).2 c 5:=by
 unfold mC;cases h1:N.Ps.findIdx? (iO g.f.id) with
 |none=>exact(fG.refl b a).up ag
 |some i=>
  dsimp only;cases h2:N.Ps[i]? with
  |none=>exact(fG.refl b a).up ag
  |some P=>
   dsimp only;by_cases E:g.f.su<P.bP
   .rw[aM E];exact(fG.refl b a).up ag
   rw[aq E];obtain⟨V,rfl,F,d⟩:=Fg a h0 h1 h2;obtain⟨v,G⟩:=cA.1 h2;have R:i<C.n-1:=by rw[<-a.len];exact v
   obtain⟨-,-,-,w,-,-,-,-,y,z⟩:=b.here _ _ _ _ h0;have H:=w.su;have A:=MD d.ok T (BitVec.ofNat 32 (bN j i+1)) a.D.ok.now;have K:SG l j (bN j i) (aX.fresh g.f.su P.bi g.cg (g.key 0) (g.key 1) N.D.now true):=⟨⟨_,by show l j P.bi.toNat=_;rw[F];exact h0⟩,r⟩;have h:PG C l j i (mK P g (BitVec.ofNat 32 (bN j i+1)) N.D.now):=by
    refine⟨A,d.num,d.q,d.aR,rfl,.inr u,(fun f e=>nomatch e),fun S e=>?_,(fun S e=>nomatch e),fun S e=>?_⟩
    .cases e;refine⟨?_,y,z⟩;show g.f.su<=(if P.bP<g.f.su then g.f.su else P.bP);split <;>omega
    .rcases e with e|e|e
     .exact d.eC S (.inr (.inl e))
     .cases e;exact K
     .cases e
   have o:cW C l j i N.D (mK P g (BitVec.ofNat 32 (bN j i+1)) N.D.now) (vg N.D (mK P g (BitVec.ofNat 32 (bN j i+1)) N.D.now)) c 5:=by
    unfold vg;split
    .exact(Gb p R b a.D h ag).thn (k2:=4) fun l' Q L M O=>HN p R L M O
    .exact(HN p R b a.D h).up ag
   exact fG.peer a h2 a.B (o.of (NY d (m:=g.f.su) I I))
end
end
section
section
variable {C:bO}{l l' l2:Log}{j i s t c n k k2 w:Nat}{D D':au}{P P':aj}{N N':bf}{x aY:Z}{g:cm}{f:bL}{s1 s2:au×aj}{B:eN}{S S':aX}{F:aQ->Int×Bool}
theorem aaM (S:aX)(k:Int)(z:Z)(now:Int):(S.open_ k z now).2.2.su=S.su/\(S.open_ k z now).2.2.eF=S.eF/\(S.open_ k z now).2.2.dX=S.dX:=by
 unfold aX.open_;split
 .exact⟨rfl,rfl,rfl⟩
 .split
  .split <;>exact⟨rfl,rfl,rfl⟩
  .exact⟨rfl,rfl,rfl⟩
theorem PG.gB (a:PG C l j i P)(u:P.slot w=some S)(o:S'.ok)(m:S'.su=S.su)(p:S'.eF=S.eF)(r:S'.dX=S.dX):PG C l j i (P.gB w S')/\pW (P.gB w S').se=pW P.se:=by
 have b:=O9 (w:=w) a.ok o;have d:SG l j (bN j i) S->SG l j (bN j i) S':=fun h=>by unfold SG at h |-;rw[p,r];exact h
 match w,u with
 |0,u=>
  have u:P.se=some S:=u;refine⟨⟨b,a.num,a.q,a.aR,a.at_,a.kn,a.bg,fun v e=>?_,a.ne,fun v e=>?_⟩,?_⟩
  .cases e;rw[m];exact a.se S u
  .rcases e with e|e|e
   .exact a.eC v (.inl e)
   .cases e;exact d (a.eC S (.inr (.inl u)))
   .exact a.eC v (.inr (.inr e))
  .rw[u];exact m
 |1,u=>
  have u:P.ol=some S:=u;refine⟨⟨b,a.num,a.q,a.aR,a.at_,a.kn,a.bg,a.se,a.ne,fun v e=>?_⟩,rfl⟩;rcases e with e|e|e
  .cases e;exact d (a.eC S (.inl u))
  .exact a.eC v (.inr (.inl e))
  .exact a.eC v (.inr (.inr e))
 |w+2,u=>
  have u:P.ne=some S:=u;refine⟨⟨b,a.num,a.q,a.aR,a.at_,a.kn,a.bg,a.se,fun v e=>?_,fun v e=>?_⟩,rfl⟩
  .cases e;rw[m];exact a.ne S u
  .rcases e with e|e|e
   .exact a.eC v (.inl e)
   .exact a.eC v (.inr (.inl e))
   .cases e;exact d (a.eC S (.inr (.inr u)))
theorem PG.tm (a:PG C l j i P){T:bw}(b:T.ok):PG C l j i {P with at_:=BitVec.ofNat 32 (bN j i+1),tm:=T}:=by
 have d:=a.ok;exact⟨⟨d.q,d.aP,d.aR,d.kn,d.bP,d.ck,d.un,d.wl,d.ws,d.bg,d.bt,d.ol,d.se,d.ne,b⟩,a.num,a.q,a.aR,rfl,a.kn,a.bg,a.se,a.ne,a.eC⟩
theorem Qg (d:Log.ok C l)(a:DG C l j D c)(b:PG C l j i P):cW C l j i D P (k7 D P F (BitVec.ofNat 32 (bN j i+1)) aY).2 c 1:=by
 have e:=bw.rH b.ok.tm (k:=2) (.inl ag) a.ok.now;unfold k7;by_cases m:aY=[]
 .rw[aM m];exact .same d (a.up (rI c)) (b.tm b.ok.tm) (dY _) rfl
 rw[aq m];by_cases o:(aY.length:Int)<4
 .rw[aM o];exact .same d (a.up (rI c)) (b.tm e) (dY _) rfl
 rw[aq o];split
 .have h:=a.ok;have up:=h.up (rI c);exact .same d ⟨⟨h.own,h.aP,h.af,h.ac,h.cz,h.now,up.ct,up.out,by have :=h.aT;simp;omega⟩,a.here,a.own,a.ac,xt a.ix,a.new,a.out⟩ (b.tm e) (dY _) rfl
 .exact .same d (a.up (rI c)) (b.tm e) (dY _) rfl
theorem ahY (v:j<C.n)(hi:i<C.n-1)(y:Log.ok C l)(r:DG C l j D c)(a:PG C l j i P)(b:P.ne=some S')(d:S'.su=S.su):cW C l j i D P (vH D P S (BitVec.ofNat 32 (bN j i+1))) c 4:=by
 have E:=a.ok;have m:=E.ne S' b;obtain⟨z,H,u⟩:=a.ne S' b;rw[d] at z H u;have o:(if P.bP<S.su then S.su else P.bP)=1\/(if P.bP<S.su then S.su else P.bP)=2:=by
  have K:=m.su;rw[d] at K;have L:=E.bP;split <;>assumption
 have p:PG C l j i {P with ol:=P.se,se:=P.ne,ne:=none,bP:=if P.bP<S.su then S.su else P.bP,at_:=BitVec.ofNat 32 (bN j i+1),tm:=P.tm.ev 5 D.now}:=by
  refine⟨⟨E.q,E.aP,E.aR,E.kn,o,E.ck,E.un,E.wl,E.ws,E.bg,E.bt,E.se,E.ne,(fun _ h=>nomatch h),bw.rH E.tm (.inl ag) r.ok.now⟩,a.num,a.q,a.aR,rfl,a.kn,a.bg,fun G e=>?_,(fun _ h=>nomatch h),fun G e=>?_⟩
  .have e:P.ne=some G:=e;rw[b] at e;cases e;rw[d];refine⟨?_,H,u⟩;show S.su<=(if P.bP<S.su then S.su else P.bP);split <;>omega
  .rcases e with e|e|e
   .exact a.eC G (.inr (.inl e))
   .exact a.eC G (.inr (.inr e))
   .cases e
 have A:pW P.se<=pW P.ne:=by
  rw[b];show pW P.se<=S'.su;have :=m.su;exact NY a I I
 exact(HN v hi y r p).of A
theorem acq (q:j<C.n)(hi:i<C.n-1)(e:Log.ok C l)(m:DG C l j D c)(a:PG C l j i P)(A:P.slot w=some S)(r:w<3)(k:Int)(z:Z):cW C l j i D P (rk D P F w S k z (BitVec.ofNat 32 (bN j i+1))).2 c 5:=by
 obtain⟨p,u,v⟩:=aaM S k z D.now;have o:S.ok:=by
  match w,A with
  |0,A=>exact a.ok.se S A
  |1,A=>exact a.ok.ol S A
  |w+2,A=>exact a.ok.ne S A
 obtain⟨b,d⟩:=a.gB A (LM o k z D.now) p u v;unfold rk;by_cases h:(S.open_ k z D.now).2.1=0
 .rw[aM h];by_cases E:w=2
  .rw[aM E];subst E;have y:cW C l j i D (P.gB 2 (S.open_ k z D.now).2.2) (vH D (P.gB 2 (S.open_ k z D.now).2.2) S (BitVec.ofNat 32 (bN j i+1))) c 4:=ahY q hi e m b rfl p;exact(y.thn (k2:=1) fun l' L G H K=>Qg G H K).of (by rw[d];exact dY _)
  .rw[aq E];exact((Qg e m b).up ag).of (by rw[d];exact dY _)
 .rw[aq h];exact(cW.refl e m a).up ag
theorem GV {id:aQ}(h:jQ id P=some w):w<3/\∃ S,P.slot w=some S/\S.eF=id:=by
 have b:∀ w,jr id P w=true->∃ S,P.slot w=some S/\S.eF=id:=fun w h=>by
  unfold jr at h;split at h
  .cases h
  .rename_i S a;exact⟨S,a,by simpa using h⟩
 unfold jQ at h;by_cases d:jr id P 0=true
 .rw[aM d] at h;cases h;exact⟨ag,b 0 d⟩
 rw[aq d] at h;by_cases e:jr id P 1=true
 .rw[aM e] at h;cases h;exact⟨ag,b 1 e⟩
 rw[aq e] at h;by_cases m:jr id P 2=true
 .rw[aM m] at h;cases h;exact⟨ag,b 2 m⟩
 rw[aq m] at h;cases h
theorem Hm (a:P.slot w=some S):P.ol=some S\/P.se=some S\/P.ne=some S:=by
 match w,a with
 |0,a=>exact .inr (.inl a)
 |1,a=>exact .inl a
 |w+2,a=>exact .inr (.inr a)
theorem aas (q:j<C.n)(e:Log.ok C l)(a:NG C l j N c){id:aQ}{s:Nat}{x:Option bL}(h0:l j id.toNat=some (x,s))(k:Int)(z:Z):fG C l j N (mH N F id k z (BitVec.ofNat 32 (s+1))).2 c 5:=by
 unfold mH;cases h1:N.Ps.findIdx? (fun P=>(jQ id P).isSome) with
 |none=>exact(fG.refl e a).up ag
 |some i=>
  dsimp only;cases h2:N.Ps[i]? with
  |none=>exact(fG.refl e a).up ag
  |some P=>
   dsimp only;cases r:jQ id P with
   |none=>exact(fG.refl e a).up ag
   |some w=>
    dsimp only;obtain⟨h,S,m,y⟩:=GV r;rw[m];dsimp only;obtain⟨b,o⟩:=cA.1 h2;have v:i<C.n-1:=by rw[<-a.len];exact b
    have p:=a.P i b;rw[o] at p;obtain⟨⟨u,d⟩,-⟩:=p.eC S (Hm m);rw[y,h0] at d;cases d;exact fG.peer a h2 a.B (acq q v e a.D p m h k z)
theorem ajI (hj:j<C.n)(hi:i<C.n-1)(hl:Log.ok C l)(o:DG C l j D c)(r:PG C l j i P)(h0:l (bN j i) f.id.toNat=some (some f,j))(hb:f.su<=D.ac)(a8:¬ f.su<P.bP)(hc:c<=4000000000):cW C l j i D P (qZ D P f (BitVec.ofNat 32 (bN j i+1))) c 2:=by
 obtain⟨-,-,-,v,b0,M,-,O,Q,R⟩:=hl.here _ _ _ _ h0;have b2:=o.ix;have ho:=o.ok;have a:=r.ok;have T:(D.index+1#32).toNat=D.index.toNat+1:=by
  rw[jL];show(D.index.toNat+1)%4294967296=_;omega
 have z:=(D.sP ho.af).2;have hg:cm.ok ⟨f,P.aR,D.dR,D.ac,D.index+1#32⟩:=⟨v,a.aR,z,ho.ac⟩;have V:=qj hi hj;have W:=pU (j:=j) (i:=i)
 let l':Log:=fun s id=>if s=j/\id=D.index.toNat+1 then some (none,bN j i) else l s id
 have u:l' j (D.index+1#32).toNat=some (none,bN j i):=by
  show(if _ then _ else _)=_;rw[aM ⟨rfl,T⟩]
 have A:Ext j l l':=by
  refine⟨fun s id x e=>?_,fun s hs=>funext fun id=>aq fun h=>hs h.1⟩;show(if _ then _ else _)=_;rw[aq fun h=>by obtain⟨rfl,rfl⟩:=h;rw[o.new _ I] at e;cases e];exact e
 have X:Log.ok C l':=by
  refine⟨fun s id f t e=>?_⟩;have e:(if s=j/\id=D.index.toNat+1 then some (none,bN j i) else l s id)=some (some f,t):=e;by_cases h:s=j/\id=D.index.toNat+1
  .rw[aM h] at e;cases e
  .rw[aq h] at e;exact hl.here s id f t e
 have p:=r.mono A.le;generalize b:(⟨f,P.aR,D.dR,D.ac,D.index+1#32⟩:cm)=g at hg;have d:g.f=f:=by rw[<-b]
 have E:g.cg=D.index+1#32:=by rw[<-b]
 have Y:g.aR=P.aR:=by rw[<-b]
 have a6:g.e=D.dR:=by rw[<-b]
 have a7:g.ac=D.ac:=by rw[<-b]
 have G:PG C l' j i (n7 P g (BitVec.ofNat 32 (bN j i+1)) D.now):=by
  refine⟨⟨a.q,a.aP,a.aR,by show g.f.ac=1\/g.f.ac=2;rw[d];exact v.ac,a.bP,a.ck,a.un,a.wl,a.ws,a.bg,a.bt,a.ol,a.se,fun S e=>?_,a.tm⟩,r.num,r.q,r.aR,rfl,.inr (by show g.f.ac=_;rw[d];exact O),p.bg,p.se,fun S e=>?_,fun S e=>?_⟩
  .cases e;exact⟨by rw[d];exact v.su,g.rT hg ag,g.rT hg ag,ho.now,by show(0:Int)<=0/\(0:Int)<=1000;omega,by show(0:Int)<=0/\(0:Int)<=1099511627777;omega⟩
  .cases e;show P.bP<=g.f.su/\g.f.su<=C.ac j/\g.f.su<=C.ac (bN j i);rw[d];exact⟨I,R,Q⟩
  .rcases e with e|e|e
   .exact p.eC S (.inl e)
   .exact p.eC S (.inr (.inl e))
   .cases e;refine⟨⟨none,?_⟩,some f,?_⟩
    .show l' j g.cg.toNat=_;rw[E];exact u
    .show l' (bN j i) g.f.id.toNat=_;rw[d];exact A.le _ _ _ h0
 have y:∃ m:Z,m.length=16/\(n7 P g (BitVec.ofNat 32 (bN j i+1)) D.now).gU D.now g.text=g.text++cY P.aP g.text++m:=by
  have H:=g.facts hg |>.1
  have h:=aj.Ef G.ok (now:=D.now) (x:=g.text) (by rw[H];decide);have h2:=Ap P.aP g.text (by rw[r.ok.aP,fa];decide) (by rw[H];decide);refine⟨_,?_,rfl⟩;unfold aj.gU s9 at h;rw[bA,bA] at h;have b3:(cY (n7 P g (BitVec.ofNat 32 (bN j i+1)) D.now).aP g.text).length=16:=h2;omega
 obtain⟨m,K,y⟩:=y;have hm:jm C l' j (bN j i) ((n7 P g (BitVec.ofNat 32 (bN j i+1)) D.now).gU D.now g.text):=by
  rw[y,r.aP];refine .second g m ?_ ?_ (by rw[Y];exact r.aR) (by rw[a6];exact z) (by rw[a7];exact o.ac) K
  .rw[d];exact A.le _ _ _ h0
  .rw[E];exact u
 have L:DG C l' j {D with index:=D.index+1#32,fresh:=D.fresh+1#64} (c+1):=
  ⟨⟨ho.own,ho.aP,ho.af,ho.ac,ho.cz,ho.now,(ho.up (rI c)).ct,xt ho.out,xt ho.aT⟩,o.here,o.own,o.ac,by show(D.index+1#32).toNat<=_;omega,fun id h=>by
   have h:(D.index+1#32).toNat<id:=h;show(if _ then _ else _)=_;rw[aq I];exact o.new id I,fun g hg=>(o.out g hg).mono A.le⟩
 unfold qZ;rw[b];exact⟨⟨l',A,X,L.goes (L.ok.goes _ _) I hj V W hm,G⟩,dY _,by show(au.goes _ _ _).now=_;unfold au.goes;split <;>rfl⟩
end
end
section
section
variable {C:bO}{l l' l2:Log}{j i s t c n k k2 w:Nat}{D D':au}{P P':aj}{N N':bf}{x aY:Z}{g:cm}{f:bL}{s1 s2:au×aj}{B:eN}{S S':aX}{F:aQ->Int×Bool}
theorem bL.af1 (a:f.ok):List.drop 2 (List.take 6 f.text)=gA f.id:=(JS (k:=1#8) (s:=BitVec.ofInt 8 f.su) (jS _) (fa _) (Bw a.su) (Co a.su)).2.2.2.2
theorem DG.aP (h:DG C l j D c):D.aP=bI (C.own j):=by rw[h.ok.aP,h.own]
end
end
section
structure LG (C:bO) (l:Log) (L:bl) (c A:Nat):Prop where
 lo:Log.ok C l
 len:L.N.length=C.n
 mO:L.all.length=C.n
 N:∀ j (h:j<L.N.length),NG C l j L.N[j] c
 aO:∀ g∈L.aO,qK C l g
 iM:L.aO.length<=60
 all:∀ al∈L.all,al.length<=A
def BK (L:bl)(j i:Nat):Int:=((L.N[j]?).map fun N=>BR N i).getD 0
section
variable {C:bO}{l l' l2:Log}{j i s t c n k2 w A m:Nat}{D D':au}{P P':aj}{N N':bf}{x aY:Z}{g:Gr}{f:bL}{B:eN}{L L':bl}{k:b9}
theorem DG.ext {j':Nat}(h:DG C l j' D c)(b:Ext j l l')(a:j'≠j):DG C l' j' D c:=⟨h.ok,h.here,h.own,h.ac,h.ix,fun d e=>by rw[b.other _ a];exact h.new d e,fun g o=>(h.out g o).mono b.le⟩
theorem NG.ext {j':Nat}(h:NG C l j' N c)(b:Ext j l l')(a:j'≠j):NG C l' j' N c:=⟨h.D.ext b a,fun i d=>(h.P i d).mono b.le,h.len,h.B⟩
theorem LG.up (h:LG C l L c A)(hc:c<=n):LG C l L n A:=⟨h.lo,h.len,h.mO,fun j a=>(h.N j a).up hc,h.aO,h.iM,h.all⟩
theorem Jt {a:Int}{i:Nat}(hi:i<=L.N.length)(j:Nat):(mI a L i).N[j]?=if j<i then(L.N[j]?).map fun N=>(dd N a).2 else L.N[j]?:=by
 have b:((L.N.take i).map (fun N=>(dd N a).2)).length=i:=cp;show((L.N.take i).map (fun N=>(dd N a).2)++L.N.drop i)[j]?=_;by_cases h:j<i
 .rw[aM h,kY I,dU,xX h]
 .rw[aq h,iy I,b,mA];congr 1;omega
end
end
section
section
variable {C:bO}{l l' l2:Log}{j i s t c n k2 w A m:Nat}{D D':au}{P P':aj}{N N':bf}{x aY:Z}{g:Gr}{f:bL}{B:eN}{L L':bl}{k:b9}{al:List Pk}
theorem NG.clear (h:NG C l j N c):NG C l j {N with D:={N.D with out:=[],aT:=[]}} c:=by
 have a:=h.D;have b:=a.ok;exact⟨⟨⟨b.own,b.aP,b.af,b.ac,b.cz,b.now,b.ct,lI _,lI _⟩,a.here,a.own,a.ac,a.ix,a.new,(fun _ h=>nomatch h)⟩,h.P,h.len,h.B⟩
theorem Rw (h:LG C l L c A):∀ i,i<=L.N.length->(∀ (j:Nat) (N:bf),(da L i).N[j]?=some N->NG C l j N c)/\(∀ g∈(da L i).aO,qK C l g)/\(∀ (j:Nat) (al:List Pk),(da L i).all[j]?=some al->al.length<=A+c)/\∀ j p,BK (da L i) j p=BK L j p
 |0,_=>⟨fun j N a=>by obtain⟨b,rfl⟩:=cA.1 a;exact h.N j b,h.aO,fun j al a=>j7 (h.all _ (lm a)) (ut _ _),fun _ _=>rfl⟩
 |i+1,T=>by
  obtain⟨v,y,z,E⟩:=Rw h i I;have b:i<L.N.length:=I;have d:i<L.all.length:=by rw[h.mO,<-h.len];exact b
  have O:=(we (L:=L) (bz i)).1.trans (bn b);have R:=(we (L:=L) (bz i)).2.trans (bn d);have o:=v i _ O;have F:=h.all _ (eM d);generalize L.N[i]=G at*;generalize L.all[i]=q at*;have S:da L (i+1)={N:=(da L i).N.set i {G with D:={G.D with out:=[],aT:=[]}},aO:=((da L i).aO++G.D.out).take 60,all:=(da L i).all.set i (q++G.D.aT)}:=Kn O R;have r:=(cA.1 O).1;have u:=(cA.1 R).1;rw[S];generalize da L i=M at*;refine⟨fun j N a=>?_,fun g hg=>?_,fun j al a=>?_,fun j p=>?_⟩
  .have a:(M.N.set i {G with D:={G.D with out:=[],aT:=[]}})[j]?=some N:=a;by_cases e:j=i
   .subst e;rw[kF r] at a;cases a;exact o.clear
   .rw[mV (fun h=>e h.symm)] at a;exact v j N a
  .rcases gZ.1 (F3 hg) with hg|hg
   .exact y g hg
   .exact o.D.out g hg
  .have a:(M.all.set i (q++G.D.aT))[j]?=some al:=a;by_cases e:j=i
   .subst e;rw[kF u] at a;cases a;have :=o.D.ok.aT;rw[bA];omega
   .rw[mV (fun h=>e h.symm)] at a;exact z j al a
  .rw[<-E j p];unfold BK;show(((M.N.set i {G with D:={G.D with out:=[],aT:=[]}})[j]?).map fun N=>BR N p).getD 0=_;by_cases e:j=i
   .subst e;rw[kF r,O];rfl
   .rw[mV (fun h=>e h.symm)]
theorem LG.sj (h:LG C l L c A):LG C l (da L L.N.length) c (A+c)/\∀ j b,BK (da L L.N.length) j b=BK L j b:=by
 obtain⟨d,e,o,p⟩:=Rw h L.N.length (bz _);exact⟨⟨h.lo,(xd _).1.trans h.len,(xd _).2.trans h.mO,fun j a=>d j _ (bn a),e,KU h.iM _,fun al q=>by obtain⟨j,a,rfl⟩:=lr q;exact o j _ (bn a)⟩,p⟩
variable {K K0 K':RK}{H H0 H':aU}{Q0 Q:Rl->Prop}
theorem LG.ok (d:C.ok)(h:LG C l L c A):L.ok c:=⟨fun N a=>by obtain⟨j,b,rfl⟩:=lr a;exact(h.N j b).ok,fun N a=>by obtain⟨j,b,rfl⟩:=lr a;exact(h.N j b).pos d,h.iM⟩
end
end
def dP (P:Int->Prop)(A:List Nd):Prop:=∀ b∈A,b.is=true->P b.owner
theorem dP.leaf {P:Int->Prop}:dP P [leaf]:=fun a h e=>by
 rw[oQ] at h;subst h;cases e
theorem dP.get {P:Int->Prop}{A:List Nd}(h:dP P A)(c:Nat):(A.getD c Vm.leaf).is=true->P (A.getD c Vm.leaf).owner:=fun e=>by
 rw[bY] at e |-
 cases hc:A[c]? with
 |none=>rw[hc] at e;cases e
 |some a=>rw[hc] at e;exact h a (lm hc) e
theorem dP.set {P:Int->Prop}{A:List Nd}(h:dP P A)(c:Nat)(d:Nd)(b:d.is=true->P d.owner):dP P (A.set c d):=fun x a e=>by
 rcases Fz a with a|rfl
 .exact h x a e
 .exact b e
theorem dP.step {P:Int->Prop}{x:List Nd×Nat}(h:dP P x.1)(b:Bool):dP P (eB x b).1:=by
 unfold eB;split
 .intro d a e;rcases gZ.1 a with a|a
  .refine h.set x.2 _ (fun c=>?_) d a e;unfold Nd.tY at c |-
   split at c
   .rw[aM (by assumption)];exact h.get x.2 c
   .rw[aq (by assumption)];exact h.get x.2 c
  .exact dP.leaf d a e
 .exact h
theorem dP.steps {P:Int->Prop}:∀ (p:List Bool) {x:List Nd×Nat},dP P x.1->dP P (p.foldl eB x).1
 |[],_,h=>h
 |b::p,_,h=>dP.steps p (h.step b)
theorem dP.ke {P:Int->Prop}{A:List Nd}(h:dP P A)(a:aQ)(n:Nat)(p:Int)(b:P p):dP P (ke A a n p):=(dP.steps (x:=(A,0)) _ h).set _ _ fun _=>b
theorem dP.fC (L:List dk):∀ m:Nat,dP (fun o=>0<=o/\o<(m:Int)) (Vm.fC L m)
 |0=>dP.leaf
 |m+1=>by
  have h:dP (fun o=>0<=o/\o<((m+1:Nat):Int)) (Vm.fC L m):=fun b a e=>by
   have :=dP.fC L m b a e;omega
  exact h.ke _ _ _ I
theorem acA (L:List dk)(m:Nat)(a:aQ)(h:(rZ (fC L m) a).2=true):0<=(rZ (fC L m) a).1/\(rZ (fC L m) a).1<m:=
 abQ (P:=fun o=>0<=o/\o<(m:Int)) (dP.fC L m).get _ _ _ (fun h=>Bool.noConfusion h) h
theorem qp.ok {af:Z}{n:Nat}{k:b9}(h:qp af n k.cs)(d:n=2\/n=3)(e:k.xs.length=n):k.ok:=⟨I,fun c f a b=>by
 obtain⟨i,g,rfl⟩:=lr f;obtain⟨j,l⟩:=h i g;rw[j] at b |-
 rw[l];exact acA _ _ a b⟩
theorem WX:oU.ok:=by
 unfold oU;exact⟨⟨⟨J,J,J⟩,J⟩,by show(0:Int)<=0/\(0:Int)<=1099511627776;omega⟩
noncomputable def vK (af:Z) (bs:List Int):bO:=⟨bs.length,fun j=>bs.getD j 0,fun j=>gX af j,fun j k=>gX af (20+(j:Int)+(k:Int))⟩
theorem NT (af:Z){i n:Nat}(a:n=2\/n=3)(hi:i<n):∀ (k:Nat) (h:k<(ig af i n).length),(ig af i n)[k]=oL af i (bN i k):=by
 rcases a with rfl|rfl
 .have :i=0\/i=1:=I;rcases this with rfl|rfl
  all_goals
   intro k h;have b:k<1:=by rw[xG] at h;exact h
   obtain rfl:k=0:=I;rfl
 .have :i=0\/i=1\/i=2:=I;rcases this with rfl|rfl|rfl
  all_goals
   intro k h;have b:k<2:=by rw[xG] at h;exact h
   have :k=0\/k=1:=I;rcases this with rfl|rfl<;>rfl
theorem Bu {af:Z}{bs:List Int}(h:¬ ua af bs):(vK af bs).ok:=by
 have n:af.length=32:=ug fun e=>h (.inl e)
 have c:bs.length=2\/bs.length=3:=by
  have o:¬ bs.length<2:=fun e=>h (.inr (.inl e))
  have m:¬ 3<bs.length:=fun e=>h (.inr (.inr (.inl e)))
  omega
 have d:∀ j,j<bs.length->¬ GG af bs j:=fun j a e=>h (.inr (.inr (.inr ⟨j,a,e⟩)))
 refine⟨c,fun j a=>ug fun e=>d j a (.inl e),fun j=>(rD n _).2,fun j k=>⟨(rD n _).2,by show gX af _=gX af _;congr 1;omega⟩,fun j k a f e=>ug fun g=>?_⟩;have a:j<bs.length:=a;have f:k<bs.length:=f;have e:bI (gX af j)=bI (gX af k):=e;obtain⟨x,i,b⟩:∃ x,x<bs.length-1/\bN j x=k:=by
  unfold bN;by_cases l:k<j
  .exact⟨k,I,by rw[aq I]⟩
  .exact⟨k-1,I,by rw[aM I];omega⟩
 refine d j a (.inr ⟨x,by rw[xG,aq I];exact i,.inl ?_⟩);rw[NT af c a,b];exact e.symm
theorem Mf {af:Z}{bs:List Int}(h:¬ ua af bs):LG (vK af bs) (fun _ _=>none) (mo af bs) 0 0:=by
 have p:=Bu h;have w:af.length=32:=ug fun e=>h (.inl e)
 have d:bs.length=2\/bs.length=3:=p.n;have a:(mo af bs).N.length=bs.length:=by simp[mo]
 refine⟨⟨fun s A f t e=>nomatch e⟩,a,by simp[mo,vK],fun j c=>?_,(fun g z=>nomatch z),lI _,fun x k=>?_⟩
 .rw[a] at c;rw[GX];have q:=(rD w (j:Int)).2;have b:=(rD w ((j:Int)+10)).2;have r:=p.ac j c;have l:(kS (ig af j bs.length)).length=bs.length-1:=by rw[xj,xG,aq I]
  refine⟨⟨⟨q,rfl,b,r,(au.sP _ b).2,by show(0:Int)<=0/\(0:Int)<=1099511627776;omega,by show(0:Int)<=0/\(0:Int)<=((0:Nat):Int);omega,lI _,lI _⟩,?_,rfl,rfl,lI _,fun _ _=>rfl,(fun _ h=>nomatch h)⟩,fun i y=>?_,l,WX⟩
  .show BitVec.ofInt 32 (bh ((j:Int)+1))=BitVec.ofNat 32 (j+1);have :j=0\/j=1\/j=2:=by have u:bs.length=2\/bs.length=3:=d;omega
   rcases this with rfl|rfl|rfl<;>decide
  .have y:i<(kS (ig af j bs.length)).length:=y;show PG _ _ j i (kS (ig af j bs.length))[i];rw[yL,NT af d c];have v:bN j i<3:=by
    have :=qj (j:=j) (i:=i) (n:=bs.length) I c;have u:bs.length=2\/bs.length=3:=d;omega
   have m:=(rD w ((bN j i:Nat):Int)).2;have o:=(rD w (20+(j:Int)+((bN j i:Nat):Int))).2;refine⟨⟨m,rfl,o,.inl rfl,.inl rfl,.inl rfl,by show(0:Int)<=0/\(0:Int)<=2099511627776;omega,lI _,(fun _ h=>nomatch h),(fun _ h=>nomatch h),lI _,(fun _ h=>nomatch h),(fun _ h=>nomatch h),(fun _ h=>nomatch h),⟨dY _,by show(0:Int)<=6;omega,by show(0:Int)<=0/\(0:Int)<=1099511627776;omega,by show(0:Int)<=0/\(0:Int)<=1099511627776;omega⟩⟩,rfl,rfl,rfl,?_,.inl rfl,(fun _ h=>nomatch h),(fun _ h=>nomatch h),(fun _ h=>nomatch h),fun S e=>?_⟩
   .show BitVec.ofInt 32 (bh (((bN j i:Nat):Int)+1))=BitVec.ofNat 32 (bN j i+1);generalize bN j i=t at*;have :t=0\/t=1\/t=2:=I;rcases this with rfl|rfl|rfl<;>decide
   .rcases e with e|e|e<;>cases e
 .have :x=[]:=by
   have k:x∈List.replicate bs.length []:=k;exact List.eq_of_mem_replicate k
  rw[this];exact lI _
end Go.Vm
end
section
namespace Go.Vm
open Go.Proofs Go.Proofs.Tryz
section
def kn:RK:=fun _=>none
section
variable {K K0 K':RK}{H H0 H':aU}{Q0 Q:Rl->Prop}{k:b9}{L:bl}{bv av:V}{bs:List Int}{af:Z}{C:bO}{l:Log}{n:Nat}
theorem Cx.drop (h:Cx K0 H0 qT K H):Cx K0 H0 qT kn H:=⟨h.len,h.de,fun _ _ _ a=>(a trivial).elim,fun _ _ _ e=>(nomatch e),h.ro,h.bD,fun _ _=>rfl,h.old⟩
theorem Iu (a:cZ H):Cx kn H qT kn H:= .refl a (fun _ _=>rfl) _
def jC (H:aU)(bv:V)(bs:List Int):Prop:=(bs=[]/\(bv= .bG\/∃ c,bv= .slice c 0 0 1/\c<H.length))\/∃ c d,bv= .slice c 0 bs.length 1/\ah H c=some ⟨d,bs.map V.i64,none⟩
theorem jC.low (h:jC H bv bs):bv.low H.length:=by
 rcases h with⟨-,rfl|⟨a,rfl,h⟩⟩|⟨a,b,rfl,h⟩
 .trivial
 .exact h
 .exact b8 h
theorem jC.de (h:jC H bv bs)(a:Cx kn H Q K' H'):jC H' bv bs:=by
 rcases h with⟨h,b|⟨c,rfl,b⟩⟩|⟨c,d,rfl,h⟩
 .exact .inl ⟨h,.inl b⟩
 .exact .inl ⟨h,.inr ⟨c,rfl,pI b a.len⟩⟩
 .exact .inr ⟨c,d,rfl,(a.mQ rfl (b8 h)).trans h⟩
theorem abI (c:Cx K0 H0 Q0 K H)(af:Z){bb:Nat}(d:bb<H.length):
  ∃ v K' H',Dx prog 16 [.slice bb 0 0 1,.str af] K H qT v K' H'/\zX af [] v K' H':=by
 have b:=(c.start qT).bH (vs:=[.str af]) (mm:=none) bT;refine ar (Q:=qT) (Post:=zX af []) func16 ?_;refine d8 @ja ?_
 by_cases e:af.length=32
 rotate_left
 .have a:¬ (af.length:Int)=32:=I;refine pL a ?_
  exact Ex.of b bT (.inl ⟨.inl e,1,ag,rfl⟩)
 have a:(af.length:Int)=32:=I;refine pL a ?_
 exact Ex.of b bT (.inl ⟨.inr (.inl ag),1,ag,rfl⟩)
theorem Sf (a:cZ H)(b:jC H bv bs)(af:Z):∃ v K' H',Dx prog 16 [bv,.str af] kn H qT v K' H'/\zX af bs v K' H':=by
 rcases b with⟨rfl,rfl|⟨c,rfl,h⟩⟩|⟨c,ro,rfl,h⟩
 .exact M0 (Iu a) (fun _=>rfl) af (bs:=[]) (ro:=true) (.inl ⟨rfl,rfl⟩)
 .exact abI (Iu a) af h
 .exact M0 (Iu a) (fun _=>rfl) af (.inr ⟨c,rfl,h⟩)
def Dn:cX:=⟨0,0,0,0,0#32,0#32,[]⟩
theorem Vz (f:Cx K0 H0 Q0 K H)(g:bM K H k L)(j:k.ok)(a:C.ok)(h:LG C l L 0 0):∃ v K' H',Dx prog 10 [.ptr k.l 0,.agg [.i64 0,.i64 0,.i64 0,.i64 0,.u32 0#32,.u32 0#32,.str []]] K H qT v K' H'/\(v= .i64 1/\bM K' H' k (da L L.N.length)):=
 by
 have b:cV k L Dn (.data 0#32 0 [])=(1,L):=by
  unfold cV Dn;dsimp only;rw[aq ag,aq ag,aq ag]
 have m:cO k L Dn (.data 0#32 0 [])=(1,da L L.N.length):=by unfold cO;rw[b]
 have :=Q9 f g j (h.ok a) ag Dn ag ag (.data 0#32 0 []) (fun e=>by cases e) (fun i N q o c=>by
  rw[b] at o c;dsimp only at o c;obtain⟨d,rfl⟩:=cA.1 o;have p:=(h.N i d).D.ok;have :=p.aT;have :=p.out;have :=h.all _ (lm c);omega) (by rw[b];exact h.iM)
 rw[m] at this;exact this
structure Kb (af:Z) (bs:List Int) (K:RK) (H:aU) (k:b9):Prop where
 ok:k.ok
 x:k.xs.length=bs.length
 F:qp af bs.length k.cs
 at_:bM K H k (da (mo af bs) (mo af bs).N.length)
def O8 (af:Z)(bs:List Int):V->RK->aU->Prop:=fun v K' H'=>(ua af bs/\v= .nilPtr)\/(¬ ua af bs/\∃ k:b9,v= .ptr k.l 0/\Kb af bs K' H' k)
theorem acC (g:cZ H)(i:jC H bv bs)(af:Z):∃ v K' H',Dx prog 5 [bv,.str af] kn H qT v K' H'/\O8 af bs v K' H':=by
 have f:=i.low;refine ar (Q:=qT) (Post:=O8 af bs) func5 ?_;simp only[go_sem,seval];repeat refine aI ?_
 refine cQ (Sf g i af) U rfl (by simp[lows,V.low,f]) g ?_;rintro _ w x b q r;rcases r with⟨a,e,u,rfl⟩|⟨a,k,rfl,j,m,o⟩
 .simp only[go_sem,seval,u,ic,kJ,cE];repeat refine aI ?_
  exact Ex.of b trivial (.inl ⟨a,rfl⟩)
 have s:bs.length=2\/bs.length=3:=(Bu a).n;have p:=o.ok s j;simp only[go_sem,seval];repeat refine aI ?_
 refine cQ (Vz b m p (Bu a) (Mf a)) U rfl (by simp[lows,V.low,b.lt m.kl]) b.bD ?_;rintro _ y z c t ⟨rfl,d⟩;simp only[go_sem,seval];repeat refine aI ?_
 exact Ex.of (b.call c fun _ h=>h) (c.lt d.kl) (.inr ⟨a,k,rfl,p,j,o,d⟩)
theorem ZA (f:cZ H)(g:jC H bv bs)(af:Z)(b:ua af bs):∃ v K' H',Dx prog 6 [bv,.str af] kn H qT v K' H'/\v= .bool true:=by
 have c:=g.low;refine ar (Q:=qT) (Post:=fun v K' H'=>v= .bool true) func6 ?_;simp only[go_sem,seval];repeat refine aI ?_
 refine cQ (Sf f g af) U rfl (by simp[lows,V.low,c]) f ?_;rintro _ m o d h i;rcases i with⟨-,e,j,rfl⟩|⟨a,-⟩
 rotate_left
 .exact absurd b a
 simp only[go_sem,seval,j,ic,kJ,cE];repeat refine aI ?_
 exact Ex.of d trivial rfl
def iZ (H:aU)(av:V)(as_:List cX):Prop:=(av= .bG/\as_=[])\/∃ b,av= .slice b 0 as_.length 7/\b<H.length/\(0<as_.length->∃ e,ah H b=some ⟨e,(as_.map fun a=>[V.i64 a.kind,.i64 a.A,.i64 a.B,.i64 a.C,.u32 a.src,.u32 a.dst,.str a.aY]).flatten,none⟩)
theorem iZ.low {as_:List cX}(h:iZ H av as_):av.low H.length:=by
 rcases h with⟨rfl,-⟩|⟨b,rfl,h,-⟩
 .trivial
 .exact h
theorem iZ.de {as_:List cX}(h:iZ H av as_)(a:∀ b,b<H.length->ah H' b=ah H b)(c:H.length<=H'.length):iZ H' av as_:=by
 rcases h with h|⟨b,rfl,h,e⟩
 .exact .inl h
 .exact .inr ⟨b,rfl,I,fun d=>by obtain⟨f,g⟩:=e d;exact⟨f,(a b h).trans g⟩⟩
theorem E4:∀ {as_:List cX} {i:Nat} (h:i<as_.length),((as_.map fun a=>[V.i64 a.kind,.i64 a.A,.i64 a.B,.i64 a.C,.u32 a.src,.u32 a.dst,.str a.aY]).flatten.drop (i*7)).take 7=[V.i64 as_[i].kind,.i64 as_[i].A,.i64 as_[i].B,.i64 as_[i].C,.u32 as_[i].src,.u32 as_[i].dst,.str as_[i].aY]
 |a::as_,0,_=>rfl
 |a::as_,i+1,h=>by
  have :=E4 (as_:=as_) (i:=i) (by simpa using h);rw[show(i+1)*7=i*7+1+1+1+1+1+1+1 by omega];exact this
theorem Ju (as_:List cX):((as_.map fun a=>[V.i64 a.kind,.i64 a.A,.i64 a.B,.i64 a.C,.u32 a.src,.u32 a.dst,.str a.aY]).flatten).length=as_.length*7:=by
 induction as_ with
 |nil=>rfl
 |cons a as_ ih=>rw[dD,wT,bA,ih];simp;omega
end
end
section
section
variable {K K0 K':RK}{H H0 H':aU}{Q0 Q:Rl->Prop}{k:b9}{L:bl}{bv av:V}{bs:List Int}{af:Z}{C:bO}{l:Log}{n:Nat}{as_:List cX}
theorem YS (y:Cx K0 H0 Q0 K H)(z:iZ H av as_)(N:as_.length<=10000000000000):
  ∃ v K' H',Dx prog 7 [av] K H (fun _=>False) v K' H'/\v= .bool (decide (∀ a∈as_,a.kind≠6)):=by
 have D:=z.low;generalize t:decide (∀ a∈as_,a.kind≠6)=R;refine ar (Q:=fun _=>False) (Post:=fun v K' H'=>v= .bool R) func7 (aH ?_);rcases z with⟨rfl,rfl⟩|⟨b,rfl,E,hg⟩
 .refine aK ?_
  refine ij 1 (aH ?_);exact Ex.of (y.start _) trivial (by rw[<-t];rfl)
 refine aK ?_
 refine cG (fun j Y=>∃ (i:Nat) (O:aU),i+j=as_.length/\Cx K H (fun _=>False) K O/\(∀ c,c<H.length->ah O c=ah H c)/\(∀ m (h:m<i) (T:m<as_.length),as_[m].kind≠6)/\Y=⟨[(5,.slice b 0 as_.length 7),(6,.i64 as_.length),(7,.i64 i)],O⟩) ?_ ?_
 .exact dh as_.length ⟨[(5,.slice b 0 as_.length 7),(6,.i64 as_.length),(7,.i64 (0:Nat))],H⟩ gJ rfl (fun _ _ h=>h) ⟨0,H,I,y.start _,fun _ _=>rfl,fun m h=>by omega,rfl⟩
 rintro j Y ⟨i,O,F,o,d,r,rfl⟩-;by_cases W:i<as_.length
 rotate_left
 .have p:¬ (i:Int)<(as_.length:Int):=I;refine pL p ?_
  have f:∀ a∈as_,a.kind≠6:=fun a G=>by
   obtain⟨m,h1,rfl⟩:=lr G;exact r m I h1
  exact Ex.of o trivial (by rw[<-t,nX f])
 have p:(i:Int)<(as_.length:Int):=I;have u:(0:Int)<=(i:Int):=I;have w1:bh ((i:Int)+1)=((i+1:Nat):Int):=by rw[bC I I];omega
 obtain⟨ro,w⟩:=hg I;have x:=(d b E).trans w;have q:=E4 W;have P:=Ju as_;have S:i*7+7<=as_.length*7:=I;have M:O.length<(O++[bK [.i64 0,.i64 0,.i64 0,.i64 0,.u32 0#32,.u32 0#32,.str []]]).length:=J;generalize (as_.map fun a=>[V.i64 a.kind,.i64 a.A,.i64 a.B,.i64 a.C,.u32 a.src,.u32 a.dst,.str a.aY]).flatten=X at*;simp only[go_sem,seval,p,cE,x,q,P,S,u,dr M];refine aF ?_
 have g:=o.boxed (zs:=[.i64 0,.i64 0,.i64 0,.i64 0,.u32 0#32,.u32 0#32,.str []]) (ys:=[.i64 as_[i].kind,.i64 as_[i].A,.i64 as_[i].B,.i64 as_[i].C,.u32 as_[i].src,.u32 as_[i].dst,.str as_[i].aY]) bT bT;by_cases s:as_[i].kind=6
 .refine pL s ?_
  rw[s] at g;have f:¬ ∀ a∈as_,a.kind≠6:=fun h=>h _ (eM W) s
  exact Ex.of g trivial (by rw[<-t,oZ f])
 refine pL s ?_
 refine cH (j-1) ⟨[(5,.slice b 0 as_.length 7),(6,.i64 as_.length),(7,.i64 (i+1:Nat))],_⟩ I (by simp[St.get,lookS,w1]) rfl (fun _ _ h=>h) ⟨i+1,_,I,g,fun c hc=>?_,fun m h T=>?_,rfl⟩
 .exact(pz (by have :=o.len;omega)).trans (d c hc)
 .by_cases e:m=i
  .subst e;exact s
  .exact r m I T
end
end
section
section
variable {K K0 K':RK}{H H0 H':aU}{Q0 Q:Rl->Prop}{k:b9}{L:bl}{bv av:V}{bs:List Int}{af:Z}{C:bO}{l:Log}{n:Nat}{as_:List cX}
def FI (as_:List cX):Prop:=(∀ a∈as_,¬ (a.kind=2/\1000000<a.A))/\as_.length<=60
theorem aiL (y:Cx K0 H0 Q0 K H)(o:iZ H av as_)(M:as_.length<=10000000000000):
  ∃ v K' H',Dx prog 8 [av] K H (fun _=>False) v K' H'/\∃ b:Bool,v= .bool b/\(b=true↔FI as_):=by
 have z:=o.low;refine ar (Q:=fun _=>False) (Post:=fun v K' H'=>∃ b:Bool,v= .bool b/\(b=true↔FI as_)) func8 (aH ?_);rcases o with⟨rfl,rfl⟩|⟨b,rfl,D,hg⟩
 .refine aK ?_
  refine ij 1 (aH ?_);exact Ex.of (y.start _) trivial ⟨_,rfl,by simp[FI]⟩
 refine aK ?_
 refine cG (fun j Y=>∃ (i:Nat) (O:aU),i+j=as_.length/\Cx K H (fun _=>False) K O/\(∀ c,c<H.length->ah O c=ah H c)/\(∀ d (h:d<i) (N:d<as_.length),¬ (as_[d].kind=2/\1000000<as_[d].A))/\Y=⟨[(0,.slice b 0 as_.length 7),(5,.slice b 0 as_.length 7),(6,.i64 as_.length),(7,.i64 i)],O⟩) ?_ ?_
 .exact dh as_.length ⟨[(0,.slice b 0 as_.length 7),(5,.slice b 0 as_.length 7),(6,.i64 as_.length),(7,.i64 (0:Nat))],H⟩ gJ rfl (fun _ _ h=>h) ⟨0,H,I,y.start _,fun _ _=>rfl,fun d h=>by omega,rfl⟩
 rintro j Y ⟨i,O,E,m,f,r,rfl⟩-;by_cases T:i<as_.length
 rotate_left
 .have p:¬ (i:Int)<(as_.length:Int):=I;have s:∀ a∈as_,¬ (a.kind=2/\1000000<a.A):=fun a F=>by
   obtain⟨d,h1,rfl⟩:=lr F;exact r d I h1
  refine pL p ?_
  refine Ex.of m trivial ⟨_,rfl,?_⟩;unfold FI;simp only[Fm];exact⟨fun h=>⟨s,I⟩,fun h=>by have :=h.2;omega⟩
 have p:(i:Int)<(as_.length:Int):=I;have u:(0:Int)<=(i:Int):=I;have W:bh ((i:Int)+1)=((i+1:Nat):Int):=by rw[bC I I];omega
 obtain⟨ro,w⟩:=hg I;have x:=(f b D).trans w;have q:=E4 T;have P:=Ju as_;have R:i*7+7<=as_.length*7:=I;have G:O.length<(O++[bK [.i64 0,.i64 0,.i64 0,.i64 0,.u32 0#32,.u32 0#32,.str []]]).length:=J;generalize (as_.map fun a=>[V.i64 a.kind,.i64 a.A,.i64 a.B,.i64 a.C,.u32 a.src,.u32 a.dst,.str a.aY]).flatten=X at*;simp only[go_sem,seval,p,cE,x,q,P,R,u,dr G];refine aF ?_
 have g:=m.boxed (zs:=[.i64 0,.i64 0,.i64 0,.i64 0,.u32 0#32,.u32 0#32,.str []]) (ys:=[.i64 as_[i].kind,.i64 as_[i].A,.i64 as_[i].B,.i64 as_[i].C,.u32 as_[i].src,.u32 as_[i].dst,.str as_[i].aY]) bT bT;have t:¬ (as_[i].kind=2/\1000000<as_[i].A)->∀ d (h:d<i+1) (N:d<as_.length),¬ (as_[d].kind=2/\1000000<as_[d].A):=fun h d h1 N=>by
  by_cases e:d=i
  .subst e;exact h
  .exact r d I N
 by_cases N:as_[i].kind=2
 .rw[N] at g;by_cases o:1000000<as_[i].A
  .refine Gh N o ?_
   exact Ex.of g trivial ⟨false,rfl,⟨fun h=>(nomatch h),fun h=>absurd ⟨N,o⟩ (h.1 _ (eM T))⟩⟩
  .refine Gh N o ?_
   exact cH (j-1) ⟨[(0,.slice b 0 as_.length 7),(5,.slice b 0 as_.length 7),(6,.i64 as_.length),(7,.i64 (i+1:Nat))],_⟩ I (by simp[St.get,lookS,W]) rfl (fun _ _ h=>h) ⟨i+1,_,I,g,fun c S=>(pz (by have :=m.len;omega)).trans (f c S),t fun h=>o h.2,rfl⟩
 .refine pL N ?_
  exact cH (j-1) ⟨[(0,.slice b 0 as_.length 7),(5,.slice b 0 as_.length 7),(6,.i64 as_.length),(7,.i64 (i+1:Nat))],_⟩ I (by simp[St.get,lookS,W]) rfl (fun _ _ h=>h) ⟨i+1,_,I,g,fun c S=>(pz (by have :=m.len;omega)).trans (f c S),t fun h=>N h.1,rfl⟩
end
end
theorem My (n:Int){m:Int}(f:m=2\/m=3):∃ v,bE prog 9 [.i64 n,.i64 m] v/\∃ q:Nat,v= .i64 q/\(q:Int)<m:=by
 have g:=Int.tmod_lt_of_pos n (show(0:Int)<m by omega);have i:=Int.lt_tmod_of_pos n (show(0:Int)<m by omega);have b:¬ m=0:=I;have d:m≠0:=b;refine nN (Post:=fun v=>∃ q:Nat,v= .i64 q/\(q:Int)<m) U U func9 rfl db bT (fun v h=>by obtain⟨q,rfl,-⟩:=h;simp[V.low]) (ce ?_);refine g9 b ?_;generalize n.tmod m=t at*;by_cases c:t<0
 .have w:bh (t+m)=((t+m).toNat:Int):=by rw[bC I I];omega
  refine i7 c w ?_
  exact⟨_,rfl,I⟩
 .have e:t=((t.toNat:Nat):Int):=I;refine d8 c ?_
  exact⟨t.toNat,by rw[<-e],I⟩
end Go.Vm
end
section
namespace Go.Vm
open Go.Proofs
section
def dy:cX:=⟨3,0,0,0,0#32,0#32,[]⟩
def lv (t:Int):cX:=⟨2,t,0,0,0#32,0#32,[]⟩
structure Gx where
 T:Int
 q:Int
 fi:Nat->Int
 kn:Nat->Nat->Prop
 ro:Prop
 r:Int
 T0:Int
 fr:Nat->Nat->Prop
 wz:Nat->Nat->Prop
 X0:Nat->Nat
structure Gx.ok (G:Gx):Prop where
 T:0<=G.T
 q:5<=G.q/\G.q<=900
 rd:G.ro->G.T=G.T0+6*G.r/\0<=G.r/\G.r<=12
def MX (C:bO)(l:Log)(G:Gx)(s t:Nat):bW->Prop
 | .first f aP m=>l s f.id.toNat=some (some f,t)/\aP=bI (C.own t)/\m.length=16/\f.sec<=G.T/\f.nano<G.fi s/\(f.su=2->G.kn s t)
 | .second g aP m=>l t g.f.id.toNat=some (some g.f,s)/\(∃ x,l s g.cg.toNat=some (x,t))/\g.aR=C.aR s t/\g.e.length=32/\g.ac=C.ac s/\aP=bI (C.own t)/\m.length=16/\(g.f.su=2->G.kn s t/\G.kn t s)/\(G.ro->G.X0 s<g.cg.toNat)
 | .gI u a d x b id=>∃ f:bL,l t f.id.toNat=some (some f,s)/\a.length=24/\d.length=16/\u=bI (C.own s)/\x=f.text/\b=cY (bI (C.own s)) f.text/\id=f.id
 | .data id k z=>(∃ x,l t id.toNat=some (x,s))/\0<=k/\k<=1099511627776/\16<=z.length/\z.length<=1000000/\(G.ro->(G.fr s t\/G.r<=2\/G.wz t s)/\(16<z.length->G.fr t s\/(G.r<=2/\G.wz s t)\/G.X0 t<id.toNat))
def fV (C:bO)(l:Log)(G:Gx)(g:Gr):Prop:=∃ s t M,s<C.n/\t<C.n/\s≠t/\g.1=BitVec.ofNat 32 (s+1)/\g.2.1=BitVec.ofNat 32 (t+1)/\g.2.2=M.text/\MX C l G s t M
structure TX (G:Gx) (j t:Nat) (T:bw) (W:Prop):Prop where
 wt:W->T.w=true
 tw:T.w=false->T.t=0
 tl:T.l<=G.T
 tu:T.u<=G.T
 r1:G.ro->T.w=true->G.r-5<=T.t
 r2:G.ro->¬ G.fr j t->T.w=false->T.o=true->(T.u<=G.T0\/(T.u<=G.T0+12/\G.wz t j))/\(1<=G.r->G.T<T.u+10)
structure SX (G:Gx) (j t:Nat) (ol se ne:Option aX):Prop where
 bo:∀ S,ol=some S\/se=some S\/ne=some S->S.bo<=G.T
 sq:∀ S,se=some S->S.se<=G.q
 nq:∀ S,ne=some S->S.se=0/\S.fs=false
 n2:∀ S,ne=some S->S.su=2->G.kn j t/\G.kn t j
 r3:G.ro->¬ G.fr j t->∀ S,ol=some S\/se=some S->S.eF.toNat<=G.X0 j
 fr:G.ro->G.fr j t->∀ S,se=some S->S.fs=false\/G.T0<=S.bo
structure KX (C:bO) (G:Gx) (j t:Nat) (a b:Int) (dV:Bool) (sec nano:Int):Prop where
 kn:G.kn j t->a=C.ac t
 k2:a=2->G.kn j t
 pn:b=2->G.kn j t/\G.kn t j/\C.ac j=2/\C.ac t=2
 st:dV=true->sec<=G.T/\nano<G.fi t
structure PX (C:bO) (G:Gx) (j i:Nat) (P:aj):Prop where
 tm:TX G j (bN j i) P.tm (P.waits≠[])
 ss:SX G j (bN j i) P.ol P.se P.ne
 ks:KX C G j (bN j i) P.kn P.bP P.dV P.sec P.nano
 wz:G.ro->G.wz j (bN j i)->P.waits=[]
structure DX (C:bO) (l:Log) (G:Gx) (j:Nat) (D:au):Prop where
 now:D.now=G.T
 fi:D.ct=G.fi j
 x0:G.ro->G.X0 j<=D.index.toNat
 out:∀ g∈D.out,fV C l G g
structure NX (C:bO) (l:Log) (G:Gx) (j:Nat) (N:bf):Prop where
 D:DX C l G j N.D
 P:∀ i (h:i<N.Ps.length),PX C G j i N.Ps[i]
 B:N.B.t<=G.T
structure GE (ch:Nat->Nat->Prop) (G G':Gx):Prop where
 T:G'.T=G.T
 q:G'.q=G.q
 fi:∀ s,G.fi s<=G'.fi s
 fo:∀ s,(∀ t,¬ ch s t)->G'.fi s=G.fi s
 kn:∀ s t,G.kn s t->G'.kn s t
 kb:∀ s t,¬ ch s t->G'.kn s t->G.kn s t
 ro:G'.ro=G.ro
 r:G'.r=G.r
 T0:G'.T0=G.T0
 X0:G'.X0=G.X0
 fr:∀ s t,G.fr s t->G'.fr s t
 fb:∀ s t,¬ ch s t->G'.fr s t->G.fr s t
 wz:∀ s t,G.wz s t->G'.wz s t
 wb:∀ s t,¬ ch s t->G'.wz s t->G.wz s t
section
variable {C:bO}{l l' l2:Log}{G G' G2:Gx}{j i s t c n:Nat}{D D':au}{P P':aj}{N:bf}{g:Gr}{M:bW}{ch ch2:Nat->Nat->Prop}{T:bw}{W:Prop}{ol se ne:Option aX}
theorem GE.refl (ch)(G:Gx):GE ch G G:=⟨rfl,rfl,fun _=>dY _,fun _ _=>rfl,fun _ _ h=>h,fun _ _ _ h=>h,rfl,rfl,rfl,rfl,fun _ _ h=>h,fun _ _ _ h=>h,fun _ _ h=>h,fun _ _ _ h=>h⟩
theorem GE.trans (h:GE ch G G')(h2:GE ch G' G2):GE ch G G2:=⟨h2.T.trans h.T,h2.q.trans h.q,fun s=>nG (h.fi s) (h2.fi s),fun s e=>(h2.fo s e).trans (h.fo s e),fun s t e=>h2.kn s t (h.kn s t e),fun s t e x=>h.kb s t e (h2.kb s t e x),h2.ro.trans h.ro,h2.r.trans h.r,h2.T0.trans h.T0,h2.X0.trans h.X0,fun s t e=>h2.fr s t (h.fr s t e),fun s t e x=>h.fb s t e (h2.fb s t e x),fun s t e=>h2.wz s t (h.wz s t e),fun s t e x=>h.wb s t e (h2.wb s t e x)⟩
theorem GE.mono (h:GE ch G G')(hc:∀ s t,ch s t->ch2 s t):GE ch2 G G':=⟨h.T,h.q,h.fi,fun s e=>h.fo s fun t x=>e t (hc s t x),h.kn,fun s t e=>h.kb s t fun x=>e (hc s t x),h.ro,h.r,h.T0,h.X0,h.fr,fun s t e=>h.fb s t fun x=>e (hc s t x),h.wz,fun s t e=>h.wb s t fun x=>e (hc s t x)⟩
theorem Gx.ok.ge (h:G.ok)(a:GE ch G G'):G'.ok:=⟨by rw[a.T];exact h.T,by rw[a.q];exact h.q,by rw[a.ro,a.T,a.T0,a.r];exact h.rd⟩
theorem MX.mono (h:MX C l G s t M)(o:Log.le l l')(d:GE ch G G'):MX C l' G' s t M:=by
 cases M with
 |first f aP m=>
  obtain⟨H,K,p,q,v,w⟩:=h;exact⟨o _ _ _ H,K,p,by rw[d.T];exact q,EN v (d.fi _),fun e=>d.kn _ _ (w e)⟩
 |second g aP m=>
  obtain⟨H,⟨x,K⟩,p,q,v,w,A,y,B⟩:=h;exact⟨o _ _ _ H,⟨x,o _ _ _ K⟩,p,q,v,w,A,fun e=>⟨d.kn _ _ (y e).1,d.kn _ _ (y e).2⟩,by rw[d.ro,d.X0];exact B⟩
 |gI u L Q x b O=>
  obtain⟨f,H,K⟩:=h;exact⟨f,o _ _ _ H,K⟩
 |data O k z=>
  obtain⟨⟨x,H⟩,K,p,q,v,w⟩:=h;refine⟨⟨x,o _ _ _ H⟩,K,p,q,v,?_⟩;rw[d.ro,d.r,d.X0];intro E;obtain⟨a,b⟩:=w E;refine⟨?_,fun F=>?_⟩
  .rcases a with a|a|a
   .exact .inl (d.fr _ _ a)
   .exact .inr (.inl a)
   .exact .inr (.inr (d.wz _ _ a))
  .rcases b F with b|b|b
   .exact .inl (d.fr _ _ b)
   .exact .inr (.inl ⟨b.1,d.wz _ _ b.2⟩)
   .exact .inr (.inr b)
theorem fV.mono (h:fV C l G g)(a:Log.le l l')(b:GE ch G G'):fV C l' G' g:=by
 obtain⟨s,t,M,o,p,d,e,f,k,m⟩:=h;exact⟨s,t,M,o,p,d,e,f,k,m.mono a b⟩
theorem TX.mono (h:TX G j t T W)(d:GE ch G G'):TX G' j t T W:=by
 refine⟨h.wt,h.tw,by rw[d.T];exact h.tl,by rw[d.T];exact h.tu,by rw[d.ro,d.r];exact h.r1,?_⟩;rw[d.ro,d.r,d.T,d.T0];intro e f k m;obtain⟨a,b⟩:=h.r2 e (fun x=>f (d.fr _ _ x)) k m;refine⟨?_,b⟩;rcases a with a|a
 .exact .inl a
 .exact .inr ⟨a.1,d.wz _ _ a.2⟩
theorem SX.mono (h:SX G j t ol se ne)(a:GE ch G G')(f:¬ ch j t):SX G' j t ol se ne:=by
 refine⟨by rw[a.T];exact h.bo,by rw[a.q];exact h.sq,h.nq,fun S e d=>⟨a.kn _ _ (h.n2 S e d).1,a.kn _ _ (h.n2 S e d).2⟩,?_,?_⟩
 .rw[a.ro,a.X0];exact fun b k=>h.r3 b fun x=>k (a.fr _ _ x)
 .rw[a.ro,a.T0];exact fun b k=>h.fr b (a.fb _ _ f k)
theorem KX.mono {kn bP sec nano:Int}{dV:Bool}(h:KX C G j t kn bP dV sec nano)(a:GE ch G G')(b:¬ ch j t):KX C G' j t kn bP dV sec nano:=
 ⟨fun e=>h.kn (a.kb _ _ b e),fun e=>a.kn _ _ (h.k2 e),fun e=>⟨a.kn _ _ (h.pn e).1,a.kn _ _ (h.pn e).2.1,(h.pn e).2.2⟩,fun e=>⟨by rw[a.T];exact(h.st e).1,EN (h.st e).2 (a.fi _)⟩⟩
theorem PX.mono (h:PX C G j i P)(a:GE ch G G')(b:¬ ch j (bN j i)):PX C G' j i P:=
 ⟨h.tm.mono a,h.ss.mono a b,h.ks.mono a b,by rw[a.ro];exact fun d e=>h.wz d (a.wb _ _ b e)⟩
theorem DX.mono (h:DX C l G j D)(b:Log.le l l')(a:GE ch G G')(d:G'.fi j=G.fi j):DX C l' G' j D:=
 ⟨h.now.trans a.T.symm,h.fi.trans d.symm,by rw[a.ro,a.X0];exact h.x0,fun g e=>(h.out g e).mono b a⟩
theorem NX.mono (h:NX C l G j N)(d:Log.le l l')(a:GE ch G G')(b:∀ t,¬ ch j t):NX C l' G' j N:=
 ⟨h.D.mono d a (a.fo _ b),fun i e=>(h.P i e).mono a (b _),by rw[a.T];exact h.B⟩
def Gx.set (G:Gx)(j t:Nat)(k f:Prop):Gx:={G with kn:=fun s u=>G.kn s u\/(k/\s=j/\u=t),fr:=fun s u=>G.fr s u\/(f/\s=j/\u=t),wz:=fun s u=>G.wz s u\/(f/\s=j/\u=t)}
theorem GE.set (G:Gx)(j t:Nat)(k f:Prop):GE (fun s u=>s=j/\u=t) G (G.set j t k f):=
 ⟨rfl,rfl,fun _=>dY _,fun _ _=>rfl,fun _ _ h=> .inl h,fun _ _ a h=>h.resolve_right fun x=>a x.2,rfl,rfl,rfl,rfl,fun _ _ h=> .inl h,fun _ _ a h=>h.resolve_right fun x=>a x.2,fun _ _ h=> .inl h,fun _ _ a h=>h.resolve_right fun x=>a x.2⟩
def Gx.first (G:Gx)(j:Nat):Gx:={G with fi:=fun s=>if s=j then G.fi s+1 else G.fi s}
theorem GE.first (G:Gx)(j t:Nat):GE (fun s u=>s=j/\u=t) G (G.first j):=
 ⟨rfl,rfl,fun s=>by show _<=(if s=j then G.fi s+1 else G.fi s);split <;>omega,fun s h=>aq fun e=>h t ⟨e,rfl⟩,fun _ _ h=>h,fun _ _ _ h=>h,rfl,rfl,rfl,rfl,fun _ _ h=>h,fun _ _ _ h=>h,fun _ _ h=>h,fun _ _ _ h=>h⟩
theorem DX.goes (h:DX C l G j D)(b:D.here=BitVec.ofNat 32 (j+1))(d:j<C.n)(ht:t<C.n)(a:j≠t)(e:MX C l G j t M):DX C l G j (D.goes (BitVec.ofNat 32 (t+1)) M.text):=by
 unfold au.goes;split
 .exact h
 .exact⟨h.now,h.fi,h.x0,fun g hg=>by
   rcases gZ.1 hg with hg|hg
   .exact h.out g hg
   .rw[oQ] at hg;subst hg;exact⟨j,t,M,d,ht,a,b,rfl,rfl,e⟩⟩
end
theorem bw.uI (T:bw)(n:Int):T.ev 1 n=⟨T.w,T.t,T.l,false,T.u⟩:=by simp[bw.ev,tW,tT,tL,tO,tU]
theorem bw.VN (T:bw)(n:Int):T.ev 2 n=⟨T.w,T.t,T.l,true,if T.o=true then T.u else n⟩:=by simp[bw.ev,tW,tT,tL,tO,tU]
theorem bw.CD (T:bw)(n:Int):T.ev 3 n=⟨true,T.t,T.l,T.o,T.u⟩:=by simp[bw.ev,tW,tT,tL,tO,tU]
theorem bw.JM (T:bw)(n:Int):T.ev 4 n=⟨true,T.t+1,n,T.o,T.u⟩:=by simp[bw.ev,tW,tT,tL,tO,tU]
theorem bw.Kt (T:bw)(n:Int):T.ev 5 n=⟨false,0,T.l,T.o,T.u⟩:=by simp[bw.ev,tW,tT,tL,tO,tU]
theorem bw.VJ (T:bw)(n:Int):T.ev 6 n=⟨false,0,0,false,0⟩:=by simp[bw.ev,tW,tT,tL,tO,tU]
end
section
def ma (a b:aQ)(S:aX):List Z->List Gr
 |[]=>[]
 |x::d=>(a,b,eI S.dX S.se (jz S.su S.sd S.se x))::ma a b {S with se:=S.se+1} d
theorem R8 {a b:aQ}:∀ {f:List Z} {S:aX} {g:Gr},g∈ma a b S f->∃ k x,x∈f/\S.se<=k/\k<S.se+f.length/\g=(a,b,eI S.dX k (jz S.su S.sd k x))
 |[],_,_,h=>nomatch h
 |x::f,S,g,h=>by
  rcases gz.1 h with h|h
  .exact⟨S.se,x,J,dY _,by simp only[dM];omega,h⟩
  .obtain⟨k,y,o,m,d,e⟩:=R8 h;have m:S.se+1<=k:=m;have d:k<S.se+1+f.length:=d;exact⟨k,y,by simp[o],I,by simp only[dM];omega,e⟩
theorem Jn {a b:aQ}:∀ {d:List Z} {S:aX},(ma a b S d).length=d.length
 |[],_=>rfl
 |_::d,_=>by show(ma _ _ _ d).length+1=_;rw[Jn];rfl
theorem RA {S:aX}{now:Int}(h1:now<S.bo+180)(h2:S.se<1000):¬ S.over now=true:=by
 unfold aX.over pd;rw[aq I];simp;omega
theorem adI {S:aX}{now:Int}(h:¬ S.over now=true):now<S.bo+180/\S.se<1000:=by
 unfold aX.over pd at h;by_cases a:S.bo+180<=now
 .rw[aM a] at h;exact absurd rfl h
 .rw[aq a] at h;simp at h;omega
theorem Sx {S:aX}{now:Int}(h1:now<S.bo+180)(h2:S.se<1000)(a:S.fs=true->now<S.bo+120):¬ S.pT now=true:=by
 have b:¬ pd S.bo S.se now=true:=RA h1 h2;unfold aX.pT FA;rw[aq b];split
 .rename_i e;have :=a e;simp;omega
 .simp
section
variable {C:bO}{l l' l2:Log}{G G' G1 G2:Gx}{j i s t c n:Nat}{D D':au}{P P':aj}{N:bf}{g:Gr}{M:bW}{S:aX}
theorem Pu {x:Z}(a:P.at_≠0#32)(d:P.se=some S)(h1:D.now<S.bo+180)(h2:S.se+1<1000)(e:S.fs=true->D.now<S.bo+120):
  eW D P x=({D with out:=D.out++[(D.here,P.at_,eI S.dX S.se (jz S.su S.sd S.se x))]},{P with se:=some {S with se:=S.se+1},tm:=P.tm.ev 1 D.now}):=by
 unfold eW;rw[d];dsimp only;rw[aq (RA h1 I)];have b:¬ ({S with se:=S.se+1}:aX).pT D.now=true:=Sx h1 h2 e;rw[aq b];unfold au.goes;rw[aq a]
theorem SS (a:P.at_≠0#32):∀ (h:List Z) {D:au} {T:bw} {S:aX},D.now<S.bo+180->S.se+h.length<1000->(S.fs=true->D.now<S.bo+120)->
  mj (D,{P with se:=some S,tm:=T}) h=({D with out:=D.out++ma D.here P.at_ S h},{P with se:=some {S with se:=S.se+h.length},tm:=if h=[] then T else T.ev 1 D.now})
 |[],D,T,S,_,_,_=>by
  show(D,_)=_;simp[ma]
 |x::h,D,T,S,k,m,b=>by
  simp only[dM] at m;have e:=Pu (D:=D) (P:={P with se:=some S,tm:=T}) (x:=x) a rfl k I b;show mj (eW D {P with se:=some S,tm:=T} x) h=_;rw[e];dsimp only;have ih:=SS a h (D:={D with out:=D.out++[(D.here,P.at_,eI S.dX S.se (jz S.su S.sd S.se x))]}) (T:=T.ev 1 D.now) (S:={S with se:=S.se+1}) k (by show S.se+1+_<_;omega) b;rw[ih];refine Prod.ext ?_ ?_
  .show({D with out:=_}:au)={D with out:=_};rw[hZ];rfl
  .have d:S.se+1+(h.length:Int)=S.se+((x::h).length:Int):=by simp only[dM];omega
   have f:(if h=[] then T.ev 1 D.now else(T.ev 1 D.now).ev 1 D.now)=T.ev 1 D.now:=by
    split
    .rfl
    .simp only[bw.uI]
   show({P with se:=some {S with se:=S.se+1+_},tm:=if h=[] then T.ev 1 D.now else(T.ev 1 D.now).ev 1 D.now}:aj)=_;rw[d,f,aq J]
theorem NV (a:P.at_≠0#32)(b:P.se=some S)(h1:D.now<S.bo+180)(h2:S.se+P.waits.length<1000)(d:S.fs=true->D.now<S.bo+120):
  mf D P=({D with out:=D.out++ma D.here P.at_ S P.waits},{P with waits:=[],se:=some {S with se:=S.se+P.waits.length},tm:=if P.waits=[] then P.tm else P.tm.ev 1 D.now}):=by
 have h:=SS (P:={P with waits:=[]}) a P.waits (D:=D) (T:=P.tm) (S:=S) h1 h2 d;unfold mf;have e:({P with waits:=[]}:aj)={({P with waits:=[]}:aj) with se:=some S,tm:=P.tm}:=by rw[<-b]
 rw[e,h]
def qE (l:List Z):List Z:=if l=[] then[[]] else l
theorem agP (l:List Z):(qE l).length<=l.length+1/\1<=(qE l).length:=by
 unfold qE;split
 .simp
 .rename_i h;have :=uS.2 h;omega
theorem QY (a:P.at_≠0#32)(b:P.se=some S)(h1:D.now<S.bo+180)(h2:S.se+P.waits.length+1<1000)(d:S.fs=true->D.now<S.bo+120):
  vg D P=({D with out:=D.out++ma D.here P.at_ S (qE P.waits)},{P with waits:=[],se:=some {S with se:=S.se+(qE P.waits).length},tm:=P.tm.ev 1 D.now}):=by
 unfold vg qE;by_cases e:P.waits=[]
 .rw[aM e,aM e,Pu a b h1 (by rw[e] at h2;simp at h2;omega) d];unfold mf mj;simp only[e];rfl
 .rw[aq e,aq e,NV a b h1 I d,aq e]
theorem yd (a:C.ok)(b:j<C.n)(hi:i<C.n-1):BitVec.ofNat 32 (bN j i+1)≠0#32:=fun e=>by
 have f:=qj hi b;have h:=a.n;have d:=dN BitVec.toNat e;simp at d;omega
theorem HM (id:aQ)(k:Int)(z:Z):eI id k z=(bW.data id k z).text:=rfl
theorem MJ (u:C.ok)(p:j<C.n)(ht:t<C.n)(f:j≠t){v:List Z}(b:∃ x,l t S.dX.toNat=some (x,j))(h0:0<=S.se)(h1:S.se+v.length<1000)(m:S.sd.length=32)(y:∀ x∈v,x.length<=2000)
  (o:G.ro->(G.fr j t\/G.r<=2\/G.wz t j)/\((∃ x∈v,x≠[])->G.fr t j\/(G.r<=2/\G.wz j t)\/G.X0 t<S.dX.toNat)):∀ g∈ma (BitVec.ofNat 32 (j+1)) (BitVec.ofNat 32 (t+1)) S v,fV C l G g:=fun g z=>by
 obtain⟨k,x,w,A,B,rfl⟩:=R8 z;have q:=yQ (s:=S.su) (n:=k) m (y x w);refine⟨j,t,.data S.dX k _,p,ht,f,rfl,rfl,HM _ _ _,b,I,I,I,by have :=y x w;omega,fun h=>⟨(o h).1,fun d=>(o h).2 ⟨x,w,fun e=>?_⟩⟩⟩;subst e;rw[q] at d;exact absurd d ag
structure GT (j t:Nat) (G G1:Gx):Prop where
 T:G.T<=G1.T
 q:G.q+1<=G1.q
 fi:∀ s,G.fi s<=G1.fi s
 kn:∀ s u,G.kn s u->G1.kn s u
 kb:G1.kn j t->G.kn j t
 ro:G1.ro=G.ro
 rd:G.ro->G1.T=G.T+6/\G1.r=G.r+1
 T0:G1.T0=G.T0
 X0:G1.X0=G.X0
 fr:∀ s u,G.fr s u->G1.fr s u
 fb:G1.fr j t->G.fr j t
 wz:∀ s u,G.wz s u->G1.wz s u
 wb:G1.wz j t->G.wz j t
theorem GT.ge {ch:Nat->Nat->Prop}(h:GT j t G G1)(a:GE ch G1 G2)(b:¬ ch j t):GT j t G G2:=
 ⟨by rw[a.T];exact h.T,by rw[a.q];exact h.q,fun s=>nG (h.fi s) (a.fi s),fun s u e=>a.kn _ _ (h.kn s u e),fun e=>h.kb (a.kb _ _ b e),a.ro.trans h.ro,by rw[a.T,a.r];exact h.rd,a.T0.trans h.T0,a.X0.trans h.X0,fun s u e=>a.fr _ _ (h.fr s u e),fun e=>h.fb (a.fb _ _ b e),fun s u e=>a.wz _ _ (h.wz s u e),fun e=>h.wb (a.wb _ _ b e)⟩
theorem SX.time {ol se ne:Option aX}(h:SX G j t ol se ne)(a:GT j t G G1):SX G1 j t ol se ne:=by
 have k:=a.q;have b:=a.T;refine⟨fun S e=>nG (h.bo S e) b,fun S e=>nG (h.sq S e) I,h.nq,fun S e f=>⟨a.kn _ _ (h.n2 S e f).1,a.kn _ _ (h.n2 S e f).2⟩,?_,?_⟩
 .rw[a.ro,a.X0];exact fun d m=>h.r3 d fun x=>m (a.fr _ _ x)
 .rw[a.ro,a.T0];exact fun d m=>h.fr d (a.fb m)
theorem KX.time {kn bP sec nano:Int}{dV:Bool}(h:KX C G j t kn bP dV sec nano)(a:GT j t G G1):KX C G1 j t kn bP dV sec nano:=
 ⟨fun e=>h.kn (a.kb e),fun e=>a.kn _ _ (h.k2 e),fun e=>⟨a.kn _ _ (h.pn e).1,a.kn _ _ (h.pn e).2.1,(h.pn e).2.2⟩,fun e=>⟨nG (h.st e).1 a.T,EN (h.st e).2 (a.fi _)⟩⟩
theorem SX.zN {ol se ne:Option aX}(h:SX G j t ol se ne)(m:GT j t G G1)(b:se=some S):SX G1 j t ol (some {S with se:=S.se+1}) ne:=by
 have p:=h.time m;have o:=m.q;refine⟨fun r e=>?_,fun r e=>?_,p.nq,p.n2,fun d u r e=>?_,fun d u r e=>?_⟩
 .rcases e with e|e|e
  .exact p.bo r (.inl e)
  .cases e;exact p.bo S (.inr (.inl b))
  .exact p.bo r (.inr (.inr e))
 .cases e;have :=h.sq S b;show S.se+1<=_;omega
 .rcases e with e|e
  .exact p.r3 d u r (.inl e)
  .cases e;exact p.r3 d u S (.inr b)
 .cases e;exact p.fr d u S b
end
end
section
theorem RN (T:bw)(now:Int):(T.nx now=1/\T.w=true)\/(T.nx now=3/\T.w=true)\/(T.nx now=2/\T.o=true/\T.u+10<=now/\(T.w=true->T.t≠0/\now<T.l+5))\/(T.nx now=0/\(T.w=true->T.t≠0/\now<T.l+5)/\(T.o=true->now<T.u+10)):=by
 unfold bw.nx zE;by_cases f:T.w=true/\T.t=0
 .rw[aM f];exact .inl ⟨rfl,f.1⟩
 rw[aq f];by_cases d:T.w=true/\T.l+5<=now
 .rw[aM d];by_cases a:T.t=6
  .rw[aM a];exact .inr (.inl ⟨rfl,d.1⟩)
  .rw[aq a];exact .inl ⟨rfl,d.1⟩
 rw[aq d];have h:T.w=true->T.t≠0/\now<T.l+5:=fun e=>⟨fun b=>f ⟨e,b⟩,Int.not_le.1 fun b=>d ⟨e,b⟩⟩
 by_cases a:T.o=true/\T.u+10<=now
 .rw[aM a];exact .inr (.inr (.inl ⟨rfl,a.1,a.2,h⟩))
 .rw[aq a];exact .inr (.inr (.inr ⟨rfl,h,fun e=>Int.not_le.1 fun b=>a ⟨e,b⟩⟩))
section
variable {C:bO}{l l' l2:Log}{G G' G1 G2:Gx}{j i s t c n:Nat}{D D':au}{P P':aj}{N:bf}{g:Gr}{M:bW}{S:aX}
theorem SX.first {ol se ne:Option aX}(h:SX G j t ol se ne)(s:Nat):SX (G.first s) j t ol se ne:=⟨h.bo,h.sq,h.nq,h.n2,h.r3,h.fr⟩
theorem KX.first {kn bP sec nano:Int}{dV:Bool}(h:KX C G j t kn bP dV sec nano)(s:Nat):KX C (G.first s) j t kn bP dV sec nano:=⟨h.kn,h.k2,h.pn,fun e=>⟨(h.st e).1,EN (h.st e).2 ((GE.first G s t).fi _)⟩⟩
theorem KF (a:P.ok){x:Z}(b:x.length<=900000)(now:Int):∃ m:Z,m.length=16/\P.gU now x=x++cY P.aP x++m/\(¬ P.un<now->P.ck≠[]->m=jV P.ck (x++cY P.aP x) 16):=by
 have h:=aj.Ef a (now:=now) (x:=x) I;have d:=Ap P.aP x (by rw[a.aP,fa];decide) I;refine⟨if(if P.un<now then[] else P.ck)=[] then List.replicate 16 0#8 else jV (if P.un<now then[] else P.ck) (x++cY P.aP x) 16,?_,rfl,fun e d=>by rw[aq e,aq d]⟩;unfold aj.gU s9 at h;rw[bA,bA] at h;omega
theorem Ja (a:DG C l j D c)(hc:c<=4000000000):(D.index+1#32).toNat=D.index.toNat+1:=by
 have b:=a.ix;rw[jL];show(D.index.toNat+1)%4294967296=_;omega
theorem Xj {a:Int}(h:0<=a):a.tmod 1000000000<=a:=by
 rw[II h];omega
theorem Mv (hC : C.ok) (hj : j < C.n) (hi : i < C.n - 1) (hP : PG C l j i P) (hD : DG C l j D c) (hl' : l' j (fg D P).id.toNat = some (some (fg D P), bN j i)) (hT : D.now ≤ G.T) (hf : D.ct < G.fi j) (hk : P.kn = 2 → G.kn j (bN j i)) :
    ∃ m : List zH, P.gU D.now (fg D P).text = (bW.first (fg D P) (bI (C.own (bN j i))) m).text ∧ MX C l' G j (bN j i) (.first (fg D P) (bI (C.own (bN j i))) m) ∧ (¬ P.un < D.now → P.ck ≠ [] → m = jV P.ck ((fg D P).text ++ cY (bI (C.own (bN j i))) (fg D P).text) 16) := by
  have hok := Cm hP.ok hD.ok
  obtain ⟨m, h1, h2, h3⟩ := KF hP.ok (x := (fg D P).text) (by rw [bL.w9 hok]; decide) D.now
  rw [hP.aP] at h2 h3
  refine ⟨m, h2, ⟨hl', rfl, h1, hT, Int.lt_of_le_of_lt (Xj hD.ok.ct.1) hf, fun e => hk ?_⟩, h3⟩
  have e : (if P.kn < D.ac then P.kn else D.ac) = 2 := e
  have a := hP.ok.kn
  have b := hD.ok.ac
  by_cases hlt : P.kn < D.ac
  · rw [if_pos hlt] at e; exact e
  · rw [if_neg hlt] at e; omega
theorem Sd (hC:C.ok)(hj:j<C.n)(hi:i<C.n-1)(hl:Log.ok C l)(hD:DG C l j D c)(X:PG C l j i P)(hc:c<=4000000000)(hG:G1.ok)(k:GT j (bN j i) G G1)(B:DX C l G1 j D)(y:PX C G j i P):
  ∃ l' G2,Ext j l l'/\Log.ok C l'/\DG C l' j (cT D P).1 (c+2)/\PG C l' j i (cT D P).2/\GE (fun s u=>s=j/\u=bN j i) G1 G2/\DX C l' G2 j (cT D P).1/\PX C G2 j i (cT D P).2:=by
 obtain⟨l',R,e2,F,E⟩:=(Yx hC hj hi hl hD X hc).ex;have b6:P.at_≠0#32:=by rw[X.at_];exact yd hC hj hi
 have a8:=qj hi hj;have b0:=pU (j:=j) (i:=i);have H:=B.now;have o:=k.T;have b3:=hG.T;have d:=y.tm;have O:=y.ss.time k;have K:=y.ks.time k;have Q:G1.ro->G1.wz j (bN j i)->P.waits=[]:=by rw[k.ro];exact fun f hw=>y.wz f (k.wb hw)
 have A:=B.mono R.le (GE.refl (fun _ _=>False) G1) rfl;have v:G.ro->G1.T=G1.T0+6*G1.r/\G1.T=G.T+6/\G1.r=G.r+1/\G1.T0=G.T0/\G1.r<=12:=fun f=>by
  obtain⟨a,b⟩:=k.rd f;obtain⟨a2,-,b2⟩:=hG.rd (by rw[k.ro];exact f);exact⟨a2,a,b,k.T0,b2⟩
 have L:(P.tm.w=true->P.tm.t≠0/\D.now<P.tm.l+5)->G.ro->P.tm.w=false:=fun h f=>by
  obtain⟨a,b,-⟩:=v f;have :=d.tl;cases hw:P.tm.w with
  |false=>rfl
  |true=>have :=(h hw).2;omega
 rcases RN P.tm D.now with⟨Y,hw⟩|⟨Y,hw⟩|⟨Y,ho,hu,hw⟩|⟨Y,hw,ho⟩
 .have e:cT D P=iR D P:=by unfold cT;rw[aM Y,aq b6]
  rw[e] at F E |-
  obtain⟨c8,c0,-⟩:=E.bg (fg D P) rfl;obtain⟨m,m1,m2,-⟩:=Mv (G:=G1.first j) hC hj hi X hD c0 (by rw[H];exact dY _) (by show _<(if j=j then G1.fi j+1 else G1.fi j);rw[aM rfl,B.fi];omega) fun e=>k.kn _ _ (y.ks.k2 e)
  refine⟨l',G1.first j,R,e2,F,E,GE.first G1 j _,?_,⟨?_,O.first j,K.first j,Q⟩⟩
  .show DX C l' _ j (au.goes _ P.at_ (P.gU D.now (fg D P).text));rw[X.at_,m1];refine DX.goes ⟨H,?_,fun f=>?_,fun g hg=>(B.out g hg).mono R.le (GE.first G1 j (bN j i))⟩ hD.here hj a8 b0 m2
   .show D.ct+1=if j=j then G1.fi j+1 else G1.fi j
    rw[aM rfl,B.fi]
   .have :=B.x0 f;show G1.X0 j<=(D.index+1#32).toNat;rw[Ja hD hc];omega
  .show TX _ j _ (P.tm.ev 4 D.now) _;rw[bw.JM];refine⟨fun _=>rfl,fun h=>(nomatch h),by rw[H];exact dY _,nG d.tu o,fun f _=>?_,fun _ _ h=>(nomatch h)⟩;have f:G1.ro:=f;rw[k.ro] at f;have :=d.r1 f hw;obtain⟨-,-,b,-⟩:=v f;show G1.r-5<=P.tm.t+1;omega
 .have e:cT D P=(D,{P with waits:=[],bg:=none,tm:=P.tm.ev 6 D.now}):=by unfold cT;rw[aq I,aq I,aM Y]
  rw[e] at F E |-
  refine⟨l',G1,R,e2,F,E,GE.refl _ _,A,⟨?_,O,K,fun _ _=>rfl⟩⟩;show TX _ j _ (P.tm.ev 6 D.now) _;rw[bw.VJ];exact⟨fun h=>absurd rfl h,fun _=>rfl,b3,b3,fun _ h=>(nomatch h),fun _ _ _ h=>(nomatch h)⟩
 .have V:G.ro->¬ G.fr j (bN j i)->(G1.r<=2\/(G1.r<=4/\G1.wz (bN j i) j)):=fun f hf=>by
   obtain⟨a,b,c1,c2,-⟩:=v f;obtain⟨p,q⟩:=d.r2 f hf (L hw f) ho;by_cases c3:1<=G.r
   .have :=q c3;rcases p with p|p
    .left;omega
    .right;exact⟨I,k.wz _ _ p.2⟩
   .left;omega
  by_cases z:P.my D.now=true
  .have e:cT D P=eW D P []:=by unfold cT;rw[aq I,aM Y,aM z]
   rw[e] at F E |-
   cases W:P.se with
   |none=>unfold aj.my at z;rw[W] at z;simp at z
   |some S=>
    have b4:¬ S.over D.now=true:=fun h=>by unfold aj.my at z;rw[W] at z;simp[h] at z
    have c4:eW D P []=(D.goes P.at_ (eI S.dX S.se (jz S.su S.sd S.se [])),{P with se:=some {S with se:=S.se+1},tm:=if({S with se:=S.se+1}:aX).pT D.now=true then(P.tm.ev 1 D.now).ev 3 D.now else P.tm.ev 1 D.now}):=by unfold eW;rw[W];exact aq b4
    rw[c4] at F E |-
    obtain⟨c5,c9⟩:=adI b4;have a6:=X.ok.se S W;obtain⟨-,x,hx⟩:=X.eC S (.inr (.inl W));have hz:=yQ (s:=S.su) (n:=S.se) (t:=[]) a6.sd ag;refine⟨l',G1,R,e2,F,E,GE.refl _ _,?_,⟨?_,by have :=y.ss.zN k W;exact this,K,Q⟩⟩
    .dsimp only;rw[X.at_,HM];refine A.goes hD.here hj a8 b0 ⟨⟨x,R.le _ _ _ hx⟩,a6.se.1,by have :=a6.se.2;omega,I,by rw[hz];decide,fun f=>⟨?_,fun h=>absurd h (by rw[hz];decide)⟩⟩;rw[k.ro] at f;by_cases hf:G.fr j (bN j i)
     .exact .inl (k.fr _ _ hf)
     .rcases V f hf with h|h
      .exact .inr (.inl h)
      .exact .inr (.inr h.2)
    .dsimp only;by_cases a7:({S with se:=S.se+1}:aX).pT D.now=true
     .rw[aM a7,bw.uI,bw.CD];refine⟨fun _=>rfl,fun h=>(nomatch h),nG d.tl o,nG d.tu o,fun f _=>?_,fun _ _ h=>(nomatch h)⟩;rw[k.ro] at f;have e0:=d.tw (L hw f);show G1.r-5<=P.tm.t;by_cases hf:G.fr j (bN j i)
      .refine absurd a7 (Sx c5 ?_ fun c6=>?_)
       .have :=y.ss.sq S W;have :=k.q;have :=hG.q.2;show S.se+1<1000;omega
       .obtain⟨a,-,-,b,b2⟩:=v f;rcases y.ss.fr f hf S W with h|h
        .rw[show S.fs=true from c6] at h;cases h
        .show D.now<S.bo+120;omega
      .rcases V f hf with h|h<;>omega
     .rw[aq a7,bw.uI];refine⟨d.wt,d.tw,nG d.tl o,nG d.tu o,fun f h=>?_,fun _ _ _ h=>(nomatch h)⟩;rw[k.ro] at f;rw[L hw f] at h;cases h
  .have e:cT D P=(D,{P with tm:=P.tm.ev 1 D.now}):=by unfold cT;rw[aq I,aM Y,aq z]
   rw[e] at F E |-
   refine⟨l',G1,R,e2,F,E,GE.refl _ _,A,⟨?_,O,K,Q⟩⟩;show TX _ j _ (P.tm.ev 1 D.now) _;rw[bw.uI];refine⟨d.wt,d.tw,nG d.tl o,nG d.tu o,fun f h=>?_,fun _ _ _ h=>(nomatch h)⟩;rw[k.ro] at f;rw[L hw f] at h;cases h
 .have e:cT D P=(D,P):=by unfold cT;rw[aq I,aq I,aq I]
  rw[e] at F E |-
  refine⟨l',G1,R,e2,F,E,GE.refl _ _,A,⟨⟨d.wt,d.tw,nG d.tl o,nG d.tu o,fun f h=>?_,fun f hf c7 b5=>⟨?_,fun _=>?_⟩⟩,O,K,Q⟩⟩
  .rw[k.ro] at f;rw[L hw f] at h;cases h
  .rw[k.ro] at f;rw[k.T0];rcases(d.r2 f (fun x=>hf (k.fr _ _ x)) c7 b5).1 with p|p
   .exact .inl p
   .exact .inr ⟨p.1,k.wz _ _ p.2⟩
  .have :=ho b5;show G1.T<P.tm.u+10;omega
end
end
section
section
variable {C:bO}{l l' l2:Log}{G G' G1 G2:Gx}{j i s t c n k:Nat}{D D':au}{P P':aj}{N:bf}{g:Gr}{M:bW}{S:aX}{B:eN}
theorem NG.peer (f:NG C l j N c)(hi:N.Ps[i]?=some P)(m:B.ok)(o:Ext j l l')(p:DG C l' j D' (c+k))(q:PG C l' j i P'):NG C l' j {N with B:=B,D:=D',Ps:=N.Ps.set i P'} (c+k):=by
 obtain⟨r,-⟩:=cA.1 hi;refine⟨p,fun b a=>?_,by show(N.Ps.set i P').length=_;rw[b7];exact f.len,m⟩;have d:b<N.Ps.length:=by
  have a:b<(N.Ps.set i P').length:=a;rw[b7] at a;exact a
 show PG C l' j b (N.Ps.set i P')[b];by_cases e:b=i
 .subst e;rw[uO];exact q
 .rw[vS (fun h=>e h.symm)];exact(f.P b d).mono o.le
theorem NX.peer (m:∀ a (h:a<N.Ps.length),a≠i->PX C G j a N.Ps[a])(o:B.t<=G.T)(f:GE (fun s u=>s=j/\u=bN j i) G G')(p:DX C l' G' j D')(q:PX C G' j i P'):NX C l' G' j {N with B:=B,D:=D',Ps:=N.Ps.set i P'}:=by
 refine⟨p,fun a b=>?_,by rw[f.T];exact o⟩;have d:a<N.Ps.length:=by
  have b:a<(N.Ps.set i P').length:=b;rw[b7] at b;exact b
 show PX C G' j a (N.Ps.set i P')[a];by_cases e:a=i
 .subst e;rw[uO];exact q
 .rw[vS (fun h=>e h.symm)];exact(m a d e).mono f fun h=>e (AJ h.2)
theorem PJ (r:C.ok)(v:j<C.n):∀ (ps:List aj) (O:Nat) {l:Log} {D:au} {c:Nat} {G1:Gx},O+ps.length<=C.n-1->Log.ok C l->DG C l j D c->(∀ i (h:i<ps.length),PG C l j (O+i) ps[i])->c+2*ps.length<=4000000000->G1.ok->DX C l G1 j D->(∀ i (h:i<ps.length),GT j (bN j (O+i)) G G1/\PX C G j (O+i) ps[i])->
  ∃ l' G2,Ext j l l'/\Log.ok C l'/\DG C l' j (dj D ps).1 (c+2*ps.length)/\(∀ i (h:i<(dj D ps).2.length),PG C l' j (O+i) (dj D ps).2[i])/\GE (fun s u=>s=j/\∃ i,O<=i/\u=bN j i) G1 G2/\DX C l' G2 j (dj D ps).1/\∀ i (h:i<(dj D ps).2.length),PX C G2 j (O+i) (dj D ps).2[i]
 |[],O,l,D,c,G1,_,e,f,_,_,_,m,_=>⟨l,G1,.refl l,e,f,fun i h=>by simp[dj] at h,GE.refl _ _,m,fun i h=>by simp[dj] at h⟩
 |P::ps,O,l,D,c,G1,Q,e,f,w,R,y,m,d=>by
  simp only[dM] at Q R;obtain⟨o,p⟩:=d 0 J;obtain⟨l',G2,z,A,E,F,q,H,K⟩:=Sd r v (i:=O) I e f (w 0 J) I y o m p;obtain⟨l2,T,f1,f2,f3,f4,f5,f6,f7⟩:=PJ r v ps (O+1) (D:=(cT D P).1) (c:=c+2) (G1:=G2) I A E (fun i h=>by
   have :=(w (i+1) cp).mono z.le;rw[show O+1+i=O+(i+1) by omega];exact this) I (y.ge q) H (fun i h=>by
   obtain⟨a,b⟩:=d (i+1) cp;rw[show O+1+i=O+(i+1) by omega];exact⟨a.ge q fun x=>by have :=AJ x.2;omega,b⟩)
  refine⟨l2,T,z.trans f1,f2,?_,fun i h=>?_,(q.mono fun s u h=>⟨h.1,O,bz _,h.2⟩).trans (f5.mono fun s u h=>by obtain⟨a,i,b,c⟩:=h;exact⟨a,i,I,c⟩),f6,fun i h=>?_⟩
  .show DG C l2 j (dj (cT D P).1 ps).1 (c+2*(ps.length+1));rw[show c+2*(ps.length+1)=c+2+2*ps.length by omega];exact f3
  .match i,h with
   |0,_=>exact F.mono f1.le
   |i+1,h=>
    have :=f4 i (by simpa [dj] using h);rw[show O+(i+1)=O+1+i by omega];exact this
  .match i,h with
   |0,_=>exact K.mono f5 fun x=>by obtain⟨-,L,W,V⟩:=x;have :=AJ V;omega
   |i+1,h=>
    have :=f7 i (by simpa [dj] using h);rw[show O+(i+1)=O+1+i by omega];exact this
theorem Uz (v:C.ok)(y:j<C.n)(z:Log.ok C l)(m:NG C l j N c)(hc:c<=3000000000)(A:G1.ok)(d:NX C l G j N)(o:∀ t,GT j t G G1)(p:G1.fi j=G.fi j){x:Int}(E:0<=x/\G.T+x<=1099511627776)(h1:G1.T=G.T+x)(f:N.D.out=[]):
  (dd N x).1=0/\∃ l' G2,Ext j l l'/\Log.ok C l'/\NG C l' j (dd N x).2 (c+4)/\GE (fun s _=>s=j) G1 G2/\NX C l' G2 j (dd N x).2:=by
 have K:=m.len;have F:=v.n;have w:=d.D.now;have e:dd N x=(0,{N with D:=(dj {N.D with now:=N.D.now+x} N.Ps).1,Ps:=(dj {N.D with now:=N.D.now+x} N.Ps).2}):=by unfold dd;rw[aq I]
 rw[e];refine⟨rfl,?_⟩;have b:=m.D;have a:=b.ok;have q:DG C l j {N.D with now:=N.D.now+x} c:=⟨⟨a.own,a.aP,a.af,a.ac,a.cz,by have :=a.now;show 0<=N.D.now+x/\N.D.now+x<=1099511627776;omega,a.ct,a.out,a.aT⟩,b.here,b.own,b.ac,b.ix,b.new,b.out⟩;have r:DX C l G1 j {N.D with now:=N.D.now+x}:=⟨by show N.D.now+x=_;omega,d.D.fi.trans p.symm,by rw[(o 0).ro,(o 0).X0];exact d.D.x0,fun g O=>by rw[show({N.D with now:=N.D.now+x}:au).out=[] from f] at O;exact nomatch O⟩;obtain⟨l',G2,f1,f2,f3,f4,f5,f6,f7⟩:=PJ v y N.Ps 0 I z q (fun i h=>by rw[eX];exact m.P i h) I A r fun i h=>by rw[eX];exact⟨o _,d.P i h⟩
 refine⟨l',G2,f1,f2,⟨f3.up I,fun i L=>?_,(CK _ _).trans K,m.B⟩,f5.mono fun s u h=>h.1,⟨f6,fun i L=>?_,?_⟩⟩
 .have :=f4 i L;rw[eX] at this;exact this
 .have :=f7 i L;rw[eX] at this;exact this
 .have Q:=f5.T;have H:=d.B;show N.B.t<=G2.T;omega
def Gx.more (G:Gx)(k:Int):Gx:={G with q:=G.q+k}
theorem MX.more (h:MX C l G s t M)(k:Int):MX C l (G.more k) s t M:=by
 cases M<;>exact h
theorem fV.more (h:fV C l G g)(k:Int):fV C l (G.more k) g:=by
 obtain⟨s,t,M,m,o,a,b,d,e,f⟩:=h;exact⟨s,t,M,m,o,a,b,d,e,f.more k⟩
theorem PX.more (h:PX C G j i P){k:Int}(a:0<=k):PX C (G.more k) j i P:=
 ⟨⟨h.tm.wt,h.tm.tw,h.tm.tl,h.tm.tu,h.tm.r1,h.tm.r2⟩,⟨h.ss.bo,fun S e=>by have :=h.ss.sq S e;show S.se<=G.q+k;omega,h.ss.nq,h.ss.n2,h.ss.r3,h.ss.fr⟩,⟨h.ks.kn,h.ks.k2,h.ks.pn,h.ks.st⟩,h.wz⟩
theorem DX.more (h:DX C l G j D)(k:Int):DX C l (G.more k) j D:=⟨h.now,h.fi,h.x0,fun g a=>(h.out g a).more k⟩
theorem NX.more (h:NX C l G j N){k:Int}(a:0<=k):NX C l (G.more k) j N:=⟨h.D.more k,fun i b=>(h.P i b).more a,h.B⟩
theorem GT.more (b:¬ G.ro)(a:Int):GT j t (G.more a) (G.more (a+1)):=⟨dY _,by show G.q+a+1<=G.q+(a+1);omega,fun _=>dY _,fun _ _ h=>h,fun h=>h,rfl,fun h=>absurd h b,rfl,rfl,fun _ _ h=>h,fun h=>h,fun _ _ h=>h,fun h=>h⟩
theorem NC (hC:C.ok)(Q:j<C.n)(R:Log.ok C l)(p:NG C l j N c)(hc:c<=3000000000)(a:¬ G.ro)(hG:(G.more 2).ok)(E:NX C l G j N)(F:aQ->Int×Bool)(src dst:aQ)(x:Z):
  ∃ l' G2,Ext j l l'/\Log.ok C l'/\NG C l' j (oT N F src dst x).2 (c+3)/\GE (fun s _=>s=j) (G.more 2) G2/\NX C l' G2 j (oT N F src dst x).2:=by
 have b5:∃ l' G2,Ext j l l'/\Log.ok C l'/\NG C l' j N (c+3)/\GE (fun s _=>s=j) (G.more 2) G2/\NX C l' G2 j N:=⟨l,G.more 2,.refl l,R,p.up I,GE.refl _ _,E.more ag⟩;unfold oT;by_cases h1:1000<(x.length:Int)
 .rw[aM h1];exact b5
 rw[aq h1];by_cases h2:(F dst).2=false
 .rw[aM h2];exact b5
 rw[aq h2];cases h3:N.Ps[(F dst).1.toNat]? with
 |none=>exact b5
 |some P=>
  dsimp only;generalize (F dst).1.toNat=i at*;obtain⟨w,K⟩:=cA.1 h3;have hi:i<C.n-1:=by rw[<-p.len];exact w
  have e:=p.P _ w;rw[K] at e;have f:=E.P _ w;rw[K] at f;have z:(ez src x).length<=2000:=by
   unfold ez;rw[bA,fD];omega
  have r:GT j (bN j i) G (G.more 1):=⟨dY _,dY _,fun _=>dY _,fun _ _ h=>h,fun h=>h,rfl,fun h=>absurd h a,rfl,rfl,fun _ _ h=>h,fun h=>h,fun _ _ h=>h,fun h=>h⟩;have T:GT j (bN j i) (G.more 1) (G.more 2):=GT.more a 1;have V:¬ (G.more 1).ro:=a;have W:=qj hi Q;have X:=pU (j:=j) (i:=i);have b6:∀ {l1:Log} {D1:au} {P1:aj} {c1:Nat},Ext j l l1->Log.ok C l1->c1<=c+1->DG C l1 j D1 c1->PG C l1 j i P1->DX C l1 G j D1->PX C (G.more 1) j i P1->∃ l' G2,Ext j l l'/\Log.ok C l'/\NG C l' j {N with D:=(cT D1 P1).1,Ps:=N.Ps.set i (cT D1 P1).2} (c+3)/\GE (fun s _=>s=j) (G.more 2) G2/\NX C l' G2 j {N with D:=(cT D1 P1).1,Ps:=N.Ps.set i (cT D1 P1).2}:=fun {l1 D1 P1 c1} L Y a6 a7 a8 m o=>by
   obtain⟨l',G2,e1,e2,e3,e4,e5,e6,e7⟩:=Sd hC Q hi Y (a7.up a6) a8 I hG T (m.more 2) o;exact⟨l',G2,L.trans e1,e2,p.peer h3 p.B (L.trans e1) (k:=3) (e3.up I) e4,e5.mono fun s u h=>h.1,NX.peer (G:=G.more 2) (fun i' b0 _=>(E.P i' b0).more ag) E.B e5 e6 e7⟩
  by_cases v:P.my N.D.now=true
  .rw[aM v];cases H:P.se with
   |none=>unfold aj.my at v;rw[H] at v;simp at v
   |some S=>
    have b2:¬ S.over N.D.now=true:=fun h=>by unfold aj.my at v;rw[H] at v;simp[h] at v
    obtain⟨l1,a1,a2,a3,a4⟩:=(Gb Q hi R p.D e z).ex;have O:eW N.D P (ez src x)=(N.D.goes P.at_ (eI S.dX S.se (jz S.su S.sd S.se (ez src x))),{P with se:=some {S with se:=S.se+1},tm:=if({S with se:=S.se+1}:aX).pT N.D.now=true then(P.tm.ev 1 N.D.now).ev 3 N.D.now else P.tm.ev 1 N.D.now}):=by unfold eW;rw[H];exact aq b2
    have A:=e.ok.se S H;obtain⟨-,y,hy⟩:=e.eC S (.inr (.inl H));have hz:=yQ (s:=S.su) (n:=S.se) A.sd z;have b:=f.tm;have m:DX C l G j (eW N.D P (ez src x)).1:=by
     rw[O];dsimp only;rw[e.at_,HM];exact E.D.goes p.D.here Q W X ⟨⟨y,hy⟩,A.se.1,by have :=A.se.2;omega,I,I,fun d=>absurd d a⟩
    have o:PX C (G.more 1) j i (eW N.D P (ez src x)).2:=by
     rw[O];refine⟨?_,f.ss.zN r H,f.ks.time r,fun d=>absurd d a⟩;dsimp only;split
     .rw[bw.uI,bw.CD];exact⟨fun _=>rfl,fun h=>(nomatch h),b.tl,b.tu,fun d=>absurd d a,fun d=>absurd d a⟩
     .rw[bw.uI];exact⟨b.wt,b.tw,b.tl,b.tu,fun d=>absurd d a,fun d=>absurd d a⟩
    exact b6 a1 a2 (bz _) a3 a4 (m.mono a1.le (GE.refl (fun _ _=>False) G) rfl) o
  .rw[aq v];have b3:=IZ e.ok z p.D.ok.now;have b4:PG C l j i {P with waits:=lO P.waits (ez src x),tm:=P.tm.ev 3 N.D.now}:=⟨b3,e.num,e.q,e.aR,e.at_,e.kn,e.bg,e.se,e.ne,e.eC⟩;have b:=f.tm;refine b6 (.refl l) R (rI c) p.D b4 E.D ⟨?_,f.ss.time r,f.ks.time r,fun d=>absurd d a⟩;show TX _ j _ (P.tm.ev 3 N.D.now) _;rw[bw.CD];exact⟨fun _=>rfl,fun h=>(nomatch h),b.tl,b.tu,fun d=>absurd d a,fun d=>absurd d a⟩
end
end
end Go.Vm
end
