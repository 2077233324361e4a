/- Proved: laws of a machine of values, or what a function answers; no conditions but each theorem's own. -/
import Derived.Test.YtgnnehmeciepaaaGreatDoorVmI1ToSkC
import Derived.Test.YtgnnehmeciepaaaGreatDoorTypesToLsE
import Derived.Test.YtgnnehmeciepaaaGreatDoorVmYToNum
set_option linter.unusedVariables false
set_option linter.unusedSimpArgs false
set_option linter.unusedSectionVars false
set_option maxRecDepth 20000
set_option maxHeartbeats 8000000
section
namespace Go.Vm
open Go.Proofs
section
structure HS where
 h:List ac
 c:List ac
 k:List ac
 n:BitVec 64
def HS.ok (s:HS):Prop:=s.h.length=32∧s.c.length=32
def HS.cs (x:Int)(s:HS):List V:=bO x s.h s.c s.k s.n
noncomputable def HS.mix (x:Int) (s:HS) (t:List ac):HS:=⟨dG x (s.h++t),s.c,s.k,s.n⟩
noncomputable def HS.key (x:Int) (s:HS) (t:List ac):HS:=⟨s.h,d2 x s.c t 0,d2 x s.c t 1,0#64⟩
noncomputable def HS.psk (x:Int) (s:HS) (t:List ac):HS:=⟨dG x (s.h++d3 x s.c t 1),d3 x s.c t 0,d3 x s.c t 2,0#64⟩
noncomputable def HS.out (x:Int) (s:HS) (t:List ac):List ac:=(eA x s.k (bS x s.n) s.h t).1
noncomputable def HS.next (x:Int) (s:HS) (z:List ac):HS:=⟨dG x (s.h++z),s.c,s.k,s.n+1#64⟩
noncomputable def HS.both (x:Int) (s:HS) (t:List ac):HS:=(s.mix x t).key x t
theorem HS.rens (x:Int)(s:HS)(σ:Nat→Nat):Go.Vm.rens σ (s.cs x)=s.cs x:=rfl
theorem HS.low (x:Int)(s:HS)(m:Nat):aa m (s.cs x)=True:=Qv ..
theorem HS.len (x:Int)(s:HS):(s.cs x).length=5:=rfl
section
variable {x:Int}{s:HS}{t z:List ac}
theorem HS.ok_mix (hx:x=1∨x=2)(h:s.ok)(ht:t.length≤549755813888):(s.mix x t).ok:=⟨(mz hx _ (by have :=h.1;simp;omega)).2,h.2⟩
theorem HS.ok_key (hx:x=1∨x=2)(h:s.ok)(ht:t.length≤549755813888):(s.key x t).ok∧(s.key x t).k.length=32:=by
 obtain⟨-,h1,h2⟩:=sc hx s.c t (by have :=h.2;omega) ht
 exact⟨⟨h.1,h1⟩,h2⟩
theorem HS.ok_psk (hx:x=1∨x=2)(h:s.ok)(ht:t.length≤549755813888):(s.psk x t).ok∧(s.psk x t).k.length=32:=by
 obtain⟨-,h1,h2,h3⟩:=Ct hx s.c t (by have :=h.2;omega) ht
 exact⟨⟨(mz hx _ (by have :=h.1;simp;omega)).2,h1⟩,h3⟩
theorem HS.ok_next (hx:x=1∨x=2)(h:s.ok)(ht:t.length≤549755813888):(s.next x t).ok:=⟨(mz hx _ (by have :=h.1;simp;omega)).2,h.2⟩
theorem HS.ok_both (hx:x=1∨x=2)(h:s.ok)(ht:t.length≤549755813888):(s.both x t).ok∧(s.both x t).k.length=32:=HS.ok_key hx (HS.ok_mix hx h ht) ht
theorem DX (hx:x=1∨x=2)(h:s.ok)(ht:t.length≤549755813888):ag Tryz.prog 154 [.ptr 0 0,.str t] [bK (s.cs x)] (.tup []) [bK ((s.mix x t).cs x)]:=pG hx s.h s.c s.k s.n h.1 t ht
theorem DY (hx:x=1∨x=2)(h:s.ok)(ht:t.length≤549755813888):ag Tryz.prog 155 [.ptr 0 0,.str t] [bK (s.cs x)] (.tup []) [bK ((s.key x t).cs x)]:=Kg hx s.h s.c s.k s.n h.2 t ht
theorem DZ (hx:x=1∨x=2)(h:s.ok)(ht:t.length≤549755813888):ag Tryz.prog 142 [.ptr 0 0,.str t] [bK (s.cs x)] (.tup []) [bK ((s.psk x t).cs x)]:=IC hx s.h s.c s.k s.n h.1 h.2 t ht
theorem Vw (hx:x=1∨x=2)(h:s.ok)(hk:s.k.length=32)(ht:t.length≤2000):ag Tryz.prog 157 [.ptr 0 0,.str t] [bK (s.cs x)] (.tup [.str (s.out x t),.i64 0]) [bK ((s.next x (s.out x t)).cs x)]:=Ki hx s.h s.c s.k s.n h.1 hk t ht
theorem Vx (hx:x=1∨x=2)(h:s.ok)(hk:s.k.length=32)(ht:t.length≤2000):ag Tryz.prog 160 [.ptr 0 0,.str (s.out x t)] [bK (s.cs x)] (.tup [.str t,.i64 0]) [bK ((s.next x (s.out x t)).cs x)]:=by
 obtain⟨h1,h2,h3⟩:=nV (x:=x) (k:=s.k) (c:=bS x s.n) (m:=s.h) (t:=t) hk (nB x s.n) (by have :=h.1;omega) ht
 exact Kj hx s.h s.c s.k s.n h.1 hk (s.out x t) t h3 (by show(eA x s.k (bS x s.n) s.h t).1.length≤_;omega)
theorem HS.out_length (h:s.ok)(hk:s.k.length=32)(ht:t.length≤2000):(s.out x t).length=t.length+16:=
 (nV (x:=x) (k:=s.k) (c:=bS x s.n) (m:=s.h) (t:=t) hk (nB x s.n) (by have :=h.1;omega) ht).2.1
theorem si (hx:x=1∨x=2)(h:s.ok)(ht:t.length≤549755813888)(e:Int):ag Tryz.prog 121 [.ptr 0 0,.str t] (aT e (s.cs x)) (.tup []) (aT e ((s.both x t).cs x)):=by
 have h1:=DX hx h ht
 have h2:=DY hx (HS.ok_mix hx h ht) ht
 have r1:=s.rens x
 have l1:=s.low x
 have r2:=(s.mix x t).rens x
 have l2:=(s.mix x t).low x
 have r3:=(s.both x t).rens x
 have l3:=(s.both x t).low x
 change ag Tryz.prog 155 _ _ _ [bK ((s.both x t).cs x)] at h2
 generalize (s.both x t).cs x=c3 at*
 generalize (s.mix x t).cs x=c2 at*
 generalize s.cs x=c1 at*
 have :∃ v h',ag Tryz.prog 121 [.ptr 0 0,.str t] (aT e c1) v h'∧(v= .tup []∧h'=aT e c3):=by
  unfold aT
  refine dI (Post:=fun v h'=>v= .tup []∧h'=[bK [.ptr 1 0,.i64 e],bK c3]) (by kernel_rfl) (fn:=Tryz.f121) Tryz.func121 rfl (by show 2≤16;decide) (ae ?_)
  simp only[go_sem,seval]
  repeat refine aJ ?_
  refine aq [1] (h1) (by kernel_rfl) (by simp) rfl (by simp) (by first|decide|simp) (by simp) (by simp) (by simp[r1,l1]) (by simp) (by simp) ?_
  simp only[go_sem,seval,r2]
  repeat refine aJ ?_
  refine aq [1] (h2) (by kernel_rfl) (by simp) rfl (by simp) (by first|decide|simp) (by simp) (by simp) (by simp[r2,l2]) (by simp) (by simp) ?_
  simp only[go_sem,seval,r3]
  repeat refine aJ ?_
  refine⟨_,_,?_,Fin.take 2 (by simp) (by simp) (by simp[eo,aa,V.low,-List.map_take,-List.map_drop,-List.map_map,-List.map_set]) (by simp[aO,aa,V.low,-List.map_take,-List.map_drop,-List.map_map,-List.map_set,l3])⟩
  exact⟨rfl,rfl⟩
 obtain⟨_,_,hs,rfl,rfl⟩:=this
 exact hs
theorem lr (hx:x=1∨x=2)(h:s.ok){k u:List ac}(hk:k.length=32)(hu:u.length=32)(hz:bJ k u≠List.replicate 32 0#8):ag Tryz.prog 122 [.ptr 0 0,.str k,.str u] (aT 0 (s.cs x)) (.tup []) (aT 0 ((s.key x (bJ k u)).cs x)):=by
 have hsh:=IR k u
 have e1:qo k u=(bJ k u,0):=by unfold qo;rw[if_pos ⟨hk,hu⟩,if_neg hz]
 rw[e1] at hsh
 have h2:=DY hx h (t:=bJ k u) (by rw[mj];decide)
 have r1:=s.rens x
 have l1:=s.low x
 have r3:=(s.key x (bJ k u)).rens x
 have l3:=(s.key x (bJ k u)).low x
 generalize (s.key x (bJ k u)).cs x=c3 at*
 generalize s.cs x=c1 at*
 clear e1 hz
 generalize bJ k u=z at*
 have :∃ v h',ag Tryz.prog 122 [.ptr 0 0,.str k,.str u] (aT 0 c1) v h'∧(v= .tup []∧h'=aT 0 c3):=by
  unfold aT
  refine dI (Post:=fun v h'=>v= .tup []∧h'=[bK [.ptr 1 0,.i64 0],bK c3]) (by kernel_rfl) (fn:=Tryz.f122) Tryz.func122 rfl (by show 3≤32;decide) (ae ?_)
  simp only[go_sem,seval]
  repeat refine aJ ?_
  refine ak (hsh) ?_
  simp only[go_sem,seval]
  repeat refine aJ ?_
  refine aq [1] (h2) (by kernel_rfl) (by simp) rfl (by simp) (by first|decide|simp) (by simp) (by simp) (by simp[r1,l1]) (by simp) (by simp) ?_
  simp only[go_sem,seval,r3]
  repeat refine aJ ?_
  refine⟨_,_,?_,Fin.take 2 (by simp) (by simp) (by simp[eo,aa,V.low,-List.map_take,-List.map_drop,-List.map_map,-List.map_set]) (by simp[aO,aa,V.low,-List.map_take,-List.map_drop,-List.map_map,-List.map_set,l3])⟩
  exact⟨rfl,rfl⟩
 obtain⟨_,_,hs,rfl,rfl⟩:=this
 exact hs
theorem wi (hx:x=1∨x=2)(h:s.ok)(hk:s.k.length=32)(ht:t.length≤2000):ag Tryz.prog 123 [.ptr 0 0,.str t] (aT 0 (s.cs x)) (.str (s.out x t)) (aT 0 ((s.next x (s.out x t)).cs x)):=by
 have h2:=Vw hx h hk ht
 have r1:=s.rens x
 have l1:=s.low x
 have r3:=(s.next x (s.out x t)).rens x
 have l3:=(s.next x (s.out x t)).low x
 generalize (s.next x (s.out x t)).cs x=c3 at*
 generalize s.out x t=o at*
 generalize s.cs x=c1 at*
 have :∃ v h',ag Tryz.prog 123 [.ptr 0 0,.str t] (aT 0 c1) v h'∧(v= .str o∧h'=aT 0 c3):=by
  unfold aT
  refine dI (Post:=fun v h'=>v= .str o∧h'=[bK [.ptr 1 0,.i64 0],bK c3]) (by kernel_rfl) (fn:=Tryz.f123) Tryz.func123 rfl (by show 2≤23;decide) (ae ?_)
  simp only[go_sem,seval]
  repeat refine aJ ?_
  refine aq [1] (h2) (by kernel_rfl) (by simp) rfl (by simp) (by first|decide|simp) (by simp) (by simp) (by simp[r1,l1]) (by simp) (by simp) ?_
  simp only[go_sem,seval,r3]
  repeat refine aJ ?_
  refine⟨_,_,?_,Fin.take 2 (by simp) (by simp) (by simp[V.low,-List.map_take,-List.map_drop,-List.map_map,-List.map_set]) (by simp[aO,aa,V.low,-List.map_take,-List.map_drop,-List.map_map,-List.map_set,l3])⟩
  exact⟨rfl,rfl⟩
 obtain⟨_,_,hs,rfl,rfl⟩:=this
 exact hs
theorem wj (hx:x=1∨x=2)(h:s.ok)(hk:s.k.length=32)(ht:t.length≤2000):ag Tryz.prog 138 [.ptr 0 0,.str (s.out x t)] (aT 0 (s.cs x)) (.str t) (aT 0 ((s.next x (s.out x t)).cs x)):=by
 have h2:=Vx hx h hk ht
 have r1:=s.rens x
 have l1:=s.low x
 have r3:=(s.next x (s.out x t)).rens x
 have l3:=(s.next x (s.out x t)).low x
 generalize (s.next x (s.out x t)).cs x=c3 at*
 generalize s.out x t=o at*
 generalize s.cs x=c1 at*
 have :∃ v h',ag Tryz.prog 138 [.ptr 0 0,.str o] (aT 0 c1) v h'∧(v= .str t∧h'=aT 0 c3):=by
  unfold aT
  refine dI (Post:=fun v h'=>v= .str t∧h'=[bK [.ptr 1 0,.i64 0],bK c3]) (by kernel_rfl) (fn:=Tryz.f138) Tryz.func138 rfl (by show 2≤23;decide) (ae ?_)
  simp only[go_sem,seval]
  repeat refine aJ ?_
  refine aq [1] (h2) (by kernel_rfl) (by simp) rfl (by simp) (by first|decide|simp) (by simp) (by simp) (by simp[r1,l1]) (by simp) (by simp) ?_
  simp only[go_sem,seval,r3]
  repeat refine aJ ?_
  refine⟨_,_,?_,Fin.take 2 (by simp) (by simp) (by simp[V.low,-List.map_take,-List.map_drop,-List.map_map,-List.map_set]) (by simp[aO,aa,V.low,-List.map_take,-List.map_drop,-List.map_map,-List.map_set,l3])⟩
  exact⟨rfl,rfl⟩
 obtain⟨_,_,hs,rfl,rfl⟩:=this
 exact hs
end
def jR (x:Int):List ac:=bytesOf ⟨#[115,111,117,116,101,114,114,97,105,110]⟩++[BitVec.ofInt 8 x]
theorem uv (x:Int):(jR x).length=11:=rfl
noncomputable def HS.start (x:Int) (u:List ac):HS:=HS.mix x ⟨dG x (hZ x++jR x),hZ x,[],0#64⟩ u
theorem HS.ok_start {x:Int}(hx:x=1∨x=2){u:List ac}(hu:u.length≤549755813888):(HS.start x u).ok:=by
 obtain⟨h1,-⟩:=BF hx
 refine HS.ok_mix hx ⟨(mz hx _ ?_).2,h1⟩ hu
 rw[List.length_append,h1,uv];decide
theorem BV {x:Int}(hx:x=1∨x=2){u:List ac}(hu:u.length≤549755813888):ag Tryz.prog 120 [.i64 x,.str u] [] (.ptr 0 0) (aT 0 ((HS.start x u).cs x)):=by
 obtain⟨g1,g2⟩:=BF hx
 have h1:=g2 (jR x) (by rw[uv];decide)
 have ho:(⟨dG x (hZ x++jR x),hZ x,[],0#64⟩:HS).ok:=⟨(mz hx _ (by rw[List.length_append,g1,uv];decide)).2,g1⟩
 have h2:=DX hx ho (t:=u) hu
 change ag Tryz.prog 154 _ _ _ [bK ((HS.start x u).cs x)] at h2
 change ag Tryz.prog 153 _ _ _ [bK (HS.cs x ⟨dG x (hZ x++jR x),hZ x,[],0#64⟩)] at h1
 have r1:=HS.rens x ⟨dG x (hZ x++jR x),hZ x,[],0#64⟩
 have l1:=HS.low x ⟨dG x (hZ x++jR x),hZ x,[],0#64⟩
 have r2:=(HS.start x u).rens x
 have l2:=(HS.start x u).low x
 generalize (HS.start x u).cs x=c3 at*
 generalize HS.cs x ⟨dG x (hZ x++jR x),hZ x,[],0#64⟩=c1 at*
 have en:jR x=bytesOf ⟨#[115,111,117,116,101,114,114,97,105,110]⟩++[BitVec.ofInt 8 x]:=rfl
 generalize jR x=nm at*
 have :∃ v h',ag Tryz.prog 120 [.i64 x,.str u] [] v h'∧(v= .ptr 0 0∧h'=aT 0 c3):=by
  unfold aT
  refine dI (Post:=fun v h'=>v= .ptr 0 0∧h'=[bK [.ptr 1 0,.i64 0],bK c3]) (by kernel_rfl) (fn:=Tryz.f120) Tryz.func120 rfl (by show 2≤23;decide) (ae ?_)
  simp only[go_sem,seval,←en]
  repeat refine aJ ?_
  refine aq [] (h1) (by kernel_rfl) (by simp) rfl (by simp) (by first|decide|simp) (by simp) (by simp) (by simp) (by simp) (by simp) ?_
  simp only[go_sem,seval,r1]
  repeat refine aJ ?_
  refine aq [1] (h2) (by kernel_rfl) (by simp) rfl (by simp) (by first|decide|simp) (by simp) (by simp) (by simp[r1,l1]) (by simp) (by simp) ?_
  simp only[go_sem,seval,r2]
  repeat refine aJ ?_
  refine⟨_,_,⟨rfl,rfl⟩,?_⟩
  exact Fin.ren [2,1] (by simp) (by simp) (by rfl) (by decide) (by simp) (by simp[r2,l2])
 obtain⟨_,_,hs,rfl,rfl⟩:=this
 exact hs
end
end Go.Vm
end
section
namespace Go.Cv
def Prm (n:Nat):Prop:=2≤n∧∀ d,d∣n→d=1∨d=n
theorem zK:∀ n:Nat,2≤n→∃ r,Prm r∧r∣n:=by
 intro n
 induction n using Nat.strongRecOn with
 |ind n ih=>
  intro hn
  by_cases h:∀ d,d∣n→d=1∨d=n
  ·exact⟨n,⟨hn,h⟩,Nat.dvd_refl n⟩
  ·obtain⟨d,h⟩:=Classical.not_forall.1 h
   obtain⟨hd,h⟩:=Classical.not_imp.1 h
   have h1:d≠1:=fun e=>h (.inl e)
   have h2:d≠n:=fun e=>h (.inr e)
   have hle:=Nat.le_of_dvd (by omega) hd
   have h0:d≠0:=fun e=>by subst e;have :=Nat.eq_zero_of_zero_dvd hd;omega
   obtain⟨r,hr,hrd⟩:=ih d (by omega) (by omega)
   exact⟨r,hr,Nat.dvd_trans hrd hd⟩
theorem Prm.dvd_mul {p a b:Nat}(hp:Prm p)(h:p∣a*b):p∣a∨p∣b:=by
 rcases hp.2 (Nat.gcd p a) (Nat.gcd_dvd_left p a) with e|e
 ·exact .inr (Nat.Coprime.dvd_of_dvd_mul_left e h)
 ·exact .inl (by rw[←e];exact Nat.gcd_dvd_right p a)
theorem Prm.eq_of_dvd {p q:Nat}(hp:Prm p)(hq:Prm q)(h:p∣q):p=q:=by
 rcases hq.2 p h with e|e
 ·have :=hp.1;omega
 ·exact e
def kI:List Nat→Nat
 |[]=>1
 |a::l=>a*kI l
theorem Prm.mem_prod {p:Nat}(hp:Prm p):∀ {l:List Nat},(∀ q∈l,Prm q)→p∣kI l→p∈l
 |[],_,h=>by
  have :=Nat.le_of_dvd (by decide) h
  have :=hp.1
  simp[kI] at*
  omega
 |q::l,hl,h=>by
  rcases hp.dvd_mul h with h|h
  ·rw[hp.eq_of_dvd (hl q (by simp)) h];simp
  ·exact List.mem_cons_of_mem _ (hp.mem_prod (fun q hq=>hl q (by simp[hq])) h)
theorem sM:∀ (m n:Nat) (f:Nat→Nat),(∀ i,i<n→f i<m)→(∀ i j,i<n→j<n→f i=f j→i=j)→n≤m
 |0,n,f,h,_=>by
  cases n with
  |zero=>exact Nat.le_refl _
  |succ n=>exact absurd (h 0 (by omega)) (by omega)
 |m+1,n,f,h,inj=>by
  by_cases he:∃ i,i<n∧f i=m
  ·obtain⟨i0,hi0,e0⟩:=he
   have :=sM m (n-1) (fun i=>if i=i0 then f (n-1) else f i) (fun i hi=>by
    show(if i=i0 then f (n-1) else f i)<m
    by_cases e:i=i0
    ·rw[if_pos e]
     have :=h (n-1) (by omega)
     have :f (n-1)≠m:=fun e2=>by have :=inj (n-1) i0 (by omega) hi0 (by rw[e2,e0]);omega
     omega
    ·rw[if_neg e]
     have :=h i (by omega)
     have :f i≠m:=fun e2=>e (inj i i0 (by omega) hi0 (by rw[e2,e0]))
     omega) (fun i j hi hj e=>by
    have e:(if i=i0 then f (n-1) else f i)=(if j=i0 then f (n-1) else f j):=e
    by_cases e1:i=i0
    ·by_cases e2:j=i0
     ·omega
     ·rw[if_pos e1,if_neg e2] at e
      have :=inj (n-1) j (by omega) (by omega) e
      omega
    ·by_cases e2:j=i0
     ·rw[if_neg e1,if_pos e2] at e
      have :=inj i (n-1) (by omega) (by omega) e
      omega
     ·rw[if_neg e1,if_neg e2] at e
      exact inj i j (by omega) (by omega) e)
   omega
  ·have :=sM m n f (fun i hi=>by
    have :=h i hi
    have :f i≠m:=fun e=>he ⟨i,hi,e⟩
    omega) inj
   omega
def pw (m:Nat):Nat→Nat→Nat→Nat→Nat
 |0,_,_,c=>c
 |k+1,b,e,c=>pw m k (b*b%m) (e/2) (match e%2 with|0=>c|_=>c*b%m)
theorem DI (m:Nat):∀ (k b e c:Nat),e<2^k→pw m k b e c%m=c*b^e%m
 |0,b,e,c,h=>by
  have :e=0:=by simpa using h
  subst this
  simp[pw]
 |k+1,b,e,c,h=>by
  have hk:e/2<2^k:=by rw[Nat.pow_succ] at h;omega
  rw[pw,DI m k _ _ _ hk]
  have h2:(b*b%m)^(e/2)%m=(b*b)^(e/2)%m:=(Nat.pow_mod (b*b) (e/2) m).symm
  have hb:(b*b)^(e/2)=b^(2*(e/2)):=by rw[Nat.pow_mul,Nat.pow_two]
  rw[Nat.mul_mod,h2,←Nat.mul_mod,hb]
  rcases Nat.mod_two_eq_zero_or_one e with h0|h0
  ·rw[h0]
   show c*b^(2*(e/2))%m=_
   rw[show 2*(e/2)=e by omega]
  ·rw[h0]
   show c*b%m*b^(2*(e/2))%m=_
   rw[Nat.mod_mul_mod,Nat.mul_assoc,←Nat.pow_succ']
   rw[show Nat.succ (2*(e/2))=e by omega]
theorem uk {m k b e r:Nat}(h:e<2^k)(hr:pw m k b e 1%m=r):b^e%m=r:=by
 rw[←hr,DI m k b e 1 h,Nat.one_mul]
theorem Qz {g r:Nat}(hr:2≤r):∀ (a b:Nat),g^a%r=1→g^b%r=1→g^Nat.gcd a b%r=1:=by
 intro a b
 induction a,b using Nat.gcd.induction with
 |H0 n=>intro _ h;simpa using h
 |H1 m n hm ih=>
  intro ha hb
  rw[Nat.gcd_rec]
  refine ih ?_ ha
  have e:=Nat.div_add_mod n m
  rw[←e,Nat.pow_add,Nat.pow_mul,Nat.mul_mod,Nat.pow_mod,ha,Nat.one_pow,Nat.mod_eq_of_lt (show 1<r by omega),Nat.one_mul,Nat.mod_mod] at hb
  exact hb
theorem IU {g r n i j:Nat}(h1:g^n%r=1)(hr:2≤r)(hij:i≤j)(hj:j≤n)(h:g^i%r=g^j%r):g^(j-i)%r=1:=by
 have e1:g^i*g^(n-i)%r=1:=by rw[←Nat.pow_add,show i+(n-i)=n by omega];exact h1
 have e2:g^j*g^(n-i)%r=g^(j-i)%r:=by
  rw[←Nat.pow_add,show j+(n-i)=n+(j-i) by omega,Nat.pow_add,Nat.mul_mod,h1,Nat.one_mul,Nat.mod_mod]
 rw[←e2,Nat.mul_mod,←h,←Nat.mul_mod,e1]
theorem AP {n g r:Nat}{qs:List Nat}(hn:2≤n)(hp:∀ q∈qs,Prm q)(hprod:kI qs=n-1)(h1:g^(n-1)%n=1)(hq:∀ q∈qs,Nat.gcd (g^((n-1)/q)%n+n-1) n=1)(hr:Prm r)(hrn:r∣n):
  ∀ i j,i<n-1→j<n-1→g^i%r=g^j%r→i=j:=by
 have hr2:=hr.1
 have hone:g^(n-1)%r=1:=by
  have :=Nat.mod_mod_of_dvd (g^(n-1)) hrn
  rw[←this,h1,Nat.mod_eq_of_lt (by omega)]
 have key:∀ e,0<e→e<n-1→g^e%r≠1:=fun e h0 hlt he=>by
  have hm:=Qz hr2 e (n-1) he hone
  have hd:=Nat.gcd_dvd_right e (n-1)
  have hle:=Nat.le_of_dvd h0 (Nat.gcd_dvd_left e (n-1))
  generalize Nat.gcd e (n-1)=m at*
  obtain⟨k,hk⟩:=hd
  have hm0:m≠0:=fun e=>by subst e;simp at hk;omega
  have hk2:2≤k:=by
   match k with
   |0=>simp at hk;omega
   |1=>simp at hk;omega
   |k+2=>omega
  obtain⟨q,hqp,k',rfl⟩:=zK k hk2
  have hqm:q∈qs:=hqp.mem_prod hp (by rw[hprod,hk];exact⟨m*k',by rw[Nat.mul_left_comm]⟩)
  have hdiv:(n-1)/q=m*k':=by
   rw[hk,show m*(q*k')=q*(m*k') by rw[Nat.mul_left_comm]]
   exact Nat.mul_div_cancel_left _ (by have :=hqp.1;omega)
  have hone2:g^((n-1)/q)%r=1:=by rw[hdiv,Nat.pow_mul,Nat.pow_mod,hm,Nat.one_pow,Nat.mod_eq_of_lt (by omega)]
  have hg:=hq q hqm
  have hr1:r∣Nat.gcd (g^((n-1)/q)%n+n-1) n:=by
   refine Nat.dvd_gcd ?_ hrn
   have h3:=Nat.mod_mod_of_dvd (g^((n-1)/q)) hrn
   rw[hone2] at h3
   have h4:=Nat.div_add_mod (g^((n-1)/q)%n) r
   rw[h3] at h4
   obtain⟨c,hc⟩:=hrn
   refine⟨g^((n-1)/q)%n/r+c,?_⟩
   rw[Nat.mul_add]
   omega
  rw[hg] at hr1
  have :=Nat.le_of_dvd (by decide) hr1
  omega
 have half:∀ i j,i<n-1→j<n-1→i≤j→g^i%r=g^j%r→i=j:=fun i j hi hj hij h=>by
  have :=IU hone hr2 hij (by omega) h
  by_cases h0:j-i=0
  ·omega
  ·exact absurd this (key (j-i) (by omega) (by omega))
 intro i j hi hj h
 rcases Nat.le_total i j with hij|hij
 ·exact half i j hi hj hij h
 ·exact(half j i hj hi hij h.symm).symm
theorem mu {n g r i:Nat}(hr:2≤r)(h1:g^n%r=1)(hi:i≤n):g^i%r≠0:=fun h=>by
 have :g^i*g^(n-i)%r=1:=by rw[←Nat.pow_add,show i+(n-i)=n by omega];exact h1
 rw[Nat.mul_mod,h,Nat.zero_mul] at this
 simp at this
theorem Vy {n g:Nat}(qs:List Nat)(hn:2≤n)(hp:∀ q∈qs,Prm q)(hprod:kI qs=n-1)(h1:g^(n-1)%n=1)(hq:∀ q∈qs,Nat.gcd (g^((n-1)/q)%n+n-1) n=1):Prm n:=by
 obtain⟨r,hr,hrn⟩:=zK n hn
 have hr2:=hr.1
 have inj:=AP hn hp hprod h1 hq hr hrn
 have hone:g^(n-1)%r=1:=by
  have :=Nat.mod_mod_of_dvd (g^(n-1)) hrn
  rw[←this,h1,Nat.mod_eq_of_lt (by omega)]
 have :=sM (r-1) (n-1) (fun i=>g^i%r-1) (fun i hi=>by
  have :=mu hr2 hone (show i≤n-1 by omega)
  have :=Nat.mod_lt (g^i) (show r>0 by omega)
  show g^i%r-1<r-1
  omega) (fun i j hi hj e=>by
  have :=mu hr2 hone (show i≤n-1 by omega)
  have :=mu hr2 hone (show j≤n-1 by omega)
  have e:g^i%r-1=g^j%r-1:=e
  exact inj i j hi hj (by omega))
 have :=Nat.le_of_dvd (by omega) hrn
 rwa [show n=r by omega]
theorem QA {n g:Nat}(qs:List Nat)(hn:Prm n)(hp:∀ q∈qs,Prm q)(hprod:kI qs=n-1)(h1:g^(n-1)%n=1)(hq:∀ q∈qs,Nat.gcd (g^((n-1)/q)%n+n-1) n=1){a:Nat}(ha:a%n≠0):∃ i,g^i%n=a%n:=by
 have hn2:=hn.1
 have inj:=AP hn2 hp hprod h1 hq hn (Nat.dvd_refl n)
 refine Classical.byContradiction fun hno=>?_
 have hne:∀ i,g^i%n≠a%n:=fun i e=>hno ⟨i,e⟩
 have hlt:=Nat.mod_lt a (show n>0 by omega)
 have :=sM (n-1) n (fun i=>if i<n-1 then g^i%n-1 else a%n-1) (fun i hi=>by
  show(if i<n-1 then g^i%n-1 else a%n-1)<n-1
  split
  ·have :=mu hn2 h1 (show i≤n-1 by omega)
   have :=Nat.mod_lt (g^i) (show n>0 by omega)
   omega
  ·omega) (fun i j hi hj e=>by
  have e:(if i<n-1 then g^i%n-1 else a%n-1)=(if j<n-1 then g^j%n-1 else a%n-1):=e
  by_cases h3:i<n-1
  ·have :=mu hn2 h1 (show i≤n-1 by omega)
   by_cases h4:j<n-1
   ·have :=mu hn2 h1 (show j≤n-1 by omega)
    rw[if_pos h3,if_pos h4] at e
    exact inj i j h3 h4 (by omega)
   ·rw[if_pos h3,if_neg h4] at e
    exact absurd (show g^i%n=a%n by omega) (hne i)
  ·by_cases h4:j<n-1
   ·have :=mu hn2 h1 (show j≤n-1 by omega)
    rw[if_neg h3,if_pos h4] at e
    exact absurd (show g^j%n=a%n by omega) (hne j)
   ·omega)
 omega
theorem Te {n g:Nat}(qs:List Nat)(hn:Prm n)(hp:∀ q∈qs,Prm q)(hprod:kI qs=n-1)(h1:g^(n-1)%n=1)(hq:∀ q∈qs,Nat.gcd (g^((n-1)/q)%n+n-1) n=1){a:Nat}(ha:a%n≠0):a^(n-1)%n=1:=by
 have hn2:=hn.1
 obtain⟨i,hi⟩:=QA qs hn hp hprod h1 hq ha
 rw[Nat.pow_mod,←hi,←Nat.pow_mod,←Nat.pow_mul,Nat.mul_comm,Nat.pow_mul,Nat.pow_mod,h1,Nat.one_pow,Nat.mod_eq_of_lt (by omega)]
def tk (n:Nat):Nat→Bool
 |0=>true
 |1=>true
 |k+2=>Nat.blt 0 (n%(k+2))&&tk n (k+1)
theorem AQ {n:Nat}:∀ {k:Nat},tk n k=true→∀ d,2≤d→d≤k→¬ d∣n
 |0,_,d,h1,h2=>by omega
 |1,_,d,h1,h2=>by omega
 |k+2,h,d,h1,h2=>by
  rw[tk,Bool.and_eq_true] at h
  by_cases e:d=k+2
  ·subst e
   intro hd
   have h3:=h.1
   rw[Nat.mod_eq_zero_of_dvd hd] at h3
   cases h3
  ·exact AQ h.2 d h1 (by omega)
theorem b9 {n:Nat}(hn:2≤n)(h:tk n (n-1)=true):Prm n:=⟨hn,fun d hd=>by
 have h1:=Nat.le_of_dvd (by omega) hd
 have h0:d≠0:=fun e=>by subst e;have :=Nat.eq_zero_of_zero_dvd hd;omega
 by_cases e:d=1
 ·exact .inl e
 ·by_cases e2:d=n
  ·exact .inr e2
  ·exact absurd hd (AQ h d (by omega) (by omega))⟩
def tN (n g:Nat)(k:Nat)(qs:List Nat):Bool:=
 Nat.beq (kI qs) (n-1)&&Nat.blt 1 n&&Nat.blt (n-1) (2^k)&&Nat.beq (pw n k g (n-1) 1%n) 1&&qs.all fun q=>Nat.beq (Nat.gcd (pw n k g ((n-1)/q) 1%n+n-1) n) 1
theorem AR {n g k:Nat}{qs:List Nat}(h:tN n g k qs=true):2≤n∧kI qs=n-1∧g^(n-1)%n=1∧∀ q∈qs,Nat.gcd (g^((n-1)/q)%n+n-1) n=1:=by
 unfold tN at h
 simp only[Bool.and_eq_true,Nat.blt_eq,List.all_eq_true] at h
 obtain⟨⟨⟨⟨h1,h2⟩,h3⟩,h4⟩,h5⟩:=h
 refine⟨h2,Nat.eq_of_beq_eq_true h1,uk h3 (Nat.eq_of_beq_eq_true h4),fun q hq=>?_⟩
 have h6:=Nat.eq_of_beq_eq_true (h5 q hq)
 rw[uk (Nat.lt_of_le_of_lt (Nat.div_le_self _ _) h3) rfl]
 exact h6
theorem bt {n g k:Nat}{qs:List Nat}(h:tN n g k qs=true)(hp:∀ q∈qs,Prm q):Prm n:=by
 obtain⟨h1,h2,h3,h4⟩:=AR h
 exact Vy qs h1 hp h2 h3 h4
theorem all_cons {P:Nat→Prop}{a:Nat}{l:List Nat}(h:P a)(hl:∀ q∈l,P q):∀ q∈a::l,P q:=fun q hq=>by
 rcases List.mem_cons.1 hq with rfl|hq
 ·exact h
 ·exact hl q hq
theorem aV {P:Nat→Prop}:∀ q∈([]:List Nat),P q:=fun _ h=>by cases h
end Go.Cv
end
section
namespace Go.Cv
theorem p2:Prm 2:=b9 (by decide) (by decide+kernel)
theorem p3:Prm 3:=b9 (by decide) (by decide+kernel)
theorem p5:Prm 5:=b9 (by decide) (by decide+kernel)
theorem p7:Prm 7:=b9 (by decide) (by decide+kernel)
theorem p11:Prm 11:=b9 (by decide) (by decide+kernel)
theorem tS:Prm 13:=b9 (by decide) (by decide+kernel)
theorem tV:Prm 17:=b9 (by decide) (by decide+kernel)
theorem xG:Prm 19:=b9 (by decide) (by decide+kernel)
theorem xH:Prm 23:=b9 (by decide) (by decide+kernel)
theorem Xl:Prm 29:=b9 (by decide) (by decide+kernel)
theorem Xm:Prm 31:=b9 (by decide) (by decide+kernel)
theorem D5:Prm 41:=b9 (by decide) (by decide+kernel)
theorem xI:Prm 43:=b9 (by decide) (by decide+kernel)
theorem xJ:Prm 47:=b9 (by decide) (by decide+kernel)
theorem Xn:Prm 59:=b9 (by decide) (by decide+kernel)
theorem Xo:Prm 67:=b9 (by decide) (by decide+kernel)
theorem D6:Prm 73:=b9 (by decide) (by decide+kernel)
theorem Xp:Prm 79:=b9 (by decide) (by decide+kernel)
theorem Xq:Prm 83:=b9 (by decide) (by decide+kernel)
theorem Xr:Prm 97:=b9 (by decide) (by decide+kernel)
theorem WB:Prm 103:=b9 (by decide) (by decide+kernel)
theorem WC:Prm 107:=b9 (by decide) (by decide+kernel)
theorem WD:Prm 113:=b9 (by decide) (by decide+kernel)
theorem WE:Prm 127:=b9 (by decide) (by decide+kernel)
theorem WF:Prm 131:=b9 (by decide) (by decide+kernel)
theorem WG:Prm 173:=b9 (by decide) (by decide+kernel)
theorem WH:Prm 223:=b9 (by decide) (by decide+kernel)
theorem WI:Prm 269:=b9 (by decide) (by decide+kernel)
theorem WJ:Prm 307:=b9 (by decide) (by decide+kernel)
theorem WK:Prm 353:=b9 (by decide) (by decide+kernel)
theorem WL:Prm 419:=b9 (by decide) (by decide+kernel)
theorem WM:Prm 479:=b9 (by decide) (by decide+kernel)
theorem WN:Prm 487:=b9 (by decide) (by decide+kernel)
theorem WO:Prm 991:=b9 (by decide) (by decide+kernel)
theorem Vz:Prm 1361:=bt (g:=3) (k:=12) (qs:=[2,2,2,2,5,17]) (by decide+kernel) (all_cons p2 (all_cons p2 (all_cons p2 (all_cons p2 (all_cons p5 (all_cons tV aV))))))
theorem DJ:Prm 1723:=bt (g:=3) (k:=12) (qs:=[2,3,7,41]) (by decide+kernel) (all_cons p2 (all_cons p3 (all_cons p7 (all_cons D5 aV))))
theorem VA:Prm 2437:=bt (g:=2) (k:=13) (qs:=[2,2,3,7,29]) (by decide+kernel) (all_cons p2 (all_cons p2 (all_cons p3 (all_cons p7 (all_cons Xl aV)))))
theorem VB:Prm 2551:=bt (g:=6) (k:=13) (qs:=[2,3,5,5,17]) (by decide+kernel) (all_cons p2 (all_cons p3 (all_cons p5 (all_cons p5 (all_cons tV aV)))))
theorem VC:Prm 2851:=bt (g:=2) (k:=13) (qs:=[2,3,5,5,19]) (by decide+kernel) (all_cons p2 (all_cons p3 (all_cons p5 (all_cons p5 (all_cons xG aV)))))
theorem VD:Prm 2939:=bt (g:=2) (k:=13) (qs:=[2,13,113]) (by decide+kernel) (all_cons p2 (all_cons tS (all_cons WD aV)))
theorem VE:Prm 3727:=bt (g:=3) (k:=13) (qs:=[2,3,3,3,3,23]) (by decide+kernel) (all_cons p2 (all_cons p3 (all_cons p3 (all_cons p3 (all_cons p3 (all_cons xH aV))))))
theorem VF:Prm 3797:=bt (g:=2) (k:=13) (qs:=[2,2,13,73]) (by decide+kernel) (all_cons p2 (all_cons p2 (all_cons tS (all_cons D6 aV))))
theorem VG:Prm 4153:=bt (g:=5) (k:=14) (qs:=[2,2,2,3,173]) (by decide+kernel) (all_cons p2 (all_cons p2 (all_cons p2 (all_cons p3 (all_cons WG aV)))))
theorem VH:Prm 5879:=bt (g:=11) (k:=14) (qs:=[2,2939]) (by decide+kernel) (all_cons p2 (all_cons VD aV))
theorem VI:Prm 9463:=bt (g:=3) (k:=15) (qs:=[2,3,19,83]) (by decide+kernel) (all_cons p2 (all_cons p3 (all_cons xG (all_cons Xq aV))))
theorem Tf:Prm 17231:=bt (g:=13) (k:=16) (qs:=[2,5,1723]) (by decide+kernel) (all_cons p2 (all_cons p5 (all_cons DJ aV)))
theorem Tg:Prm 22111:=bt (g:=6) (k:=16) (qs:=[2,3,5,11,67]) (by decide+kernel) (all_cons p2 (all_cons p3 (all_cons p5 (all_cons p11 (all_cons Xo aV)))))
theorem Th:Prm 30703:=bt (g:=3) (k:=16) (qs:=[2,3,7,17,43]) (by decide+kernel) (all_cons p2 (all_cons p3 (all_cons p7 (all_cons tV (all_cons xI aV)))))
theorem Ti:Prm 32573:=bt (g:=2) (k:=16) (qs:=[2,2,17,479]) (by decide+kernel) (all_cons p2 (all_cons p2 (all_cons tV (all_cons WM aV))))
theorem Tj:Prm 34123:=bt (g:=2) (k:=17) (qs:=[2,3,11,11,47]) (by decide+kernel) (all_cons p2 (all_cons p3 (all_cons p11 (all_cons p11 (all_cons xJ aV)))))
theorem Tk:Prm 37853:=bt (g:=2) (k:=17) (qs:=[2,2,9463]) (by decide+kernel) (all_cons p2 (all_cons p2 (all_cons VI aV)))
theorem Tl:Prm 41081:=bt (g:=3) (k:=17) (qs:=[2,2,2,5,13,79]) (by decide+kernel) (all_cons p2 (all_cons p2 (all_cons p2 (all_cons p5 (all_cons tS (all_cons Xp aV))))))
theorem Tm:Prm 57467:=bt (g:=2) (k:=17) (qs:=[2,59,487]) (by decide+kernel) (all_cons p2 (all_cons Xn (all_cons WN aV)))
theorem Dc:Prm 65147:=bt (g:=2) (k:=17) (qs:=[2,32573]) (by decide+kernel) (all_cons p2 (all_cons Ti aV))
theorem Tn:Prm 75707:=bt (g:=2) (k:=18) (qs:=[2,37853]) (by decide+kernel) (all_cons p2 (all_cons Tk aV))
theorem To:Prm 82163:=bt (g:=2) (k:=18) (qs:=[2,41081]) (by decide+kernel) (all_cons p2 (all_cons Tl aV))
theorem QB:Prm 132049:=bt (g:=26) (k:=19) (qs:=[2,2,2,2,3,3,7,131]) (by decide+kernel) (all_cons p2 (all_cons p2 (all_cons p2 (all_cons p2 (all_cons p3 (all_cons p3 (all_cons p7 (all_cons WF aV))))))))
theorem QC:Prm 132667:=bt (g:=5) (k:=19) (qs:=[2,3,22111]) (by decide+kernel) (all_cons p2 (all_cons p3 (all_cons Tg aV)))
theorem QD:Prm 137849:=bt (g:=3) (k:=19) (qs:=[2,2,2,17231]) (by decide+kernel) (all_cons p2 (all_cons p2 (all_cons p2 (all_cons Tf aV))))
theorem QE:Prm 409477:=bt (g:=2) (k:=20) (qs:=[2,2,3,34123]) (by decide+kernel) (all_cons p2 (all_cons p2 (all_cons p3 (all_cons Tj aV))))
theorem QF:Prm 430751:=bt (g:=17) (k:=20) (qs:=[2,5,5,5,1723]) (by decide+kernel) (all_cons p2 (all_cons p5 (all_cons p5 (all_cons p5 (all_cons DJ aV)))))
theorem QG:Prm 531581:=bt (g:=2) (k:=21) (qs:=[2,2,5,7,3797]) (by decide+kernel) (all_cons p2 (all_cons p2 (all_cons p5 (all_cons p7 (all_cons VF aV)))))
theorem QH:Prm 569003:=bt (g:=2) (k:=21) (qs:=[2,7,97,419]) (by decide+kernel) (all_cons p2 (all_cons p7 (all_cons Xr (all_cons WL aV))))
theorem N5:Prm 1224481:=bt (g:=13) (k:=22) (qs:=[2,2,2,2,2,3,5,2551]) (by decide+kernel) (all_cons p2 (all_cons p2 (all_cons p2 (all_cons p2 (all_cons p2 (all_cons p3 (all_cons p5 (all_cons VB aV))))))))
theorem N6:Prm 1923133:=bt (g:=2) (k:=22) (qs:=[2,2,3,43,3727]) (by decide+kernel) (all_cons p2 (all_cons p2 (all_cons p3 (all_cons xI (all_cons VE aV)))))
theorem N7:Prm 8574133:=bt (g:=2) (k:=25) (qs:=[2,2,3,7,103,991]) (by decide+kernel) (all_cons p2 (all_cons p2 (all_cons p3 (all_cons p7 (all_cons WB (all_cons WO aV))))))
theorem KG:Prm 14741173:=bt (g:=2) (k:=25) (qs:=[2,2,3,3,409477]) (by decide+kernel) (all_cons p2 (all_cons p2 (all_cons p3 (all_cons p3 (all_cons QE aV)))))
theorem KH:Prm 58964693:=bt (g:=2) (k:=27) (qs:=[2,2,14741173]) (by decide+kernel) (all_cons p2 (all_cons p2 (all_cons KG aV)))
theorem IV:Prm 292386187:=bt (g:=2) (k:=30) (qs:=[2,3,3,3,3,307,5879]) (by decide+kernel) (all_cons p2 (all_cons p3 (all_cons p3 (all_cons p3 (all_cons p3 (all_cons WJ (all_cons VH aV)))))))
theorem G8:Prm 2773320623:=bt (g:=5) (k:=33) (qs:=[2,2437,569003]) (by decide+kernel) (all_cons p2 (all_cons VA (all_cons QH aV)))
theorem F1:Prm 72106336199:=bt (g:=7) (k:=38) (qs:=[2,13,2773320623]) (by decide+kernel) (all_cons p2 (all_cons tS (all_cons G8 aV)))
theorem WP:Prm 213441916511:=bt (g:=13) (k:=39) (qs:=[2,5,73,292386187]) (by decide+kernel) (all_cons p2 (all_cons p5 (all_cons D6 (all_cons IV aV))))
theorem WQ:Prm 1257559732178653:=bt (g:=2) (k:=52) (qs:=[2,2,3,7,23,531581,1224481]) (by decide+kernel) (all_cons p2 (all_cons p2 (all_cons p3 (all_cons p7 (all_cons xH (all_cons QG (all_cons N5 aV)))))))
theorem WR:Prm 1919519569386763:=bt (g:=2) (k:=52) (qs:=[2,3,7,19,47,47,127,8574133]) (by decide+kernel) (all_cons p2 (all_cons p3 (all_cons p7 (all_cons xG (all_cons xJ (all_cons xJ (all_cons WE (all_cons N7 aV))))))))
theorem WS:Prm 31757755568855353:=bt (g:=10) (k:=56) (qs:=[2,2,2,3,31,107,223,4153,430751]) (by decide+kernel) (all_cons p2 (all_cons p2 (all_cons p2 (all_cons p3 (all_cons Xm (all_cons WC (all_cons WH (all_cons VG (all_cons QF aV)))))))))
theorem WT:Prm 4434155615661930479:=bt (g:=17) (k:=63) (qs:=[2,41,43,1257559732178653]) (by decide+kernel) (all_cons p2 (all_cons D5 (all_cons xI (all_cons WQ aV))))
theorem WU:Prm 3044861653679985063343:=bt (g:=5) (k:=73) (qs:=[2,3,11,30703,82163,132667,137849]) (by decide+kernel) (all_cons p2 (all_cons p3 (all_cons p11 (all_cons Th (all_cons To (all_cons QC (all_cons QD aV)))))))
theorem WV:Prm 172054593956031949258510691:=bt (g:=2) (k:=89) (qs:=[2,5,1361,2851,4434155615661930479]) (by decide+kernel) (all_cons p2 (all_cons p5 (all_cons Vz (all_cons VC (all_cons WT aV)))))
theorem WW:Prm 198211423230930754013084525763697:=bt (g:=5) (k:=109) (qs:=[2,2,2,2,3,23,58964693,3044861653679985063343]) (by decide+kernel) (all_cons p2 (all_cons p2 (all_cons p2 (all_cons p2 (all_cons p3 (all_cons xH (all_cons KH (all_cons WU aV))))))))
theorem WX:Prm 75445702479781427272750846543864801:=bt (g:=7) (k:=117) (qs:=[2,2,2,2,2,3,3,5,5,75707,72106336199,1919519569386763]) (by decide+kernel) (all_cons p2 (all_cons p2 (all_cons p2 (all_cons p2 (all_cons p2 (all_cons p3 (all_cons p3 (all_cons p5 (all_cons p5 (all_cons Tn (all_cons F1 (all_cons WR aV))))))))))))
theorem WY:Prm 19757330305831588566944191468367130476339:=bt (g:=2) (k:=135) (qs:=[2,269,213441916511,172054593956031949258510691]) (by decide+kernel) (all_cons p2 (all_cons WI (all_cons WP (all_cons WV aV))))
theorem WZ:Prm 276602624281642239937218680557139826668747:=bt (g:=2) (k:=139) (qs:=[2,7,19757330305831588566944191468367130476339]) (by decide+kernel) (all_cons p2 (all_cons p7 (all_cons WY aV)))
theorem D0:Prm 74058212732561358302231226437062788676166966415465897661863160754340907:=bt (g:=2) (k:=237) (qs:=[2,3,353,57467,132049,1923133,31757755568855353,75445702479781427272750846543864801]) (by decide+kernel) (all_cons p2 (all_cons p3 (all_cons WK (all_cons Tm (all_cons QB (all_cons N6 (all_cons WS (all_cons WX aV))))))))
theorem W0:Prm 7237005577332262213973186563042994240857116359379907606001950938285454250989:=bt (g:=2) (k:=254) (qs:=[2,2,3,11,198211423230930754013084525763697,276602624281642239937218680557139826668747]) (by decide+kernel) (all_cons p2 (all_cons p2 (all_cons p3 (all_cons p11 (all_cons WW (all_cons WZ aV))))))
theorem W3:Prm 57896044618658097711785492504343953926634992332820282019728792003956564819949:=bt (g:=2) (k:=256) (qs:=[2,2,3,65147,74058212732561358302231226437062788676166966415465897661863160754340907]) (by decide+kernel) (all_cons p2 (all_cons p2 (all_cons p3 (all_cons Dc (all_cons D0 aV)))))
end Go.Cv
end
section
namespace Go.Cv
abbrev Q:Nat:=57896044618658097711785492504343953926634992332820282019728792003956564819949
abbrev F:=Fin Q
theorem prmQ:Prm Q:=W3
theorem eU {a b:F}(h:a*b=0):a=0∨b=0:=by
 have h1:a.val*b.val%Q=0:=by
  have :=congrArg Fin.val h
  rwa [Fin.val_mul] at this
 rcases prmQ.dvd_mul (Nat.dvd_of_mod_eq_zero h1) with h2|h2
 ·exact .inl (Fin.ext (Nat.eq_zero_of_dvd_of_lt h2 a.isLt))
 ·exact .inr (Fin.ext (Nat.eq_zero_of_dvd_of_lt h2 b.isLt))
theorem dy {a b:F}(ha:a≠0)(hb:b≠0):a*b≠0:=fun h=>by
 rcases eU h with h|h
 ·exact ha h
 ·exact hb h
theorem sN {a b c:F}(ha:a≠0)(h:a*b=a*c):b=c:=by
 have :a*(b-c)=0:=by grind
 rcases eU this with h|h
 ·exact absurd h ha
 ·grind
theorem wL (a:F):∀ n:Nat,(a^n).val=a.val^n%Q
 |0=>rfl
 |n+1=>by
  rw[show a^(n+1)=a^n*a by grind,Fin.val_mul,wL a n,Nat.pow_succ,Nat.mod_mul_mod]
theorem W4:tN Q 2 256 [2,2,3,65147,74058212732561358302231226437062788676166966415465897661863160754340907]=true:=by decide+kernel
theorem CH {a:F}(ha:a≠0):a^(Q-1)=1:=by
 obtain⟨h1,h2,h3,h4⟩:=AR W4
 have hp:=Te _ prmQ (all_cons p2 (all_cons p2 (all_cons p3 (all_cons Dc (all_cons D0 aV))))) h2 h3 h4 (a:=a.val) (by
  rw[Nat.mod_eq_of_lt a.isLt]
  exact fun h=>ha (Fin.ext h))
 apply Fin.ext
 rw[wL,hp]
 rfl
def bY (a:F):F:=a^(Q-2)
theorem gN {a:F}(ha:a≠0):a*bY a=1:=by
 rw[←CH ha,show Q-1=(Q-2)+1 from rfl]
 unfold bY
 generalize Q-2=n
 grind
end Go.Cv
end
section
namespace Go.Cv
def D:F:=20800338683988658368647408995589388737092878452977063003340006470870624536394
theorem W6:D*121666=121665:=by decide+kernel
theorem sO:(2:F)≠0:=by decide+kernel
theorem W7:D≠0:=by decide+kernel
theorem Tp:D^((Q-1)/2)≠1:=by
 intro h
 have h1:=congrArg Fin.val h
 rw[wL] at h1
 have h2:=uk (m:=Q) (k:=256) (b:=D.val) (e:=(Q-1)/2) (r:=Q-1) (by decide+kernel) (by decide+kernel)
 rw[h2] at h1
 exact absurd h1 (by decide+kernel)
theorem BW (a:F)(m:Nat):∀ n:Nat,a^(m*n)=(a^m)^n
 |0=>by simp
 |n+1=>by
  rw[Nat.mul_succ,show(a^m)^(n+1)=(a^m)^n*a^m by grobner,←BW a m n]
  generalize m*n=k
  grobner
theorem Tq (s:F):s*s≠D:=fun h=>by
 by_cases h0:s=0
 ·subst h0
  exact W7 (by rw[←h];grobner)
 ·refine Tp ?_
  rw[←h,show s*s=s^2 by grobner,←BW,show 2*((Q-1)/2)=Q-1 from by decide+kernel]
  exact CH h0
theorem DK {u v:F}(hv:v≠0)(h:u*u=D*(v*v)):False:=by
 refine Tq (u*bY v) ?_
 have :=gN hv
 generalize bY v=w at*
 grobner
theorem DL {x1 y1 x2 y2:F}(h1:x1^2+y1^2=1+D*x1^2*y1^2)(h2:x2^2+y2^2=1+D*x2^2*y2^2){e:F}(he:D*x1*x2*y1*y2=e)(ee:e*e=1):False:=by
 have e0:e≠0:=fun h=>by subst h;exact absurd ee (by decide+kernel)
 have hx1:x1≠0:=fun h=>e0 (by rw[←he,h];grobner)
 have hy1:y1≠0:=fun h=>e0 (by rw[←he,h];grobner)
 by_cases hs:x2+y2=0
 ·by_cases hd:x2-y2=0
  ·have :(2:F)*x2=0:=by grobner
   rcases eU this with h|h
   ·exact sO h
   ·exact e0 (by rw[←he,h];grobner)
  ·exact DK (u:=x1-e*y1) (v:=x1*y1*(x2-y2)) (dy (dy hx1 hy1) hd) (by clear hs hd hx1 hy1 e0;grobner)
 ·exact DK (u:=x1+e*y1) (v:=x1*y1*(x2+y2)) (dy (dy hx1 hy1) hs) (by clear hs hx1 hy1 e0;grobner)
structure Ed where
 x:F
 y:F
 on:x^2+y^2=1+D*x^2*y^2
theorem Ed.ext' {p q:Ed}(hx:p.x=q.x)(hy:p.y=q.y):p=q:=by
 cases p;cases q;simp only at hx hy;subst hx hy;rfl
def dp (p q:Ed):F:=1+D*p.x*q.x*p.y*q.y
def dm (p q:Ed):F:=1-D*p.x*q.x*p.y*q.y
theorem ne (p q:Ed):dp p q≠0:=fun h=>DL p.on q.on rfl (by unfold dp at h;generalize D*p.x*q.x*p.y*q.y=t at*;grobner)
theorem jS (p q:Ed):dm p q≠0:=fun h=>DL p.on q.on rfl (by unfold dm at h;generalize D*p.x*q.x*p.y*q.y=t at*;grobner)
def nx (p q:Ed):F:=p.x*q.y+p.y*q.x
def ny (p q:Ed):F:=p.y*q.y-p.x*q.x
theorem QI (x1 y1 x2 y2 D:F)(h1:x1^2+y1^2=1+D*x1^2*y1^2)(h2:x2^2+y2^2=1+D*x2^2*y2^2):
 (x1*y2+y1*x2)^2*(1-D*x1*x2*y1*y2)^2+(y1*y2-x1*x2)^2*(1+D*x1*x2*y1*y2)^2=(1+D*x1*x2*y1*y2)^2*(1-D*x1*x2*y1*y2)^2+D*(x1*y2+y1*x2)^2*(y1*y2-x1*x2)^2:=by grobner
theorem Ts (p q:Ed):(nx p q*bY (dp p q))^2+(ny p q*bY (dm p q))^2=1+D*(nx p q*bY (dp p q))^2*(ny p q*bY (dm p q))^2:=by
 have h:=QI p.x p.y q.x q.y D p.on q.on
 have i1:=gN (ne p q)
 have i2:=gN (jS p q)
 change (nx p q)^2*(dm p q)^2+(ny p q)^2*(dp p q)^2=(dp p q)^2*(dm p q)^2+D*(nx p q)^2*(ny p q)^2 at h
 generalize bY (dp p q)=u at*
 generalize bY (dm p q)=v at*
 generalize dp p q=a at*
 generalize dm p q=b at*
 generalize nx p q=m at*
 generalize ny p q=n at*
 have h3:(a*u)^2=1:=by rw[i1];grobner
 have h4:(b*v)^2=1:=by rw[i2];grobner
 have h5:(m^2*b^2+n^2*a^2)*(u^2*v^2)=(a^2*b^2+D*m^2*n^2)*(u^2*v^2):=by rw[h]
 grobner
def Ed.add (p q:Ed):Ed:=⟨nx p q*bY (dp p q),ny p q*bY (dm p q),Ts p q⟩
theorem qu (p q:Ed):(p.add q).x*dp p q=nx p q:=by
 show nx p q*bY (dp p q)*dp p q=nx p q
 have :=gN (ne p q)
 generalize bY (dp p q)=u at*
 grobner
theorem kJ (p q:Ed):(p.add q).y*dm p q=ny p q:=by
 show ny p q*bY (dm p q)*dm p q=ny p q
 have :=gN (jS p q)
 generalize bY (dm p q)=u at*
 grobner
theorem KI (p q:Ed):p.add q=q.add p:=by
 have e1:dp p q=dp q p:=by unfold dp;grobner
 have e2:dm p q=dm q p:=by unfold dm;grobner
 have e3:nx p q=nx q p:=by unfold nx;grobner
 have e4:ny p q=ny q p:=by unfold ny;grobner
 refine Ed.ext' ?_ ?_
 ·show nx p q*bY (dp p q)=nx q p*bY (dp q p);rw[e1,e3]
 ·show ny p q*bY (dm p q)=ny q p*bY (dm q p);rw[e2,e4]
theorem Tt (x1 y1 x2 y2 x3 y3 D:F)(h1:x1^2+y1^2=1+D*x1^2*y1^2)(h2:x2^2+y2^2=1+D*x2^2*y2^2)(h3:x3^2+y3^2=1+D*x3^2*y3^2):
 ((x1*y2+y1*x2)*(1-D*x1*x2*y1*y2)*y3+(y1*y2-x1*x2)*(1+D*x1*x2*y1*y2)*x3)*((1+D*x2*x3*y2*y3)*(1-D*x2*x3*y2*y3)+D*(x2*y3+y2*x3)*(y2*y3-x2*x3)*x1*y1)
 =(x1*(y2*y3-x2*x3)*(1+D*x2*x3*y2*y3)+y1*(x2*y3+y2*x3)*(1-D*x2*x3*y2*y3))*((1+D*x1*x2*y1*y2)*(1-D*x1*x2*y1*y2)+D*(x1*y2+y1*x2)*(y1*y2-x1*x2)*x3*y3):=by grobner
theorem Tu (x1 y1 x2 y2 x3 y3 D:F)(h1:x1^2+y1^2=1+D*x1^2*y1^2)(h2:x2^2+y2^2=1+D*x2^2*y2^2)(h3:x3^2+y3^2=1+D*x3^2*y3^2):
 ((y1*y2-x1*x2)*(1+D*x1*x2*y1*y2)*y3-(x1*y2+y1*x2)*(1-D*x1*x2*y1*y2)*x3)*((1+D*x2*x3*y2*y3)*(1-D*x2*x3*y2*y3)-D*(x2*y3+y2*x3)*(y2*y3-x2*x3)*x1*y1)
 =(y1*(y2*y3-x2*x3)*(1+D*x2*x3*y2*y3)-x1*(x2*y3+y2*x3)*(1-D*x2*x3*y2*y3))*((1+D*x1*x2*y1*y2)*(1-D*x1*x2*y1*y2)-D*(x1*y2+y1*x2)*(y1*y2-x1*x2)*x3*y3):=by grobner
theorem D1 {X A m n X' A' m' n' a b a' b' c:F}(ha:a≠0)(ha':a'≠0)(hA:A≠0)(hA':A'≠0)(h1:X*A=m)(h2:X'*A'=m')(e1:m*a=n)(e2:A*a=b)(e3:m'*a'=n')(e4:A'*a'=b')(hn:n*b'=n'*b)(_hc:c=0):X=X':=by
 have h0:=dy (dy ha ha') (dy hA hA')
 refine sN h0 ?_
 subst h1 h2 e1 e2 e3 e4
 grobner
theorem zL (p q r:Ed):(p.add q).add r=p.add (q.add r):=by
 have hx:=qu p q;have hy:=kJ p q
 have kx:=qu q r;have ky:=kJ q r
 have n1:=ne p q;have n2:=jS p q;have n3:=ne q r;have n4:=jS q r
 have a1:=qu (p.add q) r;have a2:=kJ (p.add q) r
 have b1:=qu p (q.add r);have b2:=kJ p (q.add r)
 have m1:=ne (p.add q) r;have m2:=jS (p.add q) r;have m3:=ne p (q.add r);have m4:=jS p (q.add r)
 have ax:=Tt p.x p.y q.x q.y r.x r.y D p.on q.on r.on
 have ay:=Tu p.x p.y q.x q.y r.x r.y D p.on q.on r.on
 change (nx p q*dm p q*r.y+ny p q*dp p q*r.x)*(dp q r*dm q r+D*nx q r*ny q r*p.x*p.y)=(p.x*ny q r*dp q r+p.y*nx q r*dm q r)*(dp p q*dm p q+D*nx p q*ny p q*r.x*r.y) at ax
 change (ny p q*dp p q*r.y-nx p q*dm p q*r.x)*(dp q r*dm q r-D*nx q r*ny q r*p.x*p.y)=(p.y*ny q r*dp q r-p.x*nx q r*dm q r)*(dp p q*dm p q-D*nx p q*ny p q*r.x*r.y) at ay
 rw[←hx,←hy,←kx,←ky] at ax ay
 refine Ed.ext' ?_ ?_
 ·refine D1 (a:=dp p q*dm p q) (a':=dp q r*dm q r) (dy n1 n2) (dy n3 n4) m1 m3 a1 b1 rfl rfl rfl rfl ?_ (c:=0) rfl
  unfold nx at*
  rw[show dp (p.add q) r=1+D*(p.add q).x*r.x*(p.add q).y*r.y from rfl,show dp p (q.add r)=1+D*p.x*(q.add r).x*p.y*(q.add r).y from rfl]
  generalize dp p q=d1 at*;generalize dm p q=d2 at*;generalize dp q r=d3 at*;generalize dm q r=d4 at*
  generalize (p.add q).x=X at*;generalize (p.add q).y=Y at*;generalize (q.add r).x=X2 at*;generalize (q.add r).y=Y2 at*
  clear hx hy kx ky n1 n2 n3 n4 a1 a2 b1 b2 m1 m2 m3 m4 ay
  grobner
 ·refine D1 (a:=dp p q*dm p q) (a':=dp q r*dm q r) (dy n1 n2) (dy n3 n4) m2 m4 a2 b2 rfl rfl rfl rfl ?_ (c:=0) rfl
  unfold ny at*
  rw[show dm (p.add q) r=1-D*(p.add q).x*r.x*(p.add q).y*r.y from rfl,show dm p (q.add r)=1-D*p.x*(q.add r).x*p.y*(q.add r).y from rfl]
  generalize dp p q=d1 at*;generalize dm p q=d2 at*;generalize dp q r=d3 at*;generalize dm q r=d4 at*
  generalize (p.add q).x=X at*;generalize (p.add q).y=Y at*;generalize (q.add r).x=X2 at*;generalize (q.add r).y=Y2 at*
  clear hx hy kx ky n1 n2 n3 n4 a1 a2 b1 b2 m1 m2 m3 m4 ax
  grobner
def Ed.zero:Ed:=⟨0,1,by decide+kernel⟩
theorem CI:bY (1:F)=1:=by
 have :=gN (a:=(1:F)) (by decide+kernel)
 grobner
theorem mG (p:Ed):Ed.zero.add p=p:=by
 have e1:dp Ed.zero p=1:=by show 1+D*0*p.x*1*p.y=1;grobner
 have e2:dm Ed.zero p=1:=by show 1-D*0*p.x*1*p.y=1;grobner
 refine Ed.ext' ?_ ?_
 ·show nx Ed.zero p*bY (dp Ed.zero p)=p.x
  rw[e1,CI]
  show(0*p.y+1*p.x)*1=p.x
  grobner
 ·show ny Ed.zero p*bY (dm Ed.zero p)=p.y
  rw[e2,CI]
  show(1*p.y-0*p.x)*1=p.y
  grobner
def bF:Nat→Ed→Ed
 |0,_=>Ed.zero
 |n+1,p=>(bF n p).add p
theorem mN (p:Ed)(m:Nat):∀ n,bF (m+n) p=(bF m p).add (bF n p)
 |0=>by show bF m p=(bF m p).add Ed.zero;rw[KI,mG]
 |n+1=>by
  show(bF (m+n) p).add p=(bF m p).add ((bF n p).add p)
  rw[mN p m n,zL]
theorem wk (p:Ed)(m:Nat):∀ n,bF (m*n) p=bF n (bF m p)
 |0=>rfl
 |n+1=>by
  rw[Nat.mul_succ,mN,wk p m n]
  rfl
def base:Ed:=⟨9771384041963202563870679428059935816164187996444183106833894008023910952347,46316835694926478169428394003475163141307993866256225615783033603165251855960,by decide+kernel⟩
end Go.Cv
end
section
namespace Go.Cv
def Ed.neg (p:Ed):Ed:=⟨0-p.x,p.y,by have :=p.on;grobner⟩
theorem N8 (p:Ed):p.neg.add p=Ed.zero:=by
 have hx:=qu p.neg p
 have hy:=kJ p.neg p
 have e1:nx p.neg p=0:=by show(0-p.x)*p.y+p.y*p.x=0;grobner
 have e2:ny p.neg p=dm p.neg p:=by
  show p.y*p.y-(0-p.x)*p.x=1-D*(0-p.x)*p.x*p.y*p.y
  have :=p.on
  grobner
 rw[e1] at hx
 rw[e2] at hy
 refine Ed.ext' ?_ ?_
 ·rcases eU hx with h|h
  ·exact h
  ·exact absurd h (ne _ _)
 ·refine sN (jS p.neg p) ?_
  show _=dm p.neg p*1
  generalize dm p.neg p=a at*
  grobner
def k7 (X Z:F)(p:Ed):Prop:=∃ l:F,l≠0∧X=l*(1+p.y)∧Z=l*(1-p.y)
def mc (X Z:F):F×F:=((X+Z)*(X+Z)*((X-Z)*(X-Z)),((X+Z)*(X+Z)-(X-Z)*(X-Z))*((X+Z)*(X+Z)+121665*((X+Z)*(X+Z)-(X-Z)*(X-Z))))
def jX (X Z X' Z' u:F):F×F:=(((X-Z)*(X'+Z')+(X+Z)*(X'-Z'))*((X-Z)*(X'+Z')+(X+Z)*(X'-Z')),u*(((X-Z)*(X'+Z')-(X+Z)*(X'-Z'))*((X-Z)*(X'+Z')-(X+Z)*(X'-Z'))))
theorem VJ:(8:F)≠0:=by decide+kernel
theorem QJ:(121666:F)≠0:=by decide+kernel
theorem W8 {x y:F}(h:x^2+y^2=1+D*x^2*y^2):(121666-121665*y^2)*(1-x^2)=y^2:=by
 have :=W6
 generalize D=d at*
 grobner
theorem CJ {X Z:F}{p:Ed}(h:k7 X Z p):k7 (mc X Z).1 (mc X Z).2 (p.add p):=by
 obtain⟨l,hl,rfl,rfl⟩:=h
 have hy:=kJ p p
 have hd:=jS p p
 have on:=p.on
 have hw:=W8 on
 have hw0:121666-121665*p.y^2≠0:=fun e=>by
  rw[e] at hw
  have h0:p.y^2=0:=by grobner
  rw[h0] at e
  exact QJ (by grobner)
 have e1:dm p p=2-p.x^2-p.y^2:=by
  show 1-D*p.x*p.x*p.y*p.y=_
  grobner
 have e2:ny p p=p.y^2-p.x^2:=by show p.y*p.y-p.x*p.x=_;grobner
 refine⟨8*(l*l)*(l*l)*(121666-121665*p.y^2)*dm p p,dy (dy (dy (dy VJ (dy hl hl)) (dy hl hl)) hw0) hd,?_,?_⟩
 ·unfold mc
  simp only
  rw[e1,e2] at hy
  rw[e1]
  generalize (p.add p).y=s at*
  generalize p.y=y at*
  generalize p.x=x at*
  have h3:(2-x^2-y^2)*(1+s)=2-2*x^2:=by grobner
  have h4:8*(l*l)*(l*l)*(121666-121665*y^2)*(2-x^2-y^2)*(1+s)=8*(l*l)*(l*l)*(121666-121665*y^2)*(2-2*x^2):=by rw[←h3];clear h3 hy on hw hw0 hd e1 e2;grobner
  rw[h4]
  clear h3 h4 hy on hw0 hd e1 e2
  grobner
 ·unfold mc
  simp only
  rw[e1,e2] at hy
  rw[e1]
  generalize (p.add p).y=s at*
  generalize p.y=y at*
  generalize p.x=x at*
  have h3:(2-x^2-y^2)*(1-s)=2-2*y^2:=by grobner
  have h4:8*(l*l)*(l*l)*(121666-121665*y^2)*(2-x^2-y^2)*(1-s)=8*(l*l)*(l*l)*(121666-121665*y^2)*(2-2*y^2):=by rw[←h3];clear h3 hy on hw hw0 hd e1 e2;grobner
  rw[h4]
  clear h3 h4 hy on hw0 hd e1 e2 hw
  grobner
theorem QK (x2 y2 x3 y3 D:F)(h1:x2^2+y2^2=1+D*x2^2*y2^2)(h2:x3^2+y3^2=1+D*x3^2*y3^2):
 (y2+y3)^2*((1+D*x2*x3*y2*y3)-(y2*y3+x2*x3))*((1-D*x2*x3*y2*y3)-(y2*y3-x2*x3))=((1+D*x2*x3*y2*y3)+(y2*y3+x2*x3))*(y3-y2)^2*((1-D*x2*x3*y2*y3)+(y2*y3-x2*x3)):=by grobner
def half:F:=28948022309329048855892746252171976963317496166410141009864396001978282409975
theorem CK:half*2=1:=by decide+kernel
theorem CL:half≠0:=by decide+kernel
theorem Tv {a:F}(h:a*a=1):(a-1)*(a+1)=0:=by grobner
theorem ov {a b:F}(h:a-b=0):a=b:=by grobner
theorem xa {a:F}(h:a+1=0):a=0-1:=by grobner
theorem CM {a:F}(h:a^2=0):a=0:=by
 have h:a*a=0:=by grobner
 rcases eU h with h|h<;>exact h
theorem QL {u x2 y2 x3 y3 y1 y5 a c d:F}(ha:a=1+d)(hc:c=1-d)(hd:d=D*x2*x3*y2*y3)(on2:x2^2+y2^2=1+D*x2^2*y2^2)(on3:x3^2+y3^2=1+D*x3^2*y3^2)(hb1:y1*a=y2*y3+x2*x3)(hd1:a≠0)(hy5:y5*c=y2*y3-x2*x3)(hd5:c≠0)(hu:u*(1-y1)=1+y1)(hb0:1-y1≠0):
  (y2+y3)^2*(1-y5)=u*(y3-y2)^2*(1+y5):=by
 have df:=QK x2 y2 x3 y3 D on2 on3
 rw[←hd,←ha,←hc,←hb1,←hy5] at df
 refine sN (a:=(1-y1)*(a*c)) (dy hb0 (dy hd1 hd5)) ?_
 clear on2 on3 hb1 hy5 hd1 hd5 hb0 ha hc hd
 have h1:(y2+y3)^2*(a*(1-y1))*(c*(1-y5))=a*(1+y1)*(y3-y2)^2*(c*(1+y5)):=by
  have :(y2+y3)^2*(a*(1-y1))*(c*(1-y5))=(y2+y3)^2*(a-y1*a)*(c-y5*c):=by clear df hu;grobner
  rw[this,df];clear df hu this;grobner
 have h2:(1-y1)*(a*c)*((y2+y3)^2*(1-y5))=(y2+y3)^2*(a*(1-y1))*(c*(1-y5)):=by clear df hu h1;grobner
 rw[h2,h1,←hu]
 clear df hu h1 h2
 grobner
theorem Tw {u x2 y2 x3 y3 y1:F}(on2:x2^2+y2^2=1+D*x2^2*y2^2)(on3:x3^2+y3^2=1+D*x3^2*y3^2)(hb1:y1*(1+D*x2*x3*y2*y3)=y2*y3+x2*x3)(hbb:y1*y1≠1)(hu0:u≠0)(h1:y2+y3=0)(h2:u*(y3-y2)^2=0):False:=by
 have e5:y3-y2=0:=by
  rcases eU h2 with h|h
  ·exact absurd h hu0
  ·exact CM h
 have e6:(2:F)*y3=0:=by clear on2 on3 hb1 h2;grobner
 have e6:y3=0:=by
  rcases eU e6 with h|h
  ·exact absurd h sO
  ·exact h
 subst e6
 have e7:y2=0:=by clear on2 on3 hb1 h2 e5;grobner
 subst e7
 refine hbb ?_
 clear h1 h2 e5
 have o2:x2*x2=1:=by clear on3 hb1;grobner
 have o3:x3*x3=1:=by clear on2 hb1;grobner
 have o1:y1=x2*x3:=by clear on2 on3 o2 o3;grobner
 rw[o1]
 clear on2 on3 hb1 o1
 grobner
theorem QM {l m u y2 y3 y5:F}(key:(y2+y3)^2*(1-y5)=u*(y3-y2)^2*(1+y5)):
  (jX (l*(1+y2)) (l*(1-y2)) (m*(1+y3)) (m*(1-y3)) u).1=half*(16*(l*m)*(l*m)*((y2+y3)^2+u*(y3-y2)^2))*(1+y5)∧
  (jX (l*(1+y2)) (l*(1-y2)) (m*(1+y3)) (m*(1-y3)) u).2=half*(16*(l*m)*(l*m)*((y2+y3)^2+u*(y3-y2)^2))*(1-y5):=by
 have hh:=CK
 generalize half=w at*
 constructor
 ·have h1:(y2+y3)^2*2=((y2+y3)^2+u*(y3-y2)^2)*(1+y5):=by grobner
  have h2:w*(16*(l*m)*(l*m)*((y2+y3)^2+u*(y3-y2)^2))*(1+y5)=16*(l*m)*(l*m)*(y2+y3)^2*(w*2):=by
   have :w*(16*(l*m)*(l*m)*((y2+y3)^2+u*(y3-y2)^2))*(1+y5)=w*(16*(l*m)*(l*m))*(((y2+y3)^2+u*(y3-y2)^2)*(1+y5)):=by clear h1 key hh;grobner
   rw[this,←h1];clear h1 key hh this;grobner
  rw[h2,hh]
  clear h1 h2 hh key
  unfold jX
  simp only
  grobner
 ·have h1:u*(y3-y2)^2*2=((y2+y3)^2+u*(y3-y2)^2)*(1-y5):=by grobner
  have h2:w*(16*(l*m)*(l*m)*((y2+y3)^2+u*(y3-y2)^2))*(1-y5)=16*(l*m)*(l*m)*(u*(y3-y2)^2)*(w*2):=by
   have :w*(16*(l*m)*(l*m)*((y2+y3)^2+u*(y3-y2)^2))*(1-y5)=w*(16*(l*m)*(l*m))*(((y2+y3)^2+u*(y3-y2)^2)*(1-y5)):=by clear h1 key hh;grobner
   rw[this,←h1];clear h1 key hh this;grobner
  rw[h2,hh]
  clear h1 h2 hh key
  unfold jX
  simp only
  grobner
theorem N9 {a b c d e:F}(k:a*(1-e)=b*(1+e))(h:a+b=0)(h2:c*2=d):2*a=0:=by
 clear h2
 grobner
theorem QN {X Z X' Z' u:F}{p q b:Ed}(h:k7 X Z p)(h':k7 X' Z' q)(hq:q=p.add b)(hu:u*(1-b.y)=1+b.y)(hb:b.y≠1)(hu0:u≠0):k7 (jX X Z X' Z' u).1 (jX X Z X' Z' u).2 (p.add q):=by
 obtain⟨l,hl,rfl,rfl⟩:=h
 obtain⟨m,hm,rfl,rfl⟩:=h'
 have eb:b=p.neg.add q:=by rw[hq,←zL,N8,mG]
 have hb1:=kJ p.neg q
 rw[←eb] at hb1
 have hd1:=jS p.neg q
 have hd5:1-D*p.x*q.x*p.y*q.y≠0:=jS p q
 have hy5:(p.add q).y*(1-D*p.x*q.x*p.y*q.y)=p.y*q.y-p.x*q.x:=kJ p q
 have ed1:dm p.neg q=1+D*p.x*q.x*p.y*q.y:=by show 1-D*(0-p.x)*q.x*p.y*q.y=_;grobner
 have en1:ny p.neg q=p.y*q.y+p.x*q.x:=by show p.y*q.y-(0-p.x)*q.x=_;grobner
 rw[ed1,en1] at hb1
 rw[ed1] at hd1
 have hb0:1-b.y≠0:=fun e=>hb (ov e).symm
 have hbm:b.y≠0-1:=fun e=>by
  rw[e] at hu
  have :u*2=0:=by clear hb1 hy5;grobner
  rcases eU this with h|h
  ·exact hu0 h
  ·exact sO h
 have hbb:b.y*b.y≠1:=fun e=>by
  rcases eU (Tv e) with h|h
  ·exact hb (ov h)
  ·exact hbm (xa h)
 have key:=QL rfl rfl rfl p.on q.on hb1 hd1 hy5 hd5 hu hb0
 obtain⟨f1,f2⟩:=QM (l:=l) (m:=m) key
 refine⟨_,fun e=>?_,f1,f2⟩
 have e1:(p.y+q.y)^2+u*(q.y-p.y)^2=0:=by
  rcases eU e with h|h
  ·exact absurd h CL
  ·have h16:(16:F)*(l*m)*(l*m)≠0:=dy (dy (by decide+kernel) (dy hl hm)) (dy hl hm)
   rcases eU h with h|h
   ·exact absurd h h16
   ·exact h
 have e2:=N9 (c:=0) (d:=0*2) key e1 rfl
 have e3:p.y+q.y=0:=by
  rcases eU e2 with h|h
  ·exact absurd h sO
  ·exact CM h
 refine Tw p.on q.on hb1 hbb hu0 e3 ?_
 rw[e3] at e1
 generalize u*(q.y-p.y)^2=z at*
 clear hb1 hy5 key f1 f2 hu
 grobner
def dU (u:F):List Bool→(F×F)×(F×F)
 |[]=>((1,0),(u,1))
 |b::l=>match b with
  |false=>(mc (dU u l).1.1 (dU u l).1.2,jX (dU u l).1.1 (dU u l).1.2 (dU u l).2.1 (dU u l).2.2 u)
  |true=>(jX (dU u l).1.1 (dU u l).1.2 (dU u l).2.1 (dU u l).2.2 u,mc (dU u l).2.1 (dU u l).2.2)
def dt:List Bool→Nat
 |[]=>0
 |b::l=>2*dt l+b.toNat
theorem vN {u:F}{b:Ed}(hu:u*(1-b.y)=1+b.y)(hb:b.y≠1)(hu0:u≠0):∀ l,k7 (dU u l).1.1 (dU u l).1.2 (bF (dt l) b)∧k7 (dU u l).2.1 (dU u l).2.2 (bF (dt l+1) b)
 |[]=>by
  have hb0:1-b.y≠0:=fun e=>hb (by grobner)
  refine⟨⟨half,CL,?_,?_⟩,⟨bY (1-b.y),fun e=>?_,?_,?_⟩⟩
  ·show(1:F)=half*(1+1)
   have :=CK
   grobner
  ·show(0:F)=half*(1-1)
   grobner
  ·have :=gN hb0
   rw[e] at this
   exact absurd this (by rw[show(1-b.y)*0=0 by grobner];decide+kernel)
  ·have e:bF (dt []+1) b=b:=by show Ed.zero.add b=b;exact mG b
   rw[e]
   show u=_
   have :=gN hb0
   generalize bY (1-b.y)=w at*
   grobner
  ·have e:bF (dt []+1) b=b:=by show Ed.zero.add b=b;exact mG b
   rw[e]
   show(1:F)=_
   have :=gN hb0
   generalize bY (1-b.y)=w at*
   grobner
 |c::l=>by
  obtain⟨h1,h2⟩:=vN hu hb hu0 l
  have ha:=QN h1 h2 rfl hu hb hu0
  have e0:(bF (dt l) b).add (bF (dt l+1) b)=bF (2*dt l+1) b:=by rw[←mN];congr 1;omega
  rw[e0] at ha
  match c with
  |false=>
   have e1:bF (dt (false::l)) b=(bF (dt l) b).add (bF (dt l) b):=by rw[←mN];show bF (2*dt l+0) b=_;congr 1;omega
   refine⟨?_,?_⟩
   ·rw[e1];exact CJ h1
   ·exact ha
  |true=>
   have e1:bF (dt (true::l)+1) b=(bF (dt l+1) b).add (bF (dt l+1) b):=by rw[←mN];show bF (2*dt l+1+1) b=_;congr 1;omega
   refine⟨?_,?_⟩
   ·exact ha
   ·rw[e1];exact CJ h2
def gF (p:Ed):F:=(1+p.y)*bY (1-p.y)
theorem Oa:bY 0=0:=by
 unfold bY
 have :(0:F)^(Q-2)=0:=by
  rw[show Q-2=(Q-3)+1 from rfl]
  generalize Q-3=n
  grobner
 exact this
theorem VK {X Z:F}{p:Ed}(h:k7 X Z p):X*bY Z=gF p:=by
 obtain⟨l,hl,rfl,rfl⟩:=h
 unfold gF
 by_cases h0:1-p.y=0
 ·rw[h0,show l*(0:F)=0 by grobner,Oa];grobner
 ·have i1:=gN h0
  have i2:=gN (dy hl h0)
  generalize 1-p.y=a at*
  generalize bY a=v at*
  generalize bY (l*a)=w at*
  generalize 1+p.y=c at*
  have :l*w=v:=by
   refine sN h0 ?_
   grobner
  rw[←this];clear this i1 i2;grobner
end Go.Cv
end
section
namespace Go.Vm
section
open Go.Proofs Go.Cv
theorem Ob (Q U:List (BitVec 8))(hU:U.length=32):aE (aA (ba (if(aU (da U) Q 255).sw=1#8 then(aU (da U) Q 255).x3 else(aU (da U) Q 255).x2) (bM (if(aU (da U) Q 255).sw=1#8 then(aU (da U) Q 255).z3 else(aU (da U) Q 255).z2) (iD 18446744073709551615#64) (64*4)))%Pq) 32=
  sK (cQ (dT (eC U 16) (d7 Q 255) 255).1.1 (tJ (dT (eC U 16) (d7 Q 255) 255).1.2)):=by
 have hs:=N2 (da U) (eC U 16) Q (Kx U hU) 255 255 (Nat.le_refl _)
 have hw:64*4=64*(iD 18446744073709551615#64).length:=rfl
 generalize aU (da U) Q 255=L at*
 generalize dT (eC U 16) (d7 Q 255) 255=pq at*
 rcases hs with⟨h1,h2,h3⟩|⟨h1,h2,h3⟩
 ·have hn:¬ L.sw=1#8:=by rw[h1];decide
  rw[if_neg hn,if_neg hn]
  have hp:=zH h2.2 AJ
  rw[←hw] at hp
  exact AI (ij h2.1 hp)
 ·rw[if_pos h1,if_pos h1]
  have hp:=zH h2.2 AJ
  rw[←hw] at hp
  exact AI (ij h2.1 hp)
theorem W9 (z:Int):(z%57896044618658097711785492504343953926634992332820282019728792003956564819949).toNat<57896044618658097711785492504343953926634992332820282019728792003956564819949:=by omega
def eD (z:Int):F:=⟨(z%bV).toNat,W9 z⟩
theorem kr (z:Int):((eD z).val:Int)=z%bV:=by
 show(((z%bV).toNat:Nat):Int)=_
 have :=Int.emod_nonneg z (show bV≠0 by decide)
 omega
theorem pK {z w:Int}(h:z%bV=w%bV):eD z=eD w:=by
 apply Fin.ext
 have h1:=kr z
 have h2:=kr w
 rw[h,←h2] at h1
 omega
theorem xv {a b:F}(h:(a.val:Int)=b.val):a=b:=Fin.ext (by omega)
theorem qk (z w:Int):eD (z*w)=eD z*eD w:=by
 apply xv
 rw[Fin.val_mul,kr,Int.natCast_emod,Int.natCast_mul,kr,kr,Int.mul_emod]
 rfl
theorem wM (z w:Int):eD (z+w)=eD z+eD w:=by
 apply xv
 rw[Fin.val_add,kr,Int.natCast_emod,Int.natCast_add,kr,kr,Int.add_emod]
 rfl
theorem wN:eD 1=1:=by decide+kernel
theorem QO:eD (-1)=0-1:=by decide+kernel
theorem Tx:eD 121665=121665:=by decide+kernel
theorem Oc:eD 0=0:=by decide+kernel
def fI (m:List Int):F:=eD (au m)
theorem jL {a b:List Int}(ha:bg a)(hb:bg b):fI (cQ a b)=fI a*fI b:=by
 unfold fI
 rw[pK (jJ a b ha hb).2,qk]
theorem sj {a b:List Int}(ha:bg a)(hb:bg b):fI (fm a b 1)=fI a+fI b:=by
 unfold fI
 rw[pK (kj a b 1 ha hb (by decide)).2,wM,qk,wN]
 generalize eD (au a)=x;generalize eD (au b)=y
 grobner
theorem qa {a b:List Int}(ha:bg a)(hb:bg b):fI (fm a b (-1))=fI a-fI b:=by
 unfold fI
 rw[pK (kj a b (-1) ha hb (by decide)).2,wM,qk,QO]
 generalize eD (au a)=x;generalize eD (au b)=y
 grobner
theorem VL {a b:List Int}(ha:bg a)(hb:bg b):fI (fm a b 121665)=fI a+121665*fI b:=by
 unfold fI
 rw[pK (kj a b 121665 ha hb (by decide)).2,wM,qk,Tx]
theorem Dd {p:Pt}(h:cN p):(fI (kV p).1,fI (kV p).2)=mc (fI p.1) (fI p.2):=by
 unfold kV mc
 dsimp only
 rw[jL (oY h) (tK h),jL (tM h) (DW h)]
 unfold dF
 rw[VL (oY h) (tM h)]
 unfold dE
 rw[qa (oY h) (tK h)]
 unfold dA dB
 rw[jL (mf h) (mf h),jL (mg h) (mg h)]
 unfold pS pD
 rw[sj h.1 h.2,qa h.1 h.2]
theorem De {p q:Pt}{x:List Int}(hp:cN p)(hq:cN q)(hx:bg x):(fI (jy p q x).1,fI (jy p q x).2)=jX (fI p.1) (fI p.2) (fI q.1) (fI q.2) (fI x):=by
 unfold jy jX
 dsimp only
 rw[jL (th hp hq) (th hp hq),jL hx (C8 hp hq)]
 unfold nq
 rw[jL (tj hp hq) (tj hp hq)]
 unfold aC aD
 rw[sj (sf hp hq) (sh hp hq),qa (sf hp hq) (sh hp hq)]
 unfold oW oX
 rw[jL (mg hp) (mf hq),jL (mf hp) (mg hq)]
 unfold pS pD
 rw[sj hp.1 hp.2,qa hp.1 hp.2,sj hq.1 hq.2,qa hq.1 hq.2]
def i8 (bits:List (BitVec 8)):Nat→List Bool
 |0=>[]
 |c+1=>(if bits.getD c 0=48#8 then false else true)::i8 bits c
theorem Tz:fI jW=1:=by
 unfold fI
 rw[show au jW=1 from rfl,wN]
theorem TA:fI (List.replicate 16 0)=0:=by
 unfold fI
 rw[show au (List.replicate 16 0)=0 from rfl,Oc]
theorem CN (x:List Int)(bits:List (BitVec 8))(hx:bg x):∀ c,((fI (dT x bits c).1.1,fI (dT x bits c).1.2),(fI (dT x bits c).2.1,fI (dT x bits c).2.2))=dU (fI x) (i8 bits c)
 |0=>by
  show((fI jW,fI (List.replicate 16 0)),(fI x,fI jW))=((1,0),(fI x,1))
  rw[Tz,TA]
 |c+1=>by
  obtain⟨o1,o2⟩:=BM x bits hx c
  have ih:=CN x bits hx c
  have e1:=congrArg (fun t=>t.1.1) ih
  have e2:=congrArg (fun t=>t.1.2) ih
  have e3:=congrArg (fun t=>t.2.1) ih
  have e4:=congrArg (fun t=>t.2.2) ih
  dsimp only at e1 e2 e3 e4
  unfold dT i8
  by_cases hb:bits.getD c 0=48#8
  ·rw[if_pos hb,if_pos hb]
   unfold dU
   dsimp only
   rw[Dd o1,De o1 o2 hx,e1,e2,e3,e4]
  ·rw[if_neg hb,if_neg hb]
   unfold dU
   dsimp only
   rw[Dd o2,De o1 o2 hx,e1,e2,e3,e4]
theorem CO (z:Int):∀ n:Nat,eD (z^n)=eD z^n
 |0=>by rw[Int.pow_zero,wN];grobner
 |n+1=>by
  rw[Int.pow_succ,qk,CO z n]
  generalize eD z=a
  grobner
theorem TB:ma bitsP bitsP.length=Q-2:=by kernel_rfl
theorem TC {m:List Int}(hm:bg m):fI (tJ m)=bY (fI m):=by
 unfold fI tJ bY
 rw[pK (BL m bitsP hm bitsP.length),CO,TB]
theorem QP (m:List Int):sK m=aE (fI m).val 32:=rfl
def enc (a:F):List (BitVec 8):=aE a.val 32
theorem u9 (a:F):(enc a).length=32:=br _ _
theorem xc (a:F):le (enc a)=a.val:=by
 have h:=a.isLt
 have e:∀ n k:Nat,le (aE n k)=n%256^k:=fun n k=>by
  induction k generalizing n with
  |zero=>show 0=n%1;omega
  |succ k ih=>
   show(BitVec.ofNat 8 n).toNat+256*le (aE (n/256) k)=_
   rw[ih,Nat.pow_succ,Nat.mul_comm (256^k) 256,Nat.mod_mul,BitVec.toNat_ofNat]
 unfold enc
 rw[e]
 exact Nat.mod_eq_of_lt (Nat.lt_trans h (by decide))
theorem QQ (s:List (BitVec 8)):∀ j,(s.getD j 0).toNat=le s/256^j%256:=by
 induction s with
 |nil=>intro j;simp[le]
 |cons b s ih=>
  intro j
  have hb:=b.isLt
  cases j with
  |zero=>show b.toNat=(b.toNat+256*le s)/1%256;omega
  |succ j=>
   show(s.getD j 0).toNat=(b.toNat+256*le s)/256^(j+1)%256
   rw[ih j,Nat.pow_succ,Nat.mul_comm (256^j) 256,←Nat.div_div_eq_div_mul,show(b.toNat+256*le s)/256=le s by omega]
theorem Od (a:F):iW (enc a)=enc a:=by
 have h:=QQ (enc a) 31
 rw[xc] at h
 have hlt:a.val<57896044618658097711785492504343953926634992332820282019728792003956564819949:=a.isLt
 have h2:((enc a).getD 31 0).toNat<128:=by rw[h];omega
 have e:(enc a).getD 31 0&&&127#8=(enc a).getD 31 0:=by
  apply BitVec.eq_of_toNat_eq
  rw[BitVec.toNat_and,show(127#8).toNat=2^7-1 from rfl,Nat.and_two_pow_sub_one_eq_mod]
  omega
 unfold iW
 rw[e]
 have hl:=u9 a
 refine List.ext_getElem? fun j=>?_
 by_cases hj:31=j
 ·subst hj
  rw[List.getElem?_set_self (by omega),List.getD_eq_getElem?_getD,List.getElem?_eq_getElem (by omega)]
  rfl
 ·rw[List.getElem?_set_ne hj]
def jC (k:List (BitVec 8)):Nat:=dt (i8 (d7 (cw k) 255) 255)
theorem TD (k:List (BitVec 8))(a:F):bJ k (enc a)=enc ((dU a (i8 (d7 (cw k) 255) 255)).1.1*bY (dU a (i8 (d7 (cw k) 255) 255)).1.2):=by
 unfold bJ
 rw[Od,Ob _ _ (u9 a)]
 obtain⟨ho,hv⟩:=BI (enc a) (u9 a)
 rw[xc] at hv
 have hf:fI (eC (enc a) 16)=a:=by
  unfold fI
  rw[hv]
  apply xv
  rw[kr,Int.emod_eq_of_lt (by omega) (by have h:a.val<57896044618658097711785492504343953926634992332820282019728792003956564819949:=a.isLt;unfold bV;omega)]
 have hc:=CN (eC (enc a) 16) (d7 (cw k) 255) ho 255
 rw[hf] at hc
 obtain⟨o1,o2⟩:=BM (eC (enc a) 16) (d7 (cw k) 255) ho 255
 have oin:=wJ _ bitsP o1.2 bitsP.length
 rw[show iC (dT (eC (enc a) 16) (d7 (cw k) 255) 255).1.2 bitsP bitsP.length=tJ (dT (eC (enc a) 16) (d7 (cw k) 255) 255).1.2 from rfl] at oin
 rw[QP,jL o1.1 oin,TC o1.2,←hc]
 rfl
theorem zM (k:List (BitVec 8)){p:Ed}(h1:p.y≠1)(h2:p.y≠0-1):bJ k (enc (gF p))=enc (gF (bF (jC k) p)):=by
 have hb0:1-p.y≠0:=fun e=>h1 (ov e).symm
 have hi:=gN hb0
 have hu:gF p*(1-p.y)=1+p.y:=by
  unfold gF
  generalize bY (1-p.y)=w at*
  generalize p.y=y at*
  clear h1 h2 hb0
  grobner
 have hu0:gF p≠0:=fun e=>by
  rw[e] at hu
  exact h2 (xa (by clear hi;grobner))
 rw[TD,VK (vN hu h1 hu0 _).1]
 rfl
end
end Go.Vm
end
section
namespace Go.Cv
abbrev Lo:Nat:=7237005577332262213973186563042994240857116359379907606001950938285454250989
theorem prmLo:Prm Lo:=W0
def xd:List Bool:=[true,false,true,true,false,true,true,true,true,true,false,false,true,false,true,true,true,false,true,false,true,true,true,true,false,false,true,true,true,false,true,false,false,true,false,true,true,false,false,false,true,true,false,false,false,true,true,false,false,true,false,false,true,false,false,false,false,false,false,true,true,false,true,false,false,true,true,false,true,false,true,true,false,false,true,true,true,false,false,true,true,true,true,false,true,true,true,true,false,true,false,false,false,true,false,true,false,true,true,true,true,false,true,true,true,false,false,true,true,true,true,true,false,true,true,true,true,false,true,true,false,false,true,false,true,false,false,false,false,false,false,false,false,false,false,false,false,false,false,false,false,false,false,false,false,false,false,false,false,false,false,false,false,false,false,false,false,false,false,false,false,false,false,false,false,false,false,false,false,false,false,false,false,false,false,false,false,false,false,false,false,false,false,false,false,false,false,false,false,false,false,false,false,false,false,false,false,false,false,false,false,false,false,false,false,false,false,false,false,false,false,false,false,false,false,false,false,false,false,false,false,false,false,false,false,false,false,false,false,false,false,false,false,false,false,false,false,false,false,false,false,false,false,false,false,false,false,false,false,false,false,false,true]
theorem VM:dt xd=Lo:=by decide+kernel
theorem Df:(9:F)*(1-base.y)=1+base.y:=by decide+kernel
theorem sk:base.y≠1:=by decide+kernel
theorem QR:base.y≠0-1:=by decide+kernel
theorem QS:(9:F)≠0:=by decide+kernel
theorem QT:(dU 9 xd).1.2=0:=by decide+kernel
theorem vO {p:Ed}(h:p.y=1):p=Ed.zero:=by
 have on:=p.on
 rw[h] at on
 have hd:(1:F)-D≠0:=by decide+kernel
 have e:(1-D)*(p.x*p.x)=0:=by
  generalize p.x=x at*
  generalize D=d at*
  clear hd h
  grobner
 refine Ed.ext' ?_ h
 rcases eU e with h|h
 ·exact absurd h hd
 ·rcases eU h with h|h<;>exact h
theorem Oe {X Z:F}{p:Ed}(h:k7 X Z p)(hz:Z=0):p=Ed.zero:=by
 obtain⟨l,hl,-,h2⟩:=h
 rw[hz] at h2
 rcases eU h2.symm with h|h
 ·exact absurd h hl
 ·exact vO (ov h).symm
theorem VN:bF Lo base=Ed.zero:=by
 have h:=(vN Df sk QS xd).1
 rw[VM] at h
 exact Oe h QT
theorem AS:∀ n,bF n Ed.zero=Ed.zero
 |0=>rfl
 |n+1=>by show(bF n Ed.zero).add Ed.zero=_;rw[AS n,mG]
theorem Of {p:Ed}:∀ a b:Nat,bF a p=Ed.zero→bF b p=Ed.zero→bF (Nat.gcd a b) p=Ed.zero:=by
 intro a b
 induction a,b using Nat.gcd.induction with
 |H0 n=>intro _ h;simpa using h
 |H1 m n hm ih=>
  intro ha hb
  rw[Nat.gcd_rec]
  refine ih ?_ ha
  have e:=Nat.div_add_mod n m
  rw[←e,mN,wk,ha,AS,mG] at hb
  exact hb
theorem CP {n:Nat}(h:bF n base=Ed.zero):Lo∣n:=by
 have hg:=Of n Lo h VN
 rcases prmLo.2 _ (Nat.gcd_dvd_right n Lo) with e|e
 ·rw[e] at hg
  have h1:base=Ed.zero:=by rw[←hg];exact(mG base).symm
  exact absurd (congrArg Ed.y h1) sk
 ·rw[←e]
  exact Nat.gcd_dvd_left n Lo
theorem AT {n:Nat}(h:¬ Lo∣n):(bF n base).y≠1∧(bF n base).y≠0-1:=by
 refine⟨fun e=>h (CP (vO e)),fun e=>?_⟩
 have hx:((bF n base).add (bF n base)).y=1:=by
  have hy:=kJ (bF n base) (bF n base)
  have on:=(bF n base).on
  generalize bF n base=p at*
  rw[e] at on
  have hd:(1:F)-D≠0:=by decide+kernel
  have ex:(1-D)*(p.x*p.x)=0:=by
   generalize p.x=x at*
   generalize D=d at*
   clear hd hy
   grobner
  have e0:p.x=0:=by
   rcases eU ex with h|h
   ·exact absurd h hd
   ·rcases eU h with h|h<;>exact h
  have e1:dm p p=1:=by
   show 1-D*p.x*p.x*p.y*p.y=1
   rw[e0];generalize p.y=y;generalize D=d;grobner
  have e2:ny p p=1:=by
   show p.y*p.y-p.x*p.x=1
   rw[e0,e];decide+kernel
  rw[e1,e2] at hy
  generalize (p.add p).y=y at*
  clear on ex
  grobner
 have h2:=vO hx
 rw[←mN] at h2
 have h3:=CP h2
 rw[←Nat.two_mul] at h3
 rcases prmLo.dvd_mul h3 with h4|h4
 ·exact absurd (Nat.le_of_dvd (by decide) h4) (by decide)
 ·exact h h4
theorem Og:gF base=9:=by
 have h:=gN (a:=1-base.y) (fun e=>sk (ov e).symm)
 unfold gF
 rw[←Df]
 generalize bY (1-base.y)=w at*
 generalize 1-base.y=a at*
 grobner
theorem TE {p:Ed}(h1:p.y≠1)(h2:p.y≠0-1):gF p≠0:=by
 have hi:=gN (a:=1-p.y) (fun e=>h1 (ov e).symm)
 intro e
 unfold gF at e
 rcases eU e with h|h
 ·exact h2 (xa (by clear hi h1 h2 e;grobner))
 ·rw[h] at hi
  exact absurd hi (by rw[show(1-p.y)*(0:F)=0 by clear hi h1 h2 e h;grobner];decide+kernel)
end Go.Cv
end
section
namespace Go.Vm
section
open Go.Proofs Go.Cv
theorem QU (x:BitVec 8):((x&&&127#8|||64#8)>>>6)&&&1#8=1#8:=by
 have h:∀ y:Nat,tw (fun y=>Nat.beq (((BitVec.ofNat 8 y&&&127#8|||64#8)>>>6)&&&1#8).toNat 1) 256=true:=fun _=>by decide+kernel
 have :=vX (h 0) x.toNat x.isLt
 have e:BitVec.ofNat 8 x.toNat=x:=by simp
 simp only[e] at this
 exact BitVec.eq_of_toNat_eq (Nat.eq_of_beq_eq_true this)
theorem Oh (x:BitVec 8):(x&&&248#8)>>>0&&&1#8=0#8∧(x&&&248#8)>>>1&&&1#8=0#8∧(x&&&248#8)>>>2&&&1#8=0#8:=by
 have h:∀ y:Nat,tw (fun y=>Nat.beq (((BitVec.ofNat 8 y&&&248#8)>>>0&&&1#8).toNat+((BitVec.ofNat 8 y&&&248#8)>>>1&&&1#8).toNat+((BitVec.ofNat 8 y&&&248#8)>>>2&&&1#8).toNat) 0) 256=true:=fun _=>by decide+kernel
 have :=vX (h 0) x.toNat x.isLt
 have e:BitVec.ofNat 8 x.toNat=x:=by simp
 simp only[e] at this
 have :=Nat.eq_of_beq_eq_true this
 exact⟨BitVec.eq_of_toNat_eq (by show _=0;omega),BitVec.eq_of_toNat_eq (by show _=0;omega),BitVec.eq_of_toNat_eq (by show _=0;omega)⟩
theorem Oi {k:List (BitVec 8)}(hk:k.length=32):(cw k).getD 31 0=(k.getD 31 0&&&127#8)|||64#8:=by
 unfold cw
 rw[List.getD_eq_getElem?_getD,List.getElem?_set_self (by rw[List.length_set];omega)]
 rfl
theorem wO {k:List (BitVec 8)}(hk:k.length=32):(cw k).getD 0 0=k.getD 0 0&&&248#8:=by
 unfold cw
 rw[List.getD_eq_getElem?_getD,List.getElem?_set_ne (by decide),List.getElem?_set_self (by omega)]
 rfl
theorem Oj {k:List (BitVec 8)}(hk:k.length=32):nc (cw k) 254=49#8:=by
 have :fy (cw k) 254=1#8:=by
  unfold fy
  rw[show 254/8=31 from rfl,show 254%8=6 from rfl,Oi hk]
  exact QU _
 unfold nc
 rw[this]
 rfl
theorem wm {k:List (BitVec 8)}(hk:k.length=32){t:Nat}(ht:t<3):nc (cw k) t=48#8:=by
 obtain⟨h0,h1,h2⟩:=Oh (k.getD 0 0)
 have :fy (cw k) t=0#8:=by
  unfold fy
  match t,ht with
  |0,_=>rw[show 0/8=0 from rfl,show 0%8=0 from rfl,wO hk];exact h0
  |1,_=>rw[show 1/8=0 from rfl,show 1%8=1 from rfl,wO hk];exact h1
  |2,_=>rw[show 2/8=0 from rfl,show 2%8=2 from rfl,wO hk];exact h2
 unfold nc
 rw[if_pos this]
theorem Ok (b:Bool)(l:List Bool):dt (b::l)=2*dt l+b.toNat:=rfl
theorem qb (s:List (BitVec 8))(c:Nat):dt (i8 s (c+1))=2*dt (i8 s c)+(if s.getD c 0=48#8 then 0 else 1):=by
 rw[i8,Ok]
 split <;>rfl
theorem AU {s:List (BitVec 8)}(h:s.getD 0 0≠48#8):∀ c,2^c≤dt (i8 s (c+1))∧dt (i8 s (c+1))<2^(c+1)
 |0=>by
  rw[qb,if_neg h]
  exact⟨Nat.le_refl 1,Nat.lt_succ_self 1⟩
 |c+1=>by
  obtain⟨h1,h2⟩:=AU h c
  rw[qb,Nat.pow_succ,Nat.pow_succ 2 (c+1)]
  split <;>omega
theorem QV {k:List (BitVec 8)}(hk:k.length=32):∃ m,jC k=8*m∧2^251≤m∧m<2^252:=by
 have g:=zJ (cw k) 255
 refine⟨dt (i8 (d7 (cw k) 255) 252),?_,?_⟩
 ·unfold jC
  have n3:=qb (d7 (cw k) 255) 254
  have n2:=qb (d7 (cw k) 255) 253
  have n1:=qb (d7 (cw k) 255) 252
  rw[g 254 (by decide),wm hk (by decide),if_pos rfl] at n3
  rw[g 253 (by decide),wm hk (by decide),if_pos rfl] at n2
  rw[g 252 (by decide),wm hk (by decide),if_pos rfl] at n1
  rw[n3,n2,n1]
  omega
 ·exact AU (c:=251) (by rw[g 0 (by decide),Oj hk];decide)
theorem vP {k:List (BitVec 8)}(hk:k.length=32):¬ Lo∣jC k:=by
 obtain⟨m,h1,h2,h3⟩:=QV hk
 intro h
 rw[h1] at h
 have hp:=prmLo
 rcases hp.dvd_mul h with h4|h4
 ·exact absurd (Nat.le_of_dvd (by decide) h4) (by decide)
 ·have h5:=Nat.le_of_dvd (by omega) h4
  have h6:Lo<2^253:=by decide
  have h7:2^252<Lo:=by decide
  omega
theorem Ol:basePt=enc (gF base):=by
 rw[Og]
 decide+kernel
theorem KJ {k:List (BitVec 8)}:bJ k basePt=enc (gF (bF (jC k) base)):=by
 rw[Ol]
 exact zM k sk QR
theorem wn {a b:List (BitVec 8)}(hb:b.length=32):bJ a (bJ b basePt)=enc (gF (bF (jC b*jC a) base)):=by
 obtain⟨h1,h2⟩:=AT (vP hb)
 rw[KJ,zM a h1 h2,wk]
theorem rF {a b:List (BitVec 8)}(ha:a.length=32)(hb:b.length=32):bJ a (bJ b basePt)=bJ b (bJ a basePt):=by
 rw[wn hb,wn ha,Nat.mul_comm]
theorem lz {a b:List (BitVec 8)}(ha:a.length=32)(hb:b.length=32):bJ a (bJ b basePt)≠List.replicate 32 0#8:=by
 rw[wn hb]
 have hg:¬ Lo∣jC b*jC a:=fun h=>by
  have hp:=prmLo
  rcases hp.dvd_mul h with h|h
  ·exact vP hb h
  ·exact vP ha h
 obtain⟨h1,h2⟩:=AT hg
 have h3:=TE h1 h2
 generalize gF (bF (jC b*jC a) base)=u at*
 intro e
 have h4:=xc u
 rw[e,show le (List.replicate 32 0#8)=0 by decide+kernel] at h4
 exact h3 (Fin.ext h4.symm)
end
end Go.Vm
end
section
namespace Go.Vm
open Go.Proofs
section
theorem wo (ss:List (List ac))(hn:ss.length≤1000)(h32:∀ s∈ss,s.length=32):ag Tryz.prog 119 [.slice 0 0 ss.length 1] [bK (ss.map .str)] (.bool true) [bK (ss.map .str)]:=by
 have :∃ v h',ag Tryz.prog 119 [.slice 0 0 ss.length 1] [bK (ss.map .str)] v h'∧(v= .bool true∧h'=[bK (ss.map .str)]):=by
  refine dI (Post:=fun v h'=>v= .bool true∧h'=[bK (ss.map .str)]) (by kernel_rfl) (fn:=Tryz.f119) Tryz.func119 rfl (by show 1≤15;decide) (ae ?_)
  simp only[go_sem,seval]
  refine bf (fun j st=>∃ i:Nat,i+j=ss.length∧st=⟨[(5,.slice 0 0 ss.length 1),(6,.i64 ss.length),(7,.i64 i)],[bK (ss.map .str)]⟩) ?_ ?_
  ·exact bP ss.length ⟨[(5,.slice 0 0 ss.length 1),(6,.i64 ss.length),(7,.i64 (0:Nat))],[bK (ss.map .str)]⟩ (by simp[St.get,af]) rfl (fun _ _ h=>h) ⟨0,by omega,rfl⟩
  rintro j st ⟨i,hij,rfl⟩-
  by_cases hi:i<ss.length
  ·have hi':(i:Int)<ss.length:=by omega
   have hw1:=gM (i:=i) (by omega)
   have hg:(ss.map V.str).getD i .junk= .str (ss.getD i []):=by rw[eg V.str [],if_pos hi]
   have hl:((ss.getD i []).length:Int)=32:=by
    have :=h32 (ss.getD i []) (by rw[List.getD_eq_getElem?_getD,List.getElem?_eq_getElem hi];exact List.getElem_mem hi)
    omega
   simp only[go_sem,seval,hi',hg,List.length_map,hl]
   repeat refine aJ ?_
   exact bL (j-1) ⟨[(5,.slice 0 0 ss.length 1),(6,.i64 ss.length),(7,.i64 (i+1:Nat))],[bK (ss.map .str)]⟩ (by omega) (by simp[St.get,af,hw1]) rfl (fun _ _ h=>h) ⟨i+1,by omega,rfl⟩
  ·have hi':¬ (i:Int)<ss.length:=by omega
   simp only[go_sem,seval,hi']
   refine⟨_,_,?_,Fin.take 1 (by simp) (by simp) (by simp[V.low,-List.map_take,-List.map_drop,-List.map_map,-List.map_set]) (by simp[aO,-List.map_take,-List.map_drop,-List.map_map,-List.map_set])⟩
   exact⟨rfl,rfl⟩
 obtain⟨_,_,hs,rfl,rfl⟩:=this
 exact hs
def cd (n:BitVec 32):List ac:=aE (n.setWidth 64).toNat 4
theorem b8 (n:BitVec 32):(cd n).length=4:=br _ _
theorem wq (n:BitVec 32):ao Tryz.prog 124 [.u32 n] (.str (cd n)):=by
 unfold cd
 have h:=br (n.setWidth 64).toNat 4
 refine aB (by kernel_rfl) (fn:=Tryz.f124) (by kernel_rfl) Tryz.func124 rfl (by show 1≤7;decide) (by simp[aa,V.low]) (by simp[V.low]) (ae ?_)
 simp only[go_sem,seval,Tryz.ntmps124]
 refine aq [] (qF (n.setWidth 64)) (by kernel_rfl) (by simp) rfl (by simp) (by first|decide|simp) (by simp) (by simp) (by simp) (by simp) (by simp) ?_
 simp only[go_sem,seval]
 exact⟨by omega,by first|trivial|(rw[List.take_of_length_le (Nat.le_of_eq h)];trivial)|simp[List.take_of_length_le (Nat.le_of_eq h)]⟩
def ai (k:List ac):List ac:=bJ k basePt
theorem bw (k:List ac):(ai k).length=32:=mj _ _
def gG (sec nano:Int):List ac:=ar (4611686018427387904+sec.toNat) 8++ar nano.toNat 4
theorem lm (sec nano:Int):(gG sec nano).length=12:=by unfold gG;simp[aW]
noncomputable def jF (su:Int) (q once:List ac):HS:=(HS.start su (ai q)).both su (ai once)
noncomputable def iF (su:Int) (q once:List ac):HS:=(jF su q once).key su (bJ once (ai q))
noncomputable def fA (su:Int) (q once own:List ac):List ac:=(iF su q once).out su (ai own)
noncomputable def j0 (su:Int) (q once own:List ac):HS:=(iF su q once).next su (fA su q once own)
noncomputable def iG (su:Int) (q once own:List ac):HS:=(j0 su q once own).key su (bJ own (ai q))
def fR (sec nano best:Int):List ac:=gG sec nano++[BitVec.ofInt 8 best]
noncomputable def fB (su:Int) (q once own:List ac) (sec nano best:Int):List ac:=(iG su q once own).out su (fR sec nano best)
noncomputable def aS (su:Int) (q once own:List ac) (sec nano best:Int):HS:=(iG su q once own).next su (fB su q once own sec nano best)
noncomputable def fT (su:Int) (q once own:List ac) (sec nano best:Int) (id:BitVec 32):List ac:=1#8::BitVec.ofInt 8 su::(cd id++ai once++fA su q once own++fB su q once own sec nano best)
section
variable {su:Int}{q once own:List ac}{sec nano best:Int}{id:BitVec 32}
theorem xe (hx:su=1∨su=2):(jF su q once).ok∧(jF su q once).k.length=32:=HS.ok_both hx (HS.ok_start hx (by rw[bw];decide)) (by rw[bw];decide)
theorem ow (hx:su=1∨su=2):(iF su q once).ok∧(iF su q once).k.length=32:=HS.ok_key hx (xe hx).1 (by rw[mj];decide)
theorem mH (hx:su=1∨su=2):(fA su q once own).length=48:=by
 have h:=ow (q:=q) (once:=once) hx
 show((iF su q once).out su (ai own)).length=48
 rw[HS.out_length h.1 h.2 (by rw[bw];decide),bw]
theorem xf (hx:su=1∨su=2):(j0 su q once own).ok:=HS.ok_next hx (ow hx).1 (by rw[mH hx];decide)
theorem oz (hx:su=1∨su=2):(iG su q once own).ok∧(iG su q once own).k.length=32:=HS.ok_key hx (xf hx) (by rw[mj];decide)
theorem pL:(fR sec nano best).length=13:=by unfold fR;rw[List.length_append,lm];rfl
theorem mI (hx:su=1∨su=2):(fB su q once own sec nano best).length=29:=by
 have h:=oz (q:=q) (once:=once) (own:=own) hx
 show((iG su q once own).out su (fR sec nano best)).length=29
 rw[HS.out_length h.1 h.2 (by rw[pL];decide),pL]
theorem lN (hx:su=1∨su=2):(aS su q once own sec nano best).ok:=HS.ok_next hx (oz hx).1 (by rw[mI hx];decide)
theorem BX (hx:su=1∨su=2)(hbest:best=1∨best=2)(ht:im sec nano)(psk:List ac)(hq:q.length=32)(ho:once.length=32)(hw:own.length=32)(hp:psk.length=32):
  ag Tryz.prog 89 [.agg [.i64 su,.str own,.str (ai q),.str psk],.str once,.agg [.i64 sec,.i64 nano],.i64 best,.u32 id] [] (.tup [.str (fT su q once own sec nano best id),.ptr 0 0,.i64 0])
   [bK ((aS su q once own sec nano best).cs su++[.i64 su,.str own,.str (ai q),.str psk,.str once,.u32 id])]:=by
 have hsu':decide (su=1∨su=2)=true:=decide_eq_true hx
 have hb':decide (best=1∨best=2)=true:=decide_eq_true hbest
 have hwr:=IT sec nano
 rw[if_pos ht] at hwr
 change ao _ _ _ (.tup [.str (gG sec nano),.i64 0]) at hwr
 have hbg:=BV hx (u:=ai q) (by rw[bw];decide)
 have hbo:=si hx (HS.ok_start hx (u:=ai q) (by rw[bw];decide)) (t:=ai once) (by rw[bw];decide) 0
 change ag _ _ _ _ _ (aT 0 ((jF su q once).cs su)) at hbo
 have hse:=lr hx (xe (q:=q) (once:=once) hx).1 (k:=once) (u:=ai q) ho (bw q) (lz ho hq)
 change ag _ _ _ _ _ (aT 0 ((iF su q once).cs su)) at hse
 have hsl:=wi hx (ow (q:=q) (once:=once) hx).1 (ow hx).2 (t:=ai own) (by rw[bw];decide)
 change ag _ _ _ _ (.str (fA su q once own)) (aT 0 ((j0 su q once own).cs su)) at hsl
 have hs5:=lr hx (xf (q:=q) (once:=once) (own:=own) hx) (k:=own) (u:=ai q) hw (bw q) (lz hw hq)
 change ag _ _ _ _ _ (aT 0 ((iG su q once own).cs su)) at hs5
 have hs6:=wi hx (oz (q:=q) (once:=once) (own:=own) hx).1 (oz hx).2 (t:=fR sec nano best) (by rw[pL];decide)
 change ag _ _ _ _ (.str (fB su q once own sec nano best)) (aT 0 ((aS su q once own sec nano best).cs su)) at hs6
 have hP1:ao Tryz.prog 24 [.str once] (.tup [.str (ai once),.i64 0]):=jd once ho
 have hP2:ao Tryz.prog 24 [.str own] (.tup [.str (ai own),.i64 0]):=jd own hw
 have hk:=wo [own,ai q,psk,once] (by simp) (by simp[hw,hp,ho,bw])
 have hix:=wq id
 have r0:=(HS.start su (ai q)).rens su
 have l0:=(HS.start su (ai q)).low su
 have r1:=(jF su q once).rens su
 have l1:=(jF su q once).low su
 have r2:=(iF su q once).rens su
 have l2:=(iF su q once).low su
 have r3:=(j0 su q once own).rens su
 have l3:=(j0 su q once own).low su
 have r4:=(iG su q once own).rens su
 have l4:=(iG su q once own).low su
 have r5:=(aS su q once own sec nano best).rens su
 have l5:=(aS su q once own sec nano best).low su
 have n5:=(aS su q once own sec nano best).len su
 have eR:fR sec nano best=gG sec nano++[BitVec.ofInt 8 best]:=rfl
 have hwl:=lm sec nano
 have hla:=mH (q:=q) (once:=once) (own:=own) hx
 have hlb:=mI (q:=q) (once:=once) (own:=own) (sec:=sec) (nano:=nano) (best:=best) hx
 have hli:=b8 id
 have hlp:=bw once
 have e5:∃ (ty:TypeId) (h c k:List ac) (n:BitVec 64),(aS su q once own sec nano best).cs su=[.iface ty (.agg []),.str h,.str c,.str k,.u64 n]:=⟨_,_,_,_,_,rfl⟩
 unfold fT
 generalize (HS.start su (ai q)).cs su=c0 at*
 generalize (jF su q once).cs su=c1 at*
 generalize (iF su q once).cs su=c2 at*
 generalize (j0 su q once own).cs su=c3 at*
 generalize (iG su q once own).cs su=c4 at*
 generalize (aS su q once own sec nano best).cs su=c5 at*
 generalize fA su q once own=a at*
 generalize fB su q once own sec nano best=b at*
 generalize fR sec nano best=fr at*
 generalize gG sec nano=wh at*
 generalize cd id=ix at*
 generalize ai once=po at*
 generalize ai own=pw at*
 generalize ai q=pq at*
 obtain⟨ty5,h5,k5,g5,m5,rfl⟩:=e5
 have :∃ v h',ag Tryz.prog 89 [.agg [.i64 su,.str own,.str pq,.str psk],.str once,.agg [.i64 sec,.i64 nano],.i64 best,.u32 id] [] v h'∧(v= .tup [.str (1#8::BitVec.ofInt 8 su::(ix++po++a++b)),.ptr 0 0,.i64 0]∧
   h'=[bK [.iface ty5 (.agg []),.str h5,.str k5,.str g5,.u64 m5,.i64 su,.str own,.str pq,.str psk,.str once,.u32 id]]):=by
  refine dI (Post:=fun v h'=>v= .tup [.str (1#8::BitVec.ofInt 8 su::(ix++po++a++b)),.ptr 0 0,.i64 0]∧h'=[bK [.iface ty5 (.agg []),.str h5,.str k5,.str g5,.u64 m5,.i64 su,.str own,.str pq,.str psk,.str once,.u32 id]]) (by kernel_rfl) (fn:=Tryz.f89) Tryz.func89 rfl (by show 5≤127;decide) (ae ?_)
  simp only[go_sem,seval]
  repeat refine aJ ?_
  refine ak (hwr) ?_
  simp only[go_sem,seval]
  repeat refine aJ ?_
  refine ak (nu su) ?_
  simp only[go_sem,seval,hsu',Bool.not_true]
  repeat refine aJ ?_
  refine aq [2] (hk) (by kernel_rfl) (by simp) rfl (by simp) (by first|decide|simp) (by simp) (by simp) (by simp) (by simp) (by simp) ?_
  simp only[go_sem,seval,Bool.not_true]
  refine ak (nu best) ?_
  simp only[go_sem,seval,hb',Bool.not_true]
  repeat refine aJ ?_
  refine aq [] (hbg) (by kernel_rfl) (by simp) rfl (by simp) (by first|decide|simp) (by simp) (by simp) (by simp) (by simp) (by simp) ?_
  simp only[go_sem,seval,aT,r0]
  repeat refine aJ ?_
  refine ak (hP1) ?_
  simp only[go_sem,seval]
  repeat refine aJ ?_
  refine ak (hP2) ?_
  simp only[go_sem,seval]
  repeat refine aJ ?_
  refine aq [3,4] (hbo) (by kernel_rfl) (by simp) rfl (by simp[aT]) (by first|decide|simp) (by simp) (by simp[aT]) (by simp[aT,r0,l0]) (by simp[aT]) (by simp) ?_
  simp only[go_sem,seval,aT,r1]
  repeat refine aJ ?_
  refine aq [3,4] (hse) (by kernel_rfl) (by simp) rfl (by simp[aT]) (by first|decide|simp) (by simp) (by simp[aT]) (by simp[aT,r1,l1]) (by simp[aT]) (by simp) ?_
  simp only[go_sem,seval,aT,r2]
  repeat refine aJ ?_
  refine aq [3,4] (hsl) (by kernel_rfl) (by simp) rfl (by simp[aT]) (by first|decide|simp) (by simp) (by simp[aT]) (by simp[aT,r2,l2]) (by simp[aT]) (by simp) ?_
  simp only[go_sem,seval,aT,r3]
  repeat refine aJ ?_
  refine aq [3,4] (hs5) (by kernel_rfl) (by simp) rfl (by simp[aT]) (by first|decide|simp) (by simp) (by simp[aT]) (by simp[aT,r3,l3]) (by simp[aT]) (by simp) ?_
  simp only[go_sem,seval,aT,r4]
  repeat refine aJ ?_
  rw[eR] at hs6
  refine aq [3,4] (hs6) (by kernel_rfl) (by simp) rfl (by simp[aT]) (by first|decide|simp) (by simp) (by simp[aT]) (by simp[aT,r4,l4]) (by simp[aT]) (by simp) ?_
  simp only[go_sem,seval,aT]
  repeat refine aJ ?_
  refine aH (hix) ?_
  simp only[go_sem,seval]
  repeat refine aJ ?_
  refine⟨_,_,⟨rfl,rfl⟩,?_⟩
  exact Fin.ren [7] (by simp) (by simp) (by rfl) (by decide) (by simp) (by simp)
 obtain⟨_,_,hs,rfl,rfl⟩:=this
 exact hs
end
end
section
theorem CQ {s:List ac}{size:Nat}{k:BitVec 8}(h1:s.length=size)(hs:2≤size)(h3:s.getD 0 0=k)(h4:((s.getD 1 0).toNat:Int)=1∨((s.getD 1 0).toNat:Int)=2):ao Tryz.prog 137 [.str s,.i64 size,.u8 k] (.i64 0):=by
 have h1':¬ (s.length:Int)<size:=by omega
 have h2':¬ (size:Int)<s.length:=by omega
 refine aB (by kernel_rfl) (fn:=Tryz.f137) (by kernel_rfl) Tryz.func137 rfl (by show 3≤30;decide) (by simp[aa,V.low]) (by simp[V.low]) (ae ?_)
 simp only[go_sem,↓reduceIte,Nat.reduceEqDiff,Nat.reduceLT,Nat.reduceAdd,Int.reduceToNat,reduceCtorEq,Tryz.ntmps137,Tryz.results137]
 simp only[go_sem,↓reduceIte,Nat.reduceEqDiff,Nat.reduceLT,Int.reduceLE,Int.reduceToNat,reduceCtorEq,h1',h2',h3,not_true,decide_false]
 repeat refine aJ ?_
 refine ak (nu _) ?_
 simp only[go_sem,↓reduceIte,Nat.reduceEqDiff,Nat.reduceLT]
 simp only[go_sem,↓reduceIte,h4]
theorem sn {su:Int}(hx:su=1∨su=2):((BitVec.ofInt 8 su).toNat:Int)=su:=by rcases hx with rfl|rfl<;>rfl
theorem pv {k s:BitVec 8}{ix po a b:List ac}(hi:ix.length=4)(hp:po.length=32)(ha:a.length=48)(hb:b.length=29):
  (k::s::(ix++po++a++b)).length=115∧List.drop 6 (List.take 38 (k::s::(ix++po++a++b)))=po∧List.drop 38 (List.take 86 (k::s::(ix++po++a++b)))=a∧List.drop 86 (k::s::(ix++po++a++b))=b∧List.drop 2 (List.take 6 (k::s::(ix++po++a++b)))=ix:=by
 have t38:List.take 38 (k::s::(ix++po++a++b))=k::s::(ix++po):=by
  rw[List.take_succ_cons,List.take_succ_cons,List.append_assoc,List.take_left' (by simp[hi,hp])]
 have t86:List.take 86 (k::s::(ix++po++a++b))=k::s::(ix++po++a):=by
  rw[List.take_succ_cons,List.take_succ_cons,List.take_left' (by simp[hi,hp,ha])]
 have t6:List.take 6 (k::s::(ix++po++a++b))=k::s::ix:=by
  rw[List.take_succ_cons,List.take_succ_cons,List.append_assoc,List.append_assoc,List.take_left' hi]
 refine⟨by simp[hi,hp,ha,hb],?_,?_,?_,?_⟩
 ·rw[t38,List.drop_succ_cons,List.drop_succ_cons,List.drop_left' hi]
 ·rw[t86,List.drop_succ_cons,List.drop_succ_cons,List.drop_left' (by simp[hi,hp])]
 ·rw[List.drop_succ_cons,List.drop_succ_cons,List.drop_left' (by simp[hi,hp,ha])]
 ·rw[t6];rfl
theorem sP (id:BitVec 32):BitVec.setWidth 32 (BitVec.ofNat 64 (le (cd id)))=id:=by
 have e:∀ n k:Nat,le (aE n k)=n%256^k:=fun n k=>by
  induction k generalizing n with
  |zero=>show 0=n%1;omega
  |succ k ih=>
   show(BitVec.ofNat 8 n).toNat+256*le (aE (n/256) k)=_
   rw[ih,Nat.pow_succ,Nat.mul_comm (256^k) 256,Nat.mod_mul,BitVec.toNat_ofNat]
 have hl:=id.isLt
 unfold cd
 rw[e]
 apply BitVec.eq_of_toNat_eq
 simp only[BitVec.toNat_setWidth,BitVec.toNat_ofNat]
 omega
section
variable {su:Int}{q once own:List ac}{sec nano best:Int}{id:BitVec 32}
theorem CR (hx:su=1∨su=2)(hbest:best=1∨best=2)(hR:ao Tryz.prog 139 [.str (gG sec nano)] (.tup [.agg [.i64 sec,.i64 nano],.i64 0]))(hq:q.length=32)(ho:once.length=32)(hw:own.length=32):
  ag Tryz.prog 95 [.str q,.str (fT su q once own sec nano best id)] [] (.tup [.agg [.i64 su,.u32 id,.str (ai own),.i64 sec,.i64 nano,.i64 best],.ptr 0 0,.i64 0])
   [bK ((aS su q once own sec nano best).cs su++[.i64 su,.u32 id,.str (ai once),.str (ai own)])]:=by
 have hb':decide (best=1∨best=2)=true:=decide_eq_true hbest
 have hbg:=BV hx (u:=ai q) (by rw[bw];decide)
 have hbo:=si hx (HS.ok_start hx (u:=ai q) (by rw[bw];decide)) (t:=ai once) (by rw[bw];decide) 0
 change ag _ _ _ _ _ (aT 0 ((jF su q once).cs su)) at hbo
 have hse:=lr hx (xe (q:=q) (once:=once) hx).1 (k:=q) (u:=ai once) hq (bw once) (lz hq ho)
 rw[show bJ q (ai once)=bJ once (ai q) from rF hq ho] at hse
 change ag _ _ _ _ _ (aT 0 ((iF su q once).cs su)) at hse
 have hsl:=wj hx (ow (q:=q) (once:=once) hx).1 (ow hx).2 (t:=ai own) (by rw[bw];decide)
 change ag _ _ [.ptr 0 0,.str (fA su q once own)] _ _ (aT 0 ((j0 su q once own).cs su)) at hsl
 have hs5:=lr hx (xf (q:=q) (once:=once) (own:=own) hx) (k:=q) (u:=ai own) hq (bw own) (lz hq hw)
 rw[show bJ q (ai own)=bJ own (ai q) from rF hq hw] at hs5
 change ag _ _ _ _ _ (aT 0 ((iG su q once own).cs su)) at hs5
 have hs6:=wj hx (oz (q:=q) (once:=once) (own:=own) hx).1 (oz hx).2 (t:=fR sec nano best) (by rw[pL];decide)
 change ag _ _ [.ptr 0 0,.str (fB su q once own sec nano best)] _ _ (aT 0 ((aS su q once own sec nano best).cs su)) at hs6
 have hP1:ao Tryz.prog 24 [.str q] (.tup [.str (ai q),.i64 0]):=jd q hq
 have hk:=wo [q] (by simp) (by simp[hq])
 obtain⟨q1,q2,q3,q4,q5⟩:=pv (k:=1#8) (s:=BitVec.ofInt 8 su) (b8 id) (bw once) (mH (q:=q) (once:=once) (own:=own) hx) (mI (q:=q) (once:=once) (own:=own) (sec:=sec) (nano:=nano) (best:=best) hx)
 change (fT su q once own sec nano best id).length=115 at q1
 change List.drop 6 (List.take 38 (fT su q once own sec nano best id))=_ at q2
 change List.drop 38 (List.take 86 (fT su q once own sec nano best id))=_ at q3
 change List.drop 86 (fT su q once own sec nano best id)=_ at q4
 change List.drop 2 (List.take 6 (fT su q once own sec nano best id))=_ at q5
 have q6:(((fT su q once own sec nano best id).getD 1 0).toNat:Int)=su:=sn hx
 have q7:(fT su q once own sec nano best id).getD 0 0=1#8:=rfl
 have hf:=CQ (size:=115) (k:=1#8) q1 (by decide) q7 (by rw[q6];exact hx)
 have hid:=sP id
 have hLi:=eT (cd id) (by rw[b8];decide)
 have e8:List.take 8 (cd id)=cd id:=List.take_of_length_le (by rw[b8];decide)
 rw[e8] at hLi
 have w1:List.take 12 (fR sec nano best)=gG sec nano:=by unfold fR;exact List.take_left' (lm sec nano)
 have w2:(((fR sec nano best).getD 12 0).toNat:Int)=best:=by
  unfold fR
  rw[List.getD_eq_getElem?_getD,List.getElem?_append_right (by rw[lm];decide),lm]
  exact sn hbest
 have w3:(fR sec nano best).length=13:=pL
 have r0:=(HS.start su (ai q)).rens su
 have l0:=(HS.start su (ai q)).low su
 have r1:=(jF su q once).rens su
 have l1:=(jF su q once).low su
 have r2:=(iF su q once).rens su
 have l2:=(iF su q once).low su
 have r3:=(j0 su q once own).rens su
 have l3:=(j0 su q once own).low su
 have r4:=(iG su q once own).rens su
 have l4:=(iG su q once own).low su
 have e5:∃ (ty:TypeId) (h c k:List ac) (n:BitVec 64),(aS su q once own sec nano best).cs su=[.iface ty (.agg []),.str h,.str c,.str k,.u64 n]:=⟨_,_,_,_,_,rfl⟩
 generalize (HS.start su (ai q)).cs su=c0 at*
 generalize (jF su q once).cs su=c1 at*
 generalize (iF su q once).cs su=c2 at*
 generalize (j0 su q once own).cs su=c3 at*
 generalize (iG su q once own).cs su=c4 at*
 generalize (aS su q once own sec nano best).cs su=c5 at*
 generalize fT su q once own sec nano best id=first at*
 generalize fA su q once own=a at*
 generalize fB su q once own sec nano best=b at*
 generalize fR sec nano best=fr at*
 generalize gG sec nano=wh at*
 generalize cd id=ix at*
 generalize ai once=po at*
 generalize ai own=pw at*
 generalize ai q=pq at*
 obtain⟨ty5,h5,k5,g5,m5,rfl⟩:=e5
 have g1:(38:Int)≤first.length:=by omega
 have :∃ v h',ag Tryz.prog 95 [.str q,.str first] [] v h'∧(v= .tup [.agg [.i64 su,.u32 id,.str pw,.i64 sec,.i64 nano,.i64 best],.ptr 0 0,.i64 0]∧
   h'=[bK [.iface ty5 (.agg []),.str h5,.str k5,.str g5,.u64 m5,.i64 su,.u32 id,.str po,.str pw]]):=by
  refine dI (Post:=fun v h'=>v= .tup [.agg [.i64 su,.u32 id,.str pw,.i64 sec,.i64 nano,.i64 best],.ptr 0 0,.i64 0]∧h'=[bK [.iface ty5 (.agg []),.str h5,.str k5,.str g5,.u64 m5,.i64 su,.u32 id,.str po,.str pw]]) (by kernel_rfl) (fn:=Tryz.f95) Tryz.func95 rfl (by show 2≤130;decide) (ae ?_)
  simp only[go_sem,↓reduceIte,Nat.reduceLT,Nat.reduceLeDiff,reduceCtorEq]
  repeat refine aJ ?_
  refine aq [1] (hk) (by kernel_rfl) (by simp) rfl (by simp) (by first|decide|simp) (by simp) (by simp) (by simp) (by simp) (by simp) ?_
  simp only[go_sem,↓reduceIte,Nat.reduceEqDiff,Nat.reduceLT,Nat.reduceAdd,Nat.reduceSub,Int.reduceLE,Int.reduceLT,BitVec.reduceOfInt,Bool.not_true]
  refine ak (hf) ?_
  simp only[go_sem,↓reduceIte,Nat.reduceLT,reduceCtorEq,ne_eq,not_true,decide_false]
  refine ak (hP1) ?_
  simp only[go_sem,↓reduceIte,Nat.reduceEqDiff,Nat.reduceLT,Int.reduceLE,Int.reduceLT,Int.reduceToNat,q1,q6]
  repeat refine aJ ?_
  refine aq [] (hbg) (by kernel_rfl) (by simp) rfl (by simp) (by first|decide|simp) (by simp) (by simp) (by simp[q1]) (by simp) (by simp) ?_
  simp only[go_sem,↓reduceIte,Nat.reduceEqDiff,Nat.reduceLT,Nat.reduceAdd,Nat.reduceSub,Int.reduceLE,Int.reduceToNat,r0]
  simp only[go_sem,Int.reduceLE,q1,q2]
  repeat refine aJ ?_
  refine aq [2,3] (hbo) (by kernel_rfl) (by simp) rfl (by simp) (by first|decide|simp) (by simp) (by simp) (by simp[r0,l0]) (by simp) (by simp) ?_
  simp only[go_sem,↓reduceIte,Nat.reduceEqDiff,Nat.reduceLT,Nat.reduceAdd,Nat.reduceSub,reduceCtorEq,r1]
  repeat refine aJ ?_
  refine aq [2,3] (hse) (by kernel_rfl) (by simp) rfl (by simp) (by first|decide|simp) (by simp) (by simp) (by simp[r1,l1]) (by simp) (by simp) ?_
  simp only[go_sem,↓reduceIte,Nat.reduceEqDiff,Nat.reduceLT,Nat.reduceAdd,Nat.reduceSub,Int.reduceLE,Int.reduceToNat,r2]
  simp only[go_sem,Int.reduceLE,q1,q3]
  repeat refine aJ ?_
  refine aq [2,3] (hsl) (by kernel_rfl) (by simp) rfl (by simp) (by first|decide|simp) (by simp) (by simp) (by simp[r2,l2]) (by simp) (by simp) ?_
  simp only[go_sem,↓reduceIte,Nat.reduceEqDiff,Nat.reduceLT,Nat.reduceAdd,Nat.reduceSub,reduceCtorEq,r3]
  repeat refine aJ ?_
  refine aq [2,3] (hs5) (by kernel_rfl) (by simp) rfl (by simp) (by first|decide|simp) (by simp) (by simp) (by simp[r3,l3]) (by simp) (by simp) ?_
  simp only[go_sem,↓reduceIte,Nat.reduceEqDiff,Nat.reduceLT,Nat.reduceAdd,Nat.reduceSub,Int.reduceLE,Int.reduceToNat,r4]
  simp only[go_sem,Int.reduceLE,q1,q4]
  repeat refine aJ ?_
  refine aq [2,3] (hs6) (by kernel_rfl) (by simp) rfl (by simp) (by first|decide|simp) (by simp) (by simp) (by simp[r4,l4]) (by simp) (by simp) ?_
  simp only[go_sem,↓reduceIte,Nat.reduceEqDiff,Nat.reduceLT,Nat.reduceAdd,Nat.reduceSub,Int.reduceLE,Int.reduceToNat,aT]
  repeat refine aJ ?_
  simp only[go_sem,w1]
  repeat refine aJ ?_
  refine ak (hR) ?_
  simp only[go_sem,↓reduceIte,Nat.reduceEqDiff,Nat.reduceLT,Nat.reduceAdd,Int.reduceLE,Int.reduceLT,Int.reduceToNat,ne_eq,not_true,decide_false,w2,w3]
  repeat refine aJ ?_
  refine ak (nu best) ?_
  simp only[go_sem,↓reduceIte,Nat.reduceEqDiff,Nat.reduceLT,Nat.reduceAdd,Int.reduceLE,Int.reduceToNat,hb',Bool.not_true]
  simp only[go_sem,Int.reduceLE,Int.reduceLT,q1,q5,q6]
  repeat refine aJ ?_
  refine aH (hLi) ?_
  simp only[go_sem,↓reduceIte,Nat.reduceEqDiff,Nat.reduceLT,Nat.reduceLeDiff,Nat.reduceAdd,hid]
  repeat refine aJ ?_
  refine⟨_,_,⟨rfl,rfl⟩,?_⟩
  exact Fin.ren [6] (by simp) (by simp) (by rfl) (by decide) (by simp) (by simp)
 obtain⟨_,_,hs,rfl,rfl⟩:=this
 exact hs
end
end
section
noncomputable def j5 (su:Int) (S:HS) (e:List ac):HS:=S.both su (ai e)
noncomputable def j6 (su:Int) (S:HS) (e once:List ac):HS:=(j5 su S e).key su (bJ e (ai once))
noncomputable def j7 (su:Int) (S:HS) (e once own:List ac):HS:=(j6 su S e once).key su (bJ e (ai own))
noncomputable def iH (su:Int) (S:HS) (e once own psk:List ac):HS:=(j7 su S e once own).psk su psk
noncomputable def gC (su:Int) (S:HS) (e once own psk:List ac) (best:Int):List ac:=(iH su S e once own psk).out su [BitVec.ofInt 8 best]
noncomputable def jG (su:Int) (S:HS) (e once own psk:List ac) (best:Int):HS:=(iH su S e once own psk).next su (gC su S e once own psk best)
noncomputable def gK (su:Int) (S:HS) (e once own psk:List ac) (best:Int) (i:Nat):List ac:=d2 su (jG su S e once own psk best).c [] i
noncomputable def bd (su:Int) (S:HS) (e once own psk:List ac) (best:Int) (id2 id:BitVec 32):List ac:=2#8::BitVec.ofInt 8 su::(cd id2++cd id++ai e++gC su S e once own psk best)
section
variable {su:Int}{S:HS}{e q once own psk:List ac}{best:Int}{id id2:BitVec 32}
theorem xg (hx:su=1∨su=2)(hS:S.ok):(j5 su S e).ok:=(HS.ok_both hx hS (by rw[bw];decide)).1
theorem xh (hx:su=1∨su=2)(hS:S.ok):(j6 su S e once).ok:=(HS.ok_key hx (xg hx hS) (by rw[mj];decide)).1
theorem xj (hx:su=1∨su=2)(hS:S.ok):(j7 su S e once own).ok:=(HS.ok_key hx (xh hx hS) (by rw[mj];decide)).1
theorem oA (hx:su=1∨su=2)(hS:S.ok)(hp:psk.length=32):(iH su S e once own psk).ok∧(iH su S e once own psk).k.length=32:=HS.ok_psk hx (xj hx hS) (by omega)
theorem km (hx:su=1∨su=2)(hS:S.ok)(hp:psk.length=32):(gC su S e once own psk best).length=17:=by
 have h:=oA (e:=e) (once:=once) (own:=own) hx hS hp
 show((iH su S e once own psk).out su [BitVec.ofInt 8 best]).length=17
 rw[HS.out_length h.1 h.2 (by simp)]
 rfl
theorem xk (hx:su=1∨su=2)(hS:S.ok)(hp:psk.length=32):(jG su S e once own psk best).ok:=HS.ok_next hx (oA hx hS hp).1 (by rw[km hx hS hp];decide)
theorem gJ (hx:su=1∨su=2)(hS:S.ok)(hp:psk.length=32){i:Nat}(hi:i<2):(gK su S e once own psk best i).length=32:=by
 obtain⟨-,h1,h2⟩:=sc hx (jG su S e once own psk best).c [] (by have :=(xk (e:=e) (once:=once) (own:=own) (best:=best) hx hS hp).2;omega) (by simp)
 match i,hi with
 |0,_=>exact h1
 |1,_=>exact h2
theorem Dg (hx:su=1∨su=2)(h:S.ok):ag Tryz.prog 143 [.ptr 0 0] [bK (S.cs su)] (.tup [.str (d2 su S.c [] 0),.str (d2 su S.c [] 1)]) [bK (S.cs su)]:=NE hx S.h S.c S.k S.n h.2
theorem ml {k s:BitVec 8}{i2 i1 po c:List ac}(h2:i2.length=4)(h1:i1.length=4)(hp:po.length=32)(hc:c.length=17):
  (k::s::(i2++i1++po++c)).length=59∧List.drop 6 (List.take 10 (k::s::(i2++i1++po++c)))=i1∧List.drop 10 (List.take 42 (k::s::(i2++i1++po++c)))=po∧List.drop 42 (k::s::(i2++i1++po++c))=c∧List.drop 2 (List.take 6 (k::s::(i2++i1++po++c)))=i2:=by
 have t10:List.take 10 (k::s::(i2++i1++po++c))=k::s::(i2++i1):=by
  rw[List.take_succ_cons,List.take_succ_cons,List.append_assoc,List.take_left' (by simp[h1,h2])]
 have t42:List.take 42 (k::s::(i2++i1++po++c))=k::s::(i2++i1++po):=by
  rw[List.take_succ_cons,List.take_succ_cons,List.take_left' (by simp[h1,h2,hp])]
 have t6:List.take 6 (k::s::(i2++i1++po++c))=k::s::i2:=by
  rw[List.take_succ_cons,List.take_succ_cons,List.append_assoc,List.append_assoc,List.take_left' h2]
 refine⟨by simp[h1,h2,hp,hc],?_,?_,?_,?_⟩
 ·rw[t10,List.drop_succ_cons,List.drop_succ_cons,List.drop_left' h2]
 ·rw[t42,List.drop_succ_cons,List.drop_succ_cons,List.drop_left' (by simp[h1,h2])]
 ·rw[List.drop_succ_cons,List.drop_succ_cons,List.drop_left' (by simp[h1,h2,hp])]
 ·rw[t6];rfl
theorem AV (hx:su=1∨su=2)(hbest:best=1∨best=2)(hS:S.ok)(he:e.length=32)(ho:once.length=32)(hw:own.length=32)(hp:psk.length=32):
  ag Tryz.prog 97 [.ptr 0 0,.str psk,.str e,.i64 best,.u32 id2] [bK (S.cs su++[.i64 su,.u32 id,.str (ai once),.str (ai own)])]
   (.tup [.str (bd su S e once own psk best id2 id),.agg [.str (gK su S e once own psk best 1),.str (gK su S e once own psk best 0)],.i64 0]) [bK (S.cs su++[.i64 su,.u32 id,.str (ai once),.str (ai own)])]:=by
 have hb':decide (best=1∨best=2)=true:=decide_eq_true hbest
 have hbo:=si hx hS (t:=ai e) (by rw[bw];decide) 0
 change ag _ _ _ _ _ (aT 0 ((j5 su S e).cs su)) at hbo
 have hse:=lr hx (xg (e:=e) hx hS) (k:=e) (u:=ai once) he (bw once) (lz he ho)
 change ag _ _ _ _ _ (aT 0 ((j6 su S e once).cs su)) at hse
 have hs5:=lr hx (xh (e:=e) (once:=once) hx hS) (k:=e) (u:=ai own) he (bw own) (lz he hw)
 change ag _ _ _ _ _ (aT 0 ((j7 su S e once own).cs su)) at hs5
 have hmb:=DZ hx (xj (e:=e) (once:=once) (own:=own) hx hS) (t:=psk) (by omega)
 change ag _ _ _ _ _ [bK ((iH su S e once own psk).cs su)] at hmb
 have hs7:=wi hx (oA (e:=e) (once:=once) (own:=own) hx hS hp).1 (oA hx hS hp).2 (t:=[BitVec.ofInt 8 best]) (by simp)
 change ag _ _ _ _ (.str (gC su S e once own psk best)) (aT 0 ((jG su S e once own psk best).cs su)) at hs7
 have hsp:=Dg hx (xk (e:=e) (once:=once) (own:=own) (best:=best) hx hS hp)
 change ag _ _ _ _ (.tup [.str (gK su S e once own psk best 0),.str (gK su S e once own psk best 1)]) _ at hsp
 have hP1:ao Tryz.prog 24 [.str e] (.tup [.str (ai e),.i64 0]):=jd e he
 have hk:=wo [psk,e] (by simp) (by simp[hp,he])
 have hi1:=wq id
 have hi2:=wq id2
 have l1':=b8 id
 have l2':=b8 id2
 have l3':=bw e
 have l4':=km (e:=e) (once:=once) (own:=own) (best:=best) hx hS hp
 have r1:=(j5 su S e).rens su
 have l1:=(j5 su S e).low su
 have r2:=(j6 su S e once).rens su
 have l2:=(j6 su S e once).low su
 have r3:=(j7 su S e once own).rens su
 have l3:=(j7 su S e once own).low su
 have r4:=(iH su S e once own psk).rens su
 have l4:=(iH su S e once own psk).low su
 have r5:=(jG su S e once own psk best).rens su
 have l5:=(jG su S e once own psk best).low su
 have e0:∃ (ty:TypeId) (h c k:List ac) (n:BitVec 64),S.cs su=[.iface ty (.agg []),.str h,.str c,.str k,.u64 n]:=⟨_,_,_,_,_,rfl⟩
 unfold bd
 generalize (j5 su S e).cs su=c1 at*
 generalize (j6 su S e once).cs su=c2 at*
 generalize (j7 su S e once own).cs su=c3 at*
 generalize (iH su S e once own psk).cs su=c4 at*
 generalize (jG su S e once own psk best).cs su=c5 at*
 generalize gC su S e once own psk best=gc at*
 generalize gK su S e once own psk best 0=k0 at*
 generalize gK su S e once own psk best 1=k1 at*
 generalize S.cs su=c0 at*
 generalize cd id=ix at*
 generalize cd id2=ix2 at*
 generalize ai once=po at*
 generalize ai own=pw at*
 generalize ai e=pe at*
 obtain⟨ty,h0,ch0,q0,n0,rfl⟩:=e0
 have :∃ v h',ag Tryz.prog 97 [.ptr 0 0,.str psk,.str e,.i64 best,.u32 id2] [bK [.iface ty (.agg []),.str h0,.str ch0,.str q0,.u64 n0,.i64 su,.u32 id,.str po,.str pw]] v h'∧
   (v= .tup [.str (2#8::BitVec.ofInt 8 su::(ix2++ix++pe++gc)),.agg [.str k1,.str k0],.i64 0]∧h'=[bK [.iface ty (.agg []),.str h0,.str ch0,.str q0,.u64 n0,.i64 su,.u32 id,.str po,.str pw]]):=by
  refine dI (Post:=fun v h'=>v= .tup [.str (2#8::BitVec.ofInt 8 su::(ix2++ix++pe++gc)),.agg [.str k1,.str k0],.i64 0]∧h'=[bK [.iface ty (.agg []),.str h0,.str ch0,.str q0,.u64 n0,.i64 su,.u32 id,.str po,.str pw]]) (by kernel_rfl) (fn:=Tryz.f97) Tryz.func97 rfl (by show 5≤112;decide) (ae ?_)
  simp -implicitDefEqProofs only[go_sem,↓reduceIte,Nat.reduceEqDiff,Nat.reduceLT,Nat.reduceLeDiff,Nat.reduceAdd,reduceCtorEq]
  repeat refine aJ ?_
  refine aq [2] (hk) (by kernel_rfl) (by simp) rfl (by simp) (by first|decide|simp) (by simp) (by simp) (by simp) (by simp) (by simp) ?_
  simp -implicitDefEqProofs only[go_sem,↓reduceIte,Nat.reduceEqDiff,Nat.reduceLT,Nat.reduceAdd,Nat.reduceSub,reduceCtorEq,Bool.not_true]
  refine ak (nu best) ?_
  simp -implicitDefEqProofs only[go_sem,↓reduceIte,Nat.reduceEqDiff,Nat.reduceLT,Nat.reduceLeDiff,Nat.reduceAdd,reduceCtorEq,hb',Bool.not_true]
  repeat refine aJ ?_
  refine ak (hP1) ?_
  simp -implicitDefEqProofs only[go_sem,↓reduceIte,Nat.reduceEqDiff,Nat.reduceLT]
  repeat refine aJ ?_
  refine aq [4,3] (hbo) (by kernel_rfl) (by simp) rfl (by simp) (by first|decide|simp) (by simp) (by simp) (by simp) (by simp) (by simp) ?_
  simp -implicitDefEqProofs only[go_sem,↓reduceIte,Nat.reduceEqDiff,Nat.reduceLT,Nat.reduceAdd,Nat.reduceSub,reduceCtorEq,r1]
  repeat refine aJ ?_
  refine aq [4,3] (hse) (by kernel_rfl) (by simp) rfl (by simp) (by first|decide|simp) (by simp) (by simp) (by simp[r1,l1]) (by simp) (by simp) ?_
  simp -implicitDefEqProofs only[go_sem,↓reduceIte,Nat.reduceEqDiff,Nat.reduceLT,Nat.reduceAdd,Nat.reduceSub,reduceCtorEq,r2]
  repeat refine aJ ?_
  refine aq [4,3] (hs5) (by kernel_rfl) (by simp) rfl (by simp) (by first|decide|simp) (by simp) (by simp) (by simp[r2,l2]) (by simp) (by simp) ?_
  simp -implicitDefEqProofs only[go_sem,↓reduceIte,Nat.reduceEqDiff,Nat.reduceLT,Nat.reduceAdd,Nat.reduceSub,r3]
  repeat refine aJ ?_
  refine aq [3] (hmb) (by kernel_rfl) (by simp) rfl (by simp) (by first|decide|simp) (by simp) (by simp) (by simp[r3,l3]) (by simp) (by simp) ?_
  simp -implicitDefEqProofs only[go_sem,↓reduceIte,Nat.reduceEqDiff,Nat.reduceLT,Nat.reduceLeDiff,Nat.reduceAdd,Nat.reduceSub,reduceCtorEq,r4]
  repeat refine aJ ?_
  refine aq [4,3] (hs7) (by kernel_rfl) (by simp) rfl (by simp) (by first|decide|simp) (by simp) (by simp) (by simp[r4,l4]) (by simp) (by simp) ?_
  simp -implicitDefEqProofs only[go_sem,↓reduceIte,Nat.reduceEqDiff,Nat.reduceLT,Nat.reduceAdd,Nat.reduceSub,r5]
  repeat refine aJ ?_
  refine aq [3] (hsp) (by kernel_rfl) (by simp) rfl (by simp) (by first|decide|simp) (by simp) (by simp) (by simp[r5,l5]) (by simp) (by simp) ?_
  simp -implicitDefEqProofs only[go_sem,↓reduceIte,Nat.reduceEqDiff,Nat.reduceLT,Nat.reduceLeDiff,Nat.reduceAdd,Nat.reduceSub,Int.reduceLE,Int.reduceLT,BitVec.reduceOfInt,reduceCtorEq,r5]
  repeat refine aJ ?_
  refine aH (hi2) ?_
  simp -implicitDefEqProofs only[go_sem,↓reduceIte,Nat.reduceEqDiff,Nat.reduceLT,Nat.reduceAdd,reduceCtorEq]
  repeat refine aJ ?_
  refine aH (hi1) ?_
  simp -implicitDefEqProofs only[go_sem,↓reduceIte,Nat.reduceEqDiff,Nat.reduceLT,Nat.reduceLeDiff,Nat.reduceAdd]
  repeat refine aJ ?_
  refine⟨_,_,?_,Fin.take 1 (by simp) (by simp) (by simp[aa,V.low,-List.map_take,-List.map_drop,-List.map_map,-List.map_set]) (by simp[aO,aa,V.low,-List.map_take,-List.map_drop,-List.map_map,-List.map_set])⟩
  exact⟨rfl,rfl⟩
 obtain⟨_,_,hs,rfl,rfl⟩:=this
 exact hs
theorem AW (hx:su=1∨su=2)(hbest:best=1∨best=2)(hS:S.ok)(he:e.length=32)(ho:once.length=32)(hw:own.length=32)(hp:psk.length=32)(peer:List ac):
  ag Tryz.prog 101 [.ptr 0 0,.str (bd su S e once own psk best id2 id)] [bK (S.cs su++[.i64 su,.str own,.str peer,.str psk,.str once,.u32 id])]
   (.tup [.agg [.str (gK su S e once own psk best 0),.str (gK su S e once own psk best 1)],.i64 best,.u32 id2,.i64 0]) [bK (S.cs su++[.i64 su,.str own,.str peer,.str psk,.str once,.u32 id])]:=by
 have hb':decide (best=1∨best=2)=true:=decide_eq_true hbest
 have hbo:=si hx hS (t:=ai e) (by rw[bw];decide) 0
 change ag _ _ _ _ _ (aT 0 ((j5 su S e).cs su)) at hbo
 have hse:=lr hx (xg (e:=e) hx hS) (k:=once) (u:=ai e) ho (bw e) (lz ho he)
 rw[show bJ once (ai e)=bJ e (ai once) from rF ho he] at hse
 change ag _ _ _ _ _ (aT 0 ((j6 su S e once).cs su)) at hse
 have hs5:=lr hx (xh (e:=e) (once:=once) hx hS) (k:=own) (u:=ai e) hw (bw e) (lz hw he)
 rw[show bJ own (ai e)=bJ e (ai own) from rF hw he] at hs5
 change ag _ _ _ _ _ (aT 0 ((j7 su S e once own).cs su)) at hs5
 have hmb:=DZ hx (xj (e:=e) (once:=once) (own:=own) hx hS) (t:=psk) (by omega)
 change ag _ _ _ _ _ [bK ((iH su S e once own psk).cs su)] at hmb
 have hs7:=wj hx (oA (e:=e) (once:=once) (own:=own) hx hS hp).1 (oA hx hS hp).2 (t:=[BitVec.ofInt 8 best]) (by simp)
 change ag _ _ [.ptr 0 0,.str (gC su S e once own psk best)] _ _ (aT 0 ((jG su S e once own psk best).cs su)) at hs7
 have hsp:=Dg hx (xk (e:=e) (once:=once) (own:=own) (best:=best) hx hS hp)
 change ag _ _ _ _ (.tup [.str (gK su S e once own psk best 0),.str (gK su S e once own psk best 1)]) _ at hsp
 obtain⟨q1,q2,q3,q4,q5⟩:=ml (k:=2#8) (s:=BitVec.ofInt 8 su) (b8 id2) (b8 id) (bw e) (km (e:=e) (once:=once) (own:=own) (best:=best) hx hS hp)
 change (bd su S e once own psk best id2 id).length=59 at q1
 change List.drop 6 (List.take 10 (bd su S e once own psk best id2 id))=_ at q2
 change List.drop 10 (List.take 42 (bd su S e once own psk best id2 id))=_ at q3
 change List.drop 42 (bd su S e once own psk best id2 id)=_ at q4
 change List.drop 2 (List.take 6 (bd su S e once own psk best id2 id))=_ at q5
 have q6:(((bd su S e once own psk best id2 id).getD 1 0).toNat:Int)=su:=sn hx
 have q7:(bd su S e once own psk best id2 id).getD 0 0=2#8:=rfl
 have hf:=CQ (size:=59) (k:=2#8) q1 (by decide) q7 (by rw[q6];exact hx)
 have hid:=sP id
 have hid2:=sP id2
 have e8:List.take 8 (cd id)=cd id:=List.take_of_length_le (by rw[b8];decide)
 have e82:List.take 8 (cd id2)=cd id2:=List.take_of_length_le (by rw[b8];decide)
 have hLi:=eT (cd id) (by rw[b8];decide)
 rw[e8] at hLi
 have hLi2:=eT (cd id2) (by rw[b8];decide)
 rw[e82] at hLi2
 have w2:((([BitVec.ofInt 8 best]:List ac).getD 0 0).toNat:Int)=best:=sn hbest
 have w3:([BitVec.ofInt 8 best]:List ac).length=1:=rfl
 have r1:=(j5 su S e).rens su
 have l1:=(j5 su S e).low su
 have r2:=(j6 su S e once).rens su
 have l2:=(j6 su S e once).low su
 have r3:=(j7 su S e once own).rens su
 have l3:=(j7 su S e once own).low su
 have r4:=(iH su S e once own psk).rens su
 have l4:=(iH su S e once own psk).low su
 have r5:=(jG su S e once own psk best).rens su
 have l5:=(jG su S e once own psk best).low su
 have e0:∃ (ty:TypeId) (h c k:List ac) (n:BitVec 64),S.cs su=[.iface ty (.agg []),.str h,.str c,.str k,.u64 n]:=⟨_,_,_,_,_,rfl⟩
 generalize (j5 su S e).cs su=c1 at*
 generalize (j6 su S e once).cs su=c2 at*
 generalize (j7 su S e once own).cs su=c3 at*
 generalize (iH su S e once own psk).cs su=c4 at*
 generalize (jG su S e once own psk best).cs su=c5 at*
 generalize bd su S e once own psk best id2 id=sec at*
 generalize gC su S e once own psk best=gc at*
 generalize gK su S e once own psk best 0=k0 at*
 generalize gK su S e once own psk best 1=k1 at*
 generalize S.cs su=c0 at*
 generalize cd id=ix at*
 generalize cd id2=ix2 at*
 generalize ai once=po at*
 generalize ai own=pw at*
 generalize ai e=pe at*
 generalize ([BitVec.ofInt 8 best]:List ac)=bb at*
 obtain⟨ty,h0,ch0,q0,n0,rfl⟩:=e0
 have :∃ v h',ag Tryz.prog 101 [.ptr 0 0,.str sec] [bK [.iface ty (.agg []),.str h0,.str ch0,.str q0,.u64 n0,.i64 su,.str own,.str peer,.str psk,.str once,.u32 id]] v h'∧
   (v= .tup [.agg [.str k0,.str k1],.i64 best,.u32 id2,.i64 0]∧h'=[bK [.iface ty (.agg []),.str h0,.str ch0,.str q0,.u64 n0,.i64 su,.str own,.str peer,.str psk,.str once,.u32 id]]):=by
  refine dI (Post:=fun v h'=>v= .tup [.agg [.str k0,.str k1],.i64 best,.u32 id2,.i64 0]∧h'=[bK [.iface ty (.agg []),.str h0,.str ch0,.str q0,.u64 n0,.i64 su,.str own,.str peer,.str psk,.str once,.u32 id]]) (by kernel_rfl) (fn:=Tryz.f101) Tryz.func101 rfl (by show 2≤121;decide) (ae ?_)
  simp -implicitDefEqProofs only[go_sem,↓reduceIte,Nat.reduceEqDiff,Nat.reduceLT,Int.reduceLE,Int.reduceLT,BitVec.reduceOfInt]
  repeat refine aJ ?_
  refine ak (hf) ?_
  simp -implicitDefEqProofs only[go_sem,↓reduceIte,Nat.reduceEqDiff,Nat.reduceLT,Nat.reduceAdd,Int.reduceLE,Int.reduceLT,Int.reduceToNat,reduceCtorEq,q1,q6,ne_eq,not_true,decide_false,decide_true]
  simp -implicitDefEqProofs only[go_sem,q2]
  repeat refine aJ ?_
  refine aH (hLi) ?_
  simp -implicitDefEqProofs only[go_sem,↓reduceIte,Nat.reduceEqDiff,Nat.reduceLT,Nat.reduceLeDiff,Nat.reduceAdd,Int.reduceLE,Int.reduceToNat,reduceCtorEq,hid,ne_eq,not_true,decide_false]
  simp -implicitDefEqProofs only[go_sem,Int.reduceLE,q1,q3]
  repeat refine aJ ?_
  refine aq [3,2] (hbo) (by kernel_rfl) (by simp) rfl (by simp) (by first|decide|simp) (by simp) (by simp) (by simp) (by simp) (by simp) ?_
  simp -implicitDefEqProofs only[go_sem,↓reduceIte,Nat.reduceEqDiff,Nat.reduceLT,Nat.reduceAdd,Nat.reduceSub,reduceCtorEq,r1]
  repeat refine aJ ?_
  refine aq [3,2] (hse) (by kernel_rfl) (by simp) rfl (by simp) (by first|decide|simp) (by simp) (by simp) (by simp[r1,l1]) (by simp) (by simp) ?_
  simp -implicitDefEqProofs only[go_sem,↓reduceIte,Nat.reduceEqDiff,Nat.reduceLT,Nat.reduceAdd,Nat.reduceSub,reduceCtorEq,r2]
  repeat refine aJ ?_
  refine aq [3,2] (hs5) (by kernel_rfl) (by simp) rfl (by simp) (by first|decide|simp) (by simp) (by simp) (by simp[r2,l2]) (by simp) (by simp) ?_
  simp -implicitDefEqProofs only[go_sem,↓reduceIte,Nat.reduceEqDiff,Nat.reduceLT,Nat.reduceAdd,Nat.reduceSub,reduceCtorEq,r3]
  repeat refine aJ ?_
  refine bh [2] (hmb) (by kernel_rfl) (by simp) rfl (by simp) (by first|decide|simp) (by simp) (by simp) (by simp[r3,l3]) (by simp) (by simp) ?_
  simp -implicitDefEqProofs only[go_sem,↓reduceIte,Nat.reduceEqDiff,Nat.reduceLT,Nat.reduceAdd,Nat.reduceSub,Int.reduceLE,Int.reduceToNat,r4]
  simp -implicitDefEqProofs only[go_sem,Int.reduceLE,q1,q4]
  repeat refine aJ ?_
  refine aq [3,2] (hs7) (by kernel_rfl) (by simp) rfl (by simp) (by first|decide|simp) (by simp) (by simp) (by simp[r4,l4]) (by simp) (by simp) ?_
  simp -implicitDefEqProofs only[go_sem,↓reduceIte,Nat.reduceEqDiff,Nat.reduceLT,Nat.reduceAdd,Nat.reduceSub,Int.reduceToNat,r5]
  repeat refine aJ ?_
  simp -implicitDefEqProofs only[go_sem,w2]
  repeat refine aJ ?_
  refine ak (nu best) ?_
  simp -implicitDefEqProofs only[go_sem,↓reduceIte,Nat.reduceEqDiff,Nat.reduceLT,Nat.reduceAdd,hb',Bool.not_true]
  repeat refine aJ ?_
  refine aq [2] (hsp) (by kernel_rfl) (by simp) rfl (by simp) (by first|decide|simp) (by simp) (by simp) (by simp[r5,l5]) (by simp) (by simp) ?_
  simp -implicitDefEqProofs only[go_sem,↓reduceIte,Nat.reduceEqDiff,Nat.reduceLT,Nat.reduceLeDiff,Nat.reduceAdd,Nat.reduceSub,Int.reduceLE,Int.reduceToNat,r5]
  simp -implicitDefEqProofs only[go_sem,Int.reduceLE,q1,q5]
  repeat refine aJ ?_
  refine aH (hLi2) ?_
  simp -implicitDefEqProofs only[go_sem,↓reduceIte,Nat.reduceEqDiff,Nat.reduceLT,Nat.reduceAdd,hid2]
  repeat refine aJ ?_
  refine⟨_,_,?_,Fin.take 1 (by simp) (by simp) (by simp[aa,V.low,-List.map_take,-List.map_drop,-List.map_map,-List.map_set]) (by simp[aO,aa,V.low,-List.map_take,-List.map_drop,-List.map_map,-List.map_set])⟩
  exact⟨by rw[w2],rfl⟩
 obtain⟨_,_,hs,rfl,rfl⟩:=this
 exact hs
end
end
theorem yZ (u c:List ac):ao Tryz.prog 127 [.str u,.str c] (.i64 (if u.length=32∧(c=[]∨c.length=16) then 0 else 1)):=by
 refine aB (by kernel_rfl) (fn:=Tryz.f127) (by kernel_rfl) Tryz.func127 rfl (by show 2≤17;decide) (by simp[aa,V.low]) (by simp[V.low]) (ae ?_)
 simp only[go_sem,seval,Tryz.ntmps127]
 by_cases h1:(u.length:Int)=32
 ·by_cases h2:c=[]
  ·subst h2
   have h1':u.length=32:=by omega
   simp only[go_sem,seval,h1',not_true,decide_false,true_and,true_or]
  ·by_cases h3:(c.length:Int)=16
   ·have h1':u.length=32:=by omega
    have h3':c.length=16:=by omega
    simp only[go_sem,seval,h1',h2,h3',not_true,not_false_eq_true,decide_true,decide_false,true_and,or_true]
   ·have h3':¬ c.length=16:=by omega
    simp only[go_sem,seval,h1,h2,h3,h3',not_true,not_false_eq_true,decide_true,decide_false,or_self,and_false]
 ·have h1':¬ u.length=32:=by omega
  simp only[go_sem,seval,h1,h1',not_false_eq_true,decide_true,false_and]
section
theorem sQ (key x:List ac)(m:Nat)(hm:1≤m∧m≤32)(hk:key.length≤32)(hx:x.length≤1099511627776):∃ o:List ac,ao Tryz.prog 129 [.str key,.str x,.i64 m] (.str o)∧o.length=m:=by
 obtain⟨_,h1,hs⟩:=yg key x m (by omega) hx
 rcases hs with⟨rfl,h⟩|⟨-,g,-,o,ho,rfl⟩
 ·omega
 ·refine⟨o,?_,by omega⟩
  refine aB (by kernel_rfl) (fn:=Tryz.f129) (by kernel_rfl) Tryz.func129 rfl (by show 3≤17;decide) (by simp[aa,V.low]) (by simp[V.low]) (ae ?_)
  simp only[go_sem,seval,Tryz.ntmps129]
  refine ak (h1) ?_
  simp only[go_sem,seval]
theorem KK (u x:List ac)(hk:u.length≤549755813888)(hx:x.length≤1099511627776):∃ o:List ac,ao Tryz.prog 128 [.str u,.str x] (.str o)∧o.length=16:=by
 have hl:(bytesOf ⟨#[109,97,114,107,45,45,45,45]⟩).length=8:=by rw[iI];rfl
 obtain⟨o,h1,ho⟩:=sQ [] (bytesOf ⟨#[109,97,114,107,45,45,45,45]⟩++u) 32 (by decide) (by simp) (by rw[List.length_append];omega)
 obtain⟨o2,h2,ho2⟩:=sQ o x 16 (by decide) (by omega) hx
 refine⟨o2,?_,ho2⟩
 refine aB (by kernel_rfl) (fn:=Tryz.f128) (by kernel_rfl) Tryz.func128 rfl (by show 2≤10;decide) (by simp[aa,V.low]) (by simp[V.low]) (ae ?_)
 simp only[go_sem,seval,Tryz.ntmps128]
 repeat refine aJ ?_
 refine ak (h1) ?_
 simp only[go_sem,seval]
 refine ak (h2) ?_
 simp only[go_sem,seval]
open Classical in
noncomputable def nf (u x:List ac):List ac:=if h:∃ o:List ac,ao Tryz.prog 128 [.str u,.str x] (.str o)∧o.length=16 then h.choose else[]
theorem vd (u x:List ac)(hk:u.length≤549755813888)(hx:x.length≤1099511627776):ao Tryz.prog 128 [.str u,.str x] (.str (nf u x))∧(nf u x).length=16:=by
 have h:=KK u x hk hx
 unfold nf
 rw[dif_pos h]
 exact h.choose_spec
noncomputable def marked (u x:List ac):List ac:=x++nf u x++List.replicate 16 0#8
theorem Fi {u x:List ac}(hu:u.length=32)(hx:x.length≤10000000):(marked u x).length=x.length+32:=by
 unfold marked
 rw[List.length_append,List.length_append,(vd u x (by omega) (by omega)).2,List.length_replicate]
theorem QW (u x:List ac)(hu:u.length=32)(hx:x.length≤10000000):ao Tryz.prog 125 [.str u,.str [],.str x] (.tup [.str (marked u x),.i64 0]):=by
 have hck:=yZ u []
 rw[if_pos ⟨hu,.inl rfl⟩] at hck
 obtain⟨hf,hl⟩:=vd u x (by omega) (by omega)
 unfold marked
 generalize nf u x=o at*
 refine aB (by kernel_rfl) (fn:=Tryz.f125) (by kernel_rfl) Tryz.func125 rfl (by show 3≤31;decide) (by simp[aa,V.low]) (by simp[aa,V.low]) (ae ?_)
 simp only[go_sem,seval,Tryz.ntmps125]
 refine ak (hck) ?_
 simp only[go_sem,seval]
 refine ak (hf) ?_
 simp only[go_sem,seval]
 repeat refine aJ ?_
 refine ak (nz 16 (by decide)) ?_
 simp only[go_sem,seval]
 omega
theorem rV (u c x:List ac)(hu:u.length=32)(hc:c.length=16)(hx:x.length≤1000000):∃ b,ao Tryz.prog 92 [.str u,.str c,.str (marked u x)] (.tup [.str x,.bool b,.i64 0]):=by
 have hck:=yZ u c
 rw[if_pos ⟨hu,.inr hc⟩] at hck
 obtain⟨hf,hl⟩:=vd u x (by omega) (by omega)
 have hml:=Fi hu (x:=x) (by omega)
 have t1:List.take x.length (marked u x)=x:=by unfold marked;rw[List.append_assoc];exact List.take_left' rfl
 have t2:List.take (x.length+16) (marked u x)=x++nf u x:=by unfold marked;exact List.take_left' (by simp[hl])
 generalize marked u x=s at*
 generalize nf u x=o at*
 have h0:c≠[]:=fun e=>by rw[e] at hc;cases hc
 obtain⟨o2,ho2,hl2⟩:=sQ c (x++o) 16 (by decide) (by omega) (by simp;omega)
 have h1':¬ ((x.length+32:Nat):Int)<32:=by omega
 have w1:aj (((x.length+32:Nat):Int)-32)=(x.length:Int):=by rw[am (by omega) (by omega)];omega
 have w2:aj (((x.length+32:Nat):Int)-16)=((x.length+16:Nat):Int):=by rw[am (by omega) (by omega)];omega
 refine⟨decide (x++o++o2=s),?_⟩
 refine aB (by kernel_rfl) (fn:=Tryz.f92) (by kernel_rfl) Tryz.func92 rfl (by show 3≤52;decide) (by simp[aa,V.low]) (by simp[aa,V.low]) (ae ?_)
 simp only[go_sem,seval,Tryz.ntmps92]
 refine ak (hck) ?_
 simp only[go_sem,seval]
 simp only[go_sem,seval,hml,h1',w1,w2,Int.toNat_natCast,t1,t2]
 repeat refine aJ ?_
 refine ak (hf) ?_
 simp only[go_sem,seval]
 repeat refine aJ ?_
 simp only[go_sem,seval,h0,not_false_eq_true,decide_true]
 repeat refine aJ ?_
 refine ak (ho2) ?_
 simp only[go_sem,seval]
 repeat refine aJ ?_
 omega
theorem QX (k:List ac)(fr:BitVec 32)(now:Int)(hk:k.length=32)(h2:0≤now)(h3:now≤1099511627776):∃ o:List ac,ao Tryz.prog 126 [.str k,.u32 fr,.i64 now] (.tup [.str o,.i64 0])∧o.length=16:=by
 have h1:(k.length:Int)=32:=by omega
 have h2':¬ now<0:=by omega
 have h3':¬ 1099511627776<now:=by omega
 obtain⟨o,ho,hl⟩:=sQ k (ar (BitVec.ofInt 64 (aj (now.tdiv 120))).toNat 8++ar (fr.setWidth 64).toNat 4) 16 (by decide) (by omega) (by simp[aW])
 refine⟨o,?_,hl⟩
 have h8:=qP (ar (BitVec.ofInt 64 (aj (now.tdiv 120))).toNat 8) (fr.setWidth 64) (by rw[aW];omega)
 rw[aW] at h8
 refine aB (by kernel_rfl) (fn:=Tryz.f126) (by kernel_rfl) Tryz.func126 rfl (by show 3≤31;decide) (by simp[aa,V.low]) (by simp[aa,V.low]) (ae ?_)
 simp only[go_sem,seval,Tryz.ntmps126]
 simp only[go_sem,seval,h1,h2',h3',ne_eq,not_true,decide_false]
 repeat refine aJ ?_
 refine aq [] (pi (BitVec.ofInt 64 (aj (now.tdiv 120)))) (by kernel_rfl) (by simp) rfl (by simp) (by first|decide|simp) (by simp) (by simp) (by simp) (by simp) (by simp) ?_
 simp only[go_sem,seval]
 repeat refine aJ ?_
 refine aq [0] (h8) (by kernel_rfl) (by simp) rfl (by simp) (by first|decide|simp) (by simp) (by simp) (by simp) (by simp) (by simp) ?_
 simp only[go_sem,seval,aW]
 repeat refine aJ ?_
 refine ak (ho) ?_
 simp only[go_sem,seval]
end
def eK (next:Int)(bits:BitVec 64)(n:Int):Int:=
 if n<0∨1099511627776<n then 1 else if next-1-n<0 then 0 else if 64≤next-1-n∨bits>>>(next-1-n).toNat&&&1#64=1#64 then 11 else 0
def cR (next n:Int):Int:=if next≤n then n+1 else next
def dq (next:Int)(bits:BitVec 64)(n:Int):BitVec 64:=
 if next≤n then bits<<<(if 64<n+1-next then 64 else n+1-next).toNat|||1#64<<<0 else bits|||1#64<<<(next-1-n).toNat
theorem AX:ag Tryz.prog 162 [] [] (.ptr 0 0) [bK [.i64 0,.u64 0#64]]:=by
 refine ap (by kernel_rfl) (fn:=Tryz.f162) Tryz.func162 rfl (by show 0≤3;decide) (ae ?_)
 simp only[go_sem,seval,Tryz.ntmps162,Tryz.results162]
 exact Fin.ren [0] (by simp) (by simp) (by rfl) (by decide) (by simp) (by simp)
theorem y6 (next:Int)(bits:BitVec 64)(n:Int)(h0:0≤next)(h1:next≤1099511627777):ag Tryz.prog 164 [.ptr 0 0,.i64 n] [bK [.i64 next,.u64 bits]] (.i64 (eK next bits n)) [bK [.i64 next,.u64 bits]]:=by
 unfold eK
 by_cases h2:n<0
 ·refine ap (by kernel_rfl) (fn:=Tryz.f164) Tryz.func164 rfl (by show 2≤36;decide) (ae ?_)
  simp only[go_sem,seval,Tryz.ntmps164,Tryz.results164,h2,true_or]
  exact Fin.ren [0] (by simp) (by simp) (by rfl) (by decide) (by simp) (by simp)
 ·by_cases h3:1099511627776<n
  ·refine ap (by kernel_rfl) (fn:=Tryz.f164) Tryz.func164 rfl (by show 2≤36;decide) (ae ?_)
   simp only[go_sem,seval,Tryz.ntmps164,Tryz.results164,h2,h3,false_or]
   exact Fin.ren [0] (by simp) (by simp) (by rfl) (by decide) (by simp) (by simp)
  ·have e1:aj (next-1)=next-1:=am (by omega) (by omega)
   have e2:aj (next-1-n)=next-1-n:=am (by omega) (by omega)
   by_cases h4:next-1-n<0
   ·refine ap (by kernel_rfl) (fn:=Tryz.f164) Tryz.func164 rfl (by show 2≤36;decide) (ae ?_)
    simp only[go_sem,seval,Tryz.ntmps164,Tryz.results164,h2,h3,false_or,e1,e2,h4]
    exact Fin.ren [0] (by simp) (by simp) (by rfl) (by decide) (by simp) (by simp)
   ·by_cases h5:64≤next-1-n
    ·refine ap (by kernel_rfl) (fn:=Tryz.f164) Tryz.func164 rfl (by show 2≤36;decide) (ae ?_)
     simp only[go_sem,seval,Tryz.ntmps164,Tryz.results164,h2,h3,false_or,e1,e2,h4,h5,true_or]
     exact Fin.ren [0] (by simp) (by simp) (by rfl) (by decide) (by simp) (by simp)
    ·refine ap (by kernel_rfl) (fn:=Tryz.f164) Tryz.func164 rfl (by show 2≤36;decide) (ae ?_)
     simp only[go_sem,seval,Tryz.ntmps164,Tryz.results164,h2,h3,false_or,e1,e2,h4,h5]
     refine⟨by omega,?_⟩
     split
     ·exact Fin.ren [0] (by simp) (by simp) (by rfl) (by decide) (by simp) (by simp)
     ·exact Fin.ren [0] (by simp) (by simp) (by rfl) (by decide) (by simp) (by simp)
theorem KL (next:Int)(bits:BitVec 64)(n:Int)(h0:0≤next)(h1:next≤1099511627777)(h:eK next bits n=0):ag Tryz.prog 166 [.ptr 0 0,.i64 n] [bK [.i64 next,.u64 bits]] (.i64 0) [bK [.i64 (cR next n),.u64 (dq next bits n)]]:=by
 have hn:0≤n∧n≤1099511627776:=by
  unfold eK at h
  by_cases h2:n<0∨1099511627776<n
  ·rw[if_pos h2] at h;omega
  ·omega
 have e1:aj (next-1)=next-1:=am (by omega) (by omega)
 have e2:aj (next-1-n)=next-1-n:=am (by omega) (by omega)
 have e3:aj (n+1)=n+1:=am (by omega) (by omega)
 have e4:aj (n+1-next)=n+1-next:=am (by omega) (by omega)
 have e5:aj (n+1-1)=n:=by rw[am (by omega) (by omega)];omega
 have e6:aj (n-n)=0:=by rw[am (by omega) (by omega)];omega
 unfold cR dq
 refine ap (by kernel_rfl) (fn:=Tryz.f166) Tryz.func166 rfl (by show 2≤53;decide) (ae ?_)
 simp only[go_sem,seval,Tryz.ntmps166]
 refine aq [0] (y6 next bits n h0 h1) (by kernel_rfl) (by simp) rfl (by simp) (by first|decide|simp) (by simp) (by simp) (by simp) (by simp) (by simp) ?_
 simp only[go_sem,seval,h]
 by_cases h2:next≤n
 ·have h3:0≤(if 64<n+1-next then 64 else n+1-next):=by split <;>omega
  simp only[go_sem,seval,h2,e3,e4,h3,e5,e6]
  refine⟨by kernel_rfl,by kernel_rfl,?_⟩
  exact Fin.ren [0] (by simp) (by simp) (by rfl) (by decide) (by simp) (by simp)
 ·have h3:0≤next-1-n:=by omega
  simp only[go_sem,seval,h2,e1,e2,h3]
  refine⟨by kernel_rfl,?_⟩
  exact Fin.ren [0] (by simp) (by simp) (by rfl) (by decide) (by simp) (by simp)
def fN (bo se now:Int):Bool:=if bo+180≤now then true else decide (1000≤se)
def oB (bo se:Int)(fs:Bool)(now:Int):Bool:=if fN bo se now=true then true else if fs=true then decide (bo+120≤now) else false
theorem vQ (sd rc:List (BitVec 8))(s bo se:Int)(fs:Bool)(next:Int)(bits:BitVec 64)(now m:Int)(hb:0≤bo)(hb2:bo≤1099511627776)(hm:0≤m)(hm2:m≤1000):
  ag Tryz.prog 86 [.ptr 0 0,.i64 now,.i64 m] [bK [.ptr 1 0,.str sd,.str rc,.i64 s,.i64 bo,.i64 se,.bool fs],bK [.i64 next,.u64 bits]] (.bool (decide (bo+m≤now))) [bK [.ptr 1 0,.str sd,.str rc,.i64 s,.i64 bo,.i64 se,.bool fs],bK [.i64 next,.u64 bits]]:=by
 have e:aj (bo+m)=bo+m:=am (by omega) (by omega)
 refine ap (by kernel_rfl) (fn:=Tryz.f86) Tryz.func86 rfl (by show 3≤15;decide) (ae ?_)
 simp only[go_sem,seval,Tryz.ntmps86,Tryz.results86,e]
 exact Fin.ren [0,1] (by simp) (by simp) (by rfl) (by decide) (by simp) (by simp)
theorem ve (sd rc:List (BitVec 8))(s bo se:Int)(fs:Bool)(next:Int)(bits:BitVec 64)(now:Int)(hb:0≤bo)(hb2:bo≤1099511627776):
  ag Tryz.prog 60 [.ptr 0 0,.i64 now] [bK [.ptr 1 0,.str sd,.str rc,.i64 s,.i64 bo,.i64 se,.bool fs],bK [.i64 next,.u64 bits]] (.bool (fN bo se now)) [bK [.ptr 1 0,.str sd,.str rc,.i64 s,.i64 bo,.i64 se,.bool fs],bK [.i64 next,.u64 bits]]:=by
 have ho:=vQ sd rc s bo se fs next bits now 180 hb hb2 (by decide) (by decide)
 unfold fN
 by_cases h:bo+180≤now
 ·have h':=eq_true h
  rw[decide_eq_true h] at ho
  refine ap (by kernel_rfl) (fn:=Tryz.f60) Tryz.func60 rfl (by show 2≤15;decide) (ae ?_)
  simp only[go_sem,seval,Tryz.ntmps60]
  refine aq [0,1] (ho) (by kernel_rfl) (by simp) rfl (by simp) (by first|decide|simp) (by simp) (by simp) (by simp) (by simp) (by simp) ?_
  simp only[go_sem,seval,h']
  exact Fin.ren [0,1] (by simp) (by simp) (by rfl) (by decide) (by simp) (by simp)
 ·have h':=eq_false h
  rw[decide_eq_false h] at ho
  refine ap (by kernel_rfl) (fn:=Tryz.f60) Tryz.func60 rfl (by show 2≤15;decide) (ae ?_)
  simp only[go_sem,seval,Tryz.ntmps60]
  refine aq [0,1] (ho) (by kernel_rfl) (by simp) rfl (by simp) (by first|decide|simp) (by simp) (by simp) (by simp) (by simp) (by simp) ?_
  simp only[go_sem,seval,h']
  exact Fin.ren [0,1] (by simp) (by simp) (by rfl) (by decide) (by simp) (by simp)
theorem y7 (sd rc:List (BitVec 8))(s bo se:Int)(fs:Bool)(next:Int)(bits:BitVec 64)(now:Int)(hb:0≤bo)(hb2:bo≤1099511627776):
  ag Tryz.prog 64 [.ptr 0 0,.i64 now] [bK [.ptr 1 0,.str sd,.str rc,.i64 s,.i64 bo,.i64 se,.bool fs],bK [.i64 next,.u64 bits]] (.bool (oB bo se fs now)) [bK [.ptr 1 0,.str sd,.str rc,.i64 s,.i64 bo,.i64 se,.bool fs],bK [.i64 next,.u64 bits]]:=by
 have ho:=ve sd rc s bo se fs next bits now hb hb2
 have hd:=vQ sd rc s bo se fs next bits now 120 hb hb2 (by decide) (by decide)
 unfold oB
 generalize fN bo se now=o at*
 cases o
 ·cases fs
  ·refine ap (by kernel_rfl) (fn:=Tryz.f64) Tryz.func64 rfl (by show 2≤19;decide) (ae ?_)
   simp only[go_sem,seval,Tryz.ntmps64]
   refine aq [0,1] (ho) (by kernel_rfl) (by simp) rfl (by simp) (by first|decide|simp) (by simp) (by simp) (by simp) (by simp) (by simp) ?_
   simp only[go_sem,seval]
   exact Fin.ren [0,1] (by simp) (by simp) (by rfl) (by decide) (by simp) (by simp)
  ·refine ap (by kernel_rfl) (fn:=Tryz.f64) Tryz.func64 rfl (by show 2≤19;decide) (ae ?_)
   simp only[go_sem,seval,Tryz.ntmps64]
   refine aq [0,1] (ho) (by kernel_rfl) (by simp) rfl (by simp) (by first|decide|simp) (by simp) (by simp) (by simp) (by simp) (by simp) ?_
   simp only[go_sem,seval]
   refine aq [0,1] (hd) (by kernel_rfl) (by simp) rfl (by simp) (by first|decide|simp) (by simp) (by simp) (by simp) (by simp) (by simp) ?_
   simp only[go_sem,seval]
   exact Fin.ren [0,1] (by simp) (by simp) (by rfl) (by decide) (by simp) (by simp)
 ·refine ap (by kernel_rfl) (fn:=Tryz.f64) Tryz.func64 rfl (by show 2≤19;decide) (ae ?_)
  simp only[go_sem,seval,Tryz.ntmps64]
  refine aq [0,1] (ho) (by kernel_rfl) (by simp) rfl (by simp) (by first|decide|simp) (by simp) (by simp) (by simp) (by simp) (by simp) ?_
  simp only[go_sem,seval]
  exact Fin.ren [0,1] (by simp) (by simp) (by rfl) (by decide) (by simp) (by simp)
theorem Om (sd rc:List (BitVec 8))(s bo se:Int)(fs:Bool)(next:Int)(bits:BitVec 64)(hs:s=1∨s=2)(t:List (BitVec 8))(now:Int)(hb:0≤bo)(hb2:bo≤1099511627776)(hse:0≤se)(hse2:se≤100000)(ho:fN bo se now=false)(he:(eA s sd (bS s (BitVec.ofInt 64 se)) [] t).2=0):
  ag Tryz.prog 61 [.ptr 0 0,.str t,.i64 now] [bK [.ptr 1 0,.str sd,.str rc,.i64 s,.i64 bo,.i64 se,.bool fs],bK [.i64 next,.u64 bits]] (.tup [.i64 se,.str (eA s sd (bS s (BitVec.ofInt 64 se)) [] t).1,.i64 0]) [bK [.ptr 1 0,.str sd,.str rc,.i64 s,.i64 bo,.i64 (se+1),.bool fs],bK [.i64 next,.u64 bits]]:=by
 have h1:=ve sd rc s bo se fs next bits now hb hb2
 rw[ho] at h1
 have h2:=NG hs sd [] t (BitVec.ofInt 64 se)
 generalize eA s sd (bS s (BitVec.ofInt 64 se)) [] t=g at*
 have e1:aj (se+1)=se+1:=am (by omega) (by omega)
 have e2:aj (se+1-1)=se:=by rw[am (by omega) (by omega)];omega
 refine ap (by kernel_rfl) (fn:=Tryz.f61) Tryz.func61 rfl (by show 3≤49;decide) (ae ?_)
 simp only[go_sem,seval,Tryz.ntmps61]
 refine aq [0,1] (h1) (by kernel_rfl) (by simp) rfl (by simp) (by first|decide|simp) (by simp) (by simp) (by simp) (by simp) (by simp) ?_
 simp only[go_sem,seval]
 refine aH (h2) ?_
 simp only[go_sem,seval,he,e1,e2]
 refine⟨by kernel_rfl,?_⟩
 exact Fin.ren [0,1] (by simp) (by simp) (by rfl) (by decide) (by simp) (by simp)
theorem On (sd rc:List (BitVec 8))(s bo se:Int)(fs:Bool)(next:Int)(bits:BitVec 64)(hs:s=1∨s=2)(n:Int)(t:List (BitVec 8))(now:Int)(hb:0≤bo)(hb2:bo≤1099511627776)(hn0:0≤next)(hn1:next≤1099511627777)(ho:¬ bo+180≤now)(hc:eK next bits n=0)(he:(gV s rc (bS s (BitVec.ofInt 64 n)) [] t).2=0):
  ag Tryz.prog 146 [.ptr 0 0,.i64 n,.str t,.i64 now] [bK [.ptr 1 0,.str sd,.str rc,.i64 s,.i64 bo,.i64 se,.bool fs],bK [.i64 next,.u64 bits]] (.tup [.str (gV s rc (bS s (BitVec.ofInt 64 n)) [] t).1,.i64 0]) [bK [.ptr 1 0,.str sd,.str rc,.i64 s,.i64 bo,.i64 se,.bool fs],bK [.i64 (cR next n),.u64 (dq next bits n)]]:=by
 have h1:=vQ sd rc s bo se fs next bits now 180 hb hb2 (by decide) (by decide)
 rw[decide_eq_false ho] at h1
 have h2:=NH hs rc [] t (BitVec.ofInt 64 n)
 generalize gV s rc (bS s (BitVec.ofInt 64 n)) [] t=g at*
 refine ap (by kernel_rfl) (fn:=Tryz.f146) Tryz.func146 rfl (by show 4≤51;decide) (ae ?_)
 simp only[go_sem,seval,Tryz.ntmps146]
 refine aq [0,1] (h1) (by kernel_rfl) (by simp) rfl (by simp) (by first|decide|simp) (by simp) (by simp) (by simp) (by simp) (by simp) ?_
 simp only[go_sem,seval]
 refine aq [1] (y6 next bits n hn0 hn1) (by kernel_rfl) (by simp) rfl (by simp) (by first|decide|simp) (by simp) (by simp) (by simp) (by simp) (by simp) ?_
 simp only[go_sem,seval,hc]
 refine aH (h2) ?_
 simp only[go_sem,seval,he]
 refine⟨by kernel_rfl,?_⟩
 refine aq [1] (KL next bits n hn0 hn1 hc) (by kernel_rfl) (by simp) rfl (by simp) (by first|decide|simp) (by simp) (by simp) (by simp) (by simp) (by simp) ?_
 simp only[go_sem,seval]
 exact Fin.ren [0,1] (by simp) (by simp) (by rfl) (by decide) (by simp) (by simp)
def aZ (s:Int)(k:List ac)(n:Int)(t:List ac):List ac:=(eA s k (bS s (BitVec.ofInt 64 n)) [] t).1
theorem pg {s:Int}{k t:List ac}{n:Int}(hk:k.length=32)(ht:t.length≤2000):(aZ s k n t).length=t.length+16:=
 (nV (x:=s) (k:=k) (c:=bS s (BitVec.ofInt 64 n)) (m:=[]) (t:=t) hk (nB _ _) (by simp) ht).2.1
theorem BY {s:Int}(hs:s=1∨s=2){sd:List ac}(rc:List ac)(hk:sd.length=32)(bo se:Int)(fs:Bool)(next:Int)(bits:BitVec 64){t:List ac}(ht:t.length≤2000)(now:Int)(hb:0≤bo)(hb2:bo≤1099511627776)(hn:now<bo+180)(hse:0≤se)(hse2:se<1000):
  ag Tryz.prog 61 [.ptr 0 0,.str t,.i64 now] [bK [.ptr 1 0,.str sd,.str rc,.i64 s,.i64 bo,.i64 se,.bool fs],bK [.i64 next,.u64 bits]] (.tup [.i64 se,.str (aZ s sd se t),.i64 0]) [bK [.ptr 1 0,.str sd,.str rc,.i64 s,.i64 bo,.i64 (se+1),.bool fs],bK [.i64 next,.u64 bits]]:=by
 obtain⟨h1,-,-⟩:=nV (x:=s) (k:=sd) (c:=bS s (BitVec.ofInt 64 se)) (m:=[]) (t:=t) hk (nB _ _) (by simp) ht
 exact Om sd rc s bo se fs next bits hs t now hb hb2 hse (by omega) (by unfold fN;rw[if_neg (by omega)];simp;omega) h1
theorem wr {s:Int}(hs:s=1∨s=2)(sd:List ac){rc:List ac}(hk:rc.length=32)(bo se:Int)(fs:Bool)(next:Int)(bits:BitVec 64){n:Int}{t:List ac}(ht:t.length≤2000)(now:Int)(hb:0≤bo)(hb2:bo≤1099511627776)(hn0:0≤next)(hn1:next≤1099511627777)(hn:now<bo+180)(hc:eK next bits n=0):
  ag Tryz.prog 146 [.ptr 0 0,.i64 n,.str (aZ s rc n t),.i64 now] [bK [.ptr 1 0,.str sd,.str rc,.i64 s,.i64 bo,.i64 se,.bool fs],bK [.i64 next,.u64 bits]] (.tup [.str t,.i64 0]) [bK [.ptr 1 0,.str sd,.str rc,.i64 s,.i64 bo,.i64 se,.bool fs],bK [.i64 (cR next n),.u64 (dq next bits n)]]:=by
 obtain⟨-,-,h3⟩:=nV (x:=s) (k:=rc) (c:=bS s (BitVec.ofInt 64 n)) (m:=[]) (t:=t) hk (nB _ _) (by simp) ht
 have h:=On sd rc s bo se fs next bits hs n (aZ s rc n t) now hb hb2 hn0 hn1 (by omega) hc (by show(gV s rc (bS s (BitVec.ofInt 64 n)) [] (eA s rc (bS s (BitVec.ofInt 64 n)) [] t).1).2=0;rw[h3])
 rw[show(gV s rc (bS s (BitVec.ofInt 64 n)) [] (aZ s rc n t)).1=t by show(gV s rc (bS s (BitVec.ofInt 64 n)) [] (eA s rc (bS s (BitVec.ofInt 64 n)) [] t).1).1=t;rw[h3]] at h
 exact h
theorem AY:ag Tryz.prog 39 [] [] (.ptr 0 0) [bK [.bool false,.i64 0,.i64 0,.bool false,.i64 0]]:=by
 refine ap (by kernel_rfl) (fn:=Tryz.f39) Tryz.func39 rfl (by show 0≤3;decide) (ae ?_)
 simp only[go_sem,seval,Tryz.ntmps39,Tryz.results39]
 exact Fin.ren [0] (by simp) (by simp) (by rfl) (by decide) (by simp) (by simp)
def fO (k n:Int):Prop:=(k<1∨6<k)∨(n<0∨1099511627776<n)
def tW (w:Bool)(k:Int):Bool:=if k=3 then true else if k=4 then true else if k=5 then false else if k=6 then false else w
def tT (t k:Int):Int:=if k=4 then t+1 else if k=5 then 0 else if k=6 then 0 else t
def tL (l k n:Int):Int:=if k=4 then n else if k=6 then 0 else l
def tO (o:Bool)(k:Int):Bool:=if k=1 then false else if k=2 then true else if k=6 then false else o
def tU (o:Bool)(u k n:Int):Int:=if k=2 then(if o=true then u else n) else if k=6 then 0 else u
theorem gL (w:Bool)(t l:Int)(o:Bool)(u k n:Int)(ht:0≤t)(ht2:t≤140737488355328)(h:¬ fO k n):ag Tryz.prog 45 [.ptr 0 0,.i64 k,.i64 n] [bK [.bool w,.i64 t,.i64 l,.bool o,.i64 u]] (.i64 0) [bK [.bool (tW w k),.i64 (tT t k),.i64 (tL l k n),.bool (tO o k),.i64 (tU o u k n)]]:=by
 unfold fO at h
 have h1:¬ n<0:=by omega
 have h2:¬ 1099511627776<n:=by omega
 have e1:aj (t+1)=t+1:=am (by omega) (by omega)
 rcases(by omega :k=1∨k=2∨k=3∨k=4∨k=5∨k=6) with rfl|rfl|rfl|rfl|rfl|rfl
 ·refine ap (by kernel_rfl) (fn:=Tryz.f45) Tryz.func45 rfl (by show 3≤67;decide) (ae ?_)
  simp only[go_sem,seval,Tryz.ntmps45,Tryz.results45,h1,h2]
  exact Fin.ren [0] (by simp) (by simp) (by rfl) (by decide) (by simp) (by simp[tW,tT,tL,tO,tU])
 ·cases o
  ·refine ap (by kernel_rfl) (fn:=Tryz.f45) Tryz.func45 rfl (by show 3≤67;decide) (ae ?_)
   simp only[go_sem,seval,Tryz.ntmps45,Tryz.results45,h1,h2]
   exact Fin.ren [0] (by simp) (by simp) (by rfl) (by decide) (by simp) (by simp[tW,tT,tL,tO,tU])
  ·refine ap (by kernel_rfl) (fn:=Tryz.f45) Tryz.func45 rfl (by show 3≤67;decide) (ae ?_)
   simp only[go_sem,seval,Tryz.ntmps45,Tryz.results45,h1,h2]
   exact Fin.ren [0] (by simp) (by simp) (by rfl) (by decide) (by simp) (by simp[tW,tT,tL,tO,tU])
 ·refine ap (by kernel_rfl) (fn:=Tryz.f45) Tryz.func45 rfl (by show 3≤67;decide) (ae ?_)
  simp only[go_sem,seval,Tryz.ntmps45,Tryz.results45,h1,h2]
  exact Fin.ren [0] (by simp) (by simp) (by rfl) (by decide) (by simp) (by simp[tW,tT,tL,tO,tU])
 ·refine ap (by kernel_rfl) (fn:=Tryz.f45) Tryz.func45 rfl (by show 3≤67;decide) (ae ?_)
  simp only[go_sem,seval,Tryz.ntmps45,Tryz.results45,h1,h2,e1]
  exact Fin.ren [0] (by simp) (by simp) (by rfl) (by decide) (by simp) (by simp[tW,tT,tL,tO,tU])
 ·refine ap (by kernel_rfl) (fn:=Tryz.f45) Tryz.func45 rfl (by show 3≤67;decide) (ae ?_)
  simp only[go_sem,seval,Tryz.ntmps45,Tryz.results45,h1,h2]
  exact Fin.ren [0] (by simp) (by simp) (by rfl) (by decide) (by simp) (by simp[tW,tT,tL,tO,tU])
 ·refine ap (by kernel_rfl) (fn:=Tryz.f45) Tryz.func45 rfl (by show 3≤67;decide) (ae ?_)
  simp only[go_sem,seval,Tryz.ntmps45,Tryz.results45,h1,h2]
  exact Fin.ren [0] (by simp) (by simp) (by rfl) (by decide) (by simp) (by simp[tW,tT,tL,tO,tU])
def gn (w:Bool)(t l:Int)(o:Bool)(u now:Int):Int:=
 if w=true∧t=0 then 1 else if w=true∧l+5≤now then(if t=6 then 3 else 1) else if o=true∧u+10≤now then 2 else 0
theorem rG (w:Bool)(t l:Int)(o:Bool)(u now:Int)(hl:0≤l∧l≤1099511627776)(hu:0≤u∧u≤1099511627776):ag Tryz.prog 65 [.ptr 0 0,.i64 now] [bK [.bool w,.i64 t,.i64 l,.bool o,.i64 u]] (.i64 (gn w t l o u now)) [bK [.bool w,.i64 t,.i64 l,.bool o,.i64 u]]:=by
 have e1:aj (l+5)=l+5:=am (by omega) (by omega)
 have e2:aj (u+10)=u+10:=am (by omega) (by omega)
 unfold gn
 cases w
 ·cases o
  ·refine ap (by kernel_rfl) (fn:=Tryz.f65) Tryz.func65 rfl (by show 2≤66;decide) (ae ?_)
   simp only[go_sem,seval,Tryz.ntmps65,Tryz.results65,true_and,Bool.false_eq_true,false_and]
   exact Fin.ren [0] (by simp) (by simp) (by rfl) (by decide) (by simp) (by simp)
  ·by_cases h6:u+10≤now
   ·refine ap (by kernel_rfl) (fn:=Tryz.f65) Tryz.func65 rfl (by show 2≤66;decide) (ae ?_)
    simp only[go_sem,seval,Tryz.ntmps65,Tryz.results65,e2,true_and,h6,Bool.false_eq_true,false_and]
    exact Fin.ren [0] (by simp) (by simp) (by rfl) (by decide) (by simp) (by simp)
   ·refine ap (by kernel_rfl) (fn:=Tryz.f65) Tryz.func65 rfl (by show 2≤66;decide) (ae ?_)
    simp only[go_sem,seval,Tryz.ntmps65,Tryz.results65,e2,true_and,h6,Bool.false_eq_true,false_and,and_false]
    exact Fin.ren [0] (by simp) (by simp) (by rfl) (by decide) (by simp) (by simp)
 ·by_cases h1:t=0
  ·refine ap (by kernel_rfl) (fn:=Tryz.f65) Tryz.func65 rfl (by show 2≤66;decide) (ae ?_)
   simp only[go_sem,seval,Tryz.ntmps65,Tryz.results65,h1]
   exact Fin.ren [0] (by simp) (by simp) (by rfl) (by decide) (by simp) (by simp)
  ·by_cases h2:l+5≤now
   ·by_cases h3:t=6
    ·refine ap (by kernel_rfl) (fn:=Tryz.f65) Tryz.func65 rfl (by show 2≤66;decide) (ae ?_)
     simp only[go_sem,seval,Tryz.ntmps65,Tryz.results65,e1,h2,h3,Bool.false_eq_true,and_false]
     exact Fin.ren [0] (by simp) (by simp) (by rfl) (by decide) (by simp) (by simp)
    ·refine ap (by kernel_rfl) (fn:=Tryz.f65) Tryz.func65 rfl (by show 2≤66;decide) (ae ?_)
     simp only[go_sem,seval,Tryz.ntmps65,Tryz.results65,e1,h1,h2,h3,Bool.false_eq_true,and_false]
     exact Fin.ren [0] (by simp) (by simp) (by rfl) (by decide) (by simp) (by simp)
   ·cases o
    ·refine ap (by kernel_rfl) (fn:=Tryz.f65) Tryz.func65 rfl (by show 2≤66;decide) (ae ?_)
     simp only[go_sem,seval,Tryz.ntmps65,Tryz.results65,e1,h1,h2,Bool.false_eq_true,false_and,and_false]
     exact Fin.ren [0] (by simp) (by simp) (by rfl) (by decide) (by simp) (by simp)
    ·by_cases h6:u+10≤now
     ·refine ap (by kernel_rfl) (fn:=Tryz.f65) Tryz.func65 rfl (by show 2≤66;decide) (ae ?_)
      simp only[go_sem,seval,Tryz.ntmps65,Tryz.results65,e1,e2,h1,h2,h6,Bool.false_eq_true,and_false]
      exact Fin.ren [0] (by simp) (by simp) (by rfl) (by decide) (by simp) (by simp)
     ·refine ap (by kernel_rfl) (fn:=Tryz.f65) Tryz.func65 rfl (by show 2≤66;decide) (ae ?_)
      simp only[go_sem,seval,Tryz.ntmps65,Tryz.results65,e1,e2,h1,h2,h6,Bool.false_eq_true,and_false]
      exact Fin.ren [0] (by simp) (by simp) (by rfl) (by decide) (by simp) (by simp)
structure DS where
 here:BitVec 32
 own:List ac
 pub:List ac
 seed:List ac
 best:Int
 fresh:BitVec 64
 secret:List ac
 index:BitVec 32
 firsts:Int
 now:Int
def DS.cs (d:DS)(out got:V):List V:=[.u32 d.here,.str d.own,.str d.pub,.str d.seed,.i64 d.best,.u64 d.fresh,.str d.secret,.u32 d.index,.i64 d.firsts,.i64 d.now,.bool false,.slice 1 0 1 1,.ptr 2 0,.ptr 3 0,out,got]
theorem oh (d:DS)(dest:BitVec 32)(text:List ac)(ht:dest≠0#32):ag Tryz.prog 63 [.ptr 0 0,.u32 dest,.str text] [bK (d.cs .nilSlice .nilSlice),none,none,none] (.tup [])
  [bK (d.cs (.slice 4 0 1 3) .nilSlice),none,none,none,bK [.u32 d.here,.u32 dest,.str text]]:=by
 unfold DS.cs
 refine ap (by kernel_rfl) (fn:=Tryz.f63) Tryz.func63 rfl (by show 3≤24;decide) (ae ?_)
 simp only[go_sem,seval,Tryz.ntmps63,Tryz.results63,ht]
 repeat refine aJ ?_
 exact Fin.ren [0,1,2,3,5] (by simp) (by simp) (by rfl) (by decide) (by simp) (by simp)
theorem rm (d:DS)(out:V)(ho:out= .nilSlice):ag Tryz.prog 88 [.ptr 0 0] [bK (d.cs out .nilSlice),none,none,none] (.u32 (d.index+1#32)) [bK ({d with index:=d.index+1#32}.cs out .nilSlice),none,none,none]:=by
 subst ho
 unfold DS.cs
 refine ap (by kernel_rfl) (fn:=Tryz.f88) Tryz.func88 rfl (by show 1≤14;decide) (ae ?_)
 simp only[go_sem,seval,Tryz.ntmps88,Tryz.results88]
 repeat refine aJ ?_
 exact Fin.ren [0,1,2,3] (by simp) (by simp) (by rfl) (by decide) (by simp) (by simp)
noncomputable def DS.keyV (d:DS):List ac:=(oU 1 d.seed (ar d.fresh.toNat 8) 1).getD 0 []
def DS.up (d:DS):DS:={d with fresh:=d.fresh+1#64}
theorem DS.keyV_spec (d:DS)(hs:d.seed.length=32):ag Tryz.prog 23 [.i64 1,.str d.seed,.str (ar d.fresh.toNat 8),.i64 1] [] (.tup [.slice 0 0 1 1,.i64 0]) [bK [.str d.keyV]]∧d.keyV.length=32:=by
 obtain⟨h1,h2,h3⟩:=rO (x:=1) (.inl rfl) d.seed (ar d.fresh.toNat 8) (by omega) (by rw[aW];decide) (n:=1) (by decide) (by decide)
 unfold DS.keyV
 obtain⟨a,e,ha⟩:=DQ h2 h3
 rw[e] at h1 ⊢
 exact⟨h1,ha⟩
theorem oC (d:DS)(hs:d.seed.length=32):ag Tryz.prog 40 [.ptr 0 0] [bK (d.cs .nilSlice .nilSlice),none,none,none] (.str d.keyV) [bK (d.up.cs .nilSlice .nilSlice),none,none,none]:=by
 obtain⟨hD,-⟩:=d.keyV_spec hs
 have hA:=pi d.fresh
 unfold DS.up DS.cs
 generalize d.keyV=k at*
 have hbl:=aW d.fresh.toNat 8
 generalize ar d.fresh.toNat 8=bb at*
 refine ap (by kernel_rfl) (fn:=Tryz.f40) Tryz.func40 rfl (by show 1≤29;decide) (ae ?_)
 simp only[go_sem,seval,Tryz.ntmps40]
 repeat refine aJ ?_
 refine bh [] (hA) (by kernel_rfl) (by simp) rfl (by simp) (by first|decide|simp) (by simp) (by simp) (by simp) (by simp) (by simp) ?_
 simp only[go_sem,seval,hbl,List.take_of_length_le (show(bb.map V.u8).length≤8 by simp;omega)]
 repeat refine aJ ?_
 refine bh [] (hD) (by kernel_rfl) (by simp) rfl (by simp) (by first|decide|simp) (by simp) (by simp) (by simp) (by simp) (by simp) ?_
 simp only[go_sem,seval]
 repeat refine aJ ?_
 exact Fin.ren [0,1,2,3] (by simp) (by simp) (by rfl) (by decide) (by simp) (by simp)
theorem qS (d:DS)(hs:d.secret.length=32)(hn:0≤d.now)(hn2:d.now≤1099511627776)(src:BitVec 32):∃ c:List ac,c.length=16∧ag Tryz.prog 91 [.ptr 0 0,.u32 src] [bK (d.cs .nilSlice .nilSlice),none,none,none] (.str c) [bK (d.cs .nilSlice .nilSlice),none,none,none]:=by
 obtain⟨c,hc,hl⟩:=QX d.secret src d.now hs hn hn2
 refine⟨c,hl,?_⟩
 unfold DS.cs
 refine ap (by kernel_rfl) (fn:=Tryz.f91) Tryz.func91 rfl (by show 2≤21;decide) (ae ?_)
 simp only[go_sem,seval,Tryz.ntmps91]
 refine aH (hc) ?_
 simp only[go_sem,seval]
 repeat refine aJ ?_
 exact Fin.ren [0,1,2,3] (by simp) (by simp) (by rfl) (by decide) (by simp) (by simp)
structure PS where
 pub:List ac
 psk:List ac
 at_:BitVec 32
 knows:Int
 pin:Int
 stamped:Bool
 sec:Int
 nano:Int
 bix:BitVec 32
 btx:List ac
def PS.cs (p:PS)(waits begun old ses next:V):List V:=[.ptr 0 0,.ptr 5 0,.i64 0,.str p.pub,.str p.psk,.u32 p.at_,.i64 p.knows,.i64 p.pin,.bool p.stamped,.i64 p.sec,.i64 p.nano,.str [],.i64 0,waits,begun,.u32 p.bix,.str p.btx,old,ses,next]
theorem sq (d:DS)(p:PS)(hp:p.pub.length=32)(hn:0≤d.now)(T:List (Option Blk))(waits begun old ses next:V){x:List ac}(hx:x.length≤1000000):
  ag Tryz.prog 90 [.ptr 4 0,.str x] (bK (d.cs .nilSlice .nilSlice)::none::none::none::bK (p.cs waits begun old ses next)::none::T) (.str (marked p.pub x)) (bK (d.cs .nilSlice .nilSlice)::none::none::none::bK (p.cs waits begun old ses next)::none::T):=by
 have hm:=QW p.pub x hp (by omega)
 unfold PS.cs DS.cs
 generalize marked p.pub x=o at*
 by_cases h0:0<d.now
 ·refine ap (by kernel_rfl) (fn:=Tryz.f90) Tryz.func90 rfl (by show 2≤35;decide) (ae ?_)
  simp only[go_sem,seval,Tryz.ntmps90,h0]
  repeat refine aJ ?_
  refine ak (hm) ?_
  simp only[go_sem,seval]
  repeat refine aJ ?_
  exact Fin.id (s:=⟨_,_⟩) (Nat.le_refl _)
 ·refine ap (by kernel_rfl) (fn:=Tryz.f90) Tryz.func90 rfl (by show 2≤35;decide) (ae ?_)
  simp only[go_sem,seval,Tryz.ntmps90,h0]
  repeat refine aJ ?_
  refine ak (hm) ?_
  simp only[go_sem,seval]
  repeat refine aJ ?_
  exact Fin.id (s:=⟨_,_⟩) (Nat.le_refl _)
theorem KM (d:DS)(p:PS)(q:List ac)(hb:d.best=2)(hk:p.knows=1∨p.knows=2)(hq:q.length=32)(hpub:p.pub=ai q)(hpsk:p.psk.length=32)(hown:d.own.length=32)(hseed:d.seed.length=32)(hn:0≤d.now)(hn2:d.now≤1099511627776)(hat:p.at_≠0#32)(hf:0≤d.firsts)(hf2:d.firsts≤1000)
  (t l u:Int) (o:Bool) (wt:Bool) (ht:0≤t) (ht2:t≤1000):
  ag Tryz.prog 66 [.ptr 4 0] [bK (d.cs .nilSlice .nilSlice),none,none,none,bK (p.cs (.slice 6 0 1 1) .nilPtr .nilPtr (.nilPtr) .nilPtr),bK [.bool wt,.i64 t,.i64 l,.bool o,.i64 u],none] (.tup [])
   [bK ({d with fresh:=d.fresh+1#64,index:=d.index+1#32,firsts:=d.firsts+1}.cs (.slice 8 0 1 3) .nilSlice),none,none,none,bK ({p with bix:=d.index+1#32,btx:=marked p.pub (fT p.knows q d.keyV d.own d.now d.firsts 2 (d.index+1#32))}.cs (.slice 6 0 1 1) (.ptr 7 0) .nilPtr (.nilPtr) .nilPtr),bK [.bool true,.i64 (t+1),.i64 d.now,.bool o,.i64 u],none,
    bK ((aS p.knows q d.keyV d.own d.now d.firsts 2).cs p.knows++[.i64 p.knows,.str d.own,.str (ai q),.str p.psk,.str d.keyV,.u32 (d.index+1#32)]),bK [.u32 d.here,.u32 p.at_,.str (marked p.pub (fT p.knows q d.keyV d.own d.now d.firsts 2 (d.index+1#32)))]]:=by
 have hkl:=(d.keyV_spec hseed).2
 have hmod:d.firsts.tmod 1000000000=d.firsts:=Int.tmod_eq_of_lt hf (by omega)
 have hB:=BX (id:=d.index+1#32) hk (.inr rfl:(2:Int)=1∨(2:Int)=2) (sec:=d.now) (nano:=d.firsts) (by unfold im;omega) p.psk hq hkl hown hpsk
 have hlen:(fT p.knows q d.keyV d.own d.now d.firsts 2 (d.index+1#32)).length=115:=(pv (k:=1#8) (s:=BitVec.ofInt 8 p.knows) (b8 _) (bw _) (mH hk) (mI hk)).1
 have hM:=sq {d with fresh:=d.fresh+1#64,index:=d.index+1#32,firsts:=d.firsts+1} p (by rw[hpub,bw]) hn [none] (.slice 6 0 1 1) .nilPtr .nilPtr (.nilPtr) .nilPtr (x:=fT p.knows q d.keyV d.own d.now d.firsts 2 (d.index+1#32)) (by rw[hlen];decide)
 have hG:=oh {d with fresh:=d.fresh+1#64,index:=d.index+1#32,firsts:=d.firsts+1} p.at_ (marked p.pub (fT p.knows q d.keyV d.own d.now d.firsts 2 (d.index+1#32))) hat
 have hK:=oC d hseed
 have hI:=rm d.up .nilSlice rfl
 have hE:=gL wt t l o u 4 d.now ht (by omega) (by unfold fO;omega)
 rw[show tW wt 4=true from rfl,show tT t 4=t+1 from rfl,show tL l 4 d.now=d.now from rfl,show tO o 4=o from rfl,show tU o u 4 d.now=u from rfl] at hE
 have ew:aj (d.firsts+1)=d.firsts+1:=am (by omega) (by omega)
 have esu:(if p.knows<2 then p.knows else 2)=p.knows:=by split <;>omega
 have e0:∃ (ty:TypeId) (h c k:List ac) (n:BitVec 64),(aS p.knows q d.keyV d.own d.now d.firsts 2).cs p.knows=[.iface ty (.agg []),.str h,.str c,.str k,.u64 n]:=⟨_,_,_,_,_,rfl⟩
 generalize (aS p.knows q d.keyV d.own d.now d.firsts 2).cs p.knows=c5 at*
 generalize fT p.knows q d.keyV d.own d.now d.firsts 2 (d.index+1#32)=msg at*
 generalize marked p.pub msg=mk at*
 unfold PS.cs DS.cs DS.up at*
 generalize d.keyV=once at*
 rw[hb] at*
 rw[←hpub] at hB ⊢
 obtain⟨ty5,h5,k5,g5,m5,rfl⟩:=e0
 dsimp only at*
 refine ap (by kernel_rfl) (fn:=Tryz.f66) Tryz.func66 rfl (by show 1≤130;decide) (ae ?_)
 simp only[go_sem,seval,Tryz.ntmps66,esu,hmod]
 repeat refine aI ?_
 refine gH [0,1,2,3] (hK) (by kernel_rfl) (by simp) rfl (by simp) (by first|decide|simp) (by simp) (by simp) (by simp) (by simp) ?_
 simp only[go_sem,seval]
 repeat refine aI ?_
 refine gH [0,1,2,3] (hI) (by kernel_rfl) (by simp) rfl (by simp) (by first|decide|simp) (by simp) (by simp) (by simp) (by simp) ?_
 simp only[go_sem,seval]
 repeat refine aI ?_
 refine bh [] (hB) (by kernel_rfl) (by simp) rfl (by simp) (by first|decide|simp) (by simp) (by simp) (by simp) (by simp) (by simp) ?_
 simp only[go_sem,seval,ew,ne_eq,not_true,decide_false]
 repeat refine aI ?_
 refine bC [0,1,2,3,4,5,6] (hM) (by kernel_rfl) (by simp) rfl (by simp) (by first|decide|simp) (by simp) (by simp) (by simp) (by simp) ?_
 simp only[go_sem,seval]
 repeat refine aI ?_
 refine gH [0,1,2,3] (hG) (by kernel_rfl) (by simp) rfl (by simp) (by first|decide|simp) (by simp) (by simp) (by simp) (by simp) ?_
 simp only[go_sem,seval]
 repeat refine aI ?_
 refine bh [5] (hE) (by kernel_rfl) (by simp) rfl (by simp) (by first|decide|simp) (by simp) (by simp) (by simp) (by simp) (by simp) ?_
 simp only[go_sem,seval]
 repeat refine aI ?_
 exact Fin.ren [0,1,2,3,4,5,6,9,10] (by simp) (by simp) (by rfl) (by decide) (by simp) (by simp)
theorem KN (d:DS)(p:PS)(q:List ac)(hb:d.best=2)(hk:p.knows=1∨p.knows=2)(hq:q.length=32)(hpub:p.pub=ai q)(hpsk:p.psk.length=32)(hown:d.own.length=32)(hseed:d.seed.length=32)(hn:0≤d.now)(hn2:d.now≤1099511627776)(hat:p.at_≠0#32)(hf:0≤d.firsts)(hf2:d.firsts≤1000)
  (t l u:Int) (o:Bool) (wt:Bool) (ht:0≤t) (ht2:t≤1000):
  ag Tryz.prog 66 [.ptr 4 0] [bK (d.cs .nilSlice .nilSlice),none,none,none,bK (p.cs (.slice 7 0 1 1) .nilPtr .nilPtr (.ptr 6 0) .nilPtr),bK [.bool wt,.i64 t,.i64 l,.bool o,.i64 u],none,none] (.tup [])
   [bK ({d with fresh:=d.fresh+1#64,index:=d.index+1#32,firsts:=d.firsts+1}.cs (.slice 9 0 1 3) .nilSlice),none,none,none,bK ({p with bix:=d.index+1#32,btx:=marked p.pub (fT p.knows q d.keyV d.own d.now d.firsts 2 (d.index+1#32))}.cs (.slice 7 0 1 1) (.ptr 8 0) .nilPtr (.ptr 6 0) .nilPtr),bK [.bool true,.i64 (t+1),.i64 d.now,.bool o,.i64 u],none,none,
    bK ((aS p.knows q d.keyV d.own d.now d.firsts 2).cs p.knows++[.i64 p.knows,.str d.own,.str (ai q),.str p.psk,.str d.keyV,.u32 (d.index+1#32)]),bK [.u32 d.here,.u32 p.at_,.str (marked p.pub (fT p.knows q d.keyV d.own d.now d.firsts 2 (d.index+1#32)))]]:=by
 have hkl:=(d.keyV_spec hseed).2
 have hmod:d.firsts.tmod 1000000000=d.firsts:=Int.tmod_eq_of_lt hf (by omega)
 have hB:=BX (id:=d.index+1#32) hk (.inr rfl:(2:Int)=1∨(2:Int)=2) (sec:=d.now) (nano:=d.firsts) (by unfold im;omega) p.psk hq hkl hown hpsk
 have hlen:(fT p.knows q d.keyV d.own d.now d.firsts 2 (d.index+1#32)).length=115:=(pv (k:=1#8) (s:=BitVec.ofInt 8 p.knows) (b8 _) (bw _) (mH hk) (mI hk)).1
 have hM:=sq {d with fresh:=d.fresh+1#64,index:=d.index+1#32,firsts:=d.firsts+1} p (by rw[hpub,bw]) hn [none,none] (.slice 7 0 1 1) .nilPtr .nilPtr (.ptr 6 0) .nilPtr (x:=fT p.knows q d.keyV d.own d.now d.firsts 2 (d.index+1#32)) (by rw[hlen];decide)
 have hG:=oh {d with fresh:=d.fresh+1#64,index:=d.index+1#32,firsts:=d.firsts+1} p.at_ (marked p.pub (fT p.knows q d.keyV d.own d.now d.firsts 2 (d.index+1#32))) hat
 have hK:=oC d hseed
 have hI:=rm d.up .nilSlice rfl
 have hE:=gL wt t l o u 4 d.now ht (by omega) (by unfold fO;omega)
 rw[show tW wt 4=true from rfl,show tT t 4=t+1 from rfl,show tL l 4 d.now=d.now from rfl,show tO o 4=o from rfl,show tU o u 4 d.now=u from rfl] at hE
 have ew:aj (d.firsts+1)=d.firsts+1:=am (by omega) (by omega)
 have esu:(if p.knows<2 then p.knows else 2)=p.knows:=by split <;>omega
 have e0:∃ (ty:TypeId) (h c k:List ac) (n:BitVec 64),(aS p.knows q d.keyV d.own d.now d.firsts 2).cs p.knows=[.iface ty (.agg []),.str h,.str c,.str k,.u64 n]:=⟨_,_,_,_,_,rfl⟩
 generalize (aS p.knows q d.keyV d.own d.now d.firsts 2).cs p.knows=c5 at*
 generalize fT p.knows q d.keyV d.own d.now d.firsts 2 (d.index+1#32)=msg at*
 generalize marked p.pub msg=mk at*
 unfold PS.cs DS.cs DS.up at*
 generalize d.keyV=once at*
 rw[hb] at*
 rw[←hpub] at hB ⊢
 obtain⟨ty5,h5,k5,g5,m5,rfl⟩:=e0
 dsimp only at*
 refine ap (by kernel_rfl) (fn:=Tryz.f66) Tryz.func66 rfl (by show 1≤130;decide) (ae ?_)
 simp only[go_sem,seval,Tryz.ntmps66,esu,hmod]
 repeat refine aI ?_
 refine gH [0,1,2,3] (hK) (by kernel_rfl) (by simp) rfl (by simp) (by first|decide|simp) (by simp) (by simp) (by simp) (by simp) ?_
 simp only[go_sem,seval]
 repeat refine aI ?_
 refine gH [0,1,2,3] (hI) (by kernel_rfl) (by simp) rfl (by simp) (by first|decide|simp) (by simp) (by simp) (by simp) (by simp) ?_
 simp only[go_sem,seval]
 repeat refine aI ?_
 refine bh [] (hB) (by kernel_rfl) (by simp) rfl (by simp) (by first|decide|simp) (by simp) (by simp) (by simp) (by simp) (by simp) ?_
 simp only[go_sem,seval,ew,ne_eq,not_true,decide_false]
 repeat refine aI ?_
 refine bC [0,1,2,3,4,5,6,7] (hM) (by kernel_rfl) (by simp) rfl (by simp) (by first|decide|simp) (by simp) (by simp) (by simp) (by simp) ?_
 simp only[go_sem,seval]
 repeat refine aI ?_
 refine gH [0,1,2,3] (hG) (by kernel_rfl) (by simp) rfl (by simp) (by first|decide|simp) (by simp) (by simp) (by simp) (by simp) ?_
 simp only[go_sem,seval]
 repeat refine aI ?_
 refine bh [5] (hE) (by kernel_rfl) (by simp) rfl (by simp) (by first|decide|simp) (by simp) (by simp) (by simp) (by simp) (by simp) ?_
 simp only[go_sem,seval]
 repeat refine aI ?_
 exact Fin.ren [0,1,2,3,4,5,6,7,10,11] (by simp) (by simp) (by rfl) (by decide) (by simp) (by simp)
def bu (theirs:BitVec 32)(n:Int)(z:List ac):List ac:=[4#8,0#8]++aE (theirs.setWidth 64).toNat 4++aE (BitVec.ofInt 64 n).toNat 8++z
theorem Oo (d:DS)(p:PS){su:Int}(hs:su=1∨su=2){sd:List ac}(rc:List ac)(hk:sd.length=32)(bo se:Int)(fs:Bool)(next:Int)(bits:BitVec 64)(mine theirs:BitVec 32){x:List ac}(hx:x.length≤2000)(hn:0≤d.now)(hn2:d.now≤1099511627776)(hb:0≤bo)(hb2:bo≤1099511627776)(hnb:d.now<bo+120)(hse:0≤se)(hse2:se<900)(hat:p.at_≠0#32)
  (t l u:Int) (o wt:Bool) (ht:0≤t) (ht2:t≤1000):
  ag Tryz.prog 44 [.ptr 4 0,.str x] [bK (d.cs .nilSlice .nilSlice),none,none,none,bK (p.cs .nilSlice .nilPtr (.nilPtr) (.ptr 6 0) .nilPtr),bK [.bool wt,.i64 t,.i64 l,.bool o,.i64 u],some ⟨false,[.ptr 7 0,.i64 su,.u32 mine,.u32 theirs],some ⟨[],0⟩⟩,bK [.ptr 8 0,.str sd,.str rc,.i64 su,.i64 bo,.i64 se,.bool fs],bK [.i64 next,.u64 bits]] (.tup [])
   [bK (d.cs (.slice 9 0 1 3) .nilSlice),none,none,none,bK (p.cs .nilSlice .nilPtr (.nilPtr) (.ptr 6 0) .nilPtr),bK [.bool wt,.i64 t,.i64 l,.bool false,.i64 u],some ⟨false,[.ptr 7 0,.i64 su,.u32 mine,.u32 theirs],some ⟨[],0⟩⟩,bK [.ptr 8 0,.str sd,.str rc,.i64 su,.i64 bo,.i64 (se+1),.bool fs],bK [.i64 next,.u64 bits],bK [.u32 d.here,.u32 p.at_,.str (bu theirs se (aZ su sd se x))]]:=by
 have hS:=BY hs rc hk bo se fs next bits hx d.now hb hb2 (by omega) hse (by omega)
 have hT:=y7 sd rc su bo (se+1) fs next bits d.now hb hb2
 have est:oB bo (se+1) fs d.now=false:=by
  unfold oB fN
  rw[if_neg (show ¬ bo+180≤d.now by omega),show decide (1000≤se+1)=false by simp;omega]
  cases fs
  ·rfl
  ·simp;omega
 rw[est] at hT
 have hG:=oh d p.at_ (bu theirs se (aZ su sd se x)) hat
 have hE:=gL wt t l o u 1 d.now ht (by omega) (by unfold fO;omega)
 rw[show tW wt 1=wt from rfl,show tT t 1=t from rfl,show tL l 1 d.now=l from rfl,show tO o 1=false from rfl,show tU o u 1 d.now=u from rfl] at hE
 have a1:=qC [4#8,0#8] (theirs.setWidth 64) (by decide)
 have a2:=k8 ([4#8,0#8]++aE (theirs.setWidth 64).toNat 4) (BitVec.ofInt 64 se) (by rw[List.length_append,br];decide)
 have hxl:=pg (s:=su) (n:=se) hk hx
 unfold bu at*
 generalize aZ su sd se x=z at*
 have l1:=br (theirs.setWidth 64).toNat 4
 have l2:=br (BitVec.ofInt 64 se).toNat 8
 generalize aE (theirs.setWidth 64).toNat 4=b1 at*
 generalize aE (BitVec.ofInt 64 se).toNat 8=b2 at*
 have e12:List.take 12 (b1++b2)=b1++b2:=List.take_of_length_le (by rw[List.length_append];omega)
 have eM:[4#8,0#8]++b1++b2++z=4#8::0#8::(b1++b2++z):=by simp
 rw[eM] at hG ⊢
 unfold PS.cs DS.cs at*
 refine ap (by kernel_rfl) (fn:=Tryz.f44) Tryz.func44 rfl (by show 2≤95;decide) (ae ?_)
 simp only[go_sem,seval,Tryz.ntmps44]
 repeat refine aI ?_
 refine gH [7,8] (hS) (by kernel_rfl) (by simp) rfl (by simp) (by first|decide|simp) (by simp) (by simp) (by simp) (by simp) ?_
 simp only[go_sem,seval,ne_eq,not_true,decide_false]
 repeat refine aI ?_
 refine aq [9] (a1) (by kernel_rfl) (by simp) rfl (by simp) (by first|decide|simp) (by simp) (by simp) (by simp) (by simp) (by simp) ?_
 simp only[go_sem,seval]
 repeat refine aI ?_
 refine bh [10] (a2) (by kernel_rfl) (by simp[l1]) rfl (by simp) (by first|decide|simp) (by simp) (by simp) (by simp) (by simp) (by simp) ?_
 simp only[go_sem,seval,l1,l2]
 repeat refine aI ?_
 refine gH [0,1,2,3] (hG) (by kernel_rfl) (by simp[e12]) rfl (by simp) (by first|decide|simp) (by simp) (by simp[e12]) (by simp) (by simp) ?_
 simp only[go_sem,seval,e12]
 repeat refine aI ?_
 refine bh [5] (hE) (by kernel_rfl) (by simp) rfl (by simp) (by first|decide|simp) (by simp) (by simp) (by simp) (by simp) (by simp) ?_
 simp only[go_sem,seval]
 repeat refine aI ?_
 refine gH [7,8] (hT) (by kernel_rfl) (by simp) rfl (by simp) (by first|decide|simp) (by simp) (by simp) (by simp) (by simp) ?_
 simp only[go_sem,seval]
 repeat refine aI ?_
 exact Fin.ren [0,1,2,3,4,5,6,7,8,12] (by simp) (by simp) (by rfl) (by decide) (by simp) (by simp)
theorem BZ (d:DS)(p:PS){su:Int}(hs:su=1∨su=2){sd:List ac}(rc:List ac)(hk:sd.length=32)(bo se:Int)(fs:Bool)(next:Int)(bits:BitVec 64)(mine theirs:BitVec 32){x:List ac}(hx:x.length≤2000)(hn:0≤d.now)(hn2:d.now≤1099511627776)(hb:0≤bo)(hb2:bo≤1099511627776)(hnb:d.now<bo+120)(hse:0≤se)(hse2:se<900)(hat:p.at_≠0#32)
  (t l u:Int) (o wt:Bool) (ht:0≤t) (ht2:t≤1000):
  ag Tryz.prog 44 [.ptr 4 0,.str x] [bK (d.cs .nilSlice .nilSlice),none,none,none,bK (p.cs .nilSlice .nilPtr (.ptr 9 0) (.ptr 6 0) .nilPtr),bK [.bool wt,.i64 t,.i64 l,.bool o,.i64 u],some ⟨false,[.ptr 7 0,.i64 su,.u32 mine,.u32 theirs],some ⟨[],0⟩⟩,bK [.ptr 8 0,.str sd,.str rc,.i64 su,.i64 bo,.i64 se,.bool fs],bK [.i64 next,.u64 bits],none] (.tup [])
   [bK (d.cs (.slice 10 0 1 3) .nilSlice),none,none,none,bK (p.cs .nilSlice .nilPtr (.ptr 9 0) (.ptr 6 0) .nilPtr),bK [.bool wt,.i64 t,.i64 l,.bool false,.i64 u],some ⟨false,[.ptr 7 0,.i64 su,.u32 mine,.u32 theirs],some ⟨[],0⟩⟩,bK [.ptr 8 0,.str sd,.str rc,.i64 su,.i64 bo,.i64 (se+1),.bool fs],bK [.i64 next,.u64 bits],none,bK [.u32 d.here,.u32 p.at_,.str (bu theirs se (aZ su sd se x))]]:=by
 have hS:=BY hs rc hk bo se fs next bits hx d.now hb hb2 (by omega) hse (by omega)
 have hT:=y7 sd rc su bo (se+1) fs next bits d.now hb hb2
 have est:oB bo (se+1) fs d.now=false:=by
  unfold oB fN
  rw[if_neg (show ¬ bo+180≤d.now by omega),show decide (1000≤se+1)=false by simp;omega]
  cases fs
  ·rfl
  ·simp;omega
 rw[est] at hT
 have hG:=oh d p.at_ (bu theirs se (aZ su sd se x)) hat
 have hE:=gL wt t l o u 1 d.now ht (by omega) (by unfold fO;omega)
 rw[show tW wt 1=wt from rfl,show tT t 1=t from rfl,show tL l 1 d.now=l from rfl,show tO o 1=false from rfl,show tU o u 1 d.now=u from rfl] at hE
 have a1:=qC [4#8,0#8] (theirs.setWidth 64) (by decide)
 have a2:=k8 ([4#8,0#8]++aE (theirs.setWidth 64).toNat 4) (BitVec.ofInt 64 se) (by rw[List.length_append,br];decide)
 have hxl:=pg (s:=su) (n:=se) hk hx
 unfold bu at*
 generalize aZ su sd se x=z at*
 have l1:=br (theirs.setWidth 64).toNat 4
 have l2:=br (BitVec.ofInt 64 se).toNat 8
 generalize aE (theirs.setWidth 64).toNat 4=b1 at*
 generalize aE (BitVec.ofInt 64 se).toNat 8=b2 at*
 have e12:List.take 12 (b1++b2)=b1++b2:=List.take_of_length_le (by rw[List.length_append];omega)
 have eM:[4#8,0#8]++b1++b2++z=4#8::0#8::(b1++b2++z):=by simp
 rw[eM] at hG ⊢
 unfold PS.cs DS.cs at*
 refine ap (by kernel_rfl) (fn:=Tryz.f44) Tryz.func44 rfl (by show 2≤95;decide) (ae ?_)
 simp only[go_sem,seval,Tryz.ntmps44]
 repeat refine aI ?_
 refine gH [7,8] (hS) (by kernel_rfl) (by simp) rfl (by simp) (by first|decide|simp) (by simp) (by simp) (by simp) (by simp) ?_
 simp only[go_sem,seval,ne_eq,not_true,decide_false]
 repeat refine aI ?_
 refine aq [10] (a1) (by kernel_rfl) (by simp) rfl (by simp) (by first|decide|simp) (by simp) (by simp) (by simp) (by simp) (by simp) ?_
 simp only[go_sem,seval]
 repeat refine aI ?_
 refine bh [11] (a2) (by kernel_rfl) (by simp[l1]) rfl (by simp) (by first|decide|simp) (by simp) (by simp) (by simp) (by simp) (by simp) ?_
 simp only[go_sem,seval,l1,l2]
 repeat refine aI ?_
 refine gH [0,1,2,3] (hG) (by kernel_rfl) (by simp[e12]) rfl (by simp) (by first|decide|simp) (by simp) (by simp[e12]) (by simp) (by simp) ?_
 simp only[go_sem,seval,e12]
 repeat refine aI ?_
 refine bh [5] (hE) (by kernel_rfl) (by simp) rfl (by simp) (by first|decide|simp) (by simp) (by simp) (by simp) (by simp) (by simp) ?_
 simp only[go_sem,seval]
 repeat refine aI ?_
 refine gH [7,8] (hT) (by kernel_rfl) (by simp) rfl (by simp) (by first|decide|simp) (by simp) (by simp) (by simp) (by simp) ?_
 simp only[go_sem,seval]
 repeat refine aI ?_
 exact Fin.ren [0,1,2,3,4,5,6,7,8,9,13] (by simp) (by simp) (by rfl) (by decide) (by simp) (by simp)
def lS (win:Nat)(sd rc:List ac)(s bo:Int)(fs:Bool):List V:=[.ptr win 0,.str sd,.str rc,.i64 s,.i64 bo,.i64 0,.bool fs]
theorem VO (s:Int)(hs:s=1∨s=2)(sd rc:List ac)(hsd:sd.length=32)(hrc:rc.length=32)(bo:Int)(hb:0≤bo)(hb2:bo≤1099511627776)(fs:Bool):
  ag Tryz.prog 144 [.i64 s,.agg [.str sd,.str rc],.i64 bo,.bool fs] [] (.tup [.ptr 1 0,.i64 0]) [bK [.i64 0,.u64 0#64],bK (lS 0 sd rc s bo fs)]:=by
 have h1:¬ bo<0:=by omega
 have h2:¬ (1099511627776:Int)<bo:=by omega
 have h3:(sd.length:Int)=32:=by omega
 have h4:(rc.length:Int)=32:=by omega
 unfold lS
 rcases hs with rfl|rfl
 ·refine ap (by kernel_rfl) (fn:=Tryz.f144) Tryz.func144 rfl (by show 4≤46;decide) (ae ?_)
  simp -implicitDefEqProofs only[go_sem,seval,Tryz.ntmps144,h1,h2,h3,h4]
  refine bh [] (AX) (by kernel_rfl) (by simp) rfl (by simp) (by first|decide|simp) (by simp) (by simp) (by simp) (by simp) (by simp) ?_
  simp -implicitDefEqProofs only[go_sem,seval]
  refine⟨by kernel_rfl,?_⟩
  exact Fin.ren [1,2] (by simp) (by simp) (by rfl) (by decide) (by simp) (by simp)
 ·refine ap (by kernel_rfl) (fn:=Tryz.f144) Tryz.func144 rfl (by show 4≤46;decide) (ae ?_)
  simp -implicitDefEqProofs only[go_sem,seval,Tryz.ntmps144,h1,h2,h3,h4]
  refine bh [] (AX) (by kernel_rfl) (by simp) rfl (by simp) (by first|decide|simp) (by simp) (by simp) (by simp) (by simp) (by simp) ?_
  simp -implicitDefEqProofs only[go_sem,seval]
  refine⟨by kernel_rfl,?_⟩
  exact Fin.ren [1,2] (by simp) (by simp) (by rfl) (by decide) (by simp) (by simp)
theorem tl (s:Int)(hs:s=1∨s=2)(sd rc:List ac)(hsd:sd.length=32)(hrc:rc.length=32)(bo:Int)(hb:0≤bo)(hb2:bo≤1099511627776)(fs:Bool)(m t:BitVec 32):
  ag Tryz.prog 98 [.i64 s,.agg [.str sd,.str rc],.i64 bo,.bool fs,.u32 m,.u32 t] [] (.ptr 2 0) [bK [.i64 0,.u64 0#64],bK (lS 0 sd rc s bo fs),some ⟨false,[.ptr 1 0,.i64 s,.u32 m,.u32 t],some ⟨[],0⟩⟩]:=by
 have hp:=VO s hs sd rc hsd hrc bo hb hb2 fs
 unfold lS at hp ⊢
 refine ap (by kernel_rfl) (fn:=Tryz.f98) Tryz.func98 rfl (by show 6≤29;decide) (ae ?_)
 simp -implicitDefEqProofs only[go_sem,seval,Tryz.ntmps98]
 repeat refine aJ ?_
 refine aq [] (hp) (by kernel_rfl) (by simp) rfl (by simp) (by first|decide|simp) (by simp) (by simp) (by simp) (by simp) (by simp) ?_
 simp -implicitDefEqProofs only[go_sem,seval]
 exact Fin.ren [1,2,3] (by simp) (by simp) (by rfl) (by decide) (by simp) (by simp)
theorem IW (d:DS)(p:PS)(T:List (Option Blk))(waits begun old next:V):
  ag Tryz.prog 43 [.ptr 4 0] (bK (d.cs .nilSlice .nilSlice)::none::none::none::bK (p.cs waits begun old .nilPtr next)::none::T) (.bool false) (bK (d.cs .nilSlice .nilSlice)::none::none::none::bK (p.cs waits begun old .nilPtr next)::none::T):=by
 unfold PS.cs DS.cs
 refine ap (by kernel_rfl) (fn:=Tryz.f43) Tryz.func43 rfl (by show 1≤26;decide) (ae ?_)
 simp -implicitDefEqProofs only[go_sem,seval,Tryz.ntmps43,Tryz.results43]
 repeat refine aJ ?_
 exact Fin.id (s:=⟨_,_⟩) (Nat.le_refl _)
theorem vR (d:DS)(p:PS)(T:List (Option Blk))(waits begun old next:V)(sd rc:List ac)(su bo se:Int)(fs:Bool)(nx:Int)(bits:BitVec 64)(mine theirs:BitVec 32)(hb:0≤bo)(hb2:bo≤1099511627776)(b:Bool)(hb3:(! fN bo se d.now)=b):
  ag Tryz.prog 43 [.ptr 4 0] (bK (d.cs .nilSlice .nilSlice)::none::none::none::bK (p.cs waits begun old (.ptr 6 0) next)::none::some ⟨false,[.ptr 7 0,.i64 su,.u32 mine,.u32 theirs],some ⟨[],0⟩⟩::bK [.ptr 8 0,.str sd,.str rc,.i64 su,.i64 bo,.i64 se,.bool fs]::bK [.i64 nx,.u64 bits]::T) (.bool b) (bK (d.cs .nilSlice .nilSlice)::none::none::none::bK (p.cs waits begun old (.ptr 6 0) next)::none::some ⟨false,[.ptr 7 0,.i64 su,.u32 mine,.u32 theirs],some ⟨[],0⟩⟩::bK [.ptr 8 0,.str sd,.str rc,.i64 su,.i64 bo,.i64 se,.bool fs]::bK [.i64 nx,.u64 bits]::T):=by
 have ho:=ve sd rc su bo se fs nx bits d.now hb hb2
 generalize fN bo se d.now=v at*
 subst hb3
 unfold PS.cs DS.cs
 cases v
 ·refine ap (by kernel_rfl) (fn:=Tryz.f43) Tryz.func43 rfl (by show 1≤26;decide) (ae ?_)
  simp -implicitDefEqProofs only[go_sem,seval,Tryz.ntmps43]
  repeat refine aJ ?_
  refine bh [7,8] (ho) (by kernel_rfl) (by simp) rfl (by simp) (by first|decide|simp) (by simp) (by simp) (by simp) (by simp) (by simp) ?_
  simp -implicitDefEqProofs only[go_sem,seval]
  refine⟨⟨by omega,by omega⟩,?_⟩
  repeat refine aI ?_
  exact Fin.id (s:=⟨_,_⟩) (Nat.le_refl _)
 ·refine ap (by kernel_rfl) (fn:=Tryz.f43) Tryz.func43 rfl (by show 1≤26;decide) (ae ?_)
  simp -implicitDefEqProofs only[go_sem,seval,Tryz.ntmps43]
  repeat refine aJ ?_
  refine bh [7,8] (ho) (by kernel_rfl) (by simp) rfl (by simp) (by first|decide|simp) (by simp) (by simp) (by simp) (by simp) (by simp) ?_
  simp -implicitDefEqProofs only[go_sem,seval]
  refine⟨⟨by omega,by omega⟩,?_⟩
  repeat refine aI ?_
  exact Fin.id (s:=⟨_,_⟩) (Nat.le_refl _)
theorem yb (d:DS)(p:PS)(T:List (Option Blk))(out waits begun old ses next:V)(wt:Bool)(t l:Int)(o:Bool)(u:Int)(hl:0≤l∧l≤1099511627776)(hu:0≤u∧u≤1099511627776)(hx:gn wt t l o u d.now=0):
  ag Tryz.prog 46 [.ptr 4 0] (bK (d.cs out .nilSlice)::none::none::none::bK (p.cs waits begun old ses next)::bK [.bool wt,.i64 t,.i64 l,.bool o,.i64 u]::T) (.tup []) (bK (d.cs out .nilSlice)::none::none::none::bK (p.cs waits begun old ses next)::bK [.bool wt,.i64 t,.i64 l,.bool o,.i64 u]::T):=by
 have hN:=rG wt t l o u d.now hl hu
 rw[hx] at hN
 unfold PS.cs DS.cs
 refine ap (by kernel_rfl) (fn:=Tryz.f46) Tryz.func46 rfl (by show 1≤61;decide) (ae ?_)
 simp only[go_sem,seval,Tryz.ntmps46]
 refine bh [5] (hN) (by kernel_rfl) (by simp) rfl (by simp) (by first|decide|simp) (by simp) (by simp) (by simp) (by simp) (by simp) ?_
 simp only[go_sem,seval]
 refine⟨by omega,?_⟩
 repeat refine aI ?_
 exact Fin.id (s:=⟨_,_⟩) (Nat.le_refl _)
theorem G9 (d:DS)(p:PS)(T:List (Option Blk))(waits begun old next:V)(sd rc:List ac)(su bo se:Int)(fs:Bool)(nx:Int)(bits:BitVec 64)(mine theirs:BitVec 32)(hb:0≤bo)(hb2:bo≤1099511627776)(hb3:fN bo se d.now=true)(hn:0≤d.now)(hn2:d.now≤1099511627776)(wt:Bool)(t l:Int)(o:Bool)(u:Int)(ht:0≤t)(ht2:t≤1000)(hl:0≤l∧l≤1099511627776)(hu:0≤u∧u≤1099511627776)(hx:gn wt t l o u d.now=2):
  ag Tryz.prog 46 [.ptr 4 0] [bK (d.cs .nilSlice .nilSlice),none,none,none,bK (p.cs .nilSlice .nilPtr .nilPtr (.ptr 6 0) .nilPtr),bK [.bool wt,.i64 t,.i64 l,.bool o,.i64 u],some ⟨false,[.ptr 7 0,.i64 su,.u32 mine,.u32 theirs],some ⟨[],0⟩⟩,bK [.ptr 8 0,.str sd,.str rc,.i64 su,.i64 bo,.i64 se,.bool fs],bK [.i64 nx,.u64 bits]] (.tup []) [bK (d.cs .nilSlice .nilSlice),none,none,none,bK (p.cs .nilSlice .nilPtr .nilPtr (.ptr 6 0) .nilPtr),bK [.bool wt,.i64 t,.i64 l,.bool false,.i64 u],some ⟨false,[.ptr 7 0,.i64 su,.u32 mine,.u32 theirs],some ⟨[],0⟩⟩,bK [.ptr 8 0,.str sd,.str rc,.i64 su,.i64 bo,.i64 se,.bool fs],bK [.i64 nx,.u64 bits]]:=by
 have hN:=rG wt t l o u d.now hl hu
 rw[hx] at hN
 have hU:=vR d p [] .nilSlice .nilPtr .nilPtr .nilPtr sd rc su bo se fs nx bits mine theirs hb hb2 false (by rw[hb3];rfl)
 have hE:=gL wt t l o u 1 d.now ht (by omega) (by unfold fO;omega)
 rw[show tW wt 1=wt from rfl,show tT t 1=t from rfl,show tL l 1 d.now=l from rfl,show tO o 1=false from rfl,show tU o u 1 d.now=u from rfl] at hE
 unfold PS.cs DS.cs at*
 refine ap (by kernel_rfl) (fn:=Tryz.f46) Tryz.func46 rfl (by show 1≤61;decide) (ae ?_)
 simp only[go_sem,seval,Tryz.ntmps46]
 refine bh [5] (hN) (by kernel_rfl) (by simp) rfl (by simp) (by first|decide|simp) (by simp) (by simp) (by simp) (by simp) (by simp) ?_
 simp only[go_sem,seval]
 repeat refine aI ?_
 refine bC [0,1,2,3,4,5,6,7,8] (hU) (by kernel_rfl) (by simp) rfl (by simp) (by first|decide|simp) (by simp) (by simp) (by simp) (by simp) ?_
 simp only[go_sem,seval]
 repeat refine aI ?_
 refine bh [5] (hE) (by kernel_rfl) (by simp) rfl (by simp) (by first|decide|simp) (by simp) (by simp) (by simp) (by simp) (by simp) ?_
 simp only[go_sem,seval]
 repeat refine aI ?_
 exact Fin.ren [0,1,2,3,4,5,6,7,8] (by simp) (by simp) (by rfl) (by decide) (by simp) (by simp)
theorem F2 (d:DS)(p:PS)(q:List ac)(hb:d.best=2)(hk:p.knows=1∨p.knows=2)(hq:q.length=32)(hpub:p.pub=ai q)(hpsk:p.psk.length=32)(hown:d.own.length=32)(hseed:d.seed.length=32)(hn:0≤d.now)(hn2:d.now≤1099511627776)(hat:p.at_≠0#32)(hf:0≤d.firsts)(hf2:d.firsts≤1000)
  (t l u:Int) (o:Bool) (wt:Bool) (ht:0≤t) (ht2:t≤1000) (hl:0≤l∧l≤1099511627776) (hu:0≤u∧u≤1099511627776) (hx:gn wt t l o u d.now=1):
  ag Tryz.prog 46 [.ptr 4 0] [bK (d.cs .nilSlice .nilSlice),none,none,none,bK (p.cs (.slice 6 0 1 1) .nilPtr .nilPtr (.nilPtr) .nilPtr),bK [.bool wt,.i64 t,.i64 l,.bool o,.i64 u],none] (.tup [])
   [bK ({d with fresh:=d.fresh+1#64,index:=d.index+1#32,firsts:=d.firsts+1}.cs (.slice 8 0 1 3) .nilSlice),none,none,none,bK ({p with bix:=d.index+1#32,btx:=marked p.pub (fT p.knows q d.keyV d.own d.now d.firsts 2 (d.index+1#32))}.cs (.slice 6 0 1 1) (.ptr 7 0) .nilPtr (.nilPtr) .nilPtr),bK [.bool true,.i64 (t+1),.i64 d.now,.bool o,.i64 u],none,
    bK ((aS p.knows q d.keyV d.own d.now d.firsts 2).cs p.knows++[.i64 p.knows,.str d.own,.str (ai q),.str p.psk,.str d.keyV,.u32 (d.index+1#32)]),bK [.u32 d.here,.u32 p.at_,.str (marked p.pub (fT p.knows q d.keyV d.own d.now d.firsts 2 (d.index+1#32)))]]:=by
 have hN:=rG wt t l o u d.now hl hu
 rw[hx] at hN
 have hB:=KM d p q hb hk hq hpub hpsk hown hseed hn hn2 hat hf hf2 t l u o wt ht ht2
 have e0:∃ (ty:TypeId) (h c k:List ac) (n:BitVec 64),(aS p.knows q d.keyV d.own d.now d.firsts 2).cs p.knows=[.iface ty (.agg []),.str h,.str c,.str k,.u64 n]:=⟨_,_,_,_,_,rfl⟩
 generalize (aS p.knows q d.keyV d.own d.now d.firsts 2).cs p.knows=c5 at*
 generalize marked p.pub (fT p.knows q d.keyV d.own d.now d.firsts 2 (d.index+1#32))=mk at*
 unfold PS.cs DS.cs at*
 generalize d.keyV=once at*
 obtain⟨ty5,h5,k5,g5,m5,rfl⟩:=e0
 dsimp only at*
 refine ap (by kernel_rfl) (fn:=Tryz.f46) Tryz.func46 rfl (by show 1≤61;decide) (ae ?_)
 simp only[go_sem,seval,Tryz.ntmps46]
 refine bh [5] (hN) (by kernel_rfl) (by simp) rfl (by simp) (by first|decide|simp) (by simp) (by simp) (by simp) (by simp) (by simp) ?_
 simp only[go_sem,seval,hat,ne_eq,not_false_eq_true,decide_true]
 repeat refine aI ?_
 refine bC [0,1,2,3,4,5,6] (hB) (by kernel_rfl) (by simp) rfl (by simp) (by first|decide|simp) (by simp) (by simp) (by simp) (by simp) ?_
 simp only[go_sem,seval]
 repeat refine aI ?_
 exact Fin.ren [0,1,2,3,4,5,6,7,8] (by simp) (by simp) (by rfl) (by decide) (by simp) (by simp)
theorem F3 (d:DS)(p:PS)(q:List ac)(hb:d.best=2)(hk:p.knows=1∨p.knows=2)(hq:q.length=32)(hpub:p.pub=ai q)(hpsk:p.psk.length=32)(hown:d.own.length=32)(hseed:d.seed.length=32)(hn:0≤d.now)(hn2:d.now≤1099511627776)(hat:p.at_≠0#32)(hf:0≤d.firsts)(hf2:d.firsts≤1000)
  (t l u:Int) (o:Bool) (wt:Bool) (ht:0≤t) (ht2:t≤1000) (hl:0≤l∧l≤1099511627776) (hu:0≤u∧u≤1099511627776) (hx:gn wt t l o u d.now=1):
  ag Tryz.prog 46 [.ptr 4 0] [bK (d.cs .nilSlice .nilSlice),none,none,none,bK (p.cs (.slice 7 0 1 1) .nilPtr .nilPtr (.ptr 6 0) .nilPtr),bK [.bool wt,.i64 t,.i64 l,.bool o,.i64 u],none,none] (.tup [])
   [bK ({d with fresh:=d.fresh+1#64,index:=d.index+1#32,firsts:=d.firsts+1}.cs (.slice 9 0 1 3) .nilSlice),none,none,none,bK ({p with bix:=d.index+1#32,btx:=marked p.pub (fT p.knows q d.keyV d.own d.now d.firsts 2 (d.index+1#32))}.cs (.slice 7 0 1 1) (.ptr 8 0) .nilPtr (.ptr 6 0) .nilPtr),bK [.bool true,.i64 (t+1),.i64 d.now,.bool o,.i64 u],none,none,
    bK ((aS p.knows q d.keyV d.own d.now d.firsts 2).cs p.knows++[.i64 p.knows,.str d.own,.str (ai q),.str p.psk,.str d.keyV,.u32 (d.index+1#32)]),bK [.u32 d.here,.u32 p.at_,.str (marked p.pub (fT p.knows q d.keyV d.own d.now d.firsts 2 (d.index+1#32)))]]:=by
 have hN:=rG wt t l o u d.now hl hu
 rw[hx] at hN
 have hB:=KN d p q hb hk hq hpub hpsk hown hseed hn hn2 hat hf hf2 t l u o wt ht ht2
 have e0:∃ (ty:TypeId) (h c k:List ac) (n:BitVec 64),(aS p.knows q d.keyV d.own d.now d.firsts 2).cs p.knows=[.iface ty (.agg []),.str h,.str c,.str k,.u64 n]:=⟨_,_,_,_,_,rfl⟩
 generalize (aS p.knows q d.keyV d.own d.now d.firsts 2).cs p.knows=c5 at*
 generalize marked p.pub (fT p.knows q d.keyV d.own d.now d.firsts 2 (d.index+1#32))=mk at*
 unfold PS.cs DS.cs at*
 generalize d.keyV=once at*
 obtain⟨ty5,h5,k5,g5,m5,rfl⟩:=e0
 dsimp only at*
 refine ap (by kernel_rfl) (fn:=Tryz.f46) Tryz.func46 rfl (by show 1≤61;decide) (ae ?_)
 simp only[go_sem,seval,Tryz.ntmps46]
 refine bh [5] (hN) (by kernel_rfl) (by simp) rfl (by simp) (by first|decide|simp) (by simp) (by simp) (by simp) (by simp) (by simp) ?_
 simp only[go_sem,seval,hat,ne_eq,not_false_eq_true,decide_true]
 repeat refine aI ?_
 refine bC [0,1,2,3,4,5,6,7] (hB) (by kernel_rfl) (by simp) rfl (by simp) (by first|decide|simp) (by simp) (by simp) (by simp) (by simp) ?_
 simp only[go_sem,seval]
 repeat refine aI ?_
 exact Fin.ren [0,1,2,3,4,5,6,7,8,9] (by simp) (by simp) (by rfl) (by decide) (by simp) (by simp)
theorem AZ (d:DS)(p:PS)(T:List (Option Blk))(out begun old ses next:V):
  ag Tryz.prog 102 [.ptr 4 0] (bK (d.cs out .nilSlice)::none::none::none::bK (p.cs .nilSlice begun old ses next)::none::T) (.tup []) (bK (d.cs out .nilSlice)::none::none::none::bK (p.cs .nilSlice begun old ses next)::none::T):=by
 unfold PS.cs DS.cs
 refine ap (by kernel_rfl) (fn:=Tryz.f102) Tryz.func102 rfl (by show 1≤22;decide) (ae ?_)
 simp only[go_sem,seval,Tryz.ntmps102]
 refine aY 1 ?_
 simp only[go_sem,seval]
 exact Fin.id (s:=⟨_,_⟩) (Nat.le_refl _)
theorem IX (d:DS)(p:PS){su:Int}(hs:su=1∨su=2){sd:List ac}(rc:List ac)(hk:sd.length=32)(bo se:Int)(fs:Bool)(next:Int)(bits:BitVec 64)(mine theirs:BitVec 32){x:List ac}(hx:x.length≤2000)(hn:0≤d.now)(hn2:d.now≤1099511627776)(hb:0≤bo)(hb2:bo≤1099511627776)(hnb:d.now<bo+120)(hse:0≤se)(hse2:se<900)(hat:p.at_≠0#32)
  (t l u:Int) (o wt:Bool) (ht:0≤t) (ht2:t≤1000):
  ag Tryz.prog 102 [.ptr 4 0] [bK (d.cs .nilSlice .nilSlice),none,none,none,bK (p.cs (.slice 9 0 1 1) .nilPtr (.nilPtr) (.ptr 6 0) .nilPtr),bK [.bool wt,.i64 t,.i64 l,.bool o,.i64 u],some ⟨false,[.ptr 7 0,.i64 su,.u32 mine,.u32 theirs],some ⟨[],0⟩⟩,bK [.ptr 8 0,.str sd,.str rc,.i64 su,.i64 bo,.i64 se,.bool fs],bK [.i64 next,.u64 bits],bK [.str x]] (.tup [])
   [bK (d.cs (.slice 10 0 1 3) .nilSlice),none,none,none,bK (p.cs .nilSlice .nilPtr (.nilPtr) (.ptr 6 0) .nilPtr),bK [.bool wt,.i64 t,.i64 l,.bool false,.i64 u],some ⟨false,[.ptr 7 0,.i64 su,.u32 mine,.u32 theirs],some ⟨[],0⟩⟩,bK [.ptr 8 0,.str sd,.str rc,.i64 su,.i64 bo,.i64 (se+1),.bool fs],bK [.i64 next,.u64 bits],none,bK [.u32 d.here,.u32 p.at_,.str (bu theirs se (aZ su sd se x))]]:=by
 have hS:=Oo d p hs rc hk bo se fs next bits mine theirs hx hn hn2 hb hb2 hnb hse hse2 hat t l u o wt ht ht2
 generalize bu theirs se (aZ su sd se x)=z at*
 unfold PS.cs DS.cs at*
 refine ap (by kernel_rfl) (fn:=Tryz.f102) Tryz.func102 rfl (by show 1≤22;decide) (ae ?_)
 simp only[go_sem,seval,Tryz.ntmps102]
 repeat refine aI ?_
 refine aY 2 ?_
 simp only[go_sem,seval]
 repeat refine aI ?_
 refine bC [0,1,2,3,4,5,6,7,8] (hS) (by kernel_rfl) (by simp) rfl (by simp) (by first|decide|simp) (by simp) (by simp) (by simp) (by simp) ?_
 simp only[go_sem,seval]
 repeat refine aI ?_
 exact Fin.ren [0,1,2,3,4,5,6,7,8,9,10] (by simp) (by simp) (by rfl) (by decide) (by simp) (by simp)
theorem IY (d:DS)(p:PS){su:Int}(hs:su=1∨su=2){sd:List ac}(rc:List ac)(hk:sd.length=32)(bo se:Int)(fs:Bool)(next:Int)(bits:BitVec 64)(mine theirs:BitVec 32){x:List ac}(hx:x.length≤2000)(hn:0≤d.now)(hn2:d.now≤1099511627776)(hb:0≤bo)(hb2:bo≤1099511627776)(hnb:d.now<bo+120)(hse:0≤se)(hse2:se<900)(hat:p.at_≠0#32)
  (t l u:Int) (o wt:Bool) (ht:0≤t) (ht2:t≤1000):
  ag Tryz.prog 102 [.ptr 4 0] [bK (d.cs .nilSlice .nilSlice),none,none,none,bK (p.cs (.slice 10 0 1 1) .nilPtr (.ptr 9 0) (.ptr 6 0) .nilPtr),bK [.bool wt,.i64 t,.i64 l,.bool o,.i64 u],some ⟨false,[.ptr 7 0,.i64 su,.u32 mine,.u32 theirs],some ⟨[],0⟩⟩,bK [.ptr 8 0,.str sd,.str rc,.i64 su,.i64 bo,.i64 se,.bool fs],bK [.i64 next,.u64 bits],none,bK [.str x]] (.tup [])
   [bK (d.cs (.slice 11 0 1 3) .nilSlice),none,none,none,bK (p.cs .nilSlice .nilPtr (.ptr 9 0) (.ptr 6 0) .nilPtr),bK [.bool wt,.i64 t,.i64 l,.bool false,.i64 u],some ⟨false,[.ptr 7 0,.i64 su,.u32 mine,.u32 theirs],some ⟨[],0⟩⟩,bK [.ptr 8 0,.str sd,.str rc,.i64 su,.i64 bo,.i64 (se+1),.bool fs],bK [.i64 next,.u64 bits],none,none,bK [.u32 d.here,.u32 p.at_,.str (bu theirs se (aZ su sd se x))]]:=by
 have hS:=BZ d p hs rc hk bo se fs next bits mine theirs hx hn hn2 hb hb2 hnb hse hse2 hat t l u o wt ht ht2
 generalize bu theirs se (aZ su sd se x)=z at*
 unfold PS.cs DS.cs at*
 refine ap (by kernel_rfl) (fn:=Tryz.f102) Tryz.func102 rfl (by show 1≤22;decide) (ae ?_)
 simp only[go_sem,seval,Tryz.ntmps102]
 repeat refine aI ?_
 refine aY 2 ?_
 simp only[go_sem,seval]
 repeat refine aI ?_
 refine bC [0,1,2,3,4,5,6,7,8,9] (hS) (by kernel_rfl) (by simp) rfl (by simp) (by first|decide|simp) (by simp) (by simp) (by simp) (by simp) ?_
 simp only[go_sem,seval]
 repeat refine aI ?_
 exact Fin.ren [0,1,2,3,4,5,6,7,8,9,10,11] (by simp) (by simp) (by rfl) (by decide) (by simp) (by simp)
theorem n6:ag Tryz.prog 41 [.ptr 0 0,.u32 167772160#32] [bK [.ptr 1 0,.nilPtr,.bool false,.i64 0,.i64 1],nL 2,nL 3,nL 4,nR 5,nL 6,nR 7,nL 8,nL 9,nL 10,nL 11,nL 12,nL 13,nL 14,nL 15,nL 16,nL 17,nL 18,nL 19,nL 20,nL 21,nL 22,nL 23,nL 24,bK [.nilPtr,.nilPtr,.bool true,.i64 0]] (.tup [.i64 0,.bool true]) [bK [.ptr 1 0,.nilPtr,.bool false,.i64 0,.i64 1],nL 2,nL 3,nL 4,nR 5,nL 6,nR 7,nL 8,nL 9,nL 10,nL 11,nL 12,nL 13,nL 14,nL 15,nL 16,nL 17,nL 18,nL 19,nL 20,nL 21,nL 22,nL 23,nL 24,bK [.nilPtr,.nilPtr,.bool true,.i64 0]]:=by
 refine ap (by kernel_rfl) (fn:=Tryz.f41) Tryz.func41 rfl (by show 2≤39;decide) (ae ?_)
 simp only[go_sem,seval,Tryz.ntmps41]
 refine aY 26 ?_
 simp only[go_sem,seval,BitVec.reduceHShiftRight,Int.cast_ofNat_Int]
 iterate 25 refine And.intro (by first|trivial|kernel_rfl) ?_
 exact Fin.ren [0,1,2,3,4,5,6,7,8,9,10,11,12,13,14,15,16,17,18,19,20,21,22,23,24] (by simp) (by simp) (by rfl) (by decide) (by simp) (by simp)
theorem n7:ag Tryz.prog 41 [.ptr 0 0,.u32 167772416#32] [bK [.ptr 1 0,.nilPtr,.bool false,.i64 0,.i64 1],nL 2,nL 3,nL 4,nR 5,nL 6,nR 7,nL 8,nL 9,nL 10,nL 11,nL 12,nL 13,nL 14,nL 15,nL 16,nL 17,nL 18,nL 19,nL 20,nL 21,nL 22,nL 23,nR 24,bK [.nilPtr,.nilPtr,.bool true,.i64 0]] (.tup [.i64 0,.bool true]) [bK [.ptr 1 0,.nilPtr,.bool false,.i64 0,.i64 1],nL 2,nL 3,nL 4,nR 5,nL 6,nR 7,nL 8,nL 9,nL 10,nL 11,nL 12,nL 13,nL 14,nL 15,nL 16,nL 17,nL 18,nL 19,nL 20,nL 21,nL 22,nL 23,nR 24,bK [.nilPtr,.nilPtr,.bool true,.i64 0]]:=by
 refine ap (by kernel_rfl) (fn:=Tryz.f41) Tryz.func41 rfl (by show 2≤39;decide) (ae ?_)
 simp only[go_sem,seval,Tryz.ntmps41]
 refine aY 26 ?_
 simp only[go_sem,seval,BitVec.reduceHShiftRight,Int.cast_ofNat_Int]
 iterate 25 refine And.intro (by first|trivial|kernel_rfl) ?_
 exact Fin.ren [0,1,2,3,4,5,6,7,8,9,10,11,12,13,14,15,16,17,18,19,20,21,22,23,24] (by simp) (by simp) (by rfl) (by decide) (by simp) (by simp)
theorem Ha (k:Int)(hk01:k=0∨k=1)(d:DS)(p:PS)(q:List ac)(hb:d.best=2)(hk:p.knows=1∨p.knows=2)(hq:q.length=32)(hpub:p.pub=ai q)(hpsk:p.psk.length=32)(hown:d.own.length=32)(hseed:d.seed.length=32)(hn:0≤d.now)(hn2:d.now≤1099511627776)(hat:p.at_≠0#32)(hf:0≤d.firsts)(hf2:d.firsts≤1000)
  (src:BitVec 32) {x:List ac} (hx:x.length≤1000) (l u:Int) (o:Bool) (wt:Bool) (hl:0≤l∧l≤1099511627776) (hu:0≤u∧u≤1099511627776):
  ag Tryz.prog 26 [.ptr 0 0,.u32 src,.u32 (if k=0 then 167772160#32 else 167772416#32),.str x] [bK (d.cs .nilSlice .nilSlice),bK [.ptr 4 0],bK [.ptr 6 0,.nilPtr,.bool false,.i64 0,.i64 1],none,bK (p.cs .nilSlice .nilPtr .nilPtr (.nilPtr) .nilPtr),bK [.bool wt,.i64 0,.i64 l,.bool o,.i64 u],nL 7,nL 8,nL 9,nR 10,nL 11,nR 12,nL 13,nL 14,nL 15,nL 16,nL 17,nL 18,nL 19,nL 20,nL 21,nL 22,nL 23,nL 24,nL 25,nL 26,nL 27,nL 28,bK [if k=0 then .ptr 29 0 else .nilPtr,if k=0 then .nilPtr else .ptr 29 0,.bool false,.i64 0],bK [.nilPtr,.nilPtr,.bool true,.i64 0]] (.i64 0)
   [bK ({d with fresh:=d.fresh+1#64,index:=d.index+1#32,firsts:=d.firsts+1}.cs (.slice 32 0 1 3) .nilSlice),bK [.ptr 4 0],bK [.ptr 6 0,.nilPtr,.bool false,.i64 0,.i64 1],none,bK ({p with bix:=d.index+1#32,btx:=marked p.pub (fT p.knows q d.keyV d.own d.now d.firsts 2 (d.index+1#32))}.cs (.slice 30 0 1 1) (.ptr 31 0) .nilPtr (.nilPtr) .nilPtr),bK [.bool true,.i64 1,.i64 d.now,.bool o,.i64 u],nL 7,nL 8,nL 9,nR 10,nL 11,nR 12,nL 13,nL 14,nL 15,nL 16,nL 17,nL 18,nL 19,nL 20,nL 21,nL 22,nL 23,nL 24,nL 25,nL 26,nL 27,nL 28,bK [if k=0 then .ptr 29 0 else .nilPtr,if k=0 then .nilPtr else .ptr 29 0,.bool false,.i64 0],bK [.nilPtr,.nilPtr,.bool true,.i64 0],
    bK [.str (ar (src.setWidth 64).toNat 4++x)],bK ((aS p.knows q d.keyV d.own d.now d.firsts 2).cs p.knows++[.i64 p.knows,.str d.own,.str (ai q),.str p.psk,.str d.keyV,.u32 (d.index+1#32)]),bK [.u32 d.here,.u32 p.at_,.str (marked p.pub (fT p.knows q d.keyV d.own d.now d.firsts 2 (d.index+1#32)))]]:=by
 have hx':¬ (1000:Int)<x.length:=by omega
 have hD:=F2 d p q hb hk hq hpub hpsk hown hseed hn hn2 hat hf hf2 0 l u o true (by decide) (by decide) hl hu (by unfold gn;rw[if_pos ⟨rfl,rfl⟩])
 have hU:=IW d p [] .nilSlice .nilPtr .nilPtr .nilPtr
 have hE:=gL wt 0 l o u 3 d.now (by decide) (by decide) (by unfold fO;omega)
 rw[show tW wt 3=true from rfl,show tT 0 3=0 from rfl,show tL l 3 d.now=l from rfl,show tO o 3=o from rfl,show tU o u 3 d.now=u from rfl] at hE
 have hA:=q8 (src.setWidth 64)
 have hF:ag Tryz.prog 41 [.ptr 0 0,.u32 (if k=0 then 167772160#32 else 167772416#32)] [bK [.ptr 1 0,.nilPtr,.bool false,.i64 0,.i64 1],nL 2,nL 3,nL 4,nR 5,nL 6,nR 7,nL 8,nL 9,nL 10,nL 11,nL 12,nL 13,nL 14,nL 15,nL 16,nL 17,nL 18,nL 19,nL 20,nL 21,nL 22,nL 23,bK [if k=0 then .ptr 24 0 else .nilPtr,if k=0 then .nilPtr else .ptr 24 0,.bool false,.i64 0],bK [.nilPtr,.nilPtr,.bool true,.i64 0]] (.tup [.i64 0,.bool true]) [bK [.ptr 1 0,.nilPtr,.bool false,.i64 0,.i64 1],nL 2,nL 3,nL 4,nR 5,nL 6,nR 7,nL 8,nL 9,nL 10,nL 11,nL 12,nL 13,nL 14,nL 15,nL 16,nL 17,nL 18,nL 19,nL 20,nL 21,nL 22,nL 23,bK [if k=0 then .ptr 24 0 else .nilPtr,if k=0 then .nilPtr else .ptr 24 0,.bool false,.i64 0],bK [.nilPtr,.nilPtr,.bool true,.i64 0]]:=by
  rcases hk01 with rfl|rfl
  ·exact n6
  ·exact n7
 generalize (if k=0 then 167772160#32 else 167772416#32:BitVec 32)=dst at*
 have e0:∃ (ty:TypeId) (h c k:List ac) (n:BitVec 64),(aS p.knows q d.keyV d.own d.now d.firsts 2).cs p.knows=[.iface ty (.agg []),.str h,.str c,.str k,.u64 n]:=⟨_,_,_,_,_,rfl⟩
 generalize (aS p.knows q d.keyV d.own d.now d.firsts 2).cs p.knows=c5 at*
 generalize marked p.pub (fT p.knows q d.keyV d.own d.now d.firsts 2 (d.index+1#32))=mk at*
 unfold PS.cs DS.cs at*
 generalize d.keyV=once at*
 obtain⟨ty5,h5,k5,g5,m5,rfl⟩:=e0
 have bl:=aW (src.setWidth 64).toNat 4
 generalize ar (src.setWidth 64).toNat 4=bb at*
 have etk:List.take 4 (bb.map V.u8)=bb.map V.u8:=List.take_of_length_le (by rw[List.length_map];omega)
 dsimp only at*
 rcases hk01 with rfl|rfl
 all_goals
  simp only[seval,show ¬ (1:Int)=0 by decide] at*
  refine ap (by kernel_rfl) (fn:=Tryz.f26) Tryz.func26 rfl (by show 4≤80;decide) (ae ?_)
  simp only[go_sem,seval,Tryz.ntmps26,hx']
  refine aq [2,6,7,8,9,10,11,12,13,14,15,16,17,18,19,20,21,22,23,24,25,26,27,28,29] (hF) (by kernel_rfl) (by simp) rfl (by simp) (by first|decide|simp) (by simp) (by simp) (by simp) (by simp) (by simp) ?_
  simp only[go_sem,seval]
  repeat refine aI ?_
  refine aq [] (hA) (by kernel_rfl) (by simp) rfl (by simp) (by first|decide|simp) (by simp) (by simp) (by simp) (by simp) (by simp) ?_
  simp only[go_sem,seval,bl,etk]
  repeat refine aI ?_
  refine bC [0,1,2,3,4,5] (hU) (by kernel_rfl) (by simp) rfl (by simp) (by first|decide|simp) (by simp) (by simp) (by simp) (by simp) ?_
  simp only[go_sem,seval]
  repeat refine aI ?_
  refine bh [5] (hE) (by kernel_rfl) (by simp) rfl (by simp) (by first|decide|simp) (by simp) (by simp) (by simp) (by simp) (by simp) ?_
  simp only[go_sem,seval]
  repeat refine aI ?_
  refine bC [0,1,2,3,4,5,32] (hD) (by kernel_rfl) (by simp) rfl (by simp) (by first|decide|simp) (by simp) (by simp) (by simp) (by simp) ?_
  simp only[go_sem,seval]
  repeat refine aI ?_
  exact Fin.ren [0,1,2,3,4,5,6,7,8,9,10,11,12,13,14,15,16,17,18,19,20,21,22,23,24,25,26,27,28,29,32,33,34] (by simp) (by simp) (by rfl) (by decide) (by simp) (by simp)
theorem Hb (k:Int)(hk01:k=0∨k=1)(d:DS)(p:PS)(q:List ac)(hb:d.best=2)(hk:p.knows=1∨p.knows=2)(hq:q.length=32)(hpub:p.pub=ai q)(hpsk:p.psk.length=32)(hown:d.own.length=32)(hseed:d.seed.length=32)(hn:0≤d.now)(hn2:d.now≤1099511627776)(hat:p.at_≠0#32)(hf:0≤d.firsts)(hf2:d.firsts≤1000)
  (src:BitVec 32) {x:List ac} (hx:x.length≤1000) (l u:Int) (o:Bool) (wt:Bool) (hl:0≤l∧l≤1099511627776) (hu:0≤u∧u≤1099511627776) (sd rc:List ac) (su bo se:Int) (fs:Bool) (nx:Int) (bits:BitVec 64) (mine theirs:BitVec 32) (hbo:0≤bo) (hbo2:bo≤1099511627776) (hov:fN bo se d.now=true):
  ag Tryz.prog 26 [.ptr 0 0,.u32 src,.u32 (if k=0 then 167772160#32 else 167772416#32),.str x] [bK (d.cs .nilSlice .nilSlice),bK [.ptr 4 0],bK [.ptr 6 0,.nilPtr,.bool false,.i64 0,.i64 1],none,bK (p.cs .nilSlice .nilPtr .nilPtr (.ptr 30 0) .nilPtr),bK [.bool wt,.i64 0,.i64 l,.bool o,.i64 u],nL 7,nL 8,nL 9,nR 10,nL 11,nR 12,nL 13,nL 14,nL 15,nL 16,nL 17,nL 18,nL 19,nL 20,nL 21,nL 22,nL 23,nL 24,nL 25,nL 26,nL 27,nL 28,bK [if k=0 then .ptr 29 0 else .nilPtr,if k=0 then .nilPtr else .ptr 29 0,.bool false,.i64 0],bK [.nilPtr,.nilPtr,.bool true,.i64 0],some ⟨false,[.ptr 31 0,.i64 su,.u32 mine,.u32 theirs],some ⟨[],0⟩⟩,bK [.ptr 32 0,.str sd,.str rc,.i64 su,.i64 bo,.i64 se,.bool fs],bK [.i64 nx,.u64 bits]] (.i64 0)
   [bK ({d with fresh:=d.fresh+1#64,index:=d.index+1#32,firsts:=d.firsts+1}.cs (.slice 35 0 1 3) .nilSlice),bK [.ptr 4 0],bK [.ptr 6 0,.nilPtr,.bool false,.i64 0,.i64 1],none,bK ({p with bix:=d.index+1#32,btx:=marked p.pub (fT p.knows q d.keyV d.own d.now d.firsts 2 (d.index+1#32))}.cs (.slice 33 0 1 1) (.ptr 34 0) .nilPtr (.ptr 30 0) .nilPtr),bK [.bool true,.i64 1,.i64 d.now,.bool o,.i64 u],nL 7,nL 8,nL 9,nR 10,nL 11,nR 12,nL 13,nL 14,nL 15,nL 16,nL 17,nL 18,nL 19,nL 20,nL 21,nL 22,nL 23,nL 24,nL 25,nL 26,nL 27,nL 28,bK [if k=0 then .ptr 29 0 else .nilPtr,if k=0 then .nilPtr else .ptr 29 0,.bool false,.i64 0],bK [.nilPtr,.nilPtr,.bool true,.i64 0],some ⟨false,[.ptr 31 0,.i64 su,.u32 mine,.u32 theirs],some ⟨[],0⟩⟩,bK [.ptr 32 0,.str sd,.str rc,.i64 su,.i64 bo,.i64 se,.bool fs],bK [.i64 nx,.u64 bits],
    bK [.str (ar (src.setWidth 64).toNat 4++x)],bK ((aS p.knows q d.keyV d.own d.now d.firsts 2).cs p.knows++[.i64 p.knows,.str d.own,.str (ai q),.str p.psk,.str d.keyV,.u32 (d.index+1#32)]),bK [.u32 d.here,.u32 p.at_,.str (marked p.pub (fT p.knows q d.keyV d.own d.now d.firsts 2 (d.index+1#32)))]]:=by
 have hx':¬ (1000:Int)<x.length:=by omega
 have hD:=F3 d p q hb hk hq hpub hpsk hown hseed hn hn2 hat hf hf2 0 l u o true (by decide) (by decide) hl hu (by unfold gn;rw[if_pos ⟨rfl,rfl⟩])
 have hU:=vR d p [] .nilSlice .nilPtr .nilPtr .nilPtr sd rc su bo se fs nx bits mine theirs hbo hbo2 false (by rw[hov];rfl)
 have hE:=gL wt 0 l o u 3 d.now (by decide) (by decide) (by unfold fO;omega)
 rw[show tW wt 3=true from rfl,show tT 0 3=0 from rfl,show tL l 3 d.now=l from rfl,show tO o 3=o from rfl,show tU o u 3 d.now=u from rfl] at hE
 have hA:=q8 (src.setWidth 64)
 have hF:ag Tryz.prog 41 [.ptr 0 0,.u32 (if k=0 then 167772160#32 else 167772416#32)] [bK [.ptr 1 0,.nilPtr,.bool false,.i64 0,.i64 1],nL 2,nL 3,nL 4,nR 5,nL 6,nR 7,nL 8,nL 9,nL 10,nL 11,nL 12,nL 13,nL 14,nL 15,nL 16,nL 17,nL 18,nL 19,nL 20,nL 21,nL 22,nL 23,bK [if k=0 then .ptr 24 0 else .nilPtr,if k=0 then .nilPtr else .ptr 24 0,.bool false,.i64 0],bK [.nilPtr,.nilPtr,.bool true,.i64 0]] (.tup [.i64 0,.bool true]) [bK [.ptr 1 0,.nilPtr,.bool false,.i64 0,.i64 1],nL 2,nL 3,nL 4,nR 5,nL 6,nR 7,nL 8,nL 9,nL 10,nL 11,nL 12,nL 13,nL 14,nL 15,nL 16,nL 17,nL 18,nL 19,nL 20,nL 21,nL 22,nL 23,bK [if k=0 then .ptr 24 0 else .nilPtr,if k=0 then .nilPtr else .ptr 24 0,.bool false,.i64 0],bK [.nilPtr,.nilPtr,.bool true,.i64 0]]:=by
  rcases hk01 with rfl|rfl
  ·exact n6
  ·exact n7
 generalize (if k=0 then 167772160#32 else 167772416#32:BitVec 32)=dst at*
 have e0:∃ (ty:TypeId) (h c k:List ac) (n:BitVec 64),(aS p.knows q d.keyV d.own d.now d.firsts 2).cs p.knows=[.iface ty (.agg []),.str h,.str c,.str k,.u64 n]:=⟨_,_,_,_,_,rfl⟩
 generalize (aS p.knows q d.keyV d.own d.now d.firsts 2).cs p.knows=c5 at*
 generalize marked p.pub (fT p.knows q d.keyV d.own d.now d.firsts 2 (d.index+1#32))=mk at*
 unfold PS.cs DS.cs at*
 generalize d.keyV=once at*
 obtain⟨ty5,h5,k5,g5,m5,rfl⟩:=e0
 have bl:=aW (src.setWidth 64).toNat 4
 generalize ar (src.setWidth 64).toNat 4=bb at*
 have etk:List.take 4 (bb.map V.u8)=bb.map V.u8:=List.take_of_length_le (by rw[List.length_map];omega)
 dsimp only at*
 rcases hk01 with rfl|rfl
 all_goals
  simp only[seval,show ¬ (1:Int)=0 by decide] at*
  refine ap (by kernel_rfl) (fn:=Tryz.f26) Tryz.func26 rfl (by show 4≤80;decide) (ae ?_)
  simp only[go_sem,seval,Tryz.ntmps26,hx']
  refine aq [2,6,7,8,9,10,11,12,13,14,15,16,17,18,19,20,21,22,23,24,25,26,27,28,29] (hF) (by kernel_rfl) (by simp) rfl (by simp) (by first|decide|simp) (by simp) (by simp) (by simp) (by simp) (by simp) ?_
  simp only[go_sem,seval]
  repeat refine aI ?_
  refine aq [] (hA) (by kernel_rfl) (by simp) rfl (by simp) (by first|decide|simp) (by simp) (by simp) (by simp) (by simp) (by simp) ?_
  simp only[go_sem,seval,bl,etk]
  repeat refine aI ?_
  refine bC [0,1,2,3,4,5,30,31,32] (hU) (by kernel_rfl) (by simp) rfl (by simp) (by first|decide|simp) (by simp) (by simp) (by simp) (by simp) ?_
  simp only[go_sem,seval]
  repeat refine aI ?_
  refine bh [5] (hE) (by kernel_rfl) (by simp) rfl (by simp) (by first|decide|simp) (by simp) (by simp) (by simp) (by simp) (by simp) ?_
  simp only[go_sem,seval]
  repeat refine aI ?_
  refine bC [0,1,2,3,4,5,30,35] (hD) (by kernel_rfl) (by simp) rfl (by simp) (by first|decide|simp) (by simp) (by simp) (by simp) (by simp) ?_
  simp only[go_sem,seval]
  repeat refine aI ?_
  exact Fin.ren [0,1,2,3,4,5,6,7,8,9,10,11,12,13,14,15,16,17,18,19,20,21,22,23,24,25,26,27,28,29,30,31,32,35,36,37] (by simp) (by simp) (by rfl) (by decide) (by simp) (by simp)
theorem KO (k:Int)(hk01:k=0∨k=1)(d:DS)(p:PS){su:Int}(hs:su=1∨su=2){sd:List ac}(rc:List ac)(hk:sd.length=32)(bo se:Int)(fs:Bool)(next:Int)(bits:BitVec 64)(mine theirs:BitVec 32)(hn:0≤d.now)(hn2:d.now≤1099511627776)(hb:0≤bo)(hb2:bo≤1099511627776)(hnb:d.now<bo+120)(hse:0≤se)(hse2:se<900)(hat:p.at_≠0#32)
  (src:BitVec 32) {x:List ac} (hx:x.length≤1000) (t l u:Int) (o:Bool) (ht:0≤t) (ht2:t≤1000) (hl:0≤l∧l≤1099511627776) (hu:0≤u∧u≤1099511627776):
  ag Tryz.prog 26 [.ptr 0 0,.u32 src,.u32 (if k=0 then 167772160#32 else 167772416#32),.str x] [bK (d.cs .nilSlice .nilSlice),bK [.ptr 4 0],bK [.ptr 6 0,.nilPtr,.bool false,.i64 0,.i64 1],none,bK (p.cs .nilSlice .nilPtr (.ptr 33 0) (.ptr 30 0) .nilPtr),bK [.bool false,.i64 t,.i64 l,.bool o,.i64 u],nL 7,nL 8,nL 9,nR 10,nL 11,nR 12,nL 13,nL 14,nL 15,nL 16,nL 17,nL 18,nL 19,nL 20,nL 21,nL 22,nL 23,nL 24,nL 25,nL 26,nL 27,nL 28,bK [if k=0 then .ptr 29 0 else .nilPtr,if k=0 then .nilPtr else .ptr 29 0,.bool false,.i64 0],bK [.nilPtr,.nilPtr,.bool true,.i64 0],some ⟨false,[.ptr 31 0,.i64 su,.u32 mine,.u32 theirs],some ⟨[],0⟩⟩,bK [.ptr 32 0,.str sd,.str rc,.i64 su,.i64 bo,.i64 se,.bool fs],bK [.i64 next,.u64 bits],none] (.i64 0)
   [bK (d.cs (.slice 34 0 1 3) .nilSlice),bK [.ptr 4 0],bK [.ptr 6 0,.nilPtr,.bool false,.i64 0,.i64 1],none,bK (p.cs .nilSlice .nilPtr (.ptr 33 0) (.ptr 30 0) .nilPtr),bK [.bool false,.i64 t,.i64 l,.bool false,.i64 u],nL 7,nL 8,nL 9,nR 10,nL 11,nR 12,nL 13,nL 14,nL 15,nL 16,nL 17,nL 18,nL 19,nL 20,nL 21,nL 22,nL 23,nL 24,nL 25,nL 26,nL 27,nL 28,bK [if k=0 then .ptr 29 0 else .nilPtr,if k=0 then .nilPtr else .ptr 29 0,.bool false,.i64 0],bK [.nilPtr,.nilPtr,.bool true,.i64 0],some ⟨false,[.ptr 31 0,.i64 su,.u32 mine,.u32 theirs],some ⟨[],0⟩⟩,bK [.ptr 32 0,.str sd,.str rc,.i64 su,.i64 bo,.i64 (se+1),.bool fs],bK [.i64 next,.u64 bits],none,
    bK [.u32 d.here,.u32 p.at_,.str (bu theirs se (aZ su sd se (ar (src.setWidth 64).toNat 4++x)))]]:=by
 have hx':¬ (1000:Int)<x.length:=by omega
 have bl:=aW (src.setWidth 64).toNat 4
 have hov:fN bo se d.now=false:=by
  unfold fN
  rw[if_neg (show ¬ bo+180≤d.now by omega)]
  simp;omega
 have hU:=vR d p [none] .nilSlice .nilPtr (.ptr 9 0) .nilPtr sd rc su bo se fs next bits mine theirs hb hb2 true (by rw[hov];rfl)
 have hS:=BZ d p hs rc hk bo se fs next bits mine theirs (x:=ar (src.setWidth 64).toNat 4++x) (by rw[List.length_append];omega) hn hn2 hb hb2 hnb hse hse2 hat t l u o false ht ht2
 have hD:=yb d p [none,none,none] (.slice 6 0 1 3) .nilSlice .nilPtr (.ptr 7 0) (.ptr 8 0) .nilPtr false t l false u hl hu (by unfold gn;simp)
 have hA:=q8 (src.setWidth 64)
 have hF:ag Tryz.prog 41 [.ptr 0 0,.u32 (if k=0 then 167772160#32 else 167772416#32)] [bK [.ptr 1 0,.nilPtr,.bool false,.i64 0,.i64 1],nL 2,nL 3,nL 4,nR 5,nL 6,nR 7,nL 8,nL 9,nL 10,nL 11,nL 12,nL 13,nL 14,nL 15,nL 16,nL 17,nL 18,nL 19,nL 20,nL 21,nL 22,nL 23,bK [if k=0 then .ptr 24 0 else .nilPtr,if k=0 then .nilPtr else .ptr 24 0,.bool false,.i64 0],bK [.nilPtr,.nilPtr,.bool true,.i64 0]] (.tup [.i64 0,.bool true]) [bK [.ptr 1 0,.nilPtr,.bool false,.i64 0,.i64 1],nL 2,nL 3,nL 4,nR 5,nL 6,nR 7,nL 8,nL 9,nL 10,nL 11,nL 12,nL 13,nL 14,nL 15,nL 16,nL 17,nL 18,nL 19,nL 20,nL 21,nL 22,nL 23,bK [if k=0 then .ptr 24 0 else .nilPtr,if k=0 then .nilPtr else .ptr 24 0,.bool false,.i64 0],bK [.nilPtr,.nilPtr,.bool true,.i64 0]]:=by
  rcases hk01 with rfl|rfl
  ·exact n6
  ·exact n7
 generalize (if k=0 then 167772160#32 else 167772416#32:BitVec 32)=dst at*
 generalize bu theirs se (aZ su sd se (ar (src.setWidth 64).toNat 4++x))=z at*
 unfold PS.cs DS.cs at*
 generalize ar (src.setWidth 64).toNat 4=bb at*
 have etk:List.take 4 (bb.map V.u8)=bb.map V.u8:=List.take_of_length_le (by rw[List.length_map];omega)
 dsimp only at*
 rcases hk01 with rfl|rfl
 all_goals
  simp only[seval,show ¬ (1:Int)=0 by decide] at*
  refine ap (by kernel_rfl) (fn:=Tryz.f26) Tryz.func26 rfl (by show 4≤80;decide) (ae ?_)
  simp only[go_sem,seval,Tryz.ntmps26,hx']
  refine aq [2,6,7,8,9,10,11,12,13,14,15,16,17,18,19,20,21,22,23,24,25,26,27,28,29] (hF) (by kernel_rfl) (by simp) rfl (by simp) (by first|decide|simp) (by simp) (by simp) (by simp) (by simp) (by simp) ?_
  simp only[go_sem,seval]
  repeat refine aI ?_
  refine aq [] (hA) (by kernel_rfl) (by simp) rfl (by simp) (by first|decide|simp) (by simp) (by simp) (by simp) (by simp) (by simp) ?_
  simp only[go_sem,seval,bl,etk]
  repeat refine aI ?_
  refine bC [0,1,2,3,4,5,30,31,32,33] (hU) (by kernel_rfl) (by simp) rfl (by simp) (by first|decide|simp) (by simp) (by simp) (by simp) (by simp) ?_
  simp only[go_sem,seval]
  repeat refine aI ?_
  refine bC [0,1,2,3,4,5,30,31,32,33] (hS) (by kernel_rfl) (by simp) rfl (by simp) (by first|decide|simp) (by simp) (by simp) (by simp) (by simp) ?_
  simp only[go_sem,seval]
  repeat refine aI ?_
  refine bC [0,1,2,3,4,5,35,33,30] (hD) (by kernel_rfl) (by simp) rfl (by simp) (by first|decide|simp) (by simp) (by simp) (by simp) (by simp) ?_
  simp only[go_sem,seval]
  repeat refine aI ?_
  exact Fin.ren [0,1,2,3,4,5,6,7,8,9,10,11,12,13,14,15,16,17,18,19,20,21,22,23,24,25,26,27,28,29,30,31,32,33,35] (by simp) (by simp) (by rfl) (by decide) (by simp) (by simp)
theorem B4 (id:BitVec 32):BitVec.ofNat 64 (le (cd id))=id.setWidth 64:=by
 have h:=congrArg BitVec.toNat (sP id)
 have hb:le (cd id)<4294967296:=by
  have :=oG (cd id)
  rw[b8] at this
  exact this
 apply BitVec.eq_of_toNat_eq
 rw[BitVec.toNat_setWidth,BitVec.toNat_ofNat] at*
 have :=id.isLt
 omega
theorem zN (d:DS)(p:PS)(T:List (Option Blk))(waits:V)(B:Nat)(old ses next:V):
  ag Tryz.prog 100 [.ptr 0 0,.str (cd p.bix)] (bK (d.cs .nilSlice .nilSlice)::bK [.ptr 4 0]::none::none::bK (p.cs waits (.ptr B 0) old ses next)::T) (.ptr 4 0) (bK (d.cs .nilSlice .nilSlice)::bK [.ptr 4 0]::none::none::bK (p.cs waits (.ptr B 0) old ses next)::T):=by
 have h4:List.take 4 (cd p.bix)=cd p.bix:=List.take_of_length_le (by rw[b8];decide)
 have hl:=eT (cd p.bix) (by rw[b8];decide)
 rw[List.take_of_length_le (by rw[b8];decide),B4] at hl
 have hxl:=b8 p.bix
 generalize cd p.bix=s at*
 unfold PS.cs DS.cs
 refine ap (by kernel_rfl) (fn:=Tryz.f100) Tryz.func100 rfl (by show 2≤34;decide) (ae ?_)
 simp -implicitDefEqProofs only[go_sem,seval,Tryz.ntmps100]
 refine aY 2 ?_
 simp -implicitDefEqProofs only[go_sem,seval,hxl,h4]
 refine aH (hl) ?_
 simp -implicitDefEqProofs only[go_sem,seval]
 repeat refine aI ?_
 exact Fin.id (s:=⟨_,_⟩) (Nat.le_refl _)
theorem IZ (d:DS)(p:PS){su:Int}(hs:su=1∨su=2)(hpin:p.pin=1)(hpub:d.pub.length=32)(hsec:d.secret.length=32)(hpsk:p.psk.length=32)(hown:d.own.length=32)(hn:0≤d.now)(hn2:d.now≤1099511627776){S:HS}(hS:S.ok){e once:List ac}(he:e.length=32)(ho:once.length=32)(peer:List ac)(id2 fr:BitVec 32)(hfr:fr≠0#32)
  {x:List ac} (hx:x.length≤2000) (t l u:Int) (o wt:Bool) (ht:0≤t) (ht2:t≤1000):
  ag Tryz.prog 68 [.ptr 0 0,.u32 fr,.str (marked d.pub (bd su S e once d.own p.psk 2 id2 p.bix))] [bK (d.cs .nilSlice .nilSlice),bK [.ptr 4 0],none,none,bK (p.cs (.slice 6 0 1 1) (.ptr 7 0) .nilPtr (.nilPtr) .nilPtr),bK [.bool wt,.i64 t,.i64 l,.bool o,.i64 u],bK [.str x],bK (S.cs su++[.i64 su,.str d.own,.str peer,.str p.psk,.str once,.u32 p.bix])] (.i64 0)
   [bK (d.cs (.slice 11 0 1 3) .nilSlice),bK [.ptr 4 0],none,none,bK ({p with knows:=2,pin:=su,at_:=fr}.cs .nilSlice .nilPtr (.nilPtr) (.ptr 10 0) .nilPtr),bK [.bool false,.i64 0,.i64 l,.bool false,.i64 u],none,none,
    bK [.i64 0,.u64 0#64],bK [.ptr 8 0,.str (gK su S e once d.own p.psk 2 0),.str (gK su S e once d.own p.psk 2 1),.i64 su,.i64 d.now,.i64 1,.bool true],some ⟨false,[.ptr 9 0,.i64 su,.u32 p.bix,.u32 id2],some ⟨[],0⟩⟩,bK [.u32 d.here,.u32 fr,.str (bu id2 0 (aZ su (gK su S e once d.own p.psk 2 0) 0 x))]]:=by
 obtain⟨ck,hck,hC⟩:=qS d hsec hn hn2 fr
 have hlen:(bd su S e once d.own p.psk 2 id2 p.bix).length=59:=(ml (k:=2#8) (s:=BitVec.ofInt 8 su) (b8 id2) (b8 p.bix) (bw e) (km hs hS hpsk)).1
 obtain⟨bb,hK⟩:=rV d.pub ck (bd su S e once d.own p.psk 2 id2 p.bix) hpub hck (by omega)
 have h610:List.drop 6 (List.take 10 (bd su S e once d.own p.psk 2 id2 p.bix))=cd p.bix:=(ml (k:=2#8) (s:=BitVec.ofInt 8 su) (b8 id2) (b8 p.bix) (bw e) (km hs hS hpsk)).2.1
 have hlt:¬ ((bd su S e once d.own p.psk 2 id2 p.bix).length:Int)<10:=by omega
 have hle:(10:Int)≤((bd su S e once d.own p.psk 2 id2 p.bix).length:Int):=by omega
 have hb1:(((bd su S e once d.own p.psk 2 id2 p.bix).getD 1 0).toNat:Int)=su:=by rcases hs with rfl|rfl<;>rfl
 have emx:(if 1<su then su else 1)=su:=by split <;>omega
 have hI:=zN d p [none,none,none] (.slice 6 0 1 1) 7 .nilPtr (.nilPtr) .nilPtr
 have hF:=AW (best:=2) (id:=p.bix) (id2:=id2) hs (.inr rfl) hS he ho hown hpsk peer
 have hM:=tl su hs (gK su S e once d.own p.psk 2 0) (gK su S e once d.own p.psk 2 1) (gJ hs hS hpsk (by decide)) (gJ hs hS hpsk (by decide)) d.now hn hn2 true p.bix id2
 have hE:=gL wt t l o u 5 d.now ht (by omega) (by unfold fO;omega)
 rw[show tW wt 5=false from rfl,show tT t 5=0 from rfl,show tL l 5 d.now=l from rfl,show tO o 5=o from rfl,show tU o u 5 d.now=u from rfl] at hE
 have hL:=IX d {p with knows:=2,pin:=su,at_:=fr} hs (sd:=gK su S e once d.own p.psk 2 0) (gK su S e once d.own p.psk 2 1) (gJ hs hS hpsk (by decide)) d.now 0 true 0 0#64 p.bix id2 hx hn hn2 hn hn2 (by omega) (by decide) (by decide) hfr 0 l u o false (by decide) (by decide)
 have e0:∃ (ty:TypeId) (h c k:List ac) (n:BitVec 64),S.cs su=[.iface ty (.agg []),.str h,.str c,.str k,.u64 n]:=⟨_,_,_,_,_,rfl⟩
 generalize S.cs su=c5 at*
 generalize gK su S e once d.own p.psk 2 0=k0 at*
 generalize gK su S e once d.own p.psk 2 1=k1 at*
 generalize bu id2 0 (aZ su k0 0 x)=z at*
 generalize bd su S e once d.own p.psk 2 id2 p.bix=msg at*
 generalize marked d.pub msg=mk at*
 unfold PS.cs DS.cs lS at*
 obtain⟨ty5,h5,k5,g5,m5,rfl⟩:=e0
 dsimp only at*
 have h1:¬ (su<1):=by omega
 refine ap (by kernel_rfl) (fn:=Tryz.f68) Tryz.func68 rfl (by show 3≤131;decide) (ae ?_)
 simp only[go_sem,↓reduceIte,Nat.reduceEqDiff,Nat.reduceLT,Nat.reduceAdd,reduceCtorEq,Tryz.ntmps68]
 refine qI [0,1,2,3] (hC) (by kernel_rfl) (by simp) rfl (by simp) (by first|decide|simp) (by simp) (by simp) (by simp) (by simp) (by simp[go_sem,dj,-List.map_map,-List.map_set]) ?_
 simp only[go_sem,↓reduceIte,Nat.reduceEqDiff,Nat.reduceLT,Nat.reduceAdd,Nat.reduceSub,reduceCtorEq]
 repeat refine aI ?_
 refine aH (hK) ?_
 simp only[go_sem,↓reduceIte,Nat.reduceEqDiff,Nat.reduceLT,Nat.reduceAdd,Int.reduceLE,Int.reduceToNat,reduceCtorEq,hlt,hle,h610]
 repeat refine aJ ?_
 refine bC [0,1,2,3,4,5,6,7] (hI) (by kernel_rfl) (by simp) rfl (by simp) (by first|decide|simp) (by simp) (by simp) (by simp) (by simp) ?_
 simp only[go_sem,↓reduceIte,Nat.reduceEqDiff,Nat.reduceLT,Nat.reduceAdd,Nat.reduceSub]
 repeat refine aI ?_
 refine aq [7] (hF) (by kernel_rfl) (by simp) rfl (by simp) (by first|decide|simp) (by simp) (by simp) (by simp) (by simp) (by simp) ?_
 simp only[go_sem,↓reduceIte,Nat.reduceEqDiff,Nat.reduceLT,Nat.reduceLeDiff,Nat.reduceAdd,Nat.reduceSub,Int.reduceLE,Int.reduceToNat,reduceCtorEq,hb1,h1,hpin,emx]
 repeat refine aI ?_
 refine bh [] (hM) (by kernel_rfl) (by simp) rfl (by simp) (by first|decide|simp) (by simp) (by simp) (by simp) (by simp) (by simp) ?_
 simp only[go_sem,↓reduceIte,Nat.reduceEqDiff,Nat.reduceLT,Nat.reduceLeDiff,Nat.reduceAdd,Nat.reduceSub,reduceCtorEq]
 repeat refine aI ?_
 refine bh [5] (hE) (by kernel_rfl) (by simp) rfl (by simp) (by first|decide|simp) (by simp) (by simp) (by simp) (by simp) (by simp) ?_
 simp only[go_sem,↓reduceIte,Nat.reduceEqDiff,Nat.reduceLT,Nat.reduceAdd,Nat.reduceSub,Int.reduceEq]
 repeat refine aI ?_
 refine bC [0,1,2,3,4,5,11,10,9,6] (hL) (by kernel_rfl) (by simp) rfl (by simp) (by first|decide|simp) (by simp) (by simp) (by simp) (by simp) ?_
 simp only[go_sem,↓reduceIte,Nat.reduceLT,Nat.reduceAdd,Nat.reduceSub,Int.reduceAdd]
 repeat refine aI ?_
 exact Fin.ren [0,1,2,3,4,5,6,7,9,10,11,12] (by simp) (by simp) (by rfl) (by decide) (by simp) (by simp)
theorem I0 (d:DS)(p:PS){su:Int}(hs:su=1∨su=2)(hpin:p.pin=1)(hpub:d.pub.length=32)(hsec:d.secret.length=32)(hpsk:p.psk.length=32)(hown:d.own.length=32)(hn:0≤d.now)(hn2:d.now≤1099511627776){S:HS}(hS:S.ok){e once:List ac}(he:e.length=32)(ho:once.length=32)(peer:List ac)(id2 fr:BitVec 32)(hfr:fr≠0#32)
  {x:List ac} (hx:x.length≤2000) (t l u:Int) (o wt:Bool) (ht:0≤t) (ht2:t≤1000):
  ag Tryz.prog 68 [.ptr 0 0,.u32 fr,.str (marked d.pub (bd su S e once d.own p.psk 2 id2 p.bix))] [bK (d.cs .nilSlice .nilSlice),bK [.ptr 4 0],none,none,bK (p.cs (.slice 7 0 1 1) (.ptr 8 0) .nilPtr (.ptr 6 0) .nilPtr),bK [.bool wt,.i64 t,.i64 l,.bool o,.i64 u],none,bK [.str x],bK (S.cs su++[.i64 su,.str d.own,.str peer,.str p.psk,.str once,.u32 p.bix])] (.i64 0)
   [bK (d.cs (.slice 12 0 1 3) .nilSlice),bK [.ptr 4 0],none,none,bK ({p with knows:=2,pin:=su,at_:=fr}.cs .nilSlice .nilPtr (.ptr 6 0) (.ptr 11 0) .nilPtr),bK [.bool false,.i64 0,.i64 l,.bool false,.i64 u],none,none,none,
    bK [.i64 0,.u64 0#64],bK [.ptr 9 0,.str (gK su S e once d.own p.psk 2 0),.str (gK su S e once d.own p.psk 2 1),.i64 su,.i64 d.now,.i64 1,.bool true],some ⟨false,[.ptr 10 0,.i64 su,.u32 p.bix,.u32 id2],some ⟨[],0⟩⟩,bK [.u32 d.here,.u32 fr,.str (bu id2 0 (aZ su (gK su S e once d.own p.psk 2 0) 0 x))]]:=by
 obtain⟨ck,hck,hC⟩:=qS d hsec hn hn2 fr
 have hlen:(bd su S e once d.own p.psk 2 id2 p.bix).length=59:=(ml (k:=2#8) (s:=BitVec.ofInt 8 su) (b8 id2) (b8 p.bix) (bw e) (km hs hS hpsk)).1
 obtain⟨bb,hK⟩:=rV d.pub ck (bd su S e once d.own p.psk 2 id2 p.bix) hpub hck (by omega)
 have h610:List.drop 6 (List.take 10 (bd su S e once d.own p.psk 2 id2 p.bix))=cd p.bix:=(ml (k:=2#8) (s:=BitVec.ofInt 8 su) (b8 id2) (b8 p.bix) (bw e) (km hs hS hpsk)).2.1
 have hlt:¬ ((bd su S e once d.own p.psk 2 id2 p.bix).length:Int)<10:=by omega
 have hle:(10:Int)≤((bd su S e once d.own p.psk 2 id2 p.bix).length:Int):=by omega
 have hb1:(((bd su S e once d.own p.psk 2 id2 p.bix).getD 1 0).toNat:Int)=su:=by rcases hs with rfl|rfl<;>rfl
 have emx:(if 1<su then su else 1)=su:=by split <;>omega
 have hI:=zN d p [none,none,none,none] (.slice 7 0 1 1) 8 .nilPtr (.ptr 6 0) .nilPtr
 have hF:=AW (best:=2) (id:=p.bix) (id2:=id2) hs (.inr rfl) hS he ho hown hpsk peer
 have hM:=tl su hs (gK su S e once d.own p.psk 2 0) (gK su S e once d.own p.psk 2 1) (gJ hs hS hpsk (by decide)) (gJ hs hS hpsk (by decide)) d.now hn hn2 true p.bix id2
 have hE:=gL wt t l o u 5 d.now ht (by omega) (by unfold fO;omega)
 rw[show tW wt 5=false from rfl,show tT t 5=0 from rfl,show tL l 5 d.now=l from rfl,show tO o 5=o from rfl,show tU o u 5 d.now=u from rfl] at hE
 have hL:=IY d {p with knows:=2,pin:=su,at_:=fr} hs (sd:=gK su S e once d.own p.psk 2 0) (gK su S e once d.own p.psk 2 1) (gJ hs hS hpsk (by decide)) d.now 0 true 0 0#64 p.bix id2 hx hn hn2 hn hn2 (by omega) (by decide) (by decide) hfr 0 l u o false (by decide) (by decide)
 have e0:∃ (ty:TypeId) (h c k:List ac) (n:BitVec 64),S.cs su=[.iface ty (.agg []),.str h,.str c,.str k,.u64 n]:=⟨_,_,_,_,_,rfl⟩
 generalize S.cs su=c5 at*
 generalize gK su S e once d.own p.psk 2 0=k0 at*
 generalize gK su S e once d.own p.psk 2 1=k1 at*
 generalize bu id2 0 (aZ su k0 0 x)=z at*
 generalize bd su S e once d.own p.psk 2 id2 p.bix=msg at*
 generalize marked d.pub msg=mk at*
 unfold PS.cs DS.cs lS at*
 obtain⟨ty5,h5,k5,g5,m5,rfl⟩:=e0
 dsimp only at*
 have h1:¬ (su<1):=by omega
 refine ap (by kernel_rfl) (fn:=Tryz.f68) Tryz.func68 rfl (by show 3≤131;decide) (ae ?_)
 simp only[go_sem,↓reduceIte,Nat.reduceEqDiff,Nat.reduceLT,Nat.reduceAdd,reduceCtorEq,Tryz.ntmps68]
 refine qI [0,1,2,3] (hC) (by kernel_rfl) (by simp) rfl (by simp) (by first|decide|simp) (by simp) (by simp) (by simp) (by simp) (by simp[go_sem,dj,-List.map_map,-List.map_set]) ?_
 simp only[go_sem,↓reduceIte,Nat.reduceEqDiff,Nat.reduceLT,Nat.reduceAdd,Nat.reduceSub,reduceCtorEq]
 repeat refine aI ?_
 refine aH (hK) ?_
 simp only[go_sem,↓reduceIte,Nat.reduceEqDiff,Nat.reduceLT,Nat.reduceAdd,Int.reduceLE,Int.reduceToNat,reduceCtorEq,hlt,hle,h610]
 repeat refine aJ ?_
 refine bC [0,1,2,3,4,5,6,7,8] (hI) (by kernel_rfl) (by simp) rfl (by simp) (by first|decide|simp) (by simp) (by simp) (by simp) (by simp) ?_
 simp only[go_sem,↓reduceIte,Nat.reduceEqDiff,Nat.reduceLT,Nat.reduceAdd,Nat.reduceSub]
 repeat refine aI ?_
 refine aq [8] (hF) (by kernel_rfl) (by simp) rfl (by simp) (by first|decide|simp) (by simp) (by simp) (by simp) (by simp) (by simp) ?_
 simp only[go_sem,↓reduceIte,Nat.reduceEqDiff,Nat.reduceLT,Nat.reduceLeDiff,Nat.reduceAdd,Nat.reduceSub,Int.reduceLE,Int.reduceToNat,reduceCtorEq,hb1,h1,hpin,emx]
 repeat refine aI ?_
 refine bh [] (hM) (by kernel_rfl) (by simp) rfl (by simp) (by first|decide|simp) (by simp) (by simp) (by simp) (by simp) (by simp) ?_
 simp only[go_sem,↓reduceIte,Nat.reduceEqDiff,Nat.reduceLT,Nat.reduceLeDiff,Nat.reduceAdd,Nat.reduceSub,reduceCtorEq]
 repeat refine aI ?_
 refine bh [5] (hE) (by kernel_rfl) (by simp) rfl (by simp) (by first|decide|simp) (by simp) (by simp) (by simp) (by simp) (by simp) ?_
 simp only[go_sem,↓reduceIte,Nat.reduceEqDiff,Nat.reduceLT,Nat.reduceAdd,Nat.reduceSub,Int.reduceEq]
 repeat refine aI ?_
 refine bC [0,1,2,3,4,5,12,11,10,6,7] (hL) (by kernel_rfl) (by simp) rfl (by simp) (by first|decide|simp) (by simp) (by simp) (by simp) (by simp) ?_
 simp only[go_sem,↓reduceIte,Nat.reduceLT,Nat.reduceAdd,Nat.reduceSub,Int.reduceAdd]
 repeat refine aI ?_
 exact Fin.ren [0,1,2,3,4,5,6,7,8,10,11,12,13] (by simp) (by simp) (by rfl) (by decide) (by simp) (by simp)
theorem VP:nh Tryz.prog 135=true:=by kernel_rfl
theorem Xa:al Tryz.prog 135=some 1:=by kernel_rfl
theorem VQ:aF Tryz.prog 135=some false:=by kernel_rfl
attribute [go_sem] VP Xa VQ
theorem vf:ag Tryz.prog 36 [] [] (.ptr 0 0) [bK [.i64 0,.map 1],some ⟨false,[],some ⟨[],0⟩⟩]:=by
 refine ap (by kernel_rfl) (fn:=Tryz.f36) Tryz.func36 rfl (by show 0≤4;decide) (ae ?_)
 simp only[go_sem,seval,Tryz.ntmps36,Tryz.results36]
 exact Fin.ren [1,0] (by simp) (by simp) (by rfl) (by decide) (by simp) (by simp)
theorem KP (k:BitVec 32)(n:Int):ao Tryz.prog 135 [.u32 k,.i64 n] (.bool (decide (5≤n))):=by
 refine aB (by kernel_rfl) (fn:=Tryz.f135) (by kernel_rfl) Tryz.func135 rfl (by show 2≤7;decide) (by simp[aa,V.low]) (by simp[V.low]) (ae ?_)
 simp only[go_sem,seval,Tryz.ntmps135,Tryz.results135]
def full (n:Int):Bool:=decide (5≤n)
def MapC.drop (m:MapC):MapC:=⟨m.es.filter fun e=>!full e.2.2,m.clock⟩
theorem Hd (m:MapC)(hm:m.ok):ag Tryz.prog 134 [.map 0,.fn 135 [] []] [some ⟨false,[],some m⟩] (.tup []) [some ⟨false,[],some m.drop⟩]:=by
 refine qZ (fn:=Tryz.f134) Tryz.func134 rfl (by show 2≤19;decide) ?_
 let M:List Nat→MapC:=fun seen=>⟨fH full m.es seen,m.clock⟩
 let J:List Nat→St:=fun seen=>⟨[(0,.map 0),(1,.fn 135 [] []),(7,.ptr 1 0)],[some ⟨false,[],some (M seen)⟩,none]⟩
 have hM0:M []=m:=by show(⟨fH full m.es [],m.clock⟩:MapC)=m;rw[FI]
 refine Pa (Q:=fo (fun s'=>ab s'.H 0=some ⟨false,[],some m.drop⟩∧1≤s'.H.length) fun _ _=>False) (yK (by kernel_rfl) (S1:=⟨[(6,.map 0),(0,.map 0),(1,.fn 135 [] [])],[some ⟨false,[],some m⟩]⟩) (pre:=[_]) (bm:=0) (fun _=>True) J M (ku m.es) rfl (by simp) (lI ?_) rfl (by rw[hM0];rfl) rfl rfl rfl (by decide) Tryz.underlying135 rfl rfl rfl (by decide) rfl rfl rfl rfl (by decide) trivial (fun seen _=>⟨fun e he=>?_,?_,Nat.le_refl _⟩) (fun seen _=>rfl) ?_ (fun seen=>rfl) (fun seen _ hall=>lI ?_) (fun seen e _ he hs=>⟨trivial,?_,lI ?_⟩)) ?_
 ·simp only[go_sem,seval]
 ·exact hm.below e ((List.mem_filter.1 he).1)
 ·exact List.Nodup.sublist (List.Sublist.map _ List.filter_sublist) hm.stamps
 ·refine Weak.drop ?_ rfl (fun b B h=>?_)
  ·simp[J,St.get,af,eB]
  ·simpa [J,hM0] using h
 ·have h2:M seen=m.drop:=by
   show(⟨fH full m.es seen,m.clock⟩:MapC)=⟨m.es.filter fun e=>!full e.2.2,m.clock⟩
   rw[FJ hall]
  simp only[go_sem,seval,J,h2]
 ·exact Ah ((List.mem_filter.1 he).1) hs
 ·have he0:e∈m.es:=(List.mem_filter.1 he).1
  have hM1:M (seen++[e.1])=if full e.2.2=true then(M seen).del e.2.1 else M seen:=by
   show(⟨fH full m.es (seen++[e.1]),m.clock⟩:MapC)=if full e.2.2=true then⟨jN e.2.1 (fH full m.es seen),m.clock⟩ else⟨fH full m.es seen,m.clock⟩
   rw[Fa hm he0 hs]
   split <;>rfl
  obtain⟨st,k,v⟩:=e
  simp only at hM1 hs
  simp only[go_sem,seval,J]
  refine lI ?_
  simp only[go_sem,seval]
  refine ae ?_
  simp only[go_sem,seval]
  refine ak (KP k v) ?_
  simp only[go_sem,seval]
  by_cases hv:5≤v
  ·have hf:full v=true:=decide_eq_true hv
   rw[if_pos hf] at hM1
   simp only[go_sem,seval,hv,hM1]
   refine⟨rfl,Weak.drop ?_ rfl (fun _ _ h=>h)⟩
   simp[St.get,af]
  ·have hf:¬ full v=true:=by unfold full;simp[hv]
   rw[if_neg hf] at hM1
   simp only[go_sem,seval,hv,hM1]
   refine⟨rfl,Weak.drop ?_ rfl (fun _ _ h=>h)⟩
   simp[St.get,af]
 ·intro x s' hx
  cases x
  case normal=>
   obtain⟨h1,h2⟩:=hx
   show Fin 1 (.tup []) [some ⟨false,[],some m.drop⟩] (.tup []) s'
   refine Fin.same (Nat.le_refl _) h2 trivial (fun b B h=>?_)
   cases b with
   |zero=>
    simp only[vu] at h
    injection h with h
    subst h
    exact⟨h1,trivial⟩
   |succ b=>simp[ab] at h
  all_goals exact hx.elim
def eF (d:Int)(l:List (Nat×BitVec 32×Int))(seen:List Nat):List (Nat×BitVec 32×Int):=l.map fun e=>if seen.contains e.1=true then(e.1,e.2.1,e.2.2+d) else e
def MapC.more (d:Int)(m:MapC):MapC:=⟨m.es.map fun e=>(e.1,e.2.1,e.2.2+d),m.clock⟩
theorem F4 (d:Int)(l:List (Nat×BitVec 32×Int)):eF d l []=l:=by
 unfold eF;simp
theorem Ew (d:Int)(l:List (Nat×BitVec 32×Int))(seen:List Nat):(eF d l seen).map (·.1)=l.map (·.1):=by
 unfold eF
 rw[List.map_map]
 refine List.map_congr_left fun x _=>?_
 simp only[Function.comp]
 split <;>rfl
theorem yc (d:Int)(l:List (Nat×BitVec 32×Int))(seen:List Nat):(eF d l seen).map (·.2.1)=l.map (·.2.1):=by
 unfold eF
 rw[List.map_map]
 refine List.map_congr_left fun x _=>?_
 simp only[Function.comp]
 split <;>rfl
theorem yt {d:Int}{l:List (Nat×BitVec 32×Int)}{seen:List Nat}{e:Nat×BitVec 32×Int}(h:e∈eF d l seen)(hs:e.1∉seen):e∈l:=by
 unfold eF at h
 obtain⟨x,hx,he⟩:=List.mem_map.1 h
 split at he
 ·rename_i hc
  rw[←he] at hs
  exact absurd (by simpa using hc) hs
 ·rw[←he];exact hx
theorem Fj {d:Int}{m:MapC}(hm:m.ok){seen:List Nat}{e:Nat×BitVec 32×Int}(he:e∈m.es)(hs:e.1∉seen):eF d m.es (seen++[e.1])=lK e.2.1 (e.2.2+d) (eF d m.es seen):=by
 rw[zn _ _ _ (by rw[yc];exact hm.keys)]
 unfold eF
 rw[List.map_map]
 refine List.map_congr_left fun x hx=>?_
 simp only[Function.comp]
 by_cases hxe:x=e
 ·subst hxe
  simp[hs]
 ·have h1:x.1≠e.1:=fun h=>hxe (nQ hm.stamps hx he h)
  have h2:x.2.1≠e.2.1:=fun h=>hxe (nQ hm.keys hx he h)
  by_cases h3:x.1∈seen
  ·simp[h2,h3]
  ·simp[h1,h2,h3]
theorem F5 {d:Int}{m:MapC}{seen:List Nat}(h:∀ e∈eF d m.es seen,e.1∈seen):eF d m.es seen=(m.more d).es:=by
 unfold eF MapC.more at*
 refine List.map_congr_left fun x hx=>?_
 have :=h _ (List.mem_map.2 ⟨x,hx,rfl⟩)
 by_cases h3:x.1∈seen
 ·rw[if_pos (by simpa using h3)]
 ·rw[if_neg (by simpa using h3)] at this
  exact absurd this h3
theorem MapC.more_ok {m:MapC}(hm:m.ok)(d:Int):(m.more d).ok:=
 ⟨by unfold MapC.more;rw[List.map_map];exact hm.stamps,fun e he=>by
  unfold MapC.more at he
  obtain⟨x,hx,rfl⟩:=List.mem_map.1 he
  exact hm.below x hx,by unfold MapC.more;rw[List.map_map];exact hm.keys⟩
def bR (t0 now:Int)(k:BitVec 32)(m:MapC):Int×Int×MapC:=
 if now<t0∨1099511627776<now then(1,t0,m) else
  let m2:=(m.more (min (now-t0) 5)).drop
  match dM k m2.es with
  |some n=>if n=0 then(15,now,m2) else(0,now,m2.set k (n-1))
  |none=>if(m2.es.length:Int)=16 then(9,now,m2) else(0,now,m2.set k 4)
theorem A0 (t0 now:Int)(k:BitVec 32)(m:MapC)(hm:m.ok)(hv:∀ e∈m.es,0≤e.2.2∧e.2.2≤100)(h0:0≤t0)(h1:t0≤1099511627776):ag Tryz.prog 94 [.ptr 0 0,.u32 k,.i64 now] [bK [.i64 t0,.map 1],some ⟨false,[],some m⟩] (.i64 (bR t0 now k m).1) [bK [.i64 (bR t0 now k m).2.1,.map 1],some ⟨false,[],some (bR t0 now k m).2.2⟩]:=by
 by_cases he1:now<t0
 ·have e:bR t0 now k m=(1,t0,m):=by unfold bR;rw[if_pos (.inl he1)]
  rw[e]
  refine ap (by kernel_rfl) (fn:=Tryz.f94) Tryz.func94 rfl (by show 3≤90;decide) (ae ?_)
  simp only[go_sem,seval,Tryz.ntmps94,Tryz.results94,he1]
  exact Fin.ren [0,1] (by simp) (by simp) (by rfl) (by decide) (by simp) (by simp)
 by_cases he2:1099511627776<now
 ·have e:bR t0 now k m=(1,t0,m):=by unfold bR;rw[if_pos (.inr he2)]
  rw[e]
  refine ap (by kernel_rfl) (fn:=Tryz.f94) Tryz.func94 rfl (by show 3≤90;decide) (ae ?_)
  simp only[go_sem,seval,Tryz.ntmps94,Tryz.results94,he1,he2]
  exact Fin.ren [0,1] (by simp) (by simp) (by rfl) (by decide) (by simp) (by simp)
 generalize hd:min (now-t0) 5=d
 have hd0:0≤d∧d≤5:=by omega
 have hdm:(if(5:Int)<now-t0 then 5 else now-t0)=d:=by
  rw[←hd];split <;>omega
 have hw:aj (now-t0)=now-t0:=am (by omega) (by omega)
 refine qZ (fn:=Tryz.f94) Tryz.func94 rfl (by show 3≤90;decide) ?_
 refine lL (K:=fun st=>Weak 2 90 st ⟨[(0,.ptr 0 0),(1,.u32 k),(2,.i64 now)],[bK [.i64 t0,.map 1],some ⟨false,[],some m⟩]⟩) (lw (by kernel_rfl) (ae ?_)) (fun st hst=>n9 ?_ hst)
 ·simp only[go_sem,seval]
  refine Weak.drop ?_ rfl (fun _ _ h=>h)
  simp[St.get,af]
 refine lL (K:=fun st=>Weak 2 90 st ⟨[(0,.ptr 0 0),(1,.u32 k),(2,.i64 now)],[bK [.i64 t0,.map 1],some ⟨false,[],some m⟩]⟩) (lw (by kernel_rfl) (ae ?_)) (fun st hst=>n9 ?_ hst)
 ·simp only[go_sem,seval,he1,he2]
  refine Weak.drop ?_ rfl (fun _ _ h=>h)
  simp[St.get,af]
 refine lL (K:=fun st=>Weak 2 90 st ⟨[(0,.ptr 0 0),(1,.u32 k),(2,.i64 now),(7,.i64 d)],[bK [.i64 t0,.map 1],some ⟨false,[],some m⟩]⟩) (lw (by kernel_rfl) (ae ?_)) (fun st hst=>n9 ?_ hst)
 ·simp only[go_sem,seval,hw,hdm]
  refine Weak.drop ?_ rfl (fun _ _ h=>h)
  simp[St.get,af]
 refine lL (K:=fun st=>Weak 2 90 st ⟨[(0,.ptr 0 0),(1,.u32 k),(7,.i64 d)],[bK [.i64 now,.map 1],some ⟨false,[],some m⟩]⟩) (lw (by kernel_rfl) (ae ?_)) (fun st hst=>n9 ?_ hst)
 ·simp only[go_sem,seval]
  refine Weak.drop ?_ rfl (fun _ _ h=>h)
  simp[St.get,af]
 let M:List Nat→MapC:=fun seen=>⟨eF d m.es seen,m.clock⟩
 let J:List Nat→St:=fun seen=>⟨[(0,.ptr 0 0),(1,.u32 k),(7,.i64 d),(36,.ptr 2 0)],[bK [.i64 now,.map 1],some ⟨false,[],some (M seen)⟩,none]⟩
 have hM0:M []=m:=by show(⟨eF d m.es [],m.clock⟩:MapC)=m;rw[F4]
 have hMd:∀ seen,((M seen).es.map (·.1))=m.es.map (·.1):=fun seen=>Ew d m.es seen
 refine lL (K:=fun st=>Weak 2 90 st ⟨[(0,.ptr 0 0),(1,.u32 k)],[bK [.i64 now,.map 1],some ⟨false,[],some (m.more d)⟩,none]⟩) (yK (by kernel_rfl) (S1:=⟨[(35,.map 1),(34,.ptr 0 1),(33,.ptr 0 0),(32,.ptr 0 0),(0,.ptr 0 0),(1,.u32 k),(7,.i64 d)],[bK [.i64 now,.map 1],some ⟨false,[],some m⟩]⟩) (pre:=[_,_,_,_]) (bm:=1) (fun _=>True) J M (ku m.es) rfl (by simp) (lI ?_) rfl (by rw[hM0];rfl) rfl rfl rfl (by decide) Tryz.underlying135 rfl rfl rfl (by decide) rfl rfl rfl rfl (by decide) trivial (fun seen _=>⟨fun e he=>?_,?_,Nat.le_refl _⟩) (fun seen _=>rfl) ?_ (fun seen=>rfl) (fun seen _ hall=>lI ?_) (fun seen e _ he hs=>⟨trivial,?_,lI ?_⟩)) (fun st hst=>n9 ?_ hst)
 ·simp only[go_sem,seval]
 ·have :e.1∈(M seen).es.map (·.1):=List.mem_map.2 ⟨e,he,rfl⟩
  rw[hMd] at this
  obtain⟨x,hx,hxe⟩:=List.mem_map.1 this
  rw[←hxe];exact hm.below x hx
 ·rw[hMd];exact hm.stamps
 ·refine Weak.drop ?_ rfl (fun b B h=>?_)
  ·simp[J,St.get,af,eB]
  ·simpa [J,hM0] using h
 ·have h2:M seen=m.more d:=by
   show(⟨eF d m.es seen,m.clock⟩:MapC)=⟨(m.more d).es,m.clock⟩
   rw[F5 hall]
  simp only[go_sem,seval,J,h2]
  refine Weak.drop ?_ rfl (fun _ _ h=>h)
  simp[St.get,af]
 ·exact Ah (yt he hs) hs
 ·have he0:e∈m.es:=yt he hs
  have hvb:=hv e he0
  obtain⟨st,k',v⟩:=e
  have hat:dM k' (M seen).es=some v:=Ag (by show((eF d m.es seen).map (·.2.1)).Nodup;rw[yc];exact hm.keys) he
  have hM1:M (seen++[st])=(M seen).set k' (v+d):=by
   unfold MapC.set
   rw[hat]
   show(⟨eF d m.es (seen++[st]),m.clock⟩:MapC)=⟨lK k' (v+d) (eF d m.es seen),m.clock⟩
   rw[Fj hm he0 hs]
  simp only at hs hvb
  have hw2:aj (v+d)=v+d:=am (by omega) (by omega)
  simp only[go_sem,seval,J]
  refine lI ?_
  simp only[go_sem,seval]
  refine ae ?_
  simp only[go_sem,seval,hat,Option.getD_some,hw2,hM1]
  refine⟨rfl,Weak.drop ?_ rfl (fun _ _ h=>h)⟩
  simp[St.get,af]
 refine lw (by kernel_rfl) (ae ?_)
 simp only[go_sem,seval]
 refine aq [1] (Hd (m.more d) (MapC.more_ok hm d)) (by kernel_rfl) (by simp) rfl (by simp) (by first|decide|simp) (by simp) (by simp) (by simp) (by simp) (by simp) ?_
 simp only[go_sem,seval]
 generalize hm2:(m.more d).drop=m2
 have ht:bR t0 now k m=match dM k m2.es with
   |some n=>if n=0 then(15,now,m2) else(0,now,m2.set k (n-1))
   |none=>if(m2.es.length:Int)=16 then(9,now,m2) else(0,now,m2.set k 4):=by
  unfold bR
  rw[if_neg (by omega)]
  simp only[hd,hm2]
 rw[ht]
 cases hat:dM k m2.es with
 |some n=>
  have hnb:-100≤n∧n≤200:=by
   obtain⟨b,hb⟩:=rI hat
   have hmem:=List.mem_of_getElem? hb
   rw[←hm2] at hmem
   have h3:(b,k,n)∈(m.more d).es:=(List.mem_filter.1 hmem).1
   unfold MapC.more at h3
   obtain⟨x,hx,hxe⟩:=List.mem_map.1 h3
   have :=hv x hx
   have h4:x.2.2+d=n:=congrArg (·.2.2) hxe
   omega
  by_cases hn:n=0
  ·subst hn
   simp only[go_sem,seval,Option.getD_some]
   exact Fin.ren [0,1] (by simp) (by simp) (by rfl) (by decide) (by simp) (by simp)
  ·have hw3:aj (n-1)=n-1:=am (by omega) (by omega)
   simp only[go_sem,seval,Option.getD_some,hn,hw3]
   exact Fin.ren [0,1] (by simp) (by simp) (by rfl) (by decide) (by simp) (by simp)
 |none=>
  by_cases hl:(m2.es.length:Int)=16
  ·simp only[go_sem,seval,hl]
   exact Fin.ren [0,1] (by simp) (by simp) (by rfl) (by decide) (by simp) (by simp)
  ·have hw3:aj (5-1)=4:=by rfl
   simp only[go_sem,seval,hl]
   exact Fin.ren [0,1] (by simp) (by simp) (by rfl) (by decide) (by simp) (by simp)
theorem CS {sec nano:Int}(h:sec=0∧nano=0∨sec=200∧nano=1):ao Tryz.prog 139 [.str (gG sec nano)] (.tup [.agg [.i64 sec,.i64 nano],.i64 0]):=by
 have hR:=KD (gG sec nano) (by rw[lm];decide)
 rcases h with⟨rfl,rfl⟩|⟨rfl,rfl⟩
 ·have e:oJ (gG 0 0)=0∧oK (gG 0 0)=0:=by constructor <;>rfl
  rw[lm,e.1,e.2,if_pos ⟨rfl,by unfold im;decide⟩] at hR
  exact hR
 ·have e:oJ (gG 200 1)=200∧oK (gG 200 1)=1:=by constructor <;>rfl
  rw[lm,e.1,e.2,if_pos ⟨rfl,by unfold im;decide⟩] at hR
  exact hR
theorem B6 (d:DS)(p:PS)(T:List (Option Blk))(bk:Option Blk)(waits begun old ses next:V):
  ag Tryz.prog 37 [.ptr 0 0,.str p.pub] (bK (d.cs .nilSlice .nilSlice)::bK [.ptr 4 0]::none::none::bK (p.cs waits begun old ses next)::T) (.ptr 4 0) (bK (d.cs .nilSlice .nilSlice)::bK [.ptr 4 0]::none::none::bK (p.cs waits begun old ses next)::T):=by
 unfold PS.cs DS.cs
 refine ap (by kernel_rfl) (fn:=Tryz.f37) Tryz.func37 rfl (by show 2≤24;decide) (ae ?_)
 simp only[go_sem,seval,Tryz.ntmps37]
 refine aY 2 ?_
 simp only[go_sem,seval,decide_true]
 repeat refine aI ?_
 exact Fin.id (s:=⟨_,_⟩) (Nat.le_refl _)
theorem He (d:DS)(p:PS)(hp:p.pub.length=32)(hn:0≤d.now)(hat:p.at_≠0#32){x:List ac}(hx:x.length≤1000000):
  ag Tryz.prog 99 [.ptr 4 0,.str x] [bK (d.cs .nilSlice .nilSlice),none,none,none,bK (p.cs .nilSlice .nilPtr .nilPtr (.nilPtr) (.ptr 6 0)),none,none] (.tup []) [bK (d.cs (.slice 7 0 1 3) .nilSlice),none,none,none,bK (p.cs .nilSlice .nilPtr .nilPtr (.nilPtr) (.ptr 6 0)),none,none,bK [.u32 d.here,.u32 p.at_,.str (marked p.pub x)]]:=by
 have hM:=sq d p hp hn [none] .nilSlice .nilPtr .nilPtr (.nilPtr) (.ptr 6 0) hx
 have hG:=oh d p.at_ (marked p.pub x) hat
 generalize marked p.pub x=mk at*
 unfold PS.cs DS.cs at*
 refine ap (by kernel_rfl) (fn:=Tryz.f99) Tryz.func99 rfl (by show 2≤16;decide) (ae ?_)
 simp only[go_sem,seval,Tryz.ntmps99]
 refine qI [0,1,2,3,4,5,6] (hM) (by kernel_rfl) (by simp) rfl (by simp) (by first|decide|simp) (by simp) (by simp) (by simp) (by simp) (by simp[go_sem,dj,-List.map_map,-List.map_set]) ?_
 simp only[go_sem,seval]
 repeat refine aJ ?_
 refine gH [0,1,2,3] (hG) (by kernel_rfl) (by simp) rfl (by simp) (by first|decide|simp) (by simp) (by simp) (by simp) (by simp) ?_
 simp only[go_sem,seval]
 repeat refine aI ?_
 exact Fin.ren [0,1,2,3,4,5,6,7] (by simp) (by simp) (by rfl) (by decide) (by simp) (by simp)
theorem Hf (d:DS)(p:PS)(hp:p.pub.length=32)(hn:0≤d.now)(hat:p.at_≠0#32){x:List ac}(hx:x.length≤1000000):
  ag Tryz.prog 99 [.ptr 4 0,.str x] [bK (d.cs .nilSlice .nilSlice),none,none,none,bK (p.cs .nilSlice .nilPtr .nilPtr (.ptr 6 0) (.ptr 7 0)),none,none,none] (.tup []) [bK (d.cs (.slice 8 0 1 3) .nilSlice),none,none,none,bK (p.cs .nilSlice .nilPtr .nilPtr (.ptr 6 0) (.ptr 7 0)),none,none,none,bK [.u32 d.here,.u32 p.at_,.str (marked p.pub x)]]:=by
 have hM:=sq d p hp hn [none,none] .nilSlice .nilPtr .nilPtr (.ptr 6 0) (.ptr 7 0) hx
 have hG:=oh d p.at_ (marked p.pub x) hat
 generalize marked p.pub x=mk at*
 unfold PS.cs DS.cs at*
 refine ap (by kernel_rfl) (fn:=Tryz.f99) Tryz.func99 rfl (by show 2≤16;decide) (ae ?_)
 simp only[go_sem,seval,Tryz.ntmps99]
 refine qI [0,1,2,3,4,5,6,7] (hM) (by kernel_rfl) (by simp) rfl (by simp) (by first|decide|simp) (by simp) (by simp) (by simp) (by simp) (by simp[go_sem,dj,-List.map_map,-List.map_set]) ?_
 simp only[go_sem,seval]
 repeat refine aJ ?_
 refine gH [0,1,2,3] (hG) (by kernel_rfl) (by simp) rfl (by simp) (by first|decide|simp) (by simp) (by simp) (by simp) (by simp) ?_
 simp only[go_sem,seval]
 repeat refine aI ?_
 exact Fin.ren [0,1,2,3,4,5,6,7,8] (by simp) (by simp) (by rfl) (by decide) (by simp) (by simp)
end Go.Vm
end
section
namespace Go.Vm
section
open Go Go.RowKit
section
variable {P:Program}{m n:Nat}{Q Q':Exit→St→Prop}{s:St}{c x y:Code}
def GP (P:Program)(m n:Nat)(c:Code)(Q:Exit→St→Prop)(s:St):Prop:=∃ e s',m≤s'.H.length∧Q e s'∧GS P m n c (fun e2 s2=>e2=e∧s2=s') s
theorem xl (h:GS P m n c Q s)(hq:∀ e s,Q e s→Q' e s):GS P m n c Q' s:=fun ρ a w hr hm=>
 wp_mono (h ρ a w hr hm) fun e a' w' ⟨s',ρ',q1,q2,q3⟩=>⟨s',ρ',hq _ _ q1,q2,q3⟩
theorem QY (h:GP P m n c Q s)(hq:∀ e s,Q e s→Q' e s):GP P m n c Q' s:=by
 obtain⟨e,s',h1,h2,h3⟩:=h
 exact⟨e,s',h1,hq _ _ h2,h3⟩
theorem wu (hmix:P.follows .mixedOrders=true)(hm:m≤s.H.length)(h:vc P m n c Q s):GP P m n c Q s:=by
 obtain⟨e,s',h1,h2,h3⟩:=lu c Q s hm h
 exact⟨e,s',h1,h2,lw hmix h3⟩
theorem xm {K:St→Prop}(hx:GP P m n x (fo K Q) s)(hy:∀ s',m≤s'.H.length→K s'→GP P m n y Q s'):GP P m n (.seq x y) Q s:=by
 obtain⟨e,s1,h1,h2,h3⟩:=hx
 cases e
 case normal=>
  obtain⟨e',s2,k1,k2,k3⟩:=hy s1 h1 h2
  refine⟨e',s2,k1,k2,lL (K:=fun s'=>s'=s1) (xl h3 ?_) fun s' hs=>by subst hs;exact k3⟩
  rintro _ _ ⟨rfl,rfl⟩
  rfl
 all_goals
  refine⟨_,s1,h1,h2,lL (K:=fun _=>False) (xl h3 ?_) fun s' hs=>hs.elim⟩
  rintro _ _ ⟨rfl,rfl⟩
  exact⟨rfl,rfl⟩
theorem Oq {J:Nat→Option Blk→Prop}{ops:Array Oper}{id:Nat}{es:List Ent}{s':St}(hmix:P.follows .mixedOrders=true)(ht:js P J n ops ops.toList s es s')(hok:gi ops (gj ops.toList s es)=true)(hJ:∀ b,J b (ab s.H b))(hm:m≤s'.H.length)(hk:Q .normal s'):GP P m n (.region id ops true) Q s:=
 ⟨.normal,s',hm,hk,fun ρ a w hr hm0=>zj (K:=fun t=>t=s') hmix ht hok hJ rfl ρ a w _ hr hm0 fun a' w' ⟨s2,ρ',e,q⟩=>⟨s2,ρ',⟨rfl,e⟩,q⟩⟩
def iU (P:Program)(J:Nat→Option Blk→Prop)(n:Nat)(ops:Array Oper)(K:St→Prop):List Oper→List (List Nat×List Nat)→St→Prop
 |[],tr,s=>gi ops tr=true∧K s
 |o::l,tr,s=>dV n o.dst∧o.guard=none∧∃ res,wy J P o s.ev (ab s.H) s.H.length res∧(∀ x∈res.old,x.1<s.H.length)∧(∀ b x,cT s ⟨true,res⟩ b=some x→J b x)∧iU P J n ops K l (tr++[bc s res]) (s.after o.dst res)
theorem yu {J:Nat→Option Blk→Prop}{ops:Array Oper}{K:St→Prop}:∀ (l:List Oper) (tr:List (List Nat×List Nat)) (s:St),iU P J n ops K l tr s→∃ es s',js P J n ops l s es s'∧gi ops (tr++gj l s es)=true∧K s'
 |[],tr,s,h=>⟨[],s,rfl,by simpa [gj] using h.1,h.2⟩
 |o::l,tr,s,⟨hd,hg,res,h1,h2,h3,h4⟩=>by
  obtain⟨es,s',g1,g2,g3⟩:=yu l _ _ h4
  refine⟨⟨true,res⟩::es,s',⟨⟨hd,by unfold lG;rw[hg],by simp only[if_true];exact⟨h1,h2,h3⟩⟩,g1⟩,?_,g3⟩
  simpa [gj] using g2
theorem A3 {J:Nat→Option Blk→Prop}{ops:Array Oper}{id:Nat}(hmix:P.follows .mixedOrders=true)(hJ:∀ b,J b (ab s.H b))(h:iU P J n ops (fun s'=>m≤s'.H.length∧Q .normal s') ops.toList [] s):GP P m n (.region id ops true) Q s:=by
 obtain⟨es,s',h1,h2,h3⟩:=yu _ _ _ h
 exact Oq hmix h1 (by simpa using h2) hJ h3.1 h3.2
theorem cj {J:Nat→Option Blk→Prop}{ops:Array Oper}{K:St→Prop}{o:Oper}{l:List Oper}{tr:List (List Nat×List Nat)}{res:Res}(hd:dV n o.dst)(hg:o.guard=none)(hv:bq P o.op s.ev (ab s.H) s.H.length=some res)(hp:res.pre)(ho:res.old=[])(hn:res.news=[])
  (hk:iU P J n ops K l (tr++[(res.fp,[])]) (s.put o.dst res.v)):iU P J n ops K (o::l) tr s:=by
 refine⟨hd,hg,res,(OpExec.of_vop hv hp).toJ,by rw[ho];simp,fun b x hx=>?_,?_⟩
 ·unfold cT at hx
  rw[hn,ho] at hx
  simp at hx
  omega
 ·have e1:bc s res=(res.fp,[]):=by unfold bc;rw[ho,hn];rfl
  have e2:s.after o.dst res=s.put o.dst res.v:=by unfold St.after St.put cr;rw[ho,hn];simp
  rw[e1,e2];exact hk
end
section
variable {P:Program}{f:FuncId}{args:List V}{K:Nat→Option Kd}{H:List (Option Blk)}{W:Nat→Prop}
end
end
section
section
variable {P:Program}{n:Nat}{J:Nat→Option Blk→Prop}{ops:Array Oper}{K:St→Prop}{o:Oper}{l:List Oper}{tr:List (List Nat×List Nat)}{s:St}
theorem CT {ty:TypeId}{a:Operand}{b i:Nat}{v:V}(hd:dV n o.dst)(hg:o.guard=none)(ho:o.op= .load ty a)(ha:s.ev a= .ptr b i)(hr:aF P ty=some false){z:Nat}(hz:al P ty=some z)
  (hJv:∀ x,J b x→∃ B,x=some B∧i<B.cs.length∧B.cs.getD i .junk=v) (hk:iU P J n ops K l (tr++[([],[])]) (s.put o.dst v)):iU P J n ops K (o::l) tr s:=by
 refine⟨hd,hg,{v:=v},?_,by simp,fun c x hx=>?_,?_⟩
 ·intro ρ dom get w act next Q h1 h2 h3 h4 hJ h5
  obtain⟨B,hB,hi,rfl⟩:=hJv _ (hJ b)
  have hv:bq P o.op s.ev get s.H.length=some {v:=B.cs.getD i .junk,pre:=i<B.cs.length,fp:=[b]}:=by
   rw[ho]
   simp only[bq,ha,hB,hr,hz]
  refine OpExec.of_vop hv hi ρ dom get w act next Q h1 h2 (fun c hc=>⟨rfl,fun _=>?_⟩) h4 h5
  have :c=b:=by simpa using hc
  subst this
  exact h2.has _ _ hB
 ·unfold cT at hx
  simp at hx
  omega
 ·have e1:bc s {v:=v}=([],[]):=rfl
  have e2:s.after o.dst {v:=v}=s.put o.dst v:=by unfold St.after St.put cr;simp
  rw[e1,e2];exact hk
theorem tp {res:Res}(hd:dV n o.dst)(hg:o.guard=none)(hv:bq P o.op s.ev (ab s.H) s.H.length=some res)(hp:res.pre)(hold:∀ x∈res.old,x.1<s.H.length)(hJ:∀ b x,cT s ⟨true,res⟩ b=some x→J b x)
  (hk:iU P J n ops K l (tr++[bc s res]) (s.after o.dst res)):iU P J n ops K (o::l) tr s:=⟨hd,hg,res,(OpExec.of_vop hv hp).toJ,hold,hJ,hk⟩
theorem Dh (hok:gi ops tr=true)(hk:K s):iU P J n ops K [] tr s:=⟨hok,hk⟩
end
end
section
open Go Go.RowKit
section
variable {P:Program}{m n:Nat}{Q Q2:Exit→St→Prop}{s:St}{c x y Y:Code}
theorem y8 {f:FuncId}{fn:Func}{args:List V}{h h':List (Option Blk)}{v:V}(hf:P.funcs[f]?=some fn)(hb:fn.body=some c)(hn:args.length≤fn.ntmps)
  (hv:GP P h.length fn.ntmps c (fQ P fn (Fin h.length v h')) ⟨fg args 0,h⟩):ag P f args h v h':=by
 obtain⟨e,s',h1,h2,h3⟩:=hv
 exact qZ hf hb hn (xl h3 fun _ _ ⟨e1,e2⟩=>by subst e1 e2;exact h2)
theorem iP (hmix:P.follows .mixedOrders=true)(hm:m≤s.H.length)(h:vc P m n (.seq x y) Q2 s)(hq:∀ e s',e≠ .normal→Q2 e s'→Q e s')(hy:∀ s',m≤s'.H.length→vc P m n y Q2 s'→GP P m n Y Q s'):GP P m n (.seq x Y) Q s:=by
 have h':vc P m n x (fo (fun s'=>vc P m n y Q2 s') Q2) s:=h
 refine xm (K:=fun s'=>vc P m n y Q2 s') (QY (wu hmix hm h') fun e s' he=>?_) hy
 cases e
 case normal=>exact he
 all_goals exact hq _ _ (by intro e;cases e) he
end
end
section
open Go Go.RowKit
section
variable {P:Program}{J:Nat→Option Blk→Prop}{n:Nat}{ops:Array Oper}{K:St→Prop}{s:St}{o:Oper}{l:List Oper}{tr:List (List Nat×List Nat)}
theorem sr {c:Call}{fx:Operand}{f:FuncId}{fs cs args args0:List V}{v:V}{h h':List (Option Blk)}(sg:List Nat)(hs:ag P f args0 h v h')(hd:dV n o.dst)(hg:o.guard=none)(ho:o.op= .call c)(hcl:c.callee= .value fx)(hf:s.ev fx= .fn f fs cs)(hav:c.args.toList.map s.ev=args)
  (hc:cW P f=true) (ha:rens (ah sg) args0=fs++args++cs) (hlen:sg.length=h.length) (hlow:aa h.length args0) (hnd:sg.Nodup)
  (hsg:∀ b∈sg,b<s.H.length) (hblk:eu (ah sg) h.length s h 0) (hro:gm (h'.drop h.length)) (hle:h.length≤h'.length)
  (hold:∀ x∈(dj sg s.H.length v h h').old,x.1<s.H.length)
  (hJ:∀ b x,cT s ⟨true,dj sg s.H.length v h h'⟩ b=some x→J b x)
  (hk:iU P J n ops K l (tr++[bc s (dj sg s.H.length v h h')]) (s.after o.dst (dj sg s.H.length v h h'))):iU P J n ops K (o::l) tr s:=by
 have hV:=rK sg hs hc ha hlen hlow hnd hsg hblk hro hle
 rw[←hf,←hav] at hV
 exact⟨hd,hg,_,(OpExec.of_call ho hcl hV).toJ,hold,hJ,hk⟩
theorem B7 {P:Program}{m n:Nat}{Q:Exit→St→Prop}{s:St}{r0 r1 r2 r3 r4 r5 r6 r7 r8 r9 r10 r11 Y:Code}(hmix:P.follows .mixedOrders=true)(hm:m≤s.H.length)(h:vc P m n (.seq r0 (.seq r1 (.seq r2 (.seq r3 (.seq r4 (.seq r5 (.seq r6 (.seq r7 (.seq r8 (.seq r9 (.seq r10 (.seq r11 .skip)))))))))))) (fo (fun s'=>GP P m n Y Q s') Q) s):GP P m n (.seq r0 (.seq r1 (.seq r2 (.seq r3 (.seq r4 (.seq r5 (.seq r6 (.seq r7 (.seq r8 (.seq r9 (.seq r10 (.seq r11 Y)))))))))))) Q s:=by
 have hq:∀ e s',e≠ .normal→fo (fun s'=>GP P m n Y Q s') Q e s'→Q e s':=fun e s' he h=>by
  cases e
  case normal=>exact absurd rfl he
  all_goals exact h
 refine iP hmix hm h hq fun s0 m0 h0=>?_
 refine iP hmix m0 h0 hq fun s1 m1 h1=>?_
 refine iP hmix m1 h1 hq fun s2 m2 h2=>?_
 refine iP hmix m2 h2 hq fun s3 m3 h3=>?_
 refine iP hmix m3 h3 hq fun s4 m4 h4=>?_
 refine iP hmix m4 h4 hq fun s5 m5 h5=>?_
 refine iP hmix m5 h5 hq fun s6 m6 h6=>?_
 refine iP hmix m6 h6 hq fun s7 m7 h7=>?_
 refine iP hmix m7 h7 hq fun s8 m8 h8=>?_
 refine iP hmix m8 h8 hq fun s9 m9 h9=>?_
 refine iP hmix m9 h9 hq fun s10 m10 h10=>?_
 refine iP hmix m10 h10 hq fun s11 m11 h11=>?_
 exact h11
end
end
end Go.Vm
end
