/- Proved: laws of a machine of values; no conditions but each theorem's own. -/
import Derived.Deep.Upon
import Derived.Test.YtidjknjilnopnaaGreatDoorVmG
set_option linter.unusedVariables false
set_option linter.unusedSimpArgs false
set_option maxRecDepth 20000
set_option maxHeartbeats 8000000
section
namespace Go.Vm
section
section
variable {ρ:Nat->Nat×Nat}{dom:Nat->Prop}{P:Program}{w:World}{get:Nat->Option Blk}{nid:Nat}
theorem zo (z:List V):∀ n,(jr z n).length=n*z.length
 |0=>by simp[jr]
 |n+1=>by simp[jr,zo z n,Nat.succ_mul];omega
theorem KQ (z:List V)(a:0<z.length):∀ (n i:Nat),i<n*z.length->(jr z n)[i]?=z[i%z.length]?
 |0,i,h=>by simp at h
 |n+1,i,h=>by
  unfold jr;by_cases hi:i<z.length
  ·rw[gh hi,gn hi]
  ·rw[dL aa,KQ z a n (i-z.length) (by rw[Nat.succ_mul] at h;omega)];rw[<-Nat.mod_eq_sub_mod aa]
theorem Lk {z:List V}{a:Array Value}(h:VRs ρ dom w z a.toList)(d:0<z.length)(n:Nat):VRs ρ dom w (jr z n) (madeCells a (n*z.length)).toList:=by
 have e:a.size=z.length:=by have :=h.length;simpa using this
 refine VRs.of_get (by simp[size_madeCells,zo]) fun i v r c b=>?_
 have hi:i<n*z.length:=by
  have :=(ca.1 c).1
  rwa [zo] at this
 rw[KQ z d n i hi] at c;obtain⟨g,g1,g2⟩:=h.get c;have :(madeCells a (n*z.length)).toList[i]?=some a[i%a.size]!:=by
  unfold madeCells;simp[hi]
 rw[this] at b;injection b with b
 have f:i%z.length<a.size:=by rw[e];exact vr _ d
 rw[e] at b;simp[f] at b g1;rw[<-b,g1];exact g2
theorem Zr (w1:World)(c:Array Value)(e:TypeId)(fz:Nat×Nat)(n:Nat)(h:n<=c.size)(a:∀ i,i<n->¬ (fz.1<=i/\i<fz.2)):(w1.alloc (.cells c e fz)).there w1.heap.size 0 n:=fun j b=>by
 rw[cell?_alloc_fz,frozen?_alloc_fz];have :=a j b;simp only[cw];exact⟨by simp;omega,by simpa using this⟩
theorem zB {w1:World}(c:Array Value)(e:TypeId)(fz:Nat×Nat)(n cap s:Nat)(a:w1.heap.size=w.heap.size)(b:n<=cap)(h:cap*s<=c.size)(d:∀ i,i<cap*s->¬ (fz.1<=i/\i<fz.2)):
  VR (jt ρ nid (w.heap.size,0)) (cU dom nid 1) (w1.alloc (.cells c e fz)) (.slice nid 0 n s) (.slice (some ⟨w.heap.size,0,none⟩) n cap):=by
 unfold VR;refine⟨.inr ⟨aa,aa⟩,_,_,rfl,b,fun _=>?_⟩;rw[fX];refine⟨rfl,?_⟩;rw[<-a];exact Zr w1 c e fz _ h d
theorem XM {t e:TypeId}{s b:Nat}{z:List V}{n:Int}(ht:P.underlying t=some (.slice e))(g:aR P e=some s)(j:lG P e=some b)(o:bM P e=some z)(k:z.length=s)(h0:0<s)
  (p:0<=n) (q:n*b<=140737488355328) (u:n<=140737488355328) (x:MemRel ρ dom get w) (y:¬ dom nid):
  RunsTo P (do pure (.value (<-Instr.makeSlice t (.int .i64 n) (.int .i64 n))):Sem Next) w ρ dom get nid {v:= .slice nid 0 n.toNat s,news:=[bK (jr z n.toNat)]}:=by
 obtain⟨i,d,hi,l,rfl⟩:=xn o;have f:i.size=s:=by unfold aR at g;rw[hi] at g;injection g
 have m:i.bytes=b:=by unfold lG at j;rw[hi] at j;injection j
 have A:=run_make (P:=P) w t e i d ht hi l .i64 .i64 n n p (cC _) (by rw[m,sQ];omega) aa;have B:d.cells.size=s:=by simpa using k
 refine RunsTo.fresh (w1:=w) (c:=madeCells d.cells (n.toNat*i.size)) (e:=e) (fz:=(0,0)) (cs:=jr (d.cells.toList.map ofValue) n.toNat) x (Alike.refl w) y (by rw[Sem.run_bind,A];rfl) (fun D v C=>?_) (fun i _ h=>by have :=h.2;simp at this) (zB _ _ _ _ _ _ rfl (aH _) (by rw[size_madeCells,f];exact aH _) (fun i _ h=>by have :=h.2;simp at this)) rfl rfl;have a:=Lk (ρ:=ρ) (dom:=dom) (w:=w) (xl d) (by rw[k];exact h0) n.toNat;rw[k,<-f] at a;obtain⟨r,h1,h2⟩:=a.get C;exact⟨r,by simpa using h1,h2⟩
theorem afR {t e:TypeId}{len s:Nat}{z cs:List V}{parts:List (Nat×V)}{d:Array (Nat×Value)}(ht:P.underlying t=some (.slice e))(n:aR P e=some s)(D:bM P e=some z)(l:z.length=s)(h0:0<s)(E:len*s<=1048576)
  (o:d.size=parts.length) (F:∀ (i:Nat) x y,parts[i]?=some x->d.toList[i]?=some y->x.1=y.1/\VR ρ dom w x.2 y.2)
  (C:lw (fun i=>some (i*s,s)) (jr z len) parts=some cs) (G:MemRel ρ dom get w) (H:¬ dom nid):
  RunsTo P (do pure (.value (<-Instr.buildSlice t len d)):Sem Next) w ρ dom get nid {v:= .slice nid 0 len s,news:=[bK cs]}:=by
 obtain⟨i,m,hi,q,rfl⟩:=xn D;have u:i.size=s:=by unfold aR at n;rw[hi] at n;injection n
 have I:m.cells.size=s:=by simpa using l
 have g:=Lk (ρ:=ρ) (dom:=dom) (w:=w) (xl m) (by rw[l];exact h0) len;rw[l] at g;obtain⟨rc,h1,h2⟩:=zh parts d.toList _ cs (madeCells m.cells (len*s)) (by simpa using o) F C g;have j:rc.size=len*s:=by
  have a:=h2.length;have b:∀ (ps:List (Nat×V)) (vc c:List V),lw (fun i=>some (i*s,s)) vc ps=some c->c.length=vc.length:=by
   intro ps;induction ps with
   |nil=>intro vc c h;simp only[lw,cf] at h;rw[h]
   |cons p ps ih=>
    intro vc c h;obtain⟨i,v⟩:=p;simp only[lw] at h;split at h
    ·rename_i hc;rw[ih _ _ h,rq aa]
    ·cases h
  have c:=b _ _ _ C;rw[zo,l] at c;simp at a;omega
 refine RunsTo.fresh (w1:=w) (c:=rc) (e:=e) (fz:=(0,0)) (cs:=cs) G (Alike.refl w) H ?_ (fun L v J=>?_) (fun i _ h=>by have :=h.2;simp at this) (zB _ _ _ _ len _ rfl (aH _) (by rw[j];exact aH _) (fun i _ h=>by have :=h.2;simp at this)) rfl rfl
 ·have A:¬ (16777216<len*s):=aa;have f:(sizeOf e).run P w= .ok s w:=by simp[sizeOf,typeInfo,hi,u]
  by_cases k:len*s=0
  ·have B:len=0:=by
    rcases Nat.mul_eq_zero.1 k with h|h
    ·exact h
    ·omega
   subst B;rw[Nat.zero_mul] at h1;have K:madeCells m.cells 0=#[]:=by simp[madeCells,Array.range_zero']
   rw[K] at h1;simp[Instr.buildSlice,run_underlying ht,f,newRow,Array.range_zero',h1]
  ·unfold madeCells at h1;simp[Instr.buildSlice,run_underlying ht,f,A,k,zeroValue,typeInfo,hi,q,newRow,h1]
 ·obtain⟨r,g1,g2⟩:=h2.get J;exact⟨r,by simpa using g1,g2⟩
theorem C2 (b:ByteArray):VRs ρ dom w ((bytesOf b).map .u8) (byteCells b):=by
 unfold bytesOf byteCells;rw[kH];refine VRs.of_get ae fun i v r a c=>?_
 rw[ci] at a c;cases d:b.data.toList[i]? with
 |none=>rw[d] at a;cases a
 |some x=>
  rw[d] at a c;injection a with a;injection c with c
  subst a;subst c;show VR ρ dom w (.u8 _) _;unfold VR;rfl
theorem BS {y:V}{x:Value}{m s:Nat}{ys:List V}{q:Prop}{g:List Nat}{l:TypeId}(h:iy get y=some (m,ys,q,g))(G:q)(A:MemRel ρ dom get w)(d:VR ρ dom w y x)(k:kW s y=true)
  (c:(∃ n,P.underlying l=some (.slice n))/\lv y=false\/P.underlying l=some .string/\lv y=true) (h1:∀ u∈ys,u.one=true):
  ∃ news,Src P s l x m news w/\VRs ρ dom w ys news:=by
 have f:∀ (vs:List V) (rs:List Value),VRs ρ dom w vs rs->(∀ u∈vs,u.one=true)->∀ u∈rs,u.oneCell'=true:=fun vs rs z C u hu=>by
  obtain⟨i,hi,rfl⟩:=xE.1 hu;have p:=z.length;obtain⟨r,g1,g2⟩:=z.get (i:=i) (v:=vs[i]'(aa)) ae;rw[aF hi] at g1;injection g1 with g1
  rw[g1];exact zC (C _ (dd _)) g2
 unfold iy at h;split at h
 ·injection h with h
  simp only[gI] at h;obtain⟨rfl,rfl,_,rfl⟩:=h;unfold VR at d;subst d;rcases c with⟨⟨n,c⟩,_⟩|⟨_,c⟩
  ·exact⟨[],Src.ofNil w c 0,VRs.nil⟩
  ·simp[lv] at c
 ·rename_i str;injection h with h
  simp only[gI] at h;obtain⟨rfl,rfl,_,rfl⟩:=h;unfold VR at d;obtain⟨b,rfl,rfl⟩:=d;simp[kW] at k;subst k;rcases c with⟨_,c⟩|⟨c,_⟩
  ·simp[lv] at c
  ·exact⟨byteCells b,by rw[kF];exact Src.ofString w c b,C2 b⟩
 ·rename_i b o len t;split at h
  case h_2=>cases h
  rename_i B D;injection h with h
  simp only[gI] at h;obtain⟨rfl,rfl,rfl,rfl⟩:=h;simp[kW] at k;subst k;unfold VR at d;obtain⟨_,a,cap,rfl,E,F⟩:=d;rcases c with⟨⟨n,c⟩,_⟩|⟨_,c⟩
  case inr=>simp[lv] at c
  obtain⟨rs,g1,g2⟩:=A.range D o (len*t);have p:=g1.length;refine⟨rs,Src.ofSlice w c a len cap rs (by rw[p];simp;omega) (fun j u hu=>?_) (f _ _ g1 h1),g1⟩;have hc:cap≠0:=fun e=>by
   have :len=0:=aa;subst this;have :rs=[]:=by
    have :rs.length=0:=by rw[p];simp
    exact jJ.1 this
   subst this;simp at hu
  obtain⟨rfl,_⟩:=F hc;rw[Addr.add_mid];exact g2 j u hu
 ·cases h
theorem Mg {b o n m s nid':Nat}{cap:Nat}{cs ys:List V}{news:List Value}(f:MemRel ρ dom get w)(A:get b=bK cs)(K:¬ dom nid')(N:o+n*s<=cs.length)(D:VRs ρ dom w ys news)(O:ys.length=m*s)(l:n+m<=cap)
  (q:w.there (ρ b).1 ((ρ b).2+o) (cap*s)):
  MemRel (jt ρ nid' ((ρ b).1,(ρ b).2+o)) (cU dom nid' 1) (bZ get [(b,none)] nid' [bK ((cs.drop o).take (n*s)++ys)]) (w.setCells (ρ b).1 ((ρ b).2+o+n*s) news)/\
  Frame ρ get w (jt ρ nid' ((ρ b).1,(ρ b).2+o)) (bZ get [(b,none)] nid' [bK ((cs.drop o).take (n*s)++ys)]) (w.setCells (ρ b).1 ((ρ b).2+o+n*s) news)/\
  VR (jt ρ nid' ((ρ b).1,(ρ b).2+o)) (cU dom nid' 1) (w.setCells (ρ b).1 ((ρ b).2+o+n*s) news) (.slice nid' 0 (n+m) s) (.slice (some ⟨(ρ b).1,(ρ b).2+o,none⟩) (n+m) cap):=by
 have Q:=D.length;have L:n*s+m*s<=cap*s:=by rw[<-rA];exact Aj _ l
 have E:=lasts_setCells (ρ b).1 ((ρ b).2+o+n*s) news w;have hold:=rD (ρ:=ρ) (x:=((ρ b).1,(ρ b).2+o)) K;have R:b≠nid':=fun e=>K (e▸f.has b _ A)
 have F:bZ get [(b,none)] nid' [bK ((cs.drop o).take (n*s)++ys)]=fun a=>if a=nid' then bK ((cs.drop o).take (n*s)++ys) else if a=b then none else get a:=by
  funext a;unfold bZ;by_cases h:a=nid'
  ·subst h;simp
  ·rw[if_neg (by simp;omega),if_neg h];rfl
 rw[F];have c:∀ a B,a≠nid'->(fun a=>if a=nid' then bK ((cs.drop o).take (n*s)++ys) else if a=b then none else get a) a=some B->a≠b/\get a=some B:=fun a B h1 h2=>by
  simp only[if_neg h1] at h2;by_cases e:a=b
  ·rw[if_pos e] at h2;cases h2
  ·rw[if_neg e] at h2;exact⟨e,h2⟩
 have t:∀ B,(fun a=>if a=nid' then bK ((cs.drop o).take (n*s)++ys) else if a=b then none else get a) nid'=some B->B=⟨false,(cs.drop o).take (n*s)++ys,none⟩:=fun B h=>by simpa using h.symm
 have g:∀ a B,a≠b->get a=some B->(ρ a).1≠(ρ b).1:=fun a B h1 h2 e=>f.inj b a _ B A h2 rfl (fun x=>h1 x.symm) e.symm
 have d:((cs.drop o).take (n*s)).length=n*s:=by simp;omega
 refine⟨⟨fun a B k=>?_,fun a B k=>?_,fun u p B1 B2 h1 h2 C G=>?_,fun a B k i v y=>?_,fun a B k C i hi=>?_,fun a B m k z=>?_⟩,
  ⟨(sj _ _ _ _).1,(sj _ _ _ _).2.1,(sj _ _ _ _).2.2,by rw[wL];exact aH _,fun r C I=>?_,E,fun a B k C=>?_⟩,?_⟩
 ·by_cases e:a=nid'
  ·exact .inr ⟨aa,aa⟩
  ·exact .inl (f.has a B (c a B e k).2)
 ·rw[wL];by_cases e:a=nid'
  ·subst e;rw[fX];exact f.lt b _ A
  ·have :=(c a B e k).2;rw[hold a (f.has a B this)];exact f.lt a B this
 ·by_cases M:u=nid'
  ·subst M;have H:p≠u:=fun e=>G e.symm
   obtain⟨g1,g2⟩:=c p B2 H h2;rw[fX,hold p (f.has p B2 g2)];exact fun x=>g p B2 g1 g2 x.symm
  ·obtain⟨g1,g2⟩:=c u B1 M h1;rw[hold u (f.has u B1 g2)];by_cases H:p=nid'
   ·subst H;rw[fX];exact g u B1 g1 g2
   ·obtain⟨g3,g4⟩:=c p B2 H h2;rw[hold p (f.has p B2 g4)];exact f.inj u p B1 B2 g2 g4 C G
 ·by_cases e:a=nid'
  ·subst e;rw[t B k] at y;rw[fX];simp only at y |-
   by_cases hi:i<n*s
   ·rw[gh aa,oK,if_pos hi,il] at y;obtain⟨r,g1,g2⟩:=f.cell b _ A (o+i) v y;refine⟨r,?_,g2.mono hold tf E⟩;rw[World.cell?_setCells_out _ _ _ _ _ (fun _ _=>by simp only;omega)];rw[<-g1];congr 2;omega
   ·rw[dL aa,d] at y;obtain⟨r,g1,g2⟩:=D.get y;refine⟨r,?_,g2.mono hold tf E⟩;have J:i-n*s<news.length:=(ca.1 g1).1;have :=World.cell?_setCells_in (ρ b).1 news ((ρ b).2+o+n*s) w (fun j J=>by
     have :=(q (n*s+j) aa).1;rw[<-this];congr 2;simp;omega) (i-n*s) J
    rw[show(ρ b).2+o+n*s+(i-n*s)=(ρ b).2+o+i by omega] at this;rw[this,<-g1];simp[J]
  ·obtain⟨g1,g2⟩:=c a B e k;obtain⟨r,h1,h2⟩:=f.cell a B g2 i v y;refine⟨r,?_,h2.mono hold tf E⟩;rw[hold a (f.has a B g2),World.cell?_setCells_out _ _ _ _ _ (fun x _=>absurd x (g a B g1 g2))];exact h1
 ·rw[World.frozen?_setCells];by_cases e:a=nid'
  ·subst e;rw[t B k] at hi;rw[fX];simp only[aE,d] at hi;exact(q i aa).2
  ·obtain⟨g1,g2⟩:=c a B e k;rw[hold a (f.has a B g2)];exact f.free a B g2 C i hi
 ·by_cases e:a=nid'
  ·subst e;rw[t B k] at z;cases z
  ·obtain⟨g1,g2⟩:=c a B e k;rw[hold a (f.has a B g2)];exact nf (f.mapc a B m g2 z) (xr _ _ _ _ _ (g a B g1 g2))
 ·exact xr _ _ _ _ _ (fun e=>I b _ A rfl e.symm)
 ·by_cases e:a=nid'
  ·subst e;rw[fX];exact .inl ⟨b,_,A,rfl,rfl⟩
  ·obtain⟨g1,g2⟩:=c a B e k;exact .inl ⟨a,B,g2,C,by rw[hold a (f.has a B g2)]⟩
 ·unfold VR;refine⟨.inr ⟨aa,aa⟩,_,_,rfl,l,fun _=>?_⟩;rw[fX];exact⟨rfl,E.there q⟩
end
end
section
section
variable {ρ:Nat->Nat×Nat}{dom:Nat->Prop}{P:Program}{w:World}{get:Nat->Option Blk}{nid:Nat}
theorem TU {a old:Nat}(h:old<a):Builtin.nextslicecap a old<=a+a/4+192:=by
 unfold Builtin.nextslicecap;split
 ·omega
 ·split
  ·omega
  ·rw[growBy_four]
   repeat' split
   all_goals omega
theorem qz {x:V}{r:Value}{n:Int}(h:x.nat?=some n)(a:VR ρ dom w x r):∃ k,r= .int k n:=by
 cases x<;>simp only[V.nat?,cf,seval] at h<;>subst h<;>unfold VR at a<;>exact⟨_,a⟩
theorem FT (get:Nat->Option Blk)(f:List Nat)(nid:Nat)(x:Option Blk):∀ b B,bZ get (f.map fun b=>(b,none)) nid [x] b=some B->bZ get [] nid [x] b=some B:=fun b B h=>by
 unfold bZ at*;split at h
 ·rename_i hc;rw[if_pos hc];exact h
 ·rename_i hc;rw[if_neg hc];have :∀ (f:List Nat) (d:Option Blk),gQ (f.map fun b=>(b,none)) b d=some B->d=some B:=by
   intro f;induction f with
   |nil=>intro d h;exact h
   |cons i f ih=>
    intro d h;simp only[bN,gQ] at h;split at h
    ·cases h
    ·exact ih d h
  exact this f _ h
theorem IZ {a:TypeId}{y:V}(h:u4 P a y=true):(∃ b,P.underlying a=some (.slice b))/\lv y=false\/P.underlying a=some .string/\lv y=true:=by
 unfold u4 at h;cases hu:P.underlying a with
 |none=>rw[hu] at h;cases h
 |some d=>
  rw[hu] at h;cases d
  case string=>cases y<;>first|exact .inr ⟨rfl,rfl⟩|cases h
  case slice e=>refine .inl ⟨⟨e,rfl⟩,?_⟩;cases y<;>first|rfl|cases h
  all_goals cases h
theorem Zx {t K ty e:TypeId}{x y:V}{rx L:Value}{n m l E:Nat}{xs ys z:List V}{p q:Prop}{f g:List Nat}(ht:P.underlying t=some (.slice e))(hs:aR P e=some l)(hb:lG P e=some E)(hz:bM P e=some z)
  (b2:z.length=l) (h0:0<l) (b3:lv x=false) (hex:kW l x=true) (W:kW l y=true) (hk:u4 P K y=true) (d:iy get x=some (n,xs,p,f)) (c:iy get y=some (m,ys,q,g))
  (hp:(iZ n m l E x xs ys p q f g get nid).pre) (U:VR ρ dom w x rx) (hy:VR ρ dom w y L) (M:MemRel ρ dom get w) (hd:¬ dom nid):
  RunsTo P (do pure (.value (<-Builtin.append_ #[t,K] ty #[rx,L])):Sem Next) w ρ dom get nid (iZ n m l E x xs ys p q f g get nid):=by
 obtain⟨i,zv,hi,b4,rfl⟩:=xn hz;have G:i.size=l:=by unfold aR at hs;rw[hi] at hs;injection hs
 have b5:i.bytes=E:=by unfold lG at hb;rw[hi] at hb;injection hb
 have b6:zv.cells.size=l:=by simpa using b2
 have X:=IZ hk;have C:(x= .nilSlice/\rx= .slice none 0 0/\n=0/\xs=[]/\f=[])\/∃ b o B a cap,x= .slice b o n l/\rx= .slice (some a) n cap/\n<=cap/\get b=some B/\xs=(B.cs.drop o).take (n*l)/\p=(o+n*l<=B.cs.length)/\f=[b]/\
   (cap≠0->a=⟨(ρ b).1,(ρ b).2+o,none⟩/\w.there (ρ b).1 ((ρ b).2+o) (cap*l)):=by
  unfold iy at d;split at d
  ·injection d with d
   simp only[gI] at d;obtain⟨rfl,rfl,_,rfl⟩:=d;unfold VR at U;exact .inl ⟨rfl,U,rfl,rfl,rfl⟩
  ·simp[lv] at b3
  ·split at d
   case h_2=>cases d
   rename_i B hB;injection d with d
   simp only[gI] at d;obtain⟨rfl,rfl,rfl,rfl⟩:=d;simp[kW] at hex;subst hex;unfold VR at U;obtain⟨_,a,cap,rfl,h1,h2⟩:=U;exact .inr ⟨_,_,B,a,cap,rfl,rfl,h1,hB,rfl,rfl,rfl,h2⟩
  ·cases d
 by_cases Y:m=0
 ·subst Y;have H:iZ n 0 l E x xs ys p q f g get nid={v:=x,pre:=q,fp:=f++g}:=by unfold iZ;rw[if_pos rfl]
  rw[H] at hp |-
  have c0:ys=[]:=by
   unfold iy at c;split at c
   ·injection c with c;simp only[gI] at c;exact c.2.1.symm
   ·injection c with c;simp only[gI] at c
    obtain⟨h1,h2,_⟩:=c;rw[<-h2,jJ.1 h1];rfl
   ·split at c
    ·injection c with c;simp only[gI] at c
     obtain⟨h1,h2,_⟩:=c;rw[<-h2,h1];simp
    ·cases c
   ·cases c
  subst c0;obtain⟨news,A,k⟩:=BS c hp M hy W X (fun u hu=>by cases hu);have c1:news=[]:=by have :=k.length;exact jJ.1 (by simpa using this)
  subst c1;rw[<-G] at A;rcases C with⟨rfl,rfl,rfl,_,_⟩|⟨b,o,B,a,cap,rfl,rfl,Z,_⟩
  ·exact RunsTo.same M (by rw[Sem.run_bind,run_append_nothing w t K ty e i ht hi none 0 0 (aH _) L A];rfl) U rfl rfl
  ·exact RunsTo.same M (by rw[Sem.run_bind,run_append_nothing w t K ty e i ht hi (some a) n cap Z L A];rfl) U rfl rfl
 ·have H:iZ n m l E x xs ys p q f g get nid={v:= .slice nid 0 (n+m) l,pre:=p/\q/\((n+m)+(n+m)/4+192)*E<=281474976710656/\n+m<=281474976710656/\(∀ u∈ys,u.one=true)/\ys.length=m*l/\(∀ b∈f,∃ cs,get b=bK cs),fp:=f++g,old:=f.map fun b=>(b,none),news:=[bK (xs++ys)]}:=by unfold iZ;rw[if_neg Y]
  rw[H] at hp |-
  obtain⟨I,hq,c2,c3,a1,a6,c4⟩:=hp;obtain⟨news,A,k⟩:=BS c hq M hy W X a1;rw[<-G] at A;have N:∀ cap,cap<n+m->Builtin.nextslicecap (n+m) cap*i.bytes<=281474976710656:=fun cap hc=>by
   rw[b5];exact fF (Aj _ (TU hc)) c2
  have grow:∀ (base:Option Addr) (cap:Nat) (olds:List Value),rx= .slice base n cap->cap<n+m->VRs ρ dom w xs olds->(Builtin.firstCells i.size n (.slice base n cap)).run P w.drew= .ok olds.toArray w.drew->
    RunsTo P (do pure (.value (<-Builtin.append_ #[t,K] ty #[rx,L])):Sem Next) w ρ dom get nid {v:= .slice nid 0 (n+m) l,pre:=True,fp:=f++g,old:=f.map fun b=>(b,none),news:=[bK (xs++ys)]}:=by
   intro base cap olds c5 hc ho c6;subst c5;have hr:=run_append_grow_src w t K ty e i zv ht hi b4 base n cap olds c6 L m news A hc aa (N cap hc);have a7:n+m<=grownCap w (n+m) cap e:=nW _ _;have c7:xs.length=n*l:=by
    rcases C with⟨_,_,rfl,rfl,_⟩|⟨b,o,B,a,e5,rfl,_,_,_,rfl,c8,_⟩
    ·simp
    ·rw[c8] at I;simp;omega
   have c9:=ho.length;have a8:=k.length;have b0:VRs ρ dom w (xs++ys) (olds++news):=ho.append k;have b1:((olds++news).toArray++Builtin.zeroCells zv.cells (grownCap w (n+m) cap e-(n+m))).size=grownCap w (n+m) cap e*l:=by
    rw[Array.size_append,size_zeroCells,b6];simp only[List.size_toArray,aE,c9,a8,c7,a6];rw[<-rA,<-rA];congr 1;omega
   have R:=RunsTo.fresh (P:=P) (nid:=nid) (s:=(do pure (.value (<-Builtin.append_ #[t,K] ty #[.slice base n cap,L])):Sem Next)) (res:={v:= .slice nid 0 (n+m) l,news:=[bK (xs++ys)]}) (w1:=w.drew) (fz:=(0,0)) (cs:=xs++ys) M (Alike.drew w) hd (by rw[Sem.run_bind,hr];rfl)
    (fun i' v hv=>by
     obtain⟨r,g1,g2⟩:=b0.get hv;have e0:i'<(olds++news).length:=(ca.1 g1).1;exact⟨r,by rw[wG (by simpa using e0)];simpa using g1,g2⟩)
    (fun i _ h=>by have :=h.2;simp at this)
    (zB _ _ _ _ _ _ rfl a7 (by rw[b1];exact aH _) (fun i _ h=>by have :=h.2;simp at this)) rfl rfl
   obtain⟨ρ',w',r,g1,g2,g3,g4,g5⟩:=R;refine⟨ρ',w',r,g1,g2,g3.less (FT get f nid _),g4,g5.less fun b B hB e4=>⟨b,B,FT get f nid _ b B hB,e4,rfl⟩⟩
  have weaken:∀ {res D:Res} {s:Sem Next},RunsTo P s w ρ dom get nid res->res.v=D.v->res.old=D.old->res.news=D.news->RunsTo P s w ρ dom get nid D:=by
   intro res D s h e1 e2 e3;obtain⟨ρ',w',r,g1,g2,g3,g4,g5⟩:=h;exact⟨ρ',w',r,g1,g2,by rw[<-e2,<-e3];exact g3,by rw[<-e1,<-e3];exact g4,by rw[<-e2,<-e3];exact g5⟩
  rcases C with⟨rfl,rfl,rfl,rfl,rfl⟩|⟨b,o,B,a,cap,rfl,rfl,Z,J,rfl,rfl,rfl,ha⟩
  ·exact weaken (grow none 0 [] rfl aa VRs.nil (run_firstCells_none w.drew i.size 0 0 0)) rfl rfl rfl
  ·obtain⟨cs,O⟩:=c4 b ae;rw[O] at J;injection J with J
   subst J;simp only at I |-
   by_cases F:n+m<=cap
   ·have Q:cap≠0:=aa;obtain⟨rfl,S⟩:=ha Q;obtain⟨g1,g2,g3⟩:=Mg (nid':=nid) M O hd I k a6 F S;have a8:=k.length;have e6:n*l+m*l<=cap*l:=by rw[<-rA];exact Aj _ F
    have hr:=run_append_room_src w t K ty e i ht hi (ρ b).1 ((ρ b).2+o) n cap L m news A F
     (fun j hj=>by
      have :=(S (n*i.size+j) (by rw[G];omega)).1;rw[<-this];congr 2;simp;omega)
     (fun j hj=>by
      have :=(S (n*i.size+j) (by rw[G];omega)).2;rw[<-this];congr 2;omega)
    rw[G] at hr;exact⟨_,_,_,.inl (by rw[Sem.run_bind,hr];rfl),rD hd,g1,g3,g2⟩
   ·obtain⟨rs,g1,g2⟩:=M.range O o (n*l);refine weaken (grow (some a) cap rs rfl aa g1 ?_) rfl rfl rfl;have T:=g1.length;refine run_firstCells_some w.drew i.size n a n cap rs (by rw[T,G];simp at I |-;omega) (fun j u hu=>?_);have Q:cap≠0:=fun e=>by
     have :n=0:=aa;subst this;simp at T;subst T;simp at hu
    obtain⟨rfl,_⟩:=ha Q;rw[Addr.add_mid];simpa using g2 j u hu
theorem aeB {t X ty e:TypeId}{b o len:Nat}{cs:List V}{y:V}{rx x:Value}{m:Nat}{ys:List V}{q:Prop}{g:List Nat}(ht:P.underlying t=some (.slice e))(p:aR P e=some 1)
  (R:get b=bK cs) (A:kW 1 y=true) (c:iy get y=some (m,ys,q,g)) (hq:q) (Y:o+len<=cs.length) (K:ys.length=m) (C:∀ u∈ys,u.one=true)
  (S:VR ρ dom w (.slice b o len 1) rx) (z:VR ρ dom w y x) (L:MemRel ρ dom get w):
  RunsTo P (do pure (.value (<-Builtin.copy_ #[t,X] ty #[rx,x])):Sem Next) w ρ dom get nid {v:= .i64 (min m len:Nat),old:=[(b,bK (splice cs o (ys.take (min m len))))]}:=by
 unfold VR at S;obtain⟨_,a,cap,rfl,Z,ha⟩:=S;have D:∃ news,(Builtin.lenOf x).run P w= .ok m w/\(Builtin.firstCells 1 (min m len) x).run P w= .ok news.toArray w/\VRs ρ dom w (ys.take (min m len)) news:=by
  unfold iy at c;split at c
  ·injection c with c;simp only[gI] at c
   obtain⟨rfl,rfl,_⟩:=c;unfold VR at z;subst z;exact⟨[],rfl,run_firstCells_none w _ _ _ _,by simp;exact VRs.nil⟩
  ·rename_i st;injection c with c;simp only[gI] at c
   obtain⟨rfl,rfl,_⟩:=c;unfold VR at z;obtain⟨bs,rfl,rfl⟩:=z;refine⟨(byteCells bs).take (min (bytesOf bs).length len),by rw[kF];rfl,?_,(C2 bs).take _⟩;simp only[Builtin.firstCells,Sem.run_pure];congr 1;apply sW;unfold byteCells;rw[<-nc];simp
  ·rename_i T o' d a1;split at c
   case h_2=>cases c
   rename_i B hB;injection c with c;simp only[gI] at c
   obtain⟨rfl,rfl,rfl,rfl⟩:=c;simp[kW] at A;subst A;unfold VR at z;obtain⟨_,a',E,rfl,U,M⟩:=z;obtain⟨rs,g1,g2⟩:=L.range hB o' (d*1);have N:=g1.length;refine⟨rs.take (min d len),rfl,?_,g1.take _⟩;refine run_firstCells_some w 1 _ a' d E _ (by simp at N K |-;omega) (fun j u hu=>?_);rw[oK] at hu;split at hu
   case isFalse=>cases hu
   rename_i W;obtain⟨rfl,_⟩:=M aa;rw[Addr.add_mid];exact g2 j u hu
  ·cases c
 obtain⟨news,F,G,f⟩:=D;have a6:=f.length;have a7:(ys.take (min m len)).length=min m len:=by simp;omega
 have s:∀ u∈news,u.oneCell'=true:=fun u hu=>by
  obtain⟨i,hi,rfl⟩:=xE.1 hu;obtain⟨r,g1,g2⟩:=f.get (i:=i) (v:=(ys.take (min m len))[i]'(aa)) (aF aa);rw[aF hi] at g1;injection g1 with g1
  rw[g1];exact zC (C _ (AY (dd _))) g2
 have k:(sizeOf e).run P w= .ok 1 w:=by
  unfold aR at p;cases hi:P.info? e with
  |none=>rw[hi] at p;cases p
  |some i=>rw[hi] at p;injection p with p;simp[sizeOf,typeInfo,hi,p]
 by_cases hz:min m len=0
 ·have O:news=[]:=jJ.1 aa;subst O;have Q:ys.take (min m len)=[]:=jJ.1 aa;rw[Q];have H:splice cs o []=cs:=by unfold splice;simp
  rw[H];have n:bZ get [(b,bK cs)] nid []=get:=by
   rw[xu];funext T;by_cases e:T=b
   ·subst e;simp[R]
   ·simp[e]
  refine⟨ρ,w,.int .i64 (min m len:Nat),.inl ?_,fun _ _=>rfl,by rw[n];exact L.monoDom tf,by unfold VR;rfl,by rw[n];exact Frame.refl _ _ _⟩;have e0:Nat.min m len=0:=hz;have l:(Builtin.firstCells 1 (Nat.min m len) x).run P w= .ok #[] w:=G;simp[Builtin.copy_,run_underlying ht,F,k,l,storeCells,goInt]
 ·obtain⟨rfl,I⟩:=ha aa;obtain⟨g1,g2⟩:=yM (nid:=nid) (o:=o) L (fun _ h=>by cases h) R f aa;have J:=run_storeCells_cells (P:=P) (ρ b).1 ((ρ b).2+o) news 0 w (fun j W=>by
    have :=(I j aa).1;rw[<-this];congr 2) (fun j W=>by
    have :=(I j aa).2;rw[<-this];congr 2) s
  simp only[iQ] at J;refine⟨ρ,_,.int .i64 (min m len:Nat),.inl ?_,fun _ _=>rfl,g1,by unfold VR;rfl,g2⟩;have l:(Builtin.firstCells 1 (Nat.min m len) x).run P w= .ok news.toArray w:=G;simp[Builtin.copy_,run_underlying ht,F,k,l,J,goInt]
end
end
end Go.Vm
end
