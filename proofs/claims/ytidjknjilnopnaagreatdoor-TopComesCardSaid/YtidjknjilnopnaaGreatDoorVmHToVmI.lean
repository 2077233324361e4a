/- Proved: laws of a machine of values; no conditions but each theorem's own. -/
import Derived.Deep.Upon
import Derived.Test.YtidjknjilnopnaaGreatDoorVmG
set_option linter.unusedVariables false
set_option linter.unusedSimpArgs false
set_option maxRecDepth 20000
set_option maxHeartbeats 8000000
section
namespace Go.Vm
section
section
variable {ρ:Nat->Nat×Nat}{dom:Nat->Prop}{P:Program}{w:World}{get:Nat->Option aa}{nid:Nat}
theorem E7 (z:List V):∀ n,(n9 z n).length=n*z.length
 |0=>by simp[n9]
 |n+1=>by simp[n9,E7 z n,Nat.succ_mul];omega
theorem Nr (z:List V)(a:0<z.length):∀ (n i:Nat),i<n*z.length->(n9 z n)[i]?=z[i%z.length]?
 |0,i,h=>by simp at h
 |n+1,i,h=>by
  unfold n9;by_cases b:i<z.length
  .rw[kY b,lk b]
  .rw[iy I,Nr z a n (i-z.length) (by rw[Nat.succ_mul] at h;omega)];rw[<-Nat.mod_eq_sub_mod I]
theorem R5 {z:List V}{a:Array Value}(h:ao ρ dom w z a.toList)(d:0<z.length)(n:Nat):ao ρ dom w (n9 z n) (madeCells a (n*z.length)).toList:=by
 have e:a.size=z.length:=by have :=h.length;simpa using this
 refine ao.yz (by simp[size_madeCells,E7]) fun i v r c b=>?_
 have g:i<n*z.length:=by
  have :=(cA.1 c).1
  rwa [E7] at this
 rw[Nr z d n i g] at c;obtain⟨f,j,l⟩:=h.get c;have :(madeCells a (n*z.length)).toList[i]?=some a[i%a.size]!:=by
  unfold madeCells;simp[g]
 rw[this] at b;injection b with b
 have k:i%z.length<a.size:=by rw[e];exact AH _ d
 rw[e] at b;simp[k] at b j;rw[<-b,j];exact l
theorem Tw (w1:World)(c:Array Value)(e:TypeId)(fz:Nat×Nat)(n:Nat)(h:n<=c.size)(b:∀ i,i<n->¬ (fz.1<=i/\i<fz.2)):(w1.alloc (.cells c e fz)).there w1.heap.size 0 n:=fun j a=>by
 rw[cell?_alloc_fz,frozen?_alloc_fz];have :=b j a;simp only[eX];exact⟨cp,by simpa using this⟩
theorem Dp {w1:World}(c:Array Value)(e:TypeId)(fz:Nat×Nat)(n cap s:Nat)(a:w1.heap.size=w.heap.size)(b:n<=cap)(h:cap*s<=c.size)(d:∀ i,i<cap*s->¬ (fz.1<=i/\i<fz.2)):
  VR (nU ρ nid (w.heap.size,0)) (gr dom nid 1) (w1.alloc (.cells c e fz)) (.slice nid 0 n s) (.slice (some ⟨w.heap.size,0,none⟩) n cap):=by
 unfold VR;refine⟨.inr ⟨I,I⟩,_,_,rfl,b,fun _=>?_⟩;rw[ku];refine⟨rfl,?_⟩;rw[<-a];exact Tw w1 c e fz _ h d
theorem agj {t e:TypeId}{s b:Nat}{z:List V}{n:Int}(ht:P.underlying t=some (.slice e))(g:bU P e=some s)(j:qM P e=some b)(o:dz P e=some z)(k:z.length=s)(h0:0<s)
  (p:0<=n) (q:n*b<=140737488355328) (D:n<=140737488355328) (E:bS ρ dom get w) (u:¬ dom nid):
  bF P (do pure (.value (<-Instr.makeSlice t (.int .i64 n) (.int .i64 n))):Sem Next) w ρ dom get nid {v:= .slice nid 0 n.toNat s,news:=[bK (n9 z n.toNat)]}:=by
 obtain⟨i,d,C,l,rfl⟩:=BT o;have f:i.size=s:=by unfold bU at g;rw[C] at g;injection g
 have m:i.bytes=b:=by unfold qM at j;rw[C] at j;injection j
 have x:=run_make (P:=P) w t e i d ht C l .i64 .i64 n n p (dY _) (by rw[m,yg];omega) I;have y:d.cells.size=s:=by simpa using k
 refine bF.fresh (w1:=w) (c:=madeCells d.cells (n.toNat*i.size)) (e:=e) (fz:=(0,0)) (cs:=n9 (d.cells.toList.map ofValue) n.toNat) E (Alike.refl w) u (by rw[dx,x];rfl) (fun B v A=>?_) (fun i _ h=>by have :=h.2;simp at this) (Dp _ _ _ _ _ _ rfl (bz _) (by rw[size_madeCells,f];exact bz _) (fun i _ h=>by have :=h.2;simp at this)) rfl rfl;have a:=R5 (ρ:=ρ) (dom:=dom) (w:=w) (C3 d) (by rw[k];exact h0) n.toNat;rw[k,<-f] at a;obtain⟨r,F,G⟩:=a.get A;exact⟨r,by simpa using F,G⟩
theorem aaw {t e:TypeId}{len s:Nat}{z cs:List V}{parts:List (Nat×V)}{d:Array (Nat×Value)}(ht:P.underlying t=some (.slice e))(m:bU P e=some s)(B:dz P e=some z)(k:z.length=s)(h0:0<s)(T:len*s<=1048576)
  (n:d.size=parts.length) (C:∀ (i:Nat) x y,parts[i]?=some x->d.toList[i]?=some y->x.1=y.1/\VR ρ dom w x.2 y.2)
  (Q:qx (fun i=>some (i*s,s)) (n9 z len) parts=some cs) (W:bS ρ dom get w) (D:¬ dom nid):
  bF P (do pure (.value (<-Instr.buildSlice t len d)):Sem Next) w ρ dom get nid {v:= .slice nid 0 len s,news:=[bK cs]}:=by
 obtain⟨i,l,O,o,rfl⟩:=BT B;have q:i.size=s:=by unfold bU at m;rw[O] at m;injection m
 have E:l.cells.size=s:=by simpa using k
 have g:=R5 (ρ:=ρ) (dom:=dom) (w:=w) (C3 l) (by rw[k];exact h0) len;rw[k] at g;obtain⟨R,L,S⟩:=Ew parts d.toList _ cs (madeCells l.cells (len*s)) (by simpa using n) C Q g;have K:R.size=len*s:=by
  have a:=S.length;have b:∀ (M:List (Nat×V)) (N c:List V),qx (fun i=>some (i*s,s)) N M=some c->c.length=N.length:=by
   intro M;induction M with
   |nil=>intro N c h;simp only[qx,eg] at h;rw[h]
   |cons p M ih=>
    intro N c h;obtain⟨i,v⟩:=p;simp only[qx] at h;split at h
    .rename_i hc;rw[ih _ _ h,xT I]
    .cases h
  have c:=b _ _ _ Q;rw[E7,k] at c;simp at a;omega
 refine bF.fresh (w1:=w) (c:=R) (e:=e) (fz:=(0,0)) (cs:=cs) W (Alike.refl w) D ?_ (fun H v F=>?_) (fun i _ h=>by have :=h.2;simp at this) (Dp _ _ _ _ len _ rfl (bz _) (by rw[K];exact bz _) (fun i _ h=>by have :=h.2;simp at this)) rfl rfl
 .have u:¬ (16777216<len*s):=I;have f:(sizeOf e).run P w= .ok s w:=by simp[sizeOf,typeInfo,O,q]
  by_cases j:len*s=0
  .have A:len=0:=by
    rcases Nat.mul_eq_zero.1 j with h|h
    .exact h
    .omega
   subst A;rw[Nat.zero_mul] at L;have G:madeCells l.cells 0=#[]:=by simp[madeCells,Array.range_zero']
   rw[G] at L;simp[Instr.buildSlice,dS ht,f,newRow,Array.range_zero',L]
  .unfold madeCells at L;simp[Instr.buildSlice,dS ht,f,u,j,zeroValue,typeInfo,O,o,newRow,L]
 .obtain⟨r,X,Y⟩:=S.get F;exact⟨r,by simpa using X,Y⟩
theorem IT (b:ByteArray):ao ρ dom w ((bytesOf b).map .u8) (byteCells b):=by
 unfold bytesOf byteCells;rw[pQ];refine ao.yz J fun i v r a c=>?_
 rw[dU] at a c;cases d:b.data.toList[i]? with
 |none=>rw[d] at a;cases a
 |some x=>
  rw[d] at a c;injection a with a;injection c with c
  subst a;subst c;show VR ρ dom w (.u8 _) _;unfold VR;rfl
theorem JO {y:V}{t:Value}{m s:Nat}{ys:List V}{q:Prop}{g:List Nat}{tx:TypeId}(h:mD get y=some (m,ys,q,g))(D:q)(O:bS ρ dom get w)(d:VR ρ dom w y t)(k:ql s y=true)
  (c:(∃ l,P.underlying tx=some (.slice l))/\qm y=false\/P.underlying tx=some .string/\qm y=true) (h1:∀ u∈ys,u.one=true):
  ∃ F,Src P s tx t m F w/\ao ρ dom w ys F:=by
 have f:∀ (L:List V) (E:List Value),ao ρ dom w L E->(∀ u∈L,u.one=true)->∀ u∈E,u.oneCell'=true:=fun L E x R u M=>by
  obtain⟨i,T,rfl⟩:=Cj.1 M;have n:=x.length;obtain⟨r,G,N⟩:=x.get (i:=i) (v:=L[i]'(I)) J;rw[bn T] at G;injection G with G
  rw[G];exact DR (R _ (eM _)) N
 unfold mD at h;split at h
 .injection h with h
  simp only[lW] at h;obtain⟨rfl,rfl,_,rfl⟩:=h;unfold VR at d;subst d;rcases c with⟨⟨l,c⟩,_⟩|⟨_,c⟩
  .exact⟨[],Src.ofNil w c 0,ao.nil⟩
  .simp[qm] at c
 .rename_i S;injection h with h
  simp only[lW] at h;obtain⟨rfl,rfl,_,rfl⟩:=h;unfold VR at d;obtain⟨b,rfl,rfl⟩:=d;simp[ql] at k;subst k;rcases c with⟨_,c⟩|⟨c,_⟩
  .simp[qm] at c
  .exact⟨byteCells b,by rw[pR];exact Src.ofString w c b,IT b⟩
 .rename_i b o H p;split at h
  case h_2=>cases h
  rename_i B z;injection h with h
  simp only[lW] at h;obtain⟨rfl,rfl,rfl,rfl⟩:=h;simp[ql] at k;subst k;unfold VR at d;obtain⟨_,a,K,rfl,A,C⟩:=d;rcases c with⟨⟨l,c⟩,_⟩|⟨_,c⟩
  case inr=>simp[qm] at c
  obtain⟨E,G,N⟩:=O.range z o (H*p);have n:=G.length;refine⟨E,Src.ofSlice w c a H K E (by rw[n];simp;omega) (fun j u M=>?_) (f _ _ G h1),G⟩;have Q:K≠0:=fun e=>by
   have :H=0:=I;subst this;have :E=[]:=by
    have :E.length=0:=by rw[n];simp
    exact nK.1 this
   subst this;simp at M
  obtain⟨rfl,_⟩:=C Q;rw[xU];exact N j u M
 .cases h
theorem ago {b o n m s nid':Nat}{cap:Nat}{cs ys:List V}{S:List Value}(T:bS ρ dom get w)(y:get b=bK cs)(K:¬ dom nid')(a7:o+n*s<=cs.length)(A:ao ρ dom w ys S)(M:ys.length=m*s)(k:n+m<=cap)
  (p:w.there (ρ b).1 ((ρ b).2+o) (cap*s)):
  bS (nU ρ nid' ((ρ b).1,(ρ b).2+o)) (gr dom nid' 1) (eu get [(b,none)] nid' [bK ((cs.drop o).take (n*s)++ys)]) (w.setCells (ρ b).1 ((ρ b).2+o+n*s) S)/\
  Frame ρ get w (nU ρ nid' ((ρ b).1,(ρ b).2+o)) (eu get [(b,none)] nid' [bK ((cs.drop o).take (n*s)++ys)]) (w.setCells (ρ b).1 ((ρ b).2+o+n*s) S)/\
  VR (nU ρ nid' ((ρ b).1,(ρ b).2+o)) (gr dom nid' 1) (w.setCells (ρ b).1 ((ρ b).2+o+n*s) S) (.slice nid' 0 (n+m) s) (.slice (some ⟨(ρ b).1,(ρ b).2+o,none⟩) (n+m) cap):=by
 have N:=A.length;have a6:n*s+m*s<=cap*s:=by rw[<-As];exact EY _ k
 have C:=AB (ρ b).1 ((ρ b).2+o+n*s) S w;have Q:=xC (ρ:=ρ) (x:=((ρ b).1,(ρ b).2+o)) K;have O:b≠nid':=fun e=>K (e▸T.has b _ y)
 have D:eu get [(b,none)] nid' [bK ((cs.drop o).take (n*s)++ys)]=fun a=>if a=nid' then bK ((cs.drop o).take (n*s)++ys) else if a=b then none else get a:=by
  funext a;unfold eu;by_cases h:a=nid'
  .subst h;simp
  .rw[aq cp,aq h];rfl
 rw[D];have c:∀ a B,a≠nid'->(fun a=>if a=nid' then bK ((cs.drop o).take (n*s)++ys) else if a=b then none else get a) a=some B->a≠b/\get a=some B:=fun a B Y X=>by
  simp only[aq Y] at X;by_cases e:a=b
  .rw[aM e] at X;cases X
  .rw[aq e] at X;exact⟨e,X⟩
 have q:∀ B,(fun a=>if a=nid' then bK ((cs.drop o).take (n*s)++ys) else if a=b then none else get a) nid'=some B->B=⟨false,(cs.drop o).take (n*s)++ys,none⟩:=fun B h=>by simpa using h.symm
 have f:∀ a B,a≠b->get a=some B->(ρ a).1≠(ρ b).1:=fun a B Y X e=>T.inj b a _ B y X rfl (fun x=>Y x.symm) e.symm
 have d:((cs.drop o).take (n*s)).length=n*s:=cp;refine⟨⟨fun a B g=>?_,fun a B g=>?_,fun b1 l B1 B2 Y X z E=>?_,fun a B g i v t=>?_,fun a B g z i hi=>?_,fun a B m g u=>?_⟩,
  ⟨(yx _ _ _ _).1,(yx _ _ _ _).2.1,(yx _ _ _ _).2.2,by rw[By];exact bz _,fun r z G=>?_,C,fun a B g z=>?_⟩,?_⟩
 .by_cases e:a=nid'
  .exact .inr ⟨I,I⟩
  .exact .inl (T.has a B (c a B e g).2)
 .rw[By];by_cases e:a=nid'
  .subst e;rw[ku];exact T.lt b _ y
  .have :=(c a B e g).2;rw[Q a (T.has a B this)];exact T.lt a B this
 .by_cases L:b1=nid'
  .subst L;have F:l≠b1:=fun e=>E e.symm
   obtain⟨W,R⟩:=c l B2 F X;rw[ku,Q l (T.has l B2 R)];exact fun x=>f l B2 W R x.symm
  .obtain⟨W,R⟩:=c b1 B1 L Y;rw[Q b1 (T.has b1 B1 R)];by_cases F:l=nid'
   .subst F;rw[ku];exact f b1 B1 W R
   .obtain⟨g3,g4⟩:=c l B2 F X;rw[Q l (T.has l B2 g4)];exact T.inj b1 l B1 B2 R g4 z E
 .by_cases e:a=nid'
  .subst e;rw[q B g] at t;rw[ku];simp only at t |-
   by_cases hi:i<n*s
   .rw[kY I,uE,aM hi,mA] at t;obtain⟨r,W,R⟩:=T.cell b _ y (o+i) v t;refine⟨r,?_,R.mono Q Al C⟩;rw[FJ _ _ _ _ _ (fun _ _=>by simp only;omega)];rw[<-W];congr 2;omega
   .rw[iy I,d] at t;obtain⟨r,W,R⟩:=A.get t;refine⟨r,?_,R.mono Q Al C⟩;have H:i-n*s<S.length:=(cA.1 W).1;have :=World.cell?_setCells_in (ρ b).1 S ((ρ b).2+o+n*s) w (fun j H=>by
     have :=(p (n*s+j) I).1;rw[<-this];congr 2;simp;omega) (i-n*s) H
    rw[show(ρ b).2+o+n*s+(i-n*s)=(ρ b).2+o+i by omega] at this;rw[this,<-W];simp[H]
  .obtain⟨W,R⟩:=c a B e g;obtain⟨r,Y,X⟩:=T.cell a B R i v t;refine⟨r,?_,X.mono Q Al C⟩;rw[Q a (T.has a B R),FJ _ _ _ _ _ (fun x _=>absurd x (f a B W R))];exact Y
 .rw[E5];by_cases e:a=nid'
  .subst e;rw[q B g] at hi;rw[ku];simp only[bA,d] at hi;exact(p i I).2
  .obtain⟨W,R⟩:=c a B e g;rw[Q a (T.has a B R)];exact T.free a B R z i hi
 .by_cases e:a=nid'
  .subst e;rw[q B g] at u;cases u
  .obtain⟨W,R⟩:=c a B e g;rw[Q a (T.has a B R)];exact tj (T.gY a B m R u) (A1 _ _ _ _ _ (f a B W R))
 .exact A1 _ _ _ _ _ (fun e=>G b _ y rfl e.symm)
 .by_cases e:a=nid'
  .subst e;rw[ku];exact .inl ⟨b,_,y,rfl,rfl⟩
  .obtain⟨W,R⟩:=c a B e g;exact .inl ⟨a,B,R,z,by rw[Q a (T.has a B R)]⟩
 .unfold VR;refine⟨.inr ⟨I,I⟩,_,_,rfl,k,fun _=>?_⟩;rw[ku];exact⟨rfl,C.there p⟩
end
end
section
section
variable {ρ:Nat->Nat×Nat}{dom:Nat->Prop}{P:Program}{w:World}{get:Nat->Option aa}{nid:Nat}
theorem ZU {a old:Nat}(h:old<a):Builtin.nextslicecap a old<=a+a/4+192:=by
 unfold Builtin.nextslicecap;split
 .omega
 .split
  .omega
  .rw[growBy_four]
   repeat' split
   all_goals omega
theorem wS {x:V}{r:Value}{n:Int}(h:x.nat?=some n)(a:VR ρ dom w x r):∃ k,r= .int k n:=by
 cases x<;>simp only[V.nat?,eg,seval] at h<;>subst h<;>unfold VR at a<;>exact⟨_,a⟩
theorem Nk (get:Nat->Option aa)(f:List Nat)(nid:Nat)(x:Option aa):∀ b B,eu get (f.map fun b=>(b,none)) nid [x] b=some B->eu get [] nid [x] b=some B:=fun b B h=>by
 unfold eu at*;split at h
 .rename_i a;rw[aM a];exact h
 .rename_i a;rw[aq a];have :∀ (f:List Nat) (d:Option aa),lz (f.map fun b=>(b,none)) b d=some B->d=some B:=by
   intro f;induction f with
   |nil=>intro d h;exact h
   |cons i f ih=>
    intro d h;simp only[dD,lz] at h;split at h
    .cases h
    .exact ih d h
  exact this f _ h
theorem QZ {tx:TypeId}{y:V}(h:Ai P tx y=true):(∃ a,P.underlying tx=some (.slice a))/\qm y=false\/P.underlying tx=some .string/\qm y=true:=by
 unfold Ai at h;cases hu:P.underlying tx with
 |none=>rw[hu] at h;cases h
 |some d=>
  rw[hu] at h;cases d
  case string=>cases y<;>first|exact .inr ⟨rfl,rfl⟩|cases h
  case slice e=>refine .inl ⟨⟨e,rfl⟩,?_⟩;cases y<;>first|rfl|cases h
  all_goals cases h
theorem ab9 {t tx ty e:TypeId}{x y:V}{rx M:Value}{n m l E:Nat}{xs ys z:List V}{p q:Prop}{f g:List Nat}(ht:P.underlying t=some (.slice e))(hs:bU P e=some l)(hb:qM P e=some E)(hz:dz P e=some z)
  (b5:z.length=l) (h0:0<l) (b6:qm x=false) (h8:ql l x=true) (X:ql l y=true) (hk:Ai P tx y=true) (d:mD get x=some (n,xs,p,f)) (c:mD get y=some (m,ys,q,g))
  (hp:(nM n m l E x xs ys p q f g get nid).pre) (W:VR ρ dom w x rx) (hy:VR ρ dom w y M) (hm:bS ρ dom get w) (hd:¬ dom nid):
  bF P (do pure (.value (<-Builtin.append_ #[t,tx] ty #[rx,M])):Sem Next) w ρ dom get nid (nM n m l E x xs ys p q f g get nid):=by
 obtain⟨i,zv,hi,c0,rfl⟩:=BT hz;have G:i.size=l:=by unfold bU at hs;rw[hi] at hs;injection hs
 have c1:i.bytes=E:=by unfold qM at hb;rw[hi] at hb;injection hb
 have c2:zv.cells.size=l:=by simpa using b5
 have Y:=QZ hk;have C:(x= .bG/\rx= .slice none 0 0/\n=0/\xs=[]/\f=[])\/∃ b o B a e9,x= .slice b o n l/\rx= .slice (some a) n e9/\n<=e9/\get b=some B/\xs=(B.cs.drop o).take (n*l)/\p=(o+n*l<=B.cs.length)/\f=[b]/\
   (e9≠0->a=⟨(ρ b).1,(ρ b).2+o,none⟩/\w.there (ρ b).1 ((ρ b).2+o) (e9*l)):=by
  unfold mD at d;split at d
  .injection d with d
   simp only[lW] at d;obtain⟨rfl,rfl,_,rfl⟩:=d;unfold VR at W;exact .inl ⟨rfl,W,rfl,rfl,rfl⟩
  .simp[qm] at b6
  .split at d
   case h_2=>cases d
   rename_i B hB;injection d with d
   simp only[lW] at d;obtain⟨rfl,rfl,rfl,rfl⟩:=d;simp[ql] at h8;subst h8;unfold VR at W;obtain⟨_,a,e9,rfl,h1,h2⟩:=W;exact .inr ⟨_,_,B,a,e9,rfl,rfl,h1,hB,rfl,rfl,rfl,h2⟩
  .cases d
 by_cases a6:m=0
 .subst a6;have H:nM n 0 l E x xs ys p q f g get nid={v:=x,pre:=q,fp:=f++g}:=by unfold nM;rw[aM rfl]
  rw[H] at hp |-
  have c3:ys=[]:=by
   unfold mD at c;split at c
   .injection c with c;simp only[lW] at c;exact c.2.1.symm
   .injection c with c;simp only[lW] at c
    obtain⟨h1,h2,_⟩:=c;rw[<-h2,nK.1 h1];rfl
   .split at c
    .injection c with c;simp only[lW] at c
     obtain⟨h1,h2,_⟩:=c;rw[<-h2,h1];simp
    .cases c
   .cases c
  subst c3;obtain⟨news,A,k⟩:=JO c hp hm hy X Y (fun u hu=>by cases hu);have c4:news=[]:=by have :=k.length;exact nK.1 (by simpa using this)
  subst c4;rw[<-G] at A;rcases C with⟨rfl,rfl,rfl,_,_⟩|⟨b,o,B,a,e9,rfl,rfl,h9,_⟩
  .exact bF.same hm (by rw[dx,run_append_nothing w t tx ty e i ht hi none 0 0 (bz _) M A];rfl) W rfl rfl
  .exact bF.same hm (by rw[dx,run_append_nothing w t tx ty e i ht hi (some a) n e9 h9 M A];rfl) W rfl rfl
 .have H:nM n m l E x xs ys p q f g get nid={v:= .slice nid 0 (n+m) l,pre:=p/\q/\((n+m)+(n+m)/4+192)*E<=281474976710656/\n+m<=281474976710656/\(∀ u∈ys,u.one=true)/\ys.length=m*l/\(∀ b∈f,∃ cs,get b=bK cs),fp:=f++g,old:=f.map fun b=>(b,none),news:=[bK (xs++ys)]}:=by unfold nM;rw[aq a6]
  rw[H] at hp |-
  obtain⟨K,hq,c5,c6,a7,a8,c7⟩:=hp;obtain⟨news,A,k⟩:=JO c hq hm hy X Y a7;rw[<-G] at A;have N:∀ e9,e9<n+m->Builtin.nextslicecap (n+m) e9*i.bytes<=281474976710656:=fun e9 hc=>by
   rw[c1];exact j7 (EY _ (ZU hc)) c5
  have h6:∀ (h4:Option Addr) (e9:Nat) (h3:List Value),rx= .slice h4 n e9->e9<n+m->ao ρ dom w xs h3->(Builtin.firstCells i.size n (.slice h4 n e9)).run P w.drew= .ok h3.toArray w.drew->
    bF P (do pure (.value (<-Builtin.append_ #[t,tx] ty #[rx,M])):Sem Next) w ρ dom get nid {v:= .slice nid 0 (n+m) l,pre:=True,fp:=f++g,old:=f.map fun b=>(b,none),news:=[bK (xs++ys)]}:=by
   intro h4 e9 h3 c8 hc ho c9;subst c8;have hr:=run_append_grow_src w t tx ty e i zv ht hi c0 h4 n e9 h3 c9 M m news A hc I (N e9 hc);have b0:n+m<=grownCap w (n+m) e9 e:=ut _ _;have e0:xs.length=n*l:=by
    rcases C with⟨_,_,rfl,rfl,_⟩|⟨b,o,B,a,e8,rfl,_,_,_,rfl,e4,_⟩
    .simp
    .rw[e4] at K;simp;omega
   have e5:=ho.length;have b2:=k.length;have b3:ao ρ dom w (xs++ys) (h3++news):=ho.append k;have b4:((h3++news).toArray++Builtin.zeroCells zv.cells (grownCap w (n+m) e9 e-(n+m))).size=grownCap w (n+m) e9 e*l:=by
    rw[Array.size_append,size_zeroCells,c2];simp only[List.size_toArray,bA,e5,b2,e0,a8];rw[<-As,<-As];congr 1;omega
   have R:=bF.fresh (P:=P) (nid:=nid) (s:=(do pure (.value (<-Builtin.append_ #[t,tx] ty #[.slice h4 n e9,M])):Sem Next)) (res:={v:= .slice nid 0 (n+m) l,news:=[bK (xs++ys)]}) (w1:=w.drew) (fz:=(0,0)) (cs:=xs++ys) hm (Alike.drew w) hd (by rw[dx,hr];rfl)
    (fun i' v hv=>by
     obtain⟨r,g1,g2⟩:=b3.get hv;have e6:i'<(h3++news).length:=(cA.1 g1).1;exact⟨r,by rw[BN (by simpa using e6)];simpa using g1,g2⟩)
    (fun i _ h=>by have :=h.2;simp at this)
    (Dp _ _ _ _ _ _ rfl b0 (by rw[b4];exact bz _) (fun i _ h=>by have :=h.2;simp at this)) rfl rfl
   obtain⟨h7,w',r,g1,g2,g3,g4,g5⟩:=R;refine⟨h7,w',r,g1,g2,g3.less (Nk get f nid _),g4,g5.less fun b B hB e7=>⟨b,B,Nk get f nid _ b B hB,e7,rfl⟩⟩
  have h5:∀ {res D:bu} {s:Sem Next},bF P s w ρ dom get nid res->res.v=D.v->res.old=D.old->res.news=D.news->bF P s w ρ dom get nid D:=by
   intro res D s h e1 e2 e3;obtain⟨h7,w',r,g1,g2,g3,g4,g5⟩:=h;exact⟨h7,w',r,g1,g2,by rw[<-e2,<-e3];exact g3,by rw[<-e1,<-e3];exact g4,by rw[<-e2,<-e3];exact g5⟩
  rcases C with⟨rfl,rfl,rfl,rfl,rfl⟩|⟨b,o,B,a,e9,rfl,rfl,h9,L,rfl,rfl,rfl,ha⟩
  .exact h5 (h6 none 0 [] rfl I ao.nil (run_firstCells_none w.drew i.size 0 0 0)) rfl rfl rfl
  .obtain⟨cs,O⟩:=c7 b J;rw[O] at L;injection L with L
   subst L;simp only at K |-
   by_cases F:n+m<=e9
   .have Q:e9≠0:=I;obtain⟨rfl,S⟩:=ha Q;obtain⟨g1,g2,g3⟩:=ago (nid':=nid) hm O hd K k a8 F S;have b2:=k.length;have j1:n*l+m*l<=e9*l:=by rw[<-As];exact EY _ F
    have hr:=run_append_room_src w t tx ty e i ht hi (ρ b).1 ((ρ b).2+o) n e9 M m news A F
     (fun j hj=>by
      have :=(S (n*i.size+j) (by rw[G];omega)).1;rw[<-this];congr 2;simp;omega)
     (fun j hj=>by
      have :=(S (n*i.size+j) (by rw[G];omega)).2;rw[<-this];congr 2;omega)
    rw[G] at hr;exact⟨_,_,_,.inl (by rw[dx,hr];rfl),xC hd,g1,g3,g2⟩
   .obtain⟨rs,g1,g2⟩:=hm.range O o (n*l);refine h5 (h6 (some a) e9 rs rfl I g1 ?_) rfl rfl rfl;have T:=g1.length;refine run_firstCells_some w.drew i.size n a n e9 rs (by rw[T,G];simp at K |-;omega) (fun j u hu=>?_);have Q:e9≠0:=fun e=>by
     have :n=0:=I;subst this;simp at T;subst T;simp at hu
    obtain⟨rfl,_⟩:=ha Q;rw[xU];simpa using g2 j u hu
theorem adS {t tx ty e:TypeId}{b o len:Nat}{cs:List V}{y:V}{rx x:Value}{m:Nat}{ys:List V}{q:Prop}{g:List Nat}(ht:P.underlying t=some (.slice e))(p:bU P e=some 1)
  (S:get b=bK cs) (A:ql 1 y=true) (c:mD get y=some (m,ys,q,g)) (hq:q) (b3:o+len<=cs.length) (M:ys.length=m) (C:∀ u∈ys,u.one=true)
  (T:VR ρ dom w (.slice b o len 1) rx) (z:VR ρ dom w y x) (hm:bS ρ dom get w):
  bF P (do pure (.value (<-Builtin.copy_ #[t,tx] ty #[rx,x])):Sem Next) w ρ dom get nid {v:= .i64 (min m len:Nat),old:=[(b,bK (cC cs o (ys.take (min m len))))]}:=by
 unfold VR at T;obtain⟨_,a,b4,rfl,a6,ha⟩:=T;have D:∃ b2,(Builtin.lenOf x).run P w= .ok m w/\(Builtin.firstCells 1 (min m len) x).run P w= .ok b2.toArray w/\ao ρ dom w (ys.take (min m len)) b2:=by
  unfold mD at c;split at c
  .injection c with c;simp only[lW] at c
   obtain⟨rfl,rfl,_⟩:=c;unfold VR at z;subst z;exact⟨[],rfl,run_firstCells_none w _ _ _ _,by simp;exact ao.nil⟩
  .rename_i st;injection c with c;simp only[lW] at c
   obtain⟨rfl,rfl,_⟩:=c;unfold VR at z;obtain⟨bs,rfl,rfl⟩:=z;refine⟨(byteCells bs).take (min (bytesOf bs).length len),by rw[pR];rfl,?_,(IT bs).take _⟩;simp only[Builtin.firstCells,dI];congr 1;apply Az;unfold byteCells;rw[<-sS];simp
  .rename_i W o' d a7;split at c
   case h_2=>cases c
   rename_i B hB;injection c with c;simp only[lW] at c
   obtain⟨rfl,rfl,rfl,rfl⟩:=c;simp[ql] at A;subst A;unfold VR at z;obtain⟨_,a',E,rfl,X,N⟩:=z;obtain⟨rs,g1,g2⟩:=hm.range hB o' (d*1);have O:=g1.length;refine⟨rs.take (min d len),rfl,?_,g1.take _⟩;refine run_firstCells_some w 1 _ a' d E _ (by simp at O M |-;omega) (fun j u hu=>?_);rw[uE] at hu;split at hu
   case isFalse=>cases hu
   rename_i Y;obtain⟨rfl,_⟩:=N I;rw[xU];exact g2 j u hu
  .cases c
 obtain⟨b2,F,G,f⟩:=D;have a8:=f.length;have b0:(ys.take (min m len)).length=min m len:=cp;have s:∀ u∈b2,u.oneCell'=true:=fun u hu=>by
  obtain⟨i,hi,rfl⟩:=Cj.1 hu;obtain⟨r,g1,g2⟩:=f.get (i:=i) (v:=(ys.take (min m len))[i]'(I)) (bn I);rw[bn hi] at g1;injection g1 with g1
  rw[g1];exact DR (C _ (F3 (eM _))) g2
 have k:(sizeOf e).run P w= .ok 1 w:=by
  unfold bU at p;cases hi:P.info? e with
  |none=>rw[hi] at p;cases p
  |some i=>rw[hi] at p;injection p with p;simp[sizeOf,typeInfo,hi,p]
 by_cases hz:min m len=0
 .have Q:b2=[]:=nK.1 I;subst Q;have R:ys.take (min m len)=[]:=nK.1 I;rw[R];have H:cC cs o []=cs:=by unfold cC;simp
  rw[H];have n:eu get [(b,bK cs)] nid []=get:=by
   rw[CX];funext W;by_cases e:W=b
   .subst e;simp[S]
   .simp[e]
  refine⟨ρ,w,.int .i64 (min m len:Nat),.inl ?_,fun _ _=>rfl,by rw[n];exact hm.sn Al,by unfold VR;rfl,by rw[n];exact Frame.refl _ _ _⟩;have e0:Nat.min m len=0:=hz;have l:(Builtin.firstCells 1 (Nat.min m len) x).run P w= .ok #[] w:=G;simp[Builtin.copy_,dS ht,F,k,l,storeCells,goInt]
 .obtain⟨rfl,K⟩:=ha I;obtain⟨g1,g2⟩:=DH (nid:=nid) (o:=o) hm (fun _ h=>by cases h) S f I;have L:=HE (P:=P) (ρ b).1 ((ρ b).2+o) b2 0 w (fun j Y=>by
    have :=(K j I).1;rw[<-this];congr 2) (fun j Y=>by
    have :=(K j I).2;rw[<-this];congr 2) s
  simp only[nJ] at L;refine⟨ρ,_,.int .i64 (min m len:Nat),.inl ?_,fun _ _=>rfl,g1,by unfold VR;rfl,g2⟩;have l:(Builtin.firstCells 1 (Nat.min m len) x).run P w= .ok b2.toArray w:=G;simp[Builtin.copy_,dS ht,F,k,l,L,goInt]
end
end
end Go.Vm
end
