/- Proved: laws of a machine of values; no conditions but each theorem's own. -/
import Derived.MapKept
import Derived.ChangeMaps4
import Derived.WideKeyRuns
import Derived.Test.YtidjknjilnopnaaGreatDoorVmJ
set_option linter.unusedVariables false
set_option linter.unusedSimpArgs false
set_option maxRecDepth 20000
set_option maxHeartbeats 8000000
section
namespace Go.Vm
section
open Go.ChangeMaps (setBlock)
theorem G0 {P:Program}{t:TypeId}(h:xM P t=true):∃ k e,P.underlying t=some (.map k e)/\P.underlying k=some (.int .u32)/\∀ w:World,(zeroValue e).run P w= .ok (.int .i64 0) w:=by
 unfold xM at h;split at h
 case h_2=>cases h
 rename_i k e f;rw[lY] at h;obtain⟨c,d⟩:=h;split at c
 case h_2=>cases c
 rename_i b;split at d
 case h_2=>cases d
 rename_i a;refine⟨k,e,f,b,fun w=>?_⟩;cases hi:P.info? e with
 |none=>rw[hi] at a;cases a
 |some i=>
  rw[hi] at a;have a:i.zero=some (.int .i64 0):=a;simp[zeroValue,typeInfo,hi,a]
def kf (k:aQ):List (Nat×aQ×Int)->Nat
 |[]=>0
 |e::l=>if e.2.1=k then 0 else kf k l+1
theorem NL (k:aQ):∀ (l:List (Nat×aQ×Int)) (i:Nat),Instr.findNow (.int .u32) (.int .u32 (k.toNat:Int)) (l.map hO) i=some ((gk k l).map fun n=>(i+kf k l,.int .i64 n))
 |[],i=>rfl
 |e::l,i=>by
  rw[dD];unfold Instr.findNow;have a:Instr.sameNow (.int .u32) (.int .u32 (k.toNat:Int)) (hO e).key=some (decide (e.2.1=k)):=by
   unfold hO Instr.sameNow;simp only[eJ];congr 1;rw[qw,Br,Fm];constructor
   .intro h;exact(iU I).symm
   .intro h;rw[h]
  rw[a];unfold gk kf;by_cases h:e.2.1=k
  .rw[nX h,aM h,aM h];rfl
  .rw[oZ h,aq h,aq h];show Instr.findNow _ _ _ _=_;rw[NL k l (i+1),show i+(kf k l+1)=i+1+kf k l by omega]
theorem BF {k:aQ}:∀ {l:List (Nat×aQ×Int)} {n:Int},gk k l=some n->∃ b,l[kf k l]?=some (b,k,n)
 |[],_,h=>by cases h
 |(b,a,m)::l,n,h=>by
  unfold gk at h;unfold kf;by_cases e:a=k
  .rw[aM e] at h;rw[aM e];injection h with h
   subst e;subst h;exact⟨b,rfl⟩
  .rw[aq e] at h;rw[aq e];exact BF (l:=l) h
theorem RI (k:aQ)(n:Int):∀ (l:List (Nat×aQ×Int)),(pH k n l).map hO=(l.map hO).modify (kf k l) fun e=>{e with key:= .int .u32 (k.toNat:Int),val:= .int .i64 n}
 |[]=>rfl
 |e::l=>by
  unfold pH kf;by_cases h:e.2.1=k
  .rw[aM h,aM h];rfl
  .rw[aq h,aq h,dD,dD,List.modify_succ_cons,RI k n l]
theorem LB (k:aQ):∀ (l:List (Nat×aQ×Int)),rM k l=l.eraseIdx (kf k l)
 |[]=>rfl
 |e::l=>by
  unfold rM kf;by_cases h:e.2.1=k
  .rw[aM h,aM h];rfl
  .rw[aq h,aq h,List.eraseIdx_cons_succ,LB k l]
section
variable {P:Program}{w:World}{t k e:TypeId}{r:Nat}{m:aV}
theorem ze {b:Obj}(a:w.heap[r]?=some m.obj):(setObj r b).run P w= .ok () (setBlock w r b):=by
 unfold aV.obj at a;split at a<;>simp[setObj,Sem.run,a,setBlock]
theorem HR (b:Bool)(n:Nat)(x:Int)(a:P.underlying k=some (.int .u32)):(Instr.checkKey b (n+1) k (.int .u32 x)).run P w= .ok () w:=by
 simp[Instr.checkKey,dS a]
theorem Ky (a:P.underlying k=some (.int .u32))(x:aQ):(Instr.findKey k (.int .u32 (x.toNat:Int)) (m.es.map hO).toArray.toList).run P w= .ok ((gk x m.es).map fun n=>(kf x m.es,.int .i64 n)) w:=by
 have :=NL x m.es 0;rw[show(fun n=>(0+kf x m.es,Value.int .i64 n))=fun n=>(kf x m.es,.int .i64 n) from by simp only[eX]] at this;unfold Instr.findKey;simp only[dx,dS a,eQ,this,dI]
theorem aai (c:m.plain)(ht:P.underlying t=some (.map k e))(a:P.underlying k=some (.int .u32))(d:∀ w:World,(zeroValue e).run P w= .ok (.int .i64 0) w)(b:w.heap[r]?=some m.obj)(x:aQ)(ok:Bool):
  (Instr.lookup t (.map (some r)) (.int .u32 (x.toNat:Int)) ok).run P w= .ok (if ok then .tuple #[.int .i64 ((gk x m.es).getD 0),.bool (gk x m.es).isSome] else .int .i64 ((gk x m.es).getD 0)) w:=by
 rw[aV.sF c] at b;unfold Instr.lookup;simp only[dx,dS ht,eQ,MapKept.run_getObj_map b,dI,HR _ 9999 _ a,Ky a];cases gk x m.es with
 |none=>
  simp only[xb,dx,d,eQ,dI,Option.getD_none,CS]
 |some n=>
  simp only[ou,dx,eQ,dI,uN,yM]
theorem adn (n:Nat)(x:Int):Instr.sameBits n (.int .u32 x) (.int .u32 x)=true:=by
 unfold Instr.sameBits;simp
theorem aV.Ll {m:aV}(h:m.plain)(k:aQ){n:Int}(b:n<1180591620717411303424):(m.set k n).plain:=by
 have d:∀ l:List (Nat×aQ×Int),(∀ e∈l,e.2.2<1180591620717411303424)->∀ e∈pH k n l,e.2.2<1180591620717411303424:=by
  intro l;induction l with
  |nil=>intro _ e he;cases he
  |cons x l ih=>
   intro a e he;unfold pH at he;split at he
   .rcases gz.1 he with rfl|he
    .exact b
    .exact a e (mr _ he)
   .rcases gz.1 he with rfl|he
    .exact a _ (pA ..)
    .exact ih (fun y c=>a y (mr _ c)) e he
 unfold aV.set;split
 .exact d _ h
 .intro e he;rcases gZ.1 he with he|he
  .exact h e he
  .rw[oQ] at he;rw[he];exact b
theorem aV.LQ {m:aV}(h:m.plain)(k:aQ):(m.del k).plain:=by
 have c:∀ l:List (Nat×aQ×Int),(∀ e∈l,e.2.2<1180591620717411303424)->∀ e∈rM k l,e.2.2<1180591620717411303424:=by
  intro l;induction l with
  |nil=>intro _ e he;cases he
  |cons x l ih=>
   intro a e he;unfold rM at he;split at he
   .exact a e (mr _ he)
   .rcases gz.1 he with rfl|he
    .exact a _ (pA ..)
    .exact ih (fun y b=>a y (mr _ b)) e he
 exact c _ h
theorem Xu (d:m.plain)(ht:P.underlying t=some (.map k e))(g:P.underlying k=some (.int .u32))(f:w.heap[r]?=some m.obj)(x:aQ)(n:Int)(i:n<1180591620717411303424):
  (Instr.mapUpdate t (.map (some r)) (.int .u32 (x.toNat:Int)) (.int .i64 n)).run P w= .ok () (setBlock w r (m.set x n).obj):=by
 have a:=f;rw[aV.sF d] at f;unfold Instr.mapUpdate;simp only[dx,dS ht,eQ,MapKept.run_getObj_map f,HR _ 9999 _ g,Ky g];cases h:gk x m.es with
 |none=>
  simp only[xb,ze a];rw[aV.sF (aV.Ll d x i)];unfold aV.set;rw[h];simp only[CS,fh,fH];congr 3;simp[hO]
 |some l=>
  obtain⟨b,j⟩:=BF h;have c:(((m.es.map hO).toArray[kf x m.es]?.map (·.key)).getD (.int .u32 (x.toNat:Int)))= .int .u32 (x.toNat:Int):=by
   simp only[yv,dU,j,ou,uN];rfl
  simp only[ou,c,Instr.keyThatStays,adn,eJ,dx,dI,eQ,ze a];rw[aV.sF (aV.Ll d x i)];unfold aV.set;rw[h];simp only[yM,eJ];congr 3;rw[RI];simp
theorem aeJ (c:m.plain){u ty:TypeId}(ht:P.underlying t=some (.map k e))(i:P.underlying k=some (.int .u32))(d:w.heap[r]?=some m.obj)(x:aQ):
  (Builtin.delete_ #[t,u] ty #[.map (some r),.int .u32 (x.toNat:Int)]).run P w= .ok (.tuple #[]) (setBlock w r (m.del x).obj):=by
 have a:=d;rw[aV.sF c] at d;unfold Builtin.delete_;simp only[yv,p9,nF,dx,dS ht,eQ,MapKept.run_getObj_map d,HR _ 9999 _ i,Ky i];cases h:gk x m.es with
 |none=>
  simp only[xb,ze a,dx,eQ,dI];rw[aV.sF (aV.LQ c x)];unfold aV.del;have :rM x m.es=m.es:=by
   generalize m.es=l at h;induction l with
   |nil=>rfl
   |cons e l ih=>
    unfold gk at h;unfold rM;split at h
    .cases h
    .rename_i f;rw[aq f,ih h]
  rw[this]
 |some n=>
  obtain⟨b,j⟩:=BF h;have g:=(cA.1 j).1;simp only[ou,ze a,dx,eQ,dI];rw[aV.sF (aV.LQ c x)];unfold aV.del;congr 3;rw[LB];simp[Array.eraseIdxIfInBounds,g];rw[ChangeMaps.map_eraseIdx]
theorem aiq (b:m.plain){ty:TypeId}(ht:P.underlying t=some (.map k e))(a:w.heap[r]?=some m.obj):(Builtin.len_ #[t] ty #[.map (some r)]).run P w= .ok (.int .i64 m.es.length) w:=by
 rw[aV.sF b] at a;simp[Builtin.len_,dS ht,MapKept.run_getObj_map a];rfl
end
section
variable {P:Program}{w:World}{t k e el:TypeId}{r:Nat}{m:aV}
theorem YZ (h:JU P k=true):∃ el,P.underlying k=some (.array 2 el)/\P.underlying el=some (.int .i64)/\(P.info? el).map (·.size)=some 1:=by
 unfold JU at h;split at h
 case h_2=>cases h
 rename_i el b;rw[lY] at h;obtain⟨d,f⟩:=h;split at d
 case h_2=>cases d
 rename_i a;split at f
 case h_2=>cases f
 rename_i c;exact⟨el,b,a,c⟩
theorem Td (h:BH P t=true):∃ k e el,P.underlying t=some (.map k e)/\P.underlying k=some (.array 2 el)/\P.underlying el=some (.int .i64)/\(P.info? el).map (·.size)=some 1/\∀ w:World,(zeroValue e).run P w= .ok (.int .i64 0) w:=by
 unfold BH at h;split at h
 case h_2=>cases h
 rename_i k e c;rw[lY] at h;obtain⟨d,b⟩:=h;split at b
 case h_2=>cases b
 rename_i a;obtain⟨el,f,g,j⟩:=YZ d;refine⟨k,e,el,c,f,g,j,fun w=>?_⟩;cases hi:P.info? e with
 |none=>rw[hi] at a;cases a
 |some i=>
  rw[hi] at a;have a:i.zero=some (.int .i64 0):=a;simp[zeroValue,typeInfo,hi,a]
theorem Eo (a:P.underlying el=some (.int .i64)){cs:Array Value}{off:Nat}{v:Value}(h:cs[off]?=some v):(part el cs off).run P w= .ok v w:=by
 unfold part isAgg;simp[dS a,h]
theorem RE (a:(P.info? el).map (·.size)=some 1):(sizeOf el).run P w= .ok 1 w:=by
 unfold sizeOf typeInfo;cases h:P.info? el with
 |none=>rw[h] at a;cases a
 |some i=>rw[h] at a;simp at a;simp[h,a]
theorem TS (c:P.underlying el=some (.int .i64))(d:Nat)(a b:Int):(Op.equalIn (d+1) el (.int .i64 a) (.int .i64 b)).run P w= .ok (a==b) w:=by
 unfold Op.equalIn;simp[dS c]
theorem abH (h:P.underlying k=some (.array 2 el))(g:P.underlying el=some (.int .i64))(i:(P.info? el).map (·.size)=some 1)(d:Nat)(a b c f:Int):
  (Op.equalIn (d+2) k (.agg #[.int .i64 a,.int .i64 b]) (.agg #[.int .i64 c,.int .i64 f])).run P w= .ok (decide (a=c/\b=f)) w:=by
 have j:∀ x y:Int,(part el #[.int .i64 x,.int .i64 y] 0).run P w= .ok (.int .i64 x) w:=fun x y=>Eo g rfl
 have l:∀ x y:Int,(part el #[.int .i64 x,.int .i64 y] 1).run P w= .ok (.int .i64 y) w:=fun x y=>Eo g rfl
 have p:=RE (P:=P) (w:=w) i;unfold Op.equalIn;simp[dS h,p,SA,Std.Legacy.Range.size,List.range',j,l,TS g];by_cases n:a=c
 .by_cases o:b=f
  .simp[n,o]
  .simp[n,o]
 .simp[n]
theorem NM (f:P.underlying k=some (.array 2 el))(c:P.underlying el=some (.int .i64))(g:(P.info? el).map (·.size)=some 1)(j:Bool)(d:Nat)(a b:Int):
  (Instr.checkKey j (d+2) k (.agg #[.int .i64 a,.int .i64 b])).run P w= .ok () w:=by
 have h:∀ x y:Int,(part el #[.int .i64 x,.int .i64 y] 0).run P w= .ok (.int .i64 x) w:=fun x y=>Eo c rfl
 have i:∀ x y:Int,(part el #[.int .i64 x,.int .i64 y] 1).run P w= .ok (.int .i64 y) w:=fun x y=>Eo c rfl
 have l:=RE (P:=P) (w:=w) g;have n:∀ x:Int,(Instr.checkKey j (d+1) el (.int .i64 x)).run P w= .ok () w:=fun x=>by
  unfold Instr.checkKey;simp[dS c]
 unfold Instr.checkKey;simp[dS f,l,SA,Std.Legacy.Range.size,List.range',h,i,n]
def ot (x:aQ):Value:= .agg #[.int .i64 ((x.toNat/65536:Nat):Int),.int .i64 ((x.toNat%65536:Nat):Int)]
theorem Nl {x y:Int}(f:0<=x)(a:x<65536)(g:0<=y)(b:y<65536):ot (pk x y)= .agg #[.int .i64 x,.int .i64 y]:=by
 unfold ot pk;rw[fL];have e:(x.toNat*65536+y.toNat)%2^32=x.toNat*65536+y.toNat:=lk I;rw[e];have c:(((x.toNat*65536+y.toNat)/65536:Nat):Int)=x:=I;have d:(((x.toNat*65536+y.toNat)%65536:Nat):Int)=y:=I;rw[c,d]
theorem Qd (b:P.underlying k=some (.array 2 el))(a:P.underlying el=some (.int .i64))(c:(P.info? el).map (·.size)=some 1)(x:aQ):∀ (l:List (Nat×aQ×Int)) (i:Nat),(Instr.findAsking k (ot x) (l.map uo) i).run P w= .ok ((gk x l).map fun n=>(i+kf x l,.int .i64 n)) w
 |[],i=>rfl
 |e::l,i=>by
  rw[dD];unfold Instr.findAsking;have d:=abH (P:=P) (w:=w) b a c 9998 ((x.toNat/65536:Nat):Int) ((x.toNat%65536:Nat):Int) ((e.2.1.toNat/65536:Nat):Int) ((e.2.1.toNat%65536:Nat):Int);have d:(Op.equal k (ot x) (uo e).key).run P w= .ok (decide (e.2.1=x)) w:=by
   refine d.trans ?_;congr 1;rw[qw,Fm,Fm];constructor
   .intro h;exact iU I
   .intro h;rw[h];exact⟨rfl,rfl⟩
  rw[dx,d];unfold gk kf;by_cases h:e.2.1=x
  .rw[nX h,aM h,aM h];rfl
  .rw[oZ h,aq h,aq h];show(Instr.findAsking _ _ _ _).run P w=_;rw[Qd b a c x l (i+1),show i+(kf x l+1)=i+1+kf x l by omega]
theorem OS (b:P.underlying k=some (.array 2 el))(a:P.underlying el=some (.int .i64))(c:(P.info? el).map (·.size)=some 1)(x:aQ)(l:List (Nat×aQ×Int)):(Instr.findKey k (ot x) (l.map uo).toArray.toList).run P w= .ok ((gk x l).map fun n=>(kf x l,.int .i64 n)) w:=by
 rw[run_findKey_eq w (by rw[b])];have :=Qd (P:=P) (w:=w) b a c x l 0;simp only[eX] at this;exact this
theorem afB (f:m.rW)(ht:P.underlying t=some (.map k e))(b:P.underlying k=some (.array 2 el))(a:P.underlying el=some (.int .i64))(c:(P.info? el).map (·.size)=some 1)(g:∀ w:World,(zeroValue e).run P w= .ok (.int .i64 0) w)(d:w.heap[r]?=some m.obj)(x:aQ):
  (Instr.lookup t (.map (some r)) (ot x) false).run P w= .ok (.int .i64 ((gk x m.es.tail).getD 0)) w:=by
 rw[aV.Fi f] at d;have i:∀ h,(Instr.checkKey h 10000 k (ot x)).run P w= .ok () w:=fun h=>NM b a c h 9998 _ _
 unfold Instr.lookup;simp only[dx,dS ht,eQ,MapKept.run_getObj_map d,dI,i,OS b a c];cases gk x m.es.tail with
 |none=>simp only[xb,dx,g,eQ,dI,Option.getD_none,fh,fH]
 |some n=>simp only[ou,dx,eQ,dI,uN,fh,fH]
theorem XL (x:aQ):Instr.sameBits 10000 (ot x) (ot x)=true:=by
 unfold ot;simp[Instr.sameBits]
theorem MQ (k:aQ)(n:Int):∀ (l:List (Nat×aQ×Int)),(pH k n l).map uo=(l.map uo).modify (kf k l) fun e=>{e with key:=ot k,val:= .int .i64 n}
 |[]=>rfl
 |e::l=>by
  unfold pH kf;by_cases h:e.2.1=k
  .rw[aM h,aM h];rfl
  .rw[aq h,aq h,dD,dD,List.modify_succ_cons,MQ k n l]
theorem Tx (m:aV)(k:aQ)(n:Int):(m.Cp k n).rW:=rfl
theorem aaf (j:m.rW)(ht:P.underlying t=some (.map k e))(g:P.underlying k=some (.array 2 el))(a:P.underlying el=some (.int .i64))(i:(P.info? el).map (·.size)=some 1)(f:w.heap[r]?=some m.obj)(x:aQ)(n:Int):
  (Instr.mapUpdate t (.map (some r)) (ot x) (.int .i64 n)).run P w= .ok () (setBlock w r (m.Cp x n).obj):=by
 have c:=f;rw[aV.Fi j] at f;have o:∀ l,(Instr.checkKey l 10000 k (ot x)).run P w= .ok () w:=fun l=>NM g a i l 9998 _ _
 have p:(m.Cp x n).obj= .map (((aV.set ⟨m.es.tail,m.clock⟩ x n).es).map uo).toArray (aV.set ⟨m.es.tail,m.clock⟩ x n).clock:=aV.Fi (Tx m x n);rw[p];unfold Instr.mapUpdate;simp only[dx,dS ht,eQ,MapKept.run_getObj_map f,o,OS g a i];cases h:gk x m.es.tail with
 |none=>
  simp only[xb,ze c];unfold aV.set;rw[show(gk x (⟨m.es.tail,m.clock⟩:aV).es)=none from h];simp only[CS,fh,fH];congr 3;simp[uo,ot]
 |some q=>
  obtain⟨b,s⟩:=BF h;have d:(((m.es.tail.map uo).toArray[kf x m.es.tail]?.map (·.key)).getD (ot x))=ot x:=by
   simp only[yv,dU,s,ou,uN];rfl
  simp only[ou,d,Instr.keyThatStays,XL,eJ,dx,dI,eQ,ze c];unfold aV.set;rw[show(gk x (⟨m.es.tail,m.clock⟩:aV).es)=some q from h];simp only[yM,eJ];congr 3;rw[MQ];simp
end
section
variable {ρ:Nat->Nat×Nat}{dom:Nat->Prop}{P:Program}{w:World}{get:Nat->Option aa}{nid:Nat}{m:aV}
theorem KG (w:World)(r:Nat)(o:Obj)(j:Nat):(setBlock w r o).heap[j]?=if j=r then(if r<w.heap.size then some o else none) else w.heap[j]?:=by
 show(w.heap.setIfInBounds r o)[j]?=_;rw[Ik];by_cases h:j=r
 .subst h;rw[aM rfl]
 .rw[aq h,aq (fun e=>h e.symm)]
theorem tf (w:World){r j:Nat}(o:Obj)(h:j≠r):(setBlock w r o).heap[j]?=w.heap[j]?:=by rw[KG,aq h]
theorem ES (w:World)(r:Nat)(o:Obj):(setBlock w r o).heap.size=w.heap.size:=Array.size_setIfInBounds ..
def Obj.bare:Obj->Bool
 | .cells _ _ _=>false
 |_=>true
theorem Pd {r:Nat}{o:Obj}(h:w.heap[r]?=some o)(a:Obj.bare o=true)(i:Nat):w.cell? ⟨r,i,none⟩=none:=by
 unfold World.cell?;rw[show(⟨r,i,none⟩:Addr).block=r from rfl,h];cases o<;>first|rfl|cases a
theorem Hd {r:Nat}{o b:Obj}(h:w.heap[r]?=some o)(d:Obj.bare o=true):cN w (setBlock w r b):=fun p i c=>by
 have a:p≠r:=fun e=>by rw[e,Pd h d] at c;cases c
 refine⟨?_,fun f=>?_⟩
 .rw[x9 (w:=w) (tf w b a)];exact c
 .rw[yA (w:=w) (tf w b a)];exact f
theorem Xl (m:aV):Obj.bare m.obj=true:=by unfold aV.obj;split <;>rfl
theorem I9 (h:bS ρ dom get w){b:Nat}(o:get b=some ⟨false,[],some m⟩)(g:aV):
  bS ρ (gr dom nid 0) (eu get [(b,some ⟨false,[],some g⟩)] nid []) (setBlock w (ρ b).1 g.obj)/\
  Frame ρ get w ρ (eu get [(b,some ⟨false,[],some g⟩)] nid []) (setBlock w (ρ b).1 g.obj):=by
 have O:w.heap[(ρ b).1]?=some m.obj:=h.gY b _ m o rfl;have z:cN w (setBlock w (ρ b).1 g.obj):=Hd O (Xl m);have s:∀ b,dom b->gr dom nid 0 b:=fun b o=> .inl o
 rw[CX];have f:∀ a B,a≠b->(fun a=>if a=b then some (⟨false,[],some g⟩:aa) else get a) a=some B->get a=some B:=fun a B p d=>by simpa [p] using d
 have n:∀ B,(fun a=>if a=b then some (⟨false,[],some g⟩:aa) else get a) b=some B->B=⟨false,[],some g⟩:=fun B d=>by simpa using d.symm
 have c:∀ a B,(fun a=>if a=b then some (⟨false,[],some g⟩:aa) else get a) a=some B->∃ K,get a=some K/\K.ro=B.ro:=fun a B d=>by
  by_cases e:a=b
  .subst e;rw[n B d];exact⟨_,o,rfl⟩
  .exact⟨B,f a B e d,rfl⟩
 have j:∀ a B,a≠b->get a=some B->(ρ a).1≠(ρ b).1:=fun a B G L e=>h.inj b a _ B o L rfl (fun x=>G x.symm) e.symm
 refine⟨⟨fun a B d=>?_,fun a B d=>?_,fun N A Q R G L q p=>?_,fun a B d i v u=>?_,fun a B d q i M=>?_,fun a B C d l=>?_⟩,
  ⟨rfl,rfl,rfl,by rw[ES];exact bz _,fun r q y=>?_,z,fun a B d q=>?_⟩⟩
 .obtain⟨K,G,_⟩:=c a B d;exact .inl (h.has a K G)
 .obtain⟨K,G,_⟩:=c a B d;rw[ES];exact h.lt a K G
 .obtain⟨S,D,E⟩:=c N Q G;obtain⟨T,F,_⟩:=c A R L;exact h.inj N A S T D F (E.trans q) p
 .by_cases e:a=b
  .subst e;rw[n B d] at u;simp at u
  .have H:=f a B e d;obtain⟨r,G,L⟩:=h.cell a B H i v u;refine⟨r,?_,L.mono (fun _ _=>rfl) s z⟩;rw[x9 (w:=w) (tf w g.obj (j a B e H))];exact G
 .by_cases e:a=b
  .subst e;rw[n B d] at M;simp at M
  .have H:=f a B e d;rw[yA (w:=w) (tf w g.obj (j a B e H))];exact h.free a B H q i M
 .by_cases e:a=b
  .subst e;rw[n B d] at l |-
   injection l with l
   subst l;show(setBlock w (ρ a).1 _).heap[(ρ a).1]?=_;rw[KG,aM rfl,aM (h.lt a _ o)]
  .have H:=f a B e d;exact tj (h.gY a B C H l) (tf w g.obj (j a B e H))
 .exact tf w g.obj (fun e=>y b _ o rfl e.symm)
 .obtain⟨K,G,L⟩:=c a B d;exact .inl ⟨a,K,G,L.trans q,rfl⟩
theorem NW (h:bS ρ dom get w)(E:¬ dom nid)(o:aV):
  bS (nU ρ nid (w.heap.size,0)) (gr dom nid 1) (eu get [] nid [some ⟨false,[],some o⟩]) (w.alloc o.obj)/\
  Frame ρ get w (nU ρ nid (w.heap.size,0)) (eu get [] nid [some ⟨false,[],some o⟩]) (w.alloc o.obj):=by
 have L:=xC (ρ:=ρ) (x:=(w.heap.size,0)) E;have D:=Gk w o.obj;have z:∀ b,dom b->gr dom nid 1 b:=fun b c=> .inl c
 rw[RM];have a:∀ b B,b≠nid->(fun b=>if b=nid then some (⟨false,[],some o⟩:aa) else get b) b=some B->get b=some B:=fun b B c f=>by simpa [c] using f
 have q:∀ B,(fun b=>if b=nid then some (⟨false,[],some o⟩:aa) else get b) nid=some B->B=⟨false,[],some o⟩:=fun B f=>by simpa using f.symm
 have d:∀ b B,b≠nid->get b=some B->nU ρ nid (w.heap.size,0) b=ρ b:=fun b B c f=>L b (h.has b B f)
 have g:∀ j,j<w.heap.size->(w.alloc o.obj).heap[j]?=w.heap[j]?:=fun j H=>by
  show(w.heap.push _)[j]?=_;rw[JT,aq I]
 refine⟨⟨fun b B f=>?_,fun b B f=>?_,fun b p B M f s u y=>?_,fun b B f i v C=>?_,fun b B f u i O=>?_,fun b B F f n=>?_⟩,
  ⟨rfl,rfl,rfl,J,fun r u _=>g r u,D,fun b B f u=>?_⟩⟩
 .by_cases c:b=nid
  .exact .inr ⟨I,I⟩
  .exact .inl (h.has b B (a b B c f))
 .by_cases c:b=nid
  .subst c;rw[ku];simp
  .have :=h.lt b B (a b B c f);rw[d b B c (a b B c f)];simp;omega
 .by_cases c:b=nid
  .subst c;have l:p≠b:=fun e=>y e.symm
   have :=h.lt p M (a p M l s);rw[ku,d p M l (a p M l s)];simp only;omega
  .have K:=a b B c f;rw[d b B c K];by_cases l:p=nid
   .subst l;rw[ku];have :=h.lt b B K;simp only;omega
   .have N:=a p M l s;rw[d p M l N];exact h.inj b p B M K N u y
 .by_cases c:b=nid
  .subst c;rw[q B f] at C;simp at C
  .have K:=a b B c f;obtain⟨r,N,G⟩:=h.cell b B K i v C;refine⟨r,?_,G.mono L z D⟩;rw[d b B c K,x9 (w:=w) (g _ (h.lt b B K))];exact N
 .by_cases c:b=nid
  .subst c;rw[q B f] at O;simp at O
  .have K:=a b B c f;rw[d b B c K,yA (w:=w) (g _ (h.lt b B K))];exact h.free b B K u i O
 .by_cases c:b=nid
  .subst c;rw[q B f] at n |-
   injection n with n
   subst n;rw[ku];show(w.heap.push _)[w.heap.size]?=_;simp
  .have K:=a b B c f;rw[d b B c K];exact tj (h.gY b B F K n) (g _ (h.lt b B K))
 .by_cases c:b=nid
  .subst c;right;rw[ku];exact bz _
  .have K:=a b B c f;exact .inl ⟨b,B,K,u,(by rw[d b B c K])⟩
end
end
section
section
variable {ρ:Nat->Nat×Nat}{dom:Nat->Prop}{P:Program}{w:World}{get get0:Nat->Option aa}{nid:Nat}
theorem HI {y:V}{n:Nat}{ys:List V}{q:Prop}{g:List Nat}(h:mD get0 y=some (n,ys,q,g))(d:∀ b∈g,get b=get0 b):mD get y=some (n,ys,q,g):=by
 unfold mD at*;split at h
 .exact h
 .exact h
 .split at h
  case h_2=>cases h
  rename_i B a;have c:=h;injection c with c
  simp only[lW] at c;obtain⟨_,_,_,rfl⟩:=c;rw[d _ J,a];exact h
 .cases h
def OZ (ρ:Nat->Nat×Nat)(dom:Nat->Prop)(w:World)(a:Act)(ev:Operand->V)(o:Op):Prop:=∀ x∈o.operands.toList,VR ρ dom w (ev x) (a.eval x)
theorem Oy {a:Act}{ev:Operand->V}{x:Option Operand}(h:∀ y∈x.toArray.toList,VR ρ dom w (ev y) (a.eval y)):vu ρ dom w (x.map ev) (x.map a.eval):=by
 cases x with
 |none=>exact .inl ⟨rfl,rfl⟩
 |some y=>exact .inr ⟨_,_,rfl,rfl,h y J⟩
theorem wC {a:Act}{ev:Operand->V}:∀ {l:List Operand},(∀ y∈l,VR ρ dom w (ev y) (a.eval y))->ao ρ dom w (l.map ev) (l.map a.eval)
 |[],_=>ao.nil
 |x::l,h=>ao.cons (h x J) (wC fun y b=>h y (by simp[b]))
theorem bF.val {s:Sem Value}{res:bu}(b:bS ρ dom get w)(h:∃ r,s.run P w= .ok r w/\VR ρ dom w res.v r)(c:res.old=[])(a:res.news=[]):bF P (do pure (.value (<-s)):Sem Next) w ρ dom get nid res:=by
 obtain⟨r,d,e⟩:=h;exact bF.same b (by rw[dx,d];rfl) e c a
theorem bF.weaken {res a:bu}{s:Sem Next}(h:bF P s w ρ dom get nid res)(d:res.v=a.v)(c:res.old=a.old)(b:res.news=a.news):bF P s w ρ dom get nid a:=by
 obtain⟨e,f,r,g,i,j,k,l⟩:=h;exact⟨e,f,r,g,i,by rw[<-c,<-b];exact j,by rw[<-d,<-b];exact k,by rw[<-c,<-b];exact l⟩
theorem XD {op:BinOp}{t:TypeId}{x y:V}{res:bu}(h:zm P op t x y=some res):res.old=[]/\res.news=[]:=by
 have d:∀ {n:Nat} (c:BitVec n->V) (op:BinOp) (x y:BitVec n) (res:bu),wH c op x y=some res->res.old=[]/\res.news=[]:=fun c op x y res h=>by
  cases op<;>simp only[wH,eg,seval] at h<;>subst h<;>exact⟨rfl,rfl⟩
 have e:∀ (op:BinOp) (x y:Int) (res:bu),zF op x y=some res->res.old=[]/\res.news=[]:=fun op x y res h=>by
  cases op<;>simp only[zF,FD,eg,seval] at h<;>subst h<;>exact⟨rfl,rfl⟩
 have a:∀ (op:BinOp) (x y:Z) (res:bu),yI op x y=some res->res.old=[]/\res.news=[]:=fun op x y res h=>by
  cases op<;>simp only[yI,eg,seval] at h<;>subst h<;>exact⟨rfl,rfl⟩
 have b:∀ (op:BinOp) (x:V) (n:Nat) (p:Prop) (res:bu),yw op x n p=some res->res.old=[]/\res.news=[]:=fun op x n p res h=>by
  cases op<;>cases x<;>simp only[yw,eg,seval] at h<;>subst h<;>exact⟨rfl,rfl⟩
 unfold zm at h
 repeat' split at h
 all_goals first
  |(exact d _ _ _ _ _ h)
  |(exact e _ _ _ _ h)
  |(exact a _ _ _ _ h)
  |(exact b _ _ _ _ _ h)
  |(cases h;done)
  |(simp only[eg] at h;subst h;exact⟨rfl,rfl⟩)
theorem Vy {op:BinOp}{t:TypeId}{x y:V}{get:Nat->Option aa}{res:bu}(h:wj P op t x y get=some res):res.old=[]/\res.news=[]:=by
 unfold wj at h;split at h
 .unfold Du at h;split at h
  .split at h
   .split at h
    .injection h with h;subst h;exact⟨rfl,rfl⟩
    .injection h with h;subst h;exact⟨rfl,rfl⟩
    .cases h
   .cases h
  .cases h
 .exact XD h
theorem abK {t ty:TypeId}{x:V}{l:Value}{res:bu}(h:vt P .len [t] [x] get0 nid=some res)(g:res.pre)(n:bS ρ dom get w)(f:∀ b∈res.fp,get b=get0 b)(d:VR ρ dom w x l):
  (∃ r,(Builtin.len_ #[t] ty #[l]).run P w= .ok r w/\VR ρ dom w res.v r)/\res.old=[]/\res.news=[]:=by
 simp only[vt] at h;split at h
 case h_5=>
  rename_i k e b j;split at h
  case h_2=>cases h
  rename_i p m i;injection h with h;subst h
  unfold VR at d;obtain⟨_,rfl⟩:=d;have o:w.heap[(ρ b).1]?=some m.obj:=n.gY b _ m ((f b J).trans i) rfl;exact⟨⟨_,aiq g j o,by unfold VR;rfl⟩,rfl,rfl⟩
 all_goals simp only[eg,seval] at h
 all_goals subst h
 all_goals rename_i j
 .unfold VR at d;obtain⟨b,rfl,rfl⟩:=d;exact⟨⟨_,by simp[Builtin.len_,dS j];rfl,by unfold VR;rw[pR];rfl⟩,rfl,rfl⟩
 .exact⟨⟨_,by simp[Builtin.len_,dS j];rfl,by unfold VR;rfl⟩,rfl,rfl⟩
 .unfold VR at d;obtain⟨_,a,c,rfl,_⟩:=d;exact⟨⟨_,by simp[Builtin.len_,dS j];rfl,by unfold VR;rfl⟩,rfl,rfl⟩
 .unfold VR at d;subst d;exact⟨⟨_,by simp[Builtin.len_,dS j];rfl,by unfold VR;rfl⟩,rfl,rfl⟩
theorem aaK {l:Array Operand}{ev:Operand->V}{x:V}(h:l.toList.map ev=[x]):∃ o,l=#[o]/\x=ev o:=by
 obtain⟨l⟩:=l
 match l,h with
 |[o],h=>simp at h;exact⟨o,rfl,h.symm⟩
theorem Ca {l:Array Operand}{ev:Operand->V}{x y:V}(h:l.toList.map ev=[x,y]):∃ o p,l=#[o,p]/\x=ev o/\y=ev p:=by
 obtain⟨l⟩:=l
 match l,h with
 |[o,p],h=>simp at h;exact⟨o,p,rfl,h.1.symm,h.2.symm⟩
theorem Va {l:Array TypeId}{t:TypeId}(h:l.toList=[t]):l=#[t]:=by
 obtain⟨l⟩:=l;simp at h;rw[h]
theorem I0 {l:Array TypeId}{t u:TypeId}(h:l.toList=[t,u]):l=#[t,u]:=by
 obtain⟨l⟩:=l;simp at h;rw[h]
theorem adE {t tx ty e:TypeId}{x y:V}{N o:Value}{n r:Nat}{xs ys:List V}{p q:Prop}{f g fp:List Nat}(ht:P.underlying t=some (.slice e))(j:bU P e=some r)
  (s:qm x=false) (z:ql r y=true) (F:Ai P tx y=true) (d:mD get x=some (n,xs,p,f)) (b:mD get y=some (0,ys,q,g)) (G:q)
  (l:VR ρ dom w x N) (H:VR ρ dom w y o) (Q:bS ρ dom get w):bF P (do pure (.value (<-Builtin.append_ #[t,tx] ty #[N,o])):Sem Next) w ρ dom get nid {v:=x,pre:=q,fp:=fp}:=by
 have A:=QZ F;have m:∃ i,P.info? e=some i/\i.size=r:=by
  unfold bU at j;cases hi:P.info? e with
  |none=>rw[hi] at j;cases j
  |some i=>rw[hi] at j;injection j with j;exact⟨i,rfl,j⟩
 obtain⟨i,hi,B⟩:=m;have C:ys=[]:=by
  unfold mD at b;split at b
  .injection b with b;simp only[lW] at b;exact b.2.1.symm
  .injection b with b;simp only[lW] at b
   obtain⟨K,L,_⟩:=b;rw[<-L,nK.1 K];rfl
  .split at b
   .injection b with b;simp only[lW] at b
    obtain⟨K,L,_⟩:=b;rw[<-L,K];simp
   .cases b
  .cases b
 subst C;obtain⟨M,h,k⟩:=JO b G Q H z A (fun u R=>by cases R);have D:M=[]:=by have :=k.length;exact nK.1 (by simpa using this)
 subst D;rw[<-B] at h;have E:∃ a c,N= .slice a n c/\n<=c:=by
  unfold mD at d;split at d
  .injection d with d;simp only[lW] at d
   obtain⟨rfl,_⟩:=d;unfold VR at l;exact⟨_,_,l,bz _⟩
  .simp[qm] at s
  .split at d
   case h_2=>cases d
   injection d with d;simp only[lW] at d
   obtain⟨rfl,_⟩:=d;unfold VR at l;obtain⟨_,a,c,K,L,_⟩:=l;exact⟨_,_,K,L⟩
  .cases d
 obtain⟨a,c,rfl,O⟩:=E;exact bF.same Q (by rw[dx,run_append_nothing w t tx ty e i ht hi a n c O o h];rfl) l rfl rfl
theorem ZQ {b:Builtin}{F:Array TypeId}{args:Array Operand}{ty:TypeId}{b2:Array Bool}{a:Act}{ev:Operand->V}{res:bu}(h:vt P b F.toList (args.toList.map ev) get0 nid=some res)(A:res.pre)
  (i:∀ x∈args.toList,VR ρ dom w (ev x) (a.eval x)) (hm:bS ρ dom get w) (c:∀ b∈res.fp,get b=get0 b) (hd:∀ b,nid<=b->b<nid+res.news.length->¬ dom b):
  bF P (builtin b F ty b2 (args.map a.eval)) w ρ dom get nid res:=by
 have h0:=h;have Q:∀ o,(#[o]:Array Operand).map a.eval=#[a.eval o]:=fun o=>by simp
 have C:∀ o p,(#[o,p]:Array Operand).map a.eval=#[a.eval o,a.eval p]:=fun o p=>by simp
 unfold vt at h;split at h
 .rename_i t x ht j;obtain⟨o,rfl,rfl⟩:=aaK j;rw[j,ht] at h0;rw[Va ht,Q];obtain⟨g1,g2,g3⟩:=abK (ty:=ty) h0 A hm c (i o J);exact bF.val hm g1 g2 g3
 .rename_i t u x y ht j;obtain⟨o,p,rfl,D,G⟩:=Ca j;split at h
  case h_2=>cases h
  rename_i b k R;split at h
  case h_2=>cases h
  rename_i m M;injection h with h;subst h
  have v1:=i o J;have v2:=i p J;rw[<-D] at v1;rw[<-G] at v2;unfold VR at v1 v2;obtain⟨kt,et,hu,hk,X⟩:=G0 R;have M:=(c b J).trans M;have hg:w.heap[(ρ b).1]?=some m.obj:=hm.gY b _ m M rfl;obtain⟨g1,g2⟩:=I9 (nid:=nid) hm M (m.del k);refine⟨ρ,_,.tuple #[],.inl ?_,fun _ _=>rfl,g1,by unfold VR;exact⟨_,rfl,ao.nil⟩,g2⟩;rw[I0 ht,C,v1.2,v2];show(do pure (.value (<-Builtin.delete_ #[t,u] ty #[.map (some (ρ b).1),.int .u32 (k.toNat:Int)])):Sem Next).run P w=_;rw[dx,aeJ A hu hk hg];rfl
 .rename_i x y j;obtain⟨o,p,rfl,D,G⟩:=Ca j;injection h with h;subst h
  have v1:=i o J;have v2:=i p J;rw[<-D] at v1;rw[<-G] at v2;unfold VR at v1 v2;refine bF.val hm ⟨.int .i64 (if y<x then y else x),?_,by unfold VR;rfl⟩ rfl rfl;simp[Builtin.min_,Builtin.min2,v1,v2]
 .rename_i x y j;obtain⟨o,p,rfl,D,G⟩:=Ca j;injection h with h;subst h
  have v1:=i o J;have v2:=i p J;rw[<-D] at v1;rw[<-G] at v2;unfold VR at v1 v2;refine bF.val hm ⟨.int .i64 (if y>x then y else x),?_,by unfold VR;rfl⟩ rfl rfl;simp[Builtin.max_,Builtin.max2,v1,v2]
 .rename_i t tx x y ht j;obtain⟨o,p,rfl,rfl,rfl⟩:=Ca j;rw[I0 ht,C];split at h
  case h_2=>cases h
  rename_i e n xs pp f m ys q g he S E;split at h
  case h_2=>cases h
  rename_i H s z N l X;split at h
  case isFalse=>cases h
  rename_i hc;obtain⟨c1,c2,O,c4,Y,c6⟩:=hc;injection h with h;subst h
  have K:(nM n m H s (ev o) xs ys pp q f g get0 nid).fp=f++g:=by unfold nM;split <;>rfl
  rw[K] at c;have B:=HI S fun b l=>c b (by simp[l])
  have d:=HI E fun b l=>c b (by simp[l])
  by_cases r:m=0
  .subst r;have T:nM n 0 H s (ev o) xs ys pp q f g get0 nid={v:=ev o,pre:=q,fp:=f++g}:=by unfold nM;rw[aM rfl]
   rw[T] at A |-
   exact adE (ty:=ty) (CJ he) N O Y c6 B d A (i o J) (i p J) hm
  .have L:(nM n m H s (ev o) xs ys pp q f g get nid).pre:=by
    unfold nM at A |-
    rw[aq r] at A |-
    obtain⟨a1,a2,a3,a4,a5,a6,a7⟩:=A;exact⟨a1,a2,a3,a4,a5,a6,fun b l=>by rw[c b (by simp[l])];exact a7 b l⟩
   have a8:(nM n m H s (ev o) xs ys pp q f g get0 nid).news.length=1:=by unfold nM;rw[aq r];rfl
   refine(ab9 (ty:=ty) (nid:=nid) (CJ he) N l X c1 c2 O c4 Y c6 B d L (i o J) (i p J) hm (hd nid (bz _) I)).weaken ?_ ?_ ?_<;>(unfold nM;rw[aq r,aq r])
 .rename_i t tx x y ht j;obtain⟨o,p,rfl,D,rfl⟩:=Ca j;rw[I0 ht,C];split at h
  case h_2=>cases h
  rename_i e b p' b3 b0 m ys q g he E;split at h
  case h_2=>cases h
  rename_i H cs N l;split at h
  case isFalse=>cases h
  rename_i hc;obtain⟨rfl,rfl,O⟩:=hc;injection h with h;subst h
  obtain⟨a1,a2,a3,a4⟩:=A;have W:get b=bK cs:=by rw[c b J];exact l
  have d:=HI E fun b l=>c b (by simp[l])
  have v1:=i o J;rw[<-D] at v1;exact(adS (ty:=ty) (nid:=nid) (CJ he) N W O d a1 a2 a3 a4 v1 (i p J) hm).weaken rfl rfl rfl
 .cases h
end
end
section
section
variable {ρ:Nat->Nat×Nat}{dom:Nat->Prop}{P:Program}{w:World}{get get0:Nat->Option aa}{nid:Nat}
theorem NS {a:Act}{ev:Operand->V}{parts:Array (Nat×Operand)}(h:∀ x∈parts.toList.map (·.2),VR ρ dom w (ev x) (a.eval x)):
  (parts.map fun(i,x)=>(i,a.eval x)).size=(parts.toList.map fun x=>(x.1,ev x.2)).length/\
  ∀ (i:Nat) x y,(parts.toList.map fun x=>(x.1,ev x.2))[i]?=some x->(parts.map fun(i,x)=>(i,a.eval x)).toList[i]?=some y->x.1=y.1/\VR ρ dom w x.2 y.2:=by
 refine⟨J,fun i x y b c=>?_⟩;simp only[Bh,dU] at b c;cases d:parts.toList[i]? with
 |none=>rw[d] at b;cases b
 |some p=>
  rw[d] at b c;simp only[ou,eg] at b c;subst b;subst c;exact⟨rfl,h p.2 (eZ.2 ⟨p,lm d,rfl⟩)⟩
theorem U8 {t:TypeId}{c:String}(h:(kr P t c).isSome=true)(k:Nat)(v:Value)(w:World):(nilAhead (k+1) t v c).run P w= .ok (some false) w:=by
 obtain⟨f,h⟩:=wn.1 h;unfold kr at h;split at h
 case h_2=>cases h
 rename_i i d n o;split at h
 case h_2=>cases h
 rename_i p q;split at h
 case isFalse=>cases h
 rename_i g;have a:p.path.toList=[]:=by
  have :=Array.isEmpty_iff.1 g;rw[this]
 unfold nilAhead;have m:(typeInfo t).run P w= .ok i w:=by simp[typeInfo,n]
 simp only[dx,m,eQ,q,a,followBlind,dI];split at h
 .rename_i j l;rw[l];simp only[dI]
 .cases h
 .cases h
 .rename_i j l b;rw[l];simp only[dx,dS o,eQ];split;all_goals(first|(rename_i e;exact absurd rfl (b _))|simp only[dI])
 .cases h
theorem adY {t : TypeId} {nm : String} (h : (kr P t nm).isSome = true) (x : Value) (c : Array Value) (w : World) :
    (do if (← nilAhead ((← program).types.size + Made.depth) t x nm) != some false then
          unsupported (.noEntry "op/nilCheck.the method's receiver behind this interface value is a nil pointer, or cannot be seen to be none, and the arguments act or may panic (ledger 612)")
        pure (.value (.func (.method nm) #[.iface t x] c)) : Sem Next).run P w = .ok (.value (.func (.method nm) #[.iface t x] c)) w := by
  have hpr : (program : Sem Program).run P w = .ok P w := by rfl
  have hd : P.types.size + Made.depth = (P.types.size + Made.depth - 1) + 1 := by unfold Made.depth; omega
  simp only [Sem.run_bind, hpr, Result.andThen_ok]
  rw [hd, U8 h]
  rfl
theorem Ov {ρ:Nat->Nat×Nat}{dom:Nat->Prop}{w:World}{x y:Int}{r:Value}(h:VR ρ dom w (.agg [.i64 x,.i64 y]) r):r= .agg #[.int .i64 x,.int .i64 y]:=by
 unfold VR at h;obtain⟨a,rfl,h⟩:=h;unfold ao at h;obtain⟨j,k,i,g,b⟩:=h;unfold ao at b;obtain⟨l,e,f,c,d⟩:=b;unfold ao at d;unfold VR at g c;subst g c d f;congr 1;exact Az i
theorem ahQ {o:Oper}{a:Act}{ev:Operand->V}{res:bu}(h:dK P o.op ev get0 nid=some res)(j:res.pre)(g:OZ ρ dom w a ev o.op)(hm:bS ρ dom get w)
  (C:∀ b∈res.fp,get b=get0 b) (R:∀ b,nid<=b->b<nid+res.news.length->¬ dom b):bF P (execOp a.eval o) w ρ dom get nid res:=by
 obtain⟨h5,op,e7,h6,e8,e9⟩:=o;simp only at h g;unfold OZ at g;unfold execOp;cases op<;>simp only[dK,seval] at h<;>simp only[Op.operands] at g<;>simp only
 case move x=>
  injection h with h;subst h
  exact bF.same hm rfl (g x J) rfl rfl
 case assign x=>
  injection h with h;subst h
  exact bF.same hm rfl (g x J) rfl rfl
 case pick c x y=>
  split at h
  case h_2=>cases h
  rename_i b q;injection h with h;subst h
  have v1:=g c J;rw[q] at v1;unfold VR at v1;refine bF.same (r:=if b then a.eval x else a.eval y) hm (by simp[v1,asBool]) ?_ rfl rfl;cases b
  .exact g y J
  .exact g x J
 case alloc e=>
  split at h
  case h_2=>cases h
  rename_i z L;injection h with h;subst h
  exact(acz L hm (R nid (bz _) J)).weaken rfl rfl rfl
 case box e x=>
  have v1:=g x J;have h7:ev x≠ .bH->(∀ l,ev x≠ .aZ l)->res={v:= .ptr nid 0,news:=[bK ((ev x).cells)]}->bF P (do pure (.value (<-Instr.box e (a.eval x))):Sem Next) w ρ dom get nid res:=by
   intro h1 h2 h3;subst h3;exact Lv v1 h1 h2 hm (R nid (bz _) J)
  split at h
  .split at h
   .cases h
   .cases h
   .cases h
   .rename_i b0 c6 b2;injection h with h
    exact h7 (fun e=>b0 e) (fun l e=>b2 l e) h.symm
  .split at h
   .rename_i m c7 _ c cs b3;injection h with h
    subst h;rw[b3] at v1;exact Lv v1 (fun e=>by cases e) (fun l e=>by cases e) hm (R nid (bz _) J) (mp:=some m) (fun _ _ e=>by cases e)
   .cases h
 case build t parts=>
  obtain⟨T,p2⟩:=NS (ρ:=ρ) (dom:=dom) (w:=w) (a:=a) (ev:=ev) (parts:=parts) (by simpa using g);split at h
  .rename_i z pl q;simp only[yy] at h;obtain⟨cs,hf,rfl⟩:=h;exact bF.val hm (QJ q T p2 hf) rfl rfl
  .rename_i z s q;simp only[yy] at h;obtain⟨cs,hf,rfl⟩:=h;exact bF.val hm (QJ q T p2 hf) rfl rfl
  .cases h
 case buildSlice t len parts=>
  obtain⟨T,p2⟩:=NS (ρ:=ρ) (dom:=dom) (w:=w) (a:=a) (ev:=ev) (parts:=parts) (by simpa using g);split at h
  case h_2=>cases h
  rename_i e he;split at h
  case h_2=>cases h
  rename_i s z u L;split at h
  case isFalse=>cases h
  rename_i hc;simp only[yy] at h;obtain⟨cs,hf,rfl⟩:=h;exact aaw (CJ he) u L hc.1 hc.2.1 hc.2.2 T p2 hf hm (R nid (bz _) J)
 case load t x=>
  have v1:=g x J;split at h
  case h_2=>cases h
  rename_i b p q;rw[q] at v1;split at h
  .rename_i B s D ht u;injection h with h;subst h
   have :=E3 hm v1 (by rw[C b J];exact D) ht u;simp only[eJ] at this;exact bF.val hm (this j) rfl rfl
  .rename_i B s D ht u;injection h with h;subst h
   have :=E3 hm v1 (by rw[C b J];exact D) ht u;simp only[fh,fH] at this;exact bF.val hm (this j) rfl rfl
  .cases h
 case store t x y=>
  have v1:=g x J;have v2:=g y J;split at h
  case h_2=>cases h
  rename_i b p q;rw[q] at v1;split at h
  case h_3=>cases h
  .rename_i cs s D u;split at h
   case isFalse=>cases h
   rename_i hc;injection h with h;subst h
   subst hc;exact(M3 (o:=⟨h5,.store t x y,e7,h6,e8,e9⟩) (nid:=nid) hm v1 v2 (fun _ h=>by cases h) (by rw[C b J];exact D) u j.1 j.2).weaken rfl rfl rfl
  .rename_i c cs m s D u;split at h
   case isFalse=>cases h
   rename_i hc;injection h with h;subst h
   subst hc;exact(M3 (o:=⟨h5,.store t x y,e7,h6,e8,e9⟩) (nid:=nid) hm v1 v2 (fun _ _ h=>by cases h) (by rw[C b J];exact D) u j.1 j.2).weaken rfl rfl rfl
 case nilCheck x=>
  have v1:=g x J;split at h
  .rename_i b p q;injection h with h;subst h
   rw[q] at v1;have v2:=v1;unfold VR at v2;obtain⟨_,e⟩:=v2;exact bF.same hm (by rw[e];rfl) v1 rfl rfl
  .rename_i f x1 x2 q;injection h with h;subst h
   rw[q] at v1;have v2:=v1;unfold VR at v2;obtain⟨f',c',e,_⟩:=v2;exact bF.same hm (by rw[e];rfl) v1 rfl rfl
  .rename_i nm t v0 q;split at h
   case isFalse=>cases h
   rename_i b4;injection h with h;subst h
   rw[q] at v1;have v2:=v1;unfold VR at v2;obtain⟨x',e,_⟩:=v2;refine bF.same hm ?_ v1 rfl rfl;rw[e];exact adY b4 x' #[] w
  .rename_i t v q;injection h with h;subst h
   rw[q] at v1;have v2:=v1;unfold VR at v2;obtain⟨f',e,_⟩:=v2;exact bF.same hm (by rw[e];rfl) v1 rfl rfl
  .cases h
 case binOp op t x y ty=>
  obtain⟨h1,h2⟩:=Vy h;exact bF.val hm (UL hm C h j (g x J) (g y J)) h1 h2
 case unOp op t x=>
  have M:res.old=[]/\res.news=[]:=by
   unfold xN at h;split at h<;>simp only[eg,seval] at h<;>subst h<;>exact⟨rfl,rfl⟩
  exact bF.val hm (TD h (g x J)) M.1 M.2
 case convert s d x=>
  have v1:=g x J;unfold yU at h;split at h
  .rename_i k1 k2 x' E F;simp only[yy] at h;obtain⟨v,hv,rfl⟩:=h;obtain⟨kk,n,e,b5⟩:=Yr hv v1;refine bF.val hm ⟨_,?_,b5⟩ rfl rfl;rw[e];simp[convert,dS E,dS F,Conv.intToInt]
  .rename_i b E F q;injection h with h;subst h
   rw[q] at v1;have v2:=v1;unfold VR at v2;obtain⟨b',e,_⟩:=v2;refine bF.val hm ⟨_,?_,v1⟩ rfl rfl;rw[e];simp[convert,dS E,dS F]
  .rename_i e b E F q;split at h
   case h_2=>cases h
   rename_i he;injection h with h;subst h
   rw[q] at v1;exact(ag0 E F he v1 hm (R nid (bz _) J)).weaken rfl rfl rfl
  .rename_i e E F q;split at h
   case h_2=>cases h
   rename_i he;injection h with h;subst h
   rw[q] at v1;unfold VR at v1;refine bF.val hm ⟨.string .empty,?_,by unfold VR;exact⟨_,rfl,rfl⟩⟩ rfl rfl;rw[v1];simp[convert,dS E,dS F,dS he,Conv.bytesToString]
  .rename_i e b p len E F q;split at h
   case h_2=>cases h
   rename_i B he D;injection h with h;subst h
   rw[q] at v1;exact bF.val hm (Y1 E he F hm (by rw[C b J];exact D) j.1 j.2 v1) rfl rfl
  .cases h
 case makeMap t rsv=>
  cases rsv with
  |some _=>simp at h
  |none=>
   simp only at h;split at h
   case isTrue ht=>
    injection h with h;subst h
    have N:=R nid (bz _) J;obtain⟨g1,g2⟩:=NW hm N ⟨[],0⟩;refine⟨_,_,.map (some w.heap.size),.inl ?_,xC N,g1,?_,g2⟩
    .have ho:(⟨[],0⟩:aV).obj= .map #[] 0:=rfl;rw[ho];simp[Instr.makeMap,newObj,Sem.run]
    .unfold VR;exact⟨.inr ⟨I,J⟩,by rw[ku]⟩
   case isFalse=>
    split at h
    case isFalse=>cases h
    rename_i ht;injection h with h;subst h
    have N:=R nid (bz _) J;obtain⟨g1,g2⟩:=NW hm N ⟨[AT],0⟩;refine⟨_,_,.map (some w.heap.size),.inl ?_,xC N,g1,?_,g2⟩
    .have ho:(⟨[AT],0⟩:aV).obj= .map #[] 0:=aV.Fi rfl;rw[ho];simp[Instr.makeMap,newObj,Sem.run]
    .unfold VR;exact⟨.inr ⟨I,J⟩,by rw[ku]⟩
 case lookup t x i ok=>
  have v1:=g x J;have v2:=g i J;split at h
  case h_3=>cases h
  case h_1=>
   rename_i b k O A hi;split at h
   case h_2=>cases h
   rename_i ro m D;injection h with h;subst h
   rw[A] at v1;rw[hi] at v2;unfold VR at v1 v2;obtain⟨kt,et,hu,W,L⟩:=G0 O;have hg:w.heap[(ρ b).1]?=some m.obj:=hm.gY b _ m ((C b J).trans D) rfl;refine bF.val hm ⟨_,by rw[v1.2,v2];exact aai j hu W L hg k ok,?_⟩ rfl rfl;cases ok
   .show VR _ _ _ (.i64 _) _;unfold VR;rfl
   .show VR _ _ _ (.aZ _) _;unfold VR;exact⟨_,rfl,ao.cons (by unfold VR;rfl) (ao.cons (by unfold VR;rfl) ao.nil)⟩
  case h_2=>
   rename_i b x1 y1 O A hi;split at h
   case h_2=>cases h
   rename_i c8 ro m Q D;injection h with h;subst h
   rw[A] at v1;rw[hi] at v2;have v2:=Ov v2;unfold VR at v1;obtain⟨kt,et,el,hu,W,X,u,L⟩:=Td Q;have hg:w.heap[(ρ b).1]?=some m.obj:=hm.gY b _ m ((C b J).trans D) rfl;obtain⟨p0,T,p2,p3,p4⟩:=j;refine bF.val hm ⟨_,by rw[v1.2,v2,<-Nl T p2 p3 p4];exact afB p0 hu W X u L hg (pk x1 y1),?_⟩ rfl rfl;show VR _ _ _ (.i64 _) _;unfold VR;rfl
 case mapUpdate t x i y=>
  have v1:=g x J;have v2:=g i J;have v3:=g y J;split at h
  case h_3=>cases h
  case h_1=>
   rename_i b k n O A hi H;split at h
   case h_2=>cases h
   rename_i m D;injection h with h;subst h
   rw[A] at v1;rw[hi] at v2;rw[H] at v3;unfold VR at v1 v2 v3;obtain⟨kt,et,hu,W,L⟩:=G0 O;have D:=(C b J).trans D;have hg:w.heap[(ρ b).1]?=some m.obj:=hm.gY b _ m D rfl;obtain⟨g1,g2⟩:=I9 (nid:=nid) hm D (m.set k n);refine⟨ρ,_,undef,.inr ⟨?_,rfl⟩,fun _ _=>rfl,g1,by unfold VR;trivial,g2⟩;rw[v1.2,v2,v3,dx,Xu j.1 hu W hg _ _ j.2];rfl
  case h_2=>
   rename_i b x1 y1 n O A hi H;split at h
   case h_2=>cases h
   rename_i m Q D;injection h with h;subst h
   rw[A] at v1;rw[hi] at v2;rw[H] at v3;have v2:=Ov v2;unfold VR at v1 v3;obtain⟨kt,et,el,hu,W,X,u,L⟩:=Td Q;have D:=(C b J).trans D;have hg:w.heap[(ρ b).1]?=some m.obj:=hm.gY b _ m D rfl;obtain⟨p0,T,p2,p3,p4⟩:=j;obtain⟨g1,g2⟩:=I9 (nid:=nid) hm D (m.Cp (pk x1 y1) n);refine⟨ρ,_,undef,.inr ⟨?_,rfl⟩,fun _ _=>rfl,g1,by unfold VR;trivial,g2⟩;rw[v1.2,v2,v3,dx,<-Nl T p2 p3 p4,aaf p0 hu W X u hg _ _];rfl
 case makeInterface t x=>
  have v1:=g x J;split at h
  case isFalse=>cases h
  rename_i ht;injection h with h;subst h
  unfold E1 at ht;split at ht
  .cases ht
  .rename_i d c9 hu;refine bF.val hm ⟨.iface t _,?_,by unfold VR;exact⟨_,rfl,v1⟩⟩ rfl rfl;simp only[Instr.makeInterface,dx,dS hu,eQ];rfl
  .cases ht
 case sliceToArrayPointer t x=>
  have v1:=g x J;split at h
  case h_2=>cases h
  rename_i n _ b p len _ ht A;injection h with h;subst h
  rw[A] at v1;unfold VR at v1;obtain⟨Y,ad,cap,e,e0,ha⟩:=v1;obtain⟨e4,e5⟩:=j;obtain⟨rfl,_⟩:=ha I;refine bF.val hm ⟨_,?_,by unfold VR;exact⟨Y,rfl⟩⟩ rfl rfl;rw[e];have b6:¬ (len<n):=I;simp[Instr.arrayAt,dS (ai0 ht),b6]
 case makeFunc fn first caps=>
  split at h
  case h_3=>cases h
  case h_2=>
   split at h
   case h_2=>cases h
   rename_i t v S;split at h
   case isFalse=>cases h
   rename_i a6;injection h with h;subst h
   have a7:=wC (ρ:=ρ) (dom:=dom) (w:=w) (a:=a) (ev:=ev) (l:=first.toList) fun y H=>g y (by simp;exact .inl (by simpa using H))
   rw[S] at a7;unfold ao at a7;obtain⟨r,rs,e1,e2,e3⟩:=a7;unfold VR at e2;obtain⟨r',e2,c0⟩:=e2;unfold ao at e3;subst e3 e2;refine bF.val hm ⟨_,rfl,?_⟩ rfl rfl;unfold VR;have a6:caps=#[]:=by simpa using a6
   subst a6;refine⟨r',?_,c0⟩;rw[Array.map_empty,show first.map a.eval=#[.iface t r'] from by
    apply Az;rw[Bh];exact e1]
  rename_i f;injection h with h;subst h
  refine bF.val hm ⟨_,rfl,?_⟩ rfl rfl;unfold VR;exact⟨_,_,rfl,by simpa using wC fun y H=>g y (by simp;exact .inl (by simpa using H)),by simpa using wC fun y H=>g y (by simp;exact .inr (by simpa using H))⟩
 case makeSlice t l c=>
  have v1:=g l J;have v2:=g c J;split at h
  case h_2=>cases h
  rename_i e n m he hn c1;split at h
  case h_2=>cases h
  rename_i s e6 z u q L;split at h
  case isFalse=>cases h
  rename_i hc;injection h with h;subst h
  obtain⟨rfl,p2,p3,p4⟩:=j;rw[hn] at v1;rw[c1] at v2;unfold VR at v1 v2;rw[v1,v2];exact(agj (CJ he) u q L hc.1 hc.2 p2 p3 p4 hm (R nid (bz _) J)).weaken rfl rfl rfl
 case slice t x lo hi mx=>
  cases mx with
  |some _=>simp at h
  |none=>
   simp only[CS,fh,fH] at h;have v1:=g x J;have o1:=Oy (x:=lo) fun y H=>g y (by simp at H |-;simp[H])
   have o2:=Oy (x:=hi) fun y H=>g y (by simp at H |-;simp[H])
   simp only[xb];split at h
   .rename_i s hu A;split at h
    case h_2=>cases h
    rename_i l hh S K;injection h with h;subst h
    rw[A] at v1;exact bF.val hm (ad1 hu v1 S K j.1 j.2.1 j.2.2 o1 o2) rfl rfl
   .rename_i e b p len c2 hu A;split at h
    case h_2=>cases h
    rename_i l hh S K;split at h
    case h_2=>cases h
    rename_i s u;split at h
    case isFalse=>cases h
    rename_i he;subst he;injection h with h;subst h
    rw[A] at v1;exact bF.val hm (agT hu u v1 S K j.1 j.2.1 j.2.2 o1 o2) rfl rfl
   .rename_i e hu A;split at h
    case h_2=>cases h
    rename_i l hh s S K u;injection h with h;subst h
    obtain⟨rfl,rfl⟩:=j;rw[A] at v1;have v2:=v1;unfold VR at v2;have q:=EW (P:=P) (isS:=true) (cap:=0) S K (dY _) (dY _) (dY _) (bz _) o1 o2;refine bF.val hm ⟨_,?_,v1⟩ rfl rfl;rw[v2];simp[Instr.sliceAt,dS hu,Instr.slice,q,uB u]
   .rename_i n e b p hu A;split at h
    case h_2=>cases h
    rename_i l hh s cs S K u D;injection h with h;subst h
    rw[A] at v1;exact bF.val hm (aei hu u hm (by rw[C b J];exact D) v1 S K j.1 j.2.1 j.2.2.1 j.2.2.2 o1 o2) rfl rfl
   .cases h
 case fieldAddr s x f=>
  have v1:=g x J;split at h
  case h_2=>cases h
  rename_i h9 ft b p G A;split at h
  case h_2=>cases h
  rename_i n hn;split at h
  case isTrue=>cases h
  rename_i c3;injection h with h;subst h
  rw[A] at v1;unfold VR at v1;obtain⟨Y,e⟩:=v1;unfold bR at G;split at G
  case h_2=>cases G
  rename_i fs hu;split at G
  case h_2=>cases G
  rename_i c4 a8;injection G with G
  simp only[lW] at G;obtain⟨rfl,rfl⟩:=G;refine bF.val hm ⟨.pointer (some ⟨(ρ b).1,(ρ b).2+(p+c4.offset),none⟩),?_,by unfold VR;exact⟨Y,rfl⟩⟩ rfl rfl;rw[e];simp[Instr.fieldAt,dS hu,a8,Instr.sureAddr,fieldPlace,uB hn,c3,JN,qe]
 case indexAddr t x i=>
  have v1:=g x J;have v2:=g i J;split at h
  .rename_i n e b p ii hu A hi;split at h
   case h_2=>cases h
   rename_i s u;injection h with h;subst h
   rw[A] at v1;exact bF.val hm (aeW hu u v1 hi v2 j.1 j.2) rfl rfl
  .rename_i e b p len c2 ii hu A hi;split at h
   case h_2=>cases h
   rename_i s u;split at h
   case isFalse=>cases h
   rename_i he;subst he;injection h with h;subst h
   rw[A] at v1;exact bF.val hm (aeZ hu u v1 hi v2 j.1 j.2) rfl rfl
  .cases h
 case index t x i=>
  have v1:=g x J;have v2:=g i J;split at h
  .rename_i n e cs ii hu A hi;rw[A] at v1;split at h
   .rename_i s ht u;injection h with h;subst h
    have :=On hu ht u v1 hi v2 j.1 j.2.1;simp only[fh,fH] at this;exact bF.val hm (this j.2.2) rfl rfl
   .rename_i s ht u;injection h with h;subst h
    have :=On hu ht u v1 hi v2 j.1 j.2;simp only[eJ] at this;exact bF.val hm this rfl rfl
   .cases h
  .rename_i s ii hu A hi;injection h with h;subst h
   rw[A] at v1;exact bF.val hm (afV hu v1 hi v2 j.1 j.2) rfl rfl
  .cases h
 case extract t i=>
  have v1:=g t J;split at h
  case h_2=>cases h
  rename_i vs A;split at h
  case h_2=>cases h
  rename_i v hv;injection h with h;subst h
  rw[A] at v1;unfold VR at v1;obtain⟨rs,e,c5⟩:=v1;obtain⟨r,g1,g2⟩:=c5.get hv;refine bF.val hm ⟨r,?_,g2⟩ rfl rfl;rw[e];have :rs[i]?=some r:=by rw[<-g1];simp
  simp[Instr.extract,this]
 case call c=>
  obtain⟨h0,h8,h4⟩:=c;cases h0 with
  |builtin b=>
   exact ZQ (ty:=e7) (a:=a) h j (fun y H=>g y (by simp[Call.operands];simpa using H)) hm C R
  |value f=>simp at h
  |invoke r m=>simp at h
 all_goals cases h
end
end
section
structure St where
 t:List (Nat×V)
 H:aU
def lookS:List (Nat×V)->Nat->V
 |[],_=> .bH
 |(i,v)::r,t=>if i=t then v else lookS r t
def St.get (s:St)(t:Nat):V:=lookS s.t t
def ah (H:aU)(b:Nat):Option aa:=(H[b]?).join
def St.ev (s:St):Operand->V
 | .tmp t=>s.get t
 | .const v=>ofValue v
 | .func f=> .fn f [] []
 | .global _=> .bH
def fX (H:aU):List (Nat×Option aa)->aU
 |[]=>H
 |(i,x)::r=>(fX H r).set i x
def di (t:List (Nat×V)):Option Tmp->V->List (Nat×V)
 |some d,v=>(d,v)::t
 |none,_=>t
def St.after (s:St)(dst:Option Tmp)(res:bu):St:=⟨di s.t dst res.v,fX s.H res.old++res.news⟩
def St.put (s:St)(dst:Option Tmp)(v:V):St:=⟨di s.t dst v,s.H⟩
def kh (n:Nat):Option Tmp->Prop
 |some d=>d<n
 |none=>True
structure eT (ρ:Nat->Nat×Nat) (dom:Nat->Prop) (w:World) (n:Nat) (T:Nat->V) (a:Act):Prop where
 size:a.tmps.size=n
 defers:a.defers=[]
 slot:∀ t,VR ρ dom w (T t) (a.tmps.getD t undef)
structure cn (ρ:Nat->Nat×Nat) (n:Nat) (s:St) (a:Act) (w:World):Prop where
 tmps:eT ρ (· <s.H.length) w n s.get a
 mem:bS ρ (· <s.H.length) (ah s.H) w
section
variable {ρ ρ':Nat->Nat×Nat}{dom dom':Nat->Prop}{P:Program}{w w':World}{n:Nat}{a:Act}
theorem eT.mono {T:Nat->V}(h:eT ρ dom w n T a)(c:∀ b,dom b->ρ' b=ρ b)(d:∀ b,dom b->dom' b)(e:cN w w'):eT ρ' dom' w' n T a:=
 ⟨h.size,h.defers,fun t=>(h.slot t).mono c d e⟩
theorem eT.eval {s:St}(h:eT ρ dom w n s.get a)(x:Operand):VR ρ dom w (s.ev x) (a.eval x):=by
 cases x with
 |tmp t=>exact h.slot t
 |const v=>exact IH v
 |global g=>show VR ρ dom w .bH _;unfold VR;trivial
 |func f=>show VR ρ dom w (.fn f [] []) _;unfold VR;exact⟨#[],#[],rfl,ao.nil,ao.nil⟩
theorem Cl (a:Act)(d:Tmp)(r:Value)(t:Nat)(b:d<a.tmps.size):(a.put (some d) r).tmps.getD t undef=if d=t then r else a.tmps.getD t undef:=by
 simp only[Act.put,rA,Ik];by_cases e:d=t
 .subst e;simp[b]
 .simp[e]
theorem eT.put {t:List (Nat×V)}{dst:Option Tmp}{v:V}{r:Value}(h:eT ρ dom w n (lookS t) a)(c:kh n dst)(f:VR ρ dom w v r):eT ρ dom w n (lookS (di t dst v)) (a.put dst r):=by
 cases dst with
 |none=>exact h
 |some d=>
  refine⟨by simpa [Act.put] using h.size,h.defers,fun b=>?_⟩;rw[Cl a d r b (by rw[h.size];exact c)];show VR ρ dom w (if d=b then v else lookS t b) _;by_cases e:d=b
  .rw[aM e,aM e];exact f
  .rw[aq e,aq e];exact h.slot b
theorem jE (H:aU):∀ old,(fX H old).length=H.length
 |[]=>rfl
 |(i,x)::r=>by simp[fX,jE H r]
theorem uH (H:aU):∀ old (b:Nat),b<H.length->ah (fX H old) b=lz old b (ah H b)
 |[],_,_=>rfl
 |(i,x)::r,b,c=>by
  have ih:=uH H r b c;unfold ah at*;simp only[fX,lz,Bd];by_cases e:i=b
  .subst e;rw[aM rfl,aM (by rw[jE];exact c),aM rfl];rfl
  .rw[aq e,aq (fun x=>e x.symm)];exact ih
theorem ZI (s:St)(dst:Option Tmp)(res:bu)(b:Nat)(B:aa)(h:ah (s.after dst res).H b=some B):eu (ah s.H) res.old s.H.length res.news b=some B:=by
 unfold eu;show(if s.H.length<=b/\b<s.H.length+res.news.length then _ else _)=_;have e:=jE s.H res.old;simp only[St.after] at h;by_cases f:b<s.H.length
 .rw[aq I,<-uH s.H res.old b f];unfold ah at h |-
  rw[kY I] at h;exact h
 .unfold ah at h;rw[iy I,e] at h;by_cases i:b<s.H.length+res.news.length
  .rw[aM ⟨I,i⟩];exact h
  .rw[iW I] at h;cases h
def Spec (P:Program)(f:FuncId)(args:List V)(get0:Nat->Option aa)(nid:Nat)(res:bu):Prop:=
 ∀ (k:Nat->Nat×Nat) (dom:Nat->Prop) (g:Nat->Option aa) (w:World) (c:Array Value),bS k dom g w->ao k dom w args c.toList->(∀ b∈res.fp,g b=get0 b/\(b<nid->dom b))->(∀ b,nid<=b->b<nid+res.news.length->¬ dom b)->
  Calls P f c w fun e w'=>∃ r h,e= .returned r/\(∀ b,dom b->h b=k b)/\bS h (gr dom nid res.news.length) (eu g res.old nid res.news) w'/\VR h (gr dom nid res.news.length) w' res.v r/\Frame k g w h (eu g res.old nid res.news) w'
def iu (P:Program)(f:FuncId):Bool:=match P.funcs[f]? with
 |some fn=>fn.name != "runtime.NumGoroutine"&&fn.body.isSome
 |none=>false
def zK (P:Program)(f:FuncId)(args:List V)(v:V):Prop:=
 ∀ (h:Nat->Nat×Nat) (dom:Nat->Prop) (w:World) (b:Array Value),ao h dom w args b.toList->∃ r,(callFunc f b).run P w= .ok (.value r) w/\VR h dom w v r
def lQ (P:Program)(b:V)(args:List V)(get0:Nat->Option aa)(nid:Nat)(res:bu):Prop:=
 (∃ f d e,b= .fn f d e/\iu P f=true/\res.pre/\Spec P f (d++args++e) get0 nid res)\/
 (∃ f d e,b= .fn f d e/\res.old=[]/\res.news=[]/\zK P f (d++args++e) res.v)\/
 (∃ c t v f,b= .iV c t v/\kr P t c=some f/\iu P f=true/\res.pre/\Spec P f (v::args) get0 nid res)
def eL (P:Program)(o:Oper)(ev:Operand->V)(get0:Nat->Option aa)(nid:Nat)(res:bu):Prop:=
 ∀ (h:Nat->Nat×Nat) (dom:Nat->Prop) (f:Nat->Option aa) (w:World) (a:Act) (next:Act->World->Prop) (Q:Exit->Act->World->Prop),
  (∀ x∈o.op.operands.toList,VR h dom w (ev x) (a.eval x))->bS h dom f w->(∀ b∈res.fp,f b=get0 b/\(b<nid->dom b))->(∀ b,nid<=b->b<nid+res.news.length->¬ dom b)->
  (∀ g w' r,(∀ b,dom b->g b=h b)->bS g (gr dom nid res.news.length) (eu f res.old nid res.news) w'->VR g (gr dom nid res.news.length) w' res.v r->Frame h f w g (eu f res.old nid res.news) w'->next (a.put o.dst r) w')->
  o.wp P a w next Q
def IE (Z98:Nat->Option aa->Prop)(P:Program)(o:Oper)(ev:Operand->V)(get0:Nat->Option aa)(nid:Nat)(res:bu):Prop:=
 ∀ (f:Nat->Nat×Nat) (dom:Nat->Prop) (d:Nat->Option aa) (w:World) (a:Act) (next:Act->World->Prop) (Q:Exit->Act->World->Prop),
  (∀ x∈o.op.operands.toList,VR f dom w (ev x) (a.eval x))->bS f dom d w->(∀ b∈res.fp,d b=get0 b/\(b<nid->dom b))->(∀ b,nid<=b->b<nid+res.news.length->¬ dom b)->(∀ b,Z98 b (d b))->
  (∀ e w' r,(∀ b,dom b->e b=f b)->bS e (gr dom nid res.news.length) (eu d res.old nid res.news) w'->VR e (gr dom nid res.news.length) w' res.v r->Frame f d w e (eu d res.old nid res.news) w'->next (a.put o.dst r) w')->
  o.wp P a w next Q
theorem eL.CV {Z98:Nat->Option aa->Prop}{o:Oper}{ev:Operand->V}{get0:Nat->Option aa}{nid:Nat}{res:bu}(h:eL P o ev get0 nid res):IE Z98 P o ev get0 nid res:=
 fun f dom e w a next Q g i b c _ d=>h f dom e w a next Q g i b c d
theorem eL.Dm {o:Oper}{ev:Operand->V}{get0:Nat->Option aa}{nid:Nat}{res:bu}(h:dK P o.op ev get0 nid=some res)(i:res.pre):eL P o ev get0 nid res:=by
 intro u dom s w a next Q j t c k d;obtain⟨m,w',r,p,q,e,f,g⟩:=ahQ h i j t (fun b l=>(c b l).1) k;unfold Oper.wp;rcases p with p|⟨p,rfl⟩
 .rw[p,wQ];exact d m w' r q e f g
 .rw[p,Oper.upon_skip];exact d m w' undef q e f g
theorem Bf {f:FuncId}{args:Array Value}(h:iu P f=true):(callFunc f args).run P w= .ok (.enter f args) w:=by
 unfold iu at h;unfold callFunc;cases hf:P.funcs[f]? with
 |none=>rw[hf] at h;cases h
 |some c=>
  rw[hf] at h;simp only[lY,bne_iff_ne] at h;have b:c.body≠none:=fun e=>by rw[e] at h;simp at h
  simp[hf,h.1,b]
theorem OM {t:TypeId}{j:String}{f:FuncId}(h:kr P t j=some f)(k:Nat)(v:Value)(w:World):(method (k+1) t v j).run P w= .ok (f,v) w:=by
 unfold kr at h;split at h
 case h_2=>cases h
 rename_i i d p m;split at h
 case h_2=>cases h
 rename_i q r;split at h
 case isFalse=>cases h
 rename_i c;have b:q.path.toList=[]:=by
  have :=Array.isEmpty_iff.1 c;rw[this]
 unfold method;have o:(typeInfo t).run P w= .ok i w:=by simp[typeInfo,p]
 simp only[dx,o,eQ,r,b,follow,dI];split at h
 .rename_i e _ l;injection h with h;subst h
  rw[l];simp only[receiverAt,dx,dS m,eQ,Place.get,dI]
 .cases h
 .cases h
 .rename_i e l g;injection h with h;subst h
  rw[l];simp only[receiverAt,dx,dS m,eQ,Place.get,dI]
 .cases h
theorem eL.ZF {o:Oper}{c:Call}{j:Operand}{z:String}{t:TypeId}{v:V}{f:FuncId}{ev:Operand->V}{get0:Nat->Option aa}{nid:Nat}{res:bu}(ho:o.op= .call c)(hc:c.callee= .value j)(A:ev j= .iV z t v)(hm:kr P t z=some f)(k:iu P f=true)(B:Spec P f (v::c.args.toList.map ev) get0 nid res):eL P o ev get0 nid res:=by
 intro ρ dom get w a next Q l h m p C;rw[ho] at l;have q:=l j (by simp[Op.operands,Call.operands,hc]);rw[A] at q;unfold VR at q;obtain⟨g,e,g0⟩:=q;have b:ao ρ dom w (c.args.toList.map ev) (c.args.toList.map a.eval):=wC fun y D=>l y (by simp[Op.operands,Call.operands,hc];exact .inr (by simpa using D))
 have i:ao ρ dom w (v::c.args.toList.map ev) (#[g]++c.args.map a.eval).toList:=by
  rw[J5,Bh];exact ao.cons g0 b
 have d:(execOp a.eval o).run P w=(callFunc f (#[g]++c.args.map a.eval)).run P w:=by
  unfold execOp;rw[ho];have s:(#[Value.iface t g]++c.args.map a.eval)[0]?=some (.iface t g):=by
   rw[BN J];rfl
  have u:(#[Value.iface t g]++c.args.map a.eval).extract 1 (#[Value.iface t g]++c.args.map a.eval).size=c.args.map a.eval:=by
   apply Az;simp;rw[bq J]
  have x:(program:Sem Program).run P w= .ok P w:=ci;simp only[resolve,hc,e,Deferred.ofValue,dx,dI,eQ,invoke,s,callMethod,u,x];have p:P.types.size+Made.depth=(P.types.size+Made.depth-1)+1:=by unfold Made.depth;omega
  rw[p,OM hm];rfl
 unfold Oper.wp;rw[d,Bf k,BO];refine(B ρ dom get w _ h i m p).mono fun e w' he=>?_
 obtain⟨r,ρ',rfl,h2,E,F,G⟩:=he;exact C ρ' w' r h2 E F G
theorem eL.Kx {o:Oper}{c:Call}{p:Operand}{ev:Operand->V}{get0:Nat->Option aa}{nid:Nat}{res:bu}(M:o.op= .call c)(hc:c.callee= .value p)(h:lQ P (ev p) (c.args.toList.map ev) get0 nid res):eL P o ev get0 nid res:=by
 rcases h with⟨f,fs,cs,N,i,_,l⟩|⟨f,fs,cs,N,W,X,l⟩|⟨K,t,v,f,N,u,i,_,l⟩
 case inr.inr=>exact eL.ZF M hc N u i l
 all_goals intro L dom O w a next Q k Y x E D
 rotate_left
 .rw[M] at k;have j:=k p (by simp[Op.operands,Call.operands,hc]);rw[N] at j;unfold VR at j;obtain⟨q,s,e,R,S⟩:=j;have d:ao L dom w (c.args.toList.map ev) (c.args.toList.map a.eval):=wC fun y z=>k y (by simp[Op.operands,Call.operands,hc];exact .inr (by simpa using z))
  obtain⟨r,A,B⟩:=l L dom w (q++c.args.map a.eval++s) (by simpa using(R.append d).append S);have g:(execOp a.eval o).run P w= .ok (.value r) w:=by
   unfold execOp;rw[M];simp only[resolve,hc,e,Deferred.ofValue,dx,dI,eQ,invoke,A]
  unfold Oper.wp;rw[g,wQ];have m:∀ b,dom b->gr dom nid res.news.length b:=fun b C=>Or.inl C
  refine D L w r (fun _ _=>rfl) ?_ (B.mono (fun b _=>rfl) m (cN.refl _)) ?_
  .rw[W,X,vQ];exact Y.sn fun b C=>Or.inl C
  .rw[W,X,vQ];exact Frame.refl L O w
 rw[M] at k;have j:=k p (by simp[Op.operands,Call.operands,hc]);rw[N] at j;unfold VR at j;obtain⟨q,s,e,R,S⟩:=j;have d:ao L dom w (c.args.toList.map ev) (c.args.toList.map a.eval):=wC fun y z=>k y (by simp[Op.operands,Call.operands,hc];exact .inr (by simpa using z))
 have g:(execOp a.eval o).run P w= .ok (.enter f (q++c.args.map a.eval++s)) w:=by
  unfold execOp;rw[M];simp only[resolve,hc,e,Deferred.ofValue,dx,dI,eQ,invoke,Bf i]
 unfold Oper.wp;rw[g,BO];refine(l L dom O w (q++c.args.map a.eval++s) Y (by simpa using(R.append d).append S) x E).mono fun e w' he=>?_
 obtain⟨r,T,rfl,h2,F,G,H⟩:=he;exact D T w' r h2 F G H
theorem eL.Xq {o:Oper}{c:Call}{x:Operand}{name:String}{t:TypeId}{v:V}{f:FuncId}{ev:Operand->V}{get0:Nat->Option aa}{nid:Nat}{res:bu}(ho:o.op= .call c)(hc:c.callee= .invoke x name)(N:ev x= .iface t v)(hm:kr P t name=some f)(h:lQ P (.fn f [] []) (v::c.args.toList.map ev) get0 nid res):eL P o ev get0 nid res:=by
 intro ρ dom get w a next Q z i A B M;rw[ho] at z;have C:=z x (by simp[Op.operands,Call.operands,hc]);rw[N] at C;unfold VR at C;obtain⟨q,e,g0⟩:=C;have k:ao ρ dom w (c.args.toList.map ev) (c.args.toList.map a.eval):=wC fun y O=>z y (by simp[Op.operands,Call.operands,hc];exact .inr (by simpa using O))
 have j:ao ρ dom w (v::c.args.toList.map ev) (#[q]++c.args.map a.eval).toList:=by
  rw[J5,Bh];exact ao.cons g0 k
 have d:(execOp a.eval o).run P w=(callFunc f (#[q]++c.args.map a.eval)).run P w:=by
  unfold execOp;rw[ho];have D:(#[Value.iface t q]++c.args.map a.eval)[0]?=some (.iface t q):=by
   rw[BN J];rfl
  have E:(#[Value.iface t q]++c.args.map a.eval).extract 1 (#[Value.iface t q]++c.args.map a.eval).size=c.args.map a.eval:=by
   apply Az;simp;rw[bq J]
  have F:(program:Sem Program).run P w= .ok P w:=ci;simp only[resolve,hc,e,dx,dI,eQ,invoke,D,callMethod,E,F];have B:P.types.size+Made.depth=(P.types.size+Made.depth-1)+1:=by unfold Made.depth;omega
  rw[B,OM hm];rfl
 rcases h with⟨g,fs,cs,hf,G,_,s⟩|⟨g,fs,cs,hf,h0,h1,s⟩|⟨_,_,_,_,hf,_⟩
 case inr.inr=>cases hf
 rotate_left
 ·injection hf with l m p
  subst l m p;simp only[iY,jn] at s;obtain⟨r,H,K⟩:=s ρ dom w _ j;unfold Oper.wp;rw[d,H,wQ];have u:∀ b,dom b->gr dom nid res.news.length b:=fun b L=>Or.inl L
  refine M ρ w r (fun _ _=>rfl) ?_ (K.mono (fun b _=>rfl) u (cN.refl _)) ?_
  ·rw[h0,h1,vQ];exact i.sn fun b L=>Or.inl L
  ·rw[h0,h1,vQ];exact Frame.refl ρ get w
 injection hf with l m p
 subst l m p;simp only[iY,jn] at s;unfold Oper.wp;rw[d,Bf G,BO];refine(s ρ dom get w _ i j A B).mono fun e w' he=>?_
 obtain⟨r,ρ',rfl,h2,R,S,T⟩:=he;exact M ρ' w' r h2 R S T
def mi (r:Option bu)(K:bu->Prop):Prop:=match r with
 |some f=>f.pre/\K f
 |none=>False
theorem agw (r:bu)(K:bu->Prop):mi (some r) K=(r.pre/\K r):=rfl
def nO (P:Program)(f:V)(args:List V)(H:aU)(K:bu->Prop):Prop:=∃ c,lQ P f args (ah H) H.length c/\K c
def yj (P:Program)(v:V)(d:String)(args:List V)(H:aU)(K:bu->Prop):Prop:=match v with
 | .iface t v=>match kr P t d with
  |some f=>nO P (.fn f [] []) (v::args) H K
  |none=>False
 |_=>False
def jx (P:Program)(o:Op)(s:St)(K:bu->Prop):Prop:=match o with
 | .call c=>match c.callee with
  | .value f=>nO P (s.ev f) (c.args.toList.map s.ev) s.H K
  | .builtin b=>mi (vt P b c.argTypes.toList (c.args.toList.map s.ev) (ah s.H) s.H.length) K
  | .invoke x e=>yj P (s.ev x) e (c.args.toList.map s.ev) s.H K
 |op=>mi (dK P op s.ev (ah s.H) s.H.length) K
theorem GK {o:Oper}{s:St}{K:bu->Prop}(h:jx P o.op s K):∃ res,eL P o s.ev (ah s.H) s.H.length res/\K res:=by
 have g:mi (dK P o.op s.ev (ah s.H) s.H.length) K->∃ res,eL P o s.ev (ah s.H) s.H.length res/\K res:=fun h=>by
  unfold mi at h;split at h
  .rename_i res d;exact⟨res,eL.Dm d h.1,h.2⟩
  .exact h.elim
 unfold jx at h;split at h
 .rename_i c i;split at h
  .rename_i f j;obtain⟨res,k,l⟩:=h;exact⟨res,eL.Kx i j k,l⟩
  .rename_i b e;refine g ?_;rw[i];simp only[dK,e];exact h
  .rename_i x m j;unfold yj at h;split at h
   case h_2=>exact h.elim
   rename_i t v d;split at h
   case h_2=>exact h.elim
   rename_i f p;obtain⟨res,k,l⟩:=h;exact⟨res,eL.Xq i j d p k,l⟩
 .exact g h
def pt (ops:Array Oper)(j:Nat):Option Tmp:=(ops[j]?).bind (·.dst)
def hold {α:Type}(x:α):α:=x
def p8 (v:V)(want:Bool)(X Y:Prop):Prop:=match v with
 | .bool b=>(b=want->X)/\(b≠want->Y)
 | .aZ []=>Y
 |_=>False
def gj (P:Program)(n:Nat)(ops:Array Oper):List Oper->St->(St->Prop)->Prop
 |[],s,K=>K s
 |o::e,s,K=>kh n o.dst/\match o.guard with
  |none=>jx P o.op s (hold fun f=>gj P n ops e (s.after o.dst f) K)
  |some (j,g)=>match pt ops j with
   |some d=>d<n/\p8 (s.get d) g (jx P o.op s (hold fun f=>gj P n ops e (s.after o.dst f) K)) (gj P n ops e (s.put o.dst (.aZ [])) K)
   |none=>False
def Step (m:Nat)(ρ:Nat->Nat×Nat)(s:St)(w:World)(h:Nat->Nat×Nat)(s':St)(w':World):Prop:=
 m<=s'.H.length/\(∀ b,b<m->h b=ρ b)/\Frame ρ (ah s.H) w h (ah s'.H) w'
theorem Step.refl {m:Nat}{s:St}(h:m<=s.H.length):Step m ρ s w ρ s w:=⟨h,fun _ _=>rfl,Frame.refl _ _ _⟩
theorem Step.trans {m:Nat}{f:Nat->Nat×Nat}{s s' c:St}{d:World}(h:Step m ρ s w ρ' s' w')(k:Step m ρ' s' w' f c d):Step m ρ s w f c d:=
 ⟨k.1,fun b e=>(k.2.1 b e).trans (h.2.1 b e),h.2.2.trans k.2.2⟩
def Eg (m n:Nat)(ρ:Nat->Nat×Nat)(s:St)(w:World)(K:St->Prop)(a':Act)(w':World):Prop:=∃ g f,K g/\cn f n g a' w'/\Step m ρ s w f g w'
theorem MY {ops:Array Oper}{o:Oper}{j d:Nat}{i b:Bool}(k:o.guard=some (j,i))(e:pt ops j=some d)(h:d<a.tmps.size)(c:a.tmps.getD d undef= .bool b):Region.wanted o (yielded ops a.tmps)=(b==i):=by
 have g:yielded ops a.tmps j=some b:=by
  unfold yielded;unfold pt at e;rw[e];have :a.tmps[d]?=some (.bool b):=by
   rw[rA] at c;cases f:a.tmps[d]? with
   |none=>simp at f;omega
   |some x=>rw[f] at c;simpa using c
  simp[this]
 unfold Region.wanted;rw[k];simp only[g];cases b<;>cases i<;>rfl
theorem Lc {ops:Array Oper}{o:Oper}{j d:Nat}{g:Bool}(h:o.guard=some (j,g))(e:pt ops j=some d)(b:a.tmps.getD d undef= .tuple #[]):Region.wanted o (yielded ops a.tmps)=false:=by
 have f:yielded ops a.tmps j=none:=by
  unfold yielded;unfold pt at e;rw[e];rw[rA] at b;cases c:a.tmps[d]? with
  |none=>simp[c]
  |some x=>
   rw[c] at b;have :x= .tuple #[]:=by simpa using b
   subst this;simp[c]
 unfold Region.wanted;rw[h];simp only[f];cases g<;>rfl
theorem IW:VR ρ dom w (.aZ []) undef:=by unfold VR;exact⟨#[],rfl,ao.nil⟩
theorem Rb {m:Nat}{s:St}{o:Oper}{res:bu}{r:Value}(h:cn ρ n s a w)(t:m<=s.H.length)(i:kh n o.dst)(f:∀ b,b<s.H.length->ρ' b=ρ b)
  (j:bS ρ' (gr (· <s.H.length) s.H.length res.news.length) (eu (ah s.H) res.old s.H.length res.news) w') (k:VR ρ' (gr (· <s.H.length) s.H.length res.news.length) w' res.v r)
  (g:Frame ρ (ah s.H) w ρ' (eu (ah s.H) res.old s.H.length res.news) w'):cn ρ' n (s.after o.dst res) (a.put o.dst r) w'/\Step m ρ s w ρ' (s.after o.dst res) w':=by
 have p:(s.after o.dst res).H.length=s.H.length+res.news.length:=by simp[St.after,jE]
 have d:∀ b,gr (· <s.H.length) s.H.length res.news.length b->b<(s.after o.dst res).H.length:=fun b c=>by
  rw[p];rcases c with c|c
  .have :b<s.H.length:=c;omega
  .exact c.2
 have q:=ZI s o.dst res;refine⟨⟨?_,?_⟩,?_,?_,?_⟩
 .exact eT.put (h.tmps.mono f (fun b c=>d b (.inl c)) g.kL) i (k.mono (fun _ _=>rfl) d (cN.refl _))
 .exact(j.less q).sn d
 .rw[p];omega
 .exact fun b c=>f b I
 .exact g.less fun b B l e=>⟨b,B,q b B l,e,rfl⟩
theorem CH {m:Nat}{ops:Array Oper}{Q:Exit->Act->World->Prop}:∀ (l:List Nat) (os:List Oper) (s:St) (K:St->Prop),l.map (ops[·]?)=os.map some->gj P n ops os s K->∀ (ρ:Nat->Nat×Nat) (a:Act) (w:World),cn ρ n s a w->m<=s.H.length->
  (∀ a' w',Eg m n ρ s w K a' w'->Q .normal a' w')->wpOps P ops Q l a w
 |[],[],s,K,_,h,ρ,a,w,c,O,t=>t a w ⟨s,ρ,h,c,Step.refl O⟩
 |[],_::_,_,_,k,_,_,_,_,_,_,_=>by simp at k
 |_::_,[],_,_,k,_,_,_,_,_,_,_=>by simp at k
 |i::l,o::os,s,K,k,h,ρ,a,w,c,O,t=>by
  simp only[dD,List.cons.injEq] at k;obtain⟨W,k⟩:=k;obtain⟨y,h⟩:=h;have go:Region.wanted o (yielded ops a.tmps)=true->(jx P o.op s fun N=>gj P n ops os (s.after o.dst N) K)->wpOps P ops Q (i::l) a w:=fun T E=>by
   obtain⟨N,X,Y⟩:=GK E;simp only[wpOps,W,T,eJ];refine .inl (X ρ (· <s.H.length) (ah s.H) w a _ Q (fun x _=>c.tmps.eval x) c.mem (fun _ _=>⟨rfl,id⟩) (fun b F G (L:b<s.H.length)=>by omega) ?_);intro V w' r g1 g2 g3 g4;obtain⟨R,k2⟩:=Rb (m:=m) c O y g1 g2 g3 g4;refine CH l os _ K k Y V _ w' R k2.1 fun a' f ⟨s',ρ'',q1,u,v⟩=>t a' f ⟨s',ρ'',q1,u,k2.trans v⟩
  cases hg:o.guard with
  |none=>
   rw[hg] at h;exact go (by unfold Region.wanted;rw[hg]) h
  |some g=>
   obtain⟨j,S⟩:=g;rw[hg] at h;simp only at h;split at h
   case h_2=>exact h.elim
   rename_i d C;obtain⟨z,h⟩:=h;unfold p8 at h;split at h
   case h_3=>exact h.elim
   case h_2=>
    rename_i A;have p:=c.tmps.slot d;rw[A] at p;unfold VR at p;obtain⟨a0,M,D⟩:=p;have B:a0=#[]:=by unfold ao at D;exact Array.toList_eq_nil_iff.1 D
    subst B;have q:=Lc hg C M;simp only[wpOps,W,q,fh,fH];have R:cn ρ n (s.put o.dst (.aZ [])) (a.put o.dst undef) w:=⟨eT.put c.tmps y IW,c.mem⟩;exact CH l os _ K k h ρ _ w R O fun a' f ⟨s',ρ'',q1,u,v⟩=>t a' f ⟨s',ρ'',q1,u,v⟩
   rename_i b A;obtain⟨X,Y⟩:=h;have p:=c.tmps.slot d;rw[A] at p;unfold VR at p;have T:=MY hg C (by rw[c.tmps.size];exact z) p;by_cases e:b=S
   .exact go (by rw[T,e];simp) (X e)
   .have q:Region.wanted o (yielded ops a.tmps)=false:=by rw[T];simpa using e
    simp only[wpOps,W,q,fh,fH];have R:cn ρ n (s.put o.dst (.aZ [])) (a.put o.dst undef) w:=⟨eT.put c.tmps y IW,c.mem⟩;exact CH l os _ K k (Y e) ρ _ w R O fun a' f ⟨s',ρ'',q1,u,v⟩=>t a' f ⟨s',ρ'',q1,u,v⟩
theorem ZG {m id:Nat}{ops:Array Oper}{s:St}{K:St->Prop}{Q:Exit->Act->World->Prop}(h:gj P n ops ops.toList s K)(b:cn ρ n s a w)(d:m<=s.H.length)(c:∀ a' w',Eg m n ρ s w K a' w'->Q .normal a' w'):(Code.region id ops false).wp P Q a w:=
 zI (CH (m:=m) (List.range ops.size) ops.toList s K (by
  refine wG fun i=>?_
  simp only[dU];by_cases e:i<ops.size
  .simp[e]
  .rw[iW cp,iW cp];rfl) h ρ a w b d c)
end
end
def gR {α:Type}(p:Nat->Bool):List (Option α)->Nat->α->α
 |[],_,d=>d
 |none::r,i,d=>gR p r (i+1) d
 |some x::r,i,d=>gR p r (i+1) (if p i then x else d)
theorem uA {α:Type}{p q:Nat->Bool}:∀ (c:List (Option α)) (i:Nat) (d:α),(∀ j x,c[j]?=some (some x)->p (i+j)=q (i+j))->gR p c i d=gR q c i d
 |[],_,_,_=>rfl
 |none::r,i,d,h=>uA r (i+1) d fun j x a=>by have :=h (j+1) x (by simpa using a);rwa [show i+(j+1)=i+1+j by omega] at this
 |some x::r,i,d,h=>by
  have e:p i=q i:=h 0 x rfl;simp only[gR,e];exact uA r (i+1) _ fun j y b=>by have :=h (j+1) y (by simpa using b);rwa [show i+(j+1)=i+1+j by omega] at this
theorem yl {α:Type}{p:Nat->Bool}:∀ (c:List (Option α)) (i:Nat) (d:α),(∀ j x,c[j]?=some (some x)->p (i+j)=false)->gR p c i d=d
 |[],_,_,_=>rfl
 |none::r,i,d,h=>yl r (i+1) d fun j x a=>by have :=h (j+1) x (by simpa using a);rwa [show i+(j+1)=i+1+j by omega] at this
 |some x::r,i,d,h=>by
  have e:p i=false:=h 0 x rfl;simp only[gR,e,fh,fH];exact yl r (i+1) d fun j y b=>by have :=h (j+1) y (by simpa using b);rwa [show i+(j+1)=i+1+j by omega] at this
theorem Cd {α:Type}{p:Nat->Bool}:∀ (g:List (Option α)) (i:Nat) (d:α) (k:Nat) (x:α),g[k]?=some (some x)->p (i+k)=true->(∀ j y,k<j->g[j]?=some (some y)->p (i+j)=false)->gR p g i d=x
 |[],_,_,_,_,h,_,_=>by simp at h
 |none::r,i,d,0,x,h,_,_=>by simp at h
 |none::r,i,d,k+1,x,h,c,a=>Cd r (i+1) d k x (by simpa using h) (by rwa [show i+1+k=i+(k+1) by omega]) fun j y f b=>by
   have :=a (j+1) y I (by simpa using b);rwa [show i+(j+1)=i+1+j by omega] at this
 |some z::r,i,d,0,x,h,c,a=>by
  simp at h;subst h;have e:p i=true:=c;simp only[gR,e,eJ];exact yl r (i+1) z fun j y b=>by have :=a (j+1) y I (by simpa using b);rwa [show i+(j+1)=i+1+j by omega] at this
 |some z::r,i,d,k+1,x,h,c,a=>by
  simp only[gR];exact Cd r (i+1) _ k x (by simpa using h) (by rwa [show i+1+k=i+(k+1) by omega]) fun j y f b=>by
   have :=a (j+1) y I (by simpa using b);rwa [show i+(j+1)=i+1+j by omega] at this
def CA (o:Oper)(acc:List Nat):Nat:=o.after.toList.foldl (fun s e=>if Region.binds .any e then s|||(1<<<e.on)|||acc.getD e.on 0 else s) 0
def oM:List Oper->List Nat->List Nat
 |[],a=>a
 |o::r,a=>oM r (a++[CA o a])
theorem Mr:∀ (l:List Oper) (a:List Nat) (j:Nat),j<a.length->(oM l a).getD j 0=a.getD j 0
 |[],_,_,_=>rfl
 |o::r,a,j,h=>by
  rw[oM,Mr r _ j cp];simp[bY,kY h]
theorem MM:∀ (l:List Oper) (e:List Nat) (j:Nat) (o:Oper),l[j]?=some o->(oM l e).getD (e.length+j) 0=CA o ((oM l e).take (e.length+j))
 |[],_,_,_,h=>by simp at h
 |o::r,e,0,c,h=>by
  simp at h;subst h;rw[oM,nJ,Mr r _ _ J];have b:∀ (l:List Oper) (a:List Nat) (k:Nat),k<=a.length->(oM l a).take k=a.take k:=by
   intro l;induction l with
   |nil=>intro _ _ _;rfl
   |cons o l ih=>intro a k d;rw[oM,ih _ _ cp,CB d]
  rw[b r _ _ J];simp[bY]
 |o::r,e,j+1,c,h=>by
  have ih:=MM r (e++[CA o e]) j c (by simpa using h);rw[oM];simpa [qe,CF 1 j] using ih
theorem acS (o:Oper)(acc:List Nat)(i:Nat)(h:(CA o acc).testBit i=true):∃ e∈o.after.toList,Region.binds .any e=true/\(e.on=i\/(acc.getD e.on 0).testBit i=true):=by
 unfold CA at h;have :∀ (l:List Edge) (s:Nat),(l.foldl (fun s e=>if Region.binds .any e then s|||(1<<<e.on)|||acc.getD e.on 0 else s) s).testBit i=true->s.testBit i=true\/∃ e∈l,Region.binds .any e=true/\(e.on=i\/(acc.getD e.on 0).testBit i=true):=by
  intro l;induction l with
  |nil=>intro s h;exact .inl h
  |cons e l ih=>
   intro s h;rw[J1] at h;rcases ih _ h with h1|⟨b,h1,c⟩
   .by_cases a:Region.binds .any e=true
    .rw[aM a] at h1;simp only[Nat.testBit_or,DW] at h1;rcases h1 with(h1|h1)|h1
     .exact .inl h1
     .refine .inr ⟨e,J,a,.inl ?_⟩;rw[Nat.one_shiftLeft,Nat.testBit_two_pow] at h1;simpa using h1
     .exact .inr ⟨e,J,a,.inr h1⟩
    .rw[aq a] at h1;exact .inl h1
   .exact .inr ⟨b,by simp[h1],c⟩
 rcases this _ 0 h with h|h
 .simp at h
 .exact h
def J4 (ops:List Oper)(L:Nat->Bool):Prop:=∀ j o,ops[j]?=some o->L j=true->∀ e∈o.after.toList,Region.binds .any e=true->L e.on=true
theorem Rx {ops:List Oper}{L:Nat->Bool}(hc:J4 ops L):∀ (j:Nat) (o:Oper),ops[j]?=some o->(∀ e∈o.after.toList,Region.binds .any e=true->L e.on=true)->∀ i,((oM ops []).getD j 0).testBit i=true->L i=true:=by
 intro j;induction j using Nat.strongRecOn with
 |_ j ih=>
  intro o n h i p;have d:=MM ops [] j o n;simp only[lq,eX] at d;rw[d] at p;obtain⟨e,r,s,c⟩:=acS o _ i p;have f:=h e r s;rcases c with rfl|c
  .exact f
  .by_cases a:e.on<j
   .have q:((oM ops []).take j).getD e.on 0=(oM ops []).getD e.on 0:=by
     simp[bY,a]
    rw[q] at c;cases b:ops[e.on]? with
    |none=>rw[List.getElem?_eq_none_iff] at b;have :=(cA.1 n).1;omega
    |some g=>exact ih e.on a g b (fun k l m=>hc e.on g b f k l m) i c
   .have :((oM ops []).take j).getD e.on 0=0:=by
     simp[bY,uE,a]
    rw[this] at c;simp at c
def tq (ops:Array Oper)(o:Oper):List Tmp:=o.dst.toList++(o.op.operands.toList.filterMap fun | .tmp t=>some t|_=>none)++(match o.guard with
 |some (j,_)=>(pt ops j).toList
 |none=>[])
def meets (a b:List Nat):Bool:=a.any fun x=>b.contains x
def oh (ops:Array Oper)(o c:Oper)(e b:List Nat×List Nat):Bool:=
 !(meets o.dst.toList (tq ops c))&&!(meets c.dst.toList (tq ops o))&&!(meets e.2 (b.1++b.2))&&!(meets b.2 (e.1++e.2))
def mS (ops:Array Oper)(tr:List (List Nat×List Nat)):Bool:=
 let b:=oM ops.toList []
 let l:=ops.toList.zip tr
 l.zipIdx.all fun(x,j)=>(x.1.after.toList.all fun e=>!(Region.binds .any e)||decide (e.on<j))&&l.zipIdx.all fun(y,i)=>!(decide (i<j))||(b.getD j 0).testBit i||oh ops y.1 x.1 y.2 x.2
section
structure dq where
 run:Bool
 res:bu
def wU (ops:Array Oper)(n:Nat)(o:Oper)(s:St)(b:Bool):Prop:=match o.guard with
 |none=>b=true
 |some (j,c)=>∃ d,pt ops j=some d/\d<n/\((∃ a,s.get d= .bool a/\(a==c)=b)\/(s.get d= .aZ []/\b=false))
def kM (s:St)(e:dq)(b:Nat):Option (Option aa):=
 if s.H.length<=b/\b<s.H.length+e.res.news.length then some (e.res.news[b-s.H.length]?).join
 else if b<s.H.length/\b∈e.res.old.map (·.1) then some (lz e.res.old b none) else none
def PI (P:Program)(Z98:Nat->Option aa->Prop)(n:Nat)(ops:Array Oper)(o:Oper)(s:St)(e:dq):Prop:=
 kh n o.dst/\wU ops n o s e.run/\if e.run then IE Z98 P o s.ev (ah s.H) s.H.length e.res/\(∀ x∈e.res.old,x.1<s.H.length)/\∀ b x,kM s e b=some x->Z98 b x else e.res={v:= .aZ []}
def sL (P:Program)(Z98:Nat->Option aa->Prop)(n:Nat)(ops:Array Oper):List Oper->St->List dq->St->Prop
 |[],s,[],a=>a=s
 |o::l,s,e::b,a=>PI P Z98 n ops o s e/\sL P Z98 n ops l (s.after o.dst e.res) b a
 |_,_,_,_=>False
def dt (s:St)(r:bu):List Nat×List Nat:=(r.fp,r.old.map (·.1)++List.range' s.H.length r.news.length)
def pm:List Oper->St->List dq->List (List Nat×List Nat)
 |o::l,s,e::a=>dt s e.res::pm l (s.after o.dst e.res) a
 |_,_,_=>[]
def cJ (s:St):List Oper->List dq->Nat->St
 |_,_,0=>s
 |o::l,e::f,i+1=>cJ (s.after o.dst e.res) l f i
 |_,_,_=>s
section
variable {P:Program}{Z98:Nat->Option aa->Prop}{n:Nat}{ops:Array Oper}
theorem AA:∀ (l:List Oper) (s:St) (c:List dq) (s':St),sL P Z98 n ops l s c s'->c.length=l.length/\cJ s l c l.length=s'/\
  ∀ (i:Nat) o e,l[i]?=some o->c[i]?=some e->PI P Z98 n ops o (cJ s l c i) e/\cJ s l c (i+1)=(cJ s l c i).after o.dst e.res/\(pm l s c)[i]?=some (dt (cJ s l c i) e.res)
 |[],s,[],s',h=>⟨rfl,h.symm,fun i o e d=>by simp at d⟩
 |[],_,_::_,_,h=>h.elim
 |_::_,_,[],_,h=>h.elim
 |o::l,s,e::c,s',h=>by
  obtain⟨g,j⟩:=h;obtain⟨k,m,p⟩:=AA l _ c s' j;refine⟨by simp[k],m,fun i a b d f=>?_⟩;cases i with
  |zero=>
   simp at d f;subst d;subst f;refine⟨g,?_,rfl⟩;cases l<;>cases c<;>rfl
  |succ i=>
   have :=p i a b (by simpa using d) (by simpa using f);simpa [cJ,pm] using this
def xI (o:Oper)(e:dq)(t:Nat):Option V:=if o.dst=some t then some e.res.v else none
def rR:List Oper->List dq->Nat->List (Option V)
 |o::l,e::a,t=>xI o e t::rR l a t
 |_,_,_=>[]
def nt (s:St):List Oper->List dq->Nat->List (Option (Option aa))
 |o::l,e::a,b=>kM s e b::nt (s.after o.dst e.res) l a b
 |_,_,_=>[]
theorem Ah:∀ (l:List Oper) (c:List dq) (t i:Nat) (o:Oper) (e:dq),l[i]?=some o->c[i]?=some e->(rR l c t)[i]?=some (xI o e t)
 |[],_,_,_,_,_,h,_=>by simp at h
 |_::_,[],_,_,_,_,_,h=>by simp at h
 |o::l,e::c,t,0,a,b,h,d=>by simp at h d;subst h;subst d;rfl
 |o::l,e::c,t,i+1,a,b,h,d=>by simpa [rR] using Ah l c t i a b (by simpa using h) (by simpa using d)
theorem xO:∀ (l:List Oper) (d:List dq) (s:St) (b i:Nat) (o:Oper) (e:dq),l[i]?=some o->d[i]?=some e->(nt s l d b)[i]?=some (kM (cJ s l d i) e b)
 |[],_,_,_,_,_,_,h,_=>by simp at h
 |_::_,[],_,_,_,_,_,_,h=>by simp at h
 |o::l,e::d,s,b,0,a,c,h,f=>by simp at h f;subst h;subst f;rfl
 |o::l,e::d,s,b,i+1,a,c,h,f=>by simpa [nt,cJ] using xO l d _ b i a c (by simpa using h) (by simpa using f)
theorem EO:∀ (l:List Oper) (a:List dq) (t:Nat),a.length=l.length->(rR l a t).length=l.length
 |[],[],_,_=>rfl
 |[],_::_,_,h=>by simp at h
 |_::_,[],_,h=>by simp at h
 |o::l,e::a,t,h=>by simp[rR,EO l a t (by simpa using h)]
theorem BY:∀ (l:List Oper) (a:List dq) (s:St) (t:Nat),a.length=l.length->(nt s l a t).length=l.length
 |[],[],_,_,_=>rfl
 |[],_::_,_,_,h=>by simp at h
 |_::_,[],_,_,h=>by simp at h
 |o::l,e::a,s,t,h=>by simp[nt,BY l a _ t (by simpa using h)]
theorem aiZ (s:St)(o:Oper)(e:dq)(t:Nat):(s.after o.dst e.res).get t=(xI o e t).getD (s.get t):=by
 unfold xI St.get St.after di;cases o.dst with
 |none=>simp
 |some d=>
  by_cases h:d=t
  .subst h;simp[lookS]
  .simp[lookS,h]
theorem Iw:∀ (old:List (Nat×Option aa)) (b:Nat) (d:Option aa),lz old b d=if b∈old.map (·.1) then lz old b none else d
 |[],_,_=>rfl
 |(i,x)::r,b,d=>by
  by_cases h:b=i
  .subst h;simp[lz]
  .simp only[lz,dD,gz,h,false_or];exact Iw r b d
theorem aiO (s:St)(o:Oper)(e:dq)(b:Nat):ah (s.after o.dst e.res).H b=(kM s e b).getD (ah s.H b):=by
 have c:=jE s.H e.res.old;unfold kM;show ah (fX s.H e.res.old++e.res.news) b=_;by_cases a:b<s.H.length
 .rw[aq I];have :ah (fX s.H e.res.old++e.res.news) b=ah (fX s.H e.res.old) b:=by
   unfold ah;rw[kY I]
  rw[this,uH s.H e.res.old b a,Iw];by_cases d:b∈e.res.old.map (·.1)
  .rw[aM d,aM ⟨a,d⟩];rfl
  .rw[aq d,aq (fun h=>d h.2)];rfl
 .have :ah (fX s.H e.res.old++e.res.news) b=(e.res.news[b-s.H.length]?).join:=by
   unfold ah;rw[iy I,c]
  rw[this];by_cases f:b<s.H.length+e.res.news.length
  .rw[aM ⟨I,f⟩];rfl
  .rw[aq I,aq (fun h=>a h.1),iW I];show none=ah s.H b;unfold ah;rw[iW I];rfl
theorem ajG {s0 s':St}{l:List Oper}{r:List dq}(h:sL P Z98 n ops l s0 r s'):∀ i,i<=l.length->(∀ t,(cJ s0 l r i).get t=gR (fun j=>decide (j<i)) (rR l r t) 0 (s0.get t))/\
  (∀ b,ah (cJ s0 l r i).H b=gR (fun j=>decide (j<i)) (nt s0 l r b) 0 (ah s0.H b)):=by
 obtain⟨q,_,c⟩:=AA l s0 r s' h;intro i;induction i with
 |zero=>
  intro _;have p:cJ s0 l r 0=s0:=by cases l<;>cases r<;>rfl
  rw[p];exact⟨fun t=>(yl _ 0 _ fun j x _=>by simp).symm,fun b=>(yl _ 0 _ fun j x _=>by simp).symm⟩
 |succ i ih=>
  intro C;obtain⟨f,g⟩:=ih I;have w:l[i]?=some (l[i]'(I)):=bn _;have z:r[i]?=some (r[i]'(I)):=bn _;obtain⟨_,B,_⟩:=c i _ _ w z;rw[B];have u:∀ {v:Type} (s:List (Option v)) (d:v) (o:Option v),s[i]?=some o->o.getD (gR (fun j=>decide (j<i)) s 0 d)=gR (fun j=>decide (j<i+1)) s 0 d:=by
   intro v s d o A;cases o with
   |none=>
    refine uA s 0 d (fun j x k=>?_);have :j≠i:=fun e=>by subst e;rw[A] at k;simp at k
    simp only[eX];rw[qw];simp;omega
   |some x=>
    refine(Cd s 0 d i x A J (fun j y k _=>?_)).symm;simp;omega
  exact⟨fun t=>by rw[aiZ,f t];exact u _ _ _ (Ah l r t i _ _ w z),fun b=>by rw[aiO,g b];exact u _ _ _ (xO l r s0 b i _ _ w z)⟩
theorem X9 {s:St}{e:dq}(h:e.res={v:= .aZ []})(b:Nat):kM s e b=none:=by unfold kM;rw[h];simp
theorem I6 {α:Type}{p:Nat->Bool}{Q:α->Prop}:∀ (c:List (Option α)) (i:Nat) (d:α),Q d->(∀ (j:Nat) (x:α),c[j]?=some (some x)->Q x)->Q (gR p c i d)
 |[],_,_,a,_=>a
 |none::r,i,d,a,h=>I6 r (i+1) d a fun j x b=>h (j+1) x (by simpa using b)
 |some y::r,i,d,a,h=>I6 r (i+1) _ (by split;exact h 0 y rfl;exact a) fun j x b=>h (j+1) x (by simpa using b)
end
end
section
def LP (P:Program)(m n:Nat)(id:Nat)(ops:Array Oper)(s:St)(K:St->Prop):Prop:=
 ∀ (f:Nat->Nat×Nat) (a:Act) (w:World) (Q:Exit->Act->World->Prop),cn f n s a w->m<=s.H.length->(∀ g h,Eg m n f s w K g h->Q .normal g h)->(Code.region id ops true).wp P Q a w
section
variable {P:Program}{Z98:Nat->Option aa->Prop}{n:Nat}{ops:Array Oper}
theorem Tz {a b:List Nat}:meets a b=true↔∃ x,x∈a/\x∈b:=by
 unfold meets;simp[List.any_eq_true]
theorem GN {tr:List (List Nat×List Nat)}(h:mS ops tr=true){j:Nat}{a:Oper}{c:List Nat×List Nat}(p:ops.toList[j]?=some a)(q:tr[j]?=some c):
  (∀ e∈a.after.toList,Region.binds .any e=true->e.on<j)/\
  ∀ (i:Nat) b fi,ops.toList[i]?=some b->tr[i]?=some fi->i<j->((oM ops.toList []).getD j 0).testBit i=true\/oh ops b a fi c=true:=by
 unfold mS at h;have k:∀ (i:Nat) o f,ops.toList[i]?=some o->tr[i]?=some f->((o,f),i)∈(ops.toList.zip tr).zipIdx:=fun i o f m h2=>by
  rw[Gs];rw[I4];exact⟨m,h2⟩
 simp only[sk] at h;have m:=h _ (k j a c p q);simp only[lY,sk] at m;refine⟨fun e r l=>?_,fun i b fi s d g=>?_⟩
 .have :=m.1 e r;simpa [l] using this
 .have :=m.2 _ (k i b fi s d);simp only[DW,vm,decide_eq_false_iff_not] at this;rcases this with(h2|h2)|h2
  .exact absurd g h2
  .exact .inl h2
  .exact .inr h2
theorem yi {o g:Oper}{e c:List Nat×List Nat}(h:oh ops o g e c=true):(∀ d,o.dst=some d->d∉tq ops g)/\(∀ d,g.dst=some d->d∉tq ops o)/\(∀ b,b∈e.2->b∉c.1/\b∉c.2)/\(∀ b,b∈c.2->b∉e.1/\b∉e.2):=by
 unfold oh at h;simp only[lY,vm] at h;obtain⟨⟨⟨r,s⟩,k⟩,l⟩:=h;have f:∀ {a b:List Nat},meets a b=false->∀ x,x∈a->x∉b:=fun q x m p=>by
  have :=Tz.2 ⟨x,m,p⟩;rw[q] at this;cases this
 refine⟨fun d i=>f r d (by simp[i]),fun d i=>f s d (by simp[i]),fun b j=>?_,fun b j=>?_⟩
 .have :=f k b j;simp at this;exact this
 .have :=f l b j;simp at this;exact this
theorem Im {o:Oper}{e:dq}{t:Nat}{x:V}(h:xI o e t=some x):o.dst=some t/\x=e.res.v:=by
 unfold xI at h;split at h
 .rename_i a;injection h with h;exact⟨a,h.symm⟩
 .cases h
theorem Hf {s:St}{e:dq}{b:Nat}{x:Option aa}(h:kM s e b=some x):b∈(dt s e.res).2:=by
 unfold kM at h;unfold dt;simp only[gZ,wW];split at h
 .rename_i a;exact .inr ⟨a.1,a.2⟩
 .split at h
  .rename_i a;exact .inl a.2
  .cases h
theorem MO {q p:Nat->Bool}:∀ (l:List Nat),(∀ x∈l,q x=true->p x=true)->(∃ x∈l,p x=true/\q x=false)->(l.filter q).length<(l.filter p).length
 |[],_,h=>by obtain⟨x,a,_⟩:=h;cases a
 |y::l,f,h=>by
  have g:∀ (l:List Nat),(∀ x∈l,q x=true->p x=true)->(l.filter q).length<=(l.filter p).length:=by
   intro l;induction l with
   |nil=>intro _;exact bz _
   |cons z l ih=>
    intro h;have :=ih fun x a=>h x (by simp[a])
    simp only[zA];by_cases d:q z=true
    .have e:=h z J d;simp only[d,e,eJ,dM];omega
    .by_cases e:p z=true<;>simp only[d,e,eJ,dM]<;>(try simp)<;>omega
  obtain⟨x,a,e,d⟩:=h;simp only[zA];rcases gz.1 a with rfl|a
  .simp only[e,d,eJ,fh,fH,dM];have :=g l fun x a=>f x (by simp[a])
   omega
  .have ih:=MO l (fun x a=>f x (by simp[a])) ⟨x,a,e,d⟩;by_cases b:q y=true
   .have c:=f y J b;simp only[b,c,eJ,dM];omega
   .by_cases c:p y=true<;>simp only[b,c,eJ,dM]<;>(try simp)<;>omega
structure BV (P:Program) (n:Nat) (ops:Array Oper) (s0:St) (es:List dq) (ρ0:Nat->Nat×Nat) (w0:World) (L:Nat->Bool) (ρ:Nat->Nat×Nat) (a:Act) (w:World):Prop where
 closed:J4 ops.toList L
 tmps:eT ρ (fun b=>b<s0.H.length\/∃ i e,L i=true/\es[i]?=some e/\(cJ s0 ops.toList es i).H.length<=b/\b<(cJ s0 ops.toList es i).H.length+e.res.news.length) w n (fun t=>gR L (rR ops.toList es t) 0 (s0.get t)) a
 mem:bS ρ (fun b=>b<s0.H.length\/∃ i e,L i=true/\es[i]?=some e/\(cJ s0 ops.toList es i).H.length<=b/\b<(cJ s0 ops.toList es i).H.length+e.res.news.length) (fun b=>gR L (nt s0 ops.toList es b) 0 (ah s0.H b)) w
 agree:∀ b,b<s0.H.length->ρ b=ρ0 b
 frame:Frame ρ0 (ah s0.H) w0 ρ (fun b=>gR L (nt s0 ops.toList es b) 0 (ah s0.H b)) w
theorem Bj {s0 s':St}{b:List dq}(ht:sL P Z98 n ops ops.toList s0 b s'):∀ (i:Nat) o e,ops.toList[i]?=some o->b[i]?=some e->(cJ s0 ops.toList b (i+1)).H.length=(cJ s0 ops.toList b i).H.length+e.res.news.length:=fun i o e c d=>by
 obtain⟨_,_,a⟩:=AA _ _ _ _ ht;rw[(a i o e c d).2.1];simp[St.after,jE]
theorem C0 {s0 s':St}{d:List dq}(ht:sL P Z98 n ops ops.toList s0 d s'):∀ (j i:Nat),i<=j->j<=ops.size->(cJ s0 ops.toList d i).H.length<=(cJ s0 ops.toList d j).H.length:=by
 obtain⟨b,_,_⟩:=AA _ _ _ _ ht;intro j;induction j with
 |zero=>intro i f _;rw[Nat.le_zero.1 f];exact bz _
 |succ j ih=>
  intro i f c;have a:j<ops.toList.length:=cp;have :=Bj ht j _ _ (bn a) (bn (by omega :j<d.length));by_cases e:i=j+1
  .subst e;exact bz _
  .have :=ih i I I;omega
theorem GJ (s0:St)(l:List Oper)(a:List dq):cJ s0 l a 0=s0:=by cases l<;>cases a<;>rfl
theorem agq {s0 s':St}{p:List dq}(ht:sL P Z98 n ops ops.toList s0 p s')(e6:mS ops (pm ops.toList s0 p)=true){ρ0:Nat->Nat×Nat}{w0:World}{Q:Exit->Act->World->Prop}{m:Nat}(hm:m<=s0.H.length)(hJ:∀ b,Z98 b (ah s0.H b))
  (hq:∀ ρ a w,cn ρ n s' a w->Step m ρ0 s0 w0 ρ s' w->Q .normal a w):
  ∀ (fuel:Nat) (c:Array Bool) (ρ:Nat->Nat×Nat) (a:Act) (w:World),c.size=ops.size->((List.range ops.size).filter fun i=>!(c.getD i false)).length<=fuel->
   BV P n ops s0 p ρ0 w0 (fun i=>c.getD i false) ρ a w->wpAny P .any ops Q fuel c a w:=by
 obtain⟨hl,c1,c7⟩:=AA _ _ _ _ ht;have c8:=ajG ht;have hN:ops.toList.length=ops.size:=J;have c3:∀ (c:Array Bool),c.size=ops.size->Region.ready .any ops c=[]->∀ i,i<ops.size->c.getD i false=true:=by
  intro c X hr i;induction i using Nat.strongRecOn with
  |_ i ih=>
   intro hi;cases hc:c.getD i false with
   |true=>rfl
   |false=>
    exfalso;have F:ops.toList[i]?=some ops[i]:=by simp[hi]
    have c9:=(c7 i _ _ F (bn (by omega :i<p.length))).2.2;have e7:=(GN e6 F c9).1;have :i∈Region.ready .any ops c:=by
     unfold Region.ready;rw[qc];refine⟨by simp[hi],?_⟩;have hg:c.getD i true=false:=by
      rw[rA] at hc |-
      rw[uw I] at hc |-
      simpa using hc
     rw[hg];simp only[yh,Bool.true_and,uw hi,ou,uN];rw[SV];intro e he;by_cases hb:Region.binds .any e=true
     .have K:=e7 e (by simpa using he) hb;rw[ih e.on K I];simp
     .simp[hb]
    rw[hr] at this;cases this
 have j3:∀ (c:Array Bool) ρ a w,c.size=ops.size->(∀ i,i<ops.size->c.getD i false=true)->BV P n ops s0 p ρ0 w0 (fun i=>c.getD i false) ρ a w->Q .normal a w:=by
  intro c ρ a w X b2 l;have hT:∀ t,gR (fun i=>c.getD i false) (rR ops.toList p t) 0 (s0.get t)=s'.get t:=fun t=>by
   rw[<-c1,(c8 _ (bz _)).1 t];refine uA _ 0 _ (fun j x q=>?_);have K:=(cA.1 q).1;rw[EO _ _ _ hl] at K;simp only[eX];rw[b2 j I];simp;omega
  have hG:∀ b,gR (fun i=>c.getD i false) (nt s0 ops.toList p b) 0 (ah s0.H b)=ah s'.H b:=fun b=>by
   rw[<-c1,(c8 _ (bz _)).2 b];refine uA _ 0 _ (fun j x q=>?_);have K:=(cA.1 q).1;rw[BY _ _ _ _ hl] at K;simp only[eX];rw[b2 j I];simp;omega
  have o1:s0.H.length<=s'.H.length:=by
   have :=C0 ht ops.size 0 I (bz _);rw[GJ] at this;rw[<-c1,hN];exact this
  have e4:∀ b,(b<s0.H.length\/∃ i e,c.getD i false=true/\p[i]?=some e/\(cJ s0 ops.toList p i).H.length<=b/\b<(cJ s0 ops.toList p i).H.length+e.res.news.length)->b<s'.H.length:=by
   rintro b (hb|⟨i,e,_,he,h1,h2⟩)
   .omega
   .have hi:i<p.length:=(cA.1 he).1;have F:ops.toList[i]?=some (ops.toList[i]'(I)):=bn _;have R:=Bj ht i _ e F he;have h4:=C0 ht ops.size (i+1) I (bz _);rw[<-c1,hN];omega
  have j4:(fun b=>gR (fun i=>c.getD i false) (nt s0 ops.toList p b) 0 (ah s0.H b))=ah s'.H:=funext hG;refine hq ρ a w ⟨⟨l.tmps.size,l.tmps.defers,fun t=>?_⟩,?_⟩ ⟨I,fun b hb=>l.agree b I,?_⟩
  .have :=(l.tmps.slot t).mono (fun _ _=>rfl) e4 (cN.refl w);rw[hT t] at this;exact this
  .have :=l.mem.sn e4;rw[j4] at this;exact this
  .have :=l.frame;rw[j4] at this;exact this
 intro fuel;induction fuel with
 |zero=>
  intro c ρ a w X hf l;have b2:∀ i,i<ops.size->c.getD i false=true:=fun i hi=>by
   have h0:=nK.1 (Nat.le_zero.1 hf);have :i∉(List.range ops.size).filter fun i=>!(c.getD i false):=by rw[h0];simp
   simp only[qc,Gd,vm,not_and,Bool.not_eq_false] at this;exact this hi
  refine⟨?_,j3 c ρ a w X b2 l⟩;refine List.eq_nil_iff_forall_not_mem.2 fun i hi=>?_
  unfold Region.ready at hi;rw[qc] at hi;obtain⟨h1,h2⟩:=hi;have K:i<ops.size:=by simpa using h1
  have :=b2 i K;rw[rA,uw I] at this;simp only[lY,vm] at h2;have R:=h2.1;rw[rA,uw I] at R;simp at this R;rw[this] at R;cases R
 |succ fuel ih=>
  intro c ρ a w X hf l;refine⟨fun hr=>j3 c ρ a w X (c3 c X hr) l,fun i hi=>?_⟩;unfold Region.ready at hi;rw[qc] at hi;obtain⟨h1,h2⟩:=hi;have K:i<ops.size:=by simpa using h1
  have F:ops.toList[i]?=some ops[i]:=by simp[K]
  have b3:p[i]?=some (p[i]'(I)):=bn _;generalize k5:ops[i]=o at*;generalize o3:p[i]'(I)=e at*;simp only[lY,vm] at h2;have c4:c.getD i false=false:=by
   have R:=h2.1;rw[rA,uw I] at R |-
   simpa using R
  have e5:∀ e'∈o.after.toList,Region.binds .any e'=true->c.getD e'.on false=true:=fun e' e3 hb=>by
   have R:=h2.2;rw[uw K,k5] at R;simp only[ou,uN] at R;rw[SV] at R;have :=R e' (by simpa using e3);simpa [hb] using this
  obtain⟨m2,n4,c9⟩:=c7 i o e F b3;obtain⟨hd,hg,O⟩:=m2;have e8:=(GN e6 F c9).2;have W:∀ j E s,j<i->ops.toList[j]?=some E->p[j]?=some s->oh ops E o (dt (cJ s0 ops.toList p j) s.res) (dt (cJ s0 ops.toList p i) e.res)=false->c.getD j false=true:=fun j E s q ho he D=>by
   rcases e8 j E _ ho (c7 j E s ho he).2.2 q with hb|hb
   .exact Rx l.closed i o F e5 j hb
   .rw[D] at hb;cases hb
  have G:∀ j E s,i<j->ops.toList[j]?=some E->p[j]?=some s->oh ops o E (dt (cJ s0 ops.toList p i) e.res) (dt (cJ s0 ops.toList p j) s.res)=false->c.getD j false=false:=fun j E s q ho he D=>by
   cases hc:c.getD j false with
   |false=>rfl
   |true=>
    exfalso;rcases(GN e6 ho (c7 j E s ho he).2.2).2 i o _ F c9 q with hb|hb
    .have :=Rx l.closed j E ho (fun e' h4 h5=>l.closed j E ho hc e' h4 h5) i hb;rw[c4] at this;cases this
    .rw[D] at hb;cases hb
  have L:∀ j,j<ops.size->∃ E s,ops.toList[j]?=some E/\p[j]?=some s:=fun j q=>⟨_,_,bn (by omega :j<ops.toList.length),bn (by omega :j<p.length)⟩
  have b4:∀ t,t∈tq ops o->gR (fun i=>c.getD i false) (rR ops.toList p t) 0 (s0.get t)=(cJ s0 ops.toList p i).get t:=fun t m1=>by
   rw[(c8 i I).1 t];refine uA _ 0 _ (fun j x q=>?_);have S:=(cA.1 q).1;rw[EO _ _ _ hl] at S;obtain⟨E,s,A,u⟩:=L j I;rw[Ah _ _ _ _ _ _ A u] at q;injection q with q
   have c0:=(Im q).1;simp only[eX];rcases JJ j i with V|rfl|hgt
   .rw[W j E s V A u (by
     cases D:oh ops E o (dt (cJ s0 ops.toList p j) s.res) (dt (cJ s0 ops.toList p i) e.res) with
     |false=>rfl
     |true=>exact absurd m1 ((yi D).1 t c0))]
    simp[V]
   .rw[c4];simp
   .rw[G j E s hgt A u (by
     cases D:oh ops o E (dt (cJ s0 ops.toList p i) e.res) (dt (cJ s0 ops.toList p j) s.res) with
     |false=>rfl
     |true=>exact absurd m1 ((yi D).2.1 t c0))]
    simp;omega
  have m6:∀ b,b∈e.res.fp->gR (fun i=>c.getD i false) (nt s0 ops.toList p b) 0 (ah s0.H b)=ah (cJ s0 ops.toList p i).H b:=fun b b6=>by
   rw[(c8 i I).2 b];refine uA _ 0 _ (fun j x q=>?_);have S:=(cA.1 q).1;rw[BY _ _ _ _ hl] at S;obtain⟨E,s,A,u⟩:=L j I;rw[xO _ _ _ _ _ _ _ A u] at q;injection q with q
   have e1:=Hf q;simp only[eX];rcases JJ j i with V|rfl|hgt
   .rw[W j E s V A u (by
     cases D:oh ops E o (dt (cJ s0 ops.toList p j) s.res) (dt (cJ s0 ops.toList p i) e.res) with
     |false=>rfl
     |true=>exact absurd b6 ((yi D).2.2.1 b e1).1)]
    simp[V]
   .rw[c4];simp
   .rw[G j E s hgt A u (by
     cases D:oh ops o E (dt (cJ s0 ops.toList p i) e.res) (dt (cJ s0 ops.toList p j) s.res) with
     |false=>rfl
     |true=>exact absurd b6 ((yi D).2.2.2 b e1).1)]
    simp;omega
  have k6:∀ b,b∈e.res.fp->b<(cJ s0 ops.toList p i).H.length->(b<s0.H.length\/∃ i e,c.getD i false=true/\p[i]?=some e/\(cJ s0 ops.toList p i).H.length<=b/\b<(cJ s0 ops.toList p i).H.length+e.res.news.length):=fun b b6 j1=>by
   have m7:∀ k,k<=i->b<(cJ s0 ops.toList p k).H.length->b<s0.H.length\/∃ j s,j<k/\p[j]?=some s/\(cJ s0 ops.toList p j).H.length<=b/\b<(cJ s0 ops.toList p j).H.length+s.res.news.length:=by
    intro k;induction k with
    |zero=>intro _ h;rw[GJ] at h;exact .inl h
    |succ k n1=>
     intro hk h;obtain⟨ok,ek,m3,m4⟩:=L k I;by_cases m8:b<(cJ s0 ops.toList p k).H.length
     .rcases n1 I m8 with h1|⟨j,s,h1,h2,R⟩
      .exact .inl h1
      .exact .inr ⟨j,s,I,h2,R⟩
     .have :=Bj ht k ok ek m3 m4;exact .inr ⟨k,ek,I,m4,I,I⟩
   rcases m7 i (bz _) j1 with h1|⟨j,s,h1,h2,R,h4⟩
   .exact .inl h1
   .refine .inr ⟨j,s,?_,h2,R,h4⟩;have A:ops.toList[j]?=some (ops.toList[j]'(I)):=bn _;refine W j _ s h1 A h2 ?_;cases D:oh ops (ops.toList[j]'(I)) o (dt (cJ s0 ops.toList p j) s.res) (dt (cJ s0 ops.toList p i) e.res) with
    |false=>rfl
    |true=>exact absurd b6 ((yi D).2.2.1 b (by unfold dt;simp only[gZ,wW];exact .inr ⟨R,h4⟩)).1
  have C:∀ j,(c.setIfInBounds i true).getD j false=if j=i then true else c.getD j false:=fun j=>by
   rw[rA,rA,Ik];by_cases N:i=j
   .subst N;simp[X,K]
   .rw[aq N,aq (fun x=>N x.symm)]
  have c5:∀ t,gR (fun T=>(c.setIfInBounds i true).getD T false) (rR ops.toList p t) 0 (s0.get t)=if o.dst=some t then e.res.v else gR (fun i=>c.getD i false) (rR ops.toList p t) 0 (s0.get t):=fun t=>by
   by_cases M:o.dst=some t
   .rw[aM M];refine Cd _ 0 _ i e.res.v (by rw[Ah _ _ _ _ _ _ F b3];unfold xI;rw[aM M]) (by simp only[eX];rw[C,aM rfl]) (fun j y q hy=>?_);have S:=(cA.1 hy).1;rw[EO _ _ _ hl] at S;obtain⟨E,s,A,u⟩:=L j I;rw[Ah _ _ _ _ _ _ A u] at hy;injection hy with hy
    have c0:=(Im hy).1;simp only[eX];rw[C,aq I];refine G j E s q A u ?_;cases D:oh ops o E (dt (cJ s0 ops.toList p i) e.res) (dt (cJ s0 ops.toList p j) s.res) with
    |false=>rfl
    |true=>exact absurd (by unfold tq;simp[M]:t∈tq ops o) ((yi D).2.1 t c0)
   .rw[aq M];refine uA _ 0 _ (fun j x q=>?_);simp only[eX];rw[C];by_cases N:j=i
    .subst N;rw[Ah _ _ _ _ _ _ F b3] at q;injection q with q
     exact absurd (Im q).1 M
    .rw[aq N]
  have b5:∀ b,gR (fun T=>(c.setIfInBounds i true).getD T false) (nt s0 ops.toList p b) 0 (ah s0.H b)=(kM (cJ s0 ops.toList p i) e b).getD (gR (fun i=>c.getD i false) (nt s0 ops.toList p b) 0 (ah s0.H b)):=fun b=>by
   cases hwb:kM (cJ s0 ops.toList p i) e b with
   |some x=>
    refine Cd _ 0 _ i x (by rw[xO _ _ _ _ _ _ _ F b3,hwb]) (by simp only[eX];rw[C,aM rfl]) (fun j y q hy=>?_);have S:=(cA.1 hy).1;rw[BY _ _ _ _ hl] at S;obtain⟨E,s,A,u⟩:=L j I;rw[xO _ _ _ _ _ _ _ A u] at hy;injection hy with hy
    have e1:=Hf hy;have l4:=Hf hwb;simp only[eX];rw[C,aq I];refine G j E s q A u ?_;cases D:oh ops o E (dt (cJ s0 ops.toList p i) e.res) (dt (cJ s0 ops.toList p j) s.res) with
    |false=>rfl
    |true=>exact absurd l4 ((yi D).2.2.2 b e1).2
   |none=>
    refine uA _ 0 _ (fun j x q=>?_);simp only[eX];rw[C];by_cases N:j=i
    .subst N;rw[xO _ _ _ _ _ _ _ F b3,hwb] at q;cases q
    .rw[aq N]
  have Y:J4 ops.toList fun T=>(c.setIfInBounds i true).getD T false:=fun j E q b0 e' e3 hb=>by
   simp only[C] at b0 |-
   by_cases N:j=i
   .subst N;rw[F] at q;injection q with q;subst q
    by_cases a6:e'.on=j
    .rw[aM a6]
    .rw[aq a6];exact e5 e' e3 hb
   .rw[aq N] at b0;by_cases a6:e'.on=i
    .rw[aM a6]
    .rw[aq a6];exact l.closed j E q b0 e' e3 hb
  have c6:((List.range ops.size).filter fun T=>!((c.setIfInBounds i true).getD T false)).length<=fuel:=by
   have :((List.range ops.size).filter fun T=>!((c.setIfInBounds i true).getD T false)).length<((List.range ops.size).filter fun i=>!(c.getD i false)).length:=by
    refine MO _ (fun x hx hq=>?_) ⟨i,by simp[K],by simp only[c4];rfl,by simp only[C];rfl⟩;simp only[C] at hq;by_cases l5:x=i
    .rw[aM l5] at hq;simp at hq
    .rw[aq l5] at hq;exact hq
   omega
  have e2:∀ b,(cJ s0 ops.toList p i).H.length<=b->b<(cJ s0 ops.toList p i).H.length+e.res.news.length->¬ (b<s0.H.length\/∃ i e,c.getD i false=true/\p[i]?=some e/\(cJ s0 ops.toList p i).H.length<=b/\b<(cJ s0 ops.toList p i).H.length+e.res.news.length):=by
   rintro b o4 o5 (hb|⟨j,s,b0,u,R,h4⟩)
   .have :=C0 ht i 0 I I;rw[GJ] at this;omega
   .have S:j<p.length:=(cA.1 u).1;have A:ops.toList[j]?=some (ops.toList[j]'(I)):=bn _;have h5:=Bj ht j _ s A u;have h6:=Bj ht i o e F b3;rcases JJ j i with V|rfl|hgt
    .have :=C0 ht i (j+1) I I;omega
    .rw[c4] at b0;cases b0
    .have :=C0 ht j (i+1) I I;omega
  have z:∀ b,(b<s0.H.length\/∃ i e,c.getD i false=true/\p[i]?=some e/\(cJ s0 ops.toList p i).H.length<=b/\b<(cJ s0 ops.toList p i).H.length+e.res.news.length)->
    (b<s0.H.length\/∃ T e,(c.setIfInBounds i true).getD T false=true/\p[T]?=some e/\(cJ s0 ops.toList p T).H.length<=b/\b<(cJ s0 ops.toList p T).H.length+e.res.news.length):=by
   rintro b (hb|⟨j,s,b0,u,R⟩)
   .exact .inl hb
   .exact .inr ⟨j,s,by rw[C];split;rfl;exact b0,u,R⟩
  have a7:∀ b,gr (fun b=>b<s0.H.length\/∃ i e,c.getD i false=true/\p[i]?=some e/\(cJ s0 ops.toList p i).H.length<=b/\b<(cJ s0 ops.toList p i).H.length+e.res.news.length) (cJ s0 ops.toList p i).H.length e.res.news.length b->
    (b<s0.H.length\/∃ T e,(c.setIfInBounds i true).getD T false=true/\p[T]?=some e/\(cJ s0 ops.toList p T).H.length<=b/\b<(cJ s0 ops.toList p T).H.length+e.res.news.length):=by
   rintro b (hb|hb)
   .exact z b hb
   .exact .inr ⟨i,e,by rw[C,aM rfl],b3,hb.1,hb.2⟩
  have e9:ops[i]?=some o:=by rw[uw K,k5]
  have h7:Region.wanted o (yielded ops a.tmps)=e.run:=by
   unfold wU at hg;cases hgd:o.guard with
   |none=>rw[hgd] at hg;simp only at hg;unfold Region.wanted;rw[hgd,hg]
   |some jw=>
    obtain⟨jj,o2⟩:=jw;rw[hgd] at hg;simp only at hg;obtain⟨d,g1,g2,g5⟩:=hg;have hv:=l.tmps.slot d;rcases g5 with⟨b',g3,g4⟩|⟨g3,g4⟩
    .rw[b4 d (by unfold tq;rw[hgd];simp[g1]),g3] at hv;unfold VR at hv;rw[MY hgd g1 (by rw[l.tmps.size];exact g2) hv,g4]
    .rw[b4 d (by unfold tq;rw[hgd];simp[g1]),g3] at hv;unfold VR at hv;obtain⟨a0,e0,l0⟩:=hv;have m9:a0=#[]:=by unfold ao at l0;exact Array.toList_eq_nil_iff.1 l0
     subst m9;rw[Lc hgd g1 e0,g4]
  unfold wpOp;rw[e9];simp only[h7];cases hr:e.run with
  |false=>
   rw[hr] at O;simp only[fh,fH] at O |-
   have l6:∀ b,kM (cJ s0 ops.toList p i) e b=none:=fun b=>by
    unfold kM;rw[O];simp
   refine ih _ ρ _ w (by simpa using X) c6 ⟨Y,⟨by simpa [Act.put] using(show(a.put o.dst undef).tmps.size=n by cases o.dst<;>simp[Act.put,l.tmps.size]),by cases o.dst<;>exact l.tmps.defers,fun t=>?_⟩,?_,l.agree,?_⟩
   .rw[c5];cases hdd:o.dst with
    |none=>simp only[seval,fH,Act.put];exact(l.tmps.slot t).mono (fun _ _=>rfl) z (cN.refl w)
    |some d=>
     have h8:d<a.tmps.size:=by rw[l.tmps.size];rw[hdd] at hd;exact hd
     rw[Cl a d undef t h8];by_cases M:d=t
     .subst M;rw[aM rfl,aM rfl,O];exact IW
     .rw[aq M,aq (by simpa using M)];exact(l.tmps.slot t).mono (fun _ _=>rfl) z (cN.refl w)
   .have :=l.mem.sn z;refine this.less fun b B hB=>?_
    rw[b5,l6] at hB;exact hB
   .refine l.frame.less fun b B hB j2=>⟨b,B,?_,j2,rfl⟩
    rw[b5,l6] at hB;exact hB
  |true=>
   rw[hr] at O;simp only[eJ] at O |-
   obtain⟨hx,m5,_⟩:=O;have l7:∀ x∈o.op.operands.toList,VR ρ (fun b=>b<s0.H.length\/∃ i e,c.getD i false=true/\p[i]?=some e/\(cJ s0 ops.toList p i).H.length<=b/\b<(cJ s0 ops.toList p i).H.length+e.res.news.length) w ((cJ s0 ops.toList p i).ev x) (a.eval x):=fun x n0=>by
    cases x with
    |tmp t=>
     have hv:=l.tmps.slot t;rw[b4 t (by unfold tq;simp only[gZ,List.mem_filterMap];exact .inl (.inr ⟨_,n0,rfl⟩))] at hv;exact hv
    |const v=>exact IH v
    |global g=>show VR _ _ _ .bH _;unfold VR;trivial
    |func f=>show VR _ _ _ (.fn f [] []) _;unfold VR;exact⟨#[],#[],rfl,ao.nil,ao.nil⟩
   have h9:∀ b,Z98 b (gR (fun i=>c.getD i false) (nt s0 ops.toList p b) 0 (ah s0.H b)):=fun b=>I6 _ 0 _ (hJ b) fun j x q=>by
    have S:=(cA.1 q).1;rw[BY _ _ _ _ hl] at S;obtain⟨E,s,A,u⟩:=L j I;rw[xO _ _ _ _ _ _ _ A u] at q;injection q with q
    obtain⟨_,_,c2⟩:=(c7 j E s A u).1;cases hrr:s.run with
    |false=>
     rw[hrr] at c2;simp only[fh,fH] at c2;rw[X9 c2] at q;cases q
    |true=>
     rw[hrr] at c2;simp only[eJ] at c2;exact c2.2.2 b x q
   refine .inl (hx ρ _ _ w a _ Q l7 l.mem (fun b b6=>⟨m6 b b6,k6 b b6⟩) e2 h9 ?_);intro n3 w' r k1 k2 k3 k4;have m0:∀ b B,gR (fun T=>(c.setIfInBounds i true).getD T false) (nt s0 ops.toList p b) 0 (ah s0.H b)=some B->eu (fun b=>gR (fun i=>c.getD i false) (nt s0 ops.toList p b) 0 (ah s0.H b)) e.res.old (cJ s0 ops.toList p i).H.length e.res.news b=some B:=fun b B hB=>by
    rw[b5] at hB;unfold kM at hB;unfold eu;by_cases hc:(cJ s0 ops.toList p i).H.length<=b/\b<(cJ s0 ops.toList p i).H.length+e.res.news.length
    .rw[aM hc] at hB |-;exact hB
    .rw[aq hc] at hB |-
     rw[Iw];by_cases a8:b∈e.res.old.map (·.1)
     .have j1:b<(cJ s0 ops.toList p i).H.length:=by
       obtain⟨x,n5,n6⟩:=eZ.1 a8;rw[<-n6];exact m5 x n5
      rw[aM ⟨j1,a8⟩] at hB;rw[aM a8];exact hB
     .rw[aq (fun h=>a8 h.2)] at hB;rw[aq a8];exact hB
   refine ih _ n3 _ w' (by simpa using X) c6 ⟨Y,⟨by cases o.dst<;>simp[Act.put,l.tmps.size],by cases o.dst<;>exact l.tmps.defers,fun t=>?_⟩,(k2.less m0).sn a7,fun b hb=>(k1 b (.inl hb)).trans (l.agree b hb),?_⟩
   .rw[c5];cases hdd:o.dst with
    |none=>simp only[seval,fH,Act.put];exact(l.tmps.slot t).mono k1 z k4.kL
    |some d=>
     have h8:d<a.tmps.size:=by rw[l.tmps.size];rw[hdd] at hd;exact hd
     rw[Cl a d r t h8];by_cases M:d=t
     .subst M;rw[aM rfl,aM rfl];exact k3.mono (fun _ _=>rfl) a7 (cN.refl w')
     .rw[aq M,aq (by simpa using M)];exact(l.tmps.slot t).mono k1 z k4.kL
   .exact(l.frame.trans k4).less fun b B hB j2=>⟨b,B,m0 b B hB,j2,rfl⟩
theorem PK {m id:Nat}{s s':St}{E:List dq}{K:St->Prop}(e:P.follows .mixedOrders=true)(ht:sL P Z98 n ops ops.toList s E s')(k:mS ops (pm ops.toList s E)=true)(y:∀ b,Z98 b (ah s.H b))(z:K s'):LP P m n id ops s K:=by
 intro G a w Q g R B;refine wp_region_any e ?_;obtain⟨D,_,_⟩:=AA _ _ _ _ ht;have c:Alike w {w with drawn:=w.drawn+1}:=Alike.drew w;have d:∀ i,(Array.replicate ops.size false).getD i false=false:=fun i=>by
  rw[rA,Array.getElem?_replicate];split <;>rfl
 have C:∀ t,gR (fun i=>(Array.replicate ops.size false).getD i false) (rR ops.toList E t) 0 (s.get t)=s.get t:=fun t=>yl _ 0 _ fun j x _=>d _
 have r:(fun b=>gR (fun i=>(Array.replicate ops.size false).getD i false) (nt s ops.toList E b) 0 (ah s.H b))=ah s.H:=funext fun b=>yl _ 0 _ fun j x _=>d _
 refine agq ht k (ρ0:=G) (w0:=w) R y (fun F L M N O=>B L M ⟨s',F,z,N,O⟩) _ _ G a _ J (j7 (List.length_filter_le _ _) J) ⟨(fun j o _ u=>by rw[d] at u;cases u),⟨g.tmps.size,g.tmps.defers,fun t=>?_⟩,?_,fun _ _=>rfl,?_⟩
 .rw[C];exact(g.tmps.slot t).mono (fun _ _=>rfl) (fun b l=> .inl l) c.kL
 .rw[r];exact(g.mem.alike c).sn fun b l=> .inl l
 .rw[r];exact Frame.alike c
def kI (P:Program)(n:Nat)(ops:Array Oper)(K:St->Prop):List Oper->List (List Nat×List Nat)->St->Prop
 |[],k,s=>mS ops k=true/\K s
 |o::l,k,s=>kh n o.dst/\match o.guard with
  |none=>jx P o.op s (hold fun i=>(∀ x∈i.old,x.1<s.H.length)/\kI P n ops K l (k++[dt s i]) (s.after o.dst i))
  |some (j,m)=>match pt ops j with
   |some d=>d<n/\p8 (s.get d) m (jx P o.op s (hold fun i=>(∀ x∈i.old,x.1<s.H.length)/\kI P n ops K l (k++[dt s i]) (s.after o.dst i))) (kI P n ops K l (k++[([],[])]) (s.put o.dst (.aZ [])))
   |none=>False
theorem FK {K:St->Prop}:∀ (l:List Oper) (tr:List (List Nat×List Nat)) (s:St),kI P n ops K l tr s->∃ q s',sL P (fun _ _=>True) n ops l s q s'/\mS ops (tr++pm l s q)=true/\K s'
 |[],tr,s,h=>⟨[],s,rfl,by simpa [pm] using h.1,h.2⟩
 |o::l,tr,s,h=>by
  obtain⟨i,h⟩:=h;have C:wU ops n o s true->(jx P o.op s fun r=>(∀ x∈r.old,x.1<s.H.length)/\kI P n ops K l (tr++[dt s r]) (s.after o.dst r))->∃ q s',sL P (fun _ _=>True) n ops (o::l) s q s'/\mS ops (tr++pm (o::l) s q)=true/\K s':=fun t m=>by
   obtain⟨r,A,B,p⟩:=GK m;obtain⟨q,s',u,w,y⟩:=FK l _ _ p;refine⟨⟨true,r⟩::q,s',⟨⟨i,t,by simp only[eJ];exact⟨A.CV,B,fun _ _ _=>trivial⟩⟩,u⟩,?_,y⟩;simpa [pm] using w
  cases t:o.guard with
  |none=>rw[t] at h;exact C (by unfold wU;rw[t]) h
  |some g=>
   obtain⟨j,z⟩:=g;rw[t] at h;simp only at h;split at h
   case h_2=>exact h.elim
   rename_i d k;obtain⟨c,h⟩:=h;unfold p8 at h;have a:s.after o.dst {v:= .aZ []}=s.put o.dst (.aZ []):=by unfold St.after St.put fX;simp
   split at h
   case h_3=>exact h.elim
   case h_2=>
    rename_i f;obtain⟨q,s',u,w,y⟩:=FK l _ _ h;refine⟨⟨false,{v:= .aZ []}⟩::q,s',⟨⟨i,by unfold wU;rw[t];exact⟨d,k,c,.inr ⟨f,rfl⟩⟩,rfl⟩,by rw[a];exact u⟩,?_,y⟩;simp only[pm,a];simpa [dt] using w
   rename_i b f;obtain⟨A,B⟩:=h;by_cases e:b=z
   .exact C (by unfold wU;rw[t];exact⟨d,k,c,.inl ⟨b,f,by rw[e];simp⟩⟩) (A e)
   .obtain⟨q,s',u,w,y⟩:=FK l _ _ (B e);refine⟨⟨false,{v:= .aZ []}⟩::q,s',⟨⟨i,by unfold wU;rw[t];exact⟨d,k,c,.inl ⟨b,f,by simpa using e⟩⟩,rfl⟩,by rw[a];exact u⟩,?_,y⟩;simp only[pm,a];simpa [dt] using w
theorem adF {m id:Nat}{s:St}{K:St->Prop}(a:P.follows .mixedOrders=true)(h:kI P n ops K ops.toList [] s):LP P m n id ops s K:=by
 obtain⟨e,f,c,d,b⟩:=FK _ _ _ h;exact PK a c (by simpa using d) (fun _=>trivial) b
end
end
section
section
variable {ρ ρ':Nat->Nat×Nat}{dom dom':Nat->Prop}{P:Program}{w w':World}{n:Nat}{a:Act}
structure bJ (m n:Nat) (s s':St):Prop where
 len:m<=s.H.length->m<=s'.H.length
 go:∀ (ρ:Nat->Nat×Nat) (a:Act) (w:World),cn ρ n s a w->m<=s.H.length->∃ ρ',cn ρ' n s' a w/\Step m ρ s w ρ' s' w
theorem bJ.refl (m n:Nat)(s:St):bJ m n s s:=⟨id,fun b _ _ h c=>⟨b,h,Step.refl c⟩⟩
theorem bJ.trans {m n:Nat}{s s' b:St}(h:bJ m n s s')(k:bJ m n s' b):bJ m n s b:=⟨fun e=>k.len (h.len e),fun l a w c o=>by
 obtain⟨g,p,j⟩:=h.go l a w c o;obtain⟨i,d,f⟩:=k.go g a w p j.1;exact⟨i,d,j.trans f⟩⟩
theorem bJ.drop {m n:Nat}{s s':St}(ht:∀ p∈s'.t,p.2=s.get p.1)(d:s'.H.length=s.H.length)(k:∀ b B,ah s'.H b=some B->ah s.H b=some B):bJ m n s s':=⟨fun e=>by rw[d];exact e,fun v a w f x=>by
 refine⟨v,⟨⟨f.tmps.size,f.tmps.defers,fun t=>?_⟩,(f.mem.less k).sn (fun b o=>by rw[d];exact o)⟩,by rw[d];exact x,fun _ _=>rfl,?_⟩
 .have :∀ (l:List (Nat×V)),(∀ p∈l,p.2=s.get p.1)->VR v (· <s.H.length) w (lookS l t) (a.tmps.getD t undef):=by
   intro l;induction l with
   |nil=>intro _;show VR _ _ _ .bH _;unfold VR;trivial
   |cons p l ih=>
    intro h;simp only[lookS];split
    .rename_i e;rw[h p J,e];exact f.tmps.slot t
    .exact ih fun q r=>h q (by simp[r])
  rw[d];exact this s'.t ht
 .exact(Frame.refl v (ah s.H) w).less fun b B u j=>⟨b,B,k b B u,j,rfl⟩⟩
def oA (K:St->Prop)(Q:Exit->St->Prop):Exit->St->Prop
 | .normal,s=>K s
 |e,s=>Q e s
def rE (id:Nat)(Q:Exit->St->Prop):Exit->St->Prop
 | .exit i,s=>if i=id then Q .normal s else Q (.exit i) s
 |e,s=>Q e s
theorem IY {c:Code}{a:Act}{w:World}{Q:Exit->Act->World->Prop}(R:Nat->Act->World->Prop){k0:Nat}(h0:R k0 a w)
  (u:∀ k a w,R k a w->c.wp P (Exit.then (fun a' w'=>∃ j,j<k/\R j a' w') Q) a w):(Code.loop c).wp P Q a w:=by
 intro b k y;have v:∀ n a w,R n a w->∃ e a' w',Q e a' w'/\Arrives P (lone (b.at a (.code c:: .inLoop c::k)) y w) b k y e a' w':=by
  intro n;induction n using Nat.strongRecOn with
  |_ n ih=>
   intro a w q;obtain⟨e,h,i,f,d⟩:=u n a w q b (.inLoop c::k) y;cases e with
   |normal=>
    obtain⟨j,m,o⟩:=f;obtain⟨r,s,t,p,g⟩:=ih j m h i o;exact⟨r,s,t,p,.of_steps (Steps.trans d (.one step_inLoop)) g⟩
   |exit z=>exact⟨_,h,i,f,.pass (x:= .inLoop c) rfl (fun _ _=> .inl J) d⟩
   |goto l=>exact⟨_,h,i,f,.pass (x:= .inLoop c) rfl (fun _ _=> .inl J) d⟩
   |ret=>exact⟨_,h,i,f,.pass (x:= .inLoop c) rfl (fun _ _=> .inl J) d⟩
   |panic A=>exact⟨_,h,i,f,.pass (x:= .inLoop c) rfl (fun _ _=> .inl J) d⟩
   |outgrown=>exact⟨_,h,i,f,.pass (x:= .inLoop c) rfl (fun _ _=> .inl J) d⟩
 obtain⟨e,a',w',f,d⟩:=v _ a w h0;exact⟨e,a',w',f,.of_steps (.one step_loop) d⟩
def nV (m n:Nat)(Z99:Nat->St->Prop)(k:Nat)(s':St):Prop:=∃ f e,f<k/\bJ m n s' e/\Z99 f e
def O7 (m n:Nat)(c:(Exit->St->Prop)->St->Prop)(Q:Exit->St->Prop)(s:St):Prop:=
 ∃ Z99:Nat->St->Prop,(∃ k d,bJ m n s d/\Z99 k d)/\∀ k s,Z99 k s->m<=s.H.length->c (oA (nV m n Z99 k) Q) s
@[congr] theorem akt {id:Nat} {Q:Exit->St->Prop} {e:Exit} {s s':St} (h:s=s'):rE id Q e s=rE id Q e s':=by rw[h]
def yT (v:V)(X Y:Prop):Prop:=match v with
 | .bool b=>(b=true->X)/\(b=false->Y)
 |_=>False
def vc (P:Program)(m n:Nat):Code->(Exit->St->Prop)->St->Prop
 | .skip,Q,s=>Q .normal s
 | .label _,Q,s=>Q .normal s
 | .region i g h,Q,s=>match h with
  |true=>kI P n g (Q .normal) g.toList [] s
  |false=>gj P n g g.toList s (Q .normal)
 | .seq x y,Q,s=>vc P m n x (oA (vc P m n y Q) Q) s
 | .cond c x y,Q,s=>yT (s.ev c) (vc P m n x Q s) (vc P m n y Q s)
 | .block i c,Q,s=>vc P m n c (rE i Q) s
 | .loop c,Q,s=>O7 m n (vc P m n c) Q s
 | .exit i,Q,s=>Q (.exit i) s
 | .ret,Q,s=>Q .ret s
 | .scope _,_,_=>False
 | .goto _,_,_=>False
 | .rangeFunc _ _ _ _,_,_=>False
 | .refuse _,_,_=>False
def E6 (m n:Nat)(ρ:Nat->Nat×Nat)(s:St)(w:World)(Q:Exit->St->Prop)(e:Exit)(a':Act)(w':World):Prop:=∃ f d,Q e f/\cn d n f a' w'/\Step m ρ s w d f w'
theorem tJ (d:P.follows .mixedOrders=true){m:Nat}:∀ (c:Code) (Q:Exit->St->Prop) (s:St),vc P m n c Q s->∀ (ρ:Nat->Nat×Nat) (a:Act) (w:World),cn ρ n s a w->m<=s.H.length->c.wp P (E6 m n ρ s w Q) a w
 | .skip,Q,s,h,ρ,a,w,f,M=>wp_skip ⟨s,ρ,h,f,Step.refl M⟩
 | .label _,Q,s,h,ρ,a,w,f,M=>wp_label ⟨s,ρ,h,f,Step.refl M⟩
 | .region id W true,Q,s,h,ρ,a,w,f,M=>adF (id:=id) d h ρ a w _ f M fun _ _ ⟨s',ρ',q1,j,g⟩=>⟨s',ρ',q1,j,g⟩
 | .region id W false,Q,s,h,ρ,a,w,f,M=>ZG h f M fun _ _ ⟨s',ρ',q1,j,g⟩=>⟨s',ρ',q1,j,g⟩
 | .seq x y,Q,s,h,ρ,a,w,f,M=>by
  refine rm (ni (tJ d x _ s h ρ a w f M) ?_);rintro e a' w' ⟨s',ρ',q1,j,g⟩;cases e
  case normal=>exact ni (tJ d y Q s' q1 ρ' a' w' j g.1) fun e C D ⟨o,ρ'',r1,r2,r3⟩=>⟨o,ρ'',r1,r2,g.trans r3⟩
  all_goals exact⟨s',ρ',q1,j,g⟩
 | .cond c x y,Q,s,h,ρ,a,w,f,M=>by
  simp only[vc,yT] at h;split at h
  case h_2=>exact h.elim
  rename_i b E;have p:=f.tmps.eval c;rw[E] at p;unfold VR at p;exact DL p (fun ht=>tJ d x Q s (h.1 ht) ρ a w f M) (fun hf=>tJ d y Q s (h.2 hf) ρ a w f M)
 | .block id c,Q,s,h,ρ,a,w,f,M=>by
  refine wp_block (ni (tJ d c _ s h ρ a w f M) ?_);rintro e a' w' ⟨s',ρ',q1,j,g⟩;cases e
  case exit i=>
   simp only[rE] at q1;simp only[Exit.inBlock];split at q1
   .rename_i e;rw[aM e];exact⟨s',ρ',q1,j,g⟩
   .rename_i e;rw[aq e];exact⟨s',ρ',q1,j,g⟩
  all_goals exact⟨s',ρ',q1,j,g⟩
 | .loop c,Q,s,h,ρ,a,w,f,M=>by
  obtain⟨Z99,⟨k0,s0,q,r⟩,O⟩:=h;obtain⟨X,t,u⟩:=q.go ρ a w f M;refine IY (fun k V T=>∃ R N,Z99 k R/\cn N n R V T/\Step m ρ s w N R T) (k0:=k0) ⟨s0,X,r,t,u⟩ ?_;rintro k V T ⟨R,N,hi,v,l⟩;refine ni (tJ d c _ R (O k R hi l.1) N V T v l.1) ?_;rintro e a2 F ⟨s2,S,q1,j,g⟩;cases e
  case normal=>
   obtain⟨G,K,L,hw,z⟩:=q1;obtain⟨Y,A,B⟩:=hw.go S a2 F j g.1;exact⟨G,L,K,Y,z,A,(l.trans g).trans B⟩
  all_goals exact⟨s2,S,q1,j,l.trans g⟩
 | .exit id,Q,s,h,ρ,a,w,f,M=>wp_exit ⟨s,ρ,h,f,Step.refl M⟩
 | .ret,Q,s,h,ρ,a,w,f,M=>wp_ret ⟨s,ρ,h,f,Step.refl M⟩
 | .scope _,_,_,h,_,_,_,_,_=>h.elim
 | .goto _,_,_,h,_,_,_,_,_=>h.elim
 | .rangeFunc _ _ _ _,_,_,h,_,_,_,_,_=>h.elim
 | .refuse _,_,_,h,_,_,_,_,_=>h.elim
theorem Jl {r:Option bu}{K K':bu->Prop}(h:∀ r,K r->K' r)(b:mi r K):mi r K':=by
 unfold mi at*;split at b
 .exact⟨b.1,h _ b.2⟩
 .exact b
theorem yO {o:Op}{s:St}{K K':bu->Prop}(h:∀ r,K r->K' r)(b:jx P o s K):jx P o s K':=by
 unfold jx at*;split at b
 .split at b
  .obtain⟨c,d,e⟩:=b;exact⟨c,d,h _ e⟩
  .exact Jl h b
  .unfold yj at*;split at b
   .split at b
    .obtain⟨c,d,e⟩:=b;exact⟨c,d,h _ e⟩
    .exact b
   .exact b
 .exact Jl h b
theorem Am {ops:Array Oper}:∀ (l:List Oper) (s:St) (K K':St->Prop),(∀ s,K s->K' s)->gj P n ops l s K->gj P n ops l s K'
 |[],s,K,K',h,c=>h s c
 |o::l,s,K,K',h,c=>by
  refine⟨c.1,?_⟩;have f:=c.2;split at f
  .exact yO (fun r d=>Am l _ K K' h d) f
  .split at f
   .refine⟨f.1,?_⟩;have b:=f.2;unfold p8 at b |-
    split at b
    .exact⟨fun e=>yO (fun r d=>Am l _ K K' h d) (b.1 e),fun e=>Am l _ K K' h (b.2 e)⟩
    .exact Am l _ K K' h b
    .exact b
   .exact f
theorem zf {ops:Array Oper}:∀ (l:List Oper) (tr:List (List Nat×List Nat)) (s:St) (K K':St->Prop),(∀ s,K s->K' s)->kI P n ops K l tr s->kI P n ops K' l tr s
 |[],tr,s,K,K',h,c=>⟨c.1,h s c.2⟩
 |o::l,tr,s,K,K',h,c=>by
  refine⟨c.1,?_⟩;have f:=c.2;split at f
  .exact yO (fun r d=>⟨d.1,zf l _ _ K K' h d.2⟩) f
  .split at f
   .refine⟨f.1,?_⟩;have b:=f.2;unfold p8 at b |-
    split at b
    .exact⟨fun e=>yO (fun r d=>⟨d.1,zf l _ _ K K' h d.2⟩) (b.1 e),fun e=>zf l _ _ K K' h (b.2 e)⟩
    .exact zf l _ _ K K' h b
    .exact b
   .exact f
theorem mT {m:Nat}:∀ (c:Code) (Q Q':Exit->St->Prop) (s:St),(∀ e s,Q e s->Q' e s)->vc P m n c Q s->vc P m n c Q' s
 | .skip,Q,Q',s,h,b=>h _ _ b
 | .label _,Q,Q',s,h,b=>h _ _ b
 | .region l o true,Q,Q',s,h,b=>zf _ _ _ _ _ (fun s d=>h _ _ d) b
 | .region l o false,Q,Q',s,h,b=>Am _ _ _ _ (fun s d=>h _ _ d) b
 | .seq x y,Q,Q',s,h,b=>mT x _ _ s (fun e s j=>by
   cases e
   case normal=>exact mT y Q Q' s h j
   all_goals exact h _ _ j) b
 | .cond c x y,Q,Q',s,h,b=>by
  simp only[vc,yT] at b |-
  split at b
  .exact⟨fun f=>mT x Q Q' s h (b.1 f),fun f=>mT y Q Q' s h (b.2 f)⟩
  .exact b
 | .block l c,Q,Q',s,h,b=>mT c _ _ s (fun e s j=>by
   cases e
   case exit i=>
    simp only[rE] at j |-
    split at j
    .rename_i e;rw[aM e];exact h _ _ j
    .rename_i e;rw[aq e];exact h _ _ j
   all_goals exact h _ _ j) b
 | .loop c,Q,Q',s,h,b=>by
  obtain⟨Z99,r,g⟩:=b;refine⟨Z99,r,fun k s p q=>mT c _ _ s (fun e s j=>?_) (g k s p q)⟩;cases e
  case normal=>exact j
  all_goals exact h _ _ j
 | .exit l,Q,Q',s,h,b=>h _ _ b
 | .ret,Q,Q',s,h,b=>h _ _ b
 | .scope _,_,_,_,_,b=>b
 | .goto _,_,_,_,_,b=>b
 | .rangeFunc _ _ _ _,_,_,_,_,b=>b
 | .refuse _,_,_,_,_,b=>b
end
end
section
mutual
def V.low (n:Nat):V->Prop
 | .ptr b _=>b<n
 | .slice b _ _ _=>b<n
 | .map b=>b<n
 | .fn _ fs cs=>lows n fs/\lows n cs
 | .agg cs=>lows n cs
 | .aZ cs=>lows n cs
 | .iface _ v=>v.low n
 | .iV _ _ v=>v.low n
 |_=>True
def lows (n:Nat):List V->Prop
 |[]=>True
 |v::l=>v.low n/\lows n l
end
mutual
def V.bd (σ:Nat->Nat):V->V
 | .ptr b o=> .ptr (σ b) o
 | .slice b o len esz=> .slice (σ b) o len esz
 | .map b=> .map (σ b)
 | .fn f fs cs=> .fn f (aW σ fs) (aW σ cs)
 | .agg cs=> .agg (aW σ cs)
 | .aZ cs=> .aZ (aW σ cs)
 | .iface t v=> .iface t (v.bd σ)
 | .iV nm t v=> .iV nm t (v.bd σ)
 |v=>v
def aW (σ:Nat->Nat):List V->List V
 |[]=>[]
 |v::l=>v.bd σ::aW σ l
end
theorem nk (b:Nat->Nat):∀ l,aW b l=l.map (V.bd b)
 |[]=>rfl
 |v::l=>by unfold aW;rw[nk b l];rfl
section
variable {ρ ρ':Nat->Nat×Nat}{dom dom':Nat->Prop}{P:Program}{w w':World}{n:Nat}{a:Act}
mutual
theorem VR.nE {σ:Nat->Nat}:∀ {v:V} {r:Value},VR ρ dom w (v.bd σ) r->v.low n->VR (fun b=>ρ (σ b)) (· <n) w v r
 | .bH,_,_,_=>by unfold VR;trivial
 | .bool _,_,h,_=>by unfold V.bd at h;unfold VR at*;exact h
 | .u8 _,_,h,_=>by unfold V.bd at h;unfold VR at*;exact h
 | .u32 _,_,h,_=>by unfold V.bd at h;unfold VR at*;exact h
 | .u64 _,_,h,_=>by unfold V.bd at h;unfold VR at*;exact h
 | .i64 _,_,h,_=>by unfold V.bd at h;unfold VR at*;exact h
 | .i32 _,_,h,_=>by unfold V.bd at h;unfold VR at*;exact h
 | .str _,_,h,_=>by unfold V.bd at h;unfold VR at*;exact h
 | .ptr b _,_,h,hb=>by unfold V.bd at h;unfold V.low at hb;unfold VR at*;exact⟨hb,h.2⟩
 | .nilPtr,_,h,_=>by unfold V.bd at h;unfold VR at*;exact h
 | .slice b _ _ _,_,h,hb=>by unfold V.bd at h;unfold V.low at hb;unfold VR at*;exact⟨hb,h.2⟩
 | .bG,_,h,_=>by unfold V.bd at h;unfold VR at*;exact h
 | .fn _ fs cs,_,h,hb=>by
  unfold V.bd at h;unfold V.low at hb;unfold VR at*;obtain⟨f',c',h1,h2,h3⟩:=h;exact⟨f',c',h1,ao.nE h2 hb.1,ao.nE h3 hb.2⟩
 | .ff,_,h,_=>by unfold V.bd at h;unfold VR at*;exact h
 | .iV _ _ v,_,h,hb=>by
  unfold V.bd at h;unfold V.low at hb;unfold VR at*;obtain⟨x,h1,h2⟩:=h;exact⟨x,h1,VR.nE h2 hb⟩
 | .agg cs,_,h,hb=>by
  unfold V.bd at h;unfold V.low at hb;unfold VR at*;obtain⟨r',h1,h2⟩:=h;exact⟨r',h1,ao.nE h2 hb⟩
 | .aZ cs,_,h,hb=>by
  unfold V.bd at h;unfold V.low at hb;unfold VR at*;obtain⟨r',h1,h2⟩:=h;exact⟨r',h1,ao.nE h2 hb⟩
 | .iface _ v,_,h,hb=>by
  unfold V.bd at h;unfold V.low at hb;unfold VR at*;obtain⟨r',h1,h2⟩:=h;exact⟨r',h1,VR.nE h2 hb⟩
 | .nilIface,_,h,_=>by unfold V.bd at h;unfold VR at*;exact h
 | .map b,_,h,hb=>by unfold V.bd at h;unfold V.low at hb;unfold VR at*;exact⟨hb,h.2⟩
theorem ao.nE {σ:Nat->Nat}:∀ {vs:List V} {rs:List Value},ao ρ dom w (aW σ vs) rs->lows n vs->ao (fun b=>ρ (σ b)) (· <n) w vs rs
 |[],_,h,_=>by unfold aW at h;unfold ao at*;exact h
 |v::vs,_,h,hb=>by
  unfold aW at h;unfold lows at hb;unfold ao at*;obtain⟨r,rs,h1,h2,h3⟩:=h;exact⟨r,rs,h1,VR.nE h2 hb.1,ao.nE h3 hb.2⟩
end
mutual
theorem VR.sO {σ:Nat->Nat}(hσ:∀ b,dom b->dom' (σ b))(hρ:∀ b,dom b->ρ' (σ b)=ρ b):∀ {v:V} {r:Value},VR ρ dom w v r->VR ρ' dom' w (v.bd σ) r
 | .bH,_,_=>by unfold V.bd VR;trivial
 | .bool _,_,h=>by unfold V.bd;unfold VR at*;exact h
 | .u8 _,_,h=>by unfold V.bd;unfold VR at*;exact h
 | .u32 _,_,h=>by unfold V.bd;unfold VR at*;exact h
 | .u64 _,_,h=>by unfold V.bd;unfold VR at*;exact h
 | .i64 _,_,h=>by unfold V.bd;unfold VR at*;exact h
 | .i32 _,_,h=>by unfold V.bd;unfold VR at*;exact h
 | .str _,_,h=>by unfold V.bd;unfold VR at*;exact h
 | .ptr b _,_,h=>by unfold V.bd;unfold VR at*;exact⟨hσ b h.1,by rw[hρ b h.1];exact h.2⟩
 | .nilPtr,_,h=>by unfold V.bd;unfold VR at*;exact h
 | .slice b _ _ _,_,h=>by unfold V.bd;unfold VR at*;exact⟨hσ b h.1,by rw[hρ b h.1];exact h.2⟩
 | .bG,_,h=>by unfold V.bd;unfold VR at*;exact h
 | .fn _ fs cs,_,h=>by
  unfold V.bd;unfold VR at*;obtain⟨f',c',h1,h2,h3⟩:=h;exact⟨f',c',h1,ao.sO hσ hρ h2,ao.sO hσ hρ h3⟩
 | .ff,_,h=>by unfold V.bd;unfold VR at*;exact h
 | .iV _ _ v,_,h=>by
  unfold V.bd;unfold VR at*;obtain⟨x,h1,h2⟩:=h;exact⟨x,h1,VR.sO hσ hρ h2⟩
 | .agg cs,_,h=>by
  unfold V.bd;unfold VR at*;obtain⟨r',h1,h2⟩:=h;exact⟨r',h1,ao.sO hσ hρ h2⟩
 | .aZ cs,_,h=>by
  unfold V.bd;unfold VR at*;obtain⟨r',h1,h2⟩:=h;exact⟨r',h1,ao.sO hσ hρ h2⟩
 | .iface _ v,_,h=>by
  unfold V.bd;unfold VR at*;obtain⟨r',h1,h2⟩:=h;exact⟨r',h1,VR.sO hσ hρ h2⟩
 | .nilIface,_,h=>by unfold V.bd;unfold VR at*;exact h
 | .map b,_,h=>by unfold V.bd;unfold VR at*;exact⟨hσ b h.1,by rw[hρ b h.1];exact h.2⟩
theorem ao.sO {σ:Nat->Nat}(hσ:∀ b,dom b->dom' (σ b))(hρ:∀ b,dom b->ρ' (σ b)=ρ b):∀ {vs:List V} {rs:List Value},ao ρ dom w vs rs->ao ρ' dom' w (aW σ vs) rs
 |[],_,h=>by unfold aW;unfold ao at*;exact h
 |v::vs,_,h=>by
  unfold aW;unfold ao at*;obtain⟨r,rs,h1,h2,h3⟩:=h;exact⟨r,rs,h1,VR.sO hσ hρ h2,ao.sO hσ hρ h3⟩
end
mutual
theorem V.Bx:∀ (v:V),v.bd id=v
 | .bH| .bool _| .u8 _| .u32 _| .u64 _| .i64 _| .i32 _| .str _| .nilPtr| .bG| .ff| .nilIface=>by unfold V.bd;rfl
 | .iV _ _ v=>by unfold V.bd;rw[V.Bx v]
 | .ptr b _=>by unfold V.bd;rfl
 | .map b=>by unfold V.bd;rfl
 | .slice b _ _ _=>by unfold V.bd;rfl
 | .fn _ fs cs=>by unfold V.bd;rw[xE fs,xE cs]
 | .agg cs=>by unfold V.bd;rw[xE cs]
 | .aZ cs=>by unfold V.bd;rw[xE cs]
 | .iface _ v=>by unfold V.bd;rw[V.Bx v]
theorem xE:∀ (l:List V),aW id l=l
 |[]=>rfl
 |v::l=>by unfold aW;rw[V.Bx v,xE l]
end
theorem VR.restrict {v:V}{r:Value}(h:VR ρ dom w v r)(e:v.low n):VR ρ (· <n) w v r:=by
 have f:VR ρ dom w (v.bd id) r:=by rw[V.Bx];exact h
 exact VR.nE f e
theorem ao.restrict {v:List V}{r:List Value}(h:ao ρ dom w v r)(b:lows n v):ao ρ (· <n) w v r:=by
 have c:ao ρ dom w (aW id v) r:=by rw[xE];exact h
 exact ao.nE c b
def jh (P:Program)(s:St):List ResultVar->(List V->Prop)->Prop
 |[],K=>K []
 | .tmp t::r,K=>jh P s r fun l=>K (s.get t::l)
 | .cell x t::r,K=>mi (dK P (.load t (.tmp x)) s.ev (ah s.H) s.H.length) (hold fun b=>jh P s r fun l=>K (b.v::l))
def jv:List V->V
 |[v]=>v
 |l=> .aZ l
def gV (P:Program)(fn:Func)(R:V->St->Prop):Exit->St->Prop
 | .normal,s=>jh P s fn.results.toList fun l=>R (jv l) s
 | .ret,s=>jh P s fn.results.toList fun l=>R (jv l) s
 |_,_=>False
def FV (b:Array Value):ResultVar->Sem Value
 | .tmp t=>pure (b.getD t undef)
 | .cell x t=>do loadVar t (<-asAddr (b.getD x undef))
theorem ai5 (fn:Func)(b:Array Value):results fn b=(do
  let vs <-fn.results.mapM (FV b)
  pure (if h:vs.size=1 then vs[0] else .tuple vs)):=by
 unfold results;congr 1
theorem JB {s:St}(d:cn ρ n s a w):∀ (y:List ResultVar) (K:List V->Prop),jh P s y K->∃ l vs,K l/\ao ρ (· <s.H.length) w l vs/\
  (y.mapM (FV a.tmps)).run P w= .ok vs w
 |[],K,h=>⟨[],[],h,ao.nil,J⟩
 | .tmp t::y,K,h=>by
  obtain⟨l,vs,D,E,g⟩:=JB d y _ h;exact⟨_,_,D,ao.cons (d.tmps.slot t) E,by simp only[List.mapM_cons,FV,dx,dI,eQ,g]⟩
 | .cell x t::y,K,h=>by
  unfold jh mi at h;split at h
  case h_2=>exact h.elim
  rename_i A c;obtain⟨o,h⟩:=h;obtain⟨l,vs,D,E,g⟩:=JB d y _ h;have f:=d.tmps.slot x;simp only[dK] at c;split at c
  case h_2=>cases c
  rename_i b p q;have i:s.get x= .ptr b p:=q;rw[i] at f;have z:∃ r,(Instr.loadAt t (a.tmps.getD x undef)).run P w= .ok r w/\VR ρ (· <s.H.length) w A.v r:=by
   split at c
   .rename_i B k j C m;injection c with c;subst c
    have :=E3 d.mem f j C m;simp only[eJ] at this;exact this o
   .rename_i B k j C m;injection c with c;subst c
    have :=E3 d.mem f j C m;simp only[fh,fH] at this;exact this o
   .cases c
  obtain⟨r,F,G⟩:=z;unfold VR at f;obtain⟨_,e⟩:=f;rw[e] at F;simp only[Instr.loadAt,Instr.sureAddr,dx,dI,eQ] at F;have u:(asAddr (a.tmps.getD x undef)).run P w= .ok ⟨(ρ b).1,(ρ b).2+p,none⟩ w:=by rw[e];rfl
  exact⟨_,_,D,ao.cons G E,by simp only[List.mapM_cons,FV,u,dx,dI,eQ,F,g]⟩
theorem SW {s:St}{fn:Func}{R:V->St->Prop}(c:cn ρ n s a w)(h:jh P s fn.results.toList fun l=>R (jv l) s):∃ v r,R v s/\VR ρ (· <s.H.length) w v r/\(results fn a.tmps).run P w= .ok r w:=by
 obtain⟨l,g,i,f,d⟩:=JB (P:=P) c _ _ h;have b:(results fn a.tmps).run P w= .ok (if h:g.toArray.size=1 then g.toArray[0] else .tuple g.toArray) w:=by
  rw[ai5,Array.mapM_eq_mapM_toList];simp only[dx,Sem.run_map,dI];rw[d];rfl
 match l,g,i,f,b with
 |[],g,i,f,b=>
  have :=f.length;obtain rfl:g=[]:=nK.1 (by simpa using this);exact⟨_,_,i,by show VR _ _ _ (.aZ []) _;unfold VR;exact⟨_,rfl,ao.nil⟩,b⟩
 |[v],g,i,f,b=>
  unfold ao at f;obtain⟨r,o,rfl,k,j⟩:=f;unfold ao at j;subst j;exact⟨_,_,i,k,b⟩
 |v::m::l,g,i,f,b=>
  have e:=f.length;rw[dif_neg (by simp at e |-;omega)] at b;exact⟨_,_,i,by show VR _ _ _ (.aZ _) _;unfold VR;exact⟨_,rfl,f⟩,b⟩
def jX:List V->Nat->List (Nat×V)
 |[],_=>[]
 |v::l,i=>(i,v)::jX l (i+1)
theorem Hr:∀ (l:List V) (i t:Nat),lookS (jX l i) t=if i<=t/\t<i+l.length then l.getD (t-i) .bH else .bH
 |[],i,t=>by simp[jX,lookS]
 |v::l,i,t=>by
  simp only[jX,lookS,Hr l (i+1) t,dM];by_cases e:i=t
  .subst e;simp
  .rw[aq e];by_cases h:i+1<=t/\t<i+1+l.length
   .rw[aM h,aM I,show t-i=(t-(i+1))+1 by omega];simp
   .rw[aq h,aq I]
def bp (P:Program)(f:FuncId)(args:List V)(h:aU)(v:V)(h':aU):Prop:=
 ∀ (i:Nat->Nat×Nat) (w:World) (c:Array Value),ao i (· <h.length) w args c.toList->bS i (· <h.length) (ah h) w->
  Calls P f c w fun e w'=>∃ r g,e= .returned r/\VR g (· <h'.length) w' v r/\bS g (· <h'.length) (ah h') w'/\h.length<=h'.length/\(∀ b,b<h.length->g b=i b)/\Frame i (ah h) w g (ah h') w'
def Fin (m:Nat)(v':V)(h':aU)(v:V)(s:St):Prop:=m<=h'.length/\
 ∀ (f:Nat->Nat×Nat) (w:World) (r:Value),VR f (· <s.H.length) w v r->bS f (· <s.H.length) (ah s.H) w->m<=s.H.length->∃ e,VR e (· <h'.length) w v' r/\bS e (· <h'.length) (ah h') w/\(∀ b,b<m->e b=f b)/\
  (∀ b B,ah h' b=some B->B.ro=false->∃ d g,ah s.H d=some g/\g.ro=false/\(f d).1=(e b).1)
theorem Fin.pure {v:V}{s:St}(c:v.low 0):Fin 0 v [] v s:=⟨bz _,fun e w r f g _=>⟨e,f.restrict c,⟨fun b B h=>by simp[ah] at h,fun b B h=>by simp[ah] at h,fun b d B i h=>by simp[ah] at h,fun b B h=>by simp[ah] at h,fun b B h=>by simp[ah] at h,fun b B m h=>by simp[ah] at h⟩,fun _ h=>by omega,fun b B h=>by simp[ah] at h⟩⟩
theorem Fin.same {m:Nat}{v:V}{s:St}{h':aU}(u:m<=h'.length)(p:h'.length<=s.H.length)(f:v.low h'.length)(c:∀ b B,ah h' b=some B->ah s.H b=some B/\lows h'.length B.cs):Fin m v h' v s:=
 ⟨u,fun y w r z q _=>⟨y,z.restrict f,⟨fun b B h=>by
   unfold ah at h;exact Nat.lt_of_not_le (fun d=>by rw[iW d] at h;simp at h),
  fun b B h=>q.lt b B (c b B h).1,fun b o B t h h' e g=>q.inj b o B t (c b B h).1 (c o t h').1 e g,
  fun b B h i v f=>by
   obtain⟨r,C,D⟩:=q.cell b B (c b B h).1 i v f;have d:=(c b B h).2;refine⟨r,C,D.restrict ?_⟩;have :∀ (l:List V) (i:Nat),lows h'.length l->l[i]?=some v->v.low h'.length:=by
    intro l;induction l with
    |nil=>intro i _ h;simp at h
    |cons x l ih=>
     intro i d h;unfold lows at d;cases i with
     |zero=>simp at h;subst h;exact d.1
     |succ i=>exact ih i d.2 (by simpa using h)
   exact this B.cs i d f,
  fun b B h e i A=>q.free b B (c b B h).1 e i A,fun b B m h j=>q.gY b B m (c b B h).1 j⟩,fun _ _=>rfl,fun b B h e=>⟨b,B,(c b B h).1,e,rfl⟩⟩⟩
theorem Fp (g:P.follows .mixedOrders=true){f:FuncId}{fn:Func}{c:Code}{args:List V}{h h':aU}{v:V}(K:P.funcs[f]?=some fn)(j:fn.body=some c)(z:args.length<=fn.ntmps)
  (x:vc P h.length fn.ntmps c (gV P fn (Fin h.length v h')) ⟨jX args 0,h⟩):bp P f args h v h':=by
 intro D w d s L;have m:=s.length;refine calls_of_wp K j (ni (tJ g c _ _ x D _ w ⟨⟨?_,rfl,fun t=>?_⟩,L⟩ (bz _)) ?_)
 .have :d.size=args.length:=by simpa using m
  simp;omega
 .show VR _ _ _ (lookS (jX args 0) t) _;rw[Hr];split
  .rename_i S;obtain⟨r,C,F⟩:=s.get (i:=t) (v:=args.getD t .bH) (by rw[bY,bn I];rfl);have o:t<d.size:=by simpa using(cA.1 C).1
   simp only[Nat.sub_zero];have :(d++Array.replicate (fn.ntmps-d.size) undef).getD t undef=r:=by
    rw[rA,BN o];have :d[t]?=some r:=by rw[<-C];simp
    rw[this];rfl
   rw[this];exact F
  .unfold VR;trivial
 .rintro e M w' ⟨H,A,E,k,p⟩;have B:(jh P H fn.results.toList fun l=>Fin h.length v h' (jv l) H)->∃ r,(results fn M.tmps).run P w'= .ok r w'/\(∃ u A,Ending.returned r= .returned u/\VR A (· <h'.length) w' v u/\bS A (· <h'.length) (ah h') w'/\h.length<=h'.length/\(∀ b,b<h.length->A b=D b)/\Frame D (ah h) w A (ah h') w'):=fun q=>by
   obtain⟨T,r,C,F,N⟩:=SW k q;obtain⟨G,O,Q,R,y⟩:=C.2 A w' r F k.mem p.1;exact⟨r,N,r,G,rfl,O,Q,C.1,fun b j=>(R b j).trans (p.2.1 b j),p.2.2.less y⟩
  cases e
  case normal=>exact⟨k.tmps.defers,B E⟩
  case ret=>exact⟨k.tmps.defers,B E⟩
  all_goals exact E.elim
def bE (P:Program)(f:FuncId)(args:List V)(v:V):Prop:=iu P f=true/\∀ c g,Spec P f args c g {v:=v}
theorem Es {f:FuncId}{args:List V}{v:V}(hc:iu P f=true)(t:lows 0 args)(h:bp P f args [] v []):bE P f args v:=⟨hc,fun A D z dom E w j y d _ _=>by
 have C:bS z (· <([]:aU).length) (ah []) w:=⟨fun b B h=>by simp[ah] at h,fun b B h=>by simp[ah] at h,fun b x B M h=>by simp[ah] at h,fun b B h=>by simp[ah] at h,fun b B h=>by simp[ah] at h,fun b B m h=>by simp[ah] at h⟩;refine(h z w j (d.restrict t) C).mono ?_;rintro e w' ⟨r,G,rfl,H,_,_,_,g⟩;have q:∀ r,r<w.heap.size->w'.heap[r]?=w.heap[r]?:=fun r d=>g.de r d (fun b B h=>by simp[ah] at h)
 have k:∀ b o,b<w.heap.size->w'.cell? ⟨b,o,none⟩=w.cell? ⟨b,o,none⟩:=fun b o p=>x9 (q b p)
 have l:∀ b o,b<w.heap.size->w'.frozen? ⟨b,o,none⟩=w.frozen? ⟨b,o,none⟩:=fun b o p=>yA (q b p)
 refine⟨r,z,rfl,fun _ _=>rfl,?_,?_,?_⟩
 .rw[vQ];exact⟨fun b B c=> .inl (y.has b B c),fun b B c=>pI (y.lt b B c) g.size,y.inj,fun b B c i v u=>by
   obtain⟨r,K,L⟩:=y.cell b B c i v u;exact⟨r,by rw[k _ _ (y.lt b B c)];exact K,L.mono (fun _ _=>rfl) (fun _ h=> .inl h) g.kL⟩,
   fun b B c d i F=>by rw[l _ _ (y.lt b B c)];exact y.free b B c d i F,fun b B m c s=>tj (y.gY b B m c s) (q _ (y.lt b B c))⟩
 .exact H.mono (fun b (p:b<0)=>by omega) (fun b (p:b<0)=>by omega) (cN.refl _)
 .rw[vQ];exact⟨g.os,g.output,g.tape,g.size,fun r d _=>q r d,g.kL,fun b B c d=> .inl ⟨b,B,c,d,rfl⟩⟩⟩
theorem pK (g:P.follows .mixedOrders=true){f:FuncId}{fn:Func}{c:Code}{args:List V}{v:V}(hc:iu P f=true)(B:P.funcs[f]?=some fn)(k:fn.body=some c)(m:args.length<=fn.ntmps)(o:lows 0 args)(i:v.low 0)
  (p:vc P 0 fn.ntmps c (gV P fn fun v' _=>v'=v) ⟨jX args 0,[]⟩):bE P f args v:=by
 refine Es hc o (Fp g B k m ?_);refine mT c _ _ _ (fun e s h=>?_) p;have b:∀ (u:List ResultVar) (K y:List V->Prop),(∀ l,K l->y l)->jh P s u K->jh P s u y:=by
  intro u;induction u with
  |nil=>intro K y h z;exact h _ z
  |cons x u ih=>
   intro K y h z;cases x with
   |tmp t=>exact ih _ _ (fun l d=>h _ d) z
   |cell x t=>
    exact Jl (fun r q=>ih _ _ (fun l d=>h _ d) q) z
 cases e
 case normal=>exact b _ _ _ (fun l (d:jv l=v)=>d▸Fin.pure (d▸i)) h
 case ret=>exact b _ _ _ (fun l (d:jv l=v)=>d▸Fin.pure (d▸i)) h
 all_goals exact h
end
end
section
variable {P:Program}{m n:Nat}{ops:Array Oper}
theorem RW {o:Op}{s:St}{K:bu->Prop}(h:jx P o s K):∃ res,K res/\jx P o s (fun r=>r=res):=by
 have d:∀ {r:Option bu},mi r K->∃ res,K res/\mi r (fun x=>x=res):=fun {r} h=>by
  cases r with
  |none=>exact h.elim
  |some x=>exact⟨x,h.2,h.1,rfl⟩
 have c:∀ {f:V} {b:List V} {H:aU},nO P f b H K->∃ res,K res/\nO P f b H (fun x=>x=res):=fun h=>by
  obtain⟨res,e,g⟩:=h;exact⟨res,g,res,e,rfl⟩
 unfold jx at h |-
 split at h
 .split at h
  .exact c h
  .exact d h
  .unfold yj at h |-
   split at h
   .split at h
    .exact c h
    .exact h.elim
   .exact h.elim
 .rename_i a;obtain⟨res,e,g⟩:=d h;refine⟨res,e,?_⟩;exact g
theorem Rt (s:St)(dst:Option Tmp)(res:bu):s.H.length<=(s.after dst res).H.length:=by
 unfold St.after;rw[bA,jE];exact ut _ _
theorem HX:∀ (l:List Oper) (s:St) (K:St->Prop),gj P n ops l s K->∃ s',s.H.length<=s'.H.length/\K s'/\gj P n ops l s (fun s2=>s2=s')
 |[],s,K,h=>⟨s,bz _,h,rfl⟩
 |o::l,s,K,h=>by
  obtain⟨B,x⟩:=h;have z:jx P o.op s (hold fun w=>gj P n ops l (s.after o.dst w) K)->∃ s',s.H.length<=s'.H.length/\K s'/\jx P o.op s (hold fun w=>gj P n ops l (s.after o.dst w) (fun s2=>s2=s')):=fun i=>by
   obtain⟨w,C,D⟩:=RW i;obtain⟨s',a,c,e⟩:=HX l _ K C;exact⟨s',j7 (Rt _ _ _) a,c,yO (fun r q=>by subst q;exact e) D⟩
  cases hg:o.guard with
  |none=>
   rw[hg] at x;obtain⟨s',a,c,e⟩:=z x;exact⟨s',a,c,B,by rw[hg];exact e⟩
  |some t=>
   obtain⟨j,y⟩:=t;rw[hg] at x;simp only at x;cases p:pt ops j with
   |none=>rw[p] at x;exact x.elim
   |some d=>
    rw[p] at x;obtain⟨u,g⟩:=x;have skip:gj P n ops l (s.put o.dst (.aZ [])) K->∃ s',s.H.length<=s'.H.length/\K s'/\gj P n ops l (s.put o.dst (.aZ [])) (fun s2=>s2=s'):=fun i=>HX l _ K i
    have A:∃ s',s.H.length<=s'.H.length/\K s'/\p8 (s.get d) y (jx P o.op s (hold fun w=>gj P n ops l (s.after o.dst w) (fun s2=>s2=s'))) (gj P n ops l (s.put o.dst (.aZ [])) (fun s2=>s2=s')):=by
     unfold p8 at g |-
     split at g
     .rename_i b v;by_cases f:b=y
      .obtain⟨s',a,c,e⟩:=z (g.1 f);exact⟨s',a,c,fun _=>e,fun k=>absurd f k⟩
      .obtain⟨s',a,c,e⟩:=skip (g.2 f);exact⟨s',a,c,fun k=>absurd k f,fun _=>e⟩
     .obtain⟨s',a,c,e⟩:=skip g;exact⟨s',a,c,e⟩
     .exact g.elim
    obtain⟨s',a,c,e⟩:=A;exact⟨s',a,c,B,by rw[hg];simp only;rw[p];exact⟨u,e⟩⟩
theorem Gz:∀ (l:List Oper) (tr:List (List Nat×List Nat)) (s:St) (K:St->Prop),kI P n ops K l tr s->∃ s',s.H.length<=s'.H.length/\K s'/\kI P n ops (fun s2=>s2=s') l tr s
 |[],tr,s,K,h=>⟨s,bz _,h.2,h.1,rfl⟩
 |o::l,tr,s,K,h=>by
  obtain⟨C,y⟩:=h;have A:jx P o.op s (hold fun w=>(∀ x∈w.old,x.1<s.H.length)/\kI P n ops K l (tr++[dt s w]) (s.after o.dst w))->
    ∃ s',s.H.length<=s'.H.length/\K s'/\jx P o.op s (hold fun w=>(∀ x∈w.old,x.1<s.H.length)/\kI P n ops (fun s2=>s2=s') l (tr++[dt s w]) (s.after o.dst w)):=fun i=>by
   obtain⟨w,D,E⟩:=RW i;obtain⟨s',a,c,e⟩:=Gz l _ _ K D.2;exact⟨s',j7 (Rt _ _ _) a,c,yO (fun r q=>by subst q;exact⟨D.1,e⟩) E⟩
  cases hg:o.guard with
  |none=>
   rw[hg] at y;obtain⟨s',a,c,e⟩:=A y;exact⟨s',a,c,C,by rw[hg];exact e⟩
  |some t=>
   obtain⟨j,z⟩:=t;rw[hg] at y;simp only at y;cases p:pt ops j with
   |none=>rw[p] at y;exact y.elim
   |some d=>
    rw[p] at y;obtain⟨u,g⟩:=y;have skip:kI P n ops K l (tr++[([],[])]) (s.put o.dst (.aZ []))->∃ s',s.H.length<=s'.H.length/\K s'/\kI P n ops (fun s2=>s2=s') l (tr++[([],[])]) (s.put o.dst (.aZ [])):=fun i=>Gz l _ _ K i
    have B:∃ s',s.H.length<=s'.H.length/\K s'/\p8 (s.get d) z (jx P o.op s (hold fun w=>(∀ x∈w.old,x.1<s.H.length)/\kI P n ops (fun s2=>s2=s') l (tr++[dt s w]) (s.after o.dst w))) (kI P n ops (fun s2=>s2=s') l (tr++[([],[])]) (s.put o.dst (.aZ []))):=by
     unfold p8 at g |-
     split at g
     .rename_i b v;by_cases f:b=z
      .obtain⟨s',a,c,e⟩:=A (g.1 f);exact⟨s',a,c,fun _=>e,fun k=>absurd f k⟩
      .obtain⟨s',a,c,e⟩:=skip (g.2 f);exact⟨s',a,c,fun k=>absurd k f,fun _=>e⟩
     .obtain⟨s',a,c,e⟩:=skip g;exact⟨s',a,c,e⟩
     .exact g.elim
    obtain⟨s',a,c,e⟩:=B;exact⟨s',a,c,C,by rw[hg];simp only;rw[p];exact⟨u,e⟩⟩
theorem wB {m:Nat}:∀ (c:Code) (Q:Exit->St->Prop) (s:St),m<=s.H.length->vc P m n c Q s->∃ e s',m<=s'.H.length/\Q e s'/\vc P m n c (fun a s2=>a=e/\s2=s') s
 | .skip,Q,s,L,h=>⟨_,s,L,h,rfl,rfl⟩
 | .label _,Q,s,L,h=>⟨_,s,L,h,rfl,rfl⟩
 | .region W l true,Q,s,L,h=>by
  obtain⟨s',w,a,z⟩:=Gz _ _ _ _ h;exact⟨.normal,s',j7 L w,a,zf _ _ _ _ _ (fun s d=>⟨rfl,d⟩) z⟩
 | .region W l false,Q,s,L,h=>by
  obtain⟨s',w,a,z⟩:=HX _ _ _ h;exact⟨.normal,s',j7 L w,a,Am _ _ _ _ (fun s d=>⟨rfl,d⟩) z⟩
 | .seq x y,Q,s,L,h=>by
  obtain⟨e,s1,T,O,f⟩:=wB x _ s L h;by_cases N:e= .normal
  .subst N;obtain⟨A,s',R,S,X⟩:=wB y Q s1 T O;refine⟨A,s',R,S,mT x _ _ s (fun a s2 d=>?_) f⟩;obtain⟨rfl,rfl⟩:=d;exact X
  .refine⟨e,s1,T,?_,mT x _ _ s (fun a s2 d=>?_) f⟩
   .cases e
    case normal=>exact absurd rfl N
    all_goals exact O
   .obtain⟨rfl,rfl⟩:=d;cases a
    case normal=>exact absurd rfl N
    all_goals exact⟨rfl,rfl⟩
 | .cond c x y,Q,s,L,h=>by
  simp only[vc,yT] at h |-
  split at h
  .rename_i b K;cases b with
   |true=>
    obtain⟨e,s',R,S,X⟩:=wB x Q s L (h.1 rfl);exact⟨e,s',R,S,fun _=>X,fun k=>by cases k⟩
   |false=>
    obtain⟨e,s',R,S,X⟩:=wB y Q s L (h.2 rfl);exact⟨e,s',R,S,fun k=>(by cases k),fun _=>X⟩
  .exact h.elim
 | .block W c,Q,s,L,h=>by
  obtain⟨e,s',T,O,f⟩:=wB c _ s L h;by_cases N:e= .exit W
  .subst N;simp only[rE,eJ] at O;refine⟨.normal,s',T,O,mT c _ _ s (fun a s2 d=>?_) f⟩;obtain⟨rfl,rfl⟩:=d;simp[rE]
  .refine⟨e,s',T,?_,mT c _ _ s (fun a s2 d=>?_) f⟩
   .cases e
    case exit i=>
     have :¬ i=W:=fun k=>N (by rw[k])
     simp only[rE,aq this] at O;exact O
    all_goals exact O
   .obtain⟨rfl,rfl⟩:=d;cases a
    case exit i=>
     have :¬ i=W:=fun k=>N (by rw[k])
     simp[rE,this]
    all_goals exact⟨rfl,rfl⟩
 | .loop c,Q,s,L,h=>by
  obtain⟨Z99,⟨k0,M,q,B⟩,F⟩:=h;have a6:∀ (k:Nat) (M:St),Z99 k M->m<=M.H.length->∃ e s',m<=s'.H.length/\Q e s'/\O7 m n (vc P m n c) (fun a s2=>a=e/\s2=s') M:=by
   intro k;induction k using Nat.strongRecOn with
   |_ k ih=>
    intro M hi r;obtain⟨e,s1,T,O,f⟩:=wB c _ M r (F k M hi r);by_cases N:e= .normal
    .subst N;obtain⟨G,s2,C,hw,D⟩:=O;obtain⟨A,s',R,S,I2,⟨Y,E,g,o⟩,p⟩:=ih G C s2 D (hw.len T);refine⟨A,s',R,S,fun j t=>I2 j t\/(j=Y+1/\t=M),⟨Y+1,M,bJ.refl _ _ _,.inr ⟨rfl,rfl⟩⟩,fun j t u v=>?_⟩;rcases u with u|⟨rfl,rfl⟩
     .refine mT c _ _ t (fun a t2 V=>?_) (p j t u v);cases a
      case normal=>
       obtain⟨j',t3,a1,a2,a3⟩:=V;exact⟨j',t3,a1,a2,.inl a3⟩
      all_goals exact V
     .refine mT c _ _ _ (fun a t2 V=>?_) f;obtain⟨rfl,rfl⟩:=V;exact⟨Y,E,Hh _,hw.trans g,.inl o⟩
    .refine⟨e,s1,T,?_,fun j t=>t=M,⟨0,M,bJ.refl _ _ _,rfl⟩,fun j t u v=>?_⟩
     .cases e
      case normal=>exact absurd rfl N
      all_goals exact O
     .subst u;refine mT c _ _ _ (fun a t2 V=>?_) f;obtain⟨rfl,rfl⟩:=V;cases a
      case normal=>exact absurd rfl N
      all_goals exact⟨rfl,rfl⟩
  obtain⟨e,s',R,S,I2,⟨Y,E,g,o⟩,p⟩:=a6 k0 M B (q.len L);exact⟨e,s',R,S,I2,⟨Y,E,q.trans g,o⟩,p⟩
 | .exit W,Q,s,L,h=>⟨_,s,L,h,rfl,rfl⟩
 | .ret,Q,s,L,h=>⟨_,s,L,h,rfl,rfl⟩
 | .scope _,_,_,_,h=>h.elim
 | .goto _,_,_,_,h=>h.elim
 | .rangeFunc _ _ _ _,_,_,_,h=>h.elim
 | .refuse _,_,_,_,h=>h.elim
end
section
variable {P:Program}{m n:Nat}
theorem xp {s:St}:∀ (c:List ResultVar) (K K':List V->Prop),(∀ l,K l->K' l)->jh P s c K->jh P s c K'
 |[],K,K',h,b=>h _ b
 | .tmp t::c,K,K',h,b=>xp c _ _ (fun l a=>h _ a) b
 | .cell x t::c,K,K',h,b=>by
  unfold jh mi at b |-
  split at b
  .exact⟨b.1,xp c _ _ (fun l a=>h _ a) b.2⟩
  .exact b.elim
theorem Ig {s:St}:∀ (b:List ResultVar) (K:List V->Prop),jh P s b K->∃ l,K l/\jh P s b (fun l2=>l2=l)
 |[],K,h=>⟨[],h,rfl⟩
 | .tmp t::b,K,h=>by
  obtain⟨l,c,d⟩:=Ig b _ h;exact⟨_,c,xp b _ _ (fun l2 e=>by rw[e]) d⟩
 | .cell x t::b,K,h=>by
  unfold jh mi at h;split at h
  .rename_i f a;obtain⟨l,c,d⟩:=Ig b _ h.2;refine⟨_,c,?_⟩;unfold jh mi;rw[a];exact⟨h.1,xp b _ _ (fun l2 e=>by rw[e]) d⟩
  .exact h.elim
theorem Qk {fn:Func}{R:V->St->Prop}{e:Exit}{s:St}(h:gV P fn R e s):∃ v,R v s/\gV P fn (fun b s2=>b=v/\s2=s) e s:=by
 have a:jh P s fn.results.toList (fun l=>R (jv l) s)->∃ v,R v s/\jh P s fn.results.toList (fun l=>jv l=v/\s=s):=fun h=>by
  obtain⟨l,c,d⟩:=Ig _ _ h;exact⟨_,c,xp _ _ _ (fun f e=>⟨by rw[e],rfl⟩) d⟩
 cases e
 case normal=>exact a h
 case ret=>exact a h
 all_goals exact h.elim
theorem Gm {fn:Func}{c:Code}{R:V->St->Prop}{s:St}(f:m<=s.H.length)(h:vc P m n c (gV P fn R) s):∃ v s',m<=s'.H.length/\R v s'/\vc P m n c (gV P fn (fun g s2=>g=v/\s2=s')) s:=by
 obtain⟨e,s',i,j,a⟩:=wB c _ s f h;obtain⟨v,k,l⟩:=Qk j;refine⟨v,s',i,k,mT c _ _ s (fun d s2 b=>?_) a⟩;obtain⟨rfl,rfl⟩:=b;exact l
theorem EJ {fn:Func}{R R':V->St->Prop}(h:∀ v s,R v s->R' v s){e:Exit}{s:St}(a:gV P fn R e s):gV P fn R' e s:=by
 cases e
 case normal=>exact xp _ _ _ (fun l b=>h _ _ b) a
 case ret=>exact xp _ _ _ (fun l b=>h _ _ b) a
 all_goals exact a.elim
theorem Fin.id {v:V}{s:St}(d:m<=s.H.length):Fin m v s.H v s:=⟨d,fun f w r g h _=>⟨f,g,h,fun _ _=>rfl,fun b B e c=>⟨b,B,e,c,rfl⟩⟩⟩
theorem nN (a:P.follows .mixedOrders=true){f:FuncId}{fn:Func}{c:Code}{args:List V}{Post:V->Prop}(hc:iu P f=true)(q:P.funcs[f]?=some fn)(d:fn.body=some c)(g:args.length<=fn.ntmps)(i:lows 0 args)(j:∀ v,Post v->v.low 0)
  (k:vc P 0 fn.ntmps c (gV P fn fun v _=>Post v) ⟨jX args 0,[]⟩):∃ v,bE P f args v/\Post v:=by
 obtain⟨v,r,t,p,l⟩:=Gm (lI _) k;exact⟨v,pK a hc q d g i (j v p) (mT c _ _ _ (fun e s o=>EJ (fun v s h=>h.1) o) l),p⟩
end
section
section
variable {m n:Nat}{s s':St}
def bx (sg:List Nat)(b:Nat):Nat:=sg.getD b 0
theorem DN {N:Nat}:∀ {l:List V} {i:Nat} {v:V},lows N l->l[i]?=some v->v.low N
 |[],_,_,_,h=>by simp at h
 |x::l,0,v,a,h=>by
  unfold lows at a;simp at h;subst h;exact a.1
 |x::l,i+1,v,a,h=>by
  unfold lows at a;exact DN a.2 (by simpa using h)
theorem b8 {H:aU}{b:Nat}{B:aa}(h:ah H b=some B):b<H.length:=by
 unfold ah at h;exact Nat.lt_of_not_le (fun a=>by rw[iW a] at h;simp at h)
theorem bJ.rename (D:Nat->Nat)(L:m<=s'.H.length)(k:∀ b,b<m->D b=b)(ht:∀ p∈s'.t,p.2.bd D=s.get p.1/\p.2.low s'.H.length)
  (d:∀ b B,ah s'.H b=some B->ah s.H (D b)=some ⟨B.ro,aW D B.cs,B.mp⟩/\lows s'.H.length B.cs)
  (j:∀ b g,b<s'.H.length->g<s'.H.length->b≠g->D b≠D g):∀ (ρ:Nat->Nat×Nat) (a:Act) (w:World),cn ρ n s a w->m<=s.H.length->∃ E,cn E n s' a w/\Step m ρ s w E s' w:=fun ρ a w f y=>by
 refine⟨fun b=>ρ (D b),⟨⟨f.tmps.size,f.tmps.defers,fun t=>?_⟩,?_⟩,L,fun b z=>by show ρ (D b)=ρ b;rw[k b z],?_⟩
 .have :∀ (l:List (Nat×V)),(∀ p∈l,p.2.bd D=s.get p.1/\p.2.low s'.H.length)->VR (fun b=>ρ (D b)) (· <s'.H.length) w (lookS l t) (a.tmps.getD t undef):=by
   intro l;induction l with
   |nil=>intro _;show VR _ _ _ .bH _;unfold VR;trivial
   |cons p l ih=>
    intro h;simp only[lookS];split
    .rename_i e;have F:=h p J;have G:=f.tmps.slot t;rw[<-e,<-F.1] at G;rw[<-e];exact G.nE F.2
    .exact ih fun q A=>h q (by simp[A])
  exact this s'.t ht
 .refine⟨fun b B h=>b8 h,fun b B h=>f.mem.lt _ _ (d b B h).1,fun b g B M h K c o=>?_,fun b B h i v x=>?_,fun b B h c i N=>?_,fun b B O h u=>Bk (f.mem.gY _ _ O (d b B h).1 u) (by show B.cs.length=(aW D B.cs).length;rw[nk,cq])⟩
  .exact f.mem.inj _ _ _ _ (d b B h).1 (d g M K).1 c (j b g (b8 h) (b8 K) o)
  .have F:(aW D B.cs)[i]?=some (v.bd D):=by rw[nk,dU,x];rfl
   obtain⟨r,P,Q⟩:=f.mem.cell _ _ (d b B h).1 i _ F;exact⟨r,P,Q.nE (DN (d b B h).2 x)⟩
  .exact f.mem.free _ _ (d b B h).1 c i (by show i<(aW D B.cs).length;rw[nk,cq];exact N)
 .exact(Frame.refl ρ (ah s.H) w).less fun b B C c=>⟨D b,_,(d b B C).1,c,rfl⟩
def iC (a:Nat->Nat)(N:Nat)(s:St):List (Nat×V)->Prop
 |[]=>True
 |p::l=>(p.2.bd a=s.get p.1/\p.2.low N)/\iC a N s l
def lu (a:Nat->Nat)(N:Nat)(s:St):aU->Nat->Prop
 |[],_=>True
 |none::l,i=>lu a N s l (i+1)
 |some B::l,i=>(ah s.H (a i)=some ⟨B.ro,aW a B.cs,B.mp⟩/\lows N B.cs)/\lu a N s l (i+1)
theorem Qa {b:Nat->Nat}{N:Nat}:∀ {l:List (Nat×V)},iC b N s l->∀ p∈l,p.2.bd b=s.get p.1/\p.2.low N
 |[],_,p,a=>by cases a
 |q::l,h,p,a=>by
  rcases gz.1 a with e|a
  .subst e;exact h.1
  .exact Qa h.2 p a
theorem CL {c:Nat->Nat}{N:Nat}:∀ {l:aU} {i:Nat},lu c N s l i->∀ b B,ah l b=some B->ah s.H (c (i+b))=some ⟨B.ro,aW c B.cs,B.mp⟩/\lows N B.cs
 |[],_,_,b,B,h=>by simp[ah] at h
 |none::l,i,a,b,B,h=>by
  cases b with
  |zero=>simp[ah] at h
  |succ b=>have :=CL (l:=l) a b B (by simpa [ah] using h);rw[show i+(b+1)=i+1+b by omega];exact this
 |some C::l,i,a,b,B,h=>by
  cases b with
  |zero=>simp[ah] at h;subst h;exact a.1
  |succ b=>have :=CL (l:=l) a.2 b B (by simpa [ah] using h);rw[show i+(b+1)=i+1+b by omega];exact this
theorem bJ.bd (sg:List Nat)(k:sg.length=s'.H.length)(p:m<=sg.length)(g:sg.take m=List.range m)(c:sg.Nodup)
  (ht:iC (bx sg) s'.H.length s s'.t) (i:lu (bx sg) s'.H.length s s'.H 0):bJ m n s s':=
 ⟨fun _=>by omega,bJ.rename (bx sg) I (fun b d=>by
   unfold bx;have o:(sg.take m)[b]?=some b:=by rw[g,tS d]
   rw[xX d] at o;rw[bY,o];rfl)
  (Qa ht) (fun b B h=>by have :=CL i b B h;rw[eX] at this;exact this)
  (fun b l d j f e=>by
   unfold bx at e;rw[bY,bY,bn I,bn I] at e;exact f ((GR c).1 (by simpa using e)))⟩
theorem lc {Z99:Nat->St->Prop}{k:Nat}(b:Nat)(a:St)(sg:List Nat)(d:b<k)(e:sg.length=a.H.length)(h:m<=sg.length)(f:sg.take m=List.range m)(c:sg.Nodup)
  (ht:iC (bx sg) a.H.length s a.t) (g:lu (bx sg) a.H.length s a.H 0) (hi:Z99 b a):nV m n Z99 k s:=⟨b,a,d,bJ.bd sg e h f c ht g,hi⟩
theorem QO {Z99:Nat->St->Prop}(k:Nat)(s0:St)(sg:List Nat)(b:sg.length=s0.H.length)(e:m<=sg.length)(c:sg.take m=List.range m)(a:sg.Nodup)
  (ht:iC (bx sg) s0.H.length s s0.t) (d:lu (bx sg) s0.H.length s s0.H 0) (hi:Z99 k s0):∃ k s0,bJ m n s s0/\Z99 k s0:=⟨k,s0,bJ.bd sg b e c a ht d,hi⟩
end
end
section
def aa.bd (a:Nat->Nat)(B:aa):aa:=⟨B.ro,aW a B.cs,B.mp⟩
def ik (a:Nat->Nat)(x:Option aa):Option aa:=x.map (aa.bd a)
def gn (a:Nat->Nat):List Nat->aU->List (Nat×Option aa)
 |i::sg,x::h=>(i,ik a x)::gn a sg h
 |_,_=>[]
def iQ (a:Nat->Nat):List Nat->aU->aU
 |[],h=>h.map (ik a)
 |_::sg,_::h=>iQ a sg h
 |_::_,[]=>[]
theorem vA (a:Nat->Nat):∀ (sg:List Nat) (h:aU),iQ a sg h=(h.drop sg.length).map (ik a)
 |[],h=>rfl
 |_::sg,x::h=>by rw[iQ,vA a sg h];rfl
 |_::_,[]=>rfl
theorem zP {c:Nat->Nat}{b:Nat}{d:Option aa}:∀ {sg:List Nat} {h:aU},b∉sg->lz (gn c sg h) b d=d
 |[],_,_=>by unfold gn;rfl
 |_::_,[],_=>by unfold gn;rfl
 |i::sg,x::h,a=>by
  unfold gn lz;rw[aq (fun e=>a (by simp[e]))];exact zP (fun h'=>a (mr _ h'))
theorem BB {m:Nat->Nat}{d:Option aa}:∀ {sg:List Nat} {h:aU} {i b:Nat},sg.Nodup->sg[i]?=some b->i<h.length->lz (gn m sg h) b d=ik m (h[i]?).join
 |[],_,_,_,_,l,_=>by simp at l
 |_::_,[],_,_,_,_,g=>by simp at g
 |j::sg,x::h,0,b,a,l,g=>by
  simp at l;subst l;unfold gn lz;rw[aM rfl];simp
 |j::sg,x::h,i+1,b,a,l,g=>by
  have c:sg[i]?=some b:=by simpa using l
  have k:b≠j:=fun e=>by
   subst e;exact(yW.1 a).1 (lm c)
  unfold gn lz;rw[aq k,BB (yW.1 a).2 c (by simpa using g)];simp
section
variable {P:Program}{f:FuncId}{args:List V}{h h':aU}{v:V}{sg:List Nat}{get0:Nat->Option aa}{nid:Nat}
theorem rj {b:Nat}(a:b<sg.length):sg[b]?=some (bx sg b):=by
 unfold bx;rw[bY,bn a];rfl
theorem AP {l:List Nat}{b:Nat}(a:b<sg.length):bx (sg++l) b=bx sg b:=by
 unfold bx;rw[bY,bY,kY a]
theorem z8 {k b:Nat}(a:sg.length<=b)(c:b<sg.length+k):bx (sg++List.range' nid k) b=nid+(b-sg.length):=by
 unfold bx;rw[bY,iy a,List.getElem?_range' I];simp
theorem D0 {H:aU}{b:Nat}{B:aa}(e:ah H b=some B):H[b]?=some (some B):=by
 have a:=b8 e;unfold ah at e;rw[bn a] at e |-
 simp at e;rw[e]
def cu (sg:List Nat)(nid:Nat)(h':aU):List Nat:=sg++List.range' nid (h'.length-sg.length)
theorem G5 (hs:bp P f args h v h')(b0:sg.length=h.length)(Y:lows h.length args)(a6:sg.Nodup)(a7:∀ b∈sg,b<nid)
  (O:∀ b B,ah h b=some B->get0 (bx sg b)=some ⟨B.ro,aW (bx sg) B.cs,B.mp⟩/\lows h.length B.cs)
  (a8:∀ b B,ah h' b=some B->(h.length<=b\/ah h b=none)->B.ro=false) (e3:h.length<=h'.length):
  Spec P f (aW (bx sg) args) get0 nid {v:=v.bd (bx (cu sg nid h')),pre:=True,fp:=sg,old:=gn (bx (cu sg nid h')) sg h',news:=iQ (bx (cu sg nid h')) sg h'}:=by
 intro ρ e1 e0 w S hm hr b2 Q;have b3:(iQ (bx (cu sg nid h')) sg h').length=h'.length-h.length:=by rw[vA,cq,dO,b0]
 simp only[b3] at Q |-
 have l:∀ b B,ah h b=some B->e0 (bx sg b)=some ⟨B.ro,aW (bx sg) B.cs,B.mp⟩:=fun b B e=>by
  rw[(b2 _ (lm (rj (by rw[b0];exact b8 e)))).1];exact(O b B e).1
 have b4:∀ b A,b<h.length->A<h.length->b≠A->bx sg b≠bx sg A:=fun b A k T D e=>by
  have d:=rj (sg:=sg) (b:=b) I;have t:=rj (sg:=sg) (b:=A) I;rw[e] at d;rw[bn I] at d t;exact D ((GR a6).1 (by rw[nc d,nc t]))
 have c5:bS (fun b=>ρ (bx sg b)) (· <h.length) (ah h) w:=by
  refine⟨fun b B e=>b8 e,fun b B e=>hm.lt _ _ (l b B e),fun b A B B' e e' m D=>hm.inj _ _ _ _ (l b B e) (l A B' e') m (b4 b A (b8 e) (b8 e') D),fun b B e i v hv=>?_,fun b B e m i hi=>?_,fun b B mm e M=>Bk (hm.gY _ _ mm (l b B e) M) (by show B.cs.length=(aW (bx sg) B.cs).length;rw[nk,cq])⟩
  .have h1:(aW (bx sg) B.cs)[i]?=some (v.bd (bx sg)):=by rw[nk,dU,hv];rfl
   obtain⟨r,g1,g2⟩:=hm.cell _ _ (l b B e) i _ h1;exact⟨r,g1,g2.nE (DN (O b B e).2 hv)⟩
  .exact hm.free _ _ (l b B e) m i (by show i<(aW (bx sg) B.cs).length;rw[nk,cq];exact hi)
 refine(hs _ w S (hr.nE Y) c5).mono ?_;rintro e w' ⟨r,e2,rfl,k1,k2,k3,k4,E⟩;have b5:∀ b,nid<=b->b<nid+(h'.length-h.length)->¬ e1 b:=Q;have b6:∀ b,b<h.length->e1 (bx sg b):=fun b k=>by
  have R:=lm (rj (sg:=sg) (b:=b) (by rw[b0];exact k));exact(b2 _ R).2 (a7 _ R)
 have c0:∀ b,b<h.length->bx sg b<nid:=fun b k=>a7 _ (lm (rj I))
 let ρ1:Nat->Nat×Nat:=fun b=>if nid<=b/\b<nid+(h'.length-h.length) then e2 (h.length+(b-nid)) else ρ b
 have n:∀ b,b<h'.length->ρ1 (bx (cu sg nid h') b)=e2 b:=fun b k=>by
  by_cases N:b<h.length
  .rw[cu,AP I];show(if _ then _ else _)=_;rw[aq (by have :=c0 b N;omega),k4 b N]
  .rw[cu,z8 I I];show(if _ then _ else _)=_;rw[aM I];congr 1;omega
 have W:∀ b,b<h'.length->gr e1 nid (h'.length-h.length) (bx (cu sg nid h') b):=fun b k=>by
  by_cases N:b<h.length
  .rw[cu,AP I];exact .inl (b6 b N)
  .rw[cu,z8 I I];exact .inr ⟨I,I⟩
 have g:∀ b B,eu e0 (gn (bx (cu sg nid h')) sg h') nid (iQ (bx (cu sg nid h')) sg h') b=some B->
   (∃ c C,ah h' c=some C/\B=C.bd (bx (cu sg nid h'))/\b=bx (cu sg nid h') c/\c<h'.length)\/(e0 b=some B/\b∉sg/\¬ (nid<=b/\b<nid+(h'.length-h.length))):=fun b B e=>by
  unfold eu at e;rw[b3] at e;by_cases k:nid<=b/\b<nid+(h'.length-h.length)
  .rw[aM k,vA,dU,mA,b0] at e;left;have hl:h.length+(b-nid)<h'.length:=I;rw[bn hl] at e;simp only[ou,Option.join_some] at e;obtain⟨C,d,t⟩:∃ C,h'[h.length+(b-nid)]=some C/\B=C.bd (bx (cu sg nid h')):=by
    unfold ik at e;cases q:h'[h.length+(b-nid)] with
    |none=>rw[q] at e;simp at e
    |some C=>rw[q] at e;simp at e;exact⟨C,rfl,e.symm⟩
   refine⟨h.length+(b-nid),C,?_,t,?_,hl⟩
   .unfold ah;rw[bn hl,d];rfl
   .rw[cu,z8 I I];omega
  .rw[aq k] at e;by_cases X:b∈sg
   .obtain⟨i,hi,c6⟩:=Cj.1 X;left;have c1:sg[i]?=some b:=by rw[bn hi,c6]
    rw[BB a6 c1 I] at e;have c7:bx sg i=b:=by have :=rj (sg:=sg) hi;rw[c1] at this;exact(nc this).symm
    obtain⟨C,d,t⟩:∃ C,ah h' i=some C/\B=C.bd (bx (cu sg nid h')):=by
     unfold ik at e;cases q:(h'[i]?).join with
     |none=>rw[q] at e;simp at e
     |some C=>rw[q] at e;simp at e;exact⟨C,q,e.symm⟩
    exact⟨i,C,d,t,by rw[cu,AP hi,c7],I⟩
   .rw[zP X] at e;exact .inr ⟨e,X,k⟩
 have x:∀ b B,e0 b=some B->b∉sg->∀ y B0,ah h y=some B0->B0.ro=false->(ρ (bx sg y)).1≠(ρ b).1:=fun b B e k y B0 G o=>by
  refine hm.inj _ _ _ _ (l y B0 G) e o (fun d=>k ?_);rw[<-d];exact lm (rj (by rw[b0];exact b8 G))
 have c9:∀ b B,e0 b=some B->b∉sg->w'.heap[(ρ b).1]?=w.heap[(ρ b).1]?:=fun b B e k=>E.de _ (hm.lt b B e) fun y B0 G o=>x b B e k y B0 G o
 have j:∀ b,¬ (nid<=b/\b<nid+(h'.length-h.length))->ρ1 b=ρ b:=fun b k=>aq k
 have H:∀ b,e1 b->ρ1 b=ρ b:=fun b k=>j b fun h=>b5 b h.1 h.2 k
 refine⟨r,ρ1,rfl,H,?_,k1.sO W n,?_⟩
 .refine⟨fun b B e=>?_,fun b B e=>?_,fun b A B B' e e' m D=>?_,fun b B e i v hv=>?_,fun b B e m i hi=>?_,fun b B mm e M=>?_⟩
  .rcases g b B e with⟨c,C,d,rfl,rfl,hc⟩|⟨d,_,_⟩
   .exact W c hc
   .exact .inl (hm.has _ _ d)
  .rcases g b B e with⟨c,C,d,rfl,rfl,hc⟩|⟨d,_,k⟩
   .rw[n c hc];exact k2.lt _ _ d
   .rw[j b k];exact pI (hm.lt _ _ d) E.size
  .rcases g b B e with⟨c,C,d,rfl,rfl,hc⟩|⟨d,p,k⟩<;>rcases g A B' e' with⟨L,C',s,rfl,rfl,c2⟩|⟨s,c3,T⟩
   .rw[n c hc,n L c2];exact k2.inj _ _ _ _ d s m (fun t=>D (by rw[t]))
   .rw[n c hc,j A T];rcases E.own c C d m with⟨y,B0,G,o,q⟩|q
    .rw[<-q];exact x A B' s c3 y B0 G o
    .have :=hm.lt _ _ s;omega
   .rw[j b k,n L c2];by_cases c8:L<h.length
    .cases c4:ah h L with
     |some B0=>
      rw[k4 L c8];refine hm.inj _ _ _ _ d (l L B0 c4) m (fun t=>p ?_);rw[t];exact lm (rj I)
     |none=>
      have K:=a8 L C' s (.inr c4);rcases E.own L C' s K with⟨y,B0,G,o,q⟩|q
      .rw[<-q];exact fun t=>x b B d p y B0 G o t.symm
      .have :=hm.lt _ _ d;omega
    .have K:=a8 L C' s (.inl I);rcases E.own L C' s K with⟨y,B0,G,o,q⟩|q
     .rw[<-q];exact fun t=>x b B d p y B0 G o t.symm
     .have :=hm.lt _ _ d;omega
   .rw[j b k,j A T];exact hm.inj _ _ _ _ d s m D
  .rcases g b B e with⟨c,C,d,rfl,rfl,hc⟩|⟨d,p,k⟩
   .rw[n c hc];have h2:∃ u,C.cs[i]?=some u/\v=u.bd (bx (cu sg nid h')):=by
     have F:(aW (bx (cu sg nid h')) C.cs)[i]?=some v:=hv;rw[nk,dU] at F;cases hu:C.cs[i]? with
     |none=>rw[hu] at F;simp at F
     |some u=>rw[hu] at F;simp at F;exact⟨u,rfl,F.symm⟩
    obtain⟨u,hu,rfl⟩:=h2;obtain⟨r,g1,g2⟩:=k2.cell _ _ d i u hu;exact⟨r,g1,g2.sO W n⟩
   .rw[j b k];obtain⟨r,g1,g2⟩:=hm.cell _ _ d i v hv;refine⟨r,?_,g2.mono H (fun b k=> .inl k) E.kL⟩;rw[x9 (w:=w) (a:=⟨(ρ b).1,(ρ b).2+i,none⟩) (c9 b B d p)];exact g1
  .rcases g b B e with⟨c,C,d,rfl,rfl,hc⟩|⟨d,p,k⟩
   .rw[n c hc];exact k2.free _ _ d m i (by have h3:i<(aW (bx (cu sg nid h')) C.cs).length:=hi;rw[nk,cq] at h3;exact h3)
   .rw[j b k,yA (w:=w) (a:=⟨(ρ b).1,(ρ b).2+i,none⟩) (c9 b B d p)];exact hm.free _ _ d m i hi
  .rcases g b B e with⟨c,C,d,rfl,rfl,hc⟩|⟨d,p,k⟩
   .rw[n c hc];exact Bk (k2.gY _ _ mm d M) (by show(aW (bx (cu sg nid h')) C.cs).length=C.cs.length;rw[nk,cq])
   .rw[j b k];exact tj (hm.gY _ _ mm d M) (c9 b B d p)
 .refine⟨E.os,E.output,E.tape,E.size,fun r hr k=>E.de r hr fun b B e z=>?_,E.kL,fun b B e z=>?_⟩
  .exact k _ _ (l b B e) z
  .rcases g b B e with⟨c,C,d,rfl,rfl,hc⟩|⟨d,p,k⟩
   .rw[n c hc];rcases E.own c C d z with⟨y,B0,G,o,q⟩|q
    .exact .inl ⟨_,_,l y B0 G,o,q⟩
    .exact .inr q
   .exact .inl ⟨b,B,d,z,by rw[j b k]⟩
theorem TQ (k:bp P f args h v h')(n:sg.length=h.length)(a:lows h.length args)(i:sg.Nodup)(j:∀ b∈sg,b<nid)
  (c:∀ b,b<h.length->∃ B,ah h b=some B)
  (d:∀ b B,ah h b=some B->get0 (bx sg b)=some ⟨B.ro,aW (bx sg) B.cs,B.mp⟩/\lows h.length B.cs)
  (g:∀ b B,ah h' b=some B->h.length<=b->B.ro=false) (o:h.length<=h'.length):
  Spec P f (aW (bx sg) args) get0 nid {v:=v.bd (bx (cu sg nid h')),pre:=True,fp:=sg,old:=gn (bx (cu sg nid h')) sg h',news:=iQ (bx (cu sg nid h')) sg h'}:=
 G5 k n a i j d (fun b B e h1=>by
  rcases h1 with h1|h1
  .exact g b B e h1
  .by_cases l:b<h.length
   .obtain⟨C,m⟩:=c b l;rw[m] at h1;cases h1
   .exact g b B e I) o
end
end
end Go.Vm
end
section
namespace Go.Vm
inductive Fr where
 |code (c:Code)
 |dc (id:Nat)
section
variable (P:Program)(m n:Nat)(R:Exit->St->Prop)
def kQ:List Fr->Exit->St->Prop
 |[]=>R
 | .code c::k=>oA (vc P m n c (kQ k)) (kQ k)
 | .dc a::k=>rE a (kQ k)
def go (c:Code)(k:List Fr)(s:St):Prop:=vc P m n c (kQ P m n R k) s
def gone (k:List Fr)(e:Exit)(s:St):Prop:=kQ P m n R k e s
def kC (l:List Oper)(ops:Array Oper)(k:List Fr)(s:St):Prop:=gj P n ops l s (kQ P m n R k .normal)
def ir (o:Op)(dst:Option Tmp)(l:List Oper)(ops:Array Oper)(k:List Fr)(s:St):Prop:=jx P o s (hold fun a=>gj P n ops l (s.after dst a) (kQ P m n R k .normal))
def jT (r:Option bu)(dst:Option Tmp)(l:List Oper)(ops:Array Oper)(k:List Fr)(s:St):Prop:=mi r (hold fun a=>gj P n ops l (s.after dst a) (kQ P m n R k .normal))
def s8 (f:V)(args:List V)(dst:Option Tmp)(l:List Oper)(ops:Array Oper)(k:List Fr)(s:St):Prop:=nO P f args s.H (hold fun a=>gj P n ops l (s.after dst a) (kQ P m n R k .normal))
def Cg (v:V)(a:Bool)(o:Op)(dst:Option Tmp)(l:List Oper)(ops:Array Oper)(k:List Fr)(s:St):Prop:=
 p8 v a (jx P o s (hold fun b=>gj P n ops l (s.after dst b) (kQ P m n R k .normal))) (gj P n ops l (s.put dst (.aZ [])) (kQ P m n R k .normal))
def Cw (g:Option (Nat×Bool))(o:Op)(dst:Option Tmp)(l:List Oper)(ops:Array Oper)(k:List Fr)(s:St):Prop:=match g with
 |none=>ir P m n R o dst l ops k s
 |some (j,a)=>match pt ops j with
  |some d=>d<n/\Cg P m n R (s.get d) a o dst l ops k s
  |none=>False
abbrev Tr:=List (List Nat×List Nat)
def ml (l:List Oper)(tr:Tr)(ops:Array Oper)(k:List Fr)(s:St):Prop:=kI P n ops (kQ P m n R k .normal) l tr s
def kD (dst:Option Tmp)(l:List Oper)(tr:Tr)(ops:Array Oper)(k:List Fr)(s:St):bu->Prop:=hold fun a=>(∀ x∈a.old,x.1<s.H.length)/\kI P n ops (kQ P m n R k .normal) l (tr++[dt s a]) (s.after dst a)
def iw (o:Op)(dst:Option Tmp)(l:List Oper)(tr:Tr)(ops:Array Oper)(k:List Fr)(s:St):Prop:=jx P o s (kD P m n R dst l tr ops k s)
def kv (r:Option bu)(dst:Option Tmp)(l:List Oper)(tr:Tr)(ops:Array Oper)(k:List Fr)(s:St):Prop:=mi r (kD P m n R dst l tr ops k s)
def qo (f:V)(args:List V)(dst:Option Tmp)(l:List Oper)(tr:Tr)(ops:Array Oper)(k:List Fr)(s:St):Prop:=nO P f args s.H (kD P m n R dst l tr ops k s)
def A2 (v:V)(a:Bool)(o:Op)(dst:Option Tmp)(l:List Oper)(tr:Tr)(ops:Array Oper)(k:List Fr)(s:St):Prop:=
 p8 v a (jx P o s (kD P m n R dst l tr ops k s)) (kI P n ops (kQ P m n R k .normal) l (tr++[([],[])]) (s.put dst (.aZ [])))
def C4 (g:Option (Nat×Bool))(o:Op)(dst:Option Tmp)(l:List Oper)(tr:Tr)(ops:Array Oper)(k:List Fr)(s:St):Prop:=match g with
 |none=>iw P m n R o dst l tr ops k s
 |some (j,a)=>match pt ops j with
  |some d=>d<n/\A2 P m n R (s.get d) a o dst l tr ops k s
  |none=>False
def JZ (v:V)(x y:Code)(k:List Fr)(s:St):Prop:=yT v (go P m n R x k s) (go P m n R y k s)
end
section
variable {P:Program}{m n:Nat}{R:Exit->St->Prop}{k:List Fr}{s:St}{l:List Oper}{ops:Array Oper}{dst:Option Tmp}
theorem ce {c:Code}(h:go P m n R c [] s):vc P m n c R s:=h
theorem ahn:go P m n R .skip k s=gone P m n R k .normal s:=rfl
theorem ah5 (x y:Code):go P m n R (.seq x y) k s=go P m n R x (.code y::k) s:=rfl
theorem UT (id:Nat):go P m n R (.region id ops false) k s=kC P m n R ops.toList ops k s:=rfl
theorem ajm (c:Operand)(x y:Code):go P m n R (.cond c x y) k s=JZ P m n R (s.ev c) x y k s:=rfl
theorem adr (id:Nat)(c:Code):go P m n R (.block id c) k s=go P m n R c (.dc id::k) s:=rfl
theorem T9 (id:Nat):go P m n R (.exit id) k s=gone P m n R k (.exit id) s:=rfl
theorem go_ret:go P m n R .ret k s=gone P m n R k .ret s:=rfl
theorem ahc (e:Exit):gone P m n R [] e s=R e s:=rfl
theorem akc (c:Code):gone P m n R (.code c::k) .normal s=go P m n R c k s:=rfl
theorem aa8 (c:Code)(id:Nat):gone P m n R (.code c::k) (.exit id) s=gone P m n R k (.exit id) s:=rfl
theorem akg (c:Code):gone P m n R (.code c::k) .ret s=gone P m n R k .ret s:=rfl
theorem ag7 (id:Nat):gone P m n R (.dc id::k) .normal s=gone P m n R k .normal s:=rfl
theorem acv (id:Nat):gone P m n R (.dc id::k) .ret s=gone P m n R k .ret s:=rfl
theorem afP (id i:Nat):gone P m n R (.dc id::k) (.exit i) s=if i=id then gone P m n R k .normal s else gone P m n R k (.exit i) s:=rfl
theorem agz:kC P m n R [] ops k s=gone P m n R k .normal s:=rfl
theorem aed (o:Op)(t:TypeId)(pos:String)(a:Array Edge)(g:Option (Nat×Bool)):kC P m n R (⟨dst,o,t,pos,a,g⟩::l) ops k s=(kh n dst/\Cw P m n R g o dst l ops k s):=by
 unfold kC Cw;rw[gj];cases g<;>rfl
theorem acg (o:Op):Cw P m n R none o dst l ops k s=ir P m n R o dst l ops k s:=rfl
theorem ads (j:Nat)(a:Bool)(o:Op)(d:Nat)(h:pt ops j=some d):Cw P m n R (some (j,a)) o dst l ops k s=(d<n/\Cg P m n R (s.get d) a o dst l ops k s):=by
 unfold Cw;simp only[h]
theorem agE (b a:Bool)(o:Op):Cg P m n R (.bool b) a o dst l ops k s=if b=a then ir P m n R o dst l ops k s else kC P m n R l ops k (s.put dst (.aZ [])):=by
 unfold Cg p8;simp only;by_cases h:b=a
 .rw[aM h];exact propext ⟨fun x=>x.1 h,fun x=>⟨fun _=>x,fun y=>absurd h y⟩⟩
 .rw[aq h];exact propext ⟨fun x=>x.2 h,fun x=>⟨fun y=>absurd y h,fun _=>x⟩⟩
theorem afQ (a:Bool)(o:Op):Cg P m n R (.aZ []) a o dst l ops k s=kC P m n R l ops k (s.put dst (.aZ [])):=rfl
theorem agS (b:Bool)(x y:Code):JZ P m n R (.bool b) x y k s=if b=true then go P m n R x k s else go P m n R y k s:=by
 unfold JZ yT;simp only;cases b
 .exact propext ⟨fun x=>x.2 rfl,fun x=>⟨fun y=>absurd y J,fun _=>x⟩⟩
 .exact propext ⟨fun x=>x.1 rfl,fun x=>⟨fun _=>x,fun y=>absurd y J⟩⟩
theorem Vq (r:bu):jT P m n R (some r) dst l ops k s=(r.pre/\kC P m n R l ops k (s.after dst r)):=rfl
theorem Yf:jT P m n R none dst l ops k s=False:=rfl
theorem Lq (x:Operand):ir P m n R (.move x) dst l ops k s=kC P m n R l ops k (s.put dst (s.ev x)):=by
 unfold ir jx mi;simp only[dK,qV];show gj _ _ _ _ (s.after _ _) _=_;unfold kC;congr 1;unfold St.after St.put fX;simp
theorem afX (x:Operand):ir P m n R (.assign x) dst l ops k s=kC P m n R l ops k (s.put dst (s.ev x)):=Lq x
theorem U4 (op:BinOp)(t:TypeId)(x y:Operand)(u:TypeId):ir P m n R (.binOp op t x y u) dst l ops k s=jT P m n R (wj P op t (s.ev x) (s.ev y) (ah s.H)) dst l ops k s:=rfl
theorem ag9 (op:UnOp)(t:TypeId)(x:Operand):ir P m n R (.unOp op t x) dst l ops k s=jT P m n R (xN op (s.ev x)) dst l ops k s:=rfl
theorem aeu (c x y:Operand):ir P m n R (.pick c x y) dst l ops k s=jT P m n R (dK P (.pick c x y) s.ev (ah s.H) s.H.length) dst l ops k s:=rfl
theorem Vu (e:TypeId):ir P m n R (.alloc e) dst l ops k s=jT P m n R (dK P (.alloc e) s.ev (ah s.H) s.H.length) dst l ops k s:=rfl
theorem afO (e:TypeId)(x:Operand):ir P m n R (.box e x) dst l ops k s=jT P m n R (dK P (.box e x) s.ev (ah s.H) s.H.length) dst l ops k s:=rfl
theorem XV (t:TypeId)(p:Array (Nat×Operand)):ir P m n R (.build t p) dst l ops k s=jT P m n R (dK P (.build t p) s.ev (ah s.H) s.H.length) dst l ops k s:=rfl
theorem Ue (t:TypeId)(i:Nat)(p:Array (Nat×Operand)):ir P m n R (.buildSlice t i p) dst l ops k s=jT P m n R (dK P (.buildSlice t i p) s.ev (ah s.H) s.H.length) dst l ops k s:=rfl
theorem ahe (t:TypeId)(x:Operand):ir P m n R (.load t x) dst l ops k s=jT P m n R (dK P (.load t x) s.ev (ah s.H) s.H.length) dst l ops k s:=rfl
theorem Xg (t:TypeId)(x y:Operand):ir P m n R (.store t x y) dst l ops k s=jT P m n R (dK P (.store t x y) s.ev (ah s.H) s.H.length) dst l ops k s:=rfl
theorem acf (x:Operand):ir P m n R (.nilCheck x) dst l ops k s=jT P m n R (dK P (.nilCheck x) s.ev (ah s.H) s.H.length) dst l ops k s:=rfl
theorem Vx (a b:TypeId)(x:Operand):ir P m n R (.convert a b x) dst l ops k s=jT P m n R (yU P a b (s.ev x) (ah s.H) s.H.length) dst l ops k s:=rfl
theorem abm (t:TypeId)(x:Operand):ir P m n R (.sliceToArrayPointer t x) dst l ops k s=jT P m n R (dK P (.sliceToArrayPointer t x) s.ev (ah s.H) s.H.length) dst l ops k s:=rfl
theorem abe (f:Fn)(a c:Array Operand):ir P m n R (.makeFunc f a c) dst l ops k s=jT P m n R (dK P (.makeFunc f a c) s.ev (ah s.H) s.H.length) dst l ops k s:=rfl
theorem WH (t:TypeId)(x y:Operand):ir P m n R (.makeSlice t x y) dst l ops k s=jT P m n R (dK P (.makeSlice t x y) s.ev (ah s.H) s.H.length) dst l ops k s:=rfl
theorem ajA (t:TypeId)(x:Operand)(a b c:Option Operand):ir P m n R (.slice t x a b c) dst l ops k s=jT P m n R (dK P (.slice t x a b c) s.ev (ah s.H) s.H.length) dst l ops k s:=rfl
theorem agH (t:TypeId)(x:Operand)(f:Nat):ir P m n R (.fieldAddr t x f) dst l ops k s=jT P m n R (dK P (.fieldAddr t x f) s.ev (ah s.H) s.H.length) dst l ops k s:=rfl
theorem ad5 (t:TypeId)(x y:Operand):ir P m n R (.indexAddr t x y) dst l ops k s=jT P m n R (dK P (.indexAddr t x y) s.ev (ah s.H) s.H.length) dst l ops k s:=rfl
theorem ah1 (t:TypeId)(x y:Operand):ir P m n R (.index t x y) dst l ops k s=jT P m n R (dK P (.index t x y) s.ev (ah s.H) s.H.length) dst l ops k s:=rfl
theorem XA (x:Operand)(i:Nat):ir P m n R (.extract x i) dst l ops k s=jT P m n R (dK P (.extract x i) s.ev (ah s.H) s.H.length) dst l ops k s:=rfl
theorem aea (b:Builtin)(args:Array Operand)(a:Array TypeId):ir P m n R (.call ⟨.builtin b,args,a⟩) dst l ops k s=jT P m n R (vt P b a.toList (args.toList.map s.ev) (ah s.H) s.H.length) dst l ops k s:=rfl
theorem YP (f:Operand)(args:Array Operand)(a:Array TypeId):ir P m n R (.call ⟨.value f,args,a⟩) dst l ops k s=s8 P m n R (s.ev f) (args.toList.map s.ev) dst l ops k s:=rfl
theorem aiR (t:TypeId)(x:Operand):ir P m n R (.makeInterface t x) dst l ops k s=jT P m n R (dK P (.makeInterface t x) s.ev (ah s.H) s.H.length) dst l ops k s:=rfl
def ZC (P:Program)(m n:Nat)(R:Exit->St->Prop)(v:V)(a:String)(args:List V)(dst:Option Tmp)(l:List Oper)(ops:Array Oper)(k:List Fr)(s:St):Prop:=yj P v a args s.H (hold fun b=>gj P n ops l (s.after dst b) (kQ P m n R k .normal))
theorem Wl (x:Operand)(b:String)(args:Array Operand)(a:Array TypeId):ir P m n R (.call ⟨.invoke x b,args,a⟩) dst l ops k s=ZC P m n R (s.ev x) b (args.toList.map s.ev) dst l ops k s:=rfl
theorem Yv (id:Nat):go P m n R (.region id ops true) k s=ml P m n R ops.toList [] ops k s:=rfl
theorem XZ {tr:Tr}:ml P m n R [] tr ops k s=(mS ops tr=true/\gone P m n R k .normal s):=rfl
theorem aaL {tr:Tr}(o:Op)(t:TypeId)(pos:String)(a:Array Edge)(g:Option (Nat×Bool)):ml P m n R (⟨dst,o,t,pos,a,g⟩::l) tr ops k s=(kh n dst/\C4 P m n R g o dst l tr ops k s):=by
 unfold ml C4;rw[kI];cases g<;>rfl
theorem aba {tr:Tr}(o:Op):C4 P m n R none o dst l tr ops k s=iw P m n R o dst l tr ops k s:=rfl
theorem ab5 {tr:Tr}(j:Nat)(a:Bool)(o:Op)(d:Nat)(h:pt ops j=some d):C4 P m n R (some (j,a)) o dst l tr ops k s=(d<n/\A2 P m n R (s.get d) a o dst l tr ops k s):=by
 unfold C4;simp only[h]
theorem aiQ {tr:Tr}(b a:Bool)(o:Op):A2 P m n R (.bool b) a o dst l tr ops k s=if b=a then iw P m n R o dst l tr ops k s else ml P m n R l (tr++[([],[])]) ops k (s.put dst (.aZ [])):=by
 unfold A2 p8;simp only;by_cases h:b=a
 .rw[aM h];exact propext ⟨fun x=>x.1 h,fun x=>⟨fun _=>x,fun y=>absurd h y⟩⟩
 .rw[aq h];exact propext ⟨fun x=>x.2 h,fun x=>⟨fun y=>absurd y h,fun _=>x⟩⟩
theorem afm {tr:Tr}(a:Bool)(o:Op):A2 P m n R (.aZ []) a o dst l tr ops k s=ml P m n R l (tr++[([],[])]) ops k (s.put dst (.aZ [])):=rfl
theorem abR {tr:Tr}(r:bu):kv P m n R (some r) dst l tr ops k s=(r.pre/\(∀ x∈r.old,x.1<s.H.length)/\ml P m n R l (tr++[dt s r]) ops k (s.after dst r)):=rfl
theorem ag1 {tr:Tr}:kv P m n R none dst l tr ops k s=False:=rfl
theorem Mq {tr:Tr}(x:Operand):iw P m n R (.move x) dst l tr ops k s=ml P m n R l (tr++[([],[])]) ops k (s.put dst (s.ev x)):=by
 unfold iw jx mi;simp only[dK,qV];have a:dt s {v:=s.ev x}=([],[]):=by unfold dt;simp
 have b:s.after dst {v:=s.ev x}=s.put dst (s.ev x):=by unfold St.after St.put fX;simp
 show((∀ y∈([]:List (Nat×Option aa)),y.1<s.H.length)/\kI P n ops (kQ P m n R k .normal) l (tr++[dt s {v:=s.ev x}]) (s.after dst {v:=s.ev x}))=_;rw[a,b];exact propext ⟨fun h=>h.2,fun h=>⟨J,h⟩⟩
theorem aiU {tr:Tr}(x:Operand):iw P m n R (.assign x) dst l tr ops k s=ml P m n R l (tr++[([],[])]) ops k (s.put dst (s.ev x)):=Mq x
theorem TB {tr:Tr}(op:BinOp)(t:TypeId)(x y:Operand)(u:TypeId):iw P m n R (.binOp op t x y u) dst l tr ops k s=kv P m n R (wj P op t (s.ev x) (s.ev y) (ah s.H)) dst l tr ops k s:=rfl
theorem Wm {tr:Tr}(op:UnOp)(t:TypeId)(x:Operand):iw P m n R (.unOp op t x) dst l tr ops k s=kv P m n R (xN op (s.ev x)) dst l tr ops k s:=rfl
theorem adO {tr:Tr}(c x y:Operand):iw P m n R (.pick c x y) dst l tr ops k s=kv P m n R (dK P (.pick c x y) s.ev (ah s.H) s.H.length) dst l tr ops k s:=rfl
theorem ain {tr:Tr}(e:TypeId):iw P m n R (.alloc e) dst l tr ops k s=kv P m n R (dK P (.alloc e) s.ev (ah s.H) s.H.length) dst l tr ops k s:=rfl
theorem aaX {tr:Tr}(e:TypeId)(x:Operand):iw P m n R (.box e x) dst l tr ops k s=kv P m n R (dK P (.box e x) s.ev (ah s.H) s.H.length) dst l tr ops k s:=rfl
theorem Tv {tr:Tr}(t:TypeId)(p:Array (Nat×Operand)):iw P m n R (.build t p) dst l tr ops k s=kv P m n R (dK P (.build t p) s.ev (ah s.H) s.H.length) dst l tr ops k s:=rfl
theorem Uj {tr:Tr}(t:TypeId)(i:Nat)(p:Array (Nat×Operand)):iw P m n R (.buildSlice t i p) dst l tr ops k s=kv P m n R (dK P (.buildSlice t i p) s.ev (ah s.H) s.H.length) dst l tr ops k s:=rfl
theorem abB {tr:Tr}(t:TypeId)(x:Operand):iw P m n R (.load t x) dst l tr ops k s=kv P m n R (dK P (.load t x) s.ev (ah s.H) s.H.length) dst l tr ops k s:=rfl
theorem abj {tr:Tr}(t:TypeId)(x y:Operand):iw P m n R (.store t x y) dst l tr ops k s=kv P m n R (dK P (.store t x y) s.ev (ah s.H) s.H.length) dst l tr ops k s:=rfl
theorem WB {tr:Tr}(x:Operand):iw P m n R (.nilCheck x) dst l tr ops k s=kv P m n R (dK P (.nilCheck x) s.ev (ah s.H) s.H.length) dst l tr ops k s:=rfl
theorem aiH {tr:Tr}(a b:TypeId)(x:Operand):iw P m n R (.convert a b x) dst l tr ops k s=kv P m n R (yU P a b (s.ev x) (ah s.H) s.H.length) dst l tr ops k s:=rfl
theorem aeq {tr:Tr}(t:TypeId)(x:Operand):iw P m n R (.sliceToArrayPointer t x) dst l tr ops k s=kv P m n R (dK P (.sliceToArrayPointer t x) s.ev (ah s.H) s.H.length) dst l tr ops k s:=rfl
theorem ajn {tr:Tr}(f:Fn)(a c:Array Operand):iw P m n R (.makeFunc f a c) dst l tr ops k s=kv P m n R (dK P (.makeFunc f a c) s.ev (ah s.H) s.H.length) dst l tr ops k s:=rfl
theorem ack {tr:Tr}(t:TypeId)(x y:Operand):iw P m n R (.makeSlice t x y) dst l tr ops k s=kv P m n R (dK P (.makeSlice t x y) s.ev (ah s.H) s.H.length) dst l tr ops k s:=rfl
theorem agQ {tr:Tr}(t:TypeId)(x:Operand)(a b c:Option Operand):iw P m n R (.slice t x a b c) dst l tr ops k s=kv P m n R (dK P (.slice t x a b c) s.ev (ah s.H) s.H.length) dst l tr ops k s:=rfl
theorem abt {tr:Tr}(t:TypeId)(x:Operand)(f:Nat):iw P m n R (.fieldAddr t x f) dst l tr ops k s=kv P m n R (dK P (.fieldAddr t x f) s.ev (ah s.H) s.H.length) dst l tr ops k s:=rfl
theorem Xs {tr:Tr}(t:TypeId)(x y:Operand):iw P m n R (.indexAddr t x y) dst l tr ops k s=kv P m n R (dK P (.indexAddr t x y) s.ev (ah s.H) s.H.length) dst l tr ops k s:=rfl
theorem ZN {tr:Tr}(t:TypeId)(x y:Operand):iw P m n R (.index t x y) dst l tr ops k s=kv P m n R (dK P (.index t x y) s.ev (ah s.H) s.H.length) dst l tr ops k s:=rfl
theorem ahS {tr:Tr}(x:Operand)(i:Nat):iw P m n R (.extract x i) dst l tr ops k s=kv P m n R (dK P (.extract x i) s.ev (ah s.H) s.H.length) dst l tr ops k s:=rfl
theorem V5 {tr:Tr}(b:Builtin)(args:Array Operand)(a:Array TypeId):iw P m n R (.call ⟨.builtin b,args,a⟩) dst l tr ops k s=kv P m n R (vt P b a.toList (args.toList.map s.ev) (ah s.H) s.H.length) dst l tr ops k s:=rfl
theorem Xt {tr:Tr}(f:Operand)(args:Array Operand)(a:Array TypeId):iw P m n R (.call ⟨.value f,args,a⟩) dst l tr ops k s=qo P m n R (s.ev f) (args.toList.map s.ev) dst l tr ops k s:=rfl
theorem acn {tr:Tr}(t:TypeId)(x:Operand):iw P m n R (.makeInterface t x) dst l tr ops k s=kv P m n R (dK P (.makeInterface t x) s.ev (ah s.H) s.H.length) dst l tr ops k s:=rfl
def J9 (P:Program)(m n:Nat)(R:Exit->St->Prop)(v:V)(a:String)(args:List V)(dst:Option Tmp)(l:List Oper)(tr:Tr)(ops:Array Oper)(k:List Fr)(s:St):Prop:=yj P v a args s.H (kD P m n R dst l tr ops k s)
theorem abX {tr:Tr}(x:Operand)(b:String)(args:Array Operand)(a:Array TypeId):iw P m n R (.call ⟨.invoke x b,args,a⟩) dst l tr ops k s=J9 P m n R (s.ev x) b (args.toList.map s.ev) dst l tr ops k s:=rfl
theorem uM {tr:Tr}{t:TypeId}{v:V}{a:String}{args:List V}{f:FuncId}(h:kr P t a=some f):J9 P m n R (.iface t v) a args dst l tr ops k s=qo P m n R (.fn f [] []) (v::args) dst l tr ops k s:=by
 unfold J9 yj;simp only[h];rfl
theorem abY {f:FuncId}{fs cs args:List V}{v:V}(h:bE P f (fs++args++cs) v)(b:kC P m n R l ops k (s.put dst v)):s8 P m n R (.fn f fs cs) args dst l ops k s:=by
 refine⟨{v:=v},.inl ⟨f,fs,cs,rfl,h.1,trivial,h.2 _ _⟩,?_⟩;show gj P n ops l (s.after dst _) _;unfold kC at b;have :s.after dst {v:=v}=s.put dst v:=by unfold St.after St.put fX;simp
 rw[this];exact b
theorem br {f:FuncId}{args:List V}{v:V}(h:bE P f args v)(a:kC P m n R l ops k (s.put dst v)):s8 P m n R (.fn f [] []) args dst l ops k s:=abY (by simpa using h) a
theorem Vf {tr:Tr}{f:FuncId}{fs cs args:List V}{v:V}(h:bE P f (fs++args++cs) v)(a:ml P m n R l (tr++[([],[])]) ops k (s.put dst v)):qo P m n R (.fn f fs cs) args dst l tr ops k s:=by
 refine⟨{v:=v},.inl ⟨f,fs,cs,rfl,h.1,trivial,h.2 _ _⟩,?_,?_⟩
 .intro x b;cases b
 .have c:dt s {v:=v}=([],[]):=by unfold dt;simp
  have d:s.after dst {v:=v}=s.put dst v:=by unfold St.after St.put fX;simp
  rw[c,d];exact a
theorem bZ {tr:Tr}{f:FuncId}{args:List V}{v:V}(h:bE P f args v)(a:ml P m n R l (tr++[([],[])]) ops k (s.put dst v)):qo P m n R (.fn f [] []) args dst l tr ops k s:=Vf (by simpa using h) a
theorem Ba {f:FuncId}{args:List V}{v:V}(h:zK P f args v)(a:kC P m n R l ops k (s.put dst v)):s8 P m n R (.fn f [] []) args dst l ops k s:=by
 refine⟨{v:=v},.inr (.inl ⟨f,[],[],rfl,rfl,rfl,by simpa using h⟩),?_⟩;show gj P n ops l (s.after dst _) _;unfold kC at a;have :s.after dst {v:=v}=s.put dst v:=by unfold St.after St.put fX;simp
 rw[this];exact a
theorem Jd {tr:Tr}{f:FuncId}{args:List V}{v:V}(h:zK P f args v)(a:ml P m n R l (tr++[([],[])]) ops k (s.put dst v)):qo P m n R (.fn f [] []) args dst l tr ops k s:=by
 refine⟨{v:=v},.inr (.inl ⟨f,[],[],rfl,rfl,rfl,by simpa using h⟩),?_,?_⟩
 .intro x b;cases b
 .have c:dt s {v:=v}=([],[]):=by unfold dt;simp
  have d:s.after dst {v:=v}=s.put dst v:=by unfold St.after St.put fX;simp
  rw[c,d];exact a
theorem aeb {tr:Tr}{a:String}{t:TypeId}{x:V}{f:FuncId}{args:List V}{v:V}(d:kr P t a=some f)(h:bE P f (x::args) v)(b:ml P m n R l (tr++[([],[])]) ops k (s.put dst v)):qo P m n R (.iV a t x) args dst l tr ops k s:=by
 refine⟨{v:=v},.inr (.inr ⟨a,t,x,f,rfl,d,h.1,trivial,h.2 _ _⟩),?_,?_⟩
 .intro y c;cases c
 .have e:dt s {v:=v}=([],[]):=by unfold dt;simp
  have g:s.after dst {v:=v}=s.put dst v:=by unfold St.after St.put fX;simp
  rw[e,g];exact b
theorem cG {c:Code}(Z99:Nat->St->Prop)(h0:∃ j s0,bJ m n s s0/\Z99 j s0)(a:∀ j s,Z99 j s->m<=s.H.length->go P m n (oA (nV m n Z99 j) (kQ P m n R k)) c [] s):go P m n R (.loop c) k s:=⟨Z99,h0,a⟩
theorem YV (K:St->Prop)(Q:Exit->St->Prop):oA K Q .normal s=K s:=rfl
theorem Yk (K:St->Prop)(Q:Exit->St->Prop)(id:Nat):oA K Q (.exit id) s=Q (.exit id) s:=rfl
theorem Zi (K:St->Prop)(Q:Exit->St->Prop):oA K Q .ret s=Q .ret s:=rfl
theorem ae8 (e:Exit):kQ P m n R k e s=gone P m n R k e s:=rfl
theorem WN (fn:Func)(K:V->St->Prop):gV P fn K .ret s=jh P s fn.results.toList fun l=>K (jv l) s:=rfl
theorem Yo (fn:Func)(K:V->St->Prop):gV P fn K .normal s=jh P s fn.results.toList fun l=>K (jv l) s:=rfl
end
theorem agy (n:Int)(h:(0<=n/\n<256)=True):ofValue (.int .u8 n)= .u8 (BitVec.ofInt 8 n):=aM (by rw[h];trivial)
theorem aiI (n:Int)(h:(0<=n/\n<4294967296)=True):ofValue (.int .u32 n)= .u32 (BitVec.ofInt 32 n):=aM (by rw[h];trivial)
theorem ahl (n:Int)(h:(0<=n/\n<18446744073709551616)=True):ofValue (.int .u64 n)= .u64 (BitVec.ofInt 64 n):=aM (by rw[h];trivial)
theorem ajO (n:Int):ofValue (.int .i64 n)= .i64 n:=rfl
theorem ai9 (n:Int):ofValue (.int .i32 n)= .i32 n:=rfl
theorem ahw (b:Bool):ofValue (.bool b)= .bool b:=rfl
theorem ah3 (b:ByteArray):ofValue (.string b)= .str (bytesOf b):=rfl
theorem afz:ofValue (.slice none 0 0)= .bG:=rfl
theorem aik:ofValue (.pointer none)= .nilPtr:=rfl
theorem Ys:ofValue .nilFunc= .ff:=rfl
theorem X7 (n d:Nat):kh n (some d)=(d<n):=rfl
theorem YI (n:Nat):kh n none=True:=rfl
theorem aiA (s:St)(t:Tmp):s.ev (.tmp t)=lookS s.t t:=rfl
theorem abv (s:St)(v:Value):s.ev (.const v)=ofValue v:=rfl
theorem adB (s:St)(f:FuncId):s.ev (.func f)= .fn f [] []:=rfl
theorem afu (i:Nat)(v:V)(r:List (Nat×V))(t:Nat):lookS ((i,v)::r) t=if i=t then v else lookS r t:=rfl
theorem Ve (t:Nat):lookS [] t= .bH:=rfl
theorem ae7 (t:List (Nat×V))(H:aU)(d:Nat)(res:bu):St.after ⟨t,H⟩ (some d) res=⟨(d,res.v)::t,fX H res.old++res.news⟩:=rfl
theorem aes (t:List (Nat×V))(H:aU)(res:bu):St.after ⟨t,H⟩ none res=⟨t,fX H res.old++res.news⟩:=rfl
theorem abf (t:List (Nat×V))(H:aU)(d:Nat)(v:V):St.put ⟨t,H⟩ (some d) v=⟨(d,v)::t,H⟩:=rfl
theorem abA (t:List (Nat×V))(H:aU)(v:V):St.put ⟨t,H⟩ none v=⟨t,H⟩:=rfl
theorem abD (H:aU):fX H []=H:=rfl
theorem adX (t:List (Nat×V))(H:aU)(i:Nat):St.get ⟨t,H⟩ i=lookS t i:=rfl
theorem aao (v:V):jv [v]=v:=rfl
theorem aiE (v w:V)(l:List V):jv (v::w::l)= .aZ (v::w::l):=rfl
theorem afy (P:Program)(s:St)(K:List V->Prop):jh P s [] K=K []:=rfl
theorem Zg (P:Program)(s:St)(t:Nat)(r:List ResultVar)(K:List V->Prop):jh P s (.tmp t::r) K=jh P s r fun l=>K (s.get t::l):=rfl
attribute [go_sem] ahn ah5 UT ajm adr T9 go_ret ahc akc aa8 akg ag7 acv afP agz aed acg ads agE afQ agS Vq Yf
attribute [go_sem] Lq afX U4 ag9 aeu Vu afO XV Ue ahe Xg acf Vx abm abe WH ajA agH ad5 ah1 XA aea YP aiR Wl
attribute [go_sem] YV Yk Zi ae8 WN Yo agy aiI ahl ajO ai9 ahw ah3 afz aik Ys X7 YI aiA abv adB afu Ve ae7 aes abf abA abD adX aao aiE afy Zg
attribute [go_sem] Yv XZ aaL aba ab5 aiQ afm abR ag1 Mq aiU TB Wm adO ain aaX Tv Uj abB abj WB aiH aeq ajn ack agQ abt Xs ZN ahS V5 Xt acn abX
attribute [go_sem] dK wj Du zm wH jX FD zF yI Cn yw xN DO pt
end Go.Vm
namespace Go.Vm
theorem cH {m n:Nat}{Z99:Nat->St->Prop}{k:Nat}{s':St}(c:Nat)(a:St)(d:c<k)(ht:∀ p∈a.t,p.2=s'.get p.1)(e:a.H.length=s'.H.length)(f:∀ b B,ah a.H b=some B->ah s'.H b=some B)(hi:Z99 c a):nV m n Z99 k s':=
 ⟨c,a,d,bJ.drop ht e f,hi⟩
theorem dh {m n:Nat}{Z99:Nat->St->Prop}{s:St}(k:Nat)(s0:St)(ht:∀ p∈s0.t,p.2=s.get p.1)(a:s0.H.length=s.H.length)(c:∀ b B,ah s0.H b=some B->ah s.H b=some B)(hi:Z99 k s0):∃ k s0,bJ m n s s0/\Z99 k s0:=
 ⟨k,s0,bJ.drop ht a c,hi⟩
end Go.Vm
namespace Go.Vm
theorem ai {P:Program}{f:FuncId}{fn:Func}{c:Code}{args:List V}{v:V}(h:P.funcs[f]?=some fn)(i:go P 0 fn.ntmps (gV P fn fun v' _=>v'=v) c [] ⟨jX args 0,[]⟩)(d:fn.body=some c:=by exact rfl)(a:P.follows .mixedOrders=true:=by kernel_rfl)(j:iu P f=true:=by kernel_rfl)(e:args.length<=fn.ntmps:=by exact Nat.le_of_ble_eq_true U)(g:lows 0 args:=by simp[lows,V.low])(b:v.low 0:=by simp[lows,V.low]):bE P f args v:=pK a j h d e g b i
theorem ak {P:Program}{f:FuncId}{fn:Func}{c:Code}{args:List V}{h h':aU}{v:V}(e:P.funcs[f]?=some fn)(g:go P h.length fn.ntmps (gV P fn (Fin h.length v h')) c [] ⟨jX args 0,h⟩)(b:fn.body=some c:=by exact rfl)(a:P.follows .mixedOrders=true:=by kernel_rfl)(d:args.length<=fn.ntmps:=by exact Nat.le_of_ble_eq_true U):bp P f args h v h':=Fp a e b d g
end Go.Vm
end
