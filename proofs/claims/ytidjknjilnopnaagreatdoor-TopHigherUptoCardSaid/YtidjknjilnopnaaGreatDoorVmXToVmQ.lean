/- Proved: laws of a machine of values; no conditions but each theorem's own. -/
import Derived.MapKept
import Derived.ChangeMaps4
import Derived.WideKeyRuns
import Derived.Test.YtidjknjilnopnaaGreatDoorVmJ
set_option linter.unusedVariables false
set_option linter.unusedSimpArgs false
set_option maxRecDepth 20000
set_option maxHeartbeats 8000000
section
namespace Go.Vm
section
open Go.ChangeMaps (setBlock)
theorem BB {P:Program}{t:TypeId}(h:qp P t=true):∃ k e,P.underlying t=some (.map k e)/\P.underlying k=some (.int .u32)/\∀ w:World,(zeroValue e).run P w= .ok (.int .i64 0) w:=by
 unfold qp at h;split at h
 case h_2=>cases h
 rename_i k e hu;rw[ic] at h;obtain⟨h1,h2⟩:=h;split at h1
 case h_2=>cases h1
 rename_i b;split at h2
 case h_2=>cases h2
 rename_i a;refine⟨k,e,hu,b,fun w=>?_⟩;cases hi:P.info? e with
 |none=>rw[hi] at a;cases a
 |some i=>
  rw[hi] at a;have a:i.zero=some (.int .i64 0):=a;simp[zeroValue,typeInfo,hi,a]
def fL (k:BitVec 32):List (Nat×BitVec 32×Int)->Nat
 |[]=>0
 |e::l=>if e.2.1=k then 0 else fL k l+1
theorem E9 (k:BitVec 32):∀ (l:List (Nat×BitVec 32×Int)) (i:Nat),Instr.findNow (.int .u32) (.int .u32 (k.toNat:Int)) (l.map du) i=some ((bB k l).map fun n=>(i+fL k l,.int .i64 n))
 |[],i=>rfl
 |e::l,i=>by
  rw[bN];unfold Instr.findNow;have a:Instr.sameNow (.int .u32) (.int .u32 (k.toNat:Int)) (du e).key=some (decide (e.2.1=k)):=by
   unfold du Instr.sameNow;simp only[if_true];congr 1;rw[lN,beq_iff_eq,decide_eq_true_iff];constructor
   ·intro h;exact(eE aa).symm
   ·intro h;rw[h]
  rw[a];unfold bB fL;by_cases h:e.2.1=k
  ·rw[decide_eq_true h,if_pos h,if_pos h];rfl
  ·rw[decide_eq_false h,if_neg h,if_neg h];show Instr.findNow _ _ _ _=_;rw[E9 k l (i+1),show i+(fL k l+1)=i+1+fL k l by omega]
theorem vQ {k:BitVec 32}:∀ {l:List (Nat×BitVec 32×Int)} {n:Int},bB k l=some n->∃ b,l[fL k l]?=some (b,k,n)
 |[],_,h=>by cases h
 |(b,a,m)::l,n,h=>by
  unfold bB at h;unfold fL;by_cases e:a=k
  ·rw[if_pos e] at h;rw[if_pos e];injection h with h
   subst e;subst h;exact⟨b,rfl⟩
  ·rw[if_neg e] at h;rw[if_neg e];exact vQ (l:=l) h
theorem Kc (k:BitVec 32)(n:Int):∀ (l:List (Nat×BitVec 32×Int)),(jf k n l).map du=(l.map du).modify (fL k l) fun e=>{e with key:= .int .u32 (k.toNat:Int),val:= .int .i64 n}
 |[]=>rfl
 |e::l=>by
  unfold jf fL;by_cases h:e.2.1=k
  ·rw[if_pos h,if_pos h];rfl
  ·rw[if_neg h,if_neg h,bN,bN,List.modify_succ_cons,Kc k n l]
theorem HB (k:BitVec 32):∀ (l:List (Nat×BitVec 32×Int)),mD k l=l.eraseIdx (fL k l)
 |[]=>rfl
 |e::l=>by
  unfold mD fL;by_cases h:e.2.1=k
  ·rw[if_pos h,if_pos h];rfl
  ·rw[if_neg h,if_neg h,List.eraseIdx_cons_succ,HB k l]
section
variable {P:Program}{w:World}{t k e:TypeId}{r:Nat}{m:MapC}
theorem ut {b:Obj}(a:w.heap[r]?=some m.obj):(setObj r b).run P w= .ok () (setBlock w r b):=by
 unfold MapC.obj at a;split at a<;>simp[setObj,Sem.run,a,setBlock]
theorem Bw (b:Bool)(n:Nat)(x:Int)(a:P.underlying k=some (.int .u32)):(Instr.checkKey b (n+1) k (.int .u32 x)).run P w= .ok () w:=by
 simp[Instr.checkKey,run_underlying a]
theorem Ds (a:P.underlying k=some (.int .u32))(x:BitVec 32):(Instr.findKey k (.int .u32 (x.toNat:Int)) (m.es.map du).toArray.toList).run P w= .ok ((bB x m.es).map fun n=>(fL x m.es,.int .i64 n)) w:=by
 have :=E9 x m.es 0;rw[show(fun n=>(0+fL x m.es,Value.int .i64 n))=fun n=>(fL x m.es,.int .i64 n) from by simp only[cw]] at this;unfold Instr.findKey;simp only[Sem.run_bind,run_underlying a,Result.andThen_ok,this,Sem.run_pure]
theorem ahs (c:m.plain)(ht:P.underlying t=some (.map k e))(a:P.underlying k=some (.int .u32))(d:∀ w:World,(zeroValue e).run P w= .ok (.int .i64 0) w)(b:w.heap[r]?=some m.obj)(x:BitVec 32)(ok:Bool):
  (Instr.lookup t (.map (some r)) (.int .u32 (x.toNat:Int)) ok).run P w= .ok (if ok then .tuple #[.int .i64 ((bB x m.es).getD 0),.bool (bB x m.es).isSome] else .int .i64 ((bB x m.es).getD 0)) w:=by
 rw[MapC.obj_plain c] at b;unfold Instr.lookup;simp only[Sem.run_bind,run_underlying ht,Result.andThen_ok,MapKept.run_getObj_map b,Sem.run_pure,Bw _ 9999 _ a,Ds a];cases bB x m.es with
 |none=>
  simp only[qx,Sem.run_bind,d,Result.andThen_ok,Sem.run_pure,Option.getD_none,vG]
 |some n=>
  simp only[jA,Sem.run_bind,Result.andThen_ok,Sem.run_pure,oo,vw]
theorem VA (n:Nat)(x:Int):Instr.sameBits n (.int .u32 x) (.int .u32 x)=true:=by
 unfold Instr.sameBits;simp
theorem MapC.set_plain {m:MapC}(h:m.plain)(k:BitVec 32){n:Int}(c:n<1180591620717411303424):(m.set k n).plain:=by
 have key:∀ l:List (Nat×BitVec 32×Int),(∀ e∈l,e.2.2<1180591620717411303424)->∀ e∈jf k n l,e.2.2<1180591620717411303424:=by
  intro l;induction l with
  |nil=>intro _ e a;cases a
  |cons x l ih=>
   intro b e a;unfold jf at a;split at a
   ·rcases cQ.1 a with rfl|a
    ·exact c
    ·exact b e (gF _ a)
   ·rcases cQ.1 a with rfl|a
    ·exact b _ (j8 ..)
    ·exact ih (fun y d=>b y (gF _ d)) e a
 unfold MapC.set;split
 ·exact key _ h
 ·intro e a;rcases eB.1 a with a|a
  ·exact h e a
  ·rw[lh] at a;rw[a];exact c
theorem MapC.del_plain {m:MapC}(h:m.plain)(k:BitVec 32):(m.del k).plain:=by
 have key:∀ l:List (Nat×BitVec 32×Int),(∀ e∈l,e.2.2<1180591620717411303424)->∀ e∈mD k l,e.2.2<1180591620717411303424:=by
  intro l;induction l with
  |nil=>intro _ e a;cases a
  |cons x l ih=>
   intro b e a;unfold mD at a;split at a
   ·exact b e (gF _ a)
   ·rcases cQ.1 a with rfl|a
    ·exact b _ (j8 ..)
    ·exact ih (fun y c=>b y (gF _ c)) e a
 exact key _ h
theorem OS (d:m.plain)(ht:P.underlying t=some (.map k e))(g:P.underlying k=some (.int .u32))(f:w.heap[r]?=some m.obj)(x:BitVec 32)(n:Int)(i:n<1180591620717411303424):
  (Instr.mapUpdate t (.map (some r)) (.int .u32 (x.toNat:Int)) (.int .i64 n)).run P w= .ok () (setBlock w r (m.set x n).obj):=by
 have a:=f;rw[MapC.obj_plain d] at f;unfold Instr.mapUpdate;simp only[Sem.run_bind,run_underlying ht,Result.andThen_ok,MapKept.run_getObj_map f,Bw _ 9999 _ g,Ds g];cases h:bB x m.es with
 |none=>
  simp only[qx,ut a];rw[MapC.obj_plain (MapC.set_plain d x i)];unfold MapC.set;rw[h];simp only[vG,ct,if_false];congr 3;simp[du]
 |some n0=>
  obtain⟨b,j⟩:=vQ h;have c:(((m.es.map du).toArray[fL x m.es]?.map (·.key)).getD (.int .u32 (x.toNat:Int)))= .int .u32 (x.toNat:Int):=by
   simp only[rX,ci,j,jA,oo];rfl
  simp only[jA,c,Instr.keyThatStays,VA,if_true,Sem.run_bind,Sem.run_pure,Result.andThen_ok,ut a];rw[MapC.obj_plain (MapC.set_plain d x i)];unfold MapC.set;rw[h];simp only[vw,if_true];congr 3;rw[Kc];simp
theorem SB (c:m.plain){u ty:TypeId}(ht:P.underlying t=some (.map k e))(i:P.underlying k=some (.int .u32))(d:w.heap[r]?=some m.obj)(x:BitVec 32):
  (Builtin.delete_ #[t,u] ty #[.map (some r),.int .u32 (x.toNat:Int)]).run P w= .ok (.tuple #[]) (setBlock w r (m.del x).obj):=by
 have a:=d;rw[MapC.obj_plain c] at d;unfold Builtin.delete_;simp only[rX,rv,yT,Sem.run_bind,run_underlying ht,Result.andThen_ok,MapKept.run_getObj_map d,Bw _ 9999 _ i,Ds i];cases h:bB x m.es with
 |none=>
  simp only[qx,ut a,Sem.run_bind,Result.andThen_ok,Sem.run_pure];rw[MapC.obj_plain (MapC.del_plain c x)];unfold MapC.del;have :mD x m.es=m.es:=by
   generalize m.es=l at h;induction l with
   |nil=>rfl
   |cons e l ih=>
    unfold bB at h;unfold mD;split at h
    ·cases h
    ·rename_i f;rw[if_neg f,ih h]
  rw[this]
 |some n0=>
  obtain⟨b,j⟩:=vQ h;have g:=(ca.1 j).1;simp only[jA,ut a,Sem.run_bind,Result.andThen_ok,Sem.run_pure];rw[MapC.obj_plain (MapC.del_plain c x)];unfold MapC.del;congr 3;rw[HB];simp[Array.eraseIdxIfInBounds,g];rw[ChangeMaps.map_eraseIdx]
theorem ae1 (b:m.plain){ty:TypeId}(ht:P.underlying t=some (.map k e))(a:w.heap[r]?=some m.obj):(Builtin.len_ #[t] ty #[.map (some r)]).run P w= .ok (.int .i64 m.es.length) w:=by
 rw[MapC.obj_plain b] at a;simp[Builtin.len_,run_underlying ht,MapKept.run_getObj_map a];rfl
end
section
variable {P:Program}{w:World}{t k e el:TypeId}{r:Nat}{m:MapC}
theorem acC (h:CY P k=true):∃ el,P.underlying k=some (.array 2 el)/\P.underlying el=some (.int .i64)/\(P.info? el).map (·.size)=some 1:=by
 unfold CY at h;split at h
 case h_2=>cases h
 rename_i el b;rw[ic] at h;obtain⟨h1,h2⟩:=h;split at h1
 case h_2=>cases h1
 rename_i a;split at h2
 case h_2=>cases h2
 rename_i c;exact⟨el,b,a,c⟩
theorem Lh (h:vE P t=true):∃ k e el,P.underlying t=some (.map k e)/\P.underlying k=some (.array 2 el)/\P.underlying el=some (.int .i64)/\(P.info? el).map (·.size)=some 1/\∀ w:World,(zeroValue e).run P w= .ok (.int .i64 0) w:=by
 unfold vE at h;split at h
 case h_2=>cases h
 rename_i k e hu;rw[ic] at h;obtain⟨h1,h2⟩:=h;split at h2
 case h_2=>cases h2
 rename_i a;obtain⟨el,g1,g2,g3⟩:=acC h1;refine⟨k,e,el,hu,g1,g2,g3,fun w=>?_⟩;cases hi:P.info? e with
 |none=>rw[hi] at a;cases a
 |some i=>
  rw[hi] at a;have a:i.zero=some (.int .i64 0):=a;simp[zeroValue,typeInfo,hi,a]
theorem zr (a:P.underlying el=some (.int .i64)){cs:Array Value}{off:Nat}{v:Value}(h:cs[off]?=some v):(part el cs off).run P w= .ok v w:=by
 unfold part isAgg;simp[run_underlying a,h]
theorem FK (a:(P.info? el).map (·.size)=some 1):(sizeOf el).run P w= .ok 1 w:=by
 unfold sizeOf typeInfo;cases h:P.info? el with
 |none=>rw[h] at a;cases a
 |some i=>rw[h] at a;simp at a;simp[h,a]
theorem NQ (c:P.underlying el=some (.int .i64))(d:Nat)(a b:Int):(Op.equalIn (d+1) el (.int .i64 a) (.int .i64 b)).run P w= .ok (a==b) w:=by
 unfold Op.equalIn;simp[run_underlying c]
theorem MS (h:P.underlying k=some (.array 2 el))(g:P.underlying el=some (.int .i64))(i:(P.info? el).map (·.size)=some 1)(d:Nat)(a b c f:Int):
  (Op.equalIn (d+2) k (.agg #[.int .i64 a,.int .i64 b]) (.agg #[.int .i64 c,.int .i64 f])).run P w= .ok (decide (a=c/\b=f)) w:=by
 have j:∀ x y:Int,(part el #[.int .i64 x,.int .i64 y] 0).run P w= .ok (.int .i64 x) w:=fun x y=>zr g rfl
 have l:∀ x y:Int,(part el #[.int .i64 x,.int .i64 y] 1).run P w= .ok (.int .i64 y) w:=fun x y=>zr g rfl
 have s1:=FK (P:=P) (w:=w) i;unfold Op.equalIn;simp[run_underlying h,s1,Std.Legacy.Range.forIn_eq_forIn_range',Std.Legacy.Range.size,List.range',j,l,NQ g];by_cases h1:a=c
 ·by_cases h2:b=f
  ·simp[h1,h2]
  ·simp[h1,h2]
 ·simp[h1]
theorem Fp (f:P.underlying k=some (.array 2 el))(c:P.underlying el=some (.int .i64))(g:(P.info? el).map (·.size)=some 1)(em:Bool)(d:Nat)(a b:Int):
  (Instr.checkKey em (d+2) k (.agg #[.int .i64 a,.int .i64 b])).run P w= .ok () w:=by
 have h:∀ x y:Int,(part el #[.int .i64 x,.int .i64 y] 0).run P w= .ok (.int .i64 x) w:=fun x y=>zr c rfl
 have i:∀ x y:Int,(part el #[.int .i64 x,.int .i64 y] 1).run P w= .ok (.int .i64 y) w:=fun x y=>zr c rfl
 have s1:=FK (P:=P) (w:=w) g;have j:∀ x:Int,(Instr.checkKey em (d+1) el (.int .i64 x)).run P w= .ok () w:=fun x=>by
  unfold Instr.checkKey;simp[run_underlying c]
 unfold Instr.checkKey;simp[run_underlying f,s1,Std.Legacy.Range.forIn_eq_forIn_range',Std.Legacy.Range.size,List.range',h,i,j]
def jo (x:BitVec 32):Value:= .agg #[.int .i64 ((x.toNat/65536:Nat):Int),.int .i64 ((x.toNat%65536:Nat):Int)]
theorem HM {x y:Int}(f:0<=x)(a:x<65536)(g:0<=y)(b:y<65536):jo (pk x y)= .agg #[.int .i64 x,.int .i64 y]:=by
 unfold jo pk;rw[cx];have e:(x.toNat*65536+y.toNat)%2^32=x.toNat*65536+y.toNat:=gn aa;rw[e];have c:(((x.toNat*65536+y.toNat)/65536:Nat):Int)=x:=aa;have d:(((x.toNat*65536+y.toNat)%65536:Nat):Int)=y:=aa;rw[c,d]
theorem KK (c:P.underlying k=some (.array 2 el))(a:P.underlying el=some (.int .i64))(d:(P.info? el).map (·.size)=some 1)(x:BitVec 32):∀ (l:List (Nat×BitVec 32×Int)) (i:Nat),(Instr.findAsking k (jo x) (l.map n8) i).run P w= .ok ((bB x l).map fun n=>(i+fL x l,.int .i64 n)) w
 |[],i=>rfl
 |e::l,i=>by
  rw[bN];unfold Instr.findAsking;have b:=MS (P:=P) (w:=w) c a d 9998 ((x.toNat/65536:Nat):Int) ((x.toNat%65536:Nat):Int) ((e.2.1.toNat/65536:Nat):Int) ((e.2.1.toNat%65536:Nat):Int);have b:(Op.equal k (jo x) (n8 e).key).run P w= .ok (decide (e.2.1=x)) w:=by
   refine b.trans ?_;congr 1;rw[lN,decide_eq_true_iff,decide_eq_true_iff];constructor
   ·intro h;exact eE aa
   ·intro h;rw[h];exact⟨rfl,rfl⟩
  rw[Sem.run_bind,b];unfold bB fL;by_cases h:e.2.1=x
  ·rw[decide_eq_true h,if_pos h,if_pos h];rfl
  ·rw[decide_eq_false h,if_neg h,if_neg h];show(Instr.findAsking _ _ _ _).run P w=_;rw[KK c a d x l (i+1),show i+(fL x l+1)=i+1+fL x l by omega]
theorem Ll (b:P.underlying k=some (.array 2 el))(a:P.underlying el=some (.int .i64))(c:(P.info? el).map (·.size)=some 1)(x:BitVec 32)(l:List (Nat×BitVec 32×Int)):(Instr.findKey k (jo x) (l.map n8).toArray.toList).run P w= .ok ((bB x l).map fun n=>(fL x l,.int .i64 n)) w:=by
 rw[run_findKey_eq w (by rw[b])];have :=KK (P:=P) (w:=w) b a c x l 0;simp only[cw] at this;exact this
theorem Y4 (f:m.pairy)(ht:P.underlying t=some (.map k e))(b:P.underlying k=some (.array 2 el))(a:P.underlying el=some (.int .i64))(c:(P.info? el).map (·.size)=some 1)(g:∀ w:World,(zeroValue e).run P w= .ok (.int .i64 0) w)(d:w.heap[r]?=some m.obj)(x:BitVec 32):
  (Instr.lookup t (.map (some r)) (jo x) false).run P w= .ok (.int .i64 ((bB x m.es.tail).getD 0)) w:=by
 rw[MapC.obj_pairy f] at d;have hc:∀ em,(Instr.checkKey em 10000 k (jo x)).run P w= .ok () w:=fun em=>Fp b a c em 9998 _ _
 unfold Instr.lookup;simp only[Sem.run_bind,run_underlying ht,Result.andThen_ok,MapKept.run_getObj_map d,Sem.run_pure,hc,Ll b a c];cases bB x m.es.tail with
 |none=>simp only[qx,Sem.run_bind,g,Result.andThen_ok,Sem.run_pure,Option.getD_none,ct,if_false]
 |some n=>simp only[jA,Sem.run_bind,Result.andThen_ok,Sem.run_pure,oo,ct,if_false]
theorem YP (x:BitVec 32):Instr.sameBits 10000 (jo x) (jo x)=true:=by
 unfold jo;simp[Instr.sameBits]
theorem Hg (k:BitVec 32)(n:Int):∀ (l:List (Nat×BitVec 32×Int)),(jf k n l).map n8=(l.map n8).modify (fL k l) fun e=>{e with key:=jo k,val:= .int .i64 n}
 |[]=>rfl
 |e::l=>by
  unfold jf fL;by_cases h:e.2.1=k
  ·rw[if_pos h,if_pos h];rfl
  ·rw[if_neg h,if_neg h,bN,bN,List.modify_succ_cons,Hg k n l]
theorem aaT (m:MapC)(k:BitVec 32)(n:Int):(m.set2 k n).pairy:=rfl
theorem RQ (j:m.pairy)(ht:P.underlying t=some (.map k e))(g:P.underlying k=some (.array 2 el))(a:P.underlying el=some (.int .i64))(i:(P.info? el).map (·.size)=some 1)(f:w.heap[r]?=some m.obj)(x:BitVec 32)(n:Int):
  (Instr.mapUpdate t (.map (some r)) (jo x) (.int .i64 n)).run P w= .ok () (setBlock w r (m.set2 x n).obj):=by
 have c:=f;rw[MapC.obj_pairy j] at f;have hc:∀ em,(Instr.checkKey em 10000 k (jo x)).run P w= .ok () w:=fun em=>Fp g a i em 9998 _ _
 have l:(m.set2 x n).obj= .map (((MapC.set ⟨m.es.tail,m.clock⟩ x n).es).map n8).toArray (MapC.set ⟨m.es.tail,m.clock⟩ x n).clock:=MapC.obj_pairy (aaT m x n);rw[l];unfold Instr.mapUpdate;simp only[Sem.run_bind,run_underlying ht,Result.andThen_ok,MapKept.run_getObj_map f,hc,Ll g a i];cases h:bB x m.es.tail with
 |none=>
  simp only[qx,ut c];unfold MapC.set;rw[show(bB x (⟨m.es.tail,m.clock⟩:MapC).es)=none from h];simp only[vG,ct,if_false];congr 3;simp[n8,jo]
 |some n0=>
  obtain⟨b,o⟩:=vQ h;have d:(((m.es.tail.map n8).toArray[fL x m.es.tail]?.map (·.key)).getD (jo x))=jo x:=by
   simp only[rX,ci,o,jA,oo];rfl
  simp only[jA,d,Instr.keyThatStays,YP,if_true,Sem.run_bind,Sem.run_pure,Result.andThen_ok,ut c];unfold MapC.set;rw[show(bB x (⟨m.es.tail,m.clock⟩:MapC).es)=some n0 from h];simp only[vw,if_true];congr 3;rw[Hg];simp
end
section
variable {ρ:Nat->Nat×Nat}{dom:Nat->Prop}{P:Program}{w:World}{get:Nat->Option Blk}{nid:Nat}{m:MapC}
theorem CU (w:World)(r:Nat)(o:Obj)(j:Nat):(setBlock w r o).heap[j]?=if j=r then(if r<w.heap.size then some o else none) else w.heap[j]?:=by
 show(w.heap.setIfInBounds r o)[j]?=_;rw[BX];by_cases h:j=r
 ·subst h;rw[if_pos rfl]
 ·rw[if_neg h,if_neg (fun e=>h e.symm)]
theorem ni (w:World){r j:Nat}(o:Obj)(h:j≠r):(setBlock w r o).heap[j]?=w.heap[j]?:=by rw[CU,if_neg h]
theorem yO (w:World)(r:Nat)(o:Obj):(setBlock w r o).heap.size=w.heap.size:=Array.size_setIfInBounds ..
def Obj.bare:Obj->Bool
 | .cells _ _ _=>false
 |_=>true
theorem J9 {r:Nat}{o:Obj}(h:w.heap[r]?=some o)(a:Obj.bare o=true)(i:Nat):w.cell? ⟨r,i,none⟩=none:=by
 unfold World.cell?;rw[show(⟨r,i,none⟩:Addr).block=r from rfl,h];cases o<;>first|rfl|cases a
theorem AQ {r:Nat}{o b:Obj}(h:w.heap[r]?=some o)(d:Obj.bare o=true):Lasts w (setBlock w r b):=fun p i c=>by
 have a:p≠r:=fun e=>by rw[e,J9 h d] at c;cases c
 refine⟨?_,fun f=>?_⟩
 ·rw[World.cell?_of_block (w:=w) (ni w b a)];exact c
 ·rw[World.frozen?_of_block (w:=w) (ni w b a)];exact f
theorem ada (m:MapC):Obj.bare m.obj=true:=by unfold MapC.obj;split <;>rfl
theorem Bn (h:MemRel ρ dom get w){b:Nat}(o:get b=some ⟨false,[],some m⟩)(g:MapC):
  MemRel ρ (cU dom nid 0) (bZ get [(b,some ⟨false,[],some g⟩)] nid []) (setBlock w (ρ b).1 g.obj)/\
  Frame ρ get w ρ (bZ get [(b,some ⟨false,[],some g⟩)] nid []) (setBlock w (ρ b).1 g.obj):=by
 have D:w.heap[(ρ b).1]?=some m.obj:=h.mapc b _ m o rfl;have z:Lasts w (setBlock w (ρ b).1 g.obj):=AQ D (ada m);have s:∀ b,dom b->cU dom nid 0 b:=fun b o=> .inl o
 rw[xu];have f:∀ a B,a≠b->(fun a=>if a=b then some (⟨false,[],some g⟩:Blk) else get a) a=some B->get a=some B:=fun a B p d=>by simpa [p] using d
 have n:∀ B,(fun a=>if a=b then some (⟨false,[],some g⟩:Blk) else get a) b=some B->B=⟨false,[],some g⟩:=fun B d=>by simpa using d.symm
 have c:∀ a B,(fun a=>if a=b then some (⟨false,[],some g⟩:Blk) else get a) a=some B->∃ B0,get a=some B0/\B0.ro=B.ro:=fun a B d=>by
  by_cases e:a=b
  ·subst e;rw[n B d];exact⟨_,o,rfl⟩
  ·exact⟨B,f a B e d,rfl⟩
 have j:∀ a B,a≠b->get a=some B->(ρ a).1≠(ρ b).1:=fun a B h1 h2 e=>h.inj b a _ B o h2 rfl (fun x=>h1 x.symm) e.symm
 refine⟨⟨fun a B d=>?_,fun a B d=>?_,fun A C B1 B2 h1 h2 q p=>?_,fun a B d i v u=>?_,fun a B d q i hi=>?_,fun a B E d l=>?_⟩,
  ⟨rfl,rfl,rfl,by rw[yO];exact aH _,fun r q y=>?_,z,fun a B d q=>?_⟩⟩
 ·obtain⟨B0,h1,_⟩:=c a B d;exact .inl (h.has a B0 h1)
 ·obtain⟨B0,h1,_⟩:=c a B d;rw[yO];exact h.lt a B0 h1
 ·obtain⟨B3,F,G⟩:=c A B1 h1;obtain⟨B5,H,_⟩:=c C B2 h2;exact h.inj A C B3 B5 F H (G.trans q) p
 ·by_cases e:a=b
  ·subst e;rw[n B d] at u;simp at u
  ·have h0:=f a B e d;obtain⟨r,h1,h2⟩:=h.cell a B h0 i v u;refine⟨r,?_,h2.mono (fun _ _=>rfl) s z⟩;rw[World.cell?_of_block (w:=w) (ni w g.obj (j a B e h0))];exact h1
 ·by_cases e:a=b
  ·subst e;rw[n B d] at hi;simp at hi
  ·have h0:=f a B e d;rw[World.frozen?_of_block (w:=w) (ni w g.obj (j a B e h0))];exact h.free a B h0 q i hi
 ·by_cases e:a=b
  ·subst e;rw[n B d] at l |-
   injection l with l
   subst l;show(setBlock w (ρ a).1 _).heap[(ρ a).1]?=_;rw[CU,if_pos rfl,if_pos (h.lt a _ o)]
  ·have h0:=f a B e d;exact nf (h.mapc a B E h0 l) (ni w g.obj (j a B e h0))
 ·exact ni w g.obj (fun e=>y b _ o rfl e.symm)
 ·obtain⟨B0,h1,h2⟩:=c a B d;exact .inl ⟨a,B0,h1,h2.trans q,rfl⟩
theorem Lv (h:MemRel ρ dom get w)(E:¬ dom nid)(o:MapC):
  MemRel (jt ρ nid (w.heap.size,0)) (cU dom nid 1) (bZ get [] nid [some ⟨false,[],some o⟩]) (w.alloc o.obj)/\
  Frame ρ get w (jt ρ nid (w.heap.size,0)) (bZ get [] nid [some ⟨false,[],some o⟩]) (w.alloc o.obj):=by
 have hold:=rD (ρ:=ρ) (x:=(w.heap.size,0)) E;have D:=Ct w o.obj;have z:∀ b,dom b->cU dom nid 1 b:=fun b c=> .inl c
 rw[FU];have a:∀ b B,b≠nid->(fun b=>if b=nid then some (⟨false,[],some o⟩:Blk) else get b) b=some B->get b=some B:=fun b B c f=>by simpa [c] using f
 have q:∀ B,(fun b=>if b=nid then some (⟨false,[],some o⟩:Blk) else get b) nid=some B->B=⟨false,[],some o⟩:=fun B f=>by simpa using f.symm
 have d:∀ b B,b≠nid->get b=some B->jt ρ nid (w.heap.size,0) b=ρ b:=fun b B c f=>hold b (h.has b B f)
 have g:∀ j,j<w.heap.size->(w.alloc o.obj).heap[j]?=w.heap[j]?:=fun j H=>by
  show(w.heap.push _)[j]?=_;rw[DP,if_neg aa]
 refine⟨⟨fun b B f=>?_,fun b B f=>?_,fun b p B B' f s u y=>?_,fun b B f i v C=>?_,fun b B f u i hi=>?_,fun b B F f n=>?_⟩,
  ⟨rfl,rfl,rfl,ae,fun r u _=>g r u,D,fun b B f u=>?_⟩⟩
 ·by_cases c:b=nid
  ·exact .inr ⟨aa,aa⟩
  ·exact .inl (h.has b B (a b B c f))
 ·by_cases c:b=nid
  ·subst c;rw[fX];simp
  ·have :=h.lt b B (a b B c f);rw[d b B c (a b B c f)];simp;omega
 ·by_cases c:b=nid
  ·subst c;have l:p≠b:=fun e=>y e.symm
   have :=h.lt p B' (a p B' l s);rw[fX,d p B' l (a p B' l s)];simp only;omega
  ·have h1:=a b B c f;rw[d b B c h1];by_cases l:p=nid
   ·subst l;rw[fX];have :=h.lt b B h1;simp only;omega
   ·have h2:=a p B' l s;rw[d p B' l h2];exact h.inj b p B B' h1 h2 u y
 ·by_cases c:b=nid
  ·subst c;rw[q B f] at C;simp at C
  ·have h1:=a b B c f;obtain⟨r,h2,G⟩:=h.cell b B h1 i v C;refine⟨r,?_,G.mono hold z D⟩;rw[d b B c h1,World.cell?_of_block (w:=w) (g _ (h.lt b B h1))];exact h2
 ·by_cases c:b=nid
  ·subst c;rw[q B f] at hi;simp at hi
  ·have h1:=a b B c f;rw[d b B c h1,World.frozen?_of_block (w:=w) (g _ (h.lt b B h1))];exact h.free b B h1 u i hi
 ·by_cases c:b=nid
  ·subst c;rw[q B f] at n |-
   injection n with n
   subst n;rw[fX];show(w.heap.push _)[w.heap.size]?=_;simp
  ·have h1:=a b B c f;rw[d b B c h1];exact nf (h.mapc b B F h1 n) (g _ (h.lt b B h1))
 ·by_cases c:b=nid
  ·subst c;right;rw[fX];exact aH _
  ·have h1:=a b B c f;exact .inl ⟨b,B,h1,u,(by rw[d b B c h1])⟩
end
end
section
section
variable {ρ:Nat->Nat×Nat}{dom:Nat->Prop}{P:Program}{w:World}{get get0:Nat->Option Blk}{nid:Nat}
theorem Dh {y:V}{n:Nat}{ys:List V}{q:Prop}{g:List Nat}(h:iy get0 y=some (n,ys,q,g))(a:∀ b∈g,get b=get0 b):iy get y=some (n,ys,q,g):=by
 unfold iy at*;split at h
 ·exact h
 ·exact h
 ·split at h
  case h_2=>cases h
  rename_i B c;have h':=h;injection h' with h'
  simp only[gI] at h';obtain⟨_,_,_,rfl⟩:=h';rw[a _ ae,c];exact h
 ·cases h
def Kg (ρ:Nat->Nat×Nat)(dom:Nat->Prop)(w:World)(a:Act)(ev:Operand->V)(o:Op):Prop:=∀ x∈o.operands.toList,VR ρ dom w (ev x) (a.eval x)
theorem Kl {a:Act}{ev:Operand->V}{x:Option Operand}(h:∀ y∈x.toArray.toList,VR ρ dom w (ev y) (a.eval y)):px ρ dom w (x.map ev) (x.map a.eval):=by
 cases x with
 |none=>exact .inl ⟨rfl,rfl⟩
 |some y=>exact .inr ⟨_,_,rfl,rfl,h y ae⟩
theorem qt {a:Act}{ev:Operand->V}:∀ {l:List Operand},(∀ y∈l,VR ρ dom w (ev y) (a.eval y))->VRs ρ dom w (l.map ev) (l.map a.eval)
 |[],_=>VRs.nil
 |x::l,h=>VRs.cons (h x ae) (qt fun y b=>h y (by simp[b]))
theorem RunsTo.val {s:Sem Value}{res:Res}(a:MemRel ρ dom get w)(h:∃ r,s.run P w= .ok r w/\VR ρ dom w res.v r)(b:res.old=[])(c:res.news=[]):RunsTo P (do pure (.value (<-s)):Sem Next) w ρ dom get nid res:=by
 obtain⟨r,h1,h2⟩:=h;exact RunsTo.same a (by rw[Sem.run_bind,h1];rfl) h2 b c
theorem RunsTo.weaken {res a:Res}{s:Sem Next}(h:RunsTo P s w ρ dom get nid res)(d:res.v=a.v)(c:res.old=a.old)(b:res.news=a.news):RunsTo P s w ρ dom get nid a:=by
 obtain⟨ρ',w',r,g1,g2,g3,g4,g5⟩:=h;exact⟨ρ',w',r,g1,g2,by rw[<-c,<-b];exact g3,by rw[<-d,<-b];exact g4,by rw[<-c,<-b];exact g5⟩
theorem acZ {op:BinOp}{t:TypeId}{x y:V}{res:Res}(h:tk P op t x y=some res):res.old=[]/\res.news=[]:=by
 have hu:∀ {n:Nat} (mk:BitVec n->V) (op:BinOp) (x y:BitVec n) (res:Res),p8 mk op x y=some res->res.old=[]/\res.news=[]:=fun mk op x y res h=>by
  cases op<;>simp only[p8,cf,seval] at h<;>subst h<;>exact⟨rfl,rfl⟩
 have hi:∀ (op:BinOp) (x y:Int) (res:Res),uK op x y=some res->res.old=[]/\res.news=[]:=fun op x y res h=>by
  cases op<;>simp only[uK,yQ,cf,seval] at h<;>subst h<;>exact⟨rfl,rfl⟩
 have a:∀ (op:BinOp) (x y:List ai) (res:Res),s8 op x y=some res->res.old=[]/\res.news=[]:=fun op x y res h=>by
  cases op<;>simp only[s8,cf,seval] at h<;>subst h<;>exact⟨rfl,rfl⟩
 have b:∀ (op:BinOp) (x:V) (n:Nat) (p:Prop) (res:Res),sG op x n p=some res->res.old=[]/\res.news=[]:=fun op x n p res h=>by
  cases op<;>cases x<;>simp only[sG,cf,seval] at h<;>subst h<;>exact⟨rfl,rfl⟩
 unfold tk at h
 repeat' split at h
 all_goals first
  |(exact hu _ _ _ _ _ h)
  |(exact hi _ _ _ _ h)
  |(exact a _ _ _ _ h)
  |(exact b _ _ _ _ _ h)
  |(cases h;done)
  |(simp only[cf] at h;subst h;exact⟨rfl,rfl⟩)
theorem TD {op:BinOp}{t:TypeId}{x y:V}{get:Nat->Option Blk}{res:Res}(h:pV P op t x y get=some res):res.old=[]/\res.news=[]:=by
 unfold pV at h;split at h
 ·unfold yc at h;split at h
  ·split at h
   ·split at h
    ·injection h with h;subst h;exact⟨rfl,rfl⟩
    ·injection h with h;subst h;exact⟨rfl,rfl⟩
    ·cases h
   ·cases h
  ·cases h
 ·exact acZ h
theorem WH {t ty:TypeId}{x:V}{rx:Value}{res:Res}(h:oR P .len [t] [x] get0 nid=some res)(g:res.pre)(i:MemRel ρ dom get w)(f:∀ b∈res.fp,get b=get0 b)(d:VR ρ dom w x rx):
  (∃ r,(Builtin.len_ #[t] ty #[rx]).run P w= .ok r w/\VR ρ dom w res.v r)/\res.old=[]/\res.news=[]:=by
 simp only[oR] at h;split at h
 case h_5=>
  rename_i k e b hu;split at h
  case h_2=>cases h
  rename_i ro m j;injection h with h;subst h
  unfold VR at d;obtain⟨_,rfl⟩:=d;have l:w.heap[(ρ b).1]?=some m.obj:=i.mapc b _ m ((f b ae).trans j) rfl;exact⟨⟨_,ae1 g hu l,by unfold VR;rfl⟩,rfl,rfl⟩
 all_goals simp only[cf,seval] at h
 all_goals subst h
 all_goals rename_i hu
 ·unfold VR at d;obtain⟨b,rfl,rfl⟩:=d;exact⟨⟨_,by simp[Builtin.len_,run_underlying hu];rfl,by unfold VR;rw[kF];rfl⟩,rfl,rfl⟩
 ·exact⟨⟨_,by simp[Builtin.len_,run_underlying hu];rfl,by unfold VR;rfl⟩,rfl,rfl⟩
 ·unfold VR at d;obtain⟨_,a,c,rfl,_⟩:=d;exact⟨⟨_,by simp[Builtin.len_,run_underlying hu];rfl,by unfold VR;rfl⟩,rfl,rfl⟩
 ·unfold VR at d;subst d;exact⟨⟨_,by simp[Builtin.len_,run_underlying hu];rfl,by unfold VR;rfl⟩,rfl,rfl⟩
theorem TT {l:Array Operand}{ev:Operand->V}{x:V}(h:l.toList.map ev=[x]):∃ o,l=#[o]/\x=ev o:=by
 obtain⟨l⟩:=l
 match l,h with
 |[o],h=>simp at h;exact⟨o,rfl,h.symm⟩
theorem xe {l:Array Operand}{ev:Operand->V}{x y:V}(h:l.toList.map ev=[x,y]):∃ o p,l=#[o,p]/\x=ev o/\y=ev p:=by
 obtain⟨l⟩:=l
 match l,h with
 |[o,p],h=>simp at h;exact⟨o,p,rfl,h.1.symm,h.2.symm⟩
theorem NJ {l:Array TypeId}{t:TypeId}(h:l.toList=[t]):l=#[t]:=by
 obtain⟨l⟩:=l;simp at h;rw[h]
theorem Cn {l:Array TypeId}{t u:TypeId}(h:l.toList=[t,u]):l=#[t,u]:=by
 obtain⟨l⟩:=l;simp at h;rw[h]
theorem Pf {t o ty e:TypeId}{x y:V}{rx r:Value}{n s:Nat}{xs ys:List V}{p q:Prop}{f g fp:List Nat}(ht:P.underlying t=some (.slice e))(j:aR P e=some s)
  (z:lv x=false) (A:kW s y=true) (I:u4 P o y=true) (d:iy get x=some (n,xs,p,f)) (b:iy get y=some (0,ys,q,g)) (J:q)
  (l:VR ρ dom w x rx) (K:VR ρ dom w y r) (H:MemRel ρ dom get w):RunsTo P (do pure (.value (<-Builtin.append_ #[t,o] ty #[rx,r])):Sem Next) w ρ dom get nid {v:=x,pre:=q,fp:=fp}:=by
 have B:=IZ I;have m:∃ i,P.info? e=some i/\i.size=s:=by
  unfold aR at j;cases hi:P.info? e with
  |none=>rw[hi] at j;cases j
  |some i=>rw[hi] at j;injection j with j;exact⟨i,rfl,j⟩
 obtain⟨i,hi,C⟩:=m;have D:ys=[]:=by
  unfold iy at b;split at b
  ·injection b with b;simp only[gI] at b;exact b.2.1.symm
  ·injection b with b;simp only[gI] at b
   obtain⟨h1,h2,_⟩:=b;rw[<-h2,jJ.1 h1];rfl
  ·split at b
   ·injection b with b;simp only[gI] at b
    obtain⟨h1,h2,_⟩:=b;rw[<-h2,h1];simp
   ·cases b
  ·cases b
 subst D;obtain⟨news,h,k⟩:=BS b J H K A B (fun u hu=>by cases hu);have E:news=[]:=by have :=k.length;exact jJ.1 (by simpa using this)
 subst E;rw[<-C] at h;have F:∃ a c,rx= .slice a n c/\n<=c:=by
  unfold iy at d;split at d
  ·injection d with d;simp only[gI] at d
   obtain⟨rfl,_⟩:=d;unfold VR at l;exact⟨_,_,l,aH _⟩
  ·simp[lv] at z
  ·split at d
   case h_2=>cases d
   injection d with d;simp only[gI] at d
   obtain⟨rfl,_⟩:=d;unfold VR at l;obtain⟨_,a,c,h1,h2,_⟩:=l;exact⟨_,_,h1,h2⟩
  ·cases d
 obtain⟨a,c,rfl,G⟩:=F;exact RunsTo.same H (by rw[Sem.run_bind,run_append_nothing w t o ty e i ht hi a n c G r h];rfl) l rfl rfl
theorem ags {b:Builtin}{H:Array TypeId}{args:Array Operand}{ty:TypeId}{consts:Array Bool}{a:Act}{ev:Operand->V}{res:Res}(h:oR P b H.toList (args.toList.map ev) get0 nid=some res)(C:res.pre)
  (j:∀ x∈args.toList,VR ρ dom w (ev x) (a.eval x)) (A:MemRel ρ dom get w) (c:∀ b∈res.fp,get b=get0 b) (hd:∀ b,nid<=b->b<nid+res.news.length->¬ dom b):
  RunsTo P (builtin b H ty consts (args.map a.eval)) w ρ dom get nid res:=by
 have h0:=h;have R:∀ o,(#[o]:Array Operand).map a.eval=#[a.eval o]:=fun o=>by simp
 have E:∀ o p,(#[o,p]:Array Operand).map a.eval=#[a.eval o,a.eval p]:=fun o p=>by simp
 unfold oR at h;split at h
 ·rename_i t x ht l;obtain⟨o,rfl,rfl⟩:=TT l;rw[l,ht] at h0;rw[NJ ht,R];obtain⟨g1,g2,g3⟩:=WH (ty:=ty) h0 C A c (j o ae);exact RunsTo.val A g1 g2 g3
 ·rename_i t u x y ht l;obtain⟨o,p,rfl,F,I⟩:=xe l;split at h
  case h_2=>cases h
  rename_i b k S;split at h
  case h_2=>cases h
  rename_i m M;injection h with h;subst h
  have d:=j o ae;have v2:=j p ae;rw[<-F] at d;rw[<-I] at v2;unfold VR at d v2;obtain⟨kt,et,hu,hk,Y⟩:=BB S;have M:=(c b ae).trans M;have hg:w.heap[(ρ b).1]?=some m.obj:=A.mapc b _ m M rfl;obtain⟨g1,g2⟩:=Bn (nid:=nid) A M (m.del k);refine⟨ρ,_,.tuple #[],.inl ?_,fun _ _=>rfl,g1,by unfold VR;exact⟨_,rfl,VRs.nil⟩,g2⟩;rw[Cn ht,E,d.2,v2];show(do pure (.value (<-Builtin.delete_ #[t,u] ty #[.map (some (ρ b).1),.int .u32 (k.toNat:Int)])):Sem Next).run P w=_;rw[Sem.run_bind,SB C hu hk hg];rfl
 ·rename_i x y l;obtain⟨o,p,rfl,F,I⟩:=xe l;injection h with h;subst h
  have d:=j o ae;have v2:=j p ae;rw[<-F] at d;rw[<-I] at v2;unfold VR at d v2;refine RunsTo.val A ⟨.int .i64 (if y<x then y else x),?_,by unfold VR;rfl⟩ rfl rfl;simp[Builtin.min_,Builtin.min2,d,v2]
 ·rename_i x y l;obtain⟨o,p,rfl,F,I⟩:=xe l;injection h with h;subst h
  have d:=j o ae;have v2:=j p ae;rw[<-F] at d;rw[<-I] at v2;unfold VR at d v2;refine RunsTo.val A ⟨.int .i64 (if y>x then y else x),?_,by unfold VR;rfl⟩ rfl rfl;simp[Builtin.max_,Builtin.max2,d,v2]
 ·rename_i t tx x y ht l;obtain⟨o,p,rfl,rfl,rfl⟩:=xe l;rw[Cn ht,E];split at h
  case h_2=>cases h
  rename_i e n xs pp f m ys q g N T G;split at h
  case h_2=>cases h
  rename_i J B z O r Y;split at h
  case isFalse=>cases h
  rename_i hc;obtain⟨c1,c2,Q,c4,Z,c6⟩:=hc;injection h with h;subst h
  have K:(iZ n m J B (ev o) xs ys pp q f g get0 nid).fp=f++g:=by unfold iZ;split <;>rfl
  rw[K] at c;have D:=Dh T fun b r=>c b (by simp[r])
  have i:=Dh G fun b r=>c b (by simp[r])
  by_cases s:m=0
  ·subst s;have U:iZ n 0 J B (ev o) xs ys pp q f g get0 nid={v:=ev o,pre:=q,fp:=f++g}:=by unfold iZ;rw[if_pos rfl]
   rw[U] at C |-
   exact Pf (ty:=ty) (xF N) O Q Z c6 D i C (j o ae) (j p ae) A
  ·have L:(iZ n m J B (ev o) xs ys pp q f g get nid).pre:=by
    unfold iZ at C |-
    rw[if_neg s] at C |-
    obtain⟨W,a2,a3,a4,a5,a6,a7⟩:=C;exact⟨W,a2,a3,a4,a5,a6,fun b r=>by rw[c b (by simp[r])];exact a7 b r⟩
   have a8:(iZ n m J B (ev o) xs ys pp q f g get0 nid).news.length=1:=by unfold iZ;rw[if_neg s];rfl
   refine(Zx (ty:=ty) (nid:=nid) (xF N) O r Y c1 c2 Q c4 Z c6 D i L (j o ae) (j p ae) A (hd nid (aH _) aa)).weaken ?_ ?_ ?_<;>(unfold iZ;rw[if_neg s,if_neg s])
 ·rename_i t tx x y ht l;obtain⟨o,p,rfl,F,rfl⟩:=xe l;rw[Cn ht,E];split at h
  case h_2=>cases h
  rename_i e b p' len b0 m ys q g N G;split at h
  case h_2=>cases h
  rename_i J cs O r;split at h
  case isFalse=>cases h
  rename_i hc;obtain⟨rfl,rfl,Q⟩:=hc;injection h with h;subst h
  obtain⟨W,a2,a3,a4⟩:=C;have X:get b=bK cs:=by rw[c b ae];exact r
  have i:=Dh G fun b r=>c b (by simp[r])
  have d:=j o ae;rw[<-F] at d;exact(aeB (ty:=ty) (nid:=nid) (xF N) O X Q i W a2 a3 a4 d (j p ae) A).weaken rfl rfl rfl
 ·cases h
end
end
section
section
variable {ρ:Nat->Nat×Nat}{dom:Nat->Prop}{P:Program}{w:World}{get get0:Nat->Option Blk}{nid:Nat}
theorem Jl {a:Act}{ev:Operand->V}{parts:Array (Nat×Operand)}(h:∀ x∈parts.toList.map (·.2),VR ρ dom w (ev x) (a.eval x)):
  (parts.map fun(i,x)=>(i,a.eval x)).size=(parts.toList.map fun x=>(x.1,ev x.2)).length/\
  ∀ (i:Nat) x y,(parts.toList.map fun x=>(x.1,ev x.2))[i]?=some x->(parts.map fun(i,x)=>(i,a.eval x)).toList[i]?=some y->x.1=y.1/\VR ρ dom w x.2 y.2:=by
 refine⟨ae,fun i x y b c=>?_⟩;simp only[vZ,ci] at b c;cases d:parts.toList[i]? with
 |none=>rw[d] at b;cases b
 |some p=>
  rw[d] at b c;simp only[jA,cf] at b c;subst b;subst c;exact⟨rfl,h p.2 (cD.2 ⟨p,kP d,rfl⟩)⟩
theorem Qu {t:TypeId}{g:String}(h:(fU P t g).isSome=true)(k:Nat)(v:Value)(w:World):(nilAhead (k+1) t v g).run P w= .ok (some false) w:=by
 obtain⟨f,h⟩:=rV.1 h;unfold fU at h;split at h
 case h_2=>cases h
 rename_i i d hi hu;split at h
 case h_2=>cases h
 rename_i mm j;split at h
 case isFalse=>cases h
 rename_i l;have a:mm.path.toList=[]:=by
  have :=Array.isEmpty_iff.1 l;rw[this]
 unfold nilAhead;have h1:(typeInfo t).run P w= .ok i w:=by simp[typeInfo,hi]
 simp only[Sem.run_bind,h1,Result.andThen_ok,j,a,followBlind,Sem.run_pure];split at h
 ·rename_i m b;rw[b];simp only[Sem.run_pure]
 ·cases h
 ·cases h
 ·rename_i m b c;rw[b];simp only[Sem.run_bind,run_underlying hu,Result.andThen_ok];split;all_goals(first|(rename_i e;exact absurd rfl (c _))|simp only[Sem.run_pure])
 ·cases h
theorem Mc {t : TypeId} {nm : String} (h : (fU P t nm).isSome = true) (x : Value) (c : Array Value) (w : World) :
    (do if (← nilAhead ((← program).types.size + Made.depth) t x nm) != some false then
          unsupported (.noEntry "op/nilCheck.the method's receiver behind this interface value is a nil pointer, or cannot be seen to be none, and the arguments act or may panic (ledger 612)")
        pure (.value (.func (.method nm) #[.iface t x] c)) : Sem Next).run P w = .ok (.value (.func (.method nm) #[.iface t x] c)) w := by
  have hpr : (program : Sem Program).run P w = .ok P w := by rfl
  have hd : P.types.size + Made.depth = (P.types.size + Made.depth - 1) + 1 := by unfold Made.depth; omega
  simp only [Sem.run_bind, hpr, Result.andThen_ok]
  rw [hd, Qu h]
  rfl
theorem IB {ρ:Nat->Nat×Nat}{dom:Nat->Prop}{w:World}{x y:Int}{r:Value}(h:VR ρ dom w (.agg [.i64 x,.i64 y]) r):r= .agg #[.int .i64 x,.int .i64 y]:=by
 unfold VR at h;obtain⟨a,rfl,h⟩:=h;unfold VRs at h;obtain⟨r1,rs,h1,h2,b⟩:=h;unfold VRs at b;obtain⟨r2,e,f,c,d⟩:=b;unfold VRs at d;unfold VR at h2 c;subst h2 c d f;congr 1;exact sW h1
theorem aeA {o:Oper}{a:Act}{ev:Operand->V}{res:Res}(h:bP P o.op ev get0 nid=some res)(u:res.pre)(q:Kg ρ dom w a ev o.op)(j:MemRel ρ dom get w)
  (E:∀ b∈res.fp,get b=get0 b) (S:∀ b,nid<=b->b<nid+res.news.length->¬ dom b):RunsTo P (execOp a.eval o) w ρ dom get nid res:=by
 obtain⟨dst,op,type,pos,after,guard⟩:=o;simp only at h q;unfold Kg at q;unfold execOp;cases op<;>simp only[bP,seval] at h<;>simp only[Op.operands] at q<;>simp only
 case move x=>
  injection h with h;subst h
  exact RunsTo.same j rfl (q x ae) rfl rfl
 case assign x=>
  injection h with h;subst h
  exact RunsTo.same j rfl (q x ae) rfl rfl
 case pick c x y=>
  split at h
  case h_2=>cases h
  rename_i b A;injection h with h;subst h
  have g:=q c ae;rw[A] at g;unfold VR at g;refine RunsTo.same (r:=if b then a.eval x else a.eval y) j (by simp[g,asBool]) ?_ rfl rfl;cases b
  ·exact q y ae
  ·exact q x ae
 case alloc e=>
  split at h
  case h_2=>cases h
  rename_i z M;injection h with h;subst h
  exact(Mw M j (S nid (aH _) ae)).weaken rfl rfl rfl
 case box e x=>
  have g:=q x ae;have fin:ev x≠ .junk->(∀ l,ev x≠ .tup l)->res={v:= .ptr nid 0,news:=[bK ((ev x).cells)]}->RunsTo P (do pure (.value (<-Instr.box e (a.eval x))):Sem Next) w ρ dom get nid res:=by
   intro h1 h2 h3;subst h3;exact Lz g h1 h2 j (S nid (aH _) ae)
  split at h
  ·split at h
   ·cases h
   ·cases h
   ·cases h
   ·rename_i a8 c4 b0;injection h with h
    exact fin (fun e=>a8 e) (fun l e=>b0 l e) h.symm
  ·split at h
   ·rename_i m c5 _ c cs b1;injection h with h
    subst h;rw[b1] at g;exact Lz g (fun e=>by cases e) (fun l e=>by cases e) j (S nid (aH _) ae) (mp:=some m) (fun _ _ e=>by cases e)
   ·cases h
 case build t parts=>
  obtain⟨U,p2⟩:=Jl (ρ:=ρ) (dom:=dom) (w:=w) (a:=a) (ev:=ev) (parts:=parts) (by simpa using q);split at h
  ·rename_i z pl A;simp only[rO] at h;obtain⟨cs,hf,rfl⟩:=h;exact RunsTo.val j (Ls A U p2 hf) rfl rfl
  ·rename_i z s A;simp only[rO] at h;obtain⟨cs,hf,rfl⟩:=h;exact RunsTo.val j (Ls A U p2 hf) rfl rfl
  ·cases h
 case buildSlice t len parts=>
  obtain⟨U,p2⟩:=Jl (ρ:=ρ) (dom:=dom) (w:=w) (a:=a) (ev:=ev) (parts:=parts) (by simpa using q);split at h
  case h_2=>cases h
  rename_i e L;split at h
  case h_2=>cases h
  rename_i s z C M;split at h
  case isFalse=>cases h
  rename_i hc;simp only[rO] at h;obtain⟨cs,hf,rfl⟩:=h;exact afR (xF L) C M hc.1 hc.2.1 hc.2.2 U p2 hf j (S nid (aH _) ae)
 case load t x=>
  have g:=q x ae;split at h
  case h_2=>cases h
  rename_i b p A;rw[A] at g;split at h
  ·rename_i B s F ht C;injection h with h;subst h
   have :=zV j g (by rw[E b ae];exact F) ht C;simp only[if_true] at this;exact RunsTo.val j (this u) rfl rfl
  ·rename_i B s F ht C;injection h with h;subst h
   have :=zV j g (by rw[E b ae];exact F) ht C;simp only[ct,if_false] at this;exact RunsTo.val j (this u) rfl rfl
  ·cases h
 case store t x y=>
  have g:=q x ae;have v2:=q y ae;split at h
  case h_2=>cases h
  rename_i b p A;rw[A] at g;split at h
  case h_3=>cases h
  ·rename_i cs s F C;split at h
   case isFalse=>cases h
   rename_i hc;injection h with h;subst h
   subst hc;exact(FO (o:=⟨dst,.store t x y,type,pos,after,guard⟩) (nid:=nid) j g v2 (fun _ h=>by cases h) (by rw[E b ae];exact F) C u.1 u.2).weaken rfl rfl rfl
  ·rename_i c cs m s F C;split at h
   case isFalse=>cases h
   rename_i hc;injection h with h;subst h
   subst hc;exact(FO (o:=⟨dst,.store t x y,type,pos,after,guard⟩) (nid:=nid) j g v2 (fun _ _ h=>by cases h) (by rw[E b ae];exact F) C u.1 u.2).weaken rfl rfl rfl
 case nilCheck x=>
  have g:=q x ae;split at h
  ·rename_i b p A;injection h with h;subst h
   rw[A] at g;have v2:=g;unfold VR at v2;obtain⟨_,e⟩:=v2;exact RunsTo.same j (by rw[e];rfl) g rfl rfl
  ·rename_i f x1 x2 A;injection h with h;subst h
   rw[A] at g;have v2:=g;unfold VR at v2;obtain⟨f',c',e,_⟩:=v2;exact RunsTo.same j (by rw[e];rfl) g rfl rfl
  ·rename_i nm t v0 A;split at h
   case isFalse=>cases h
   rename_i b2;injection h with h;subst h
   rw[A] at g;have v2:=g;unfold VR at v2;obtain⟨x',e,_⟩:=v2;refine RunsTo.same j ?_ g rfl rfl;rw[e];exact Mc b2 x' #[] w
  ·rename_i t v A;injection h with h;subst h
   rw[A] at g;have v2:=g;unfold VR at v2;obtain⟨f',e,_⟩:=v2;exact RunsTo.same j (by rw[e];rfl) g rfl rfl
  ·cases h
 case binOp op t x y ty=>
  obtain⟨h1,h2⟩:=TD h;exact RunsTo.val j (Z5 j E h u (q x ae) (q y ae)) h1 h2
 case unOp op t x=>
  have N:res.old=[]/\res.news=[]:=by
   unfold rL at h;split at h<;>simp only[cf,seval] at h<;>subst h<;>exact⟨rfl,rfl⟩
  exact RunsTo.val j (Oo h (q x ae)) N.1 N.2
 case convert s d x=>
  have g:=q x ae;unfold uc at h;split at h
  ·rename_i k1 k2 x' G H;simp only[rO] at h;obtain⟨v,hv,rfl⟩:=h;obtain⟨kk,n,e,b3⟩:=Mi hv g;refine RunsTo.val j ⟨_,?_,b3⟩ rfl rfl;rw[e];simp[convert,run_underlying G,run_underlying H,Conv.intToInt]
  ·rename_i b G H A;injection h with h;subst h
   rw[A] at g;have v2:=g;unfold VR at v2;obtain⟨b',e,_⟩:=v2;refine RunsTo.val j ⟨_,?_,g⟩ rfl rfl;rw[e];simp[convert,run_underlying G,run_underlying H]
  ·rename_i e b G H A;split at h
   case h_2=>cases h
   rename_i L;injection h with h;subst h
   rw[A] at g;exact(MB G H L g j (S nid (aH _) ae)).weaken rfl rfl rfl
  ·rename_i e G H A;split at h
   case h_2=>cases h
   rename_i L;injection h with h;subst h
   rw[A] at g;unfold VR at g;refine RunsTo.val j ⟨.string .empty,?_,by unfold VR;exact⟨_,rfl,rfl⟩⟩ rfl rfl;rw[g];simp[convert,run_underlying G,run_underlying H,run_underlying L,Conv.bytesToString]
  ·rename_i e b p len G H A;split at h
   case h_2=>cases h
   rename_i B L F;injection h with h;subst h
   rw[A] at g;exact RunsTo.val j (WK G L H j (by rw[E b ae];exact F) u.1 u.2 g) rfl rfl
  ·cases h
 case makeMap t rsv=>
  cases rsv with
  |some _=>simp at h
  |none=>
   simp only at h;split at h
   case isTrue ht=>
    injection h with h;subst h
    have O:=S nid (aH _) ae;obtain⟨g1,g2⟩:=Lv j O ⟨[],0⟩;refine⟨_,_,.map (some w.heap.size),.inl ?_,rD O,g1,?_,g2⟩
    ·have ho:(⟨[],0⟩:MapC).obj= .map #[] 0:=rfl;rw[ho];simp[Instr.makeMap,newObj,Sem.run]
    ·unfold VR;exact⟨.inr ⟨aa,ae⟩,by rw[fX]⟩
   case isFalse=>
    split at h
    case isFalse=>cases h
    rename_i ht;injection h with h;subst h
    have O:=S nid (aH _) ae;obtain⟨g1,g2⟩:=Lv j O ⟨[ku],0⟩;refine⟨_,_,.map (some w.heap.size),.inl ?_,rD O,g1,?_,g2⟩
    ·have ho:(⟨[ku],0⟩:MapC).obj= .map #[] 0:=MapC.obj_pairy rfl;rw[ho];simp[Instr.makeMap,newObj,Sem.run]
    ·unfold VR;exact⟨.inr ⟨aa,ae⟩,by rw[fX]⟩
 case lookup t x i ok=>
  have g:=q x ae;have v2:=q i ae;split at h
  case h_3=>cases h
  case h_1=>
   rename_i b k Q D hi;split at h
   case h_2=>cases h
   rename_i ro m F;injection h with h;subst h
   rw[D] at g;rw[hi] at v2;unfold VR at g v2;obtain⟨kt,et,hu,W,M⟩:=BB Q;have X:w.heap[(ρ b).1]?=some m.obj:=j.mapc b _ m ((E b ae).trans F) rfl;refine RunsTo.val j ⟨_,by rw[g.2,v2];exact ahs u hu W M X k ok,?_⟩ rfl rfl;cases ok
   ·show VR _ _ _ (.i64 _) _;unfold VR;rfl
   ·show VR _ _ _ (.tup _) _;unfold VR;exact⟨_,rfl,VRs.cons (by unfold VR;rfl) (VRs.cons (by unfold VR;rfl) VRs.nil)⟩
  case h_2=>
   rename_i b x1 y1 Q D hi;split at h
   case h_2=>cases h
   rename_i c6 ro m R F;injection h with h;subst h
   rw[D] at g;rw[hi] at v2;have v2:=IB v2;unfold VR at g;obtain⟨kt,et,el,hu,W,Y,C,M⟩:=Lh R;have X:w.heap[(ρ b).1]?=some m.obj:=j.mapc b _ m ((E b ae).trans F) rfl;obtain⟨p0,U,p2,p3,p4⟩:=u;refine RunsTo.val j ⟨_,by rw[g.2,v2,<-HM U p2 p3 p4];exact Y4 p0 hu W Y C M X (pk x1 y1),?_⟩ rfl rfl;show VR _ _ _ (.i64 _) _;unfold VR;rfl
 case mapUpdate t x i y=>
  have g:=q x ae;have v2:=q i ae;have v3:=q y ae;split at h
  case h_3=>cases h
  case h_1=>
   rename_i b k n Q D hi J;split at h
   case h_2=>cases h
   rename_i m F;injection h with h;subst h
   rw[D] at g;rw[hi] at v2;rw[J] at v3;unfold VR at g v2 v3;obtain⟨kt,et,hu,W,M⟩:=BB Q;have F:=(E b ae).trans F;have X:w.heap[(ρ b).1]?=some m.obj:=j.mapc b _ m F rfl;obtain⟨g1,g2⟩:=Bn (nid:=nid) j F (m.set k n);refine⟨ρ,_,undef,.inr ⟨?_,rfl⟩,fun _ _=>rfl,g1,by unfold VR;trivial,g2⟩;rw[g.2,v2,v3,Sem.run_bind,OS u.1 hu W X _ _ u.2];rfl
  case h_2=>
   rename_i b x1 y1 n Q D hi J;split at h
   case h_2=>cases h
   rename_i m R F;injection h with h;subst h
   rw[D] at g;rw[hi] at v2;rw[J] at v3;have v2:=IB v2;unfold VR at g v3;obtain⟨kt,et,el,hu,W,Y,C,M⟩:=Lh R;have F:=(E b ae).trans F;have X:w.heap[(ρ b).1]?=some m.obj:=j.mapc b _ m F rfl;obtain⟨p0,U,p2,p3,p4⟩:=u;obtain⟨g1,g2⟩:=Bn (nid:=nid) j F (m.set2 (pk x1 y1) n);refine⟨ρ,_,undef,.inr ⟨?_,rfl⟩,fun _ _=>rfl,g1,by unfold VR;trivial,g2⟩;rw[g.2,v2,v3,Sem.run_bind,<-HM U p2 p3 p4,RQ p0 hu W Y C X _ _];rfl
 case makeInterface t x=>
  have g:=q x ae;split at h
  case isFalse=>cases h
  rename_i ht;injection h with h;subst h
  unfold yF at ht;split at ht
  ·cases ht
  ·rename_i d c7 hu;refine RunsTo.val j ⟨.iface t _,?_,by unfold VR;exact⟨_,rfl,g⟩⟩ rfl rfl;simp only[Instr.makeInterface,Sem.run_bind,run_underlying hu,Result.andThen_ok];rfl
  ·cases ht
 case sliceToArrayPointer t x=>
  have g:=q x ae;split at h
  case h_2=>cases h
  rename_i n _ b p len _ ht D;injection h with h;subst h
  rw[D] at g;unfold VR at g;obtain⟨Z,ad,cap,e,c8,ha⟩:=g;obtain⟨c9,e0⟩:=u;obtain⟨rfl,_⟩:=ha aa;refine RunsTo.val j ⟨_,?_,by unfold VR;exact⟨Z,rfl⟩⟩ rfl rfl;rw[e];have b4:¬ (len<n):=aa;simp[Instr.arrayAt,run_underlying (N6 ht),b4]
 case makeFunc fn first caps=>
  split at h
  case h_3=>cases h
  case h_2=>
   split at h
   case h_2=>cases h
   rename_i t v T;split at h
   case isFalse=>cases h
   rename_i a1;injection h with h;subst h
   have a6:=qt (ρ:=ρ) (dom:=dom) (w:=w) (a:=a) (ev:=ev) (l:=first.toList) fun y J=>q y (by simp;exact .inl (by simpa using J))
   rw[T] at a6;unfold VRs at a6;obtain⟨r,rs,e1,e2,e3⟩:=a6;unfold VR at e2;obtain⟨r',e2,b5⟩:=e2;unfold VRs at e3;subst e3 e2;refine RunsTo.val j ⟨_,rfl,?_⟩ rfl rfl;unfold VR;have a1:caps=#[]:=by simpa using a1
   subst a1;refine⟨r',?_,b5⟩;rw[Array.map_empty,show first.map a.eval=#[.iface t r'] from by
    apply sW;rw[vZ];exact e1]
  rename_i f;injection h with h;subst h
  refine RunsTo.val j ⟨_,rfl,?_⟩ rfl rfl;unfold VR;exact⟨_,_,rfl,by simpa using qt fun y J=>q y (by simp;exact .inl (by simpa using J)),by simpa using qt fun y J=>q y (by simp;exact .inr (by simpa using J))⟩
 case makeSlice t l c=>
  have g:=q l ae;have v2:=q c ae;split at h
  case h_2=>cases h
  rename_i e n m L hn b6;split at h
  case h_2=>cases h
  rename_i s e4 z C A M;split at h
  case isFalse=>cases h
  rename_i hc;injection h with h;subst h
  obtain⟨rfl,p2,p3,p4⟩:=u;rw[hn] at g;rw[b6] at v2;unfold VR at g v2;rw[g,v2];exact(XM (xF L) C A M hc.1 hc.2 p2 p3 p4 j (S nid (aH _) ae)).weaken rfl rfl rfl
 case slice t x lo hi mx=>
  cases mx with
  |some _=>simp at h
  |none=>
   simp only[vG,ct,if_false] at h;have g:=q x ae;have o1:=Kl (x:=lo) fun y J=>q y (by simp at J |-;simp[J])
   have o2:=Kl (x:=hi) fun y J=>q y (by simp at J |-;simp[J])
   simp only[qx];split at h
   ·rename_i s hu D;split at h
    case h_2=>cases h
    rename_i l hh T K;injection h with h;subst h
    rw[D] at g;exact RunsTo.val j (Zd hu g T K u.1 u.2.1 u.2.2 o1 o2) rfl rfl
   ·rename_i e b p len c0 hu D;split at h
    case h_2=>cases h
    rename_i l hh T K;split at h
    case h_2=>cases h
    rename_i s C;split at h
    case isFalse=>cases h
    rename_i L;subst L;injection h with h;subst h
    rw[D] at g;exact RunsTo.val j (Zu hu C g T K u.1 u.2.1 u.2.2 o1 o2) rfl rfl
   ·rename_i e hu D;split at h
    case h_2=>cases h
    rename_i l hh s T K C;injection h with h;subst h
    obtain⟨rfl,rfl⟩:=u;rw[D] at g;have v2:=g;unfold VR at v2;have A:=Ay (P:=P) (isS:=true) (cap:=0) T K (cC _) (cC _) (cC _) (aH _) o1 o2;refine RunsTo.val j ⟨_,?_,g⟩ rfl rfl;rw[v2];simp[Instr.sliceAt,run_underlying hu,Instr.slice,A,oB C]
   ·rename_i n e b p hu D;split at h
    case h_2=>cases h
    rename_i l hh s cs T K C F;injection h with h;subst h
    rw[D] at g;exact RunsTo.val j (SJ hu C j (by rw[E b ae];exact F) g T K u.1 u.2.1 u.2.2.1 u.2.2.2 o1 o2) rfl rfl
   ·cases h
 case fieldAddr s x f=>
  have g:=q x ae;split at h
  case h_2=>cases h
  rename_i off ft b p I D;split at h
  case h_2=>cases h
  rename_i n hn;split at h
  case isTrue=>cases h
  rename_i c1;injection h with h;subst h
  rw[D] at g;unfold VR at g;obtain⟨Z,e⟩:=g;unfold aP at I;split at I
  case h_2=>cases I
  rename_i fs hu;split at I
  case h_2=>cases I
  rename_i c2 a7;injection I with I
  simp only[gI] at I;obtain⟨rfl,rfl⟩:=I;refine RunsTo.val j ⟨.pointer (some ⟨(ρ b).1,(ρ b).2+(p+c2.offset),none⟩),?_,by unfold VR;exact⟨Z,rfl⟩⟩ rfl rfl;rw[e];simp[Instr.fieldAt,run_underlying hu,a7,Instr.sureAddr,fieldPlace,oB hn,c1,DJ,kh]
 case indexAddr t x i=>
  have g:=q x ae;have v2:=q i ae;split at h
  ·rename_i n e b p ii hu D hi;split at h
   case h_2=>cases h
   rename_i s C;injection h with h;subst h
   rw[D] at g;exact RunsTo.val j (OQ hu C g hi v2 u.1 u.2) rfl rfl
  ·rename_i e b p len c0 ii hu D hi;split at h
   case h_2=>cases h
   rename_i s C;split at h
   case isFalse=>cases h
   rename_i L;subst L;injection h with h;subst h
   rw[D] at g;exact RunsTo.val j (ad5 hu C g hi v2 u.1 u.2) rfl rfl
  ·cases h
 case index t x i=>
  have g:=q x ae;have v2:=q i ae;split at h
  ·rename_i n e cs ii hu D hi;rw[D] at g;split at h
   ·rename_i s ht C;injection h with h;subst h
    have :=KJ hu ht C g hi v2 u.1 u.2.1;simp only[ct,if_false] at this;exact RunsTo.val j (this u.2.2) rfl rfl
   ·rename_i s ht C;injection h with h;subst h
    have :=KJ hu ht C g hi v2 u.1 u.2;simp only[if_true] at this;exact RunsTo.val j this rfl rfl
   ·cases h
  ·rename_i s ii hu D hi;injection h with h;subst h
   rw[D] at g;exact RunsTo.val j (Wh hu g hi v2 u.1 u.2) rfl rfl
  ·cases h
 case extract t i=>
  have g:=q t ae;split at h
  case h_2=>cases h
  rename_i vs D;split at h
  case h_2=>cases h
  rename_i v hv;injection h with h;subst h
  rw[D] at g;unfold VR at g;obtain⟨rs,e,c3⟩:=g;obtain⟨r,g1,g2⟩:=c3.get hv;refine RunsTo.val j ⟨r,?_,g2⟩ rfl rfl;rw[e];have :rs[i]?=some r:=by rw[<-g1];simp
  simp[Instr.extract,this]
 case call c=>
  obtain⟨callee,args,argTypes⟩:=c;cases callee with
  |builtin b=>
   exact ags (ty:=type) (a:=a) h u (fun y J=>q y (by simp[Call.operands];simpa using J)) j E S
  |value f=>simp at h
  |invoke r m=>simp at h
 all_goals cases h
end
end
section
structure St where
 t:List (Nat×V)
 H:List (Option Blk)
def aj:List (Nat×V)->Nat->V
 |[],_=> .junk
 |(i,v)::r,t=>if i=t then v else aj r t
def St.get (s:St)(t:Nat):V:=aj s.t t
def ag (H:List (Option Blk))(b:Nat):Option Blk:=(H[b]?).join
def St.ev (s:St):Operand->V
 | .tmp t=>s.get t
 | .const v=>ofValue v
 | .func f=> .fn f [] []
 | .global _=> .junk
def cK (H:List (Option Blk)):List (Nat×Option Blk)->List (Option Blk)
 |[]=>H
 |(i,x)::r=>(cK H r).set i x
def putS (t:List (Nat×V)):Option Tmp->V->List (Nat×V)
 |some d,v=>(d,v)::t
 |none,_=>t
def St.after (s:St)(dst:Option Tmp)(res:Res):St:=⟨putS s.t dst res.v,cK s.H res.old++res.news⟩
def St.put (s:St)(dst:Option Tmp)(v:V):St:=⟨putS s.t dst v,s.H⟩
def fV (n:Nat):Option Tmp->Prop
 |some d=>d<n
 |none=>True
structure RelT (ρ:Nat->Nat×Nat) (dom:Nat->Prop) (w:World) (n:Nat) (T:Nat->V) (a:Act):Prop where
 size:a.tmps.size=n
 defers:a.defers=[]
 slot:∀ t,VR ρ dom w (T t) (a.tmps.getD t undef)
structure RelSt (ρ:Nat->Nat×Nat) (n:Nat) (s:St) (a:Act) (w:World):Prop where
 tmps:RelT ρ (· <s.H.length) w n s.get a
 mem:MemRel ρ (· <s.H.length) (ag s.H) w
section
variable {ρ ρ':Nat->Nat×Nat}{dom dom':Nat->Prop}{P:Program}{w w':World}{n:Nat}{a:Act}
theorem RelT.mono {T:Nat->V}(h:RelT ρ dom w n T a)(c:∀ b,dom b->ρ' b=ρ b)(d:∀ b,dom b->dom' b)(e:Lasts w w'):RelT ρ' dom' w' n T a:=
 ⟨h.size,h.defers,fun t=>(h.slot t).mono c d e⟩
theorem RelT.eval {s:St}(h:RelT ρ dom w n s.get a)(x:Operand):VR ρ dom w (s.ev x) (a.eval x):=by
 cases x with
 |tmp t=>exact h.slot t
 |const v=>exact AV v
 |global g=>show VR ρ dom w .junk _;unfold VR;trivial
 |func f=>show VR ρ dom w (.fn f [] []) _;unfold VR;exact⟨#[],#[],rfl,VRs.nil,VRs.nil⟩
theorem wI (a:Act)(d:Tmp)(r:Value)(t:Nat)(b:d<a.tmps.size):(a.put (some d) r).tmps.getD t undef=if d=t then r else a.tmps.getD t undef:=by
 simp only[Act.put,lY,BX];by_cases e:d=t
 ·subst e;simp[b]
 ·simp[e]
theorem RelT.put {t:List (Nat×V)}{dst:Option Tmp}{v:V}{r:Value}(h:RelT ρ dom w n (aj t) a)(c:fV n dst)(f:VR ρ dom w v r):RelT ρ dom w n (aj (putS t dst v)) (a.put dst r):=by
 cases dst with
 |none=>exact h
 |some d=>
  refine⟨by simpa [Act.put] using h.size,h.defers,fun b=>?_⟩;rw[wI a d r b (by rw[h.size];exact c)];show VR ρ dom w (if d=b then v else aj t b) _;by_cases e:d=b
  ·rw[if_pos e,if_pos e];exact f
  ·rw[if_neg e,if_neg e];exact h.slot b
theorem eT (H:List (Option Blk)):∀ old,(cK H old).length=H.length
 |[]=>rfl
 |(i,x)::r=>by simp[cK,eT H r]
theorem oT (H:List (Option Blk)):∀ old (b:Nat),b<H.length->ag (cK H old) b=gQ old b (ag H b)
 |[],_,_=>rfl
 |(i,x)::r,b,c=>by
  have ih:=oT H r b c;unfold ag at*;simp only[cK,gQ,wH];by_cases e:i=b
  ·subst e;rw[if_pos rfl,if_pos (by rw[eT];exact c),if_pos rfl];rfl
  ·rw[if_neg e,if_neg (fun x=>e x.symm)];exact ih
theorem aby (s:St)(dst:Option Tmp)(res:Res)(b:Nat)(B:Blk)(h:ag (s.after dst res).H b=some B):bZ (ag s.H) res.old s.H.length res.news b=some B:=by
 unfold bZ;show(if s.H.length<=b/\b<s.H.length+res.news.length then _ else _)=_;have g:=eT s.H res.old;simp only[St.after] at h;by_cases i:b<s.H.length
 ·rw[if_neg aa,<-oT s.H res.old b i];unfold ag at h |-
  rw[gh aa] at h;exact h
 ·unfold ag at h;rw[dL aa,g] at h;by_cases h2:b<s.H.length+res.news.length
  ·rw[if_pos ⟨aa,h2⟩];exact h
  ·rw[gi aa] at h;cases h
def Spec (P:Program)(f:FuncId)(args:List V)(get0:Nat->Option Blk)(nid:Nat)(res:Res):Prop:=
 ∀ (ρ:Nat->Nat×Nat) (dom:Nat->Prop) (get:Nat->Option Blk) (w:World) (c:Array Value),MemRel ρ dom get w->VRs ρ dom w args c.toList->(∀ b∈res.fp,get b=get0 b/\(b<nid->dom b))->(∀ b,nid<=b->b<nid+res.news.length->¬ dom b)->
  Calls P f c w fun e w'=>∃ r ρ',e= .returned r/\(∀ b,dom b->ρ' b=ρ b)/\MemRel ρ' (cU dom nid res.news.length) (bZ get res.old nid res.news) w'/\VR ρ' (cU dom nid res.news.length) w' res.v r/\Frame ρ get w ρ' (bZ get res.old nid res.news) w'
def eu (P:Program)(f:FuncId):Bool:=match P.funcs[f]? with
 |some fn=>fn.name != "runtime.NumGoroutine"&&fn.body.isSome
 |none=>false
def ta (P:Program)(f:FuncId)(args:List V)(v:V):Prop:=
 ∀ (ρ:Nat->Nat×Nat) (dom:Nat->Prop) (w:World) (b:Array Value),VRs ρ dom w args b.toList->∃ r,(callFunc f b).run P w= .ok (.value r) w/\VR ρ dom w v r
def VCall (P:Program)(c:V)(args:List V)(get0:Nat->Option Blk)(nid:Nat)(res:Res):Prop:=
 (∃ f fs cs,c= .fn f fs cs/\eu P f=true/\res.pre/\Spec P f (fs++args++cs) get0 nid res)\/
 (∃ f fs cs,c= .fn f fs cs/\res.old=[]/\res.news=[]/\ta P f (fs++args++cs) res.v)\/
 (∃ d t v f,c= .aFn d t v/\fU P t d=some f/\eu P f=true/\res.pre/\Spec P f (v::args) get0 nid res)
def OpExec (P:Program)(o:Oper)(ev:Operand->V)(get0:Nat->Option Blk)(nid:Nat)(res:Res):Prop:=
 ∀ (ρ:Nat->Nat×Nat) (dom:Nat->Prop) (get:Nat->Option Blk) (w:World) (a:Act) (next:Act->World->Prop) (Q:Exit->Act->World->Prop),
  (∀ x∈o.op.operands.toList,VR ρ dom w (ev x) (a.eval x))->MemRel ρ dom get w->(∀ b∈res.fp,get b=get0 b/\(b<nid->dom b))->(∀ b,nid<=b->b<nid+res.news.length->¬ dom b)->
  (∀ ρ' w' r,(∀ b,dom b->ρ' b=ρ b)->MemRel ρ' (cU dom nid res.news.length) (bZ get res.old nid res.news) w'->VR ρ' (cU dom nid res.news.length) w' res.v r->Frame ρ get w ρ' (bZ get res.old nid res.news) w'->next (a.put o.dst r) w')->
  o.wp P a w next Q
def By (J:Nat->Option Blk->Prop)(P:Program)(o:Oper)(ev:Operand->V)(get0:Nat->Option Blk)(nid:Nat)(res:Res):Prop:=
 ∀ (ρ:Nat->Nat×Nat) (dom:Nat->Prop) (get:Nat->Option Blk) (w:World) (a:Act) (next:Act->World->Prop) (Q:Exit->Act->World->Prop),
  (∀ x∈o.op.operands.toList,VR ρ dom w (ev x) (a.eval x))->MemRel ρ dom get w->(∀ b∈res.fp,get b=get0 b/\(b<nid->dom b))->(∀ b,nid<=b->b<nid+res.news.length->¬ dom b)->(∀ b,J b (get b))->
  (∀ ρ' w' r,(∀ b,dom b->ρ' b=ρ b)->MemRel ρ' (cU dom nid res.news.length) (bZ get res.old nid res.news) w'->VR ρ' (cU dom nid res.news.length) w' res.v r->Frame ρ get w ρ' (bZ get res.old nid res.news) w'->next (a.put o.dst r) w')->
  o.wp P a w next Q
theorem OpExec.toJ {J:Nat->Option Blk->Prop}{o:Oper}{ev:Operand->V}{get0:Nat->Option Blk}{nid:Nat}{res:Res}(h:OpExec P o ev get0 nid res):By J P o ev get0 nid res:=
 fun ρ dom get w a next Q h1 h2 b c _ d=>h ρ dom get w a next Q h1 h2 b c d
theorem OpExec.of_vop {o:Oper}{ev:Operand->V}{get0:Nat->Option Blk}{nid:Nat}{res:Res}(h:bP P o.op ev get0 nid=some res)(i:res.pre):OpExec P o ev get0 nid res:=by
 intro ρ dom get w a next Q j k c l d;obtain⟨ρ',w',r,h1,h2,e,f,g⟩:=aeA h i j k (fun b m=>(c b m).1) l;unfold Oper.wp;rcases h1 with h1|⟨h1,rfl⟩
 ·rw[h1,Oper.upon_value];exact d ρ' w' r h2 e f g
 ·rw[h1,Oper.upon_skip];exact d ρ' w' undef h2 e f g
theorem xh {f:FuncId}{args:Array Value}(h:eu P f=true):(callFunc f args).run P w= .ok (.enter f args) w:=by
 unfold eu at h;unfold callFunc;cases b:P.funcs[f]? with
 |none=>rw[b] at h;cases h
 |some fn=>
  rw[b] at h;simp only[ic,bne_iff_ne] at h;have h2:fn.body≠none:=fun e=>by rw[e] at h;simp at h
  simp[b,h.1,h2]
theorem Fm {t:TypeId}{name:String}{f:FuncId}(h:fU P t name=some f)(k:Nat)(v:Value)(w:World):(method (k+1) t v name).run P w= .ok (f,v) w:=by
 unfold fU at h;split at h
 case h_2=>cases h
 rename_i i d hi hu;split at h
 case h_2=>cases h
 rename_i mm e;split at h
 case isFalse=>cases h
 rename_i g;have b:mm.path.toList=[]:=by
  have :=Array.isEmpty_iff.1 g;rw[this]
 unfold method;have h1:(typeInfo t).run P w= .ok i w:=by simp[typeInfo,hi]
 simp only[Sem.run_bind,h1,Result.andThen_ok,e,b,follow,Sem.run_pure];split at h
 ·rename_i j _ c;injection h with h;subst h
  rw[c];simp only[receiverAt,Sem.run_bind,run_underlying hu,Result.andThen_ok,Place.get,Sem.run_pure]
 ·cases h
 ·cases h
 ·rename_i j c l;injection h with h;subst h
  rw[c];simp only[receiverAt,Sem.run_bind,run_underlying hu,Result.andThen_ok,Place.get,Sem.run_pure]
 ·cases h
theorem OpExec.of_meth {o:Oper}{c:Call}{j:Operand}{z:String}{t:TypeId}{v:V}{f:FuncId}{ev:Operand->V}{get0:Nat->Option Blk}{nid:Nat}{res:Res}(A:o.op= .call c)(hc:c.callee= .value j)(B:ev j= .aFn z t v)(C:fU P t z=some f)(k:eu P f=true)(D:Spec P f (v::c.args.toList.map ev) get0 nid res):OpExec P o ev get0 nid res:=by
 intro ρ dom get w a next Q l h m p E;rw[A] at l;have q:=l j (by simp[Op.operands,Call.operands,hc]);rw[B] at q;unfold VR at q;obtain⟨g,e,g0⟩:=q;have b:VRs ρ dom w (c.args.toList.map ev) (c.args.toList.map a.eval):=qt fun y F=>l y (by simp[Op.operands,Call.operands,hc];exact .inr (by simpa using F))
 have i:VRs ρ dom w (v::c.args.toList.map ev) (#[g]++c.args.map a.eval).toList:=by
  rw[Dy,vZ];exact VRs.cons g0 b
 have d:(execOp a.eval o).run P w=(callFunc f (#[g]++c.args.map a.eval)).run P w:=by
  unfold execOp;rw[A];have s:(#[Value.iface t g]++c.args.map a.eval)[0]?=some (.iface t g):=by
   rw[wG ae];rfl
  have u:(#[Value.iface t g]++c.args.map a.eval).extract 1 (#[Value.iface t g]++c.args.map a.eval).size=c.args.map a.eval:=by
   apply sW;simp;rw[ar ae]
  have x:(program:Sem Program).run P w= .ok P w:=aZ;simp only[resolve,hc,e,Deferred.ofValue,Sem.run_bind,Sem.run_pure,Result.andThen_ok,invoke,s,callMethod,u,x];have p:P.types.size+Made.depth=(P.types.size+Made.depth-1)+1:=by unfold Made.depth;omega
  rw[p,Fm C];rfl
 unfold Oper.wp;rw[d,xh k,Oper.upon_enter];refine(D ρ dom get w _ h i m p).mono fun e w' G=>?_
 obtain⟨r,ρ',rfl,h2,H,I,J⟩:=G;exact E ρ' w' r h2 H I J
theorem OpExec.of_call {o:Oper}{c:Call}{s:Operand}{ev:Operand->V}{get0:Nat->Option Blk}{nid:Nat}{res:Res}(l:o.op= .call c)(hc:c.callee= .value s)(h:VCall P (ev s) (c.args.toList.map ev) get0 nid res):OpExec P o ev get0 nid res:=by
 rcases h with⟨f,fs,cs,m,i,_,p⟩|⟨f,fs,cs,m,h0,h1,p⟩|⟨M,t,v,f,m,z,i,_,p⟩
 case inr.inr=>exact OpExec.of_meth l hc m z i p
 all_goals intro ρ dom get w a next Q k F A H G
 rotate_left
 ·rw[l] at k;have j:=k s (by simp[Op.operands,Call.operands,hc]);rw[m] at j;unfold VR at j;obtain⟨u,x,e,g1,g2⟩:=j;have d:VRs ρ dom w (c.args.toList.map ev) (c.args.toList.map a.eval):=qt fun y B=>k y (by simp[Op.operands,Call.operands,hc];exact .inr (by simpa using B))
  obtain⟨r,C,D⟩:=p ρ dom w (u++c.args.map a.eval++x) (by simpa using(g1.append d).append g2);have g:(execOp a.eval o).run P w= .ok (.value r) w:=by
   unfold execOp;rw[l];simp only[resolve,hc,e,Deferred.ofValue,Sem.run_bind,Sem.run_pure,Result.andThen_ok,invoke,C]
  unfold Oper.wp;rw[g,Oper.upon_value];have q:∀ b,dom b->cU dom nid res.news.length b:=fun b E=>Or.inl E
  refine G ρ w r (fun _ _=>rfl) ?_ (D.mono (fun b _=>rfl) q (Lasts.refl _)) ?_
  ·rw[h0,h1,p9];exact F.monoDom fun b E=>Or.inl E
  ·rw[h0,h1,p9];exact Frame.refl ρ get w
 rw[l] at k;have j:=k s (by simp[Op.operands,Call.operands,hc]);rw[m] at j;unfold VR at j;obtain⟨u,x,e,g1,g2⟩:=j;have d:VRs ρ dom w (c.args.toList.map ev) (c.args.toList.map a.eval):=qt fun y B=>k y (by simp[Op.operands,Call.operands,hc];exact .inr (by simpa using B))
 have g:(execOp a.eval o).run P w= .ok (.enter f (u++c.args.map a.eval++x)) w:=by
  unfold execOp;rw[l];simp only[resolve,hc,e,Deferred.ofValue,Sem.run_bind,Sem.run_pure,Result.andThen_ok,invoke,xh i]
 unfold Oper.wp;rw[g,Oper.upon_enter];refine(p ρ dom get w (u++c.args.map a.eval++x) F (by simpa using(g1.append d).append g2) A H).mono fun e w' I=>?_
 obtain⟨r,ρ',rfl,h2,J,K,L⟩:=I;exact G ρ' w' r h2 J K L
theorem OpExec.of_invoke {o:Oper}{c:Call}{x:Operand}{name:String}{t:TypeId}{v:V}{f:FuncId}{ev:Operand->V}{get0:Nat->Option Blk}{nid:Nat}{res:Res}(L:o.op= .call c)(hc:c.callee= .invoke x name)(N:ev x= .iface t v)(O:fU P t name=some f)(h:VCall P (.fn f [] []) (v::c.args.toList.map ev) get0 nid res):OpExec P o ev get0 nid res:=by
 intro ρ dom get w a next Q A i B C M;rw[L] at A;have D:=A x (by simp[Op.operands,Call.operands,hc]);rw[N] at D;unfold VR at D;obtain⟨q,e,g0⟩:=D;have k:VRs ρ dom w (c.args.toList.map ev) (c.args.toList.map a.eval):=qt fun y R=>A y (by simp[Op.operands,Call.operands,hc];exact .inr (by simpa using R))
 have j:VRs ρ dom w (v::c.args.toList.map ev) (#[q]++c.args.map a.eval).toList:=by
  rw[Dy,vZ];exact VRs.cons g0 k
 have d:(execOp a.eval o).run P w=(callFunc f (#[q]++c.args.map a.eval)).run P w:=by
  unfold execOp;rw[L];have E:(#[Value.iface t q]++c.args.map a.eval)[0]?=some (.iface t q):=by
   rw[wG ae];rfl
  have F:(#[Value.iface t q]++c.args.map a.eval).extract 1 (#[Value.iface t q]++c.args.map a.eval).size=c.args.map a.eval:=by
   apply sW;simp;rw[ar ae]
  have G:(program:Sem Program).run P w= .ok P w:=aZ;simp only[resolve,hc,e,Sem.run_bind,Sem.run_pure,Result.andThen_ok,invoke,E,callMethod,F,G];have C:P.types.size+Made.depth=(P.types.size+Made.depth-1)+1:=by unfold Made.depth;omega
  rw[C,Fm O];rfl
 rcases h with⟨g,fs,cs,s,H,_,u⟩|⟨g,fs,cs,s,h0,h1,u⟩|⟨_,_,_,_,s,_⟩
 case inr.inr=>cases s
 rotate_left
 ·injection s with l m p
  subst l m p;simp only[ff,iw] at u;obtain⟨r,I,J⟩:=u ρ dom w _ j;unfold Oper.wp;rw[d,I,Oper.upon_value];have z:∀ b,dom b->cU dom nid res.news.length b:=fun b K=>Or.inl K
  refine M ρ w r (fun _ _=>rfl) ?_ (J.mono (fun b _=>rfl) z (Lasts.refl _)) ?_
  ·rw[h0,h1,p9];exact i.monoDom fun b K=>Or.inl K
  ·rw[h0,h1,p9];exact Frame.refl ρ get w
 injection s with l m p
 subst l m p;simp only[ff,iw] at u;unfold Oper.wp;rw[d,xh H,Oper.upon_enter];refine(u ρ dom get w _ i j B C).mono fun e w' S=>?_
 obtain⟨r,ρ',rfl,h2,T,U,W⟩:=S;exact M ρ' w' r h2 T U W
def gZ (r:Option Res)(K:Res->Prop):Prop:=match r with
 |some res=>res.pre/\K res
 |none=>False
theorem Qk (r:Res)(K:Res->Prop):gZ (some r) K=(r.pre/\K r):=rfl
def vcall (P:Program)(f:V)(args:List V)(H:List (Option Blk))(K:Res->Prop):Prop:=∃ res,VCall P f args (ag H) H.length res/\K res
def rz (P:Program)(v:V)(name:String)(args:List V)(H:List (Option Blk))(K:Res->Prop):Prop:=match v with
 | .iface t v=>match fU P t name with
  |some f=>vcall P (.fn f [] []) (v::args) H K
  |none=>False
 |_=>False
def eN (P:Program)(o:Op)(s:St)(K:Res->Prop):Prop:=match o with
 | .call c=>match c.callee with
  | .value f=>vcall P (s.ev f) (c.args.toList.map s.ev) s.H K
  | .builtin b=>gZ (oR P b c.argTypes.toList (c.args.toList.map s.ev) (ag s.H) s.H.length) K
  | .invoke x name=>rz P (s.ev x) name (c.args.toList.map s.ev) s.H K
 |op=>gZ (bP P op s.ev (ag s.H) s.H.length) K
theorem DE {o:Oper}{s:St}{K:Res->Prop}(h:eN P o.op s K):∃ res,OpExec P o s.ev (ag s.H) s.H.length res/\K res:=by
 have fin:gZ (bP P o.op s.ev (ag s.H) s.H.length) K->∃ res,OpExec P o s.ev (ag s.H) s.H.length res/\K res:=fun h=>by
  unfold gZ at h;split at h
  ·rename_i res d;exact⟨res,OpExec.of_vop d h.1,h.2⟩
  ·exact h.elim
 unfold eN at h;split at h
 ·rename_i c hc;split at h
  ·rename_i f e;obtain⟨res,h1,h2⟩:=h;exact⟨res,OpExec.of_call hc e h1,h2⟩
  ·rename_i b g;refine fin ?_;rw[hc];simp only[bP,g];exact h
  ·rename_i x name e;unfold rz at h;split at h
   case h_2=>exact h.elim
   rename_i t v d;split at h
   case h_2=>exact h.elim
   rename_i f i;obtain⟨res,h1,h2⟩:=h;exact⟨res,OpExec.of_invoke hc e d i h1,h2⟩
 ·exact fin h
def j6 (ops:Array Oper)(j:Nat):Option Tmp:=(ops[j]?).bind (·.dst)
def hold {α:Type}(x:α):α:=x
def kf (v:V)(want:Bool)(X Y:Prop):Prop:=match v with
 | .bool b=>(b=want->X)/\(b≠want->Y)
 | .tup []=>Y
 |_=>False
def cM (P:Program)(n:Nat)(ops:Array Oper):List Oper->St->(St->Prop)->Prop
 |[],s,K=>K s
 |o::rest,s,K=>fV n o.dst/\match o.guard with
  |none=>eN P o.op s (hold fun res=>cM P n ops rest (s.after o.dst res) K)
  |some (j,want)=>match j6 ops j with
   |some d=>d<n/\kf (s.get d) want (eN P o.op s (hold fun res=>cM P n ops rest (s.after o.dst res) K)) (cM P n ops rest (s.put o.dst (.tup [])) K)
   |none=>False
def Step (m:Nat)(ρ:Nat->Nat×Nat)(s:St)(w:World)(ρ':Nat->Nat×Nat)(s':St)(w':World):Prop:=
 m<=s'.H.length/\(∀ b,b<m->ρ' b=ρ b)/\Frame ρ (ag s.H) w ρ' (ag s'.H) w'
theorem Step.refl {m:Nat}{s:St}(h:m<=s.H.length):Step m ρ s w ρ s w:=⟨h,fun _ _=>rfl,Frame.refl _ _ _⟩
theorem Step.trans {m:Nat}{ρ'':Nat->Nat×Nat}{s s' c:St}{d:World}(h:Step m ρ s w ρ' s' w')(k:Step m ρ' s' w' ρ'' c d):Step m ρ s w ρ'' c d:=
 ⟨k.1,fun b e=>(k.2.1 b e).trans (h.2.1 b e),h.2.2.trans k.2.2⟩
def zE (m n:Nat)(ρ:Nat->Nat×Nat)(s:St)(w:World)(K:St->Prop)(a':Act)(w':World):Prop:=∃ s' ρ',K s'/\RelSt ρ' n s' a' w'/\Step m ρ s w ρ' s' w'
theorem Lr {ops:Array Oper}{o:Oper}{j d:Nat}{want b:Bool}(g:o.guard=some (j,want))(e:j6 ops j=some d)(i:d<a.tmps.size)(c:a.tmps.getD d undef= .bool b):Region.wanted o (yielded ops a.tmps)=(b==want):=by
 have h:yielded ops a.tmps j=some b:=by
  unfold yielded;unfold j6 at e;rw[e];have :a.tmps[d]?=some (.bool b):=by
   rw[lY] at c;cases f:a.tmps[d]? with
   |none=>simp at f;omega
   |some x=>rw[f] at c;simpa using c
  simp[this]
 unfold Region.wanted;rw[g];simp only[h];cases b<;>cases want<;>rfl
theorem I0 {ops:Array Oper}{o:Oper}{j d:Nat}{want:Bool}(f:o.guard=some (j,want))(e:j6 ops j=some d)(b:a.tmps.getD d undef= .tuple #[]):Region.wanted o (yielded ops a.tmps)=false:=by
 have g:yielded ops a.tmps j=none:=by
  unfold yielded;unfold j6 at e;rw[e];rw[lY] at b;cases c:a.tmps[d]? with
  |none=>simp[c]
  |some x=>
   rw[c] at b;have :x= .tuple #[]:=by simpa using b
   subst this;simp[c]
 unfold Region.wanted;rw[f];simp only[g];cases want<;>rfl
theorem BR:VR ρ dom w (.tup []) undef:=by unfold VR;exact⟨#[],rfl,VRs.nil⟩
theorem Jm {m:Nat}{s:St}{o:Oper}{res:Res}{r:Value}(h:RelSt ρ n s a w)(t:m<=s.H.length)(k:fV n o.dst)(g:∀ b,b<s.H.length->ρ' b=ρ b)
  (l:MemRel ρ' (cU (· <s.H.length) s.H.length res.news.length) (bZ (ag s.H) res.old s.H.length res.news) w') (p:VR ρ' (cU (· <s.H.length) s.H.length res.news.length) w' res.v r)
  (i:Frame ρ (ag s.H) w ρ' (bZ (ag s.H) res.old s.H.length res.news) w'):RelSt ρ' n (s.after o.dst res) (a.put o.dst r) w'/\Step m ρ s w ρ' (s.after o.dst res) w':=by
 have c:(s.after o.dst res).H.length=s.H.length+res.news.length:=by simp[St.after,eT]
 have e:∀ b,cU (· <s.H.length) s.H.length res.news.length b->b<(s.after o.dst res).H.length:=fun b d=>by
  rw[c];rcases d with d|d
  ·have :b<s.H.length:=d;omega
  ·exact d.2
 have j:=aby s o.dst res;refine⟨⟨?_,?_⟩,?_,?_,?_⟩
 ·exact RelT.put (h.tmps.mono g (fun b d=>e b (.inl d)) i.lasts) k (p.mono (fun _ _=>rfl) e (Lasts.refl _))
 ·exact(l.less j).monoDom e
 ·rw[c];omega
 ·exact fun b d=>g b aa
 ·exact i.less fun b B q f=>⟨b,B,j b B q,f,rfl⟩
theorem xg {m:Nat}{ops:Array Oper}{Q:Exit->Act->World->Prop}:∀ (l:List Nat) (os:List Oper) (s:St) (K:St->Prop),l.map (ops[·]?)=os.map some->cM P n ops os s K->∀ (ρ:Nat->Nat×Nat) (a:Act) (w:World),RelSt ρ n s a w->m<=s.H.length->
  (∀ a' w',zE m n ρ s w K a' w'->Q .normal a' w')->wpOps P ops Q l a w
 |[],[],s,K,_,h,ρ,a,w,c,t,u=>u a w ⟨s,ρ,h,c,Step.refl t⟩
 |[],_::_,_,_,k,_,_,_,_,_,_,_=>by simp at k
 |_::_,[],_,_,k,_,_,_,_,_,_,_=>by simp at k
 |i::l,o::os,s,K,k,h,ρ,a,w,c,t,u=>by
  simp only[bN,List.cons.injEq] at k;obtain⟨B,k⟩:=k;obtain⟨C,h⟩:=h;have go:Region.wanted o (yielded ops a.tmps)=true->(eN P o.op s fun res=>cM P n ops os (s.after o.dst res) K)->wpOps P ops Q (i::l) a w:=fun hw J=>by
   obtain⟨res,h1,h2⟩:=DE J;simp only[wpOps,B,hw,if_true];refine .inl (h1 ρ (· <s.H.length) (ag s.H) w a _ Q (fun x _=>c.tmps.eval x) c.mem (fun _ _=>⟨rfl,id⟩) (fun b L M (N:b<s.H.length)=>by omega) ?_);intro ρ' w' r g1 g2 g3 g4;obtain⟨k1,k2⟩:=Jm (m:=m) c t C g1 g2 g3 g4;refine xg l os _ K k h2 ρ' _ w' k1 k2.1 fun a' f ⟨s',ρ'',v,y,z⟩=>u a' f ⟨s',ρ'',v,y,k2.trans z⟩
  cases A:o.guard with
  |none=>
   rw[A] at h;exact go (by unfold Region.wanted;rw[A]) h
  |some g=>
   obtain⟨j,want⟩:=g;rw[A] at h;simp only at h;split at h
   case h_2=>exact h.elim
   rename_i d G;obtain⟨D,h⟩:=h;unfold kf at h;split at h
   case h_3=>exact h.elim
   case h_2=>
    rename_i E;have p:=c.tmps.slot d;rw[E] at p;unfold VR at p;obtain⟨a0,O,I⟩:=p;have F:a0=#[]:=by unfold VRs at I;exact Array.toList_eq_nil_iff.1 I
    subst F;have q:=I0 A G O;simp only[wpOps,B,q,ct,if_false];have k1:RelSt ρ n (s.put o.dst (.tup [])) (a.put o.dst undef) w:=⟨RelT.put c.tmps C BR,c.mem⟩;exact xg l os _ K k h ρ _ w k1 t fun a' f ⟨s',ρ'',v,y,z⟩=>u a' f ⟨s',ρ'',v,y,z⟩
   rename_i b E;obtain⟨h1,h2⟩:=h;have p:=c.tmps.slot d;rw[E] at p;unfold VR at p;have hw:=Lr A G (by rw[c.tmps.size];exact D) p;by_cases e:b=want
   ·exact go (by rw[hw,e];simp) (h1 e)
   ·have q:Region.wanted o (yielded ops a.tmps)=false:=by rw[hw];simpa using e
    simp only[wpOps,B,q,ct,if_false];have k1:RelSt ρ n (s.put o.dst (.tup [])) (a.put o.dst undef) w:=⟨RelT.put c.tmps C BR,c.mem⟩;exact xg l os _ K k (h2 e) ρ _ w k1 t fun a' f ⟨s',ρ'',v,y,z⟩=>u a' f ⟨s',ρ'',v,y,z⟩
theorem M0 {m id:Nat}{ops:Array Oper}{s:St}{K:St->Prop}{Q:Exit->Act->World->Prop}(h:cM P n ops ops.toList s K)(b:RelSt ρ n s a w)(c:m<=s.H.length)(d:∀ a' w',zE m n ρ s w K a' w'->Q .normal a' w'):(Code.region id ops false).wp P Q a w:=
 wp_region (xg (m:=m) (List.range ops.size) ops.toList s K (by
  refine qM fun i=>?_
  simp only[ci];by_cases hi:i<ops.size
  ·simp[hi]
  ·rw[gi (by simp;omega),gi (by simp;omega)];rfl) h ρ a w b c d)
end
end
def dr {α:Type}(p:Nat->Bool):List (Option α)->Nat->α->α
 |[],_,d=>d
 |none::r,i,d=>dr p r (i+1) d
 |some x::r,i,d=>dr p r (i+1) (if p i then x else d)
theorem pf {α:Type}{p q:Nat->Bool}:∀ (ws:List (Option α)) (i:Nat) (d:α),(∀ j x,ws[j]?=some (some x)->p (i+j)=q (i+j))->dr p ws i d=dr q ws i d
 |[],_,_,_=>rfl
 |none::r,i,d,h=>pf r (i+1) d fun j x a=>by have :=h (j+1) x (by simpa using a);rwa [show i+(j+1)=i+1+j by omega] at this
 |some x::r,i,d,h=>by
  have h0:p i=q i:=h 0 x rfl;simp only[dr,h0];exact pf r (i+1) _ fun j y b=>by have :=h (j+1) y (by simpa using b);rwa [show i+(j+1)=i+1+j by omega] at this
theorem qK {α:Type}{p:Nat->Bool}:∀ (ws:List (Option α)) (i:Nat) (d:α),(∀ j x,ws[j]?=some (some x)->p (i+j)=false)->dr p ws i d=d
 |[],_,_,_=>rfl
 |none::r,i,d,h=>qK r (i+1) d fun j x a=>by have :=h (j+1) x (by simpa using a);rwa [show i+(j+1)=i+1+j by omega] at this
 |some x::r,i,d,h=>by
  have h0:p i=false:=h 0 x rfl;simp only[dr,h0,ct,if_false];exact qK r (i+1) d fun j y b=>by have :=h (j+1) y (by simpa using b);rwa [show i+(j+1)=i+1+j by omega] at this
theorem w9 {α:Type}{p:Nat->Bool}:∀ (ws:List (Option α)) (i:Nat) (d:α) (k:Nat) (x:α),ws[k]?=some (some x)->p (i+k)=true->(∀ j y,k<j->ws[j]?=some (some y)->p (i+j)=false)->dr p ws i d=x
 |[],_,_,_,_,h,_,_=>by simp at h
 |none::r,i,d,0,x,h,_,_=>by simp at h
 |none::r,i,d,k+1,x,h,c,a=>w9 r (i+1) d k x (by simpa using h) (by rwa [show i+1+k=i+(k+1) by omega]) fun j y f b=>by
   have :=a (j+1) y aa (by simpa using b);rwa [show i+(j+1)=i+1+j by omega] at this
 |some z::r,i,d,0,x,h,c,a=>by
  simp at h;subst h;have e:p i=true:=c;simp only[dr,e,if_true];exact qK r (i+1) z fun j y b=>by have :=a (j+1) y aa (by simpa using b);rwa [show i+(j+1)=i+1+j by omega] at this
 |some z::r,i,d,k+1,x,h,c,a=>by
  simp only[dr];exact w9 r (i+1) _ k x (by simpa using h) (by rwa [show i+1+k=i+(k+1) by omega]) fun j y f b=>by
   have :=a (j+1) y aa (by simpa using b);rwa [show i+(j+1)=i+1+j by omega] at this
def xk (o:Oper)(a:List Nat):Nat:=o.after.toList.foldl (fun s e=>if Region.binds .any e then s|||(1<<<e.on)|||a.getD e.on 0 else s) 0
def j7:List Oper->List Nat->List Nat
 |[],a=>a
 |o::r,a=>j7 r (a++[xk o a])
theorem Ke:∀ (l:List Oper) (a:List Nat) (j:Nat),j<a.length->(j7 l a).getD j 0=a.getD j 0
 |[],_,_,_=>rfl
 |o::r,a,j,h=>by
  rw[j7,Ke r _ j (by simp;omega)];simp[aW,gh h]
theorem EN:∀ (l:List Oper) (a:List Nat) (j:Nat) (o:Oper),l[j]?=some o->(j7 l a).getD (a.length+j) 0=xk o ((j7 l a).take (a.length+j))
 |[],_,_,_,h=>by simp at h
 |o::r,a,0,d,h=>by
  simp at h;subst h;rw[j7,iQ,Ke r _ _ ae];have c:∀ (l:List Oper) (b:List Nat) (k:Nat),k<=b.length->(j7 l b).take k=b.take k:=by
   intro l;induction l with
   |nil=>intro _ _ _;rfl
   |cons o l ih=>intro b k e;rw[j7,ih _ _ (by simp;omega),xH e]
  rw[c r _ _ ae];simp[aW]
 |o::r,a,j+1,d,h=>by
  have ih:=EN r (a++[xk o a]) j d (by simpa using h);rw[j7];simpa [kh,wN 1 j] using ih
theorem af9 (o:Oper)(a:List Nat)(i:Nat)(h:(xk o a).testBit i=true):∃ e∈o.after.toList,Region.binds .any e=true/\(e.on=i\/(a.getD e.on 0).testBit i=true):=by
 unfold xk at h;have :∀ (l:List Edge) (s:Nat),(l.foldl (fun s e=>if Region.binds .any e then s|||(1<<<e.on)|||a.getD e.on 0 else s) s).testBit i=true->s.testBit i=true\/∃ e∈l,Region.binds .any e=true/\(e.on=i\/(a.getD e.on 0).testBit i=true):=by
  intro l;induction l with
  |nil=>intro s h;exact .inl h
  |cons e l ih=>
   intro s h;rw[A9] at h;rcases ih _ h with h1|⟨c,h1,h2⟩
   ·by_cases b:Region.binds .any e=true
    ·rw[if_pos b] at h1;simp only[Nat.testBit_or,zF] at h1;rcases h1 with(h1|h1)|h1
     ·exact .inl h1
     ·refine .inr ⟨e,ae,b,.inl ?_⟩;rw[Nat.one_shiftLeft,Nat.testBit_two_pow] at h1;simpa using h1
     ·exact .inr ⟨e,ae,b,.inr h1⟩
    ·rw[if_neg b] at h1;exact .inl h1
   ·exact .inr ⟨c,by simp[h1],h2⟩
 rcases this _ 0 h with h|h
 ·simp at h
 ·exact h
def B7 (ops:List Oper)(L:Nat->Bool):Prop:=∀ j o,ops[j]?=some o->L j=true->∀ e∈o.after.toList,Region.binds .any e=true->L e.on=true
theorem FP {ops:List Oper}{L:Nat->Bool}(hc:B7 ops L):∀ (j:Nat) (o:Oper),ops[j]?=some o->(∀ e∈o.after.toList,Region.binds .any e=true->L e.on=true)->∀ i,((j7 ops []).getD j 0).testBit i=true->L i=true:=by
 intro j;induction j using Nat.strongRecOn with
 |_ j ih=>
  intro o f l i g;have d:=EN ops [] j o f;simp only[ig,cw] at d;rw[d] at g;obtain⟨e,h1,h2,c⟩:=af9 o _ i g;have h:=l e h1 h2;rcases c with rfl|c
  ·exact h
  ·by_cases a:e.on<j
   ·have m:((j7 ops []).take j).getD e.on 0=(j7 ops []).getD e.on 0:=by
     simp[aW,a]
    rw[m] at c;cases b:ops[e.on]? with
    |none=>rw[List.getElem?_eq_none_iff] at b;have :=(ca.1 f).1;omega
    |some k=>exact ih e.on a k b (fun n p q=>hc e.on k b h n p q) i c
   ·have :((j7 ops []).take j).getD e.on 0=0:=by
     simp[aW,oK,a]
    rw[this] at c;simp at c
def nS (ops:Array Oper)(o:Oper):List Tmp:=o.dst.toList++(o.op.operands.toList.filterMap fun | .tmp t=>some t|_=>none)++(match o.guard with
 |some (j,_)=>(j6 ops j).toList
 |none=>[])
def meets (a b:List Nat):Bool:=a.any fun x=>b.contains x
def jy (ops:Array Oper)(o c:Oper)(e b:List Nat×List Nat):Bool:=
 !(meets o.dst.toList (nS ops c))&&!(meets c.dst.toList (nS ops o))&&!(meets e.2 (b.1++b.2))&&!(meets b.2 (e.1++e.2))
def iA (ops:Array Oper)(tr:List (List Nat×List Nat)):Bool:=
 let b:=j7 ops.toList []
 let l:=ops.toList.zip tr
 l.zipIdx.all fun(x,j)=>(x.1.after.toList.all fun e=>!(Region.binds .any e)||decide (e.on<j))&&l.zipIdx.all fun(y,i)=>!(decide (i<j))||(b.getD j 0).testBit i||jy ops y.1 x.1 y.2 x.2
section
structure Ent where
 run:Bool
 res:Res
def pJ (ops:Array Oper)(n:Nat)(o:Oper)(s:St)(b:Bool):Prop:=match o.guard with
 |none=>b=true
 |some (j,want)=>∃ d,j6 ops j=some d/\d<n/\((∃ a,s.get d= .bool a/\(a==want)=b)\/(s.get d= .tup []/\b=false))
def gk (s:St)(e:Ent)(b:Nat):Option (Option Blk):=
 if s.H.length<=b/\b<s.H.length+e.res.news.length then some (e.res.news[b-s.H.length]?).join
 else if b<s.H.length/\b∈e.res.old.map (·.1) then some (gQ e.res.old b none) else none
def Fk (P:Program)(J:Nat->Option Blk->Prop)(n:Nat)(ops:Array Oper)(o:Oper)(s:St)(e:Ent):Prop:=
 fV n o.dst/\pJ ops n o s e.run/\if e.run then By J P o s.ev (ag s.H) s.H.length e.res/\(∀ x∈e.res.old,x.1<s.H.length)/\∀ b x,gk s e b=some x->J b x else e.res={v:= .tup []}
def mU (P:Program)(J:Nat->Option Blk->Prop)(n:Nat)(ops:Array Oper):List Oper->St->List Ent->St->Prop
 |[],s,[],s'=>s'=s
 |o::l,s,e::es,s'=>Fk P J n ops o s e/\mU P J n ops l (s.after o.dst e.res) es s'
 |_,_,_,_=>False
def bI (s:St)(r:Res):List Nat×List Nat:=(r.fp,r.old.map (·.1)++List.range' s.H.length r.news.length)
def jG:List Oper->St->List Ent->List (List Nat×List Nat)
 |o::l,s,e::es=>bI s e.res::jG l (s.after o.dst e.res) es
 |_,_,_=>[]
def bn (s:St):List Oper->List Ent->Nat->St
 |_,_,0=>s
 |o::l,e::es,i+1=>bn (s.after o.dst e.res) l es i
 |_,_,_=>s
section
variable {P:Program}{J:Nat->Option Blk->Prop}{n:Nat}{ops:Array Oper}
theorem tv:∀ (l:List Oper) (s:St) (es:List Ent) (s':St),mU P J n ops l s es s'->es.length=l.length/\bn s l es l.length=s'/\
  ∀ (i:Nat) o e,l[i]?=some o->es[i]?=some e->Fk P J n ops o (bn s l es i) e/\bn s l es (i+1)=(bn s l es i).after o.dst e.res/\(jG l s es)[i]?=some (bI (bn s l es i) e.res)
 |[],s,[],s',h=>⟨rfl,h.symm,fun i o e a=>by simp at a⟩
 |[],_,_::_,_,h=>h.elim
 |_::_,_,[],_,h=>h.elim
 |o::l,s,e::es,s',h=>by
  obtain⟨h1,h2⟩:=h;obtain⟨g1,g2,g3⟩:=tv l _ es s' h2;refine⟨by simp[g1],g2,fun i c d a b=>?_⟩;cases i with
  |zero=>
   simp at a b;subst a;subst b;refine⟨h1,?_,rfl⟩;cases l<;>cases es<;>rfl
  |succ i=>
   have :=g3 i c d (by simpa using a) (by simpa using b);simpa [bn,jG] using this
def rJ (o:Oper)(e:Ent)(t:Nat):Option V:=if o.dst=some t then some e.res.v else none
def mc:List Oper->List Ent->Nat->List (Option V)
 |o::l,e::es,t=>rJ o e t::mc l es t
 |_,_,_=>[]
def jl (s:St):List Oper->List Ent->Nat->List (Option (Option Blk))
 |o::l,e::es,b=>gk s e b::jl (s.after o.dst e.res) l es b
 |_,_,_=>[]
theorem uU:∀ (l:List Oper) (es:List Ent) (t i:Nat) (o:Oper) (e:Ent),l[i]?=some o->es[i]?=some e->(mc l es t)[i]?=some (rJ o e t)
 |[],_,_,_,_,_,h,_=>by simp at h
 |_::_,[],_,_,_,_,_,h=>by simp at h
 |o::l,e::es,t,0,a,b,h,h'=>by simp at h h';subst h;subst h';rfl
 |o::l,e::es,t,i+1,a,b,h,h'=>by simpa [mc] using uU l es t i a b (by simpa using h) (by simpa using h')
theorem rn:∀ (l:List Oper) (es:List Ent) (s:St) (b i:Nat) (o:Oper) (e:Ent),l[i]?=some o->es[i]?=some e->(jl s l es b)[i]?=some (gk (bn s l es i) e b)
 |[],_,_,_,_,_,_,h,_=>by simp at h
 |_::_,[],_,_,_,_,_,_,h=>by simp at h
 |o::l,e::es,s,b,0,a,c,h,h'=>by simp at h h';subst h;subst h';rfl
 |o::l,e::es,s,b,i+1,a,c,h,h'=>by simpa [jl,bn] using rn l es _ b i a c (by simpa using h) (by simpa using h')
theorem AG:∀ (l:List Oper) (es:List Ent) (t:Nat),es.length=l.length->(mc l es t).length=l.length
 |[],[],_,_=>rfl
 |[],_::_,_,h=>by simp at h
 |_::_,[],_,h=>by simp at h
 |o::l,e::es,t,h=>by simp[mc,AG l es t (by simpa using h)]
theorem xS:∀ (l:List Oper) (es:List Ent) (s:St) (t:Nat),es.length=l.length->(jl s l es t).length=l.length
 |[],[],_,_,_=>rfl
 |[],_::_,_,_,h=>by simp at h
 |_::_,[],_,_,h=>by simp at h
 |o::l,e::es,s,t,h=>by simp[jl,xS l es _ t (by simpa using h)]
theorem aeJ (s:St)(o:Oper)(e:Ent)(t:Nat):(s.after o.dst e.res).get t=(rJ o e t).getD (s.get t):=by
 unfold rJ St.get St.after putS;cases o.dst with
 |none=>simp
 |some d=>
  by_cases h:d=t
  ·subst h;simp[aj]
  ·simp[aj,h]
theorem Cl:∀ (old:List (Nat×Option Blk)) (b:Nat) (d:Option Blk),gQ old b d=if b∈old.map (·.1) then gQ old b none else d
 |[],_,_=>rfl
 |(i,x)::r,b,d=>by
  by_cases h:b=i
  ·subst h;simp[gQ]
  ·simp only[gQ,bN,cQ,h,false_or];exact Cl r b d
theorem Qt (s:St)(o:Oper)(e:Ent)(b:Nat):ag (s.after o.dst e.res).H b=(gk s e b).getD (ag s.H b):=by
 have d:=eT s.H e.res.old;unfold gk;show ag (cK s.H e.res.old++e.res.news) b=_;by_cases c:b<s.H.length
 ·rw[if_neg aa];have :ag (cK s.H e.res.old++e.res.news) b=ag (cK s.H e.res.old) b:=by
   unfold ag;rw[gh aa]
  rw[this,oT s.H e.res.old b c,Cl];by_cases a:b∈e.res.old.map (·.1)
  ·rw[if_pos a,if_pos ⟨c,a⟩];rfl
  ·rw[if_neg a,if_neg (fun h=>a h.2)];rfl
 ·have :ag (cK s.H e.res.old++e.res.news) b=(e.res.news[b-s.H.length]?).join:=by
   unfold ag;rw[dL aa,d]
  rw[this];by_cases h2:b<s.H.length+e.res.news.length
  ·rw[if_pos ⟨aa,h2⟩];rfl
  ·rw[if_neg aa,if_neg (fun h=>c h.1),gi aa];show none=ag s.H b;unfold ag;rw[gi aa];rfl
theorem acs {s0 s':St}{l:List Oper}{es:List Ent}(h:mU P J n ops l s0 es s'):∀ i,i<=l.length->(∀ t,(bn s0 l es i).get t=dr (fun j=>decide (j<i)) (mc l es t) 0 (s0.get t))/\
  (∀ b,ag (bn s0 l es i).H b=dr (fun j=>decide (j<i)) (jl s0 l es b) 0 (ag s0.H b)):=by
 obtain⟨s,_,c⟩:=tv l s0 es s' h;intro i;induction i with
 |zero=>
  intro _;have r:bn s0 l es 0=s0:=by cases l<;>cases es<;>rfl
  rw[r];exact⟨fun t=>(qK _ 0 _ fun j x _=>by simp).symm,fun b=>(qK _ 0 _ fun j x _=>by simp).symm⟩
 |succ i ih=>
  intro u;obtain⟨f,g⟩:=ih aa;have k:l[i]?=some (l[i]'(aa)):=aF _;have m:es[i]?=some (es[i]'(aa)):=aF _;obtain⟨_,h2,_⟩:=c i _ _ k m;rw[h2];have key:∀ {α:Type} (ws:List (Option α)) (d:α) (o:Option α),ws[i]?=some o->o.getD (dr (fun j=>decide (j<i)) ws 0 d)=dr (fun j=>decide (j<i+1)) ws 0 d:=by
   intro α ws d o hw;cases o with
   |none=>
    refine pf ws 0 d (fun j x p=>?_);have :j≠i:=fun e=>by subst e;rw[hw] at p;simp at p
    simp only[cw];rw[lN];simp;omega
   |some x=>
    refine(w9 ws 0 d i x hw ae (fun j y p _=>?_)).symm;simp;omega
  exact⟨fun t=>by rw[aeJ,f t];exact key _ _ _ (uU l es t i _ _ k m),fun b=>by rw[Qt,g b];exact key _ _ _ (rn l es s0 b i _ _ k m)⟩
theorem SS {s:St}{e:Ent}(h:e.res={v:= .tup []})(b:Nat):gk s e b=none:=by unfold gk;rw[h];simp
theorem A1 {α:Type}{p:Nat->Bool}{Q:α->Prop}:∀ (ws:List (Option α)) (i:Nat) (d:α),Q d->(∀ (j:Nat) (x:α),ws[j]?=some (some x)->Q x)->Q (dr p ws i d)
 |[],_,_,a,_=>a
 |none::r,i,d,a,h=>A1 r (i+1) d a fun j x b=>h (j+1) x (by simpa using b)
 |some y::r,i,d,a,h=>A1 r (i+1) _ (by split;exact h 0 y rfl;exact a) fun j x b=>h (j+1) x (by simpa using b)
end
end
section
def Ld (P:Program)(m n:Nat)(id:Nat)(ops:Array Oper)(s:St)(K:St->Prop):Prop:=
 ∀ (ρ:Nat->Nat×Nat) (a:Act) (w:World) (Q:Exit->Act->World->Prop),RelSt ρ n s a w->m<=s.H.length->(∀ a' w',zE m n ρ s w K a' w'->Q .normal a' w')->(Code.region id ops true).wp P Q a w
section
variable {P:Program}{J:Nat->Option Blk->Prop}{n:Nat}{ops:Array Oper}
theorem T5 {a b:List Nat}:meets a b=true↔∃ x,x∈a/\x∈b:=by
 unfold meets;simp[List.any_eq_true]
theorem Dz {tr:List (List Nat×List Nat)}(h:iA ops tr=true){j:Nat}{a:Oper}{c:List Nat×List Nat}(l:ops.toList[j]?=some a)(m:tr[j]?=some c):
  (∀ e∈a.after.toList,Region.binds .any e=true->e.on<j)/\
  ∀ (i:Nat) b fi,ops.toList[i]?=some b->tr[i]?=some fi->i<j->((j7 ops.toList []).getD j 0).testBit i=true\/jy ops b a fi c=true:=by
 unfold iA at h;have k:∀ (i:Nat) o f,ops.toList[i]?=some o->tr[i]?=some f->((o,f),i)∈(ops.toList.zip tr).zipIdx:=fun i o f h1 h2=>by
  rw[A6];rw[CX];exact⟨h1,h2⟩
 simp only[mW] at h;have h1:=h _ (k j a c l m);simp only[ic,mW] at h1;refine⟨fun e p q=>?_,fun i b fi hi d g=>?_⟩
 ·have :=h1.1 e p;simpa [q] using this
 ·have :=h1.2 _ (k i b fi hi d);simp only[zF,oA,decide_eq_false_iff_not] at this;rcases this with(h2|h2)|h2
  ·exact absurd g h2
  ·exact .inl h2
  ·exact .inr h2
theorem rE {o g:Oper}{e c:List Nat×List Nat}(h:jy ops o g e c=true):(∀ d,o.dst=some d->d∉nS ops g)/\(∀ d,g.dst=some d->d∉nS ops o)/\(∀ b,b∈e.2->b∉c.1/\b∉c.2)/\(∀ b,b∈c.2->b∉e.1/\b∉e.2):=by
 unfold jy at h;simp only[ic,oA] at h;obtain⟨⟨⟨h1,h2⟩,k⟩,l⟩:=h;have f:∀ {a b:List Nat},meets a b=false->∀ x,x∈a->x∉b:=fun m x p q=>by
  have :=T5.2 ⟨x,p,q⟩;rw[m] at this;cases this
 refine⟨fun d i=>f h1 d (by simp[i]),fun d i=>f h2 d (by simp[i]),fun b j=>?_,fun b j=>?_⟩
 ·have :=f k b j;simp at this;exact this
 ·have :=f l b j;simp at this;exact this
theorem Bj {o:Oper}{e:Ent}{t:Nat}{x:V}(h:rJ o e t=some x):o.dst=some t/\x=e.res.v:=by
 unfold rJ at h;split at h
 ·rename_i a;injection h with h;exact⟨a,h.symm⟩
 ·cases h
theorem CH {s:St}{e:Ent}{b:Nat}{x:Option Blk}(h:gk s e b=some x):b∈(bI s e.res).2:=by
 unfold gk at h;unfold bI;simp only[eB,qf];split at h
 ·rename_i hc;exact .inr ⟨hc.1,hc.2⟩
 ·split at h
  ·rename_i hc;exact .inl hc.2
  ·cases h
theorem JB {q p:Nat->Bool}:∀ (l:List Nat),(∀ x∈l,q x=true->p x=true)->(∃ x∈l,p x=true/\q x=false)->(l.filter q).length<(l.filter p).length
 |[],_,h=>by obtain⟨x,a,_⟩:=h;cases a
 |y::l,f,h=>by
  have g:∀ (l:List Nat),(∀ x∈l,q x=true->p x=true)->(l.filter q).length<=(l.filter p).length:=by
   intro l;induction l with
   |nil=>intro _;exact aH _
   |cons z l ih=>
    intro h;have :=ih fun x a=>h x (by simp[a])
    simp only[vg];by_cases d:q z=true
    ·have e:=h z ae d;simp only[d,e,if_true,ce];omega
    ·by_cases e:p z=true<;>simp only[d,e,if_true,ce]<;>(try simp)<;>omega
  obtain⟨x,a,e,d⟩:=h;simp only[vg];rcases cQ.1 a with rfl|a
  ·simp only[e,d,if_true,ct,if_false,ce];have :=g l fun x a=>f x (by simp[a])
   omega
  ·have ih:=JB l (fun x a=>f x (by simp[a])) ⟨x,a,e,d⟩;by_cases b:q y=true
   ·have c:=f y ae b;simp only[b,c,if_true,ce];omega
   ·by_cases c:p y=true<;>simp only[b,c,if_true,ce]<;>(try simp)<;>omega
structure DInv (P:Program) (n:Nat) (ops:Array Oper) (s0:St) (es:List Ent) (ρ0:Nat->Nat×Nat) (w0:World) (L:Nat->Bool) (ρ:Nat->Nat×Nat) (a:Act) (w:World):Prop where
 closed:B7 ops.toList L
 tmps:RelT ρ (fun b=>b<s0.H.length\/∃ i e,L i=true/\es[i]?=some e/\(bn s0 ops.toList es i).H.length<=b/\b<(bn s0 ops.toList es i).H.length+e.res.news.length) w n (fun t=>dr L (mc ops.toList es t) 0 (s0.get t)) a
 mem:MemRel ρ (fun b=>b<s0.H.length\/∃ i e,L i=true/\es[i]?=some e/\(bn s0 ops.toList es i).H.length<=b/\b<(bn s0 ops.toList es i).H.length+e.res.news.length) (fun b=>dr L (jl s0 ops.toList es b) 0 (ag s0.H b)) w
 agree:∀ b,b<s0.H.length->ρ b=ρ0 b
 frame:Frame ρ0 (ag s0.H) w0 ρ (fun b=>dr L (jl s0 ops.toList es b) 0 (ag s0.H b)) w
theorem vP {s0 s':St}{es:List Ent}(ht:mU P J n ops ops.toList s0 es s'):∀ (i:Nat) o e,ops.toList[i]?=some o->es[i]?=some e->(bn s0 ops.toList es (i+1)).H.length=(bn s0 ops.toList es i).H.length+e.res.news.length:=fun i o e b c=>by
 obtain⟨_,_,a⟩:=tv _ _ _ _ ht;rw[(a i o e b c).2.1];simp[St.after,eT]
theorem xA {s0 s':St}{es:List Ent}(ht:mU P J n ops ops.toList s0 es s'):∀ (j i:Nat),i<=j->j<=ops.size->(bn s0 ops.toList es i).H.length<=(bn s0 ops.toList es j).H.length:=by
 obtain⟨b,_,_⟩:=tv _ _ _ _ ht;intro j;induction j with
 |zero=>intro i hi _;rw[Nat.le_zero.1 hi];exact aH _
 |succ j ih=>
  intro i hi c;have a:j<ops.toList.length:=by simp;omega
  have :=vP ht j _ _ (aF a) (aF (by omega :j<es.length));by_cases e:i=j+1
  ·subst e;exact aH _
  ·have :=ih i aa aa;omega
theorem A3 (s0:St)(l:List Oper)(es:List Ent):bn s0 l es 0=s0:=by cases l<;>cases es<;>rfl
theorem T3 {s0 s':St}{es:List Ent}(ht:mU P J n ops ops.toList s0 es s')(hok:iA ops (jG ops.toList s0 es)=true){ρ0:Nat->Nat×Nat}{w0:World}{Q:Exit->Act->World->Prop}{m:Nat}(hm:m<=s0.H.length)(hJ:∀ b,J b (ag s0.H b))
  (hq:∀ ρ a w,RelSt ρ n s' a w->Step m ρ0 s0 w0 ρ s' w->Q .normal a w):
  ∀ (fuel:Nat) (listed:Array Bool) (ρ:Nat->Nat×Nat) (a:Act) (w:World),listed.size=ops.size->((List.range ops.size).filter fun i=>!(listed.getD i false)).length<=fuel->
   DInv P n ops s0 es ρ0 w0 (fun i=>listed.getD i false) ρ a w->wpAny P .any ops Q fuel listed a w:=by
 obtain⟨hl,hfin,hat⟩:=tv _ _ _ _ ht;have hsp:=acs ht;have hN:ops.toList.length=ops.size:=ae;have alldone:∀ (listed:Array Bool),listed.size=ops.size->Region.ready .any ops listed=[]->∀ i,i<ops.size->listed.getD i false=true:=by
  intro listed hls hr i;induction i using Nat.strongRecOn with
  |_ i ih=>
   intro hi;cases hc:listed.getD i false with
   |true=>rfl
   |false=>
    exfalso;have hio:ops.toList[i]?=some ops[i]:=by simp[hi]
    have hfi:=(hat i _ _ hio (aF (by omega :i<es.length))).2.2;have hedge:=(Dz hok hio hfi).1;have :i∈Region.ready .any ops listed:=by
     unfold Region.ready;rw[kz];refine⟨by simp[hi],?_⟩;have hg:listed.getD i true=false:=by
      rw[lY] at hc |-
      rw[oG aa] at hc |-
      simpa using hc
     rw[hg];simp only[qY,Bool.true_and,oG hi,jA,oo];rw[Im];intro e he;by_cases hb:Region.binds .any e=true
     ·have hlt:=hedge e (by simpa using he) hb;rw[ih e.on hlt aa];simp
     ·simp[hb]
    rw[hr] at this;cases this
 have fin:∀ (listed:Array Bool) ρ a w,listed.size=ops.size->(∀ i,i<ops.size->listed.getD i false=true)->DInv P n ops s0 es ρ0 w0 (fun i=>listed.getD i false) ρ a w->Q .normal a w:=by
  intro listed ρ a w hls hall hinv;have hT:∀ t,dr (fun i=>listed.getD i false) (mc ops.toList es t) 0 (s0.get t)=s'.get t:=fun t=>by
   rw[<-hfin,(hsp _ (aH _)).1 t];refine pf _ 0 _ (fun j x hj=>?_);have hlt:=(ca.1 hj).1;rw[AG _ _ _ hl] at hlt;simp only[cw];rw[hall j aa];simp;omega
  have hG:∀ b,dr (fun i=>listed.getD i false) (jl s0 ops.toList es b) 0 (ag s0.H b)=ag s'.H b:=fun b=>by
   rw[<-hfin,(hsp _ (aH _)).2 b];refine pf _ 0 _ (fun j x hj=>?_);have hlt:=(ca.1 hj).1;rw[xS _ _ _ _ hl] at hlt;simp only[cw];rw[hall j aa];simp;omega
  have hlen:s0.H.length<=s'.H.length:=by
   have :=xA ht ops.size 0 aa (aH _);rw[A3] at this;rw[<-hfin,hN];exact this
  have hdom:∀ b,(b<s0.H.length\/∃ i e,listed.getD i false=true/\es[i]?=some e/\(bn s0 ops.toList es i).H.length<=b/\b<(bn s0 ops.toList es i).H.length+e.res.news.length)->b<s'.H.length:=by
   rintro b (hb|⟨i,e,_,he,h1,h2⟩)
   ·omega
   ·have hi:i<es.length:=(ca.1 he).1;have hio:ops.toList[i]?=some (ops.toList[i]'(aa)):=aF _;have h3:=vP ht i _ e hio he;have h4:=xA ht ops.size (i+1) aa (aH _);rw[<-hfin,hN];omega
  have hGf:(fun b=>dr (fun i=>listed.getD i false) (jl s0 ops.toList es b) 0 (ag s0.H b))=ag s'.H:=funext hG;refine hq ρ a w ⟨⟨hinv.tmps.size,hinv.tmps.defers,fun t=>?_⟩,?_⟩ ⟨aa,fun b hb=>hinv.agree b aa,?_⟩
  ·have :=(hinv.tmps.slot t).mono (fun _ _=>rfl) hdom (Lasts.refl w);rw[hT t] at this;exact this
  ·have :=hinv.mem.monoDom hdom;rw[hGf] at this;exact this
  ·have :=hinv.frame;rw[hGf] at this;exact this
 intro fuel;induction fuel with
 |zero=>
  intro listed ρ a w hls hf hinv;have hall:∀ i,i<ops.size->listed.getD i false=true:=fun i hi=>by
   have h0:=jJ.1 (Nat.le_zero.1 hf);have :i∉(List.range ops.size).filter fun i=>!(listed.getD i false):=by rw[h0];simp
   simp only[kz,zM,oA,not_and,Bool.not_eq_false] at this;exact this hi
  refine⟨?_,fin listed ρ a w hls hall hinv⟩;refine List.eq_nil_iff_forall_not_mem.2 fun i hi=>?_
  unfold Region.ready at hi;rw[kz] at hi;obtain⟨h1,h2⟩:=hi;have hlt:i<ops.size:=by simpa using h1
  have :=hall i hlt;rw[lY,oG aa] at this;simp only[ic,oA] at h2;have h3:=h2.1;rw[lY,oG aa] at h3;simp at this h3;rw[this] at h3;cases h3
 |succ fuel ih=>
  intro listed ρ a w hls hf hinv;refine⟨fun hr=>fin listed ρ a w hls (alldone listed hls hr) hinv,fun i hi=>?_⟩;unfold Region.ready at hi;rw[kz] at hi;obtain⟨h1,h2⟩:=hi;have hlt:i<ops.size:=by simpa using h1
  have hio:ops.toList[i]?=some ops[i]:=by simp[hlt]
  have hie:es[i]?=some (es[i]'(aa)):=aF _;generalize hoi:ops[i]=o at*;generalize hei:es[i]'(aa)=e at*;simp only[ic,oA] at h2;have hnl:listed.getD i false=false:=by
   have h3:=h2.1;rw[lY,oG aa] at h3 |-
   simpa using h3
  have hpre:∀ e'∈o.after.toList,Region.binds .any e'=true->listed.getD e'.on false=true:=fun e' he' hb=>by
   have h3:=h2.2;rw[oG hlt,hoi] at h3;simp only[jA,oo] at h3;rw[Im] at h3;have :=h3 e' (by simpa using he');simpa [hb] using this
  obtain⟨hent,hnext,hfi⟩:=hat i o e hio hie;obtain⟨hd,hg,hrun⟩:=hent;have hordi:=(Dz hok hio hfi).2;have hahead:∀ j oj ej,j<i->ops.toList[j]?=some oj->es[j]?=some ej->jy ops oj o (bI (bn s0 ops.toList es j) ej.res) (bI (bn s0 ops.toList es i) e.res)=false->listed.getD j false=true:=fun j oj ej hj ho he hap=>by
   rcases hordi j oj _ ho (hat j oj ej ho he).2.2 hj with hb|hb
   ·exact FP hinv.closed i o hio hpre j hb
   ·rw[hap] at hb;cases hb
  have hbehind:∀ j oj ej,i<j->ops.toList[j]?=some oj->es[j]?=some ej->jy ops o oj (bI (bn s0 ops.toList es i) e.res) (bI (bn s0 ops.toList es j) ej.res)=false->listed.getD j false=false:=fun j oj ej hj ho he hap=>by
   cases hc:listed.getD j false with
   |false=>rfl
   |true=>
    exfalso;rcases(Dz hok ho (hat j oj ej ho he).2.2).2 i o _ hio hfi hj with hb|hb
    ·have :=FP hinv.closed j oj ho (fun e' h4 h5=>hinv.closed j oj ho hc e' h4 h5) i hb;rw[hnl] at this;cases this
    ·rw[hap] at hb;cases hb
  have hjget:∀ j,j<ops.size->∃ oj ej,ops.toList[j]?=some oj/\es[j]?=some ej:=fun j hj=>⟨_,_,aF (by omega :j<ops.toList.length),aF (by omega :j<es.length)⟩
  have hslot:∀ t,t∈nS ops o->dr (fun i=>listed.getD i false) (mc ops.toList es t) 0 (s0.get t)=(bn s0 ops.toList es i).get t:=fun t hts=>by
   rw[(hsp i aa).1 t];refine pf _ 0 _ (fun j x hj=>?_);have hjl:=(ca.1 hj).1;rw[AG _ _ _ hl] at hjl;obtain⟨oj,ej,hoj,hej⟩:=hjget j aa;rw[uU _ _ _ _ _ _ hoj hej] at hj;injection hj with hj
   have hdst:=(Bj hj).1;simp only[cw];rcases D6 j i with hlt'|rfl|hgt
   ·rw[hahead j oj ej hlt' hoj hej (by
     cases hap:jy ops oj o (bI (bn s0 ops.toList es j) ej.res) (bI (bn s0 ops.toList es i) e.res) with
     |false=>rfl
     |true=>exact absurd hts ((rE hap).1 t hdst))]
    simp[hlt']
   ·rw[hnl];simp
   ·rw[hbehind j oj ej hgt hoj hej (by
     cases hap:jy ops o oj (bI (bn s0 ops.toList es i) e.res) (bI (bn s0 ops.toList es j) ej.res) with
     |false=>rfl
     |true=>exact absurd hts ((rE hap).2.1 t hdst))]
    simp;omega
  have hfp:∀ b,b∈e.res.fp->dr (fun i=>listed.getD i false) (jl s0 ops.toList es b) 0 (ag s0.H b)=ag (bn s0 ops.toList es i).H b:=fun b hbf=>by
   rw[(hsp i aa).2 b];refine pf _ 0 _ (fun j x hj=>?_);have hjl:=(ca.1 hj).1;rw[xS _ _ _ _ hl] at hjl;obtain⟨oj,ej,hoj,hej⟩:=hjget j aa;rw[rn _ _ _ _ _ _ _ hoj hej] at hj;injection hj with hj
   have hft:=CH hj;simp only[cw];rcases D6 j i with hlt'|rfl|hgt
   ·rw[hahead j oj ej hlt' hoj hej (by
     cases hap:jy ops oj o (bI (bn s0 ops.toList es j) ej.res) (bI (bn s0 ops.toList es i) e.res) with
     |false=>rfl
     |true=>exact absurd hbf ((rE hap).2.2.1 b hft).1)]
    simp[hlt']
   ·rw[hnl];simp
   ·rw[hbehind j oj ej hgt hoj hej (by
     cases hap:jy ops o oj (bI (bn s0 ops.toList es i) e.res) (bI (bn s0 ops.toList es j) ej.res) with
     |false=>rfl
     |true=>exact absurd hbf ((rE hap).2.2.2 b hft).1)]
    simp;omega
  have hfpd:∀ b,b∈e.res.fp->b<(bn s0 ops.toList es i).H.length->(b<s0.H.length\/∃ i e,listed.getD i false=true/\es[i]?=some e/\(bn s0 ops.toList es i).H.length<=b/\b<(bn s0 ops.toList es i).H.length+e.res.news.length):=fun b hbf hbl=>by
   have key:∀ k,k<=i->b<(bn s0 ops.toList es k).H.length->b<s0.H.length\/∃ j ej,j<k/\es[j]?=some ej/\(bn s0 ops.toList es j).H.length<=b/\b<(bn s0 ops.toList es j).H.length+ej.res.news.length:=by
    intro k;induction k with
    |zero=>intro _ h;rw[A3] at h;exact .inl h
    |succ k ihk=>
     intro hk h;obtain⟨ok,ek,hok2,hek⟩:=hjget k aa;by_cases hbk:b<(bn s0 ops.toList es k).H.length
     ·rcases ihk aa hbk with h1|⟨j,ej,h1,h2,h3⟩
      ·exact .inl h1
      ·exact .inr ⟨j,ej,aa,h2,h3⟩
     ·have :=vP ht k ok ek hok2 hek;exact .inr ⟨k,ek,aa,hek,aa,aa⟩
   rcases key i (aH _) hbl with h1|⟨j,ej,h1,h2,h3,h4⟩
   ·exact .inl h1
   ·refine .inr ⟨j,ej,?_,h2,h3,h4⟩;have hoj:ops.toList[j]?=some (ops.toList[j]'(aa)):=aF _;refine hahead j _ ej h1 hoj h2 ?_;cases hap:jy ops (ops.toList[j]'(aa)) o (bI (bn s0 ops.toList es j) ej.res) (bI (bn s0 ops.toList es i) e.res) with
    |false=>rfl
    |true=>exact absurd hbf ((rE hap).2.2.1 b (by unfold bI;simp only[eB,qf];exact .inr ⟨h3,h4⟩)).1
  have hset:∀ j,(listed.setIfInBounds i true).getD j false=if j=i then true else listed.getD j false:=fun j=>by
   rw[lY,lY,BX];by_cases hji:i=j
   ·subst hji;simp[hls,hlt]
   ·rw[if_neg hji,if_neg (fun x=>hji x.symm)]
  have hTnew:∀ t,dr (fun i'=>(listed.setIfInBounds i true).getD i' false) (mc ops.toList es t) 0 (s0.get t)=if o.dst=some t then e.res.v else dr (fun i=>listed.getD i false) (mc ops.toList es t) 0 (s0.get t):=fun t=>by
   by_cases hdt:o.dst=some t
   ·rw[if_pos hdt];refine w9 _ 0 _ i e.res.v (by rw[uU _ _ _ _ _ _ hio hie];unfold rJ;rw[if_pos hdt]) (by simp only[cw];rw[hset,if_pos rfl]) (fun j y hj hy=>?_);have hjl:=(ca.1 hy).1;rw[AG _ _ _ hl] at hjl;obtain⟨oj,ej,hoj,hej⟩:=hjget j aa;rw[uU _ _ _ _ _ _ hoj hej] at hy;injection hy with hy
    have hdst:=(Bj hy).1;simp only[cw];rw[hset,if_neg aa];refine hbehind j oj ej hj hoj hej ?_;cases hap:jy ops o oj (bI (bn s0 ops.toList es i) e.res) (bI (bn s0 ops.toList es j) ej.res) with
    |false=>rfl
    |true=>exact absurd (by unfold nS;simp[hdt]:t∈nS ops o) ((rE hap).2.1 t hdst)
   ·rw[if_neg hdt];refine pf _ 0 _ (fun j x hj=>?_);simp only[cw];rw[hset];by_cases hji:j=i
    ·subst hji;rw[uU _ _ _ _ _ _ hio hie] at hj;injection hj with hj
     exact absurd (Bj hj).1 hdt
    ·rw[if_neg hji]
  have hGnew:∀ b,dr (fun i'=>(listed.setIfInBounds i true).getD i' false) (jl s0 ops.toList es b) 0 (ag s0.H b)=(gk (bn s0 ops.toList es i) e b).getD (dr (fun i=>listed.getD i false) (jl s0 ops.toList es b) 0 (ag s0.H b)):=fun b=>by
   cases hwb:gk (bn s0 ops.toList es i) e b with
   |some x=>
    refine w9 _ 0 _ i x (by rw[rn _ _ _ _ _ _ _ hio hie,hwb]) (by simp only[cw];rw[hset,if_pos rfl]) (fun j y hj hy=>?_);have hjl:=(ca.1 hy).1;rw[xS _ _ _ _ hl] at hjl;obtain⟨oj,ej,hoj,hej⟩:=hjget j aa;rw[rn _ _ _ _ _ _ _ hoj hej] at hy;injection hy with hy
    have hft:=CH hy;have hft0:=CH hwb;simp only[cw];rw[hset,if_neg aa];refine hbehind j oj ej hj hoj hej ?_;cases hap:jy ops o oj (bI (bn s0 ops.toList es i) e.res) (bI (bn s0 ops.toList es j) ej.res) with
    |false=>rfl
    |true=>exact absurd hft0 ((rE hap).2.2.2 b hft).2
   |none=>
    refine pf _ 0 _ (fun j x hj=>?_);simp only[cw];rw[hset];by_cases hji:j=i
    ·subst hji;rw[rn _ _ _ _ _ _ _ hio hie,hwb] at hj;cases hj
    ·rw[if_neg hji]
  have hclosed:B7 ops.toList fun i'=>(listed.setIfInBounds i true).getD i' false:=fun j oj hj hlj e' he' hb=>by
   simp only[hset] at hlj |-
   by_cases hji:j=i
   ·subst hji;rw[hio] at hj;injection hj with hj;subst hj
    by_cases hei':e'.on=j
    ·rw[if_pos hei']
    ·rw[if_neg hei'];exact hpre e' he' hb
   ·rw[if_neg hji] at hlj;by_cases hei':e'.on=i
    ·rw[if_pos hei']
    ·rw[if_neg hei'];exact hinv.closed j oj hj hlj e' he' hb
  have hfuel:((List.range ops.size).filter fun i'=>!((listed.setIfInBounds i true).getD i' false)).length<=fuel:=by
   have :((List.range ops.size).filter fun i'=>!((listed.setIfInBounds i true).getD i' false)).length<((List.range ops.size).filter fun i=>!(listed.getD i false)).length:=by
    refine JB _ (fun x hx hq=>?_) ⟨i,by simp[hlt],by simp only[hnl];rfl,by simp only[hset];rfl⟩;simp only[hset] at hq;by_cases hxi:x=i
    ·rw[if_pos hxi] at hq;simp at hq
    ·rw[if_neg hxi] at hq;exact hq
   omega
  have hfresh:∀ b,(bn s0 ops.toList es i).H.length<=b->b<(bn s0 ops.toList es i).H.length+e.res.news.length->¬ (b<s0.H.length\/∃ i e,listed.getD i false=true/\es[i]?=some e/\(bn s0 ops.toList es i).H.length<=b/\b<(bn s0 ops.toList es i).H.length+e.res.news.length):=by
   rintro b hb1 hb2 (hb|⟨j,ej,hlj,hej,h3,h4⟩)
   ·have :=xA ht i 0 aa aa;rw[A3] at this;omega
   ·have hjl:j<es.length:=(ca.1 hej).1;have hoj:ops.toList[j]?=some (ops.toList[j]'(aa)):=aF _;have h5:=vP ht j _ ej hoj hej;have h6:=vP ht i o e hio hie;rcases D6 j i with hlt'|rfl|hgt
    ·have :=xA ht i (j+1) aa aa;omega
    ·rw[hnl] at hlj;cases hlj
    ·have :=xA ht j (i+1) aa aa;omega
  have hdomsub:∀ b,(b<s0.H.length\/∃ i e,listed.getD i false=true/\es[i]?=some e/\(bn s0 ops.toList es i).H.length<=b/\b<(bn s0 ops.toList es i).H.length+e.res.news.length)->
    (b<s0.H.length\/∃ i' e,(listed.setIfInBounds i true).getD i' false=true/\es[i']?=some e/\(bn s0 ops.toList es i').H.length<=b/\b<(bn s0 ops.toList es i').H.length+e.res.news.length):=by
   rintro b (hb|⟨j,ej,hlj,hej,h3⟩)
   ·exact .inl hb
   ·exact .inr ⟨j,ej,by rw[hset];split;rfl;exact hlj,hej,h3⟩
  have hdomnew:∀ b,cU (fun b=>b<s0.H.length\/∃ i e,listed.getD i false=true/\es[i]?=some e/\(bn s0 ops.toList es i).H.length<=b/\b<(bn s0 ops.toList es i).H.length+e.res.news.length) (bn s0 ops.toList es i).H.length e.res.news.length b->
    (b<s0.H.length\/∃ i' e,(listed.setIfInBounds i true).getD i' false=true/\es[i']?=some e/\(bn s0 ops.toList es i').H.length<=b/\b<(bn s0 ops.toList es i').H.length+e.res.news.length):=by
   rintro b (hb|hb)
   ·exact hdomsub b hb
   ·exact .inr ⟨i,e,by rw[hset,if_pos rfl],hie,hb.1,hb.2⟩
  have hopsi:ops[i]?=some o:=by rw[oG hlt,hoi]
  have hwant:Region.wanted o (yielded ops a.tmps)=e.run:=by
   unfold pJ at hg;cases hgd:o.guard with
   |none=>rw[hgd] at hg;simp only at hg;unfold Region.wanted;rw[hgd,hg]
   |some jw=>
    obtain⟨jj,want⟩:=jw;rw[hgd] at hg;simp only at hg;obtain⟨d,g1,g2,g5⟩:=hg;have hv:=hinv.tmps.slot d;rcases g5 with⟨b',g3,g4⟩|⟨g3,g4⟩
    ·rw[hslot d (by unfold nS;rw[hgd];simp[g1]),g3] at hv;unfold VR at hv;rw[Lr hgd g1 (by rw[hinv.tmps.size];exact g2) hv,g4]
    ·rw[hslot d (by unfold nS;rw[hgd];simp[g1]),g3] at hv;unfold VR at hv;obtain⟨a0,e0,l0⟩:=hv;have ha0:a0=#[]:=by unfold VRs at l0;exact Array.toList_eq_nil_iff.1 l0
     subst ha0;rw[I0 hgd g1 e0,g4]
  unfold wpOp;rw[hopsi];simp only[hwant];cases hr:e.run with
  |false=>
   rw[hr] at hrun;simp only[ct,if_false] at hrun |-
   have hwn:∀ b,gk (bn s0 ops.toList es i) e b=none:=fun b=>by
    unfold gk;rw[hrun];simp
   refine ih _ ρ _ w (by simpa using hls) hfuel ⟨hclosed,⟨by simpa [Act.put] using(show(a.put o.dst undef).tmps.size=n by cases o.dst<;>simp[Act.put,hinv.tmps.size]),by cases o.dst<;>exact hinv.tmps.defers,fun t=>?_⟩,?_,hinv.agree,?_⟩
   ·rw[hTnew];cases hdd:o.dst with
    |none=>simp only[seval,if_false,Act.put];exact(hinv.tmps.slot t).mono (fun _ _=>rfl) hdomsub (Lasts.refl w)
    |some d=>
     have hdn:d<a.tmps.size:=by rw[hinv.tmps.size];rw[hdd] at hd;exact hd
     rw[wI a d undef t hdn];by_cases hdt:d=t
     ·subst hdt;rw[if_pos rfl,if_pos rfl,hrun];exact BR
     ·rw[if_neg hdt,if_neg (by simpa using hdt)];exact(hinv.tmps.slot t).mono (fun _ _=>rfl) hdomsub (Lasts.refl w)
   ·have :=hinv.mem.monoDom hdomsub;refine this.less fun b B hB=>?_
    rw[hGnew,hwn] at hB;exact hB
   ·refine hinv.frame.less fun b B hB hro=>⟨b,B,?_,hro,rfl⟩
    rw[hGnew,hwn] at hB;exact hB
  |true=>
   rw[hr] at hrun;simp only[if_true] at hrun |-
   obtain⟨hx,hold,_⟩:=hrun;have hevs:∀ x∈o.op.operands.toList,VR ρ (fun b=>b<s0.H.length\/∃ i e,listed.getD i false=true/\es[i]?=some e/\(bn s0 ops.toList es i).H.length<=b/\b<(bn s0 ops.toList es i).H.length+e.res.news.length) w ((bn s0 ops.toList es i).ev x) (a.eval x):=fun x hxm=>by
    cases x with
    |tmp t=>
     have hv:=hinv.tmps.slot t;rw[hslot t (by unfold nS;simp only[eB,List.mem_filterMap];exact .inl (.inr ⟨_,hxm,rfl⟩))] at hv;exact hv
    |const v=>exact AV v
    |global g=>show VR _ _ _ .junk _;unfold VR;trivial
    |func f=>show VR _ _ _ (.fn f [] []) _;unfold VR;exact⟨#[],#[],rfl,VRs.nil,VRs.nil⟩
   have hJall:∀ b,J b (dr (fun i=>listed.getD i false) (jl s0 ops.toList es b) 0 (ag s0.H b)):=fun b=>A1 _ 0 _ (hJ b) fun j x hj=>by
    have hjl:=(ca.1 hj).1;rw[xS _ _ _ _ hl] at hjl;obtain⟨oj,ej,hoj,hej⟩:=hjget j aa;rw[rn _ _ _ _ _ _ _ hoj hej] at hj;injection hj with hj
    obtain⟨_,_,hrj⟩:=(hat j oj ej hoj hej).1;cases hrr:ej.run with
    |false=>
     rw[hrr] at hrj;simp only[ct,if_false] at hrj;rw[SS hrj] at hj;cases hj
    |true=>
     rw[hrr] at hrj;simp only[if_true] at hrj;exact hrj.2.2 b x hj
   refine .inl (hx ρ _ _ w a _ Q hevs hinv.mem (fun b hbf=>⟨hfp b hbf,hfpd b hbf⟩) hfresh hJall ?_);intro ρ' w' r k1 k2 k3 k4;have hle:∀ b B,dr (fun i'=>(listed.setIfInBounds i true).getD i' false) (jl s0 ops.toList es b) 0 (ag s0.H b)=some B->bZ (fun b=>dr (fun i=>listed.getD i false) (jl s0 ops.toList es b) 0 (ag s0.H b)) e.res.old (bn s0 ops.toList es i).H.length e.res.news b=some B:=fun b B hB=>by
    rw[hGnew] at hB;unfold gk at hB;unfold bZ;by_cases hc:(bn s0 ops.toList es i).H.length<=b/\b<(bn s0 ops.toList es i).H.length+e.res.news.length
    ·rw[if_pos hc] at hB |-;exact hB
    ·rw[if_neg hc] at hB |-
     rw[Cl];by_cases hmem:b∈e.res.old.map (·.1)
     ·have hbl:b<(bn s0 ops.toList es i).H.length:=by
       obtain⟨x,hx1,hx2⟩:=cD.1 hmem;rw[<-hx2];exact hold x hx1
      rw[if_pos ⟨hbl,hmem⟩] at hB;rw[if_pos hmem];exact hB
     ·rw[if_neg (fun h=>hmem h.2)] at hB;rw[if_neg hmem];exact hB
   refine ih _ ρ' _ w' (by simpa using hls) hfuel ⟨hclosed,⟨by cases o.dst<;>simp[Act.put,hinv.tmps.size],by cases o.dst<;>exact hinv.tmps.defers,fun t=>?_⟩,(k2.less hle).monoDom hdomnew,fun b hb=>(k1 b (.inl hb)).trans (hinv.agree b hb),?_⟩
   ·rw[hTnew];cases hdd:o.dst with
    |none=>simp only[seval,if_false,Act.put];exact(hinv.tmps.slot t).mono k1 hdomsub k4.lasts
    |some d=>
     have hdn:d<a.tmps.size:=by rw[hinv.tmps.size];rw[hdd] at hd;exact hd
     rw[wI a d r t hdn];by_cases hdt:d=t
     ·subst hdt;rw[if_pos rfl,if_pos rfl];exact k3.mono (fun _ _=>rfl) hdomnew (Lasts.refl w')
     ·rw[if_neg hdt,if_neg (by simpa using hdt)];exact(hinv.tmps.slot t).mono k1 hdomsub k4.lasts
   ·exact(hinv.frame.trans k4).less fun b B hB hro=>⟨b,B,hle b B hB,hro,rfl⟩
theorem Hr {m id:Nat}{s s':St}{es:List Ent}{K:St->Prop}(e:P.follows .mixedOrders=true)(ht:mU P J n ops ops.toList s es s')(k:iA ops (jG ops.toList s es)=true)(z:∀ b,J b (ag s.H b))(B:K s'):Ld P m n id ops s K:=by
 intro ρ a w Q g C D;refine wp_region_any e ?_;obtain⟨G,_,_⟩:=tv _ _ _ _ ht;have c:Alike w {w with drawn:=w.drawn+1}:=Alike.drew w;have d:∀ i,(Array.replicate ops.size false).getD i false=false:=fun i=>by
  rw[lY,Array.getElem?_replicate];split <;>rfl
 have E:∀ t,dr (fun i=>(Array.replicate ops.size false).getD i false) (mc ops.toList es t) 0 (s.get t)=s.get t:=fun t=>qK _ 0 _ fun j x _=>d _
 have r:(fun b=>dr (fun i=>(Array.replicate ops.size false).getD i false) (jl s ops.toList es b) 0 (ag s.H b))=ag s.H:=funext fun b=>qK _ 0 _ fun j x _=>d _
 refine T3 ht k (ρ0:=ρ) (w0:=w) C z (fun ρ' a' w' h1 h2=>D a' w' ⟨s',ρ',B,h1,h2⟩) _ _ ρ a _ ae (fF (List.length_filter_le _ _) ae) ⟨(fun j o _ u=>by rw[d] at u;cases u),⟨g.tmps.size,g.tmps.defers,fun t=>?_⟩,?_,fun _ _=>rfl,?_⟩
 ·rw[E];exact(g.tmps.slot t).mono (fun _ _=>rfl) (fun b l=> .inl l) c.lasts
 ·rw[r];exact(g.mem.alike c).monoDom fun b l=> .inl l
 ·rw[r];exact Frame.alike c
def fK (P:Program)(n:Nat)(ops:Array Oper)(K:St->Prop):List Oper->List (List Nat×List Nat)->St->Prop
 |[],tr,s=>iA ops tr=true/\K s
 |o::l,tr,s=>fV n o.dst/\match o.guard with
  |none=>eN P o.op s (hold fun res=>(∀ x∈res.old,x.1<s.H.length)/\fK P n ops K l (tr++[bI s res]) (s.after o.dst res))
  |some (j,want)=>match j6 ops j with
   |some d=>d<n/\kf (s.get d) want (eN P o.op s (hold fun res=>(∀ x∈res.old,x.1<s.H.length)/\fK P n ops K l (tr++[bI s res]) (s.after o.dst res))) (fK P n ops K l (tr++[([],[])]) (s.put o.dst (.tup [])))
   |none=>False
theorem Aq {K:St->Prop}:∀ (l:List Oper) (tr:List (List Nat×List Nat)) (s:St),fK P n ops K l tr s->∃ es s',mU P (fun _ _=>True) n ops l s es s'/\iA ops (tr++jG l s es)=true/\K s'
 |[],tr,s,h=>⟨[],s,rfl,by simpa [jG] using h.1,h.2⟩
 |o::l,tr,s,h=>by
  obtain⟨k,h⟩:=h;have go:pJ ops n o s true->(eN P o.op s fun res=>(∀ x∈res.old,x.1<s.H.length)/\fK P n ops K l (tr++[bI s res]) (s.after o.dst res))->∃ es s',mU P (fun _ _=>True) n ops (o::l) s es s'/\iA ops (tr++jG (o::l) s es)=true/\K s':=fun c p=>by
   obtain⟨res,h1,h2,q⟩:=DE p;obtain⟨es,s',g1,g2,g3⟩:=Aq l _ _ q;refine⟨⟨true,res⟩::es,s',⟨⟨k,c,by simp only[if_true];exact⟨h1.toJ,h2,fun _ _ _=>trivial⟩⟩,g1⟩,?_,g3⟩;simpa [jG] using g2
  cases c:o.guard with
  |none=>rw[c] at h;exact go (by unfold pJ;rw[c]) h
  |some g=>
   obtain⟨j,want⟩:=g;rw[c] at h;simp only at h;split at h
   case h_2=>exact h.elim
   rename_i d m;obtain⟨f,h⟩:=h;unfold kf at h;have a:s.after o.dst {v:= .tup []}=s.put o.dst (.tup []):=by unfold St.after St.put cK;simp
   split at h
   case h_3=>exact h.elim
   case h_2=>
    rename_i i;obtain⟨es,s',g1,g2,g3⟩:=Aq l _ _ h;refine⟨⟨false,{v:= .tup []}⟩::es,s',⟨⟨k,by unfold pJ;rw[c];exact⟨d,m,f,.inr ⟨i,rfl⟩⟩,rfl⟩,by rw[a];exact g1⟩,?_,g3⟩;simp only[jG,a];simpa [bI] using g2
   rename_i b i;obtain⟨h1,h2⟩:=h;by_cases e:b=want
   ·exact go (by unfold pJ;rw[c];exact⟨d,m,f,.inl ⟨b,i,by rw[e];simp⟩⟩) (h1 e)
   ·obtain⟨es,s',g1,g2,g3⟩:=Aq l _ _ (h2 e);refine⟨⟨false,{v:= .tup []}⟩::es,s',⟨⟨k,by unfold pJ;rw[c];exact⟨d,m,f,.inl ⟨b,i,by simpa using e⟩⟩,rfl⟩,by rw[a];exact g1⟩,?_,g3⟩;simp only[jG,a];simpa [bI] using g2
theorem OO {m id:Nat}{s:St}{K:St->Prop}(a:P.follows .mixedOrders=true)(h:fK P n ops K ops.toList [] s):Ld P m n id ops s K:=by
 obtain⟨es,s',h1,h2,b⟩:=Aq _ _ _ h;exact Hr a h1 (by simpa using h2) (fun _=>trivial) b
end
end
section
section
variable {ρ ρ':Nat->Nat×Nat}{dom dom':Nat->Prop}{P:Program}{w w':World}{n:Nat}{a:Act}
structure Weak (m n:Nat) (s s':St):Prop where
 len:m<=s.H.length->m<=s'.H.length
 go:∀ (ρ:Nat->Nat×Nat) (a:Act) (w:World),RelSt ρ n s a w->m<=s.H.length->∃ ρ',RelSt ρ' n s' a w/\Step m ρ s w ρ' s' w
theorem Weak.refl (m n:Nat)(s:St):Weak m n s s:=⟨id,fun ρ _ _ h b=>⟨ρ,h,Step.refl b⟩⟩
theorem Weak.trans {m n:Nat}{s s' b:St}(h:Weak m n s s')(k:Weak m n s' b):Weak m n s b:=⟨fun e=>k.len (h.len e),fun ρ a w c d=>by
 obtain⟨ρ1,h1,h2⟩:=h.go ρ a w c d;obtain⟨ρ2,f,g⟩:=k.go ρ1 a w h1 h2.1;exact⟨ρ2,f,h2.trans g⟩⟩
theorem Weak.drop {m n:Nat}{s s':St}(ht:∀ p∈s'.t,p.2=s.get p.1)(d:s'.H.length=s.H.length)(k:∀ b B,ag s'.H b=some B->ag s.H b=some B):Weak m n s s':=⟨fun e=>by rw[d];exact e,fun ρ a w f o=>by
 refine⟨ρ,⟨⟨f.tmps.size,f.tmps.defers,fun t=>?_⟩,(f.mem.less k).monoDom (fun b r=>by rw[d];exact r)⟩,by rw[d];exact o,fun _ _=>rfl,?_⟩
 ·have :∀ (l:List (Nat×V)),(∀ p∈l,p.2=s.get p.1)->VR ρ (· <s.H.length) w (aj l t) (a.tmps.getD t undef):=by
   intro l;induction l with
   |nil=>intro _;show VR _ _ _ .junk _;unfold VR;trivial
   |cons p l ih=>
    intro h;simp only[aj];split
    ·rename_i e;rw[h p ae,e];exact f.tmps.slot t
    ·exact ih fun q u=>h q (by simp[u])
  rw[d];exact this s'.t ht
 ·exact(Frame.refl ρ (ag s.H) w).less fun b B v j=>⟨b,B,k b B v,j,rfl⟩⟩
def jH (K:St->Prop)(Q:Exit->St->Prop):Exit->St->Prop
 | .normal,s=>K s
 |e,s=>Q e s
def mu (id:Nat)(Q:Exit->St->Prop):Exit->St->Prop
 | .exit i,s=>if i=id then Q .normal s else Q (.exit i) s
 |e,s=>Q e s
theorem DW {c:Code}{a:Act}{w:World}{Q:Exit->Act->World->Prop}(R:Nat->Act->World->Prop){k0:Nat}(h0:R k0 a w)
  (round:∀ k a w,R k a w->c.wp P (Exit.then (fun a' w'=>∃ j,j<k/\R j a' w') Q) a w):(Code.loop c).wp P Q a w:=by
 intro b k cs;have key:∀ n a w,R n a w->∃ e a' w',Q e a' w'/\Arrives P (lone (b.at a (.code c:: .inLoop c::k)) cs w) b k cs e a' w':=by
  intro n;induction n using Nat.strongRecOn with
  |_ n ih=>
   intro a w q;obtain⟨e,h,i,f,d⟩:=round n a w q b (.inLoop c::k) cs;cases e with
   |normal=>
    obtain⟨j,m,o⟩:=f;obtain⟨r,s,t,p,g⟩:=ih j m h i o;exact⟨r,s,t,p,.of_steps (Steps.trans d (.one step_inLoop)) g⟩
   |exit id=>exact⟨_,h,i,f,.pass (x:= .inLoop c) rfl (fun _ _=> .inl ae) d⟩
   |goto l=>exact⟨_,h,i,f,.pass (x:= .inLoop c) rfl (fun _ _=> .inl ae) d⟩
   |ret=>exact⟨_,h,i,f,.pass (x:= .inLoop c) rfl (fun _ _=> .inl ae) d⟩
   |panic u=>exact⟨_,h,i,f,.pass (x:= .inLoop c) rfl (fun _ _=> .inl ae) d⟩
   |outgrown=>exact⟨_,h,i,f,.pass (x:= .inLoop c) rfl (fun _ _=> .inl ae) d⟩
 obtain⟨e,a',w',f,d⟩:=key _ a w h0;exact⟨e,a',w',f,.of_steps (.one step_loop) d⟩
def jS (m n:Nat)(I:Nat->St->Prop)(k:Nat)(s':St):Prop:=∃ f e,f<k/\Weak m n s' e/\I f e
def EJ (m n:Nat)(body:(Exit->St->Prop)->St->Prop)(Q:Exit->St->Prop)(s:St):Prop:=
 ∃ I:Nat->St->Prop,(∃ k s0,Weak m n s s0/\I k s0)/\∀ k s,I k s->m<=s.H.length->body (jH (jS m n I k) Q) s
@[congr] theorem aht {id:Nat} {Q:Exit->St->Prop} {e:Exit} {s s':St} (h:s=s'):mu id Q e s=mu id Q e s':=by rw[h]
def uN (v:V)(X Y:Prop):Prop:=match v with
 | .bool b=>(b=true->X)/\(b=false->Y)
 |_=>False
def vc (P:Program)(m n:Nat):Code->(Exit->St->Prop)->St->Prop
 | .skip,Q,s=>Q .normal s
 | .label _,Q,s=>Q .normal s
 | .region id ops draw,Q,s=>match draw with
  |true=>fK P n ops (Q .normal) ops.toList [] s
  |false=>cM P n ops ops.toList s (Q .normal)
 | .seq x y,Q,s=>vc P m n x (jH (vc P m n y Q) Q) s
 | .cond c x y,Q,s=>uN (s.ev c) (vc P m n x Q s) (vc P m n y Q s)
 | .block id c,Q,s=>vc P m n c (mu id Q) s
 | .loop c,Q,s=>EJ m n (vc P m n c) Q s
 | .exit id,Q,s=>Q (.exit id) s
 | .ret,Q,s=>Q .ret s
 | .scope _,_,_=>False
 | .goto _,_,_=>False
 | .rangeFunc _ _ _ _,_,_=>False
 | .refuse _,_,_=>False
def yE (m n:Nat)(ρ:Nat->Nat×Nat)(s:St)(w:World)(Q:Exit->St->Prop)(e:Exit)(a':Act)(w':World):Prop:=∃ s' ρ',Q e s'/\RelSt ρ' n s' a' w'/\Step m ρ s w ρ' s' w'
theorem nz (d:P.follows .mixedOrders=true){m:Nat}:∀ (c:Code) (Q:Exit->St->Prop) (s:St),vc P m n c Q s->∀ (ρ:Nat->Nat×Nat) (a:Act) (w:World),RelSt ρ n s a w->m<=s.H.length->c.wp P (yE m n ρ s w Q) a w
 | .skip,Q,s,h,ρ,a,w,f,g=>wp_skip ⟨s,ρ,h,f,Step.refl g⟩
 | .label _,Q,s,h,ρ,a,w,f,g=>wp_label ⟨s,ρ,h,f,Step.refl g⟩
 | .region id ops true,Q,s,h,ρ,a,w,f,g=>OO (id:=id) d h ρ a w _ f g fun _ _ ⟨s',ρ',j,o,l⟩=>⟨s',ρ',j,o,l⟩
 | .region id ops false,Q,s,h,ρ,a,w,f,g=>M0 h f g fun _ _ ⟨s',ρ',j,o,l⟩=>⟨s',ρ',j,o,l⟩
 | .seq x y,Q,s,h,ρ,a,w,f,g=>by
  refine wp_seq (wp_mono (nz d x _ s h ρ a w f g) ?_);rintro e a' w' ⟨s',ρ',j,o,l⟩;cases e
  case normal=>exact wp_mono (nz d y Q s' j ρ' a' w' o l.1) fun e F G ⟨q,ρ'',r1,r2,r3⟩=>⟨q,ρ'',r1,r2,l.trans r3⟩
  all_goals exact⟨s',ρ',j,o,l⟩
 | .cond c x y,Q,s,h,ρ,a,w,f,g=>by
  simp only[vc,uN] at h;split at h
  case h_2=>exact h.elim
  rename_i b J;have r:=f.tmps.eval c;rw[J] at r;unfold VR at r;exact wp_cond_split r (fun ht=>nz d x Q s (h.1 ht) ρ a w f g) (fun K=>nz d y Q s (h.2 K) ρ a w f g)
 | .block id c,Q,s,h,ρ,a,w,f,g=>by
  refine wp_block (wp_mono (nz d c _ s h ρ a w f g) ?_);rintro e a' w' ⟨s',ρ',j,o,l⟩;cases e
  case exit i=>
   simp only[mu] at j;simp only[Exit.inBlock];split at j
   ·rename_i e;rw[if_pos e];exact⟨s',ρ',j,o,l⟩
   ·rename_i e;rw[if_neg e];exact⟨s',ρ',j,o,l⟩
  all_goals exact⟨s',ρ',j,o,l⟩
 | .loop c,Q,s,h,ρ,a,w,f,g=>by
  obtain⟨I,⟨k0,s0,t,u⟩,round⟩:=h;obtain⟨ρ0,v,z⟩:=t.go ρ a w f g;refine DW (fun k A w1=>∃ s1 ρ1,I k s1/\RelSt ρ1 n s1 A w1/\Step m ρ s w ρ1 s1 w1) (k0:=k0) ⟨s0,ρ0,u,v,z⟩ ?_;rintro k A w1 ⟨s1,ρ1,hi,B,p⟩;refine wp_mono (nz d c _ s1 (round k s1 hi p.1) ρ1 A w1 B p.1) ?_;rintro e a2 L ⟨s2,ρ2,j,o,l⟩;cases e
  case normal=>
   obtain⟨M,N,O,hw,C⟩:=j;obtain⟨ρ3,D,E⟩:=hw.go ρ2 a2 L o l.1;exact⟨M,O,N,ρ3,C,D,(p.trans l).trans E⟩
  all_goals exact⟨s2,ρ2,j,o,p.trans l⟩
 | .exit id,Q,s,h,ρ,a,w,f,g=>wp_exit ⟨s,ρ,h,f,Step.refl g⟩
 | .ret,Q,s,h,ρ,a,w,f,g=>wp_ret ⟨s,ρ,h,f,Step.refl g⟩
 | .scope _,_,_,h,_,_,_,_,_=>h.elim
 | .goto _,_,_,h,_,_,_,_,_=>h.elim
 | .rangeFunc _ _ _ _,_,_,h,_,_,_,_,_=>h.elim
 | .refuse _,_,_,h,_,_,_,_,_=>h.elim
theorem AM {r:Option Res}{K K':Res->Prop}(h:∀ r,K r->K' r)(b:gZ r K):gZ r K':=by
 unfold gZ at*;split at b
 ·exact⟨b.1,h _ b.2⟩
 ·exact b
theorem ud {o:Op}{s:St}{K K':Res->Prop}(h:∀ r,K r->K' r)(b:eN P o s K):eN P o s K':=by
 unfold eN at*;split at b
 ·split at b
  ·obtain⟨res,h1,h2⟩:=b;exact⟨res,h1,h _ h2⟩
  ·exact AM h b
  ·unfold rz at*;split at b
   ·split at b
    ·obtain⟨res,h1,h2⟩:=b;exact⟨res,h1,h _ h2⟩
    ·exact b
   ·exact b
 ·exact AM h b
theorem tN {ops:Array Oper}:∀ (l:List Oper) (s:St) (K K':St->Prop),(∀ s,K s->K' s)->cM P n ops l s K->cM P n ops l s K'
 |[],s,K,K',h,c=>h s c
 |o::l,s,K,K',h,c=>by
  refine⟨c.1,?_⟩;have h2:=c.2;split at h2
  ·exact ud (fun r d=>tN l _ K K' h d) h2
  ·split at h2
   ·refine⟨h2.1,?_⟩;have b:=h2.2;unfold kf at b |-
    split at b
    ·exact⟨fun e=>ud (fun r d=>tN l _ K K' h d) (b.1 e),fun e=>tN l _ K K' h (b.2 e)⟩
    ·exact tN l _ K K' h b
    ·exact b
   ·exact h2
theorem u5 {ops:Array Oper}:∀ (l:List Oper) (tr:List (List Nat×List Nat)) (s:St) (K K':St->Prop),(∀ s,K s->K' s)->fK P n ops K l tr s->fK P n ops K' l tr s
 |[],tr,s,K,K',h,c=>⟨c.1,h s c.2⟩
 |o::l,tr,s,K,K',h,c=>by
  refine⟨c.1,?_⟩;have h2:=c.2;split at h2
  ·exact ud (fun r d=>⟨d.1,u5 l _ _ K K' h d.2⟩) h2
  ·split at h2
   ·refine⟨h2.1,?_⟩;have b:=h2.2;unfold kf at b |-
    split at b
    ·exact⟨fun e=>ud (fun r d=>⟨d.1,u5 l _ _ K K' h d.2⟩) (b.1 e),fun e=>u5 l _ _ K K' h (b.2 e)⟩
    ·exact u5 l _ _ K K' h b
    ·exact b
   ·exact h2
theorem im {m:Nat}:∀ (c:Code) (Q Q':Exit->St->Prop) (s:St),(∀ e s,Q e s->Q' e s)->vc P m n c Q s->vc P m n c Q' s
 | .skip,Q,Q',s,h,b=>h _ _ b
 | .label _,Q,Q',s,h,b=>h _ _ b
 | .region id ops true,Q,Q',s,h,b=>u5 _ _ _ _ _ (fun s f=>h _ _ f) b
 | .region id ops false,Q,Q',s,h,b=>tN _ _ _ _ (fun s f=>h _ _ f) b
 | .seq x y,Q,Q',s,h,b=>im x _ _ s (fun e s d=>by
   cases e
   case normal=>exact im y Q Q' s h d
   all_goals exact h _ _ d) b
 | .cond c x y,Q,Q',s,h,b=>by
  simp only[vc,uN] at b |-
  split at b
  ·exact⟨fun g=>im x Q Q' s h (b.1 g),fun g=>im y Q Q' s h (b.2 g)⟩
  ·exact b
 | .block id c,Q,Q',s,h,b=>im c _ _ s (fun e s d=>by
   cases e
   case exit i=>
    simp only[mu] at d |-
    split at d
    ·rename_i e;rw[if_pos e];exact h _ _ d
    ·rename_i e;rw[if_neg e];exact h _ _ d
   all_goals exact h _ _ d) b
 | .loop c,Q,Q',s,h,b=>by
  obtain⟨I,h0,j⟩:=b;refine⟨I,h0,fun k s hi l=>im c _ _ s (fun e s d=>?_) (j k s hi l)⟩;cases e
  case normal=>exact d
  all_goals exact h _ _ d
 | .exit id,Q,Q',s,h,b=>h _ _ b
 | .ret,Q,Q',s,h,b=>h _ _ b
 | .scope _,_,_,_,_,b=>b
 | .goto _,_,_,_,_,b=>b
 | .rangeFunc _ _ _ _,_,_,_,_,b=>b
 | .refuse _,_,_,_,_,b=>b
end
end
section
mutual
def V.low (n:Nat):V->Prop
 | .ptr b _=>b<n
 | .slice b _ _ _=>b<n
 | .map b=>b<n
 | .fn _ fs cs=>af n fs/\af n cs
 | .agg cs=>af n cs
 | .tup cs=>af n cs
 | .iface _ v=>v.low n
 | .aFn _ _ v=>v.low n
 |_=>True
def af (n:Nat):List V->Prop
 |[]=>True
 |v::l=>v.low n/\af n l
end
mutual
def V.ren (σ:Nat->Nat):V->V
 | .ptr b o=> .ptr (σ b) o
 | .slice b o len esz=> .slice (σ b) o len esz
 | .map b=> .map (σ b)
 | .fn f fs cs=> .fn f (rens σ fs) (rens σ cs)
 | .agg cs=> .agg (rens σ cs)
 | .tup cs=> .tup (rens σ cs)
 | .iface t v=> .iface t (v.ren σ)
 | .aFn nm t v=> .aFn nm t (v.ren σ)
 |v=>v
def rens (σ:Nat->Nat):List V->List V
 |[]=>[]
 |v::l=>v.ren σ::rens σ l
end
theorem iP (σ:Nat->Nat):∀ l,rens σ l=l.map (V.ren σ)
 |[]=>rfl
 |v::l=>by unfold rens;rw[iP σ l];rfl
section
variable {ρ ρ':Nat->Nat×Nat}{dom dom':Nat->Prop}{P:Program}{w w':World}{n:Nat}{a:Act}
mutual
theorem VR.unren {σ:Nat->Nat}:∀ {v:V} {r:Value},VR ρ dom w (v.ren σ) r->v.low n->VR (fun b=>ρ (σ b)) (· <n) w v r
 | .junk,_,_,_=>by unfold VR;trivial
 | .bool _,_,h,_=>by unfold V.ren at h;unfold VR at*;exact h
 | .u8 _,_,h,_=>by unfold V.ren at h;unfold VR at*;exact h
 | .u32 _,_,h,_=>by unfold V.ren at h;unfold VR at*;exact h
 | .u64 _,_,h,_=>by unfold V.ren at h;unfold VR at*;exact h
 | .i64 _,_,h,_=>by unfold V.ren at h;unfold VR at*;exact h
 | .i32 _,_,h,_=>by unfold V.ren at h;unfold VR at*;exact h
 | .str _,_,h,_=>by unfold V.ren at h;unfold VR at*;exact h
 | .ptr b _,_,h,hb=>by unfold V.ren at h;unfold V.low at hb;unfold VR at*;exact⟨hb,h.2⟩
 | .nilPtr,_,h,_=>by unfold V.ren at h;unfold VR at*;exact h
 | .slice b _ _ _,_,h,hb=>by unfold V.ren at h;unfold V.low at hb;unfold VR at*;exact⟨hb,h.2⟩
 | .nilSlice,_,h,_=>by unfold V.ren at h;unfold VR at*;exact h
 | .fn _ fs cs,_,h,hb=>by
  unfold V.ren at h;unfold V.low at hb;unfold VR at*;obtain⟨f',c',h1,h2,h3⟩:=h;exact⟨f',c',h1,VRs.unren h2 hb.1,VRs.unren h3 hb.2⟩
 | .nilFn,_,h,_=>by unfold V.ren at h;unfold VR at*;exact h
 | .aFn _ _ v,_,h,hb=>by
  unfold V.ren at h;unfold V.low at hb;unfold VR at*;obtain⟨x,h1,h2⟩:=h;exact⟨x,h1,VR.unren h2 hb⟩
 | .agg cs,_,h,hb=>by
  unfold V.ren at h;unfold V.low at hb;unfold VR at*;obtain⟨r',h1,h2⟩:=h;exact⟨r',h1,VRs.unren h2 hb⟩
 | .tup cs,_,h,hb=>by
  unfold V.ren at h;unfold V.low at hb;unfold VR at*;obtain⟨r',h1,h2⟩:=h;exact⟨r',h1,VRs.unren h2 hb⟩
 | .iface _ v,_,h,hb=>by
  unfold V.ren at h;unfold V.low at hb;unfold VR at*;obtain⟨r',h1,h2⟩:=h;exact⟨r',h1,VR.unren h2 hb⟩
 | .nilIface,_,h,_=>by unfold V.ren at h;unfold VR at*;exact h
 | .map b,_,h,hb=>by unfold V.ren at h;unfold V.low at hb;unfold VR at*;exact⟨hb,h.2⟩
theorem VRs.unren {σ:Nat->Nat}:∀ {vs:List V} {rs:List Value},VRs ρ dom w (rens σ vs) rs->af n vs->VRs (fun b=>ρ (σ b)) (· <n) w vs rs
 |[],_,h,_=>by unfold rens at h;unfold VRs at*;exact h
 |v::vs,_,h,hb=>by
  unfold rens at h;unfold af at hb;unfold VRs at*;obtain⟨r,rs,h1,h2,h3⟩:=h;exact⟨r,rs,h1,VR.unren h2 hb.1,VRs.unren h3 hb.2⟩
end
mutual
theorem VR.doren {σ:Nat->Nat}(hσ:∀ b,dom b->dom' (σ b))(hρ:∀ b,dom b->ρ' (σ b)=ρ b):∀ {v:V} {r:Value},VR ρ dom w v r->VR ρ' dom' w (v.ren σ) r
 | .junk,_,_=>by unfold V.ren VR;trivial
 | .bool _,_,h=>by unfold V.ren;unfold VR at*;exact h
 | .u8 _,_,h=>by unfold V.ren;unfold VR at*;exact h
 | .u32 _,_,h=>by unfold V.ren;unfold VR at*;exact h
 | .u64 _,_,h=>by unfold V.ren;unfold VR at*;exact h
 | .i64 _,_,h=>by unfold V.ren;unfold VR at*;exact h
 | .i32 _,_,h=>by unfold V.ren;unfold VR at*;exact h
 | .str _,_,h=>by unfold V.ren;unfold VR at*;exact h
 | .ptr b _,_,h=>by unfold V.ren;unfold VR at*;exact⟨hσ b h.1,by rw[hρ b h.1];exact h.2⟩
 | .nilPtr,_,h=>by unfold V.ren;unfold VR at*;exact h
 | .slice b _ _ _,_,h=>by unfold V.ren;unfold VR at*;exact⟨hσ b h.1,by rw[hρ b h.1];exact h.2⟩
 | .nilSlice,_,h=>by unfold V.ren;unfold VR at*;exact h
 | .fn _ fs cs,_,h=>by
  unfold V.ren;unfold VR at*;obtain⟨f',c',h1,h2,h3⟩:=h;exact⟨f',c',h1,VRs.doren hσ hρ h2,VRs.doren hσ hρ h3⟩
 | .nilFn,_,h=>by unfold V.ren;unfold VR at*;exact h
 | .aFn _ _ v,_,h=>by
  unfold V.ren;unfold VR at*;obtain⟨x,h1,h2⟩:=h;exact⟨x,h1,VR.doren hσ hρ h2⟩
 | .agg cs,_,h=>by
  unfold V.ren;unfold VR at*;obtain⟨r',h1,h2⟩:=h;exact⟨r',h1,VRs.doren hσ hρ h2⟩
 | .tup cs,_,h=>by
  unfold V.ren;unfold VR at*;obtain⟨r',h1,h2⟩:=h;exact⟨r',h1,VRs.doren hσ hρ h2⟩
 | .iface _ v,_,h=>by
  unfold V.ren;unfold VR at*;obtain⟨r',h1,h2⟩:=h;exact⟨r',h1,VR.doren hσ hρ h2⟩
 | .nilIface,_,h=>by unfold V.ren;unfold VR at*;exact h
 | .map b,_,h=>by unfold V.ren;unfold VR at*;exact⟨hσ b h.1,by rw[hρ b h.1];exact h.2⟩
theorem VRs.doren {σ:Nat->Nat}(hσ:∀ b,dom b->dom' (σ b))(hρ:∀ b,dom b->ρ' (σ b)=ρ b):∀ {vs:List V} {rs:List Value},VRs ρ dom w vs rs->VRs ρ' dom' w (rens σ vs) rs
 |[],_,h=>by unfold rens;unfold VRs at*;exact h
 |v::vs,_,h=>by
  unfold rens;unfold VRs at*;obtain⟨r,rs,h1,h2,h3⟩:=h;exact⟨r,rs,h1,VR.doren hσ hρ h2,VRs.doren hσ hρ h3⟩
end
mutual
theorem V.ren_id:∀ (v:V),v.ren id=v
 | .junk| .bool _| .u8 _| .u32 _| .u64 _| .i64 _| .i32 _| .str _| .nilPtr| .nilSlice| .nilFn| .nilIface=>by unfold V.ren;rfl
 | .aFn _ _ v=>by unfold V.ren;rw[V.ren_id v]
 | .ptr b _=>by unfold V.ren;rfl
 | .map b=>by unfold V.ren;rfl
 | .slice b _ _ _=>by unfold V.ren;rfl
 | .fn _ fs cs=>by unfold V.ren;rw[rP fs,rP cs]
 | .agg cs=>by unfold V.ren;rw[rP cs]
 | .tup cs=>by unfold V.ren;rw[rP cs]
 | .iface _ v=>by unfold V.ren;rw[V.ren_id v]
theorem rP:∀ (l:List V),rens id l=l
 |[]=>rfl
 |v::l=>by unfold rens;rw[V.ren_id v,rP l]
end
theorem VR.restrict {v:V}{r:Value}(h:VR ρ dom w v r)(e:v.low n):VR ρ (· <n) w v r:=by
 have h':VR ρ dom w (v.ren id) r:=by rw[V.ren_id];exact h
 exact VR.unren h' e
theorem VRs.restrict {v:List V}{r:List Value}(h:VRs ρ dom w v r)(b:af n v):VRs ρ (· <n) w v r:=by
 have h':VRs ρ dom w (rens id v) r:=by rw[rP];exact h
 exact VRs.unren h' b
def eg (P:Program)(s:St):List ResultVar->(List V->Prop)->Prop
 |[],K=>K []
 | .tmp t::r,K=>eg P s r fun l=>K (s.get t::l)
 | .cell x t::r,K=>gZ (bP P (.load t (.tmp x)) s.ev (ag s.H) s.H.length) (hold fun res=>eg P s r fun l=>K (res.v::l))
def eL:List V->V
 |[v]=>v
 |l=> .tup l
def eW (P:Program)(fn:Func)(R:V->St->Prop):Exit->St->Prop
 | .normal,s=>eg P s fn.results.toList fun l=>R (eL l) s
 | .ret,s=>eg P s fn.results.toList fun l=>R (eL l) s
 |_,_=>False
def zI (tmps:Array Value):ResultVar->Sem Value
 | .tmp t=>pure (tmps.getD t undef)
 | .cell x t=>do loadVar t (<-asAddr (tmps.getD x undef))
theorem adV (fn:Func)(tmps:Array Value):results fn tmps=(do
  let vs <-fn.results.mapM (zI tmps)
  pure (if h:vs.size=1 then vs[0] else .tuple vs)):=by
 unfold results;congr 1
theorem DL {s:St}(d:RelSt ρ n s a w):∀ (rs:List ResultVar) (K:List V->Prop),eg P s rs K->∃ l vs,K l/\VRs ρ (· <s.H.length) w l vs/\
  (rs.mapM (zI a.tmps)).run P w= .ok vs w
 |[],K,h=>⟨[],[],h,VRs.nil,ae⟩
 | .tmp t::rs,K,h=>by
  obtain⟨l,vs,h1,h2,g⟩:=DL d rs _ h;exact⟨_,_,h1,VRs.cons (d.tmps.slot t) h2,by simp only[List.mapM_cons,zI,Sem.run_bind,Sem.run_pure,Result.andThen_ok,g]⟩
 | .cell x t::rs,K,h=>by
  unfold eg gZ at h;split at h
  case h_2=>exact h.elim
  rename_i res c;obtain⟨o,h⟩:=h;obtain⟨l,vs,h1,h2,g⟩:=DL d rs _ h;have f:=d.tmps.slot x;simp only[bP] at c;split at c
  case h_2=>cases c
  rename_i b p q;have i:s.get x= .ptr b p:=q;rw[i] at f;have key:∃ r,(Instr.loadAt t (a.tmps.getD x undef)).run P w= .ok r w/\VR ρ (· <s.H.length) w res.v r:=by
   split at c
   ·rename_i B k j ht m;injection c with c;subst c
    have :=zV d.mem f j ht m;simp only[if_true] at this;exact this o
   ·rename_i B k j ht m;injection c with c;subst c
    have :=zV d.mem f j ht m;simp only[ct,if_false] at this;exact this o
   ·cases c
  obtain⟨r,g1,g2⟩:=key;unfold VR at f;obtain⟨_,e⟩:=f;rw[e] at g1;simp only[Instr.loadAt,Instr.sureAddr,Sem.run_bind,Sem.run_pure,Result.andThen_ok] at g1;have u:(asAddr (a.tmps.getD x undef)).run P w= .ok ⟨(ρ b).1,(ρ b).2+p,none⟩ w:=by rw[e];rfl
  exact⟨_,_,h1,VRs.cons g2 h2,by simp only[List.mapM_cons,zI,u,Sem.run_bind,Sem.run_pure,Result.andThen_ok,g1,g]⟩
theorem Ir {s:St}{fn:Func}{R:V->St->Prop}(c:RelSt ρ n s a w)(h:eg P s fn.results.toList fun l=>R (eL l) s):∃ v r,R v s/\VR ρ (· <s.H.length) w v r/\(results fn a.tmps).run P w= .ok r w:=by
 obtain⟨l,vs,h1,h2,d⟩:=DL (P:=P) c _ _ h;have b:(results fn a.tmps).run P w= .ok (if h:vs.toArray.size=1 then vs.toArray[0] else .tuple vs.toArray) w:=by
  rw[adV,Array.mapM_eq_mapM_toList];simp only[Sem.run_bind,Sem.run_map,Sem.run_pure];rw[d];rfl
 match l,vs,h1,h2,b with
 |[],vs,h1,h2,b=>
  have :=h2.length;obtain rfl:vs=[]:=jJ.1 (by simpa using this);exact⟨_,_,h1,by show VR _ _ _ (.tup []) _;unfold VR;exact⟨_,rfl,VRs.nil⟩,b⟩
 |[v],vs,h1,h2,b=>
  unfold VRs at h2;obtain⟨r,rs,rfl,g1,g2⟩:=h2;unfold VRs at g2;subst g2;exact⟨_,_,h1,g1,b⟩
 |v::v'::l,vs,h1,h2,b=>
  have e:=h2.length;rw[dif_neg (by simp at e |-;omega)] at b;exact⟨_,_,h1,by show VR _ _ _ (.tup _) _;unfold VR;exact⟨_,rfl,h2⟩,b⟩
def gU:List V->Nat->List (Nat×V)
 |[],_=>[]
 |v::l,i=>(i,v)::gU l (i+1)
theorem Er:∀ (l:List V) (i t:Nat),aj (gU l i) t=if i<=t/\t<i+l.length then l.getD (t-i) .junk else .junk
 |[],i,t=>by simp[gU,aj]
 |v::l,i,t=>by
  simp only[gU,aj,Er l (i+1) t,ce];by_cases e:i=t
  ·subst e;simp
  ·rw[if_neg e];by_cases h:i+1<=t/\t<i+1+l.length
   ·rw[if_pos h,if_pos aa,show t-i=(t-(i+1))+1 by omega];simp
   ·rw[if_neg h,if_neg aa]
def aq (P:Program)(f:FuncId)(args:List V)(h:List (Option Blk))(v:V)(h':List (Option Blk)):Prop:=
 ∀ (ρ:Nat->Nat×Nat) (w:World) (c:Array Value),VRs ρ (· <h.length) w args c.toList->MemRel ρ (· <h.length) (ag h) w->
  Calls P f c w fun e w'=>∃ r ρ',e= .returned r/\VR ρ' (· <h'.length) w' v r/\MemRel ρ' (· <h'.length) (ag h') w'/\h.length<=h'.length/\(∀ b,b<h.length->ρ' b=ρ b)/\Frame ρ (ag h) w ρ' (ag h') w'
def Fin (m:Nat)(v':V)(h':List (Option Blk))(v:V)(s:St):Prop:=m<=h'.length/\
 ∀ (ρ:Nat->Nat×Nat) (w:World) (r:Value),VR ρ (· <s.H.length) w v r->MemRel ρ (· <s.H.length) (ag s.H) w->m<=s.H.length->∃ ρ',VR ρ' (· <h'.length) w v' r/\MemRel ρ' (· <h'.length) (ag h') w/\(∀ b,b<m->ρ' b=ρ b)/\
  (∀ b B,ag h' b=some B->B.ro=false->∃ f B0,ag s.H f=some B0/\B0.ro=false/\(ρ f).1=(ρ' b).1)
theorem Fin.pure {v:V}{s:St}(c:v.low 0):Fin 0 v [] v s:=⟨aH _,fun ρ w r h1 h2 _=>⟨ρ,h1.restrict c,⟨fun b B h=>by simp[ag] at h,fun b B h=>by simp[ag] at h,fun b d B B' h=>by simp[ag] at h,fun b B h=>by simp[ag] at h,fun b B h=>by simp[ag] at h,fun b B m h=>by simp[ag] at h⟩,fun _ h=>by omega,fun b B h=>by simp[ag] at h⟩⟩
theorem Fin.same {m:Nat}{v:V}{s:St}{h':List (Option Blk)}(q:m<=h'.length)(t:h'.length<=s.H.length)(g:v.low h'.length)(c:∀ b B,ag h' b=some B->ag s.H b=some B/\af h'.length B.cs):Fin m v h' v s:=
 ⟨q,fun ρ w r h1 h2 _=>⟨ρ,h1.restrict g,⟨fun b B h=>by
   unfold ag at h;exact Nat.lt_of_not_le (fun d=>by rw[gi d] at h;simp at h),
  fun b B h=>h2.lt b B (c b B h).1,fun b p B B' h h' f j=>h2.inj b p B B' (c b B h).1 (c p B' h').1 f j,
  fun b B h i v g=>by
   obtain⟨r,g1,g2⟩:=h2.cell b B (c b B h).1 i v g;have d:=(c b B h).2;refine⟨r,g1,g2.restrict ?_⟩;have :∀ (l:List V) (i:Nat),af h'.length l->l[i]?=some v->v.low h'.length:=by
    intro l;induction l with
    |nil=>intro i _ h;simp at h
    |cons x l ih=>
     intro i d h;unfold af at d;cases i with
     |zero=>simp at h;subst h;exact d.1
     |succ i=>exact ih i d.2 (by simpa using h)
   exact this B.cs i d g,
  fun b B h f i hi=>h2.free b B (c b B h).1 f i hi,fun b B m h k=>h2.mapc b B m (c b B h).1 k⟩,fun _ _=>rfl,fun b B h f=>⟨b,B,(c b B h).1,f,rfl⟩⟩⟩
theorem bf (g:P.follows .mixedOrders=true){f:FuncId}{fn:Func}{c:Code}{args:List V}{h h':List (Option Blk)}{v:V}(y:P.funcs[f]?=some fn)(j:fn.body=some c)(D:args.length<=fn.ntmps)
  (z:vc P h.length fn.ntmps c (eW P fn (Fin h.length v h')) ⟨gU args 0,h⟩):aq P f args h v h':=by
 intro ρ w d u A;have m:=u.length;refine calls_of_wp y j (wp_mono (nz g c _ _ z ρ _ w ⟨⟨?_,rfl,fun t=>?_⟩,A⟩ (aH _)) ?_)
 ·have :d.size=args.length:=by simpa using m
  simp;omega
 ·show VR _ _ _ (aj (gU args 0) t) _;rw[Er];split
  ·rename_i ht;obtain⟨r,g1,g2⟩:=u.get (i:=t) (v:=args.getD t .junk) (by rw[aW,aF aa];rfl);have o:t<d.size:=by simpa using(ca.1 g1).1
   simp only[Nat.sub_zero];have :(d++Array.replicate (fn.ntmps-d.size) undef).getD t undef=r:=by
    rw[lY,wG o];have :d[t]?=some r:=by rw[<-g1];simp
    rw[this];rfl
   rw[this];exact g2
  ·unfold VR;trivial
 ·rintro e a' w' ⟨s',ρ',p,k,s⟩;have fin:(eg P s' fn.results.toList fun l=>Fin h.length v h' (eL l) s')->∃ r,(results fn a'.tmps).run P w'= .ok r w'/\(∃ x ρ',Ending.returned r= .returned x/\VR ρ' (· <h'.length) w' v x/\MemRel ρ' (· <h'.length) (ag h') w'/\h.length<=h'.length/\(∀ b,b<h.length->ρ' b=ρ b)/\Frame ρ (ag h) w ρ' (ag h') w'):=fun q=>by
   obtain⟨E,r,g1,g2,g3⟩:=Ir k q;obtain⟨ρ2,k1,k2,B,C⟩:=g1.2 ρ' w' r g2 k.mem s.1;exact⟨r,g3,r,ρ2,rfl,k1,k2,g1.1,fun b j=>(B b j).trans (s.2.1 b j),s.2.2.less C⟩
  cases e
  case normal=>exact⟨k.tmps.defers,fin p⟩
  case ret=>exact⟨k.tmps.defers,fin p⟩
  all_goals exact p.elim
def aG (P:Program)(f:FuncId)(args:List V)(v:V):Prop:=eu P f=true/\∀ get0 nid,Spec P f args get0 nid {v:=v}
theorem zw {f:FuncId}{args:List V}{v:V}(hc:eu P f=true)(u:af 0 args)(h:aq P f args [] v []):aG P f args v:=⟨hc,fun get0 nid ρ dom get w k d g _ _=>by
 have x:MemRel ρ (· <([]:List (Option Blk)).length) (ag []) w:=⟨fun b B h=>by simp[ag] at h,fun b B h=>by simp[ag] at h,fun b z B B' h=>by simp[ag] at h,fun b B h=>by simp[ag] at h,fun b B h=>by simp[ag] at h,fun b B m h=>by simp[ag] at h⟩;refine(h ρ w k (g.restrict u) x).mono ?_;rintro e w' ⟨r,ρ',rfl,h1,_,_,_,j⟩;have s:∀ r,r<w.heap.size->w'.heap[r]?=w.heap[r]?:=fun r g=>j.keep r g (fun b B h=>by simp[ag] at h)
 have l:∀ b o,b<w.heap.size->w'.cell? ⟨b,o,none⟩=w.cell? ⟨b,o,none⟩:=fun b o q=>World.cell?_of_block (s b q)
 have p:∀ b o,b<w.heap.size->w'.frozen? ⟨b,o,none⟩=w.frozen? ⟨b,o,none⟩:=fun b o q=>World.frozen?_of_block (s b q)
 refine⟨r,ρ,rfl,fun _ _=>rfl,?_,?_,?_⟩
 ·rw[p9];exact⟨fun b B c=> .inl (d.has b B c),fun b B c=>mw (d.lt b B c) j.size,d.inj,fun b B c i v y=>by
   obtain⟨r,g1,g2⟩:=d.cell b B c i v y;exact⟨r,by rw[l _ _ (d.lt b B c)];exact g1,g2.mono (fun _ _=>rfl) (fun _ h=> .inl h) j.lasts⟩,
   fun b B c g i hi=>by rw[p _ _ (d.lt b B c)];exact d.free b B c g i hi,fun b B m c t=>nf (d.mapc b B m c t) (s _ (d.lt b B c))⟩
 ·exact h1.mono (fun b (q:b<0)=>by omega) (fun b (q:b<0)=>by omega) (Lasts.refl _)
 ·rw[p9];exact⟨j.os,j.output,j.tape,j.size,fun r g _=>s r g,j.lasts,fun b B c g=> .inl ⟨b,B,c,g,rfl⟩⟩⟩
theorem aQ (i:P.follows .mixedOrders=true){f:FuncId}{fn:Func}{c:Code}{args:List V}{v:V}(hc:eu P f=true)(m:P.funcs[f]?=some fn)(o:fn.body=some c)(p:args.length<=fn.ntmps)(q:af 0 args)(j:v.low 0)
  (u:vc P 0 fn.ntmps c (eW P fn fun v' _=>v'=v) ⟨gU args 0,[]⟩):aG P f args v:=by
 refine zw hc q (bf i m o p ?_);refine im c _ _ _ (fun e s h=>?_) u;have b:∀ (rs:List ResultVar) (K K':List V->Prop),(∀ l,K l->K' l)->eg P s rs K->eg P s rs K':=by
  intro rs;induction rs with
  |nil=>intro K K' h h1;exact h _ h1
  |cons x rs ih=>
   intro K K' h h1;cases x with
   |tmp t=>exact ih _ _ (fun l d=>h _ d) h1
   |cell x t=>
    exact AM (fun r y=>ih _ _ (fun l d=>h _ d) y) h1
 cases e
 case normal=>exact b _ _ _ (fun l (d:eL l=v)=>d▸Fin.pure (d▸j)) h
 case ret=>exact b _ _ _ (fun l (d:eL l=v)=>d▸Fin.pure (d▸j)) h
 all_goals exact h
end
end
section
variable {P:Program}{m n:Nat}{ops:Array Oper}
theorem Lm {o:Op}{s:St}{K:Res->Prop}(h:eN P o s K):∃ res,K res/\eN P o s (fun r=>r=res):=by
 have fin:∀ {r:Option Res},gZ r K->∃ res,K res/\gZ r (fun x=>x=res):=fun {r} h=>by
  cases r with
  |none=>exact h.elim
  |some x=>exact⟨x,h.2,h.1,rfl⟩
 have call:∀ {f:V} {args:List V} {H:List (Option Blk)},vcall P f args H K->∃ res,K res/\vcall P f args H (fun x=>x=res):=fun h=>by
  obtain⟨res,h1,h2⟩:=h;exact⟨res,h2,res,h1,rfl⟩
 unfold eN at h |-
 split at h
 ·split at h
  ·exact call h
  ·exact fin h
  ·unfold rz at h |-
   split at h
   ·split at h
    ·exact call h
    ·exact h.elim
   ·exact h.elim
 ·rename_i a;obtain⟨res,h1,h2⟩:=fin h;refine⟨res,h1,?_⟩;exact h2
theorem Hq (s:St)(dst:Option Tmp)(res:Res):s.H.length<=(s.after dst res).H.length:=by
 unfold St.after;rw[aE,eT];exact nW _ _
theorem Cw:∀ (l:List Oper) (s:St) (K:St->Prop),cM P n ops l s K->∃ s',s.H.length<=s'.H.length/\K s'/\cM P n ops l s (fun s2=>s2=s')
 |[],s,K,h=>⟨s,aH _,h,rfl⟩
 |o::l,s,K,h=>by
  obtain⟨h1,h2⟩:=h;have run:eN P o.op s (hold fun res=>cM P n ops l (s.after o.dst res) K)->∃ s',s.H.length<=s'.H.length/\K s'/\eN P o.op s (hold fun res=>cM P n ops l (s.after o.dst res) (fun s2=>s2=s')):=fun p=>by
   obtain⟨res,g1,g2⟩:=Lm p;obtain⟨s',a,c,e⟩:=Cw l _ K g1;exact⟨s',fF (Hq _ _ _) a,c,ud (fun r t=>by subst t;exact e) g2⟩
  cases i:o.guard with
  |none=>
   rw[i] at h2;obtain⟨s',a,c,e⟩:=run h2;exact⟨s',a,c,h1,by rw[i];exact e⟩
  |some u=>
   obtain⟨j,want⟩:=u;rw[i] at h2;simp only at h2;cases q:j6 ops j with
   |none=>rw[q] at h2;exact h2.elim
   |some d=>
    rw[q] at h2;obtain⟨v,g⟩:=h2;have skip:cM P n ops l (s.put o.dst (.tup [])) K->∃ s',s.H.length<=s'.H.length/\K s'/\cM P n ops l (s.put o.dst (.tup [])) (fun s2=>s2=s'):=fun p=>Cw l _ K p
    have key:∃ s',s.H.length<=s'.H.length/\K s'/\kf (s.get d) want (eN P o.op s (hold fun res=>cM P n ops l (s.after o.dst res) (fun s2=>s2=s'))) (cM P n ops l (s.put o.dst (.tup [])) (fun s2=>s2=s')):=by
     unfold kf at g |-
     split at g
     ·rename_i b w;by_cases f:b=want
      ·obtain⟨s',a,c,e⟩:=run (g.1 f);exact⟨s',a,c,fun _=>e,fun k=>absurd f k⟩
      ·obtain⟨s',a,c,e⟩:=skip (g.2 f);exact⟨s',a,c,fun k=>absurd k f,fun _=>e⟩
     ·obtain⟨s',a,c,e⟩:=skip g;exact⟨s',a,c,e⟩
     ·exact g.elim
    obtain⟨s',a,c,e⟩:=key;exact⟨s',a,c,h1,by rw[i];simp only;rw[q];exact⟨v,e⟩⟩
theorem Co:∀ (l:List Oper) (tr:List (List Nat×List Nat)) (s:St) (K:St->Prop),fK P n ops K l tr s->∃ s',s.H.length<=s'.H.length/\K s'/\fK P n ops (fun s2=>s2=s') l tr s
 |[],tr,s,K,h=>⟨s,aH _,h.2,h.1,rfl⟩
 |o::l,tr,s,K,h=>by
  obtain⟨h1,h2⟩:=h;have run:eN P o.op s (hold fun res=>(∀ x∈res.old,x.1<s.H.length)/\fK P n ops K l (tr++[bI s res]) (s.after o.dst res))->
    ∃ s',s.H.length<=s'.H.length/\K s'/\eN P o.op s (hold fun res=>(∀ x∈res.old,x.1<s.H.length)/\fK P n ops (fun s2=>s2=s') l (tr++[bI s res]) (s.after o.dst res)):=fun p=>by
   obtain⟨res,g1,g2⟩:=Lm p;obtain⟨s',a,c,e⟩:=Co l _ _ K g1.2;exact⟨s',fF (Hq _ _ _) a,c,ud (fun r t=>by subst t;exact⟨g1.1,e⟩) g2⟩
  cases i:o.guard with
  |none=>
   rw[i] at h2;obtain⟨s',a,c,e⟩:=run h2;exact⟨s',a,c,h1,by rw[i];exact e⟩
  |some u=>
   obtain⟨j,want⟩:=u;rw[i] at h2;simp only at h2;cases q:j6 ops j with
   |none=>rw[q] at h2;exact h2.elim
   |some d=>
    rw[q] at h2;obtain⟨v,g⟩:=h2;have skip:fK P n ops K l (tr++[([],[])]) (s.put o.dst (.tup []))->∃ s',s.H.length<=s'.H.length/\K s'/\fK P n ops (fun s2=>s2=s') l (tr++[([],[])]) (s.put o.dst (.tup [])):=fun p=>Co l _ _ K p
    have key:∃ s',s.H.length<=s'.H.length/\K s'/\kf (s.get d) want (eN P o.op s (hold fun res=>(∀ x∈res.old,x.1<s.H.length)/\fK P n ops (fun s2=>s2=s') l (tr++[bI s res]) (s.after o.dst res))) (fK P n ops (fun s2=>s2=s') l (tr++[([],[])]) (s.put o.dst (.tup []))):=by
     unfold kf at g |-
     split at g
     ·rename_i b w;by_cases f:b=want
      ·obtain⟨s',a,c,e⟩:=run (g.1 f);exact⟨s',a,c,fun _=>e,fun k=>absurd f k⟩
      ·obtain⟨s',a,c,e⟩:=skip (g.2 f);exact⟨s',a,c,fun k=>absurd k f,fun _=>e⟩
     ·obtain⟨s',a,c,e⟩:=skip g;exact⟨s',a,c,e⟩
     ·exact g.elim
    obtain⟨s',a,c,e⟩:=key;exact⟨s',a,c,h1,by rw[i];simp only;rw[q];exact⟨v,e⟩⟩
theorem qu {m:Nat}:∀ (c:Code) (Q:Exit->St->Prop) (s:St),m<=s.H.length->vc P m n c Q s->∃ e s',m<=s'.H.length/\Q e s'/\vc P m n c (fun d s2=>d=e/\s2=s') s
 | .skip,Q,s,a,h=>⟨_,s,a,h,rfl,rfl⟩
 | .label _,Q,s,a,h=>⟨_,s,a,h,rfl,rfl⟩
 | .region id l true,Q,s,a,h=>by
  obtain⟨s',B,d,C⟩:=Co _ _ _ _ h;exact⟨.normal,s',fF a B,d,u5 _ _ _ _ _ (fun s f=>⟨rfl,f⟩) C⟩
 | .region id l false,Q,s,a,h=>by
  obtain⟨s',B,d,C⟩:=Cw _ _ _ h;exact⟨.normal,s',fF a B,d,tN _ _ _ _ (fun s f=>⟨rfl,f⟩) C⟩
 | .seq x y,Q,s,a,h=>by
  obtain⟨e,s1,h1,h2,o⟩:=qu x _ s a h;by_cases g:e= .normal
  ·subst g;obtain⟨D,s',g1,g2,g3⟩:=qu y Q s1 h1 h2;refine⟨D,s',g1,g2,im x _ _ s (fun d s2 f=>?_) o⟩;obtain⟨rfl,rfl⟩:=f;exact g3
  ·refine⟨e,s1,h1,?_,im x _ _ s (fun d s2 f=>?_) o⟩
   ·cases e
    case normal=>exact absurd rfl g
    all_goals exact h2
   ·obtain⟨rfl,rfl⟩:=f;cases d
    case normal=>exact absurd rfl g
    all_goals exact⟨rfl,rfl⟩
 | .cond c x y,Q,s,a,h=>by
  simp only[vc,uN] at h |-
  split at h
  ·rename_i b O;cases b with
   |true=>
    obtain⟨e,s',g1,g2,g3⟩:=qu x Q s a (h.1 rfl);exact⟨e,s',g1,g2,fun _=>g3,fun k=>by cases k⟩
   |false=>
    obtain⟨e,s',g1,g2,g3⟩:=qu y Q s a (h.2 rfl);exact⟨e,s',g1,g2,fun k=>(by cases k),fun _=>g3⟩
  ·exact h.elim
 | .block id c,Q,s,a,h=>by
  obtain⟨e,s',h1,h2,o⟩:=qu c _ s a h;by_cases g:e= .exit id
  ·subst g;simp only[mu,if_true] at h2;refine⟨.normal,s',h1,h2,im c _ _ s (fun d s2 f=>?_) o⟩;obtain⟨rfl,rfl⟩:=f;simp[mu]
  ·refine⟨e,s',h1,?_,im c _ _ s (fun d s2 f=>?_) o⟩
   ·cases e
    case exit i=>
     have :¬ i=id:=fun k=>g (by rw[k])
     simp only[mu,if_neg this] at h2;exact h2
    all_goals exact h2
   ·obtain⟨rfl,rfl⟩:=f;cases d
    case exit i=>
     have :¬ i=id:=fun k=>g (by rw[k])
     simp[mu,this]
    all_goals exact⟨rfl,rfl⟩
 | .loop c,Q,s,a,h=>by
  obtain⟨I,⟨k0,s0,v,E⟩,K⟩:=h;have key:∀ (k:Nat) (s0:St),I k s0->m<=s0.H.length->∃ e s',m<=s'.H.length/\Q e s'/\EJ m n (vc P m n c) (fun d s2=>d=e/\s2=s') s0:=by
   intro k;induction k using Nat.strongRecOn with
   |_ k ih=>
    intro s0 L w;obtain⟨e,s1,h1,h2,o⟩:=qu c _ s0 w (K k s0 L w);by_cases g:e= .normal
    ·subst g;obtain⟨M,s2,F,hw,G⟩:=h2;obtain⟨D,s',g1,g2,I2,⟨k2,J,p,q⟩,r⟩:=ih M F s2 G (hw.len h1);refine⟨D,s',g1,g2,fun j t=>I2 j t\/(j=k2+1/\t=s0),⟨k2+1,s0,Weak.refl _ _ _,.inr ⟨rfl,rfl⟩⟩,fun j t z A=>?_⟩;rcases z with z|⟨rfl,rfl⟩
     ·refine im c _ _ t (fun d t2 u=>?_) (r j t z A);cases d
      case normal=>
       obtain⟨j',t3,N,a2,a3⟩:=u;exact⟨j',t3,N,a2,.inl a3⟩
      all_goals exact u
     ·refine im c _ _ _ (fun d t2 u=>?_) o;obtain⟨rfl,rfl⟩:=u;exact⟨k2,J,DH _,hw.trans p,.inl q⟩
    ·refine⟨e,s1,h1,?_,fun j t=>t=s0,⟨0,s0,Weak.refl _ _ _,rfl⟩,fun j t z A=>?_⟩
     ·cases e
      case normal=>exact absurd rfl g
      all_goals exact h2
     ·subst z;refine im c _ _ _ (fun d t2 u=>?_) o;obtain⟨rfl,rfl⟩:=u;cases d
      case normal=>exact absurd rfl g
      all_goals exact⟨rfl,rfl⟩
  obtain⟨e,s',g1,g2,I2,⟨k2,J,p,q⟩,r⟩:=key k0 s0 E (v.len a);exact⟨e,s',g1,g2,I2,⟨k2,J,v.trans p,q⟩,r⟩
 | .exit id,Q,s,a,h=>⟨_,s,a,h,rfl,rfl⟩
 | .ret,Q,s,a,h=>⟨_,s,a,h,rfl,rfl⟩
 | .scope _,_,_,_,h=>h.elim
 | .goto _,_,_,_,h=>h.elim
 | .rangeFunc _ _ _ _,_,_,_,h=>h.elim
 | .refuse _,_,_,_,h=>h.elim
end
section
variable {P:Program}{m n:Nat}
theorem qX {s:St}:∀ (rs:List ResultVar) (K K':List V->Prop),(∀ l,K l->K' l)->eg P s rs K->eg P s rs K'
 |[],K,K',h,h1=>h _ h1
 | .tmp t::rs,K,K',h,h1=>qX rs _ _ (fun l a=>h _ a) h1
 | .cell x t::rs,K,K',h,h1=>by
  unfold eg gZ at h1 |-
  split at h1
  ·exact⟨h1.1,qX rs _ _ (fun l a=>h _ a) h1.2⟩
  ·exact h1.elim
theorem Eb {s:St}:∀ (rs:List ResultVar) (K:List V->Prop),eg P s rs K->∃ l,K l/\eg P s rs (fun l2=>l2=l)
 |[],K,h=>⟨[],h,rfl⟩
 | .tmp t::rs,K,h=>by
  obtain⟨l,h1,h2⟩:=Eb rs _ h;exact⟨_,h1,qX rs _ _ (fun l2 e=>by rw[e]) h2⟩
 | .cell x t::rs,K,h=>by
  unfold eg gZ at h;split at h
  ·rename_i res a;obtain⟨l,h1,h2⟩:=Eb rs _ h.2;refine⟨_,h1,?_⟩;unfold eg gZ;rw[a];exact⟨h.1,qX rs _ _ (fun l2 e=>by rw[e]) h2⟩
  ·exact h.elim
theorem JL {fn:Func}{R:V->St->Prop}{e:Exit}{s:St}(h:eW P fn R e s):∃ v,R v s/\eW P fn (fun v2 s2=>v2=v/\s2=s) e s:=by
 have key:eg P s fn.results.toList (fun l=>R (eL l) s)->∃ v,R v s/\eg P s fn.results.toList (fun l=>eL l=v/\s=s):=fun h=>by
  obtain⟨l,h1,h2⟩:=Eb _ _ h;exact⟨_,h1,qX _ _ _ (fun l2 e=>⟨by rw[e],rfl⟩) h2⟩
 cases e
 case normal=>exact key h
 case ret=>exact key h
 all_goals exact h.elim
theorem Et {fn:Func}{c:Code}{R:V->St->Prop}{s:St}(a:m<=s.H.length)(h:vc P m n c (eW P fn R) s):∃ v s',m<=s'.H.length/\R v s'/\vc P m n c (eW P fn (fun v2 s2=>v2=v/\s2=s')) s:=by
 obtain⟨e,s',h1,h2,b⟩:=qu c _ s a h;obtain⟨v,g1,g2⟩:=JL h2;refine⟨v,s',h1,g1,im c _ _ s (fun f s2 d=>?_) b⟩;obtain⟨rfl,rfl⟩:=d;exact g2
theorem yp {fn:Func}{R R':V->St->Prop}(h:∀ v s,R v s->R' v s){e:Exit}{s:St}(a:eW P fn R e s):eW P fn R' e s:=by
 cases e
 case normal=>exact qX _ _ _ (fun l b=>h _ _ b) a
 case ret=>exact qX _ _ _ (fun l b=>h _ _ b) a
 all_goals exact a.elim
theorem Fin.id {v:V}{s:St}(d:m<=s.H.length):Fin m v s.H v s:=⟨d,fun ρ w r h1 h2 _=>⟨ρ,h1,h2,fun _ _=>rfl,fun b B e f=>⟨b,B,e,f,rfl⟩⟩⟩
theorem jm (b:P.follows .mixedOrders=true){f:FuncId}{fn:Func}{c:Code}{args:List V}{Post:V->Prop}(hc:eu P f=true)(i:P.funcs[f]?=some fn)(j:fn.body=some c)(k:args.length<=fn.ntmps)(l:af 0 args)(o:∀ v,Post v->v.low 0)
  (p:vc P 0 fn.ntmps c (eW P fn fun v _=>Post v) ⟨gU args 0,[]⟩):∃ v,aG P f args v/\Post v:=by
 obtain⟨v,s',h1,h2,q⟩:=Et (fg _) p;exact⟨v,aQ b hc i j k l (o v h2) (im c _ _ _ (fun e s r=>yp (fun v s h=>h.1) r) q),h2⟩
end
section
section
variable {m n:Nat}{s s':St}
def aw (sg:List Nat)(b:Nat):Nat:=sg.getD b 0
theorem zg {N:Nat}:∀ {l:List V} {i:Nat} {v:V},af N l->l[i]?=some v->v.low N
 |[],_,_,_,h=>by simp at h
 |x::l,0,v,a,h=>by
  unfold af at a;simp at h;subst h;exact a.1
 |x::l,i+1,v,a,h=>by
  unfold af at a;exact zg a.2 (by simpa using h)
theorem aU {H:List (Option Blk)}{b:Nat}{B:Blk}(h:ag H b=some B):b<H.length:=by
 unfold ag at h;exact Nat.lt_of_not_le (fun a=>by rw[gi a] at h;simp at h)
theorem Weak.rename (σ:Nat->Nat)(y:m<=s'.H.length)(k:∀ b,b<m->σ b=b)(z:∀ p∈s'.t,p.2.ren σ=s.get p.1/\p.2.low s'.H.length)
  (d:∀ b B,ag s'.H b=some B->ag s.H (σ b)=some ⟨B.ro,rens σ B.cs,B.mp⟩/\af s'.H.length B.cs)
  (j:∀ b g,b<s'.H.length->g<s'.H.length->b≠g->σ b≠σ g):∀ (ρ:Nat->Nat×Nat) (a:Act) (w:World),RelSt ρ n s a w->m<=s.H.length->∃ ρ',RelSt ρ' n s' a w/\Step m ρ s w ρ' s' w:=fun ρ a w f A=>by
 refine⟨fun b=>ρ (σ b),⟨⟨f.tmps.size,f.tmps.defers,fun t=>?_⟩,?_⟩,y,fun b C=>by show ρ (σ b)=ρ b;rw[k b C],?_⟩
 ·have :∀ (l:List (Nat×V)),(∀ p∈l,p.2.ren σ=s.get p.1/\p.2.low s'.H.length)->VR (fun b=>ρ (σ b)) (· <s'.H.length) w (aj l t) (a.tmps.getD t undef):=by
   intro l;induction l with
   |nil=>intro _;show VR _ _ _ .junk _;unfold VR;trivial
   |cons p l ih=>
    intro h;simp only[aj];split
    ·rename_i e;have h1:=h p ae;have h2:=f.tmps.slot t;rw[<-e,<-h1.1] at h2;rw[<-e];exact h2.unren h1.2
    ·exact ih fun q D=>h q (by simp[D])
  exact this s'.t z
 ·refine⟨fun b B h=>aU h,fun b B h=>f.mem.lt _ _ (d b B h).1,fun b g B B' h h' c o=>?_,fun b B h i v x=>?_,fun b B h c i E=>?_,fun b B mm h u=>xP (f.mem.mapc _ _ mm (d b B h).1 u) (by show B.cs.length=(rens σ B.cs).length;rw[iP,ba])⟩
  ·exact f.mem.inj _ _ _ _ (d b B h).1 (d g B' h').1 c (j b g (aU h) (aU h') o)
  ·have h1:(rens σ B.cs)[i]?=some (v.ren σ):=by rw[iP,ci,x];rfl
   obtain⟨r,g1,g2⟩:=f.mem.cell _ _ (d b B h).1 i _ h1;exact⟨r,g1,g2.unren (zg (d b B h).2 x)⟩
  ·exact f.mem.free _ _ (d b B h).1 c i (by show i<(rens σ B.cs).length;rw[iP,ba];exact E)
 ·exact(Frame.refl ρ (ag s.H) w).less fun b B F c=>⟨σ b,_,(d b B F).1,c,rfl⟩
def dJ (σ:Nat->Nat)(N:Nat)(s:St):List (Nat×V)->Prop
 |[]=>True
 |p::l=>(p.2.ren σ=s.get p.1/\p.2.low N)/\dJ σ N s l
def iB (σ:Nat->Nat)(N:Nat)(s:St):List (Option Blk)->Nat->Prop
 |[],_=>True
 |none::l,i=>iB σ N s l (i+1)
 |some B::l,i=>(ag s.H (σ i)=some ⟨B.ro,rens σ B.cs,B.mp⟩/\af N B.cs)/\iB σ N s l (i+1)
theorem KS {σ:Nat->Nat}{N:Nat}:∀ {l:List (Nat×V)},dJ σ N s l->∀ p∈l,p.2.ren σ=s.get p.1/\p.2.low N
 |[],_,p,a=>by cases a
 |q::l,h,p,a=>by
  rcases cQ.1 a with e|a
  ·subst e;exact h.1
  ·exact KS h.2 p a
theorem vV {σ:Nat->Nat}{N:Nat}:∀ {l:List (Option Blk)} {i:Nat},iB σ N s l i->∀ b B,ag l b=some B->ag s.H (σ (i+b))=some ⟨B.ro,rens σ B.cs,B.mp⟩/\af N B.cs
 |[],_,_,b,B,h=>by simp[ag] at h
 |none::l,i,a,b,B,h=>by
  cases b with
  |zero=>simp[ag] at h
  |succ b=>have :=vV (l:=l) a b B (by simpa [ag] using h);rw[show i+(b+1)=i+1+b by omega];exact this
 |some C::l,i,a,b,B,h=>by
  cases b with
  |zero=>simp[ag] at h;subst h;exact a.1
  |succ b=>have :=vV (l:=l) a.2 b B (by simpa [ag] using h);rw[show i+(b+1)=i+1+b by omega];exact this
theorem Weak.ren (sg:List Nat)(o:sg.length=s'.H.length)(p:m<=sg.length)(i:sg.take m=List.range m)(c:sg.Nodup)
  (j:dJ (aw sg) s'.H.length s s'.t) (k:iB (aw sg) s'.H.length s s'.H 0):Weak m n s s':=
 ⟨fun _=>by omega,Weak.rename (aw sg) aa (fun b d=>by
   unfold aw;have h1:(sg.take m)[b]?=some b:=by rw[i,nB d]
   rw[sP d] at h1;rw[aW,h1];rfl)
  (KS j) (fun b B h=>by have :=vV k b B h;rw[cw] at this;exact this)
  (fun b q d l f e=>by
   unfold aw at e;rw[aW,aW,aF aa,aF aa] at e;exact f ((AR c).1 (by simpa using e)))⟩
theorem fZ {I:Nat->St->Prop}{k:Nat}(b:Nat)(a:St)(sg:List Nat)(d:b<k)(e:sg.length=a.H.length)(f:m<=sg.length)(g:sg.take m=List.range m)(c:sg.Nodup)
  (h:dJ (aw sg) a.H.length s a.t) (i:iB (aw sg) a.H.length s a.H 0) (j:I b a):jS m n I k s:=⟨b,a,d,Weak.ren sg e f g c h i,j⟩
theorem Gc {I:Nat->St->Prop}(k:Nat)(s0:St)(sg:List Nat)(b:sg.length=s0.H.length)(c:m<=sg.length)(d:sg.take m=List.range m)(a:sg.Nodup)
  (e:dJ (aw sg) s0.H.length s s0.t) (f:iB (aw sg) s0.H.length s s0.H 0) (g:I k s0):∃ k s0,Weak m n s s0/\I k s0:=⟨k,s0,Weak.ren sg b c d a e f,g⟩
end
end
section
def Blk.ren (σ:Nat->Nat)(B:Blk):Blk:=⟨B.ro,rens σ B.cs,B.mp⟩
def dx (σ:Nat->Nat)(x:Option Blk):Option Blk:=x.map (Blk.ren σ)
def cR (σ:Nat->Nat):List Nat->List (Option Blk)->List (Nat×Option Blk)
 |i::sg,x::h=>(i,dx σ x)::cR σ sg h
 |_,_=>[]
def dQ (σ:Nat->Nat):List Nat->List (Option Blk)->List (Option Blk)
 |[],h=>h.map (dx σ)
 |_::sg,_::h=>dQ σ sg h
 |_::_,[]=>[]
theorem pd (σ:Nat->Nat):∀ (sg:List Nat) (h:List (Option Blk)),dQ σ sg h=(h.drop sg.length).map (dx σ)
 |[],h=>rfl
 |_::sg,x::h=>by rw[dQ,pd σ sg h];rfl
 |_::_,[]=>rfl
theorem tM {σ:Nat->Nat}{b:Nat}{d:Option Blk}:∀ {sg:List Nat} {h:List (Option Blk)},b∉sg->gQ (cR σ sg h) b d=d
 |[],_,_=>by unfold cR;rfl
 |_::_,[],_=>by unfold cR;rfl
 |i::sg,x::h,a=>by
  unfold cR gQ;rw[if_neg (fun e=>a (by simp[e]))];exact tM (fun h'=>a (gF _ h'))
theorem xy {σ:Nat->Nat}{d:Option Blk}:∀ {sg:List Nat} {h:List (Option Blk)} {i b:Nat},sg.Nodup->sg[i]?=some b->i<h.length->gQ (cR σ sg h) b d=dx σ (h[i]?).join
 |[],_,_,_,_,c,_=>by simp at c
 |_::_,[],_,_,_,_,k=>by simp at k
 |j::sg,x::h,0,b,a,c,k=>by
  simp at c;subst c;unfold cR gQ;rw[if_pos rfl];simp
 |j::sg,x::h,i+1,b,a,c,k=>by
  have g:sg[i]?=some b:=by simpa using c
  have l:b≠j:=fun e=>by
   subst e;exact(tG.1 a).1 (kP g)
  unfold cR gQ;rw[if_neg l,xy (tG.1 a).2 g (by simpa using k)];simp
section
variable {P:Program}{f:FuncId}{args:List V}{h h':List (Option Blk)}{v:V}{sg:List Nat}{get0:Nat->Option Blk}{nid:Nat}
theorem mv {b:Nat}(a:b<sg.length):sg[b]?=some (aw sg b):=by
 unfold aw;rw[aW,aF a];rfl
theorem uf {l:List Nat}{b:Nat}(a:b<sg.length):aw (sg++l) b=aw sg b:=by
 unfold aw;rw[aW,aW,gh a]
theorem sY {k b:Nat}(a:sg.length<=b)(c:b<sg.length+k):aw (sg++List.range' nid k) b=nid+(b-sg.length):=by
 unfold aw;rw[aW,dL a,List.getElem?_range' aa];simp
theorem zO {H:List (Option Blk)}{b:Nat}{B:Blk}(e:ag H b=some B):H[b]?=some (some B):=by
 have a:=aU e;unfold ag at e;rw[aF a] at e |-
 simp at e;rw[e]
def bd (sg:List Nat)(nid:Nat)(h':List (Option Blk)):List Nat:=sg++List.range' nid (h'.length-sg.length)
theorem C5 (hs:aq P f args h v h')(t:sg.length=h.length)(Y:af h.length args)(Z:sg.Nodup)(hsg:∀ b∈sg,b<nid)
  (O:∀ b B,ag h b=some B->get0 (aw sg b)=some ⟨B.ro,rens (aw sg) B.cs,B.mp⟩/\af h.length B.cs)
  (hro:∀ b B,ag h' b=some B->(h.length<=b\/ag h b=none)->B.ro=false) (hle:h.length<=h'.length):
  Spec P f (rens (aw sg) args) get0 nid {v:=v.ren (aw (bd sg nid h')),pre:=True,fp:=sg,old:=cR (aw (bd sg nid h')) sg h',news:=dQ (aw (bd sg nid h')) sg h'}:=by
 intro ρ dom get w T x hr hfp Q;have hnl:(dQ (aw (bd sg nid h')) sg h').length=h'.length-h.length:=by rw[pd,ba,bU,t]
 simp only[hnl] at Q |-
 have l:∀ b B,ag h b=some B->get (aw sg b)=some ⟨B.ro,rens (aw sg) B.cs,B.mp⟩:=fun b B e=>by
  rw[(hfp _ (kP (mv (by rw[t];exact aU e)))).1];exact(O b B e).1
 have hinj:∀ b E,b<h.length->E<h.length->b≠E->aw sg b≠aw sg E:=fun b E k U F e=>by
  have d:=mv (sg:=sg) (b:=b) aa;have y:=mv (sg:=sg) (b:=E) aa;rw[e] at d;rw[aF aa] at d y;exact F ((AR Z).1 (by rw[kJ d,kJ y]))
 have hm0:MemRel (fun b=>ρ (aw sg b)) (· <h.length) (ag h) w:=by
  refine⟨fun b B e=>aU e,fun b B e=>x.lt _ _ (l b B e),fun b E B B' e e' m F=>x.inj _ _ _ _ (l b B e) (l E B' e') m (hinj b E (aU e) (aU e') F),fun b B e i v hv=>?_,fun b B e m i R=>?_,fun b B mm e M=>xP (x.mapc _ _ mm (l b B e) M) (by show B.cs.length=(rens (aw sg) B.cs).length;rw[iP,ba])⟩
  ·have h1:(rens (aw sg) B.cs)[i]?=some (v.ren (aw sg)):=by rw[iP,ci,hv];rfl
   obtain⟨r,g1,g2⟩:=x.cell _ _ (l b B e) i _ h1;exact⟨r,g1,g2.unren (zg (O b B e).2 hv)⟩
  ·exact x.free _ _ (l b B e) m i (by show i<(rens (aw sg) B.cs).length;rw[iP,ba];exact R)
 refine(hs _ w T (hr.unren Y) hm0).mono ?_;rintro e w' ⟨r,ρ',rfl,k1,k2,k3,k4,G⟩;have hnew:∀ b,nid<=b->b<nid+(h'.length-h.length)->¬ dom b:=Q;have hdsg:∀ b,b<h.length->dom (aw sg b):=fun b k=>by
  have S:=kP (mv (sg:=sg) (b:=b) (by rw[t];exact k));exact(hfp _ S).2 (hsg _ S)
 have hsgn:∀ b,b<h.length->aw sg b<nid:=fun b k=>hsg _ (kP (mv aa))
 let ρ1:Nat->Nat×Nat:=fun b=>if nid<=b/\b<nid+(h'.length-h.length) then ρ' (h.length+(b-nid)) else ρ b
 have n:∀ b,b<h'.length->ρ1 (aw (bd sg nid h') b)=ρ' b:=fun b k=>by
  by_cases N:b<h.length
  ·rw[bd,uf aa];show(if _ then _ else _)=_;rw[if_neg (by have :=hsgn b N;omega),k4 b N]
  ·rw[bd,sY aa aa];show(if _ then _ else _)=_;rw[if_pos aa];congr 1;omega
 have W:∀ b,b<h'.length->cU dom nid (h'.length-h.length) (aw (bd sg nid h') b):=fun b k=>by
  by_cases N:b<h.length
  ·rw[bd,uf aa];exact .inl (hdsg b N)
  ·rw[bd,sY aa aa];exact .inr ⟨aa,aa⟩
 have g:∀ b B,bZ get (cR (aw (bd sg nid h')) sg h') nid (dQ (aw (bd sg nid h')) sg h') b=some B->
   (∃ c C,ag h' c=some C/\B=C.ren (aw (bd sg nid h'))/\b=aw (bd sg nid h') c/\c<h'.length)\/(get b=some B/\b∉sg/\¬ (nid<=b/\b<nid+(h'.length-h.length))):=fun b B e=>by
  unfold bZ at e;rw[hnl] at e;by_cases k:nid<=b/\b<nid+(h'.length-h.length)
  ·rw[if_pos k,pd,ci,il,t] at e;left;have hl:h.length+(b-nid)<h'.length:=aa;rw[aF hl] at e;simp only[jA,Option.join_some] at e;obtain⟨C,d,y⟩:∃ C,h'[h.length+(b-nid)]=some C/\B=C.ren (aw (bd sg nid h')):=by
    unfold dx at e;cases q:h'[h.length+(b-nid)] with
    |none=>rw[q] at e;simp at e
    |some C=>rw[q] at e;simp at e;exact⟨C,rfl,e.symm⟩
   refine⟨h.length+(b-nid),C,?_,y,?_,hl⟩
   ·unfold ag;rw[aF hl,d];rfl
   ·rw[bd,sY aa aa];omega
  ·rw[if_neg k] at e;by_cases X:b∈sg
   ·obtain⟨i,R,hib⟩:=xE.1 X;left;have hi':sg[i]?=some b:=by rw[aF R,hib]
    rw[xy Z hi' aa] at e;have hsb:aw sg i=b:=by have :=mv (sg:=sg) R;rw[hi'] at this;exact(kJ this).symm
    obtain⟨C,d,y⟩:∃ C,ag h' i=some C/\B=C.ren (aw (bd sg nid h')):=by
     unfold dx at e;cases q:(h'[i]?).join with
     |none=>rw[q] at e;simp at e
     |some C=>rw[q] at e;simp at e;exact⟨C,q,e.symm⟩
    exact⟨i,C,d,y,by rw[bd,uf R,hsb],aa⟩
   ·rw[tM X] at e;exact .inr ⟨e,X,k⟩
 have z:∀ b B,get b=some B->b∉sg->∀ A B0,ag h A=some B0->B0.ro=false->(ρ (aw sg A)).1≠(ρ b).1:=fun b B e k A B0 I o=>by
  refine x.inj _ _ _ _ (l A B0 I) e o (fun d=>k ?_);rw[<-d];exact kP (mv (by rw[t];exact aU I))
 have still:∀ b B,get b=some B->b∉sg->w'.heap[(ρ b).1]?=w.heap[(ρ b).1]?:=fun b B e k=>G.keep _ (x.lt b B e) fun A B0 I o=>z b B e k A B0 I o
 have j:∀ b,¬ (nid<=b/\b<nid+(h'.length-h.length))->ρ1 b=ρ b:=fun b k=>if_neg k
 have J:∀ b,dom b->ρ1 b=ρ b:=fun b k=>j b fun h=>hnew b h.1 h.2 k
 refine⟨r,ρ1,rfl,J,?_,k1.doren W n,?_⟩
 ·refine⟨fun b B e=>?_,fun b B e=>?_,fun b E B B' e e' m F=>?_,fun b B e i v hv=>?_,fun b B e m i R=>?_,fun b B mm e M=>?_⟩
  ·rcases g b B e with⟨c,C,d,rfl,rfl,hc⟩|⟨d,_,_⟩
   ·exact W c hc
   ·exact .inl (x.has _ _ d)
  ·rcases g b B e with⟨c,C,d,rfl,rfl,hc⟩|⟨d,_,k⟩
   ·rw[n c hc];exact k2.lt _ _ d
   ·rw[j b k];exact mw (x.lt _ _ d) G.size
  ·rcases g b B e with⟨c,C,d,rfl,rfl,hc⟩|⟨d,p,k⟩<;>rcases g E B' e' with⟨L,C',s,rfl,rfl,hc'⟩|⟨s,hb1',U⟩
   ·rw[n c hc,n L hc'];exact k2.inj _ _ _ _ d s m (fun y=>F (by rw[y]))
   ·rw[n c hc,j E U];rcases G.own c C d m with⟨A,B0,I,o,q⟩|q
    ·rw[<-q];exact z E B' s hb1' A B0 I o
    ·have :=x.lt _ _ s;omega
   ·rw[j b k,n L hc'];by_cases hc2:L<h.length
    ·cases he0:ag h L with
     |some B0=>
      rw[k4 L hc2];refine x.inj _ _ _ _ d (l L B0 he0) m (fun y=>p ?_);rw[y];exact kP (mv aa)
     |none=>
      have K:=hro L C' s (.inr he0);rcases G.own L C' s K with⟨A,B0,I,o,q⟩|q
      ·rw[<-q];exact fun y=>z b B d p A B0 I o y.symm
      ·have :=x.lt _ _ d;omega
    ·have K:=hro L C' s (.inl aa);rcases G.own L C' s K with⟨A,B0,I,o,q⟩|q
     ·rw[<-q];exact fun y=>z b B d p A B0 I o y.symm
     ·have :=x.lt _ _ d;omega
   ·rw[j b k,j E U];exact x.inj _ _ _ _ d s m F
  ·rcases g b B e with⟨c,C,d,rfl,rfl,hc⟩|⟨d,p,k⟩
   ·rw[n c hc];have h2:∃ u,C.cs[i]?=some u/\v=u.ren (aw (bd sg nid h')):=by
     have H:(rens (aw (bd sg nid h')) C.cs)[i]?=some v:=hv;rw[iP,ci] at H;cases hu:C.cs[i]? with
     |none=>rw[hu] at H;simp at H
     |some u=>rw[hu] at H;simp at H;exact⟨u,rfl,H.symm⟩
    obtain⟨u,hu,rfl⟩:=h2;obtain⟨r,g1,g2⟩:=k2.cell _ _ d i u hu;exact⟨r,g1,g2.doren W n⟩
   ·rw[j b k];obtain⟨r,g1,g2⟩:=x.cell _ _ d i v hv;refine⟨r,?_,g2.mono J (fun b k=> .inl k) G.lasts⟩;rw[World.cell?_of_block (w:=w) (a:=⟨(ρ b).1,(ρ b).2+i,none⟩) (still b B d p)];exact g1
  ·rcases g b B e with⟨c,C,d,rfl,rfl,hc⟩|⟨d,p,k⟩
   ·rw[n c hc];exact k2.free _ _ d m i (by have h3:i<(rens (aw (bd sg nid h')) C.cs).length:=R;rw[iP,ba] at h3;exact h3)
   ·rw[j b k,World.frozen?_of_block (w:=w) (a:=⟨(ρ b).1,(ρ b).2+i,none⟩) (still b B d p)];exact x.free _ _ d m i R
  ·rcases g b B e with⟨c,C,d,rfl,rfl,hc⟩|⟨d,p,k⟩
   ·rw[n c hc];exact xP (k2.mapc _ _ mm d M) (by show(rens (aw (bd sg nid h')) C.cs).length=C.cs.length;rw[iP,ba])
   ·rw[j b k];exact nf (x.mapc _ _ mm d M) (still b B d p)
 ·refine⟨G.os,G.output,G.tape,G.size,fun r hr k=>G.keep r hr fun b B e D=>?_,G.lasts,fun b B e D=>?_⟩
  ·exact k _ _ (l b B e) D
  ·rcases g b B e with⟨c,C,d,rfl,rfl,hc⟩|⟨d,p,k⟩
   ·rw[n c hc];rcases G.own c C d D with⟨A,B0,I,o,q⟩|q
    ·exact .inl ⟨_,_,l A B0 I,o,q⟩
    ·exact .inr q
   ·exact .inl ⟨b,B,d,D,by rw[j b k]⟩
theorem aaC (m:aq P f args h v h')(a:sg.length=h.length)(c:af h.length args)(j:sg.Nodup)(k:∀ b∈sg,b<nid)
  (d:∀ b,b<h.length->∃ B,ag h b=some B)
  (g:∀ b B,ag h b=some B->get0 (aw sg b)=some ⟨B.ro,rens (aw sg) B.cs,B.mp⟩/\af h.length B.cs)
  (i:∀ b B,ag h' b=some B->h.length<=b->B.ro=false) (l:h.length<=h'.length):
  Spec P f (rens (aw sg) args) get0 nid {v:=v.ren (aw (bd sg nid h')),pre:=True,fp:=sg,old:=cR (aw (bd sg nid h')) sg h',news:=dQ (aw (bd sg nid h')) sg h'}:=
 C5 m a c j k g (fun b B e h1=>by
  rcases h1 with h1|h1
  ·exact i b B e h1
  ·by_cases n:b<h.length
   ·obtain⟨C,o⟩:=d b n;rw[o] at h1;cases h1
   ·exact i b B e aa) l
end
end
end Go.Vm
end
section
namespace Go.Vm
inductive Fr where
 |code (c:Code)
 |blk (id:Nat)
section
variable (P:Program)(m n:Nat)(R:Exit->St->Prop)
def kQ:List Fr->Exit->St->Prop
 |[]=>R
 | .code c::k=>jH (vc P m n c (kQ k)) (kQ k)
 | .blk id::k=>mu id (kQ k)
def go (c:Code)(k:List Fr)(s:St):Prop:=vc P m n c (kQ P m n R k) s
def gone (k:List Fr)(e:Exit)(s:St):Prop:=kQ P m n R k e s
def fY (l:List Oper)(ops:Array Oper)(k:List Fr)(s:St):Prop:=cM P n ops l s (kQ P m n R k .normal)
def dk (o:Op)(dst:Option Tmp)(l:List Oper)(ops:Array Oper)(k:List Fr)(s:St):Prop:=eN P o s (hold fun res=>cM P n ops l (s.after dst res) (kQ P m n R k .normal))
def eH (r:Option Res)(dst:Option Tmp)(l:List Oper)(ops:Array Oper)(k:List Fr)(s:St):Prop:=gZ r (hold fun res=>cM P n ops l (s.after dst res) (kQ P m n R k .normal))
def n9 (f:V)(args:List V)(dst:Option Tmp)(l:List Oper)(ops:Array Oper)(k:List Fr)(s:St):Prop:=vcall P f args s.H (hold fun res=>cM P n ops l (s.after dst res) (kQ P m n R k .normal))
def ww (v:V)(want:Bool)(o:Op)(dst:Option Tmp)(l:List Oper)(ops:Array Oper)(k:List Fr)(s:St):Prop:=
 kf v want (eN P o s (hold fun res=>cM P n ops l (s.after dst res) (kQ P m n R k .normal))) (cM P n ops l (s.put dst (.tup [])) (kQ P m n R k .normal))
def xm (g:Option (Nat×Bool))(o:Op)(dst:Option Tmp)(l:List Oper)(ops:Array Oper)(k:List Fr)(s:St):Prop:=match g with
 |none=>dk P m n R o dst l ops k s
 |some (j,want)=>match j6 ops j with
  |some d=>d<n/\ww P m n R (s.get d) want o dst l ops k s
  |none=>False
abbrev Tr:=List (List Nat×List Nat)
def ir (l:List Oper)(tr:Tr)(ops:Array Oper)(k:List Fr)(s:St):Prop:=fK P n ops (kQ P m n R k .normal) l tr s
def kD (dst:Option Tmp)(l:List Oper)(tr:Tr)(ops:Array Oper)(k:List Fr)(s:St):Res->Prop:=hold fun res=>(∀ x∈res.old,x.1<s.H.length)/\fK P n ops (kQ P m n R k .normal) l (tr++[bI s res]) (s.after dst res)
def dI (o:Op)(dst:Option Tmp)(l:List Oper)(tr:Tr)(ops:Array Oper)(k:List Fr)(s:St):Prop:=eN P o s (kD P m n R dst l tr ops k s)
def fN (r:Option Res)(dst:Option Tmp)(l:List Oper)(tr:Tr)(ops:Array Oper)(k:List Fr)(s:St):Prop:=gZ r (kD P m n R dst l tr ops k s)
def mj (f:V)(args:List V)(dst:Option Tmp)(l:List Oper)(tr:Tr)(ops:Array Oper)(k:List Fr)(s:St):Prop:=vcall P f args s.H (kD P m n R dst l tr ops k s)
def vL (v:V)(want:Bool)(o:Op)(dst:Option Tmp)(l:List Oper)(tr:Tr)(ops:Array Oper)(k:List Fr)(s:St):Prop:=
 kf v want (eN P o s (kD P m n R dst l tr ops k s)) (fK P n ops (kQ P m n R k .normal) l (tr++[([],[])]) (s.put dst (.tup [])))
def wJ (g:Option (Nat×Bool))(o:Op)(dst:Option Tmp)(l:List Oper)(tr:Tr)(ops:Array Oper)(k:List Fr)(s:St):Prop:=match g with
 |none=>dI P m n R o dst l tr ops k s
 |some (j,want)=>match j6 ops j with
  |some d=>d<n/\vL P m n R (s.get d) want o dst l tr ops k s
  |none=>False
def Ce (v:V)(x y:Code)(k:List Fr)(s:St):Prop:=uN v (go P m n R x k s) (go P m n R y k s)
end
section
variable {P:Program}{m n:Nat}{R:Exit->St->Prop}{k:List Fr}{s:St}{l:List Oper}{ops:Array Oper}{dst:Option Tmp}
theorem ak {c:Code}(h:go P m n R c [] s):vc P m n c R s:=h
theorem Rc:go P m n R .skip k s=gone P m n R k .normal s:=rfl
theorem Uz (x y:Code):go P m n R (.seq x y) k s=go P m n R x (.code y::k) s:=rfl
theorem UO (id:Nat):go P m n R (.region id ops false) k s=fY P m n R ops.toList ops k s:=rfl
theorem V0 (c:Operand)(x y:Code):go P m n R (.cond c x y) k s=Ce P m n R (s.ev c) x y k s:=rfl
theorem LI (id:Nat)(c:Code):go P m n R (.block id c) k s=go P m n R c (.blk id::k) s:=rfl
theorem WL (id:Nat):go P m n R (.exit id) k s=gone P m n R k (.exit id) s:=rfl
theorem go_ret:go P m n R .ret k s=gone P m n R k .ret s:=rfl
theorem agK (e:Exit):gone P m n R [] e s=R e s:=rfl
theorem UC (c:Code):gone P m n R (.code c::k) .normal s=go P m n R c k s:=rfl
theorem Qc (c:Code)(id:Nat):gone P m n R (.code c::k) (.exit id) s=gone P m n R k (.exit id) s:=rfl
theorem Su (c:Code):gone P m n R (.code c::k) .ret s=gone P m n R k .ret s:=rfl
theorem MM (id:Nat):gone P m n R (.blk id::k) .normal s=gone P m n R k .normal s:=rfl
theorem acl (id:Nat):gone P m n R (.blk id::k) .ret s=gone P m n R k .ret s:=rfl
theorem Zi (id i:Nat):gone P m n R (.blk id::k) (.exit i) s=if i=id then gone P m n R k .normal s else gone P m n R k (.exit i) s:=rfl
theorem WX:fY P m n R [] ops k s=gone P m n R k .normal s:=rfl
theorem ae4 (o:Op)(t:TypeId)(pos:String)(after:Array Edge)(g:Option (Nat×Bool)):fY P m n R (⟨dst,o,t,pos,after,g⟩::l) ops k s=(fV n dst/\xm P m n R g o dst l ops k s):=by
 unfold fY xm;rw[cM];cases g<;>rfl
theorem afP (o:Op):xm P m n R none o dst l ops k s=dk P m n R o dst l ops k s:=rfl
theorem agn (j:Nat)(want:Bool)(o:Op)(d:Nat)(h:j6 ops j=some d):xm P m n R (some (j,want)) o dst l ops k s=(d<n/\ww P m n R (s.get d) want o dst l ops k s):=by
 unfold xm;simp only[h]
theorem abj (b want:Bool)(o:Op):ww P m n R (.bool b) want o dst l ops k s=if b=want then dk P m n R o dst l ops k s else fY P m n R l ops k (s.put dst (.tup [])):=by
 unfold ww kf;simp only;by_cases h:b=want
 ·rw[if_pos h];exact propext ⟨fun x=>x.1 h,fun x=>⟨fun _=>x,fun y=>absurd h y⟩⟩
 ·rw[if_neg h];exact propext ⟨fun x=>x.2 h,fun x=>⟨fun y=>absurd y h,fun _=>x⟩⟩
theorem aaS (want:Bool)(o:Op):ww P m n R (.tup []) want o dst l ops k s=fY P m n R l ops k (s.put dst (.tup [])):=rfl
theorem RI (b:Bool)(x y:Code):Ce P m n R (.bool b) x y k s=if b=true then go P m n R x k s else go P m n R y k s:=by
 unfold Ce uN;simp only;cases b
 ·exact propext ⟨fun x=>x.2 rfl,fun x=>⟨fun y=>absurd y ae,fun _=>x⟩⟩
 ·exact propext ⟨fun x=>x.1 rfl,fun x=>⟨fun _=>x,fun y=>absurd y ae⟩⟩
theorem Oh (r:Res):eH P m n R (some r) dst l ops k s=(r.pre/\fY P m n R l ops k (s.after dst r)):=rfl
theorem Rt:eH P m n R none dst l ops k s=False:=rfl
theorem ET (x:Operand):dk P m n R (.move x) dst l ops k s=fY P m n R l ops k (s.put dst (s.ev x)):=by
 unfold dk eN gZ;simp only[bP,true_and];show cM _ _ _ _ (s.after _ _) _=_;unfold fY;congr 1;unfold St.after St.put cK;simp
theorem Sd (x:Operand):dk P m n R (.assign x) dst l ops k s=fY P m n R l ops k (s.put dst (s.ev x)):=ET x
theorem aeM (op:BinOp)(t:TypeId)(x y:Operand)(u:TypeId):dk P m n R (.binOp op t x y u) dst l ops k s=eH P m n R (pV P op t (s.ev x) (s.ev y) (ag s.H)) dst l ops k s:=rfl
theorem TC (op:UnOp)(t:TypeId)(x:Operand):dk P m n R (.unOp op t x) dst l ops k s=eH P m n R (rL op (s.ev x)) dst l ops k s:=rfl
theorem XP (c x y:Operand):dk P m n R (.pick c x y) dst l ops k s=eH P m n R (bP P (.pick c x y) s.ev (ag s.H) s.H.length) dst l ops k s:=rfl
theorem ZB (e:TypeId):dk P m n R (.alloc e) dst l ops k s=eH P m n R (bP P (.alloc e) s.ev (ag s.H) s.H.length) dst l ops k s:=rfl
theorem LP (e:TypeId)(x:Operand):dk P m n R (.box e x) dst l ops k s=eH P m n R (bP P (.box e x) s.ev (ag s.H) s.H.length) dst l ops k s:=rfl
theorem Sl (t:TypeId)(p:Array (Nat×Operand)):dk P m n R (.build t p) dst l ops k s=eH P m n R (bP P (.build t p) s.ev (ag s.H) s.H.length) dst l ops k s:=rfl
theorem abG (t:TypeId)(i:Nat)(p:Array (Nat×Operand)):dk P m n R (.buildSlice t i p) dst l ops k s=eH P m n R (bP P (.buildSlice t i p) s.ev (ag s.H) s.H.length) dst l ops k s:=rfl
theorem NT (t:TypeId)(x:Operand):dk P m n R (.load t x) dst l ops k s=eH P m n R (bP P (.load t x) s.ev (ag s.H) s.H.length) dst l ops k s:=rfl
theorem U5 (t:TypeId)(x y:Operand):dk P m n R (.store t x y) dst l ops k s=eH P m n R (bP P (.store t x y) s.ev (ag s.H) s.H.length) dst l ops k s:=rfl
theorem acL (x:Operand):dk P m n R (.nilCheck x) dst l ops k s=eH P m n R (bP P (.nilCheck x) s.ev (ag s.H) s.H.length) dst l ops k s:=rfl
theorem Zh (a b:TypeId)(x:Operand):dk P m n R (.convert a b x) dst l ops k s=eH P m n R (uc P a b (s.ev x) (ag s.H) s.H.length) dst l ops k s:=rfl
theorem Ro (t:TypeId)(x:Operand):dk P m n R (.sliceToArrayPointer t x) dst l ops k s=eH P m n R (bP P (.sliceToArrayPointer t x) s.ev (ag s.H) s.H.length) dst l ops k s:=rfl
theorem Qo (f:Fn)(a c:Array Operand):dk P m n R (.makeFunc f a c) dst l ops k s=eH P m n R (bP P (.makeFunc f a c) s.ev (ag s.H) s.H.length) dst l ops k s:=rfl
theorem WY (t:TypeId)(x y:Operand):dk P m n R (.makeSlice t x y) dst l ops k s=eH P m n R (bP P (.makeSlice t x y) s.ev (ag s.H) s.H.length) dst l ops k s:=rfl
theorem Tm (t:TypeId)(x:Operand)(a b c:Option Operand):dk P m n R (.slice t x a b c) dst l ops k s=eH P m n R (bP P (.slice t x a b c) s.ev (ag s.H) s.H.length) dst l ops k s:=rfl
theorem ace (t:TypeId)(x:Operand)(f:Nat):dk P m n R (.fieldAddr t x f) dst l ops k s=eH P m n R (bP P (.fieldAddr t x f) s.ev (ag s.H) s.H.length) dst l ops k s:=rfl
theorem Pa (t:TypeId)(x y:Operand):dk P m n R (.indexAddr t x y) dst l ops k s=eH P m n R (bP P (.indexAddr t x y) s.ev (ag s.H) s.H.length) dst l ops k s:=rfl
theorem O3 (t:TypeId)(x y:Operand):dk P m n R (.index t x y) dst l ops k s=eH P m n R (bP P (.index t x y) s.ev (ag s.H) s.H.length) dst l ops k s:=rfl
theorem PE (x:Operand)(i:Nat):dk P m n R (.extract x i) dst l ops k s=eH P m n R (bP P (.extract x i) s.ev (ag s.H) s.H.length) dst l ops k s:=rfl
theorem aej (b:Builtin)(args:Array Operand)(a:Array TypeId):dk P m n R (.call ⟨.builtin b,args,a⟩) dst l ops k s=eH P m n R (oR P b a.toList (args.toList.map s.ev) (ag s.H) s.H.length) dst l ops k s:=rfl
theorem abw (f:Operand)(args:Array Operand)(a:Array TypeId):dk P m n R (.call ⟨.value f,args,a⟩) dst l ops k s=n9 P m n R (s.ev f) (args.toList.map s.ev) dst l ops k s:=rfl
theorem Ns (t:TypeId)(x:Operand):dk P m n R (.makeInterface t x) dst l ops k s=eH P m n R (bP P (.makeInterface t x) s.ev (ag s.H) s.H.length) dst l ops k s:=rfl
def Ux (P:Program)(m n:Nat)(R:Exit->St->Prop)(v:V)(name:String)(args:List V)(dst:Option Tmp)(l:List Oper)(ops:Array Oper)(k:List Fr)(s:St):Prop:=rz P v name args s.H (hold fun res=>cM P n ops l (s.after dst res) (kQ P m n R k .normal))
theorem WZ (x:Operand)(name:String)(args:Array Operand)(a:Array TypeId):dk P m n R (.call ⟨.invoke x name,args,a⟩) dst l ops k s=Ux P m n R (s.ev x) name (args.toList.map s.ev) dst l ops k s:=rfl
theorem afq (id:Nat):go P m n R (.region id ops true) k s=ir P m n R ops.toList [] ops k s:=rfl
theorem Pd {tr:Tr}:ir P m n R [] tr ops k s=(iA ops tr=true/\gone P m n R k .normal s):=rfl
theorem Ob {tr:Tr}(o:Op)(t:TypeId)(pos:String)(after:Array Edge)(g:Option (Nat×Bool)):ir P m n R (⟨dst,o,t,pos,after,g⟩::l) tr ops k s=(fV n dst/\wJ P m n R g o dst l tr ops k s):=by
 unfold ir wJ;rw[fK];cases g<;>rfl
theorem Qy {tr:Tr}(o:Op):wJ P m n R none o dst l tr ops k s=dI P m n R o dst l tr ops k s:=rfl
theorem Pc {tr:Tr}(j:Nat)(want:Bool)(o:Op)(d:Nat)(h:j6 ops j=some d):wJ P m n R (some (j,want)) o dst l tr ops k s=(d<n/\vL P m n R (s.get d) want o dst l tr ops k s):=by
 unfold wJ;simp only[h]
theorem Yk {tr:Tr}(b want:Bool)(o:Op):vL P m n R (.bool b) want o dst l tr ops k s=if b=want then dI P m n R o dst l tr ops k s else ir P m n R l (tr++[([],[])]) ops k (s.put dst (.tup [])):=by
 unfold vL kf;simp only;by_cases h:b=want
 ·rw[if_pos h];exact propext ⟨fun x=>x.1 h,fun x=>⟨fun _=>x,fun y=>absurd h y⟩⟩
 ·rw[if_neg h];exact propext ⟨fun x=>x.2 h,fun x=>⟨fun y=>absurd y h,fun _=>x⟩⟩
theorem Rr {tr:Tr}(want:Bool)(o:Op):vL P m n R (.tup []) want o dst l tr ops k s=ir P m n R l (tr++[([],[])]) ops k (s.put dst (.tup [])):=rfl
theorem NW {tr:Tr}(r:Res):fN P m n R (some r) dst l tr ops k s=(r.pre/\(∀ x∈r.old,x.1<s.H.length)/\ir P m n R l (tr++[bI s r]) ops k (s.after dst r)):=rfl
theorem Ys {tr:Tr}:fN P m n R none dst l tr ops k s=False:=rfl
theorem E0 {tr:Tr}(x:Operand):dI P m n R (.move x) dst l tr ops k s=ir P m n R l (tr++[([],[])]) ops k (s.put dst (s.ev x)):=by
 unfold dI eN gZ;simp only[bP,true_and];have h1:bI s {v:=s.ev x}=([],[]):=by unfold bI;simp
 have h2:s.after dst {v:=s.ev x}=s.put dst (s.ev x):=by unfold St.after St.put cK;simp
 show((∀ y∈([]:List (Nat×Option Blk)),y.1<s.H.length)/\fK P n ops (kQ P m n R k .normal) l (tr++[bI s {v:=s.ev x}]) (s.after dst {v:=s.ev x}))=_;rw[h1,h2];exact propext ⟨fun h=>h.2,fun h=>⟨ae,h⟩⟩
theorem U7 {tr:Tr}(x:Operand):dI P m n R (.assign x) dst l tr ops k s=ir P m n R l (tr++[([],[])]) ops k (s.put dst (s.ev x)):=E0 x
theorem LS {tr:Tr}(op:BinOp)(t:TypeId)(x y:Operand)(u:TypeId):dI P m n R (.binOp op t x y u) dst l tr ops k s=fN P m n R (pV P op t (s.ev x) (s.ev y) (ag s.H)) dst l tr ops k s:=rfl
theorem QS {tr:Tr}(op:UnOp)(t:TypeId)(x:Operand):dI P m n R (.unOp op t x) dst l tr ops k s=fN P m n R (rL op (s.ev x)) dst l tr ops k s:=rfl
theorem MY {tr:Tr}(c x y:Operand):dI P m n R (.pick c x y) dst l tr ops k s=fN P m n R (bP P (.pick c x y) s.ev (ag s.H) s.H.length) dst l tr ops k s:=rfl
theorem afF {tr:Tr}(e:TypeId):dI P m n R (.alloc e) dst l tr ops k s=fN P m n R (bP P (.alloc e) s.ev (ag s.H) s.H.length) dst l tr ops k s:=rfl
theorem aaN {tr:Tr}(e:TypeId)(x:Operand):dI P m n R (.box e x) dst l tr ops k s=fN P m n R (bP P (.box e x) s.ev (ag s.H) s.H.length) dst l tr ops k s:=rfl
theorem Ot {tr:Tr}(t:TypeId)(p:Array (Nat×Operand)):dI P m n R (.build t p) dst l tr ops k s=fN P m n R (bP P (.build t p) s.ev (ag s.H) s.H.length) dst l tr ops k s:=rfl
theorem QY {tr:Tr}(t:TypeId)(i:Nat)(p:Array (Nat×Operand)):dI P m n R (.buildSlice t i p) dst l tr ops k s=fN P m n R (bP P (.buildSlice t i p) s.ev (ag s.H) s.H.length) dst l tr ops k s:=rfl
theorem P7 {tr:Tr}(t:TypeId)(x:Operand):dI P m n R (.load t x) dst l tr ops k s=fN P m n R (bP P (.load t x) s.ev (ag s.H) s.H.length) dst l tr ops k s:=rfl
theorem afd {tr:Tr}(t:TypeId)(x y:Operand):dI P m n R (.store t x y) dst l tr ops k s=fN P m n R (bP P (.store t x y) s.ev (ag s.H) s.H.length) dst l tr ops k s:=rfl
theorem Qq {tr:Tr}(x:Operand):dI P m n R (.nilCheck x) dst l tr ops k s=fN P m n R (bP P (.nilCheck x) s.ev (ag s.H) s.H.length) dst l tr ops k s:=rfl
theorem U1 {tr:Tr}(a b:TypeId)(x:Operand):dI P m n R (.convert a b x) dst l tr ops k s=fN P m n R (uc P a b (s.ev x) (ag s.H) s.H.length) dst l tr ops k s:=rfl
theorem WD {tr:Tr}(t:TypeId)(x:Operand):dI P m n R (.sliceToArrayPointer t x) dst l tr ops k s=fN P m n R (bP P (.sliceToArrayPointer t x) s.ev (ag s.H) s.H.length) dst l tr ops k s:=rfl
theorem abW {tr:Tr}(f:Fn)(a c:Array Operand):dI P m n R (.makeFunc f a c) dst l tr ops k s=fN P m n R (bP P (.makeFunc f a c) s.ev (ag s.H) s.H.length) dst l tr ops k s:=rfl
theorem ad6 {tr:Tr}(t:TypeId)(x y:Operand):dI P m n R (.makeSlice t x y) dst l tr ops k s=fN P m n R (bP P (.makeSlice t x y) s.ev (ag s.H) s.H.length) dst l tr ops k s:=rfl
theorem PH {tr:Tr}(t:TypeId)(x:Operand)(a b c:Option Operand):dI P m n R (.slice t x a b c) dst l tr ops k s=fN P m n R (bP P (.slice t x a b c) s.ev (ag s.H) s.H.length) dst l tr ops k s:=rfl
theorem abI {tr:Tr}(t:TypeId)(x:Operand)(f:Nat):dI P m n R (.fieldAddr t x f) dst l tr ops k s=fN P m n R (bP P (.fieldAddr t x f) s.ev (ag s.H) s.H.length) dst l tr ops k s:=rfl
theorem aec {tr:Tr}(t:TypeId)(x y:Operand):dI P m n R (.indexAddr t x y) dst l tr ops k s=fN P m n R (bP P (.indexAddr t x y) s.ev (ag s.H) s.H.length) dst l tr ops k s:=rfl
theorem ZU {tr:Tr}(t:TypeId)(x y:Operand):dI P m n R (.index t x y) dst l tr ops k s=fN P m n R (bP P (.index t x y) s.ev (ag s.H) s.H.length) dst l tr ops k s:=rfl
theorem acA {tr:Tr}(x:Operand)(i:Nat):dI P m n R (.extract x i) dst l tr ops k s=fN P m n R (bP P (.extract x i) s.ev (ag s.H) s.H.length) dst l tr ops k s:=rfl
theorem acJ {tr:Tr}(b:Builtin)(args:Array Operand)(a:Array TypeId):dI P m n R (.call ⟨.builtin b,args,a⟩) dst l tr ops k s=fN P m n R (oR P b a.toList (args.toList.map s.ev) (ag s.H) s.H.length) dst l tr ops k s:=rfl
theorem Qs {tr:Tr}(f:Operand)(args:Array Operand)(a:Array TypeId):dI P m n R (.call ⟨.value f,args,a⟩) dst l tr ops k s=mj P m n R (s.ev f) (args.toList.map s.ev) dst l tr ops k s:=rfl
theorem XZ {tr:Tr}(t:TypeId)(x:Operand):dI P m n R (.makeInterface t x) dst l tr ops k s=fN P m n R (bP P (.makeInterface t x) s.ev (ag s.H) s.H.length) dst l tr ops k s:=rfl
def CC (P:Program)(m n:Nat)(R:Exit->St->Prop)(v:V)(name:String)(args:List V)(dst:Option Tmp)(l:List Oper)(tr:Tr)(ops:Array Oper)(k:List Fr)(s:St):Prop:=rz P v name args s.H (kD P m n R dst l tr ops k s)
theorem Yx {tr:Tr}(x:Operand)(name:String)(args:Array Operand)(a:Array TypeId):dI P m n R (.call ⟨.invoke x name,args,a⟩) dst l tr ops k s=CC P m n R (s.ev x) name (args.toList.map s.ev) dst l tr ops k s:=rfl
theorem oP {tr:Tr}{t:TypeId}{v:V}{name:String}{args:List V}{f:FuncId}(h:fU P t name=some f):CC P m n R (.iface t v) name args dst l tr ops k s=mj P m n R (.fn f [] []) (v::args) dst l tr ops k s:=by
 unfold CC rz;simp only[h];rfl
theorem aeO {f:FuncId}{fs cs args:List V}{v:V}(h:aG P f (fs++args++cs) v)(c:fY P m n R l ops k (s.put dst v)):n9 P m n R (.fn f fs cs) args dst l ops k s:=by
 refine⟨{v:=v},.inl ⟨f,fs,cs,rfl,h.1,trivial,h.2 _ _⟩,?_⟩;show cM P n ops l (s.after dst _) _;unfold fY at c;have :s.after dst {v:=v}=s.put dst v:=by unfold St.after St.put cK;simp
 rw[this];exact c
theorem au {f:FuncId}{args:List V}{v:V}(h:aG P f args v)(a:fY P m n R l ops k (s.put dst v)):n9 P m n R (.fn f [] []) args dst l ops k s:=aeO (by simpa using h) a
theorem aeE {tr:Tr}{f:FuncId}{fs cs args:List V}{v:V}(h:aG P f (fs++args++cs) v)(a:ir P m n R l (tr++[([],[])]) ops k (s.put dst v)):mj P m n R (.fn f fs cs) args dst l tr ops k s:=by
 refine⟨{v:=v},.inl ⟨f,fs,cs,rfl,h.1,trivial,h.2 _ _⟩,?_,?_⟩
 ·intro x b;cases b
 ·have h1:bI s {v:=v}=([],[]):=by unfold bI;simp
  have h2:s.after dst {v:=v}=s.put dst v:=by unfold St.after St.put cK;simp
  rw[h1,h2];exact a
theorem aX {tr:Tr}{f:FuncId}{args:List V}{v:V}(h:aG P f args v)(a:ir P m n R l (tr++[([],[])]) ops k (s.put dst v)):mj P m n R (.fn f [] []) args dst l tr ops k s:=aeE (by simpa using h) a
theorem vU {f:FuncId}{args:List V}{v:V}(h:ta P f args v)(a:fY P m n R l ops k (s.put dst v)):n9 P m n R (.fn f [] []) args dst l ops k s:=by
 refine⟨{v:=v},.inr (.inl ⟨f,[],[],rfl,rfl,rfl,by simpa using h⟩),?_⟩;show cM P n ops l (s.after dst _) _;unfold fY at a;have :s.after dst {v:=v}=s.put dst v:=by unfold St.after St.put cK;simp
 rw[this];exact a
theorem Cg {tr:Tr}{f:FuncId}{args:List V}{v:V}(h:ta P f args v)(a:ir P m n R l (tr++[([],[])]) ops k (s.put dst v)):mj P m n R (.fn f [] []) args dst l tr ops k s:=by
 refine⟨{v:=v},.inr (.inl ⟨f,[],[],rfl,rfl,rfl,by simpa using h⟩),?_,?_⟩
 ·intro x b;cases b
 ·have h1:bI s {v:=v}=([],[]):=by unfold bI;simp
  have h2:s.after dst {v:=v}=s.put dst v:=by unfold St.after St.put cK;simp
  rw[h1,h2];exact a
theorem RJ {tr:Tr}{a:String}{t:TypeId}{x:V}{f:FuncId}{args:List V}{v:V}(b:fU P t a=some f)(h:aG P f (x::args) v)(c:ir P m n R l (tr++[([],[])]) ops k (s.put dst v)):mj P m n R (.aFn a t x) args dst l tr ops k s:=by
 refine⟨{v:=v},.inr (.inr ⟨a,t,x,f,rfl,b,h.1,trivial,h.2 _ _⟩),?_,?_⟩
 ·intro y d;cases d
 ·have h1:bI s {v:=v}=([],[]):=by unfold bI;simp
  have h2:s.after dst {v:=v}=s.put dst v:=by unfold St.after St.put cK;simp
  rw[h1,h2];exact c
theorem bq {c:Code}(I:Nat->St->Prop)(h0:∃ j s0,Weak m n s s0/\I j s0)(a:∀ j s,I j s->m<=s.H.length->go P m n (jH (jS m n I j) (kQ P m n R k)) c [] s):go P m n R (.loop c) k s:=⟨I,h0,a⟩
theorem afx (K:St->Prop)(Q:Exit->St->Prop):jH K Q .normal s=K s:=rfl
theorem Tx (K:St->Prop)(Q:Exit->St->Prop)(id:Nat):jH K Q (.exit id) s=Q (.exit id) s:=rfl
theorem ack (K:St->Prop)(Q:Exit->St->Prop):jH K Q .ret s=Q .ret s:=rfl
theorem abA (e:Exit):kQ P m n R k e s=gone P m n R k e s:=rfl
theorem Qx (fn:Func)(K:V->St->Prop):eW P fn K .ret s=eg P s fn.results.toList fun l=>K (eL l) s:=rfl
theorem YD (fn:Func)(K:V->St->Prop):eW P fn K .normal s=eg P s fn.results.toList fun l=>K (eL l) s:=rfl
end
theorem Ma (n:Int)(h:(0<=n/\n<256)=True):ofValue (.int .u8 n)= .u8 (BitVec.ofInt 8 n):=if_pos (by rw[h];trivial)
theorem aar (n:Int)(h:(0<=n/\n<4294967296)=True):ofValue (.int .u32 n)= .u32 (BitVec.ofInt 32 n):=if_pos (by rw[h];trivial)
theorem SW (n:Int)(h:(0<=n/\n<18446744073709551616)=True):ofValue (.int .u64 n)= .u64 (BitVec.ofInt 64 n):=if_pos (by rw[h];trivial)
theorem Pe (n:Int):ofValue (.int .i64 n)= .i64 n:=rfl
theorem T7 (n:Int):ofValue (.int .i32 n)= .i32 n:=rfl
theorem W7 (b:Bool):ofValue (.bool b)= .bool b:=rfl
theorem OF (b:ByteArray):ofValue (.string b)= .str (bytesOf b):=rfl
theorem aco:ofValue (.slice none 0 0)= .nilSlice:=rfl
theorem Sx:ofValue (.pointer none)= .nilPtr:=rfl
theorem Qb:ofValue .nilFunc= .nilFn:=rfl
theorem agC (n d:Nat):fV n (some d)=(d<n):=rfl
theorem Xw (n:Nat):fV n none=True:=rfl
theorem af2 (s:St)(t:Tmp):s.ev (.tmp t)=aj s.t t:=rfl
theorem afG (s:St)(v:Value):s.ev (.const v)=ofValue v:=rfl
theorem af3 (s:St)(f:FuncId):s.ev (.func f)= .fn f [] []:=rfl
theorem Zt (i:Nat)(v:V)(r:List (Nat×V))(t:Nat):aj ((i,v)::r) t=if i=t then v else aj r t:=rfl
theorem abp (t:Nat):aj [] t= .junk:=rfl
theorem Za (t:List (Nat×V))(H:List (Option Blk))(d:Nat)(res:Res):St.after ⟨t,H⟩ (some d) res=⟨(d,res.v)::t,cK H res.old++res.news⟩:=rfl
theorem YA (t:List (Nat×V))(H:List (Option Blk))(res:Res):St.after ⟨t,H⟩ none res=⟨t,cK H res.old++res.news⟩:=rfl
theorem Tt (t:List (Nat×V))(H:List (Option Blk))(d:Nat)(v:V):St.put ⟨t,H⟩ (some d) v=⟨(d,v)::t,H⟩:=rfl
theorem LJ (t:List (Nat×V))(H:List (Option Blk))(v:V):St.put ⟨t,H⟩ none v=⟨t,H⟩:=rfl
theorem Us (H:List (Option Blk)):cK H []=H:=rfl
theorem Ri (t:List (Nat×V))(H:List (Option Blk))(i:Nat):St.get ⟨t,H⟩ i=aj t i:=rfl
theorem adt (v:V):eL [v]=v:=rfl
theorem Z0 (v w:V)(l:List V):eL (v::w::l)= .tup (v::w::l):=rfl
theorem Nt (P:Program)(s:St)(K:List V->Prop):eg P s [] K=K []:=rfl
theorem adq (P:Program)(s:St)(t:Nat)(r:List ResultVar)(K:List V->Prop):eg P s (.tmp t::r) K=eg P s r fun l=>K (s.get t::l):=rfl
attribute [go_sem] Rc Uz UO V0 LI WL go_ret agK UC Qc Su MM acl Zi WX ae4 afP agn abj aaS RI Oh Rt
attribute [go_sem] ET Sd aeM TC XP ZB LP Sl abG NT U5 acL Zh Ro Qo WY Tm ace Pa O3 PE aej abw Ns WZ
attribute [go_sem] afx Tx ack abA Qx YD Ma aar SW Pe T7 W7 OF aco Sx Qb agC Xw af2 afG af3 Zt abp Za YA Tt LJ Us Ri adt Z0 Nt adq
attribute [go_sem] afq Pd Ob Qy Pc Yk Rr NW Ys E0 U7 LS QS MY afF aaN Ot QY P7 afd Qq U1 WD abW ad6 PH abI aec ZU acA acJ Qs XZ Yx
attribute [go_sem] bP pV yc tk p8 gU yQ uK s8 wX sG rL AB j6
end Go.Vm
namespace Go.Vm
theorem bx {m n:Nat}{I:Nat->St->Prop}{k:Nat}{s':St}(c:Nat)(a:St)(d:c<k)(e:∀ p∈a.t,p.2=s'.get p.1)(f:a.H.length=s'.H.length)(g:∀ b B,ag a.H b=some B->ag s'.H b=some B)(h:I c a):jS m n I k s':=
 ⟨c,a,d,Weak.drop e f g,h⟩
theorem bJ {m n:Nat}{I:Nat->St->Prop}{s:St}(k:Nat)(s0:St)(a:∀ p∈s0.t,p.2=s.get p.1)(c:s0.H.length=s.H.length)(d:∀ b B,ag s0.H b=some B->ag s.H b=some B)(e:I k s0):∃ k s0,Weak m n s s0/\I k s0:=
 ⟨k,s0,Weak.drop a c d,e⟩
end Go.Vm
end
