/- Proved: laws of a machine of values, or what a function answers; no conditions but each theorem's own. -/
import Derived.Deep.Upon
import Derived.Test.YtgnnehmeciepaaaGreatDoorVmG
set_option linter.unusedVariables false
set_option linter.unusedSimpArgs false
set_option linter.unusedSectionVars false
set_option maxRecDepth 20000
set_option maxHeartbeats 8000000
section
namespace Go.Vm
section
section
variable {ρ:Nat→Nat×Nat}{dom:Nat→Prop}{P:Program}{w:World}{get:Nat→Option Blk}{nid:Nat}
theorem qV (z:List V):∀ n,(fP z n).length=n*z.length
 |0=>by simp[fP]
 |n+1=>by simp[fP,qV z n,Nat.succ_mul];omega
theorem Bc (z:List V)(hz:0<z.length):∀ (n i:Nat),i<n*z.length→(fP z n)[i]?=z[i%z.length]?
 |0,i,h=>by simp at h
 |n+1,i,h=>by
  unfold fP
  by_cases hi:i<z.length
  ·rw[List.getElem?_append_left hi,Nat.mod_eq_of_lt hi]
  ·rw[List.getElem?_append_right (by omega),Bc z hz n (i-z.length) (by rw[Nat.succ_mul] at h;omega)]
   rw[←Nat.mod_eq_sub_mod (by omega)]
theorem xV {z:List V}{zc:Array Value}(h:VRs ρ dom w z zc.toList)(hz:0<z.length)(n:Nat):VRs ρ dom w (fP z n) (madeCells zc (n*z.length)).toList:=by
 have hl:zc.size=z.length:=by have :=h.length;simpa using this
 refine VRs.of_get (by simp[size_madeCells,qV]) fun i v r hv hr=>?_
 have hi:i<n*z.length:=by
  have :=(List.getElem?_eq_some_iff.1 hv).1
  rwa [qV] at this
 rw[Bc z hz n i hi] at hv
 obtain⟨r',g1,g2⟩:=h.get hv
 have :(madeCells zc (n*z.length)).toList[i]?=some zc[i%zc.size]!:=by
  unfold madeCells
  simp[hi]
 rw[this] at hr
 injection hr with hr
 have hm:i%z.length<zc.size:=by rw[hl];exact Nat.mod_lt _ hz
 rw[hl] at hr
 simp[hm] at hr g1
 rw[←hr,g1]
 exact g2
theorem Jh (w1:World)(c:Array Value)(e:TypeId)(fz:Nat×Nat)(n:Nat)(h:n≤c.size)(hf:∀ i,i<n→¬ (fz.1≤i∧i<fz.2)):(w1.alloc (.cells c e fz)).there w1.heap.size 0 n:=fun j hj=>by
 rw[cell?_alloc_fz,frozen?_alloc_fz]
 have :=hf j hj
 simp only[Nat.zero_add]
 exact⟨by simp;omega,by simpa using this⟩
theorem rH {w1:World}(c:Array Value)(e:TypeId)(fz:Nat×Nat)(n cap s:Nat)(hsz:w1.heap.size=w.heap.size)(hn:n≤cap)(h:cap*s≤c.size)(hf:∀ i,i<cap*s→¬ (fz.1≤i∧i<fz.2)):
  VR (fJ ρ nid (w.heap.size,0)) (bZ dom nid 1) (w1.alloc (.cells c e fz)) (.slice nid 0 n s) (.slice (some ⟨w.heap.size,0,none⟩) n cap):=by
 unfold VR
 refine⟨.inr ⟨by omega,by omega⟩,_,_,rfl,hn,fun _=>?_⟩
 rw[dO]
 refine⟨rfl,?_⟩
 rw[←hsz]
 exact Jh w1 c e fz _ h hf
theorem Ei {t e:TypeId}{s by_:Nat}{z:List V}{n:Int}(ht:P.underlying t=some (.slice e))(hs:al P e=some s)(hb:aK P e=some by_)(hz:aG P e=some z)(hl:z.length=s)(h0:0<s)
  (hn:0≤n) (hby:n*by_≤140737488355328) (hle:n≤140737488355328) (hm:MemRel ρ dom get w) (hd:¬ dom nid):
  RunsTo P (do pure (.value (←Instr.makeSlice t (.int .i64 n) (.int .i64 n))):Sem Next) w ρ dom get nid {v:= .slice nid 0 n.toNat s,news:=[bK (fP z n.toNat)]}:=by
 obtain⟨i,zv,hi,hzv,rfl⟩:=px hz
 have hsz:i.size=s:=by unfold al at hs;rw[hi] at hs;injection hs
 have hbz:i.bytes=by_:=by unfold aK at hb;rw[hi] at hb;injection hb
 have hr:=run_make (P:=P) w t e i zv ht hi hzv .i64 .i64 n n hn (Int.le_refl _) (by rw[hbz,Int.mul_comm];omega) (by omega)
 have hzl:zv.cells.size=s:=by simpa using hl
 refine RunsTo.fresh (w1:=w) (c:=madeCells zv.cells (n.toNat*i.size)) (e:=e) (fz:=(0,0)) (cs:=fP (zv.cells.toList.map ofValue) n.toNat) hm (Alike.refl w) hd (by rw[Sem.run_bind,hr];rfl) (fun i' v hv=>?_) (fun i _ h=>by have :=h.2;simp at this) (rH _ _ _ _ _ _ rfl (Nat.le_refl _) (by rw[size_madeCells,hsz];exact Nat.le_refl _) (fun i _ h=>by have :=h.2;simp at this)) rfl rfl
 have hrel:=xV (ρ:=ρ) (dom:=dom) (w:=w) (pN zv) (by rw[hl];exact h0) n.toNat
 rw[hl,←hsz] at hrel
 obtain⟨r,h1,h2⟩:=hrel.get hv
 exact⟨r,by simpa using h1,h2⟩
theorem Eb {t e:TypeId}{len s:Nat}{z cs:List V}{parts:List (Nat×V)}{rparts:Array (Nat×Value)}(ht:P.underlying t=some (.slice e))(hs:al P e=some s)(hz:aG P e=some z)(hl:z.length=s)(h0:0<s)(hle:len*s≤1048576)
  (hpl:rparts.size=parts.length) (hp:∀ (i:Nat) x y,parts[i]?=some x→rparts.toList[i]?=some y→x.1=y.1∧VR ρ dom w x.2 y.2)
  (hf:ip (fun i=>some (i*s,s)) (fP z len) parts=some cs) (hm:MemRel ρ dom get w) (hd:¬ dom nid):
  RunsTo P (do pure (.value (←Instr.buildSlice t len rparts)):Sem Next) w ρ dom get nid {v:= .slice nid 0 len s,news:=[bK cs]}:=by
 obtain⟨i,zv,hi,hzv,rfl⟩:=px hz
 have hsz:i.size=s:=by unfold al at hs;rw[hi] at hs;injection hs
 have hzl:zv.cells.size=s:=by simpa using hl
 have hrel:=xV (ρ:=ρ) (dom:=dom) (w:=w) (pN zv) (by rw[hl];exact h0) len
 rw[hl] at hrel
 obtain⟨rc,h1,h2⟩:=rt parts rparts.toList _ cs (madeCells zv.cells (len*s)) (by simpa using hpl) hp hf hrel
 have hlen:rc.size=len*s:=by
  have a:=h2.length
  have b:∀ (ps:List (Nat×V)) (vc c:List V),ip (fun i=>some (i*s,s)) vc ps=some c→c.length=vc.length:=by
   intro ps
   induction ps with
   |nil=>intro vc c h;simp only[ip,Option.some.injEq] at h;rw[h]
   |cons p ps ih=>
    intro vc c h
    obtain⟨i,v⟩:=p
    simp only[ip] at h
    split at h
    ·rename_i hc
     rw[ih _ _ h,mh (by omega)]
    ·cases h
  have c:=b _ _ _ hf
  rw[qV,hl] at c
  simp at a
  omega
 refine RunsTo.fresh (w1:=w) (c:=rc) (e:=e) (fz:=(0,0)) (cs:=cs) hm (Alike.refl w) hd ?_ (fun i' v hv=>?_) (fun i _ h=>by have :=h.2;simp at this) (rH _ _ _ _ len _ rfl (Nat.le_refl _) (by rw[hlen];exact Nat.le_refl _) (fun i _ h=>by have :=h.2;simp at this)) rfl rfl
 ·have h24:¬ (16777216<len*s):=by omega
  have hsize:(sizeOf e).run P w= .ok s w:=by simp[sizeOf,typeInfo,hi,hsz]
  by_cases hz0:len*s=0
  ·have hl0:len=0:=by
    rcases Nat.mul_eq_zero.1 hz0 with h|h
    ·exact h
    ·omega
   subst hl0
   rw[Nat.zero_mul] at h1
   have e0:madeCells zv.cells 0=#[]:=by simp[madeCells,Array.range_zero']
   rw[e0] at h1
   simp[Instr.buildSlice,run_underlying ht,hsize,newRow,Array.range_zero',h1]
  ·unfold madeCells at h1
   simp[Instr.buildSlice,run_underlying ht,hsize,h24,hz0,zeroValue,typeInfo,hi,hzv,newRow,h1]
 ·obtain⟨r,g1,g2⟩:=h2.get hv
  exact⟨r,by simpa using g1,g2⟩
theorem uh (b:ByteArray):VRs ρ dom w ((bytesOf b).map .u8) (byteCells b):=by
 unfold bytesOf byteCells
 rw[List.map_map]
 refine VRs.of_get (by simp) fun i v r hv hr=>?_
 rw[List.getElem?_map] at hv hr
 cases hb:b.data.toList[i]? with
 |none=>rw[hb] at hv;cases hv
 |some x=>
  rw[hb] at hv hr
  injection hv with hv;injection hr with hr
  subst hv;subst hr
  show VR ρ dom w (.u8 _) _
  unfold VR
  rfl
theorem vj {y:V}{ry:Value}{m s:Nat}{ys:List V}{q:Prop}{g:List Nat}{tx:TypeId}(h:eP get y=some (m,ys,q,g))(hq:q)(hm:MemRel ρ dom get w)(hy:VR ρ dom w y ry)(hs:ir s y=true)
  (hk:(∃ e',P.underlying tx=some (.slice e'))∧iq y=false∨P.underlying tx=some .string∧iq y=true) (h1:∀ u∈ys,u.one=true):
  ∃ news,Src P s tx ry m news w∧VRs ρ dom w ys news:=by
 have hone:∀ (vs:List V) (rs:List Value),VRs ρ dom w vs rs→(∀ u∈vs,u.one=true)→∀ u∈rs,u.oneCell'=true:=fun vs rs hv ho u hu=>by
  obtain⟨i,hi,rfl⟩:=List.mem_iff_getElem.1 hu
  have hl:=hv.length
  obtain⟨r,g1,g2⟩:=hv.get (i:=i) (v:=vs[i]'(by omega)) (by simp)
  rw[List.getElem?_eq_getElem hi] at g1
  injection g1 with g1
  rw[g1]
  exact qU (ho _ (List.getElem_mem _)) g2
 unfold eP at h
 split at h
 ·injection h with h
  simp only[Prod.mk.injEq] at h
  obtain⟨rfl,rfl,_,rfl⟩:=h
  unfold VR at hy;subst hy
  rcases hk with⟨⟨e',hk⟩,_⟩|⟨_,hk⟩
  ·exact⟨[],Src.ofNil w hk 0,VRs.nil⟩
  ·simp[iq] at hk
 ·rename_i str
  injection h with h
  simp only[Prod.mk.injEq] at h
  obtain⟨rfl,rfl,_,rfl⟩:=h
  unfold VR at hy
  obtain⟨b,rfl,rfl⟩:=hy
  simp[ir] at hs
  subst hs
  rcases hk with⟨_,hk⟩|⟨hk,_⟩
  ·simp[iq] at hk
  ·exact⟨byteCells b,by rw[iI];exact Src.ofString w hk b,uh b⟩
 ·rename_i b o len esz
  split at h
  case h_2=>cases h
  rename_i B hB
  injection h with h
  simp only[Prod.mk.injEq] at h
  obtain⟨rfl,rfl,rfl,rfl⟩:=h
  simp[ir] at hs
  subst hs
  unfold VR at hy
  obtain⟨_,a,cap,rfl,hlc,ha⟩:=hy
  rcases hk with⟨⟨e',hk⟩,_⟩|⟨_,hk⟩
  case inr=>simp[iq] at hk
  obtain⟨rs,g1,g2⟩:=hm.range hB o (len*esz)
  have hl:=g1.length
  refine⟨rs,Src.ofSlice w hk a len cap rs (by rw[hl];simp;omega) (fun j u hu=>?_) (hone _ _ g1 h1),g1⟩
  have hc:cap≠0:=fun e=>by
   have :len=0:=by omega
   subst this
   have :rs=[]:=by
    have :rs.length=0:=by rw[hl];simp
    exact List.length_eq_zero_iff.1 this
   subst this
   simp at hu
  obtain⟨rfl,_⟩:=ha hc
  rw[Addr.add_mid]
  exact g2 j u hu
 ·cases h
theorem Gd {b o n m s nid':Nat}{cap:Nat}{cs ys:List V}{news:List Value}(hm:MemRel ρ dom get w)(hb:get b=bK cs)(hd:¬ dom nid')(hle:o+n*s≤cs.length)(hys:VRs ρ dom w ys news)(hyl:ys.length=m*s)(hroom:n+m≤cap)
  (hth:w.there (ρ b).1 ((ρ b).2+o) (cap*s)):
  MemRel (fJ ρ nid' ((ρ b).1,(ρ b).2+o)) (bZ dom nid' 1) (bv get [(b,none)] nid' [bK ((cs.drop o).take (n*s)++ys)]) (w.setCells (ρ b).1 ((ρ b).2+o+n*s) news)∧
  Frame ρ get w (fJ ρ nid' ((ρ b).1,(ρ b).2+o)) (bv get [(b,none)] nid' [bK ((cs.drop o).take (n*s)++ys)]) (w.setCells (ρ b).1 ((ρ b).2+o+n*s) news)∧
  VR (fJ ρ nid' ((ρ b).1,(ρ b).2+o)) (bZ dom nid' 1) (w.setCells (ρ b).1 ((ρ b).2+o+n*s) news) (.slice nid' 0 (n+m) s) (.slice (some ⟨(ρ b).1,(ρ b).2+o,none⟩) (n+m) cap):=by
 have hnl:=hys.length
 have hmul:n*s+m*s≤cap*s:=by rw[←Nat.add_mul];exact Nat.mul_le_mul_right _ hroom
 have hl:=lasts_setCells (ρ b).1 ((ρ b).2+o+n*s) news w
 have hold:=nD (ρ:=ρ) (x:=((ρ b).1,(ρ b).2+o)) hd
 have hbn:b≠nid':=fun e=>hd (e▸hm.has b _ hb)
 have hupd:bv get [(b,none)] nid' [bK ((cs.drop o).take (n*s)++ys)]=fun b'=>if b'=nid' then bK ((cs.drop o).take (n*s)++ys) else if b'=b then none else get b':=by
  funext b'
  unfold bv
  by_cases h:b'=nid'
  ·subst h;simp
  ·rw[if_neg (by simp;omega),if_neg h];rfl
 rw[hupd]
 have hget:∀ b' B,b'≠nid'→(fun b'=>if b'=nid' then bK ((cs.drop o).take (n*s)++ys) else if b'=b then none else get b') b'=some B→b'≠b∧get b'=some B:=fun b' B h1 h2=>by
  simp only[if_neg h1] at h2
  by_cases e:b'=b
  ·rw[if_pos e] at h2;cases h2
  ·rw[if_neg e] at h2;exact⟨e,h2⟩
 have hgn:∀ B,(fun b'=>if b'=nid' then bK ((cs.drop o).take (n*s)++ys) else if b'=b then none else get b') nid'=some B→B=⟨false,(cs.drop o).take (n*s)++ys,none⟩:=fun B h=>by simpa using h.symm
 have hneq:∀ b' B,b'≠b→get b'=some B→(ρ b').1≠(ρ b).1:=fun b' B h1 h2 e=>hm.inj b b' _ B hb h2 rfl (fun x=>h1 x.symm) e.symm
 have hnew_len:((cs.drop o).take (n*s)).length=n*s:=by simp;omega
 refine⟨⟨fun b' B hB=>?_,fun b' B hB=>?_,fun b1 b2 B1 B2 h1 h2 hr hne=>?_,fun b' B hB i v hv=>?_,fun b' B hB hr i hi=>?_,fun b' B m hB hmp=>?_⟩,
  ⟨(mo _ _ _ _).1,(mo _ _ _ _).2.1,(mo _ _ _ _).2.2,by rw[pa];exact Nat.le_refl _,fun r hr hbr=>?_,hl,fun b' B hB hr=>?_⟩,?_⟩
 ·by_cases e:b'=nid'
  ·exact .inr ⟨by omega,by omega⟩
  ·exact .inl (hm.has b' B (hget b' B e hB).2)
 ·rw[pa]
  by_cases e:b'=nid'
  ·subst e;rw[dO];exact hm.lt b _ hb
  ·have :=(hget b' B e hB).2
   rw[hold b' (hm.has b' B this)];exact hm.lt b' B this
 ·by_cases e1:b1=nid'
  ·subst e1
   have e2:b2≠b1:=fun e=>hne e.symm
   obtain⟨g1,g2⟩:=hget b2 B2 e2 h2
   rw[dO,hold b2 (hm.has b2 B2 g2)]
   exact fun x=>hneq b2 B2 g1 g2 x.symm
  ·obtain⟨g1,g2⟩:=hget b1 B1 e1 h1
   rw[hold b1 (hm.has b1 B1 g2)]
   by_cases e2:b2=nid'
   ·subst e2;rw[dO];exact hneq b1 B1 g1 g2
   ·obtain⟨g3,g4⟩:=hget b2 B2 e2 h2
    rw[hold b2 (hm.has b2 B2 g4)]
    exact hm.inj b1 b2 B1 B2 g2 g4 hr hne
 ·by_cases e:b'=nid'
  ·subst e
   rw[hgn B hB] at hv
   rw[dO]
   simp only at hv ⊢
   by_cases hi:i<n*s
   ·rw[List.getElem?_append_left (by omega),List.getElem?_take,if_pos hi,List.getElem?_drop] at hv
    obtain⟨r,g1,g2⟩:=hm.cell b _ hb (o+i) v hv
    refine⟨r,?_,g2.mono hold n8 hl⟩
    rw[World.cell?_setCells_out _ _ _ _ _ (fun _ _=>by simp only;omega)]
    rw[←g1];congr 2;omega
   ·rw[List.getElem?_append_right (by omega),hnew_len] at hv
    obtain⟨r,g1,g2⟩:=hys.get hv
    refine⟨r,?_,g2.mono hold n8 hl⟩
    have hj:i-n*s<news.length:=(List.getElem?_eq_some_iff.1 g1).1
    have :=World.cell?_setCells_in (ρ b).1 news ((ρ b).2+o+n*s) w (fun j hj=>by
     have :=(hth (n*s+j) (by omega)).1
     rw[←this];congr 2;simp;omega) (i-n*s) hj
    rw[show(ρ b).2+o+n*s+(i-n*s)=(ρ b).2+o+i by omega] at this
    rw[this,←g1];simp[hj]
  ·obtain⟨g1,g2⟩:=hget b' B e hB
   obtain⟨r,h1,h2⟩:=hm.cell b' B g2 i v hv
   refine⟨r,?_,h2.mono hold n8 hl⟩
   rw[hold b' (hm.has b' B g2),World.cell?_setCells_out _ _ _ _ _ (fun x _=>absurd x (hneq b' B g1 g2))]
   exact h1
 ·rw[World.frozen?_setCells]
  by_cases e:b'=nid'
  ·subst e
   rw[hgn B hB] at hi
   rw[dO]
   simp only[List.length_append,hnew_len] at hi
   exact(hth i (by omega)).2
  ·obtain⟨g1,g2⟩:=hget b' B e hB
   rw[hold b' (hm.has b' B g2)]
   exact hm.free b' B g2 hr i hi
 ·by_cases e:b'=nid'
  ·subst e
   rw[hgn B hB] at hmp
   cases hmp
  ·obtain⟨g1,g2⟩:=hget b' B e hB
   rw[hold b' (hm.has b' B g2)]
   exact iK (hm.mapc b' B m g2 hmp) (o9 _ _ _ _ _ (hneq b' B g1 g2))
 ·exact o9 _ _ _ _ _ (fun e=>hbr b _ hb rfl e.symm)
 ·by_cases e:b'=nid'
  ·subst e;rw[dO];exact .inl ⟨b,_,hb,rfl,rfl⟩
  ·obtain⟨g1,g2⟩:=hget b' B e hB
   exact .inl ⟨b',B,g2,hr,by rw[hold b' (hm.has b' B g2)]⟩
 ·unfold VR
  refine⟨.inr ⟨by omega,by omega⟩,_,_,rfl,hroom,fun _=>?_⟩
  rw[dO]
  exact⟨rfl,hl.there hth⟩
end
end
section
section
variable {ρ:Nat→Nat×Nat}{dom:Nat→Prop}{P:Program}{w:World}{get:Nat→Option Blk}{nid:Nat}
theorem Lc {need old:Nat}(h:old<need):Builtin.nextslicecap need old≤need+need/4+192:=by
 unfold Builtin.nextslicecap
 split
 ·omega
 ·split
  ·omega
  ·rw[growBy_four]
   repeat' split
   all_goals omega
theorem lp {x:V}{r:Value}{n:Int}(h:x.nat?=some n)(hv:VR ρ dom w x r):∃ k,r= .int k n:=by
 cases x<;>simp only[V.nat?,Option.some.injEq,seval] at h<;>subst h<;>unfold VR at hv<;>exact⟨_,hv⟩
theorem yx (get:Nat→Option Blk)(f:List Nat)(nid:Nat)(x:Option Blk):∀ b B,bv get (f.map fun b=>(b,none)) nid [x] b=some B→bv get [] nid [x] b=some B:=fun b B h=>by
 unfold bv at*
 split at h
 ·rename_i hc;rw[if_pos hc];exact h
 ·rename_i hc
  rw[if_neg hc]
  have :∀ (f:List Nat) (d:Option Blk),di (f.map fun b=>(b,none)) b d=some B→d=some B:=by
   intro f
   induction f with
   |nil=>intro d h;exact h
   |cons i f ih=>
    intro d h
    simp only[List.map_cons,di] at h
    split at h
    ·cases h
    ·exact ih d h
  exact this f _ h
theorem zS {tx:TypeId}{y:V}(h:oN P tx y=true):(∃ e',P.underlying tx=some (.slice e'))∧iq y=false∨P.underlying tx=some .string∧iq y=true:=by
 unfold oN at h
 cases hu:P.underlying tx with
 |none=>rw[hu] at h;cases h
 |some d=>
  rw[hu] at h
  cases d
  case string=>cases y<;>first|exact .inr ⟨rfl,rfl⟩|cases h
  case slice e=>refine .inl ⟨⟨e,rfl⟩,?_⟩;cases y<;>first|rfl|cases h
  all_goals cases h
theorem Fo {t tx ty e:TypeId}{x y:V}{rx ry:Value}{n m sz by_:Nat}{xs ys z:List V}{p q:Prop}{f g:List Nat}(ht:P.underlying t=some (.slice e))(hs:al P e=some sz)(hb:aK P e=some by_)(hz:aG P e=some z)
  (hzl:z.length=sz) (h0:0<sz) (hxs:iq x=false) (hex:ir sz x=true) (hey:ir sz y=true) (hk:oN P tx y=true) (hsx:eP get x=some (n,xs,p,f)) (hsy:eP get y=some (m,ys,q,g))
  (hp:(fc n m sz by_ x xs ys p q f g get nid).pre) (hx:VR ρ dom w x rx) (hy:VR ρ dom w y ry) (hm:MemRel ρ dom get w) (hd:¬ dom nid):
  RunsTo P (do pure (.value (←Builtin.append_ #[t,tx] ty #[rx,ry])):Sem Next) w ρ dom get nid (fc n m sz by_ x xs ys p q f g get nid):=by
 obtain⟨i,zv,hi,hzv,rfl⟩:=px hz
 have hsz:i.size=sz:=by unfold al at hs;rw[hi] at hs;injection hs
 have hbz:i.bytes=by_:=by unfold aK at hb;rw[hi] at hb;injection hb
 have hzs:zv.cells.size=sz:=by simpa using hzl
 have hkk:=zS hk
 have hfirst:(x= .nilSlice∧rx= .slice none 0 0∧n=0∧xs=[]∧f=[])∨∃ b o B a cap,x= .slice b o n sz∧rx= .slice (some a) n cap∧n≤cap∧get b=some B∧xs=(B.cs.drop o).take (n*sz)∧p=(o+n*sz≤B.cs.length)∧f=[b]∧
   (cap≠0→a=⟨(ρ b).1,(ρ b).2+o,none⟩∧w.there (ρ b).1 ((ρ b).2+o) (cap*sz)):=by
  unfold eP at hsx
  split at hsx
  ·injection hsx with hsx
   simp only[Prod.mk.injEq] at hsx
   obtain⟨rfl,rfl,_,rfl⟩:=hsx
   unfold VR at hx
   exact .inl ⟨rfl,hx,rfl,rfl,rfl⟩
  ·simp[iq] at hxs
  ·split at hsx
   case h_2=>cases hsx
   rename_i B hB
   injection hsx with hsx
   simp only[Prod.mk.injEq] at hsx
   obtain⟨rfl,rfl,rfl,rfl⟩:=hsx
   simp[ir] at hex
   subst hex
   unfold VR at hx
   obtain⟨_,a,cap,rfl,h1,h2⟩:=hx
   exact .inr ⟨_,_,B,a,cap,rfl,rfl,h1,hB,rfl,rfl,rfl,h2⟩
  ·cases hsx
 by_cases hm0:m=0
 ·subst hm0
  have hres:fc n 0 sz by_ x xs ys p q f g get nid={v:=x,pre:=q,fp:=f++g}:=by unfold fc;rw[if_pos rfl]
  rw[hres] at hp ⊢
  have hys:ys=[]:=by
   unfold eP at hsy
   split at hsy
   ·injection hsy with hsy;simp only[Prod.mk.injEq] at hsy;exact hsy.2.1.symm
   ·injection hsy with hsy;simp only[Prod.mk.injEq] at hsy
    obtain⟨h1,h2,_⟩:=hsy
    rw[←h2,List.length_eq_zero_iff.1 h1];rfl
   ·split at hsy
    ·injection hsy with hsy;simp only[Prod.mk.injEq] at hsy
     obtain⟨h1,h2,_⟩:=hsy
     rw[←h2,h1];simp
    ·cases hsy
   ·cases hsy
  subst hys
  obtain⟨news,hsrc,hnews⟩:=vj hsy hp hm hy hey hkk (fun u hu=>by cases hu)
  have hn0:news=[]:=by have :=hnews.length;exact List.length_eq_zero_iff.1 (by simpa using this)
  subst hn0
  rw[←hsz] at hsrc
  rcases hfirst with⟨rfl,rfl,rfl,_,_⟩|⟨b,o,B,a,cap,rfl,rfl,hle,_⟩
  ·exact RunsTo.same hm (by rw[Sem.run_bind,run_append_nothing w t tx ty e i ht hi none 0 0 (Nat.le_refl _) ry hsrc];rfl) hx rfl rfl
  ·exact RunsTo.same hm (by rw[Sem.run_bind,run_append_nothing w t tx ty e i ht hi (some a) n cap hle ry hsrc];rfl) hx rfl rfl
 ·have hres:fc n m sz by_ x xs ys p q f g get nid={v:= .slice nid 0 (n+m) sz,pre:=p∧q∧((n+m)+(n+m)/4+192)*by_≤281474976710656∧n+m≤281474976710656∧(∀ u∈ys,u.one=true)∧ys.length=m*sz∧(∀ b∈f,∃ cs,get b=bK cs),fp:=f++g,old:=f.map fun b=>(b,none),news:=[bK (xs++ys)]}:=by unfold fc;rw[if_neg hm0]
  rw[hres] at hp ⊢
  obtain⟨hp1,hq,hby,hle63,hone,hyl,hrw⟩:=hp
  obtain⟨news,hsrc,hnews⟩:=vj hsy hq hm hy hey hkk hone
  rw[←hsz] at hsrc
  have hcap0:∀ cap,cap<n+m→Builtin.nextslicecap (n+m) cap*i.bytes≤281474976710656:=fun cap hc=>by
   rw[hbz]
   exact Nat.le_trans (Nat.mul_le_mul_right _ (Lc hc)) hby
  have grow:∀ (base:Option Addr) (cap:Nat) (olds:List Value),rx= .slice base n cap→cap<n+m→VRs ρ dom w xs olds→(Builtin.firstCells i.size n (.slice base n cap)).run P w.drew= .ok olds.toArray w.drew→
    RunsTo P (do pure (.value (←Builtin.append_ #[t,tx] ty #[rx,ry])):Sem Next) w ρ dom get nid {v:= .slice nid 0 (n+m) sz,pre:=True,fp:=f++g,old:=f.map fun b=>(b,none),news:=[bK (xs++ys)]}:=by
   intro base cap olds hrx hc ho hfc
   subst hrx
   have hr:=run_append_grow_src w t tx ty e i zv ht hi hzv base n cap olds hfc ry m news hsrc hc (by omega) (hcap0 cap hc)
   have hcut:n+m≤grownCap w (n+m) cap e:=Nat.le_add_right _ _
   have hxl:xs.length=n*sz:=by
    rcases hfirst with⟨_,_,rfl,rfl,_⟩|⟨b,o,B,a,cap',rfl,_,_,_,rfl,hpe,_⟩
    ·simp
    ·rw[hpe] at hp1;simp;omega
   have hol:=ho.length
   have hnl:=hnews.length
   have hrel:VRs ρ dom w (xs++ys) (olds++news):=ho.append hnews
   have hall:((olds++news).toArray++Builtin.zeroCells zv.cells (grownCap w (n+m) cap e-(n+m))).size=grownCap w (n+m) cap e*sz:=by
    rw[Array.size_append,size_zeroCells,hzs]
    simp only[List.size_toArray,List.length_append,hol,hnl,hxl,hyl]
    rw[←Nat.add_mul,←Nat.add_mul]
    congr 1;omega
   have R:=RunsTo.fresh (P:=P) (nid:=nid) (s:=(do pure (.value (←Builtin.append_ #[t,tx] ty #[.slice base n cap,ry])):Sem Next)) (res:={v:= .slice nid 0 (n+m) sz,news:=[bK (xs++ys)]}) (w1:=w.drew) (fz:=(0,0)) (cs:=xs++ys) hm (Alike.drew w) hd (by rw[Sem.run_bind,hr];rfl)
    (fun i' v hv=>by
     obtain⟨r,g1,g2⟩:=hrel.get hv
     have hlt:i'<(olds++news).length:=(List.getElem?_eq_some_iff.1 g1).1
     exact⟨r,by rw[Array.getElem?_append_left (by simpa using hlt)];simpa using g1,g2⟩)
    (fun i _ h=>by have :=h.2;simp at this)
    (rH _ _ _ _ _ _ rfl hcut (by rw[hall];exact Nat.le_refl _) (fun i _ h=>by have :=h.2;simp at this)) rfl rfl
   obtain⟨ρ',w',r,g1,g2,g3,g4,g5⟩:=R
   refine⟨ρ',w',r,g1,g2,g3.less (yx get f nid _),g4,g5.less fun b B hB hro=>⟨b,B,yx get f nid _ b B hB,hro,rfl⟩⟩
  have weaken:∀ {res res':Res} {s:Sem Next},RunsTo P s w ρ dom get nid res→res.v=res'.v→res.old=res'.old→res.news=res'.news→RunsTo P s w ρ dom get nid res':=by
   intro res res' s h e1 e2 e3
   obtain⟨ρ',w',r,g1,g2,g3,g4,g5⟩:=h
   exact⟨ρ',w',r,g1,g2,by rw[←e2,←e3];exact g3,by rw[←e1,←e3];exact g4,by rw[←e2,←e3];exact g5⟩
  rcases hfirst with⟨rfl,rfl,rfl,rfl,rfl⟩|⟨b,o,B,a,cap,rfl,rfl,hle,hgb,rfl,rfl,rfl,ha⟩
  ·exact weaken (grow none 0 [] rfl (by omega) VRs.nil (run_firstCells_none w.drew i.size 0 0 0)) rfl rfl rfl
  ·obtain⟨cs,hcs⟩:=hrw b (by simp)
   rw[hcs] at hgb
   injection hgb with hgb
   subst hgb
   simp only at hp1 ⊢
   by_cases hroom:n+m≤cap
   ·have hc0:cap≠0:=by omega
    obtain⟨rfl,hth⟩:=ha hc0
    obtain⟨g1,g2,g3⟩:=Gd (nid':=nid) hm hcs hd hp1 hnews hyl hroom hth
    have hnl:=hnews.length
    have hmul:n*sz+m*sz≤cap*sz:=by rw[←Nat.add_mul];exact Nat.mul_le_mul_right _ hroom
    have hr:=run_append_room_src w t tx ty e i ht hi (ρ b).1 ((ρ b).2+o) n cap ry m news hsrc hroom
     (fun j hj=>by
      have :=(hth (n*i.size+j) (by rw[hsz];omega)).1
      rw[←this];congr 2;simp;omega)
     (fun j hj=>by
      have :=(hth (n*i.size+j) (by rw[hsz];omega)).2
      rw[←this];congr 2;omega)
    rw[hsz] at hr
    exact⟨_,_,_,.inl (by rw[Sem.run_bind,hr];rfl),nD hd,g1,g3,g2⟩
   ·obtain⟨rs,g1,g2⟩:=hm.range hcs o (n*sz)
    refine weaken (grow (some a) cap rs rfl (by omega) g1 ?_) rfl rfl rfl
    have hrl:=g1.length
    refine run_firstCells_some w.drew i.size n a n cap rs (by rw[hrl,hsz];simp at hp1 ⊢;omega) (fun j u hu=>?_)
    have hc0:cap≠0:=fun e=>by
     have :n=0:=by omega
     subst this
     simp at hrl
     subst hrl
     simp at hu
    obtain⟨rfl,_⟩:=ha hc0
    rw[Addr.add_mid]
    simpa using g2 j u hu
theorem Hl {t tx ty e:TypeId}{b o len:Nat}{cs:List V}{y:V}{rx ry:Value}{m:Nat}{ys:List V}{q:Prop}{g:List Nat}(ht:P.underlying t=some (.slice e))(hs:al P e=some 1)
  (hb:get b=bK cs) (hey:ir 1 y=true) (hsy:eP get y=some (m,ys,q,g)) (hq:q) (hle:o+len≤cs.length) (hyl:ys.length=m) (hone:∀ u∈ys,u.one=true)
  (hx:VR ρ dom w (.slice b o len 1) rx) (hy:VR ρ dom w y ry) (hm:MemRel ρ dom get w):
  RunsTo P (do pure (.value (←Builtin.copy_ #[t,tx] ty #[rx,ry])):Sem Next) w ρ dom get nid {v:= .i64 (min m len:Nat),old:=[(b,bK (splice cs o (ys.take (min m len))))]}:=by
 unfold VR at hx
 obtain⟨_,a,cap,rfl,hlc,ha⟩:=hx
 have hsrc:∃ news,(Builtin.lenOf ry).run P w= .ok m w∧(Builtin.firstCells 1 (min m len) ry).run P w= .ok news.toArray w∧VRs ρ dom w (ys.take (min m len)) news:=by
  unfold eP at hsy
  split at hsy
  ·injection hsy with hsy;simp only[Prod.mk.injEq] at hsy
   obtain⟨rfl,rfl,_⟩:=hsy
   unfold VR at hy;subst hy
   exact⟨[],rfl,run_firstCells_none w _ _ _ _,by simp;exact VRs.nil⟩
  ·rename_i st
   injection hsy with hsy;simp only[Prod.mk.injEq] at hsy
   obtain⟨rfl,rfl,_⟩:=hsy
   unfold VR at hy
   obtain⟨bs,rfl,rfl⟩:=hy
   refine⟨(byteCells bs).take (min (bytesOf bs).length len),by rw[iI];rfl,?_,(uh bs).take _⟩
   simp only[Builtin.firstCells,Sem.run_pure]
   congr 1
   apply Array.ext'
   unfold byteCells
   rw[←List.map_take]
   simp
  ·rename_i b' o' len' esz
   split at hsy
   case h_2=>cases hsy
   rename_i B hB
   injection hsy with hsy;simp only[Prod.mk.injEq] at hsy
   obtain⟨rfl,rfl,rfl,rfl⟩:=hsy
   simp[ir] at hey
   subst hey
   unfold VR at hy
   obtain⟨_,a',cap',rfl,hlc',ha'⟩:=hy
   obtain⟨rs,g1,g2⟩:=hm.range hB o' (len'*1)
   have hrl:=g1.length
   refine⟨rs.take (min len' len),rfl,?_,g1.take _⟩
   refine run_firstCells_some w 1 _ a' len' cap' _ (by simp at hrl hyl ⊢;omega) (fun j u hu=>?_)
   rw[List.getElem?_take] at hu
   split at hu
   case isFalse=>cases hu
   rename_i hj
   obtain⟨rfl,_⟩:=ha' (by omega)
   rw[Addr.add_mid]
   exact g2 j u hu
  ·cases hsy
 obtain⟨news,hl1,hl2,hrel⟩:=hsrc
 have hnl:=hrel.length
 have htl:(ys.take (min m len)).length=min m len:=by simp;omega
 have honeN:∀ u∈news,u.oneCell'=true:=fun u hu=>by
  obtain⟨i,hi,rfl⟩:=List.mem_iff_getElem.1 hu
  obtain⟨r,g1,g2⟩:=hrel.get (i:=i) (v:=(ys.take (min m len))[i]'(by omega)) (List.getElem?_eq_getElem (by omega))
  rw[List.getElem?_eq_getElem hi] at g1
  injection g1 with g1
  rw[g1]
  exact qU (hone _ (List.mem_of_mem_take (List.getElem_mem _))) g2
 have hsize:(sizeOf e).run P w= .ok 1 w:=by
  unfold al at hs
  cases hi:P.info? e with
  |none=>rw[hi] at hs;cases hs
  |some i=>rw[hi] at hs;injection hs with hs;simp[sizeOf,typeInfo,hi,hs]
 by_cases hz:min m len=0
 ·have hn0:news=[]:=List.length_eq_zero_iff.1 (by omega)
  subst hn0
  have ht0:ys.take (min m len)=[]:=List.length_eq_zero_iff.1 (by omega)
  rw[ht0]
  have hspl:splice cs o []=cs:=by unfold splice;simp
  rw[hspl]
  have hget:bv get [(b,bK cs)] nid []=get:=by
   rw[qc];funext b'
   by_cases e:b'=b
   ·subst e;simp[hb]
   ·simp[e]
  refine⟨ρ,w,.int .i64 (min m len:Nat),.inl ?_,fun _ _=>rfl,by rw[hget];exact hm.monoDom n8,by unfold VR;rfl,by rw[hget];exact Frame.refl _ _ _⟩
  have e0:Nat.min m len=0:=hz
  have hl2':(Builtin.firstCells 1 (Nat.min m len) ry).run P w= .ok #[] w:=hl2
  simp[Builtin.copy_,run_underlying ht,hl1,hsize,hl2',storeCells,goInt]
 ·obtain⟨rfl,hth⟩:=ha (by omega)
  obtain⟨g1,g2⟩:=qT (nid:=nid) (o:=o) hm (fun _ h=>by cases h) hb hrel (by omega)
  have hst:=run_storeCells_cells (P:=P) (ρ b).1 ((ρ b).2+o) news 0 w (fun j hj=>by
    have :=(hth j (by omega)).1
    rw[←this];congr 2) (fun j hj=>by
    have :=(hth j (by omega)).2
    rw[←this];congr 2) honeN
  simp only[Nat.add_zero] at hst
  refine⟨ρ,_,.int .i64 (min m len:Nat),.inl ?_,fun _ _=>rfl,g1,by unfold VR;rfl,g2⟩
  have hl2':(Builtin.firstCells 1 (Nat.min m len) ry).run P w= .ok news.toArray w:=hl2
  simp[Builtin.copy_,run_underlying ht,hl1,hsize,hl2',hst,goInt]
end
end
end Go.Vm
end
