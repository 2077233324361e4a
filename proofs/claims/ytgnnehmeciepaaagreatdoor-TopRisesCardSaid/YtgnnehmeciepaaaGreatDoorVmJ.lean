/- Every operation that 'vop' knows: the machine does just that ('vop_sound'). -/
import Derived.Laws.Slices
import Derived.Lib.Strings
import Derived.Test.YtgnnehmeciepaaaGreatDoorVmHToVmI
set_option linter.unusedVariables false
set_option linter.unusedSimpArgs false
set_option linter.unusedSectionVars false
set_option maxRecDepth 20000
set_option maxHeartbeats 8000000
namespace Go.Vm
section
variable {ρ:Nat→Nat×Nat}{dom:Nat→Prop}{P:Program}{w:World}{get get0:Nat→Option Blk}{nid:Nat}
theorem ph {t e:TypeId}(h:eX P t=some e):P.underlying t=some (.slice e):=by
 unfold eX at h
 split at h
 ·rename_i hu;injection h with h;subst h;exact hu
 ·cases h
theorem Ji {t e:TypeId}{n:Nat}(h:cS P t=some (n,e)):P.underlying t=some (.array n e):=by
 unfold cS at h
 split at h
 ·rename_i hu;injection h with h;simp only[Prod.mk.injEq] at h;obtain⟨rfl,rfl⟩:=h;exact hu
 ·cases h
theorem kb {t:TypeId}{n:Nat}(h:al P t=some n):(sizeOf t).run P w= .ok n w:=by
 unfold al at h
 cases hi:P.info? t with
 |none=>rw[hi] at h;cases h
 |some i=>rw[hi] at h;injection h with h;simp[sizeOf,typeInfo,hi,h]
theorem zU {t:TypeId}{b:Bool}(h:aF P t=some b):(isAgg t).run P w= .ok b w:=by
 obtain⟨d,hu,hd⟩:=zh h
 unfold isAgg
 rw[Sem.run_bind,run_underlying hu w]
 cases d<;>simp_all
def kW (ρ:Nat→Nat×Nat)(dom:Nat→Prop)(w:World)(x:Option V)(r:Option Value):Prop:=(x=none∧r=none)∨∃ v u,x=some v∧r=some u∧VR ρ dom w v u
theorem qL {isS:Bool}{len cap:Nat}{lo hi:Option V}{rl rh:Option Value}{l h:Int}(hl:iX lo=some l)(hh:jr len hi=some h)(h0:0≤l)(h1:l≤h)(h2:h≤len)(hc:len≤cap)
  (el:kW ρ dom w lo rl) (eh:kW ρ dom w hi rh):
  (Instr.sliceBounds isS len cap rl rh none).run P w= .ok (l.toNat,h.toNat,cap) w:=by
 rcases el with⟨rfl,rfl⟩|⟨v,u,rfl,rfl,el⟩<;>rcases eh with⟨rfl,rfl⟩|⟨v',u',rfl,rfl,eh⟩
 ·simp only[iX,jr,Option.some.injEq] at hl hh
  subst hl;subst hh
  simp[Instr.sliceBounds]
 ·simp only[iX,Option.some.injEq] at hl
  subst hl
  obtain⟨k,rfl⟩:=lp (show v'.nat?=some h from hh) eh
  simp[Instr.sliceBounds,run_sliceBound (P:=P) w k h cap _ (by omega) (by omega)]
 ·simp only[jr,Option.some.injEq] at hh
  subst hh
  obtain⟨k,rfl⟩:=lp (show v.nat?=some l from hl) el
  simp[Instr.sliceBounds,run_sliceBound (P:=P) w k l len _ (by omega) (by omega)]
 ·obtain⟨k,rfl⟩:=lp (show v.nat?=some l from hl) el
  obtain⟨k',rfl⟩:=lp (show v'.nat?=some h from hh) eh
  have e:=run_sliceBound (P:=P) w k l h.toNat .sliceB (by omega) (by omega)
  simp[Instr.sliceBounds,run_sliceBound (P:=P) w k' h cap _ (by omega) (by omega),e]
theorem ES (b:ByteArray)(l h:Nat):bytesOf (b.extract l h)=((bytesOf b).take h).drop l:=by
 unfold bytesOf
 rw[Lib.extract_data,←List.map_take,←List.map_drop,List.drop_take]
theorem Ej {t:TypeId}{s:List ac}{rx:Value}{lo hi:Option V}{rl rh:Option Value}{l h:Int}(ht:P.underlying t=some .string)(hx:VR ρ dom w (.str s) rx)
  (hl:iX lo=some l) (hh:jr s.length hi=some h) (h0:0≤l) (h1:l≤h) (h2:h≤s.length)
  (el:kW ρ dom w lo rl) (eh:kW ρ dom w hi rh):
  ∃ r,(Instr.sliceAt t rx rl rh none).run P w= .ok r w∧VR ρ dom w (.str ((s.take h.toNat).drop l.toNat)) r:=by
 unfold VR at hx
 obtain⟨b,rfl,rfl⟩:=hx
 have hb:=qL (P:=P) (isS:=false) (cap:=(bytesOf b).length) hl hh h0 h1 h2 (Nat.le_refl _) el eh
 rw[iI] at hb
 refine⟨.string (b.extract l.toNat h.toNat),?_,by unfold VR;exact⟨_,rfl,ES b _ _⟩⟩
 simp[Instr.sliceAt,run_underlying ht,Instr.slice,hb]
theorem D8 {t e:TypeId}{b o len esz:Nat}{rx:Value}{lo hi:Option V}{rl rh:Option Value}{l h:Int}(ht:P.underlying t=some (.slice e))(hs:al P e=some esz)(hx:VR ρ dom w (.slice b o len esz) rx)
  (hl:iX lo=some l) (hh:jr len hi=some h) (h0:0≤l) (h1:l≤h) (h2:h≤len)
  (el:kW ρ dom w lo rl) (eh:kW ρ dom w hi rh):
  ∃ r,(Instr.sliceAt t rx rl rh none).run P w= .ok r w∧VR ρ dom w (.slice b (o+l.toNat*esz) (h-l).toNat esz) r:=by
 unfold VR at hx
 obtain⟨hd,a,cap,rfl,hlc,ha⟩:=hx
 have hb:=qL (P:=P) (isS:=true) (cap:=cap) hl hh h0 h1 h2 hlc el eh
 refine⟨.slice (some (if cap=l.toNat then a else a.add (l.toNat*esz))) (h.toNat-l.toNat) (cap-l.toNat),?_,?_⟩
 ·simp[Instr.sliceAt,run_underlying ht,Instr.slice,hb,kb hs]
  split <;>rfl
 ·unfold VR
  refine⟨hd,_,cap-l.toNat,by rw[show h.toNat-l.toNat=(h-l).toNat by omega],by omega,fun hc=>?_⟩
  rw[if_neg (by omega)]
  obtain⟨rfl,hth⟩:=ha (by omega)
  rw[Addr.add_mid]
  refine⟨by rw[Nat.add_assoc],fun j hj=>?_⟩
  have :l.toNat*esz+j<cap*esz:=by
   have e1:(cap-l.toNat)*esz+l.toNat*esz=cap*esz:=by rw[←Nat.add_mul];congr 1;omega
   omega
  have :=hth (l.toNat*esz+j) this
  rw[show(ρ b).2+o+(l.toNat*esz+j)=(ρ b).2+(o+l.toNat*esz)+j by omega] at this
  exact this
theorem Ek {t e:TypeId}{b o n s:Nat}{cs:List V}{rx:Value}{lo hi:Option V}{rl rh:Option Value}{l h:Int}(ht:P.underlying t=some (.array n e))(hs:al P e=some s)(hm:MemRel ρ dom get w)(hb:get b=bK cs)
  (hx:VR ρ dom w (.ptr b o) rx) (hl:iX lo=some l) (hh:jr n hi=some h) (h0:0≤l) (h1:l≤h) (h2:h≤n) (hle:o+n*s≤cs.length)
  (el:kW ρ dom w lo rl) (eh:kW ρ dom w hi rh):
  ∃ r,(Instr.sliceAt t rx rl rh none).run P w= .ok r w∧VR ρ dom w (.slice b (o+l.toNat*s) (h-l).toNat s) r:=by
 unfold VR at hx
 obtain⟨hd,rfl⟩:=hx
 have hb':=qL (P:=P) (isS:=false) (cap:=n) hl hh h0 h1 h2 (Nat.le_refl _) el eh
 refine⟨.slice (some (if n=l.toNat then⟨(ρ b).1,(ρ b).2+o,none⟩ else(⟨(ρ b).1,(ρ b).2+o,none⟩:Addr).add (l.toNat*s))) (h.toNat-l.toNat) (n-l.toNat),?_,?_⟩
 ·simp[Instr.sliceAt,run_underlying ht,Instr.sureAddr,hb',kb hs]
 ·unfold VR
  refine⟨hd,_,n-l.toNat,by rw[show h.toNat-l.toNat=(h-l).toNat by omega],by omega,fun hc=>?_⟩
  rw[if_neg (by omega),Addr.add_mid]
  refine⟨by rw[Nat.add_assoc],fun j hj=>?_⟩
  have e1:(n-l.toNat)*s+l.toNat*s=n*s:=by rw[←Nat.add_mul];congr 1;omega
  obtain⟨r,g1,_⟩:=hm.cell b _ hb (o+l.toNat*s+j) (cs[o+l.toNat*s+j]'(by omega)) (by show cs[o+l.toNat*s+j]?=_;rw[List.getElem?_eq_getElem])
  have g2:=hm.free b _ hb rfl (o+l.toNat*s+j) (by show _<cs.length;omega)
  rw[show(ρ b).2+(o+l.toNat*s)+j=(ρ b).2+(o+l.toNat*s+j) by omega]
  exact⟨by rw[g1];rfl,g2⟩
theorem vW (b o j:Nat):(⟨b,o,none⟩:Addr).add j=⟨b,o+j,none⟩:=Addr.add_mid b o j
theorem El {t e:TypeId}{b o n s:Nat}{rx ri:Value}{xi:V}{i:Int}(ht:P.underlying t=some (.array n e))(hs:al P e=some s)(hx:VR ρ dom w (.ptr b o) rx)(hi:xi.nat?=some i)(hri:VR ρ dom w xi ri)(h0:0≤i)(h1:i<n):
  ∃ r,(Instr.indexAt t rx ri).run P w= .ok r w∧VR ρ dom w (.ptr b (o+i.toNat*s)) r:=by
 unfold VR at hx
 obtain⟨hd,rfl⟩:=hx
 obtain⟨k,rfl⟩:=lp hi hri
 refine⟨.pointer (some ⟨(ρ b).1,(ρ b).2+(o+i.toNat*s),none⟩),?_,by unfold VR;exact⟨hd,rfl⟩⟩
 simp[Instr.indexAt,asIntOf,run_underlying ht,Instr.sureAddr,h0,h1,kb hs,vW,Nat.add_assoc]
theorem D9 {t e:TypeId}{b o len s:Nat}{rx ri:Value}{xi:V}{i:Int}(ht:P.underlying t=some (.slice e))(hs:al P e=some s)(hx:VR ρ dom w (.slice b o len s) rx)(hi:xi.nat?=some i)(hri:VR ρ dom w xi ri)(h0:0≤i)(h1:i<len):
  ∃ r,(Instr.indexAt t rx ri).run P w= .ok r w∧VR ρ dom w (.ptr b (o+i.toNat*s)) r:=by
 unfold VR at hx
 obtain⟨hd,a,cap,rfl,hlc,ha⟩:=hx
 obtain⟨rfl,_⟩:=ha (by omega)
 obtain⟨k,rfl⟩:=lp hi hri
 refine⟨.pointer (some ⟨(ρ b).1,(ρ b).2+(o+i.toNat*s),none⟩),?_,by unfold VR;exact⟨hd,rfl⟩⟩
 simp[Instr.indexAt,asIntOf,run_underlying ht,h0,h1,kb hs,vW,Nat.add_assoc]
theorem Hn {t:TypeId}{cs:List V}{rc:Array Value}{off s:Nat}{bb:Bool}(ht:aF P t=some bb)(hs:al P t=some s)(hx:VRs ρ dom w cs rc.toList):
  if bb then ∃ r,(part t rc off).run P w= .ok r w∧VR ρ dom w (.agg ((cs.drop off).take s)) r
  else(off<cs.length→∃ r,(part t rc off).run P w= .ok r w∧VR ρ dom w (cs.getD off .junk) r):=by
 cases bb
 ·simp only[Bool.false_eq_true,if_false]
  intro ho
  obtain⟨r,h1,h2⟩:=hx.get (i:=off) (v:=cs.getD off .junk) (by rw[List.getD_eq_getElem?_getD];simp[ho])
  refine⟨r,?_,h2⟩
  have :rc[off]?=some r:=by rw[←h1];simp
  simp[part,zU ht,this]
 ·simp only[if_true]
  refine⟨.agg (rc.extract off (off+s)),by simp[part,zU ht,kb hs],?_⟩
  unfold VR
  refine⟨_,rfl,?_⟩
  have :=(hx.drop off).take s
  simpa using this
theorem xL {t e:TypeId}{n s:Nat}{cs:List V}{rx ri:Value}{xi:V}{i:Int}{bb:Bool}(ht:P.underlying t=some (.array n e))(hr:aF P e=some bb)(hs:al P e=some s)(hx:VR ρ dom w (.agg cs) rx)(hi:xi.nat?=some i)(hri:VR ρ dom w xi ri)(h0:0≤i)(h1:i<n):
  if bb then ∃ r,(Instr.index t rx ri).run P w= .ok r w∧VR ρ dom w (.agg ((cs.drop (i.toNat*s)).take s)) r
  else(i.toNat*s<cs.length→∃ r,(Instr.index t rx ri).run P w= .ok r w∧VR ρ dom w (cs.getD (i.toNat*s) .junk) r):=by
 unfold VR at hx
 obtain⟨rc,rfl,hx⟩:=hx
 obtain⟨k,rfl⟩:=lp hi hri
 have h:=Hn (off:=i.toNat*s) hr hs hx
 cases bb
 ·simp only[Bool.false_eq_true,if_false] at h ⊢
  intro ho
  obtain⟨r,h2,h3⟩:=h ho
  exact⟨r,by simp[Instr.index,asIntOf,run_underlying ht,h0,h1,kb hs,h2],h3⟩
 ·simp only[if_true] at h ⊢
  obtain⟨r,h2,h3⟩:=h
  exact⟨r,by simp[Instr.index,asIntOf,run_underlying ht,h0,h1,kb hs,h2],h3⟩
theorem Em {t:TypeId}{s:List ac}{rx ri:Value}{xi:V}{i:Int}(ht:P.underlying t=some .string)(hx:VR ρ dom w (.str s) rx)(hi:xi.nat?=some i)(hri:VR ρ dom w xi ri)(h0:0≤i)(h1:i<s.length):
  ∃ r,(Instr.index t rx ri).run P w= .ok r w∧VR ρ dom w (.u8 (s.getD i.toNat 0)) r:=by
 unfold VR at hx
 obtain⟨b,rfl,rfl⟩:=hx
 obtain⟨k,rfl⟩:=lp hi hri
 have hlt:i.toNat<b.size:=by rw[iI] at h1;omega
 refine⟨.int .u8 (b[i.toNat]'hlt).toNat,?_,?_⟩
 ·simp[Instr.index,asIntOf,run_underlying ht,h0,ByteArray.getElem?_lt' b _ hlt]
 ·unfold VR
  congr 1
  have :(bytesOf b).getD i.toNat 0=(b[i.toNat]'hlt).toBitVec:=by
   unfold bytesOf
   rw[List.getD_eq_getElem?_getD,List.getElem?_map]
   have hl:i.toNat<b.data.toList.length:=by rw[Array.length_toList];exact hlt
   rw[List.getElem?_eq_getElem hl]
   rfl
  rw[this]
  rfl
theorem Ez {s d e:TypeId}{l:List ac}{rx:Value}(hs:P.underlying s=some .string)(hd:P.underlying d=some (.slice e))(he:P.underlying e=some (.int .u8))(hx:VR ρ dom w (.str l) rx)(hm:MemRel ρ dom get w)(hn:¬ dom nid):
  RunsTo P (do pure (.value (←convert s d rx)):Sem Next) w ρ dom get nid {v:= .slice nid 0 l.length 1,news:=[bK (l.map .u8)]}:=by
 unfold VR at hx
 obtain⟨b,rfl,rfl⟩:=hx
 have hr:=run_bytes_of_string (P:=P) w s d e b hs hd he
 have hcap:b.size≤grownCap w b.size 0 e:=Nat.le_add_right _ _
 have hrow:(bytesRow b (grownCap w b.size 0 e)).size=grownCap w b.size 0 e:=by
  unfold bytesRow
  have :b.data.size=b.size:=rfl
  simp[this];omega
 refine RunsTo.fresh (w1:=w.drew) (c:=bytesRow b (grownCap w b.size 0 e)) (e:=e) (fz:=(_,_)) (cs:=(bytesOf b).map .u8) hm (Alike.drew w) hn (by rw[Sem.run_bind,hr];rfl) (fun i v hv=>?_) (fun i hi h=>?_) (by rw[iI];exact rH _ _ _ _ _ _ rfl hcap (by rw[hrow];omega) (fun i hi h=>by rw[hrow] at h;omega)) rfl rfl
 ·have hi:i<b.data.size:=by
   have :=(List.getElem?_eq_some_iff.1 hv).1
   simp[iI] at this
   exact this
  obtain⟨r,g1,g2⟩:=(uh (ρ:=ρ) (dom:=dom) (w:=w) b).get hv
  refine⟨r,?_,g2⟩
  rw[bytesRow_at b _ i hi,←g1]
  unfold byteCells
  simp[Array.getElem?_eq_getElem hi]
 ·rw[hrow] at h
  simp[iI] at hi
  omega
theorem EA {s d e:TypeId}{b o len:Nat}{B:Blk}{rx:Value}(hs:P.underlying s=some (.slice e))(he:P.underlying e=some (.int .u8))(hd:P.underlying d=some .string)(hm:MemRel ρ dom get w)(hb:get b=some B)(hle:o+len≤B.cs.length)
  (hu:∀ v∈(B.cs.drop o).take len,∃ x,v= .u8 x) (hx:VR ρ dom w (.slice b o len 1) rx):
  ∃ r,(convert s d rx).run P w= .ok r w∧VR ρ dom w (.str (((B.cs.drop o).take len).map V.byte)) r:=by
 unfold VR at hx
 obtain⟨_,a,cap,rfl,hlc,ha⟩:=hx
 obtain⟨rs,g1,g2⟩:=hm.range hb o len
 have hl:=g1.length
 have htl:((B.cs.drop o).take len).length=len:=by simp;omega
 let f:V→ac:=V.byte
 have key:∀ j (hj:j<len),∃ x:ac,((B.cs.drop o).take len)[j]?=some (.u8 x)∧rs[j]?=some (.int .u8 x.toNat):=fun j hj=>by
  obtain⟨x,hx⟩:=hu _ (List.getElem_mem (by omega :j<((B.cs.drop o).take len).length))
  have h1:((B.cs.drop o).take len)[j]?=some (.u8 x):=by rw[List.getElem?_eq_getElem (by omega),hx]
  obtain⟨r,h2,h3⟩:=g1.get h1
  unfold VR at h3
  subst h3
  exact⟨x,h1,h2⟩
 have hll:((((B.cs.drop o).take len).map f).map UInt8.ofBitVec).length=len:=by simp;omega
 have hr:=run_convert_bytes_back (P:=P) w s d e a cap ((((B.cs.drop o).take len).map f).map UInt8.ofBitVec) hs he hd (fun j hj=>by
  have hj':j<len:=by omega
  obtain⟨x,h1,h2⟩:=key j hj'
  obtain⟨rfl,_⟩:=ha (by omega)
  rw[Addr.add_mid,g2 j _ h2]
  have hg:((B.cs.drop o).take len)[j]'(by omega)= .u8 x:=by rw[List.getElem?_eq_getElem (by omega)] at h1;injection h1
  simp only[List.getElem_map,hg]
  rfl)
 rw[hll] at hr
 exact⟨_,hr,by unfold VR;exact⟨_,rfl,xR _⟩⟩
end
end Go.Vm
