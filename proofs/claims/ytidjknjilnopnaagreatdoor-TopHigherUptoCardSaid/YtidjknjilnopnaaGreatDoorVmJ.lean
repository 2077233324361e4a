/- Every operation that 'vop' knows: the machine does just that ('vop_sound'). -/
import Derived.Laws.Slices
import Derived.Lib.Strings
import Derived.Test.YtidjknjilnopnaaGreatDoorVmHToVmI
set_option linter.unusedVariables false
set_option linter.unusedSimpArgs false
set_option maxRecDepth 20000
set_option maxHeartbeats 8000000
namespace Go.Vm
section
variable {ρ:Nat->Nat×Nat}{dom:Nat->Prop}{P:Program}{w:World}{get get0:Nat->Option Blk}{nid:Nat}
theorem xF {t e:TypeId}(h:iH P t=some e):P.underlying t=some (.slice e):=by
 unfold iH at h;split at h
 ·rename_i hu;injection h with h;subst h;exact hu
 ·cases h
theorem N6 {t e:TypeId}{n:Nat}(h:wi P t=some (n,e)):P.underlying t=some (.array n e):=by
 unfold wi at h;split at h
 ·rename_i hu;injection h with h;simp only[gI] at h;obtain⟨rfl,rfl⟩:=h;exact hu
 ·cases h
theorem oB {t:TypeId}{n:Nat}(h:aR P t=some n):(sizeOf t).run P w= .ok n w:=by
 unfold aR at h;cases hi:P.info? t with
 |none=>rw[hi] at h;cases h
 |some i=>rw[hi] at h;injection h with h;simp[sizeOf,typeInfo,hi,h]
theorem Jr {t:TypeId}{b:Bool}(h:bp P t=some b):(isAgg t).run P w= .ok b w:=by
 obtain⟨d,hu,a⟩:=HG h;unfold isAgg;rw[Sem.run_bind,run_underlying hu w];cases d<;>simp_all
def px (ρ:Nat->Nat×Nat)(dom:Nat->Prop)(w:World)(x:Option V)(r:Option Value):Prop:=(x=none/\r=none)\/∃ v u,x=some v/\r=some u/\VR ρ dom w v u
theorem Ay {isS:Bool}{len cap:Nat}{lo hi:Option V}{d f:Option Value}{l h:Int}(a:nk lo=some l)(b:mH len hi=some h)(h0:0<=l)(h1:l<=h)(h2:h<=len)(hc:len<=cap)
  (el:px ρ dom w lo d) (c:px ρ dom w hi f):
  (Instr.sliceBounds isS len cap d f none).run P w= .ok (l.toNat,h.toNat,cap) w:=by
 rcases el with⟨rfl,rfl⟩|⟨v,u,rfl,rfl,el⟩<;>rcases c with⟨rfl,rfl⟩|⟨v',i,rfl,rfl,c⟩
 ·simp only[nk,mH,cf] at a b;subst a;subst b;simp[Instr.sliceBounds]
 ·simp only[nk,cf] at a;subst a;obtain⟨k,rfl⟩:=qz (show v'.nat?=some h from b) c;simp[Instr.sliceBounds,run_sliceBound (P:=P) w k h cap _ aa aa]
 ·simp only[mH,cf] at b;subst b;obtain⟨k,rfl⟩:=qz (show v.nat?=some l from a) el;simp[Instr.sliceBounds,run_sliceBound (P:=P) w k l len _ aa aa]
 ·obtain⟨k,rfl⟩:=qz (show v.nat?=some l from a) el;obtain⟨g,rfl⟩:=qz (show v'.nat?=some h from b) c;have e:=run_sliceBound (P:=P) w k l h.toNat .sliceB aa aa;simp[Instr.sliceBounds,run_sliceBound (P:=P) w g h cap _ aa aa,e]
theorem YQ (b:ByteArray)(l h:Nat):bytesOf (b.extract l h)=((bytesOf b).take h).drop l:=by
 unfold bytesOf;rw[Lib.extract_data,<-nc,<-pg,uB]
theorem Zd {t:TypeId}{s:List ai}{rx:Value}{lo hi:Option V}{a c:Option Value}{l h:Int}(ht:P.underlying t=some .string)(d:VR ρ dom w (.str s) rx)
  (f:nk lo=some l) (g:mH s.length hi=some h) (h0:0<=l) (h1:l<=h) (h2:h<=s.length)
  (el:px ρ dom w lo a) (i:px ρ dom w hi c):
  ∃ r,(Instr.sliceAt t rx a c none).run P w= .ok r w/\VR ρ dom w (.str ((s.take h.toNat).drop l.toNat)) r:=by
 unfold VR at d;obtain⟨b,rfl,rfl⟩:=d;have e:=Ay (P:=P) (isS:=false) (cap:=(bytesOf b).length) f g h0 h1 h2 (aH _) el i;rw[kF] at e;refine⟨.string (b.extract l.toNat h.toNat),?_,by unfold VR;exact⟨_,rfl,YQ b _ _⟩⟩;simp[Instr.sliceAt,run_underlying ht,Instr.slice,e]
theorem Zu {t e:TypeId}{b o len c:Nat}{rx:Value}{lo hi:Option V}{g i:Option Value}{l h:Int}(ht:P.underlying t=some (.slice e))(m:aR P e=some c)(k:VR ρ dom w (.slice b o len c) rx)
  (n:nk lo=some l) (p:mH len hi=some h) (h0:0<=l) (h1:l<=h) (h2:h<=len)
  (el:px ρ dom w lo g) (q:px ρ dom w hi i):
  ∃ r,(Instr.sliceAt t rx g i none).run P w= .ok r w/\VR ρ dom w (.slice b (o+l.toNat*c) (h-l).toNat c) r:=by
 unfold VR at k;obtain⟨s,a,cap,rfl,d,u⟩:=k;have v:=Ay (P:=P) (isS:=true) (cap:=cap) n p h0 h1 h2 d el q;refine⟨.slice (some (if cap=l.toNat then a else a.add (l.toNat*c))) (h.toNat-l.toNat) (cap-l.toNat),?_,?_⟩
 ·simp[Instr.sliceAt,run_underlying ht,Instr.slice,v,oB m];split <;>rfl
 ·unfold VR;refine⟨s,_,cap-l.toNat,by rw[show h.toNat-l.toNat=(h-l).toNat by omega],aa,fun hc=>?_⟩;rw[if_neg aa];obtain⟨rfl,f⟩:=u aa;rw[Addr.add_mid];refine⟨by rw[kh],fun j x=>?_⟩;have :l.toNat*c+j<cap*c:=by
   have y:(cap-l.toNat)*c+l.toNat*c=cap*c:=by rw[<-rA];congr 1;omega
   omega
  have :=f (l.toNat*c+j) this;rw[show(ρ b).2+o+(l.toNat*c+j)=(ρ b).2+(o+l.toNat*c)+j by omega] at this;exact this
theorem SJ {t e:TypeId}{b o n s:Nat}{cs:List V}{rx:Value}{lo hi:Option V}{c d:Option Value}{l h:Int}(ht:P.underlying t=some (.array n e))(k:aR P e=some s)(f:MemRel ρ dom get w)(g:get b=bK cs)
  (i:VR ρ dom w (.ptr b o) rx) (m:nk lo=some l) (p:mH n hi=some h) (h0:0<=l) (h1:l<=h) (h2:h<=n) (q:o+n*s<=cs.length)
  (el:px ρ dom w lo c) (u:px ρ dom w hi d):
  ∃ r,(Instr.sliceAt t rx c d none).run P w= .ok r w/\VR ρ dom w (.slice b (o+l.toNat*s) (h-l).toNat s) r:=by
 unfold VR at i;obtain⟨v,rfl⟩:=i;have a:=Ay (P:=P) (isS:=false) (cap:=n) m p h0 h1 h2 (aH _) el u;refine⟨.slice (some (if n=l.toNat then⟨(ρ b).1,(ρ b).2+o,none⟩ else(⟨(ρ b).1,(ρ b).2+o,none⟩:Addr).add (l.toNat*s))) (h.toNat-l.toNat) (n-l.toNat),?_,?_⟩
 ·simp[Instr.sliceAt,run_underlying ht,Instr.sureAddr,a,oB k]
 ·unfold VR;refine⟨v,_,n-l.toNat,by rw[show h.toNat-l.toNat=(h-l).toNat by omega],aa,fun hc=>?_⟩;rw[if_neg aa,Addr.add_mid];refine⟨by rw[kh],fun j x=>?_⟩;have y:(n-l.toNat)*s+l.toNat*s=n*s:=by rw[<-rA];congr 1;omega
  obtain⟨r,g1,_⟩:=f.cell b _ g (o+l.toNat*s+j) (cs[o+l.toNat*s+j]'(aa)) (by show cs[o+l.toNat*s+j]?=_;rw[aF]);have g2:=f.free b _ g rfl (o+l.toNat*s+j) (by show _<cs.length;omega);rw[show(ρ b).2+(o+l.toNat*s)+j=(ρ b).2+(o+l.toNat*s+j) by omega];exact⟨by rw[g1];rfl,g2⟩
theorem DJ (b o j:Nat):(⟨b,o,none⟩:Addr).add j=⟨b,o+j,none⟩:=Addr.add_mid b o j
theorem OQ {t e:TypeId}{b o n s:Nat}{rx c:Value}{d:V}{i:Int}(ht:P.underlying t=some (.array n e))(g:aR P e=some s)(f:VR ρ dom w (.ptr b o) rx)(hi:d.nat?=some i)(a:VR ρ dom w d c)(h0:0<=i)(h1:i<n):
  ∃ r,(Instr.indexAt t rx c).run P w= .ok r w/\VR ρ dom w (.ptr b (o+i.toNat*s)) r:=by
 unfold VR at f;obtain⟨h,rfl⟩:=f;obtain⟨k,rfl⟩:=qz hi a;refine⟨.pointer (some ⟨(ρ b).1,(ρ b).2+(o+i.toNat*s),none⟩),?_,by unfold VR;exact⟨h,rfl⟩⟩;simp[Instr.indexAt,asIntOf,run_underlying ht,Instr.sureAddr,h0,h1,oB g,DJ,kh]
theorem ad5 {t e:TypeId}{b o len s:Nat}{rx d:Value}{f:V}{i:Int}(ht:P.underlying t=some (.slice e))(h:aR P e=some s)(g:VR ρ dom w (.slice b o len s) rx)(hi:f.nat?=some i)(c:VR ρ dom w f d)(h0:0<=i)(h1:i<len):
  ∃ r,(Instr.indexAt t rx d).run P w= .ok r w/\VR ρ dom w (.ptr b (o+i.toNat*s)) r:=by
 unfold VR at g;obtain⟨j,a,cap,rfl,l,m⟩:=g;obtain⟨rfl,_⟩:=m aa;obtain⟨k,rfl⟩:=qz hi c;refine⟨.pointer (some ⟨(ρ b).1,(ρ b).2+(o+i.toNat*s),none⟩),?_,by unfold VR;exact⟨j,rfl⟩⟩;simp[Instr.indexAt,asIntOf,run_underlying ht,h0,h1,oB h,DJ,kh]
theorem Vv {t:TypeId}{cs:List V}{rc:Array Value}{off s:Nat}{a:Bool}(ht:bp P t=some a)(c:aR P t=some s)(b:VRs ρ dom w cs rc.toList):
  if a then ∃ r,(part t rc off).run P w= .ok r w/\VR ρ dom w (.agg ((cs.drop off).take s)) r
  else(off<cs.length->∃ r,(part t rc off).run P w= .ok r w/\VR ρ dom w (cs.getD off .junk) r):=by
 cases a
 ·simp only[ct,if_false];intro d;obtain⟨r,h1,h2⟩:=b.get (i:=off) (v:=cs.getD off .junk) (by rw[aW];simp[d]);refine⟨r,?_,h2⟩;have :rc[off]?=some r:=by rw[<-h1];simp
  simp[part,Jr ht,this]
 ·simp only[if_true];refine⟨.agg (rc.extract off (off+s)),by simp[part,Jr ht,oB c],?_⟩;unfold VR;refine⟨_,rfl,?_⟩;have :=(b.drop off).take s;simpa using this
theorem KJ {t e:TypeId}{n s:Nat}{cs:List V}{rx b:Value}{j:V}{i:Int}{c:Bool}(ht:P.underlying t=some (.array n e))(l:bp P e=some c)(d:aR P e=some s)(a:VR ρ dom w (.agg cs) rx)(hi:j.nat?=some i)(f:VR ρ dom w j b)(h0:0<=i)(h1:i<n):
  if c then ∃ r,(Instr.index t rx b).run P w= .ok r w/\VR ρ dom w (.agg ((cs.drop (i.toNat*s)).take s)) r
  else(i.toNat*s<cs.length->∃ r,(Instr.index t rx b).run P w= .ok r w/\VR ρ dom w (cs.getD (i.toNat*s) .junk) r):=by
 unfold VR at a;obtain⟨rc,rfl,a⟩:=a;obtain⟨k,rfl⟩:=qz hi f;have h:=Vv (off:=i.toNat*s) l d a;cases c
 ·simp only[ct,if_false] at h |-
  intro m;obtain⟨r,h2,g⟩:=h m;exact⟨r,by simp[Instr.index,asIntOf,run_underlying ht,h0,h1,oB d,h2],g⟩
 ·simp only[if_true] at h |-
  obtain⟨r,h2,g⟩:=h;exact⟨r,by simp[Instr.index,asIntOf,run_underlying ht,h0,h1,oB d,h2],g⟩
theorem Wh {t:TypeId}{s:List ai}{rx d:Value}{e:V}{i:Int}(ht:P.underlying t=some .string)(f:VR ρ dom w (.str s) rx)(hi:e.nat?=some i)(c:VR ρ dom w e d)(h0:0<=i)(h1:i<s.length):
  ∃ r,(Instr.index t rx d).run P w= .ok r w/\VR ρ dom w (.u8 (s.getD i.toNat 0)) r:=by
 unfold VR at f;obtain⟨b,rfl,rfl⟩:=f;obtain⟨k,rfl⟩:=qz hi c;have a:i.toNat<b.size:=by rw[kF] at h1;omega
 refine⟨.int .u8 (b[i.toNat]'a).toNat,?_,?_⟩
 ·simp[Instr.index,asIntOf,run_underlying ht,h0,ByteArray.getElem?_lt' b _ a]
 ·unfold VR;congr 1;have :(bytesOf b).getD i.toNat 0=(b[i.toNat]'a).toBitVec:=by
   unfold bytesOf;rw[aW,ci];have g:i.toNat<b.data.toList.length:=by rw[xv];exact a
   rw[aF g];rfl
  rw[this];rfl
theorem MB {s d e:TypeId}{l:List ai}{rx:Value}(k:P.underlying s=some .string)(m:P.underlying d=some (.slice e))(n:P.underlying e=some (.int .u8))(g:VR ρ dom w (.str l) rx)(o:MemRel ρ dom get w)(p:¬ dom nid):
  RunsTo P (do pure (.value (<-convert s d rx)):Sem Next) w ρ dom get nid {v:= .slice nid 0 l.length 1,news:=[bK (l.map .u8)]}:=by
 unfold VR at g;obtain⟨b,rfl,rfl⟩:=g;have q:=run_bytes_of_string (P:=P) w s d e b k m n;have f:b.size<=grownCap w b.size 0 e:=nW _ _;have a:(bytesRow b (grownCap w b.size 0 e)).size=grownCap w b.size 0 e:=by
  unfold bytesRow;have :b.data.size=b.size:=rfl;simp[this];omega
 refine RunsTo.fresh (w1:=w.drew) (c:=bytesRow b (grownCap w b.size 0 e)) (e:=e) (fz:=(_,_)) (cs:=(bytesOf b).map .u8) o (Alike.drew w) p (by rw[Sem.run_bind,q];rfl) (fun i v j=>?_) (fun i hi h=>?_) (by rw[kF];exact zB _ _ _ _ _ _ rfl f (by rw[a];omega) (fun i hi h=>by rw[a] at h;omega)) rfl rfl
 ·have hi:i<b.data.size:=by
   have :=(ca.1 j).1;simp[kF] at this;exact this
  obtain⟨r,g1,g2⟩:=(C2 (ρ:=ρ) (dom:=dom) (w:=w) b).get j;refine⟨r,?_,g2⟩;rw[bytesRow_at b _ i hi,<-g1];unfold byteCells;simp[oG hi]
 ·rw[a] at h;simp[kF] at hi;omega
theorem WK {s d e:TypeId}{b o len:Nat}{B:Blk}{rx:Value}(m:P.underlying s=some (.slice e))(n:P.underlying e=some (.int .u8))(p:P.underlying d=some .string)(q:MemRel ρ dom get w)(t:get b=some B)(u:o+len<=B.cs.length)
  (hu:∀ v∈(B.cs.drop o).take len,∃ x,v= .u8 x) (c:VR ρ dom w (.slice b o len 1) rx):
  ∃ r,(convert s d rx).run P w= .ok r w/\VR ρ dom w (.str (((B.cs.drop o).take len).map V.byte)) r:=by
 unfold VR at c;obtain⟨_,a,cap,rfl,y,z⟩:=c;obtain⟨rs,g1,g2⟩:=q.range t o len;have D:=g1.length;have A:((B.cs.drop o).take len).length=len:=by simp;omega
 let f:V->ai:=V.byte
 have key:∀ j (i:j<len),∃ x:ai,((B.cs.drop o).take len)[j]?=some (.u8 x)/\rs[j]?=some (.int .u8 x.toNat):=fun j i=>by
  obtain⟨x,c⟩:=hu _ (dd (by omega :j<((B.cs.drop o).take len).length));have h1:((B.cs.drop o).take len)[j]?=some (.u8 x):=by rw[aF aa,c]
  obtain⟨r,h2,k⟩:=g1.get h1;unfold VR at k;subst k;exact⟨x,h1,h2⟩
 have g:((((B.cs.drop o).take len).map f).map UInt8.ofBitVec).length=len:=by simp;omega
 have l:=run_convert_bytes_back (P:=P) w s d e a cap ((((B.cs.drop o).take len).map f).map UInt8.ofBitVec) m n p (fun j i=>by
  have h:j<len:=aa;obtain⟨x,h1,h2⟩:=key j h;obtain⟨rfl,_⟩:=z aa;rw[Addr.add_mid,g2 j _ h2];have C:((B.cs.drop o).take len)[j]'(aa)= .u8 x:=by rw[aF aa] at h1;injection h1
  simp only[rS,C];rfl)
 rw[g] at l;exact⟨_,l,by unfold VR;exact⟨_,rfl,Hf _⟩⟩
end
end Go.Vm
