/- Every operation that 'vop' knows: the machine does just that ('vop_sound'). -/
import Derived.Laws.Slices
import Derived.Lib.Strings
import Derived.Test.YtidjknjilnopnaaGreatDoorVmHToVmI
set_option linter.unusedVariables false
set_option linter.unusedSimpArgs false
set_option maxRecDepth 20000
set_option maxHeartbeats 8000000
namespace Go.Vm
section
variable {ρ:Nat->Nat×Nat}{dom:Nat->Prop}{P:Program}{w:World}{get get0:Nat->Option aa}{nid:Nat}
theorem CJ {t e:TypeId}(h:nf P t=some e):P.underlying t=some (.slice e):=by
 unfold nf at h;split at h
 .rename_i a;injection h with h;subst h;exact a
 .cases h
theorem ai0 {t e:TypeId}{n:Nat}(h:CC P t=some (n,e)):P.underlying t=some (.array n e):=by
 unfold CC at h;split at h
 .rename_i a;injection h with h;simp only[lW] at h;obtain⟨rfl,rfl⟩:=h;exact a
 .cases h
theorem uB {t:TypeId}{n:Nat}(h:bU P t=some n):(sizeOf t).run P w= .ok n w:=by
 unfold bU at h;cases hi:P.info? t with
 |none=>rw[hi] at h;cases h
 |some i=>rw[hi] at h;injection h with h;simp[sizeOf,typeInfo,hi,h]
theorem Lg {t:TypeId}{b:Bool}(h:cL P t=some b):(isAgg t).run P w= .ok b w:=by
 obtain⟨d,c,a⟩:=RT h;unfold isAgg;rw[dx,dS c w];cases d<;>simp_all
def vu (ρ:Nat->Nat×Nat)(dom:Nat->Prop)(w:World)(x:Option V)(r:Option Value):Prop:=(x=none/\r=none)\/∃ v u,x=some v/\r=some u/\VR ρ dom w v u
theorem EW {isS:Bool}{len cap:Nat}{lo hi:Option V}{d f:Option Value}{l h:Int}(a:rU lo=some l)(b:sH len hi=some h)(h0:0<=l)(h1:l<=h)(h2:h<=len)(hc:len<=cap)
  (el:vu ρ dom w lo d) (c:vu ρ dom w hi f):
  (Instr.sliceBounds isS len cap d f none).run P w= .ok (l.toNat,h.toNat,cap) w:=by
 rcases el with⟨rfl,rfl⟩|⟨v,u,rfl,rfl,el⟩<;>rcases c with⟨rfl,rfl⟩|⟨j,i,rfl,rfl,c⟩
 .simp only[rU,sH,eg] at a b;subst a;subst b;simp[Instr.sliceBounds]
 .simp only[rU,eg] at a;subst a;obtain⟨k,rfl⟩:=wS (show j.nat?=some h from b) c;simp[Instr.sliceBounds,run_sliceBound (P:=P) w k h cap _ I I]
 .simp only[sH,eg] at b;subst b;obtain⟨k,rfl⟩:=wS (show v.nat?=some l from a) el;simp[Instr.sliceBounds,run_sliceBound (P:=P) w k l len _ I I]
 .obtain⟨k,rfl⟩:=wS (show v.nat?=some l from a) el;obtain⟨g,rfl⟩:=wS (show j.nat?=some h from b) c;have e:=run_sliceBound (P:=P) w k l h.toNat .sliceB I I;simp[Instr.sliceBounds,run_sliceBound (P:=P) w g h cap _ I I,e]
theorem Vp (b:ByteArray)(l h:Nat):bytesOf (b.extract l h)=((bytesOf b).take h).drop l:=by
 unfold bytesOf;rw[Lib.extract_data,<-sS,<-ve,AV]
theorem ad1 {t:TypeId}{s:Z}{j:Value}{lo hi:Option V}{a c:Option Value}{l h:Int}(ht:P.underlying t=some .string)(d:VR ρ dom w (.str s) j)
  (f:rU lo=some l) (g:sH s.length hi=some h) (h0:0<=l) (h1:l<=h) (h2:h<=s.length)
  (el:vu ρ dom w lo a) (i:vu ρ dom w hi c):
  ∃ r,(Instr.sliceAt t j a c none).run P w= .ok r w/\VR ρ dom w (.str ((s.take h.toNat).drop l.toNat)) r:=by
 unfold VR at d;obtain⟨b,rfl,rfl⟩:=d;have e:=EW (P:=P) (isS:=false) (cap:=(bytesOf b).length) f g h0 h1 h2 (bz _) el i;rw[pR] at e;refine⟨.string (b.extract l.toNat h.toNat),?_,by unfold VR;exact⟨_,rfl,Vp b _ _⟩⟩;simp[Instr.sliceAt,dS ht,Instr.slice,e]
theorem agT {t e:TypeId}{b o len c:Nat}{z:Value}{lo hi:Option V}{g i:Option Value}{l h:Int}(ht:P.underlying t=some (.slice e))(m:bU P e=some c)(k:VR ρ dom w (.slice b o len c) z)
  (n:rU lo=some l) (p:sH len hi=some h) (h0:0<=l) (h1:l<=h) (h2:h<=len)
  (el:vu ρ dom w lo g) (q:vu ρ dom w hi i):
  ∃ r,(Instr.sliceAt t z g i none).run P w= .ok r w/\VR ρ dom w (.slice b (o+l.toNat*c) (h-l).toNat c) r:=by
 unfold VR at k;obtain⟨s,a,cap,rfl,d,u⟩:=k;have v:=EW (P:=P) (isS:=true) (cap:=cap) n p h0 h1 h2 d el q;refine⟨.slice (some (if cap=l.toNat then a else a.add (l.toNat*c))) (h.toNat-l.toNat) (cap-l.toNat),?_,?_⟩
 .simp[Instr.sliceAt,dS ht,Instr.slice,v,uB m];split <;>rfl
 .unfold VR;refine⟨s,_,cap-l.toNat,by rw[show h.toNat-l.toNat=(h-l).toNat by omega],I,fun A=>?_⟩;rw[aq I];obtain⟨rfl,f⟩:=u I;rw[xU];refine⟨by rw[qe],fun j x=>?_⟩;have :l.toNat*c+j<cap*c:=by
   have y:(cap-l.toNat)*c+l.toNat*c=cap*c:=by rw[<-As];congr 1;omega
   omega
  have :=f (l.toNat*c+j) this;rw[show(ρ b).2+o+(l.toNat*c+j)=(ρ b).2+(o+l.toNat*c)+j by omega] at this;exact this
theorem aei {t e:TypeId}{b o n s:Nat}{cs:List V}{x:Value}{lo hi:Option V}{c d:Option Value}{l h:Int}(ht:P.underlying t=some (.array n e))(i:bU P e=some s)(y:bS ρ dom get w)(f:get b=bK cs)
  (g:VR ρ dom w (.ptr b o) x) (k:rU lo=some l) (m:sH n hi=some h) (h0:0<=l) (h1:l<=h) (h2:h<=n) (z:o+n*s<=cs.length)
  (el:vu ρ dom w lo c) (p:vu ρ dom w hi d):
  ∃ r,(Instr.sliceAt t x c d none).run P w= .ok r w/\VR ρ dom w (.slice b (o+l.toNat*s) (h-l).toNat s) r:=by
 unfold VR at g;obtain⟨q,rfl⟩:=g;have a:=EW (P:=P) (isS:=false) (cap:=n) k m h0 h1 h2 (bz _) el p;refine⟨.slice (some (if n=l.toNat then⟨(ρ b).1,(ρ b).2+o,none⟩ else(⟨(ρ b).1,(ρ b).2+o,none⟩:Addr).add (l.toNat*s))) (h.toNat-l.toNat) (n-l.toNat),?_,?_⟩
 .simp[Instr.sliceAt,dS ht,Instr.sureAddr,a,uB i]
 .unfold VR;refine⟨q,_,n-l.toNat,by rw[show h.toNat-l.toNat=(h-l).toNat by omega],I,fun C=>?_⟩;rw[aq I,xU];refine⟨by rw[qe],fun j u=>?_⟩;have v:(n-l.toNat)*s+l.toNat*s=n*s:=by rw[<-As];congr 1;omega
  obtain⟨r,B,_⟩:=y.cell b _ f (o+l.toNat*s+j) (cs[o+l.toNat*s+j]'(I)) (by show cs[o+l.toNat*s+j]?=_;rw[bn]);have A:=y.free b _ f rfl (o+l.toNat*s+j) (by show _<cs.length;omega);rw[show(ρ b).2+(o+l.toNat*s)+j=(ρ b).2+(o+l.toNat*s+j) by omega];exact⟨by rw[B];rfl,A⟩
theorem JN (b o j:Nat):(⟨b,o,none⟩:Addr).add j=⟨b,o+j,none⟩:=xU b o j
theorem aeW {t e:TypeId}{b o n s:Nat}{j c:Value}{d:V}{i:Int}(ht:P.underlying t=some (.array n e))(g:bU P e=some s)(f:VR ρ dom w (.ptr b o) j)(hi:d.nat?=some i)(a:VR ρ dom w d c)(h0:0<=i)(h1:i<n):
  ∃ r,(Instr.indexAt t j c).run P w= .ok r w/\VR ρ dom w (.ptr b (o+i.toNat*s)) r:=by
 unfold VR at f;obtain⟨h,rfl⟩:=f;obtain⟨k,rfl⟩:=wS hi a;refine⟨.pointer (some ⟨(ρ b).1,(ρ b).2+(o+i.toNat*s),none⟩),?_,by unfold VR;exact⟨h,rfl⟩⟩;simp[Instr.indexAt,asIntOf,dS ht,Instr.sureAddr,h0,h1,uB g,JN,qe]
theorem aeZ {t e:TypeId}{b o len s:Nat}{n d:Value}{f:V}{i:Int}(ht:P.underlying t=some (.slice e))(h:bU P e=some s)(g:VR ρ dom w (.slice b o len s) n)(hi:f.nat?=some i)(c:VR ρ dom w f d)(h0:0<=i)(h1:i<len):
  ∃ r,(Instr.indexAt t n d).run P w= .ok r w/\VR ρ dom w (.ptr b (o+i.toNat*s)) r:=by
 unfold VR at g;obtain⟨j,a,p,rfl,l,m⟩:=g;obtain⟨rfl,_⟩:=m I;obtain⟨k,rfl⟩:=wS hi c;refine⟨.pointer (some ⟨(ρ b).1,(ρ b).2+(o+i.toNat*s),none⟩),?_,by unfold VR;exact⟨j,rfl⟩⟩;simp[Instr.indexAt,asIntOf,dS ht,h0,h1,uB h,JN,qe]
theorem abC {t:TypeId}{cs:List V}{c:Array Value}{off s:Nat}{bb:Bool}(ht:cL P t=some bb)(b:bU P t=some s)(a:ao ρ dom w cs c.toList):
  if bb then ∃ r,(part t c off).run P w= .ok r w/\VR ρ dom w (.agg ((cs.drop off).take s)) r
  else(off<cs.length->∃ r,(part t c off).run P w= .ok r w/\VR ρ dom w (cs.getD off .bH) r):=by
 cases bb
 .simp only[fh,fH];intro d;obtain⟨r,e,f⟩:=a.get (i:=off) (v:=cs.getD off .bH) (by rw[bY];simp[d]);refine⟨r,?_,f⟩;have :c[off]?=some r:=by rw[<-e];simp
  simp[part,Lg ht,this]
 .simp only[eJ];refine⟨.agg (c.extract off (off+s)),by simp[part,Lg ht,uB b],?_⟩;unfold VR;refine⟨_,rfl,?_⟩;have :=(a.drop off).take s;simpa using this
theorem On {t e:TypeId}{n s:Nat}{cs:List V}{l b:Value}{g:V}{i:Int}{bb:Bool}(ht:P.underlying t=some (.array n e))(j:cL P e=some bb)(c:bU P e=some s)(a:VR ρ dom w (.agg cs) l)(hi:g.nat?=some i)(d:VR ρ dom w g b)(h0:0<=i)(h1:i<n):
  if bb then ∃ r,(Instr.index t l b).run P w= .ok r w/\VR ρ dom w (.agg ((cs.drop (i.toNat*s)).take s)) r
  else(i.toNat*s<cs.length->∃ r,(Instr.index t l b).run P w= .ok r w/\VR ρ dom w (cs.getD (i.toNat*s) .bH) r):=by
 unfold VR at a;obtain⟨p,rfl,a⟩:=a;obtain⟨k,rfl⟩:=wS hi d;have h:=abC (off:=i.toNat*s) j c a;cases bb
 .simp only[fh,fH] at h |-
  intro o;obtain⟨r,m,f⟩:=h o;exact⟨r,by simp[Instr.index,asIntOf,dS ht,h0,h1,uB c,m],f⟩
 .simp only[eJ] at h |-
  obtain⟨r,m,f⟩:=h;exact⟨r,by simp[Instr.index,asIntOf,dS ht,h0,h1,uB c,m],f⟩
theorem afV {t:TypeId}{s:Z}{h d:Value}{e:V}{i:Int}(ht:P.underlying t=some .string)(f:VR ρ dom w (.str s) h)(hi:e.nat?=some i)(c:VR ρ dom w e d)(h0:0<=i)(h1:i<s.length):
  ∃ r,(Instr.index t h d).run P w= .ok r w/\VR ρ dom w (.u8 (s.getD i.toNat 0)) r:=by
 unfold VR at f;obtain⟨b,rfl,rfl⟩:=f;obtain⟨k,rfl⟩:=wS hi c;have a:i.toNat<b.size:=by rw[pR] at h1;omega
 refine⟨.int .u8 (b[i.toNat]'a).toNat,?_,?_⟩
 .simp[Instr.index,asIntOf,dS ht,h0,ByteArray.getElem?_lt' b _ a]
 .unfold VR;congr 1;have :(bytesOf b).getD i.toNat 0=(b[i.toNat]'a).toBitVec:=by
   unfold bytesOf;rw[bY,dU];have g:i.toNat<b.data.toList.length:=by rw[CI];exact a
   rw[bn g];rfl
  rw[this];rfl
theorem ag0 {s d e:TypeId}{l:Z}{q:Value}(k:P.underlying s=some .string)(m:P.underlying d=some (.slice e))(t:P.underlying e=some (.int .u8))(g:VR ρ dom w (.str l) q)(u:bS ρ dom get w)(n:¬ dom nid):
  bF P (do pure (.value (<-convert s d q)):Sem Next) w ρ dom get nid {v:= .slice nid 0 l.length 1,news:=[bK (l.map .u8)]}:=by
 unfold VR at g;obtain⟨b,rfl,rfl⟩:=g;have o:=run_bytes_of_string (P:=P) w s d e b k m t;have f:b.size<=grownCap w b.size 0 e:=ut _ _;have a:(bytesRow b (grownCap w b.size 0 e)).size=grownCap w b.size 0 e:=by
  unfold bytesRow;have :b.data.size=b.size:=rfl;simp[this];omega
 refine bF.fresh (w1:=w.drew) (c:=bytesRow b (grownCap w b.size 0 e)) (e:=e) (fz:=(_,_)) (cs:=(bytesOf b).map .u8) u (Alike.drew w) n (by rw[dx,o];rfl) (fun i v j=>?_) (fun i p h=>?_) (by rw[pR];exact Dp _ _ _ _ _ _ rfl f (by rw[a];omega) (fun i p h=>by rw[a] at h;omega)) rfl rfl
 .have p:i<b.data.size:=by
   have :=(cA.1 j).1;simp[pR] at this;exact this
  obtain⟨r,x,y⟩:=(IT (ρ:=ρ) (dom:=dom) (w:=w) b).get j;refine⟨r,?_,y⟩;rw[bytesRow_at b _ i p,<-x];unfold byteCells;simp[uw p]
 .rw[a] at h;simp[pR] at p;omega
theorem Y1 {s d e:TypeId}{b o len:Nat}{B:aa}{E:Value}(m:P.underlying s=some (.slice e))(G:P.underlying e=some (.int .u8))(n:P.underlying d=some .string)(H:bS ρ dom get w)(p:get b=some B)(K:o+len<=B.cs.length)
  (L:∀ v∈(B.cs.drop o).take len,∃ x,v= .u8 x) (c:VR ρ dom w (.slice b o len 1) E):
  ∃ r,(convert s d E).run P w= .ok r w/\VR ρ dom w (.str (((B.cs.drop o).take len).map V.byte)) r:=by
 unfold VR at c;obtain⟨_,a,C,rfl,q,t⟩:=c;obtain⟨N,F,O⟩:=H.range p o len;have y:=F.length;have u:((B.cs.drop o).take len).length=len:=cp
 let f:V->zH:=V.byte
 have A:∀ j (i:j<len),∃ x:zH,((B.cs.drop o).take len)[j]?=some (.u8 x)/\N[j]?=some (.int .u8 x.toNat):=fun j i=>by
  obtain⟨x,c⟩:=L _ (eM (by omega :j<((B.cs.drop o).take len).length));have z:((B.cs.drop o).take len)[j]?=some (.u8 x):=by rw[bn I,c]
  obtain⟨r,D,k⟩:=F.get z;unfold VR at k;subst k;exact⟨x,z,D⟩
 have g:((((B.cs.drop o).take len).map f).map UInt8.ofBitVec).length=len:=cp;have l:=run_convert_bytes_back (P:=P) w s d e a C ((((B.cs.drop o).take len).map f).map UInt8.ofBitVec) m G n (fun j i=>by
  have h:j<len:=I;obtain⟨x,z,D⟩:=A j h;obtain⟨rfl,_⟩:=t I;rw[xU,O j _ D];have M:((B.cs.drop o).take len)[j]'(I)= .u8 x:=by rw[bn I] at z;injection z
  simp only[wq,M];rfl)
 rw[g] at l;exact⟨_,l,by unfold VR;exact⟨_,rfl,Ro _⟩⟩
end
end Go.Vm
