/- Proved: laws of a machine of values; no conditions but each theorem's own. -/
import Derived.Shelf.Strings.Repeat
import Derived.Test.YtidjknjilnopnaaGreatDoorHeadToShA
set_option linter.unusedVariables false
set_option linter.unusedSimpArgs false
set_option maxRecDepth 20000
set_option maxHeartbeats 8000000
section
namespace Go.Vm
open Go.Proofs Go.Shelf
section
def lG:Go.Shelf.Ren:=⟨fun |105=>36|212=>55|99=>56|165=>57|166=>58|170=>59|169=>60|263=>83|264=>84|206=>85|240=>86|241=>87|276=>116|277=>117|n=>n,fun |9=>9|3=>3|4=>4|20=>20|0=>0|46=>38|109=>121|5=>5|72=>126|76=>130|51=>29|146=>160|53=>81|148=>162|70=>124|37=>66|75=>129|127=>164|164=>210|80=>108|n=>n,fun |n=>n⟩
theorem vD:Go.Proofs.Lays.n105 Tryz.prog lG:={
 mixed:=U
 f99:=Tryz.func56.trans (dN some U)
 f105:=Tryz.func36.trans (dN some U)
 f165:=Tryz.func57.trans (dN some U)
 f166:=Tryz.func58.trans (dN some U)
 f169:=Tryz.func60.trans (dN some U)
 f170:=Tryz.func59.trans (dN some U)
 f206:=Tryz.func85.trans (dN some U)
 f212:=Tryz.func55.trans (dN some U)
 f240:=Tryz.func86.trans (dN some U)
 f241:=Tryz.func87.trans (dN some U)
 f263:=Tryz.func83.trans (dN some U)
 f264:=Tryz.func84.trans (dN some U)
 f276:=Tryz.func116.trans (dN some U)
 f277:=Tryz.func117.trans (dN some U)
 t0:=Tryz.underlying0
 a0:=Tryz.isAgg0
 z0:=Tryz.sizeOf0
 v0:=Tryz.zeroValue0
 t3:=Tryz.underlying3
 a3:=Tryz.isAgg3
 z3:=Tryz.sizeOf3
 v3:=Tryz.zeroValue3
 t4:=Tryz.underlying4
 a4:=Tryz.isAgg4
 z4:=Tryz.sizeOf4
 v4:=Tryz.zeroValue4
 t5:=Tryz.underlying5
 a5:=Tryz.isAgg5
 z5:=Tryz.sizeOf5
 v5:=Tryz.zeroValue5
 t9:=Tryz.underlying9
 a9:=Tryz.isAgg9
 z9:=Tryz.sizeOf9
 v9:=Tryz.zeroValue9
 t20:=Tryz.underlying20
 a20:=Tryz.isAgg20
 z20:=Tryz.sizeOf20
 v20:=Tryz.zeroValue20
 t37:=Tryz.underlying66
 a37:=Tryz.isAgg66
 z37:=Tryz.sizeOf66
 v37:=Tryz.zeroValue66
 t46:=Tryz.underlying38
 a46:=Tryz.isAgg38
 z46:=Tryz.sizeOf38
 v46:=Tryz.zeroValue38
 t51:=Tryz.underlying29
 a51:=Tryz.isAgg29
 z51:=Tryz.sizeOf29
 v51:=Tryz.zeroValue29
 t53:=Tryz.underlying81
 a53:=Tryz.isAgg81
 z53:=Tryz.sizeOf81
 v53:=Tryz.zeroValue81
 t70:=Tryz.underlying124
 a70:=Tryz.isAgg124
 z70:=Tryz.sizeOf124
 v70:=Tryz.zeroValue124
 t72:=Tryz.underlying126
 a72:=Tryz.isAgg126
 z72:=Tryz.sizeOf126
 v72:=Tryz.zeroValue126
 t75:=Tryz.underlying129
 a75:=Tryz.isAgg129
 z75:=Tryz.sizeOf129
 v75:=Tryz.zeroValue129
 t76:=Tryz.underlying130
 a76:=Tryz.isAgg130
 z76:=Tryz.sizeOf130
 v76:=Tryz.zeroValue130
 t109:=Tryz.underlying121
 a109:=Tryz.isAgg121
 z109:=Tryz.sizeOf121
 v109:=Tryz.zeroValue121
 t127:=Tryz.underlying164
 a127:=Tryz.isAgg164
 z127:=Tryz.sizeOf164
 v127:=Tryz.zeroValue164
 t146:=Tryz.underlying160
 a146:=Tryz.isAgg160
 z146:=Tryz.sizeOf160
 v146:=Tryz.zeroValue160
 t148:=Tryz.underlying162
 a148:=Tryz.isAgg162
 z148:=Tryz.sizeOf162
 v148:=Tryz.zeroValue162
 t164:=Tryz.underlying210
 a164:=Tryz.isAgg210
 z164:=Tryz.sizeOf210
 v164:=Tryz.zeroValue210}
theorem Gl:Builder.Extra Tryz.prog lG:={
 sizeBuilder:=U
 liesBuilder:=U
 t5:=Tryz.underlying5
 a5:=Tryz.isAgg5
 z5:=Tryz.sizeOf5
 v5:=Tryz.zeroValue5
 infoByte:=U
 cellsByte:=U
 sizeByte:=U
 neB5:=by decide}
open Go.RowKit Go.Lib in
theorem aeC (s:ByteArray)(c:Nat)(w:World)(hc:c<=9223372036854775807)(a:s.size*c<=140737488355328):
  Calls Tryz.prog 36 #[.string s,.int .i64 c] w fun e w'=>e= .returned (.string ⟨(Lib.repeatL s.data.toList c).toArray⟩)/\Below w.heap.size w w':=Any.strings_Repeat vD Gl s c w hc a
end
end Go.Vm
end
section
namespace Go.Vm
open Go.Proofs Go.Proofs.Tryz
def xw (s:Z):Z:=s++List.replicate ((16-s.length%16)%16) 0
theorem DY (s:Z):(xw s).length=16*((s.length+15)/16):=by unfold xw;rw[bA,kV];omega
theorem acw (k:Nat):∀ (l:List UInt8),l.map UInt8.toBitVec=[0#8]->(Lib.repeatL l k).map UInt8.toBitVec=List.replicate k 0#8:=by
 intro l h;induction k with
 |zero=>rfl
 |succ k ih=>rw[Lib.repeatL,lw,ih,h,vZ];rfl
theorem yF (k:Nat)(l:k<=1000):bE prog 36 [.str [0#8],.i64 k] (.str (List.replicate k 0#8)):=by
 refine QT U bT uQ fun w a c=>?_
 unfold ao at c;obtain⟨q,r,m,n,c⟩:=c;unfold ao at c;obtain⟨s,h,i,o,c⟩:=c;unfold ao at c;unfold VR at n o;obtain⟨b,rfl,g⟩:=n;subst o c i;have j:a=#[.string b,.int .i64 k]:=by cases a;simp_all
 subst j;have d:b.size=1:=by
  have :=dN List.length g;unfold bytesOf at this;rw[cq,CI] at this;exact this
 refine(aeC b k w I (by rw[d];omega)).mono ?_;rintro e p ⟨rfl,f⟩;refine⟨_,rfl,?_,f⟩;unfold VR;exact⟨_,rfl,acw k _ g⟩
def oB (b:Z)(many:Int)(v:V):Prop:=(v= .aZ [.str [],.i64 1]/\(many<1\/32<many\/32<b.length))\/(1<=many/\many<=32/\b.length<=32/\∃ o:Z,(o.length:Int)=many/\v= .aZ [.str o,.i64 0])
theorem oB.low {a:Z}{many:Int}{v:V}(h:oB a many v):v.low 0:=by
 rcases h with⟨rfl,-⟩|⟨-,-,-,o,-,rfl⟩<;>simp[V.low,lows]
theorem Px (c s0:Z)(many:Int)(M:c.length<=1099511627776)(H:s0.length<=1099511627776):∃ v,bE prog 74 [.str c,.str s0,.i64 many] v/\oB c many v:=by
 by_cases u:many<1
 .refine nN (Post:=oB c many) U U func74 rfl db bT (fun v h=>h.low) (ce ?_);refine qc2 u ?_;exact .inl ⟨rfl,I⟩
 by_cases w:32<many
 .refine nN (Post:=oB c many) U U func74 rfl db bT (fun v h=>h.low) (ce ?_);refine qc4 u w ?_;exact .inl ⟨rfl,I⟩
 by_cases E:32<(c.length:Int)
 .refine nN (Post:=oB c many) U U func74 rfl db bT (fun v h=>h.low) (ce ?_);refine qc6 u w E ?_;exact .inl ⟨rfl,I⟩
 have F:bh (64-(c.length:Int))=((64-c.length:Nat):Int):=by rw[bC I I];omega
 refine nN (Post:=oB c many) U U func74 rfl db bT (fun v h=>h.low) (ce ?_);refine qc6 u w E ?_;refine jl (P3) ?_;rintro _ ⟨f,b,rfl⟩;simp only[go_sem,seval,-List.reduceReplicate,↓B8,b,dC,kV,cq,ll V.u32 0#32,qG,F];refine aE ?_
 refine V3 (fun s=>∃ (t:List (Nat×V)) (e:Z) (f:List aQ),f.length=8/\e.length<=2199023255552/\s=⟨t,[bK (f.map .u32)]⟩/\lookS t 1= .str e/\lookS t 2= .i64 many/\lookS t 8= .ptr 0 0/\lookS t 9= .u64 0#64) (fun q=>?_) ⟨_,s0,_,by rw[b7];exact b,I,rfl,rfl,rfl,rfl,rfl⟩ ?_
 .refine br (yF (64-c.length) I) (aG ?_)
  exact q _ ⟨_,_,_,by rw[b7];exact b,cp,rfl,rfl,rfl,rfl,rfl⟩
 clear b f F;rintro s ⟨t,e,f,b,k,rfl,z,A,B,C⟩;refine cG (fun j o=>∃ (e:Z) (f:List aQ) (x:aS),e.length=j/\e.length<=2199023255552/\f.length=8/\o=⟨[(1,.str e),(2,.i64 many),(8,.ptr 0 0),(9,.u64 x)],[bK (f.map .u32)]⟩) ?_ ?_
 .refine qL (e.length) [1,2,8,9] 1 J J (by simp[lowSl,St.get,V.low,-List.map_take,-List.map_drop,-List.map_map,-List.map_set,z,A,B,C]) (by simp[blksLow,-List.map_take,-List.map_drop,-List.map_map,-List.map_set]) ?_;simp only[hY,dD,gi,St.get,eU,iX,z,A,B,C];exact⟨_,_,_,rfl,k,b,rfl⟩
 clear k b z A B C t e f;rintro j o ⟨e,f,x,rfl,k,b,rfl⟩-;by_cases m:64<(e.length:Int)
 .simp only[go_sem,seval,-List.reduceReplicate,m,cq,b,bq (show f.length<=8 by omega)];refine aE ?_
  refine xe (Th f b (e.take 64) cp _ _) ?_;rintro _ ⟨a,rfl,d⟩;simp only[go_sem,seval,-List.reduceReplicate,dC,cq,b,d];refine aE ?_
  refine sv (e.length-64) [1,2,8,9] 1 I J J qz9 (by simp[blksLow,-List.map_take,-List.map_drop,-List.map_map,-List.map_set]) ?_;simp only[hY,dD,gi,St.get,lookS,seval,-List.reduceReplicate,eU,iX];exact⟨_,_,_,J,cp,d,rfl⟩
 have G:bh (64-(e.length:Int))=((64-e.length:Nat):Int):=by rw[bC I I];omega
 simp only[go_sem,seval,-List.reduceReplicate,m,cq,b,bq (show f.length<=8 by omega),G];refine aE ?_
 refine bZ (yF (64-e.length) I) (aG ?_)
 refine xe (Th f b _ cp _ _) ?_;rintro _ ⟨a,rfl,d⟩;simp only[go_sem,seval,-List.reduceReplicate,dC,cq,b,d,bq (show a.length<=8 by omega)];refine aE ?_
 obtain⟨p,rfl⟩:∃ p:Nat,many=(p:Int):=⟨many.toNat,I⟩;refine cG (fun j o=>∃ i:Nat,i+j=8/\((i=0/\o=⟨[(2,.i64 p),(8,.ptr 0 0),(72,.agg (a.map .u32)),(73,.i64 (0:Nat)),(10,.bG)],[bK (a.map .u32)]⟩)\/(0<i/\∃ l:Z,l.length=4*i/\o=⟨[(2,.i64 p),(8,.ptr 0 0),(72,.agg (a.map .u32)),(73,.i64 i),(10,.slice 1 0 l.length 1)],[bK (a.map .u32),bK (l.map .u8)]⟩))) ?_ ?_
 .refine qL (8) [2,8,72,73,10] 1 J J qz9 (by simp[blksLow,-List.map_take,-List.map_drop,-List.map_map,-List.map_set]) ?_;simp only[hY,dD,gi,St.get,lookS,seval,-List.reduceReplicate,eU,iX];exact⟨0,I,.inl ⟨rfl,akk⟩⟩
 clear k b m G e f x;rintro j o ⟨i,L,g⟩-;by_cases K:i<8
 .have n:(i:Int)<8:=I;have y:=iq (i:=i) I;rcases g with⟨rfl,rfl⟩|⟨D,l,r,rfl⟩
  .simp only[go_sem,seval,-List.reduceReplicate,cq,d,ll V.u32 0#32];refine aE ?_
   refine am [] (EX ((a.getD 0 0#32).setWidth 64)) ?_;refine qc0 ?_;exact lc (j-1) ⟨[(2,.i64 p),(8,.ptr 0 0),(72,.agg (a.map .u32)),(73,.i64 (0+1:Nat)),(10,.slice 1 0 (bX ((a.getD 0 0#32).setWidth 64).toNat 4).length 1)],[bK (a.map .u32),bK ((bX ((a.getD 0 0#32).setWidth 64).toNat 4).map .u8)]⟩ [0,1] I rfl J rfl ag (by simp[iC,St.get,lookS,dQ,-List.map_map,-List.map_set]) J ⟨0+1,I,.inr ⟨I,_,by simp[dQ],rfl⟩⟩
  .simp only[go_sem,seval,-List.reduceReplicate,n,cq,d,ll V.u32 0#32,K];refine aE ?_
   refine am [1] (JI l ((a.getD i 0#32).setWidth 64) I) ?_;refine qc2 y ?_;exact lc (j-1) ⟨[(2,.i64 p),(8,.ptr 0 0),(72,.agg (a.map .u32)),(73,.i64 (i+1:Nat)),(10,.slice 1 0 (l++bX ((a.getD i 0#32).setWidth 64).toNat 4).length 1)],[bK (a.map .u32),bK ((l++bX ((a.getD i 0#32).setWidth 64).toNat 4).map .u8)]⟩ [0,2] I rfl J rfl ag (by simp[iC,St.get,lookS,dQ,-List.map_map,-List.map_set]) J ⟨i+1,I,.inr ⟨I,_,by simp[dQ,r];omega,rfl⟩⟩
 have n:¬ (i:Int)<8:=I;rcases g with⟨rfl,rfl⟩|⟨D,l,r,rfl⟩
 .omega
 simp only[go_sem,seval,-List.reduceReplicate,n,cq];refine aE ?_
 exact .inr ⟨I,I,I,_,cp,rfl⟩
theorem eight {j:List aQ}(h:j.length=8):∃ a b c d e f g i:aQ,j=[a,b,c,d,e,f,g,i]:=by
 match j,h with
 |[a,b,c,d,e,f,g,i],_=>exact⟨a,b,c,d,e,f,g,i,rfl⟩
def iI (a b c d e f g i:aQ)(r:Z)(m:aS):List V:=[.u32 a,.u32 b,.u32 c,.u32 d,.u32 e,.u32 f,.u32 g,.u32 i,.str r,.u64 m]
def yE (n:Nat)(cs:List V):Prop:=∃ a b c d e f g i r m,cs=iI a b c d e f g i r m/\r.length<n
theorem aip (h:Nat->Nat)(a b c d e f g i:aQ)(r:Z)(m:aS):aW h (iI a b c d e f g i r m)=iI a b c d e f g i r m:=by simp[iI,aW,V.bd]
theorem V9 (n:Nat)(a b c d e f g i:aQ)(r:Z)(m:aS):lows n (iI a b c d e f g i r m)=True:=by simp[iI,lows,V.low]
attribute [go_sem, simp] aip V9
theorem aaa:∃ v h',bp prog 110 [] [] v h'/\(v= .ptr 0 0/\∃ cs,yE 1 cs/\h'=[bK cs]):=by
 refine kg (Post:=fun v h'=>v= .ptr 0 0/\∃ cs,yE 1 cs/\h'=[bK cs]) U func110 rfl db (ce (aH ?_));refine jl aac ?_;rintro _ ⟨j,h,rfl⟩;obtain⟨a,b,c,d,e,f,g,i,rfl⟩:=eight h;refine aG ?_
 refine⟨_,_,?_,Fin.take 1 J J uQ akw⟩;exact⟨rfl,_,⟨a,b,c,d,e,f,g,i,[],0#64,rfl,J⟩,rfl⟩
theorem aef (cs:List V)(h:yE 1 cs)(s:Z)(p:s.length<=4398046511104):∃ v h',bp prog 111 [.ptr 0 0,.str s] [bK cs] v h'/\(v= .aZ []/\∃ cs,yE 64 cs/\h'=[bK cs]):=by
 obtain⟨a,b,c,d,e,f,g,i,r,m,rfl,o⟩:=h;refine kg (Post:=fun v h'=>v= .aZ []/\∃ cs,yE 64 cs/\h'=[bK cs]) U func111 rfl db (ce ?_);simp only[go_sem,seval,iI];refine aE ?_
 refine cG (fun j n=>∃ (a b c d e f g i:aQ) (r:Z) (m:aS),r.length=j/\r.length<=8796093022208/\n=⟨[(0,.ptr 0 0)],[bK (iI a b c d e f g i r m)]⟩) ?_ ?_
 .refine qL ((r++s).length) [0] 1 J J akl akw ?_;simp only[hY,dD,gi,St.get,lookS,seval,eU,iX];exact⟨a,b,c,d,e,f,g,i,_,_,rfl,cp,rfl⟩
 clear o r a b c d e f g i m;rintro j n ⟨a,b,c,d,e,f,g,i,r,m,rfl,o,rfl⟩-;by_cases k:(64:Int)<=(r.length:Int)
 .simp only[go_sem,seval,iI,k];refine aE ?_
  refine xe (Oa [a,b,c,d,e,f,g,i] rfl (r.take 64) cp) ?_;rintro _ ⟨p,l,rfl⟩;obtain⟨a,b,c,d,e,f,g,i,rfl⟩:=eight l;refine aG ?_
  refine sv (r.length-64) [0] 1 I J J akl akw ?_;simp only[hY,dD,gi,St.get,lookS,seval,eU,iX];exact⟨a,b,c,d,e,f,g,i,_,_,J,cp,rfl⟩
 .simp only[go_sem,seval,iI,k];refine⟨_,_,?_,Fin.take 1 J J (by simp[jv,lows,V.low]) akw⟩;exact⟨rfl,_,⟨a,b,c,d,e,f,g,i,r,m,rfl,I⟩,rfl⟩
theorem adh (cs:List V)(h:yE 64 cs):∃ v h',bp prog 112 [.ptr 0 0] [bK cs] v h'/\(∃ o:Z,o.length=32/\v= .str o/\h'=[bK cs]):=by
 obtain⟨a,b,c,d,e,f,g,i,r,m,rfl,X⟩:=h;refine kg (Post:=fun v h'=>∃ o:Z,o.length=32/\v= .str o/\h'=[bK (iI a b c d e f g i r m)]) U func112 rfl db (ce ?_);simp only[go_sem,seval,iI,cq];refine aE ?_
 refine cG (fun j t=>∃ (l:Z),(l.length+j)%64=56/\j<64/\l.length+j<=192/\t=⟨[(0,.ptr 0 0),(3,.slice 1 0 l.length 1)],[bK (iI a b c d e f g i r m),bK (l.map .u8)]⟩) ?_ ?_
 .exact QO ((120-(r.length+1))%64) ⟨[(0,.ptr 0 0),(3,.slice 1 0 (r++[128#8]).length 1)],[bK (iI a b c d e f g i r m),bK ((r++[128#8]).map .u8)]⟩ [0,3] rfl J rfl ag (by simp[iC,St.get,lookS]) (by simp[iI]) ⟨_,cp,I,cp,rfl⟩
 clear X;rintro j t ⟨l,K,L,M,rfl⟩-;by_cases S:l.length%64=56
 .have s:(l.length:Int).tmod 64=56:=by rw[II I];omega
  simp only[go_sem,seval,s,iI];refine aE ?_
  refine am [1] (D2 l (8#64*m) I) (aG ?_)
  refine And.intro (by rw[fD];omega) ?_;refine cG (fun j t=>∃ (q:Z) (y z A B C D E F:aQ),q.length=j/\q.length%64=0/\q.length<=200/\t=⟨[(0,.ptr 0 0),(4,.ptr 2 0),(5,.str q)],[bK (iI a b c d e f g i r m),none,bK [.u32 y,.u32 z,.u32 A,.u32 B,.u32 C,.u32 D,.u32 E,.u32 F]]⟩) ?_ ?_
  .refine qL ((List.take (l.length+8) (l++cK (8#64*m).toNat 8)).length) [0,4,5] 3 J J akl akw ?_;simp only[hY,dD,gi,St.get,lookS,seval,eU,iX];exact⟨_,_,_,_,_,_,_,_,_,rfl,by simp[fD];omega,by simp[fD];omega,rfl⟩
  clear S s K L M l;rintro j t ⟨q,y,z,A,B,C,D,E,F,rfl,N,O,rfl⟩-;by_cases G:q=[]
  .subst G;simp only[go_sem,seval,iI];obtain⟨n,u,R⟩:∃ n:List aQ,n.length=8/\[V.u32 y,V.u32 z,V.u32 A,V.u32 B,V.u32 C,V.u32 D,V.u32 E,V.u32 F]=n.map V.u32:=⟨[y,z,A,B,C,D,E,F],rfl,rfl⟩;rw[R];refine cG (fun j t=>∃ k:Nat,k+j=8/\((k=0/\t=⟨[(43,.agg (n.map .u32)),(44,.i64 (0:Nat)),(6,.bG)],[bK (iI a b c d e f g i r m)]⟩)\/(0<k/\∃ l:Z,l.length=4*k/\t=⟨[(43,.agg (n.map .u32)),(44,.i64 k),(6,.slice 1 0 l.length 1)],[bK (iI a b c d e f g i r m),bK (l.map .u8)]⟩))) ?_ ?_
   .refine qL (8) [43,44,6] 1 J J akl akw ?_;simp only[hY,dD,gi,St.get,lookS,seval,eU,iX];exact⟨0,I,.inl ⟨rfl,rfl⟩⟩
   clear N O R;rintro j t ⟨k,W,p⟩-;by_cases T:k<8
   .have w:(k:Int)<8:=I;have H:=iq (i:=k) I;rcases p with⟨rfl,rfl⟩|⟨P,l,x,rfl⟩
    .simp only[go_sem,seval,cq,u,ll V.u32 0#32];refine aE ?_
     refine am [] (Mc ((n.getD 0 0#32).setWidth 64)) (aH ?_);exact lc (j-1) ⟨[(43,.agg (n.map .u32)),(44,.i64 (0+1:Nat)),(6,.slice 1 0 (cK ((n.getD 0 0#32).setWidth 64).toNat 4).length 1)],[bK (iI a b c d e f g i r m),bK ((cK ((n.getD 0 0#32).setWidth 64).toNat 4).map .u8)]⟩ [0,1] I rfl J rfl ag (by simp[iC,St.get,lookS,fD]) (by simp[iI]) ⟨0+1,I,.inr ⟨I,_,by simp[fD],rfl⟩⟩
    .simp only[go_sem,seval,w,cq,u,ll V.u32 0#32,T];refine aE ?_
     refine am [1] (DT l ((n.getD k 0#32).setWidth 64) I) ?_;refine aL H ?_;exact lc (j-1) ⟨[(43,.agg (n.map .u32)),(44,.i64 (k+1:Nat)),(6,.slice 1 0 (l++cK ((n.getD k 0#32).setWidth 64).toNat 4).length 1)],[bK (iI a b c d e f g i r m),bK ((l++cK ((n.getD k 0#32).setWidth 64).toNat 4).map .u8)]⟩ [0,2] I rfl J rfl ag (by simp[iC,St.get,lookS,fD]) (by simp[iI]) ⟨k+1,I,.inr ⟨I,_,by simp[fD,x];omega,rfl⟩⟩
   have w:¬ (k:Int)<8:=I;rcases p with⟨rfl,rfl⟩|⟨P,l,x,rfl⟩
   .omega
   refine g9 w ?_;refine aE ?_
   refine⟨_,_,?_,Fin.take 1 J J uQ (by simp[blksLow])⟩;refine⟨_,?_,rfl,rfl⟩;rw[x];omega
  .have Q:0<q.length:=uS.2 G;refine aL G ?_;refine aE ?_
   refine xe (Oa [y,z,A,B,C,D,E,F] rfl (q.take 64) cp) ?_;rintro _ ⟨n,u,rfl⟩;obtain⟨y,z,A,B,C,D,E,F,rfl⟩:=eight u;refine aG ?_
   refine sv (q.length-64) [0,4,5] 3 I J J akl (by simp[blksLow,lows,V.low,iI]) ?_;simp only[hY,dD,gi,St.get,lookS,seval,eU,iX,iI];exact⟨_,_,_,_,_,_,_,_,_,J,cp,cp,rfl⟩
 .have s:¬ (l.length:Int).tmod 64=56:=by rw[II I];omega
  refine g9 s ?_;refine aE ?_
  exact lc (j-1) ⟨[(0,.ptr 0 0),(3,.slice 1 0 (l++[0#8]).length 1)],[bK (iI a b c d e f g i r m),bK ((l++[0#8]).map .u8)]⟩ [0,3] I rfl J rfl ag (by simp[iC,St.get,lookS]) (by simp[iI]) ⟨_,cp,I,cp,rfl⟩
theorem Xo (s:Z)(b:s.length<=4398046511104):∃ v,bE prog 75 [.str s] v/\∃ o:Z,o.length=32/\v= .str o:=by
 obtain⟨_,_,c,rfl,l,j,rfl⟩:=aaa;obtain⟨_,_,m,rfl,d,k,rfl⟩:=aef l j s b;obtain⟨_,_,a,o,n,rfl,rfl⟩:=adh d k;obtain⟨p,q,r,e,f1,t,u,w,x,y,rfl,-⟩:=j;obtain⟨z,f,A,g,f2,B,C,D,E,i,rfl,-⟩:=k;refine nN (Post:=fun v=>∃ o:Z,o.length=32/\v= .str o) U U func75 rfl db bT (fun v h=>by first|(obtain⟨s,rfl,h⟩:=h;simp[lows,V.low])|(obtain⟨s,h,rfl⟩:=h;simp[V.low])) (ce ?_);refine aH ?_;refine am [] c (aH ?_);refine am [0] m (aH ?_);refine am [0] a (aH ?_);exact⟨o,n,rfl⟩
def Xm (f:V):Prop:=∃ n,f= .fn n [] []/\∀ s:Z,s.length<=1099511627776->∃ v,bE prog n [.str s] v/\∃ o:Z,o.length=32/\v= .str o
theorem XS (s:Z)(a:s.length<=1099511627776):∃ v,bE prog 73 [.str s] v/\∃ o:Z,o.length=32/\v= .str o:=by
 refine nN (Post:=fun v=>∃ o:Z,o.length=32/\v= .str o) U U func73 rfl db bT (fun v h=>by first|(obtain⟨s,rfl,h⟩:=h;simp[lows,V.low])|(obtain⟨s,h,rfl⟩:=h;simp[V.low])) (ce ?_);refine aH ?_;refine jl (Px [] s 32 J a) ?_;rintro _ (⟨-,h⟩|⟨-,-,-,o,b,rfl⟩)
 .exact absurd h J
 .refine aH ?_;exact⟨o,I,rfl⟩
theorem Ln (k:Int)(a:k=1\/k=2):∃ v,bE prog 51 [.i64 k] v/\Xm v:=by
 rcases a with rfl|rfl
 .refine⟨.fn 73 [] [],?_,_,rfl,XS⟩;refine ai func51 ?_;simp only[go_sem,seval,ntmps51,results51]
 .refine⟨.fn 75 [] [],?_,_,rfl,fun s b=>Xo s I⟩;refine ai func51 ?_;simp only[go_sem,seval,ntmps51,results51]
theorem aeV (k:Int)(a:k=1\/k=2)(s:Z)(b:s.length<=1099511627776):∃ v,bE prog 172 [.i64 k,.str s] v/\∃ o:Z,o.length=32/\v= .aZ [.str o,.i64 0]:=by
 refine nN (Post:=fun v=>∃ o:Z,o.length=32/\v= .aZ [.str o,.i64 0]) U U func172 rfl db bT (fun v h=>by first|(obtain⟨s,rfl,h⟩:=h;simp[lows,V.low])|(obtain⟨s,h,rfl⟩:=h;simp[lows,V.low])) (ce ?_);refine aH ?_;refine jl (Ln k a) ?_;rintro _ ⟨f,rfl,c⟩;refine aH ?_;refine jl (c s b) ?_;rintro _ ⟨o,d,rfl⟩;refine aH ?_;exact⟨o,d,rfl⟩
theorem JP (k:Int)(e:k=1\/k=2)(l s:Z)(c:l.length<=1099511627776)(j:s.length<=549755813888):∃ v,bE prog 34 [.i64 k,.str l,.str s] v/\∃ o:Z,o.length=32/\v= .aZ [.str o,.i64 0]:=by
 refine nN (Post:=fun v=>∃ o:Z,o.length=32/\v= .aZ [.str o,.i64 0]) U U func34 rfl db bT (fun v h=>by first|(obtain⟨s,rfl,h⟩:=h;simp[lows,V.low])|(obtain⟨s,h,rfl⟩:=h;simp[lows,V.low])) (ce ?_);refine aH ?_;refine jl (Ln k e) ?_;rintro _ ⟨f,rfl,m⟩;by_cases b:(64:Int)<l.length
 .refine aL b ?_;refine jl (m l c) ?_;rintro _ ⟨a,d,rfl⟩;refine aH ?_;refine jl (EP a 92#8) ?_;rintro _ ⟨p,g,rfl⟩;refine aH ?_;refine jl (EP a 54#8) ?_;rintro _ ⟨q,i,rfl⟩;refine aG ?_
  refine jl (m (q++s) cp) ?_;rintro _ ⟨o,n,rfl⟩;refine aG ?_
  refine jl (m (p++o) cp) ?_;rintro _ ⟨o,n,rfl⟩;refine aH ?_;exact⟨o,n,rfl⟩
 .refine aL b ?_;refine jl (EP l 92#8) ?_;rintro _ ⟨p,g,rfl⟩;refine aH ?_;refine jl (EP l 54#8) ?_;rintro _ ⟨q,i,rfl⟩;refine aG ?_
  refine jl (m (q++s) cp) ?_;rintro _ ⟨o,n,rfl⟩;refine aG ?_
  refine jl (m (p++o) cp) ?_;rintro _ ⟨o,n,rfl⟩;refine aH ?_;exact⟨o,n,rfl⟩
theorem Xe (k:Int)(g:k=1\/k=2)(e s:Z)(h:e.length<=1099511627776)(w:s.length<=549755813888)(n:Nat)(C:0<n)(y:n<=3):∃ v h',bp prog 25 [.i64 k,.str e,.str s,.i64 n] [] v h'/\(v= .aZ [.slice 0 0 n 1,.i64 0]/\∃ os:List Z,os.length=n/\(∀ o∈os,o.length=32)/\h'=[bK (os.map .str)]):=by
 have z:¬ (n:Int)<1:=I;have A:¬ 3<(n:Int):=I;refine kg (Post:=fun v h'=>v= .aZ [.slice 0 0 n 1,.i64 0]/\∃ os:List Z,os.length=n/\(∀ o∈os,o.length=32)/\h'=[bK (os.map .str)]) U func25 rfl db (ce (aH ?_));refine jl (JP k g e s h w) ?_;rintro _ ⟨p,E,rfl⟩;refine d9 z A ?_;refine cG (fun j q=>∃ (i:Nat) (a:Z),i+j=n/\a.length<=32/\((i=0/\q=⟨[(0,.i64 k),(10,.str p),(13,.str a),(32,.i64 n),(33,.i64 (0:Nat)),(12,.bG)],[]⟩)\/(0<i/\∃ os:List Z,os.length=i/\(∀ o∈os,o.length=32)/\q=⟨[(0,.i64 k),(10,.str p),(13,.str a),(32,.i64 n),(33,.i64 i),(12,.slice 0 0 i 1)],[bK (os.map .str)]⟩))) ?_ ?_
 .refine qL (n) [0,10,13,32,33,12] 0 J J akl (by simp[blksLow]) ?_;simp only[hY,dD,gi,St.get,lookS,seval,iX];exact⟨0,_,I,J,.inl ⟨rfl,rfl⟩⟩
 rintro j q ⟨i,a,B,r,b⟩-;by_cases D:i<n
 .have f:(i:Int)<n:=I;have l:=iq (i:=i) I;rcases b with⟨rfl,rfl⟩|⟨t,os,d,c,rfl⟩
  .have m:(0:Int)<n:=I;refine aL m ?_;refine aE ?_
   refine jl (JP k g p (a++[BitVec.ofInt 8 (bh (0+1))]) I cp) ?_;rintro _ ⟨o,u,rfl⟩;refine aG ?_
   exact lc (j-1) ⟨[(0,.i64 k),(10,.str p),(13,.str o),(32,.i64 n),(33,.i64 (0+1:Nat)),(12,.slice 0 0 (0+1) 1)],[bK ([o].map .str)]⟩ [2] I rfl J rfl ag (by simp[iC,St.get,lookS]) J ⟨0+1,o,I,I,.inr ⟨I,[o],rfl,by simpa using u,rfl⟩⟩
  .refine aL f ?_;refine aE ?_
   refine jl (JP k g p (a++[BitVec.ofInt 8 (bh ((i:Int)+1))]) I cp) ?_;rintro _ ⟨o,u,rfl⟩;simp only[go_sem,seval,cq,d,l,bq (show(os.map V.str).length<=i by simp;omega),nW];refine aE ?_
   exact lc (j-1) ⟨[(0,.i64 k),(10,.str p),(13,.str o),(32,.i64 n),(33,.i64 (i+1:Nat)),(12,.slice 0 0 (i+1) 1)],[bK ((os++[o]).map .str)]⟩ [3] I rfl J rfl ag (by simp[iC,St.get,lookS]) J ⟨i+1,o,I,I,.inr ⟨I,os++[o],by simp[d],fun x hx=>by rcases gZ.1 hx with hx|hx;exact c x hx;rw[oQ.1 hx];exact u,rfl⟩⟩
 have f:¬ (i:Int)<n:=I;rcases b with⟨rfl,rfl⟩|⟨t,os,d,c,rfl⟩
 .omega
 obtain rfl:i=n:=I;refine aL f ?_;refine⟨_,_,?_,Fin.take 1 J J bT (by simp[blksLow])⟩;exact⟨rfl,os,d,c,rfl⟩
theorem Ws:kr prog 261 "souterrain/noise.kind"=some 235:=U
theorem adD:kr prog 262 "souterrain/noise.kind"=some 239:=U
theorem WC:bE prog 235 [.agg []] (.i64 1):=by
 refine ai func235 ?_;simp only[go_sem,seval,ntmps235,results235]
theorem UJ:bE prog 239 [.agg []] (.i64 2):=by
 refine ai func239 ?_;simp only[go_sem,seval,ntmps239,results239]
def fm (s:V)(h c k:Z)(n:aS):List V:=[s,.str h,.str c,.str k,.u64 n]
theorem two {os:List Z}(h:os.length=2)(h2:∀ o∈os,o.length=32):∃ a b,os=[a,b]/\a.length=32/\b.length=32:=by
 match os,h with
 |[a,b],_=>exact⟨a,b,rfl,h2 a J,h2 b J⟩
theorem three {os:List Z}(h:os.length=3)(h2:∀ o∈os,o.length=32):∃ a b c,os=[a,b,c]/\a.length=32/\b.length=32/\c.length=32:=by
 match os,h with
 |[a,b,c],_=>exact⟨a,b,c,rfl,h2 a J,h2 b J,h2 c J⟩
theorem QX {os:List Z}(h:os.length=1)(h2:∀ o∈os,o.length=32):∃ a,os=[a]/\a.length=32:=by
 match os,h with
 |[a],_=>exact⟨a,rfl,h2 a J⟩
theorem Ci:ofValue Value.nilIface=V.nilIface:=rfl
theorem ahB:E1 prog 261=true:=U
theorem acE:E1 prog 262=true:=U
theorem ZH:bE prog 118 [.i64 1] (.iface 261 (.agg [])):=by
 refine ai func118 ?_;simp only[go_sem,seval,ntmps118,results118,ahB,Ci]
theorem ac6:bE prog 118 [.i64 2] (.iface 262 (.agg [])):=by
 refine ai func118 ?_;simp only[go_sem,seval,ntmps118,results118,acE,Ci]
theorem YF (w:List aQ)(i k:Nat)(a:k<4):iz w (8*i+(k+1))=wx (iz w (8*i+k)) k (4+k) (8+k) (12+k):=by
 have b:(8*i+k)%4=k:=I;have c:(8*i+k)/4%2=0:=I;rw[<-qe,iz];unfold zU;rw[b,c];congr 1<;>omega
theorem UK (w:List aQ)(i k:Nat)(a:k<4):iz w (8*i+4+(k+1))=wx (iz w (8*i+4+k)) k (4+(k+1)%4) (8+(k+2)%4) (12+(k+3)%4):=by
 have b:(8*i+4+k)%4=k:=I;have c:(8*i+4+k)/4%2=1:=I;rw[<-qe,iz];unfold zU;rw[b,c];congr 1<;>omega
theorem HH (k c:Nat)(h:k+c<1000):(bh ((k:Int)+(c:Int))).tmod 4=(((k+c)%4:Nat):Int):=by
 rw[<-yY,bC I I,show(4:Int)=((4:Nat):Int) from rfl,L9]
theorem S7 (w:List aQ)(r:w.length=16):bE prog 188 [.agg (w.map .u32)] (.agg ((iz w 80).map .u32)):=by
 have f:∀ n,(iz w n).length=16:=fun n=>by rw[BZ];exact r
 refine pK U U func188 rfl db (by simp[Cf,lows,V.low]) (by simp[Cf,V.low]) (ce ?_);simp only[go_sem,seval,ntmps188];refine cG (fun g q=>∃ i:Nat,i+g=10/\q=⟨[(1,.ptr 0 0),(2,.ptr 1 0),(3,.fn 198 [] [.ptr 0 0]),(7,.i64 i)],[bK ((iz w (8*i)).map .u32),bK [.u32 0#32,.u32 0#32,.u32 0#32,.u32 0#32,.u32 0#32,.u32 0#32,.u32 0#32,.u32 0#32,.u32 0#32,.u32 0#32,.u32 0#32,.u32 0#32,.u32 0#32,.u32 0#32,.u32 0#32,.u32 0#32]]⟩) ?_ ?_
 .exact dh (10) ⟨[(1,.ptr 0 0),(2,.ptr 1 0),(3,.fn 198 [] [.ptr 0 0]),(7,.i64 (0:Nat))],[bK ((iz w (8*(0:Nat))).map .u32),bK [.u32 0#32,.u32 0#32,.u32 0#32,.u32 0#32,.u32 0#32,.u32 0#32,.u32 0#32,.u32 0#32,.u32 0#32,.u32 0#32,.u32 0#32,.u32 0#32,.u32 0#32,.u32 0#32,.u32 0#32,.u32 0#32]]⟩ gJ rfl (fun _ _ h=>h) ⟨0,I,rfl⟩
 rintro g q ⟨i,y,rfl⟩ _;refine aH ?_;by_cases x:i<10
 .have e:(i:Int)<10:=I;refine aL e ?_;refine cG (fun c q=>∃ k:Nat,k+c=4/\q=⟨[(1,.ptr 0 0),(2,.ptr 1 0),(3,.fn 198 [] [.ptr 0 0]),(7,.i64 i),(9,.i64 k)],[bK ((iz w (8*i+k)).map .u32),bK [.u32 0#32,.u32 0#32,.u32 0#32,.u32 0#32,.u32 0#32,.u32 0#32,.u32 0#32,.u32 0#32,.u32 0#32,.u32 0#32,.u32 0#32,.u32 0#32,.u32 0#32,.u32 0#32,.u32 0#32,.u32 0#32]]⟩) ?_ ?_
  .exact dh 4 ⟨[(1,.ptr 0 0),(2,.ptr 1 0),(3,.fn 198 [] [.ptr 0 0]),(7,.i64 i),(9,.i64 (0:Nat))],[bK ((iz w (8*i)).map .u32),bK [.u32 0#32,.u32 0#32,.u32 0#32,.u32 0#32,.u32 0#32,.u32 0#32,.u32 0#32,.u32 0#32,.u32 0#32,.u32 0#32,.u32 0#32,.u32 0#32,.u32 0#32,.u32 0#32,.u32 0#32,.u32 0#32]]⟩ gJ rfl (fun _ _ h=>h) ⟨0,I,rfl⟩
  rintro c q ⟨k,p,rfl⟩ _;refine aH ?_;by_cases d:k<4
  .have a:(k:Int)<4:=I;have j:bh (4+(k:Int))=((4+k:Nat):Int):=by rw[bC I I];omega
   have l:bh (8+(k:Int))=((8+k:Nat):Int):=by rw[bC I I];omega
   have m:bh (12+(k:Int))=((12+k:Nat):Int):=by rw[bC I I];omega
   refine sh a j l m ?_;refine am [0] (Lm (iz w (8*i+k)) (f _) k (4+k) (8+k) (12+k) I I I I) ?_;simp only[go_sem,seval,<-YF w i k d];refine cH (c-1) ⟨[(1,.ptr 0 0),(2,.ptr 1 0),(3,.fn 198 [] [.ptr 0 0]),(7,.i64 i),(9,.i64 (k+1:Nat))],[bK ((iz w (8*i+(k+1:Nat))).map .u32),bK [.u32 0#32,.u32 0#32,.u32 0#32,.u32 0#32,.u32 0#32,.u32 0#32,.u32 0#32,.u32 0#32,.u32 0#32,.u32 0#32,.u32 0#32,.u32 0#32,.u32 0#32,.u32 0#32,.u32 0#32,.u32 0#32]]⟩ I ?_ rfl (fun _ _ h=>h) ⟨k+1,I,rfl⟩;have b:bh ((k:Int)+1)=((k+1:Nat):Int):=by rw[bC I I];omega
   simp[St.get,lookS,b]
  .have a:¬ (k:Int)<4:=I;refine aL a ?_;obtain rfl:k=4:=I;refine cG (fun c q=>∃ k:Nat,k+c=4/\q=⟨[(1,.ptr 0 0),(2,.ptr 1 0),(3,.fn 198 [] [.ptr 0 0]),(7,.i64 i),(22,.i64 k)],[bK ((iz w (8*i+4+k)).map .u32),bK [.u32 0#32,.u32 0#32,.u32 0#32,.u32 0#32,.u32 0#32,.u32 0#32,.u32 0#32,.u32 0#32,.u32 0#32,.u32 0#32,.u32 0#32,.u32 0#32,.u32 0#32,.u32 0#32,.u32 0#32,.u32 0#32]]⟩) ?_ ?_
   .exact dh 4 ⟨[(1,.ptr 0 0),(2,.ptr 1 0),(3,.fn 198 [] [.ptr 0 0]),(7,.i64 i),(22,.i64 (0:Nat))],[bK ((iz w (8*i+4)).map .u32),bK [.u32 0#32,.u32 0#32,.u32 0#32,.u32 0#32,.u32 0#32,.u32 0#32,.u32 0#32,.u32 0#32,.u32 0#32,.u32 0#32,.u32 0#32,.u32 0#32,.u32 0#32,.u32 0#32,.u32 0#32,.u32 0#32]]⟩ gJ rfl (fun _ _ h=>h) ⟨0,I,rfl⟩
   rintro c q ⟨k,p,rfl⟩ _;refine aH ?_;by_cases d:k<4
   .have a:(k:Int)<4:=I;have s:(bh ((k:Int)+1)).tmod 4=(((k+1)%4:Nat):Int):=HH k 1 I;have j:bh (4+(((k+1)%4:Nat):Int))=((4+(k+1)%4:Nat):Int):=by rw[bC I I];omega
    have t:(bh ((k:Int)+2)).tmod 4=(((k+2)%4:Nat):Int):=HH k 2 I;have l:bh (8+(((k+2)%4:Nat):Int))=((8+(k+2)%4:Nat):Int):=by rw[bC I I];omega
    have u:(bh ((k:Int)+3)).tmod 4=(((k+3)%4:Nat):Int):=HH k 3 I;have m:bh (12+(((k+3)%4:Nat):Int))=((12+(k+3)%4:Nat):Int):=by rw[bC I I];omega
    refine qa9 a s t u j l m ?_;refine am [0] (Lm (iz w (8*i+4+k)) (f _) k (4+(k+1)%4) (8+(k+2)%4) (12+(k+3)%4) I I I I) ?_;simp only[go_sem,seval,<-UK w i k d];refine cH (c-1) ⟨[(1,.ptr 0 0),(2,.ptr 1 0),(3,.fn 198 [] [.ptr 0 0]),(7,.i64 i),(22,.i64 (k+1:Nat))],[bK ((iz w (8*i+4+(k+1:Nat))).map .u32),bK [.u32 0#32,.u32 0#32,.u32 0#32,.u32 0#32,.u32 0#32,.u32 0#32,.u32 0#32,.u32 0#32,.u32 0#32,.u32 0#32,.u32 0#32,.u32 0#32,.u32 0#32,.u32 0#32,.u32 0#32,.u32 0#32]]⟩ I ?_ rfl (fun _ _ h=>h) ⟨k+1,I,rfl⟩;have b:bh ((k:Int)+1)=((k+1:Nat):Int):=by rw[bC I I];omega
    simp[St.get,lookS,b]
   .have a:¬ (k:Int)<4:=I;refine aL a ?_;obtain rfl:k=4:=I;refine cH (g-1) ⟨[(1,.ptr 0 0),(2,.ptr 1 0),(3,.fn 198 [] [.ptr 0 0]),(7,.i64 (i+1:Nat))],[bK ((iz w (8*(i+1:Nat))).map .u32),bK [.u32 0#32,.u32 0#32,.u32 0#32,.u32 0#32,.u32 0#32,.u32 0#32,.u32 0#32,.u32 0#32,.u32 0#32,.u32 0#32,.u32 0#32,.u32 0#32,.u32 0#32,.u32 0#32,.u32 0#32,.u32 0#32]]⟩ I ?_ rfl (fun _ _ h=>h) ⟨i+1,I,rfl⟩;have b:bh ((i:Int)+1)=((i+1:Nat):Int):=by rw[bC I I];omega
    simp[St.get,lookS,b]
 .have e:¬ (i:Int)<10:=I;obtain rfl:i=10:=I;have o:=f 80;have v:min 16 16=16:=rfl;simp only[go_sem,seval,o,bq,dC,v]
def Jf (s:Z)(i:Nat):aQ:=BitVec.ofNat 32 (le ((s.drop (4*i)).take 4))
def Av (s:Z):Nat->List aQ
 |0=>[]
 |i+1=>Av s i++[Jf s i]
theorem Ra (s:Z)(n:Nat):(Av s n).length=n:=by
 induction n with
 |zero=>rfl
 |succ n ih=>rw[Av,bA,ih];rfl
def lM (l:List aQ):Z:=l.flatMap fun x=>bX x.toNat 4
theorem RH (l:List aQ)(x:aQ):lM (l++[x])=lM l++bX x.toNat 4:=by unfold lM;rw[List.flatMap_append];simp
theorem Ay (l:List aQ):(lM l).length=4*l.length:=by
 induction l using Hl with
 |h0=>rfl
 |h1 l a ih=>rw[RH,bA,ih,dQ,bA];simp;omega
theorem Ht (k n:Z)(a:Int):bE prog 186 [.str k,.str n,.i64 a] (.i64 (if k.length=32/\(n.length:Int)=a then 0 else 1)):=by
 by_cases b:k.length=32
 .by_cases d:(n.length:Int)=a
  .refine ai func186 ?_;simp only[go_sem,seval,ntmps186,results186,b,d]
  .refine ai func186 ?_;simp only[go_sem,seval,ntmps186,results186,b,d]
 .have c:¬ (k.length:Int)=32:=I;refine ai func186 ?_;simp only[go_sem,seval,ntmps186,results186,b,c,tv]
def arr (s:Z)(i:Nat):List aQ:=[1634760805#32,857760878#32,2036477234#32,1797285236#32]++Av s i++List.replicate (12-i) 0#32
theorem zV (s:Z)(i:Nat)(h:i<=12):(arr s i).length=16:=by
 unfold arr;rw[bA,bA,Ra,kV];simp;omega
theorem ae5 (s:Z)(i:Nat)(h:i<12):(arr s i).set (4+i) (Jf s i)=arr s (i+1):=by
 unfold arr;rw[Av,show 12-i=(12-(i+1))+1 by omega,vZ];have a:([1634760805#32,857760878#32,2036477234#32,1797285236#32]++Av s i).length=4+i:=by rw[bA,Ra];rfl
 rw[uD _ _ I,a,k8,lF];simp
theorem acL (n:Nat):(BitVec.ofNat 64 n).setWidth 32=BitVec.ofNat 32 n:=by
 apply iU;rw[qq,fL,fL,Nat.mod_mod_of_dvd _ (by decide:2^32∣2^64)]
theorem To (k r:Z)(h:(k++r).length=48):bE prog 187 [.str k,.str r] (.agg ((arr (k++r) 12).map .u32)):=by
 have f:k.length+r.length=48:=by rw[<-bA];exact h
 refine pK U U func187 rfl db bT (by simp[Cf,V.low]) (ce ?_);simp only[go_sem,seval,ntmps187,f];generalize k++r=s at h |-
 refine cG (fun j w=>∃ i:Nat,i+j=12/\w=⟨[(4,.ptr 0 0),(5,.ptr 1 0),(6,.i64 i),(7,.str (s.drop (4*i)))],[bK [.u32 0#32,.u32 0#32,.u32 0#32,.u32 0#32,.u32 0#32,.u32 0#32,.u32 0#32,.u32 0#32,.u32 0#32,.u32 0#32,.u32 0#32,.u32 0#32,.u32 0#32,.u32 0#32,.u32 0#32,.u32 0#32],bK ((arr s i).map .u32)]⟩) ?_ ?_
 .exact dh 12 ⟨[(4,.ptr 0 0),(5,.ptr 1 0),(6,.i64 (0:Nat)),(7,.str (s.drop (4*0)))],[bK [.u32 0#32,.u32 0#32,.u32 0#32,.u32 0#32,.u32 0#32,.u32 0#32,.u32 0#32,.u32 0#32,.u32 0#32,.u32 0#32,.u32 0#32,.u32 0#32,.u32 0#32,.u32 0#32,.u32 0#32,.u32 0#32],bK ((arr s 0).map .u32)]⟩ gJ rfl (fun _ _ h=>h) ⟨0,I,rfl⟩
 rintro j w ⟨i,z,rfl⟩ _;have d:(s.drop (4*i)).length=48-4*i:=by rw[dO,h]
 by_cases x:i<12
 .have g:¬ s.drop (4*i)=[]:=fun e=>by rw[e] at d;simp at d;omega
  have t:(4:Int)<=((s.drop (4*i)).length:Int):=I;have a:(4:Int)<=((48-4*i:Nat):Int):=I;have u:bh (4+(i:Int))=((4+i:Nat):Int):=by rw[bC I I];omega
  have l:((4+i:Nat):Int)<16:=I;have v:4+i<16:=I;have b:=zV s i I;have q:min 4 (48-4*i)=4:=I;have m:BitVec.ofNat 32 (le ((s.drop (4*i)).take 4))=Jf s i:=rfl;have n:((s.drop (4*i)).take 4).take 8=(s.drop (4*i)).take 4:=bq cp;refine i9 g d a ?_;refine br (mY _ cp) ?_;simp only[go_sem,seval,u,l,b,n,bq,d,acL,m,ae5 s i x,a,l9];refine⟨I,I,U,?_⟩;refine cH (j-1) ⟨[(4,.ptr 0 0),(5,.ptr 1 0),(6,.i64 (i+1:Nat)),(7,.str (s.drop (4*(i+1))))],[bK [.u32 0#32,.u32 0#32,.u32 0#32,.u32 0#32,.u32 0#32,.u32 0#32,.u32 0#32,.u32 0#32,.u32 0#32,.u32 0#32,.u32 0#32,.u32 0#32,.u32 0#32,.u32 0#32,.u32 0#32,.u32 0#32],bK ((arr s (i+1)).map .u32)]⟩ I ?_ rfl (fun _ _ h=>h) ⟨i+1,I,rfl⟩;have o:bh ((i:Int)+1)=((i+1:Nat):Int):=by rw[bC I I];omega
  simp[St.get,lookS,o,qQ]
 .have c:i=12:=I;have p:s.drop (4*i)=[]:=lP I;have b:=zV s 12 I;have y:min 16 16=16:=rfl;subst c;simp only[go_sem,seval,p,b,bq,dC]
theorem Ng {l:List aQ}{i:Nat}(h:i<l.length):l.take (i+1)=l.take i++[l.getD i 0]:=by
 rw[uV h,bY,bn h];rfl
theorem IG (x:aQ):(x.setWidth 64).toNat=x.toNat:=by
 have :=x.isLt;rw[qq];omega
theorem ac8 (w:List aQ)(o i:Nat):(w.drop o).getD i 0=w.getD (o+i) 0:=by
 rw[bY,bY,mA]
theorem Ha (w:List aQ)(o n:Nat)(h:o+n<=w.length)(q:0<n)(t:w.length<=16):bp prog 189 [.slice 0 o n 1] [bK (w.map .u32)] (.str (lM ((w.drop o).take n))) [bK (w.map .u32)]:=by
 refine ak func189 ?_;simp only[go_sem,seval,ntmps189];refine cG (fun j r=>∃ i:Nat,i+j=n/\((i=0/\r=⟨[(3,.bG),(6,.slice 0 o n 1),(7,.i64 n),(8,.i64 (0:Nat))],[bK (w.map .u32)]⟩)\/
  (0<i/\r=⟨[(3,.slice 1 0 (lM ((w.drop o).take i)).length 1),(6,.slice 0 o n 1),(7,.i64 n),(8,.i64 i)],[bK (w.map .u32),bK ((lM ((w.drop o).take i)).map .u8)]⟩))) ?_ ?_
 .exact dh n ⟨[(3,.bG),(6,.slice 0 o n 1),(7,.i64 n),(8,.i64 (0:Nat))],[bK (w.map .u32)]⟩ gJ rfl (fun _ _ h=>h) ⟨0,I,.inl ⟨rfl,rfl⟩⟩
 rintro j r ⟨i,v,a⟩ _;by_cases u:i<n
 .have b:(i:Int)<(n:Int):=I;have s:o+i<w.length:=I;have e:i<(w.drop o).length:=by rw[dO];omega
  have f:bh ((i:Int)+1)=((i+1:Nat):Int):=by rw[bC I I];omega
  have g:lM ((w.drop o).take (i+1))=lM ((w.drop o).take i)++bX (w.getD (o+i) 0).toNat 4:=by rw[Ng e,RH,ac8]
  have p:(lM ((w.drop o).take i)).length=4*i:=by rw[Ay,cF,lH I]
  rcases a with⟨rfl,rfl⟩|⟨k,rfl⟩
  .have l:(0:Int)<(n:Int):=I;have c:o<w.length:=I;have d:lM ((w.drop o).take (0+1))=bX (w.getD o 0).toNat 4:=g;simp only[go_sem,seval,l,c,wZ c];refine am [] (EX ((w.getD o 0).setWidth 64)) ?_;refine aL @IG ?_;refine lc (j-1) ⟨[(3,.slice 1 0 (lM ((w.drop o).take (0+1))).length 1),(6,.slice 0 o n 1),(7,.i64 n),(8,.i64 (0+1:Nat))],[bK (w.map .u32),bK ((lM ((w.drop o).take (0+1))).map .u8)]⟩ [0,1] I rfl J rfl ag ?_ ?_ ⟨0+1,I,.inr ⟨I,rfl⟩⟩
   .rw[d];simp[iC,St.get,lookS,dQ]
   .rw[d];simp
  .simp only[go_sem,seval,b,s,wZ s];refine⟨I,?_⟩;refine am [1] (JI (lM ((w.drop o).take i)) ((w.getD (o+i) 0).setWidth 64) I) ?_;refine aL @IG ?_;refine lc (j-1) ⟨[(3,.slice 1 0 (lM ((w.drop o).take (i+1))).length 1),(6,.slice 0 o n 1),(7,.i64 n),(8,.i64 (i+1:Nat))],[bK (w.map .u32),bK ((lM ((w.drop o).take (i+1))).map .u8)]⟩ [0,2] I rfl J rfl ag ?_ ?_ ⟨i+1,I,.inr ⟨I,rfl⟩⟩
   .rw[g];simp[iC,St.get,lookS,f,dQ]
   .rw[g];simp
 .obtain rfl:i=n:=I;have b:¬ (i:Int)<(i:Int):=I;rcases a with⟨rfl,rfl⟩|⟨k,rfl⟩
  .omega
  .simp only[go_sem,seval,b,bq];exact Fin.bd [0] J J ci ag J J
def uU (a b:List aQ):List aQ:=List.zipWith (· +·) a b
theorem zg (a b:List aQ):(uU a b).length=min a.length b.length:=GH
theorem akb (a b:List aQ)(i:Nat)(h1:i<a.length)(h2:i<b.length):(uU a b).getD i 0=a.getD i 0+b.getD i 0:=by
 unfold uU;rw[bY,bY,bY,v7,bn h1,bn h2];rfl
def pN (a b:List aQ)(i:Nat):List aQ:=(uU a b).take i++a.drop i
theorem Q4 (a b:List aQ)(i:Nat)(h:a.length=b.length)(hi:i<=a.length):(pN a b i).length=a.length:=by
 unfold pN;rw[bA,cF,zg,dO];omega
theorem XY (a b:List aQ)(i:Nat)(h:a.length=b.length)(hi:i<a.length):(pN a b i).getD i 0=a.getD i 0:=by
 unfold pN;have c:((uU a b).take i).length=i:=by rw[cF,zg];omega
 rw[bY,iy I,c,k8,mA,nJ,<-bY]
theorem UG (a b:List aQ)(i:Nat)(h:a.length=b.length)(hi:i<a.length):(pN a b i).set i (a.getD i 0+b.getD i 0)=pN a b (i+1):=by
 unfold pN;have c:((uU a b).take i).length=i:=by rw[cF,zg];omega
 rw[uD _ _ I,c,k8,wA hi,lF,Ng (l:=uU a b) (by rw[zg];omega),akb a b i hi I];simp
def KY (s:Z):List aQ:=uU (iz (arr s 12) 80) (arr s 12)
def jZ (a nonce:Z)(n:aQ):Z:=lM (KY (a++(bX n.toNat 4++nonce)))
theorem IC (t nonce:Z)(n:aQ)(h1:t.length=32)(h2:nonce.length=12):bE prog 190 [.str t,.str nonce,.u32 n] (.aZ [.str (jZ t nonce n),.i64 0]):=by
 have l:(nonce.length:Int)=12:=I;have u:(t++(bX n.toNat 4++nonce)).length=48:=by rw[bA,bA,dQ];omega
 have b:=zV (t++(bX n.toNat 4++nonce)) 12 I;have c:(iz (arr (t++(bX n.toNat 4++nonce)) 12) 80).length=16:=by rw[BZ];exact b
 unfold jZ KY;refine ai func190 ?_;simp only[go_sem,seval,-BitVec.isValue,-List.reduceReplicate,-Nat.reduceSubDiff,ntmps190];refine br (Ht _ _ _) ?_;refine qc4 h1 l ?_;refine am [] (EX (n.setWidth 64)) ?_;refine qc6 @IG @dQ h2 ?_;refine br (To _ _ u) ?_;refine qc0 ?_;generalize arr (t++(bX n.toNat 4++nonce)) 12=a at b c |-
 have y:min 16 16=16:=rfl;have r:=dC;refine qc4 b @dC ?_;have e:=S7 a b;generalize iz a 80=s at c e |-
 refine br (e) ?_;refine qc4 c @dC ?_;refine cG (fun m w=>∃ i:Nat,i+m=16/\w=⟨[(9,.ptr 1 0),(10,.ptr 2 0),(28,.i64 i)],[bK ((bX n.toNat 4).map .u8),bK (a.map .u32),bK ((pN s a i).map .u32)]⟩) ?_ ?_
 .exact dh (16) ⟨[(9,.ptr 1 0),(10,.ptr 2 0),(28,.i64 (0:Nat))],[bK ((bX n.toNat 4).map .u8),bK (a.map .u32),bK ((pN s a (0:Nat)).map .u32)]⟩ gJ rfl (fun _ _ h=>h) ⟨0,I,rfl⟩
 rintro m w ⟨i,z,rfl⟩ _;refine qc0 ?_;by_cases x:i<16
 .have f:(i:Int)<16:=I;have d:=Q4 s a i I I;have g:=XY s a i I I;have j:=UG s a i I I;have o:i<a.length:=I;have p:i<(pN s a i).length:=I;refine qe4 f d b c x (wZ o) (wZ p) g j ?_;refine⟨I,I,I,I,U,?_⟩;refine cH (m-1) ⟨[(9,.ptr 1 0),(10,.ptr 2 0),(28,.i64 (i+1:Nat))],[bK ((bX n.toNat 4).map .u8),bK (a.map .u32),bK ((pN s a (i+1:Nat)).map .u32)]⟩ I ?_ rfl (fun _ _ h=>h) ⟨i+1,I,rfl⟩;have q:bh ((i:Int)+1)=((i+1:Nat):Int):=by rw[bC I I];omega
  simp[St.get,lookS,q]
 .have f:¬ (i:Int)<16:=I;obtain rfl:i=16:=I;have d:=Q4 s a 16 I I;have k:((pN s a 16).drop 0).take 16=uU s a:=by
   unfold pN;rw[nW,lP I,jn,wO,Nat.min_self,bq (by rw[zg];omega)]
  have v:=Ha (pN s a 16) 0 16 I ag I;rw[k] at v;refine qc4 d c ?_;refine am [2] v ?_;simp only[go_sem,seval,-BitVec.isValue,-List.reduceReplicate,-Nat.reduceSubDiff]
def AL (a nonce:Z):Z:=
 let w:=iz (arr (a++nonce) 12) 80
 lM (w.take 4)++lM (w.drop 12)
theorem ajV (l nonce:Z)(h1:l.length=32)(h2:nonce.length=16):bE prog 175 [.str l,.str nonce] (.aZ [.str (AL l nonce),.i64 0]):=by
 have h:(nonce.length:Int)=16:=I;have m:(l++nonce).length=48:=by rw[bA];omega
 have d:=zV (l++nonce) 12 I;have b:(iz (arr (l++nonce) 12) 80).length=16:=by rw[BZ];exact d
 unfold AL;refine ai func175 ?_;simp only[go_sem,seval,ntmps175];refine br (Ht _ _ _) ?_;refine d9 h1 h ?_;refine br (To _ _ m) (aH ?_);generalize arr (l++nonce) 12=a at d b |-
 have n:min 16 16=16:=rfl;have e:=S7 a d;generalize iz a 80=s at b e |-
 have i:(s.drop 0).take 4=s.take 4:=by rw[nW]
 have f:(s.drop 12).take 4=s.drop 12:=bq (by rw[dO];omega);have j:(lM (s.take 4)).length=16:=by rw[Ay,cF];omega
 have k:(lM (s.drop 12)).length=16:=by rw[Ay,dO];omega
 refine br (e) ?_;refine d9 b @dC ?_;have g:=Ha s 0 4 I ag I;have c:=Ha s 12 4 I ag I;rw[i] at g;rw[f] at c;refine AN [0] (g) U J rfl J ag J J J J J (by first|(simp[jJ,gn,cu,ik,aa.bd];done)|simp[go_sem,jJ]) ?_;refine aL b ?_;refine AN [0] (c) U J rfl J ag J J J J J (by first|(simp[jJ,gn,cu,ik,aa.bd];done)|simp[go_sem,jJ]) ?_;refine d9 j k ?_;kernel_rfl
end Go.Vm
end
section
namespace Go.Vm
open Go.Proofs
end Go.Vm
end
section
namespace Go.Vm
open Go.Proofs Go.Proofs.Tryz
def cx (a b:Z):Z:=List.zipWith (· ^^^ ·) a b
theorem oV (a b:Z):(cx a b).length=min a.length b.length:=GH
theorem ag4 (a b:Z)(i:Nat)(h1:i<a.length)(h2:i<b.length):(cx a b).getD i 0=a.getD i 0 ^^^ b.getD i 0:=by
 unfold cx;rw[bY,bY,bY,v7,bn h1,bn h2];rfl
theorem SZ (a s b:Z)(h:s.length<=a.length):cx a (s++b)=cx a s++cx (a.drop s.length) b:=by
 unfold cx
 calc List.zipWith (· ^^^ ·) a (s++b)=List.zipWith (· ^^^ ·) (a.take s.length++a.drop s.length) (s++b):=by rw[yr]
  _=List.zipWith (· ^^^ ·) (a.take s.length) s++List.zipWith (· ^^^ ·) (a.drop s.length) b:=List.zipWith_append (by rw[cF];omega)
  _=_:=by
   congr 1;apply wG;intro i;rw[v7,v7];by_cases c:i<s.length
   .rw[xX c]
   .rw[iW (l:=s) I];split <;>simp_all
def rf (a b:Z)(i:Nat):Z:=(cx a b).take i++List.replicate ((cx a b).length-i) 0
theorem WO (a b:Z)(i:Nat)(h:i<=(cx a b).length):(rf a b i).length=(cx a b).length:=by
 unfold rf;rw[bA,cF,kV];omega
theorem Zn (a b:Z)(i:Nat)(h:i<(cx a b).length):(rf a b i).set i (a.getD i 0 ^^^ b.getD i 0)=rf a b (i+1):=by
 have c:=oV a b;unfold rf;have d:((cx a b).take i).length=i:=by rw[cF];omega
 rw[uD _ _ I,d,k8,show(cx a b).length-i=((cx a b).length-(i+1))+1 by omega,vZ,lF,zn h,ag4 a b i I I];simp
theorem ab0 (a b:Z):rf a b (cx a b).length=cx a b:=by
 unfold rf;rw[oR,k8];simp
theorem Ds (a b:Z)(t:a.length<=4611686018427387904)(u:b.length<=140737488351232):bE prog 191 [.str a,.str b] (.str (cx a b)):=by
 have q:=oV a b;generalize j:(cx a b).length=n at q;have d:(if(b.length:Int)<(a.length:Int) then(b.length:Int) else(a.length:Int))=(n:Int):=by split <;>omega
 refine ai func191 ?_;simp only[go_sem,seval,-BitVec.isValue,-List.reduceReplicate,-Nat.reduceSubDiff,ntmps191,d];refine⟨⟨I,I,I⟩,?_⟩;have l:n9 [V.u8 0#8] n=(rf a b 0).map V.u8:=by
  have r:∀ k,n9 [V.u8 0#8] k=List.replicate k (V.u8 0#8):=fun k=>by
   induction k with
   |zero=>rfl
   |succ k ih=>rw[n9,ih];rfl
  unfold rf;rw[j,r];simp
 rw[l];refine cG (fun m w=>∃ i:Nat,i+m=n/\w=⟨[(0,.str a),(1,.str b),(5,.slice 0 0 n 1),(14,.i64 n),(15,.i64 i)],[bK ((rf a b i).map .u8)]⟩) ?_ ?_
 .exact dh (n) ⟨[(0,.str a),(1,.str b),(5,.slice 0 0 n 1),(14,.i64 n),(15,.i64 (0:Nat))],[bK ((rf a b (0:Nat)).map .u8)]⟩ gJ rfl (fun _ _ h=>h) ⟨0,I,rfl⟩
 rintro m w ⟨i,A,rfl⟩ _;refine qc0 ?_;by_cases x:i<n
 .have c:(i:Int)<(n:Int):=I;have y:i<b.length:=I;have v:(i:Int)<(b.length:Int):=I;have z:i<a.length:=I;have o:(i:Int)<(a.length:Int):=I;have s:(0:Int)<=(i:Int):=I;have e:=WO a b i I;rw[j] at e;have f:=Zn a b i I;refine qd2 c v o s e f ?_;refine⟨I,U,?_⟩;refine cH (m-1) ⟨[(0,.str a),(1,.str b),(5,.slice 0 0 n 1),(14,.i64 n),(15,.i64 (i+1:Nat))],[bK ((rf a b (i+1:Nat)).map .u8)]⟩ I ?_ rfl (fun _ _ h=>h) ⟨i+1,I,rfl⟩;have p:bh ((i:Int)+1)=((i+1:Nat):Int):=by rw[bC I I];omega
  simp[St.get,lookS,p]
 .obtain rfl:i=n:=I;have c:¬ (i:Int)<(i:Int):=I;have g:rf a b i=cx a b:=by rw[<-j];exact ab0 a b
  simp only[go_sem,seval,-BitVec.isValue,-List.reduceReplicate,-Nat.reduceSubDiff,c,g,bq,j,bz,qV]
theorem WD (n:aQ)(i:Nat):n+BitVec.ofNat 32 i+1#32=n+BitVec.ofNat 32 (i+1):=by
 apply iU;simp[jL,fL];omega
def pi (B:aQ->Z)(n:aQ):Nat->Z
 |0=>[]
 |i+1=>pi B n i++B (n+BitVec.ofNat 32 i)
theorem A9 (k c:Z)(n:aQ)(h1:k.length=32)(h2:c.length=12):(jZ k c n).length=64:=by
 unfold jZ KY;rw[Ay,zg,BZ,zV _ _ ag];rfl
theorem JE (B:aQ->Z)(a:∀ m,(B m).length=64)(n:aQ)(i:Nat):(pi B n i).length=64*i:=by
 induction i with
 |zero=>rfl
 |succ i ih=>rw[pi,bA,ih,a];omega
def xored (B:aQ->Z)(n:aQ)(t:Z):Z:=cx t (pi B n ((t.length+63)/64))
theorem RZ (k c:Z)(n:aQ)(t:Z)(B:aQ->Z)(u:∀ m,(B m).length=64)(f:∀ m,bE prog 190 [.str k,.str c,.u32 m] (.aZ [.str (B m),.i64 0]))(h1:k.length=32)(h2:c.length=12)(h:t.length<=2000):bE prog 177 [.str k,.str c,.u32 n,.str t] (.aZ [.str (xored B n t),.i64 0]):=by
 have g:(c.length:Int)=12:=I;have A:¬ (2000:Int)<(t.length:Int):=I;have a:=JE B u n;unfold xored;refine ai func177 ?_;simp only[go_sem,seval,ntmps177];refine br (Ht _ _ _) ?_;refine i9 h1 g A ?_;refine cG (fun j z=>∃ i:Nat,i+j=(t.length+63)/64/\z=⟨[(0,.str k),(1,.str c),(2,.u32 (n+BitVec.ofNat 32 i)),(3,.str (t.drop (64*i))),(11,.str (cx t (pi B n i)))],[]⟩) ?_ ?_
 .exact dh ((t.length+63)/64) ⟨[(0,.str k),(1,.str c),(2,.u32 (n+BitVec.ofNat 32 (0:Nat))),(3,.str (t.drop (64*(0:Nat)))),(11,.str (cx t (pi B n (0:Nat))))],[]⟩ (by simp[St.get,lookS,pi,cx]) rfl (fun _ _ h=>h) ⟨0,I,rfl⟩
 rintro j z ⟨i,E,rfl⟩ _;refine aH ?_;have d:(t.drop (64*i)).length=t.length-64*i:=dO;by_cases D:64*i<t.length
 .have l:¬ t.drop (64*i)=[]:=fun e=>by rw[e] at d;simp at d;omega
  have v:=f (n+BitVec.ofNat 32 i);have o:=u (n+BitVec.ofNat 32 i);have p:=Ds (t.drop (64*i)) (B (n+BitVec.ofNat 32 i)) I I;have q:cx t (pi B n i)++cx (t.drop (64*i)) (B (n+BitVec.ofNat 32 i))=cx t (pi B n (i+1)):=by
   rw[pi,SZ _ _ _ (by rw[a];omega),a]
  have b:=oV (t.drop (64*i)) (B (n+BitVec.ofNat 32 i));rw[o,d] at b;have r:(t.drop (64*i)).drop (min (t.length-64*i) 64)=t.drop (64*(i+1)):=by
   rw[l9];by_cases w:64<=t.length-64*i
   .rw[uj w,qQ]
   .rw[lH I,lP I,lP I]
  have x:(cx t (pi B n i)).length<=2000:=by rw[oV];omega
  refine aL l ?_;refine br (v) (aH ?_);have s:(t.drop (64*i)).take (t.length-64*i)=t.drop (64*i):=bq I;refine br (p) ?_;refine Nm q b d s r ?_;refine⟨I,⟨I,I⟩,?_⟩;refine cH (j-1) ⟨[(0,.str k),(1,.str c),(2,.u32 (n+BitVec.ofNat 32 (i+1:Nat))),(3,.str (t.drop (64*(i+1:Nat)))),(11,.str (cx t (pi B n (i+1:Nat))))],[]⟩ I ?_ rfl (fun _ _ h=>h) ⟨i+1,I,rfl⟩;have y:bh ((i:Int)+1)=((i+1:Nat):Int):=by rw[bC I I];omega
  simp[St.get,lookS,WD]
 .have C:t.drop (64*i)=[]:=lP I;obtain rfl:i=(t.length+63)/64:=I;simp only[go_sem,seval,C]
end Go.Vm
end
section
namespace Go.Vm
open Go.Proofs
end Go.Vm
end
