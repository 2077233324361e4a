/- A part of the proof: laws of a small machine of values, or what one function answers, proved against the model; no conditions beyond those in each theorem. -/
import Derived.Test.YtgffdnniifmglaaGreatDoorVmI1ToDvC
import Derived.Test.YtgffdnniifmglaaGreatDoorVmYToKh3
import Derived.Test.YtgffdnniifmglaaGreatDoorTypesToVmH1
set_option linter.unusedVariables false
set_option linter.unusedSimpArgs false
set_option linter.unusedSectionVars false
set_option maxRecDepth 20000
set_option maxHeartbeats 8000000
section
namespace Go.Vm
open Go.Proofs
section
def fT (win:Nat)(sd rc:List af)(s bo:Int)(fs:Bool):List V:=[.ptr win 0,.str sd,.str rc,.i64 s,.i64 bo,.i64 0,.bool fs]
theorem Rp (s:Int)(hs:s=1∨s=2)(sd rc:List af)(hsd:sd.length=32)(hrc:rc.length=32)(bo:Int)(hb:0≤bo)(hb2:bo≤1099511627776)(fs:Bool):
  ao Tryz.prog 139 [.i64 s,.agg [.str sd,.str rc],.i64 bo,.bool fs] [] (.tup [.ptr 1 0,.i64 0]) [some ⟨false,[.i64 0,.u64 0#64],none⟩,some ⟨false,fT 0 sd rc s bo fs,none⟩]:=by
 have h1:¬ bo<0:=by omega
 have h2:¬ (1099511627776:Int)<bo:=by omega
 have h3:(sd.length:Int)=32:=by omega
 have h4:(rc.length:Int)=32:=by omega
 unfold fT
 rcases hs with rfl|rfl
 ·refine aR (by kernel_rfl) (fn:=Tryz.f139) Tryz.func139 rfl (by show 4≤46;decide) (ag ?_)
  simp only[go_sem,seval,Tryz.ntmps139,h1,h2,h3,h4]
  refine dj [] (xt) (by kernel_rfl) (by simp) rfl (by simp) (by first|decide|simp) (by simp) (by simp) (by simp) (by simp) (by simp) ?_
  simp only[go_sem,seval]
  refine⟨by kernel_rfl,?_⟩
  exact Fin.ren [1,2] (by simp) (by simp) (by rfl) (by decide) (by simp) (by simp)
 ·refine aR (by kernel_rfl) (fn:=Tryz.f139) Tryz.func139 rfl (by show 4≤46;decide) (ag ?_)
  simp only[go_sem,seval,Tryz.ntmps139,h1,h2,h3,h4]
  refine dj [] (xt) (by kernel_rfl) (by simp) rfl (by simp) (by first|decide|simp) (by simp) (by simp) (by simp) (by simp) (by simp) ?_
  simp only[go_sem,seval]
  refine⟨by kernel_rfl,?_⟩
  exact Fin.ren [1,2] (by simp) (by simp) (by rfl) (by decide) (by simp) (by simp)
theorem Rq (s:Int)(hs:s=1∨s=2)(sd rc:List af)(hsd:sd.length=32)(hrc:rc.length=32)(bo:Int)(hb:0≤bo)(hb2:bo≤1099511627776)(fs:Bool)(m t:BitVec 32):
  ao Tryz.prog 93 [.i64 s,.agg [.str sd,.str rc],.i64 bo,.bool fs,.u32 m,.u32 t] [] (.ptr 2 0) [some ⟨false,[.i64 0,.u64 0#64],none⟩,some ⟨false,fT 0 sd rc s bo fs,none⟩,some ⟨false,[.ptr 1 0,.i64 s,.u32 m,.u32 t],some ⟨[],0⟩⟩]:=by
 have hp:=Rp s hs sd rc hsd hrc bo hb hb2 fs
 unfold fT at hp ⊢
 refine aR (by kernel_rfl) (fn:=Tryz.f93) Tryz.func93 rfl (by show 6≤29;decide) (ag ?_)
 simp only[go_sem,seval,Tryz.ntmps93]
 repeat refine aJ ?_
 refine aA [] (hp) (by kernel_rfl) (by simp) rfl (by simp) (by first|decide|simp) (by simp) (by simp) (by simp) (by simp) (by simp) ?_
 simp only[go_sem,seval]
 exact Fin.ren [1,2,3] (by simp) (by simp) (by rfl) (by decide) (by simp) (by simp)
variable {G:Gh}{K:Nat→Option Kd}{H:List (Option Blk)}{b p:Nat}
def dM (K K':Nat→Option Kd):Prop:=∀ b k,K b=some k→K' b=some k
theorem yP (h:WT G K H)(s:Int)(hs:s=1∨s=2)(sd rc:List af)(hsd:sd.length=32)(hrc:rc.length=32)(bo:Int)(hb:0≤bo)(hb2:bo≤1099511627776)(fs:Bool)(m t:BitVec 32):
  ∃ v G' K' H',Done Tryz.prog 93 [.i64 s,.agg [.str sd,.str rc],.i64 bo,.bool fs,.u32 m,.u32 t] K H (fun _=>False) v G' K' H'∧(G'=G∧dM K K'∧∃ c,v= .ptr c 0∧K' c=some .ses):=by
 have hS:=kP (H:=H) (Rq s hs sd rc hsd hrc bo hb hb2 fs m t) [] rfl (by simp[ac,V.low]) (by simp) (by simp) (fun b B e=>by simp[aa] at e) (fun b B e _=>by
  match b with
  |0=>have e':some (⟨false,[.i64 0,.u64 0#64],none⟩:Blk)=some B:=e;cases e';rfl
  |1=>have e':some (⟨false,fT 0 sd rc s bo fs,none⟩:Blk)=some B:=e;cases e';rfl
  |2=>have e':some (⟨false,[.ptr 1 0,.i64 s,.u32 m,.u32 t],some ⟨[],0⟩⟩:Blk)=some B:=e;cases e';rfl
  |b+3=>simp[aa] at e) (Nat.zero_le _)
 have hσ:∀ i,i<3→ah (au [] H.length [some (⟨false,[.i64 0,.u64 0#64],none⟩:Blk),some ⟨false,fT 0 sd rc s bo fs,none⟩,some ⟨false,[.ptr 1 0,.i64 s,.u32 m,.u32 t],some ⟨[],0⟩⟩]) i=H.length+i:=fun i hi=>by
  rw[fM (Nat.zero_le _) hi];simp
 have e1:az [] H [some (⟨false,[.i64 0,.u64 0#64],none⟩:Blk),some ⟨false,fT 0 sd rc s bo fs,none⟩,some ⟨false,[.ptr 1 0,.i64 s,.u32 m,.u32 t],some ⟨[],0⟩⟩]=
   H++[some ⟨false,[.i64 0,.u64 0#64],none⟩]++[some ⟨false,fT H.length sd rc s bo fs,none⟩]++[some ⟨false,[.ptr (H.length+1) 0,.i64 s,.u32 m,.u32 t],some ⟨[],0⟩⟩]:=by
  have q0:=hσ 0 (by decide)
  have q1:=hσ 1 (by decide)
  unfold fT at q0 q1 ⊢
  unfold az
  simp only[cK,bR,bU,List.map_cons,List.map_nil,cY,Option.map_some,Blk.ren,rens,V.ren,q0,q1,Nat.add_zero,List.append_assoc,List.cons_append,List.nil_append]
 rw[e1] at hS
 have e2:(V.ptr 2 0).ren (ah (au [] H.length [some (⟨false,[.i64 0,.u64 0#64],none⟩:Blk),some ⟨false,fT 0 sd rc s bo fs,none⟩,some ⟨false,[.ptr 1 0,.i64 s,.u32 m,.u32 t],some ⟨[],0⟩⟩]))= .ptr (H.length+2) 0:=by
  unfold V.ren;rw[hσ 2 (by decide)]
 rw[e2] at hS
 have c1:=(Cur.refl h (fun _=>False)).new .win rfl (WinF.row (G:=G) (b:=H.length) (next:=0) (bits:=0#64) ⟨by omega⟩)
 have l1:(H++[some (⟨false,[.i64 0,.u64 0#64],none⟩:Blk)]).length=H.length+1:=by simp
 have c2:=c1.new .pair rfl (vs:=fT H.length sd rc s bo fs) (PairF.row (G:=G) (sealed:=0) ⟨by rw[aM (by omega)];exact bM,by simp[bn];omega,by simp[bn];omega,by omega⟩)
 have l2:(H++[some (⟨false,[.i64 0,.u64 0#64],none⟩:Blk)]++[some (⟨false,fT H.length sd rc s bo fs,none⟩:Blk)]).length=H.length+2:=by simp
 have c3:=c2.newM .ses rfl (vs:=[.ptr (H.length+1) 0,.i64 s,.u32 m,.u32 t]) (SesF.row (G:=G) ⟨by rw[aM (by omega),←l1];exact bM,by omega⟩)
 refine⟨_,G,_,_,⟨hS,c3,?_⟩,rfl,fun c k hc=>?_,H.length+2,rfl,by rw[←l2];exact bM⟩
 ·show H.length+2<_
  simp
 ·have :=h.lt hc
  rw[aM (by omega),aM (by omega),aM (by omega)];exact hc
end
end Go.Vm
end
section
namespace Go.Vm
section
section
variable {K K':Nat→Option Kd}{f:Ft}{fs gs:List Ft}{cs ds:List V}{n m i:Nat}
theorem Row.len:∀ {fs:List Ft} {cs:List V},Row K fs cs→cs.length=fs.length
 |[],[],_=>rfl
 |_::_,_::_,h=>by rw[List.length_cons,List.length_cons,Row.len h.2]
 |[],_::_,h=>h.elim
 |_::_,[],h=>h.elim
theorem Row.app:∀ {fs:List Ft} {cs:List V},Row K fs cs→Row K gs ds→Row K (fs++gs) (cs++ds)
 |[],[],_,h=>h
 |_::_,_::_,h,h2=>⟨h.1,Row.app h.2 h2⟩
 |[],_::_,h,_=>h.elim
 |_::_,[],h,_=>h.elim
theorem Row.split:∀ {fs:List Ft} {cs:List V},Row K (fs++gs) cs→Row K fs (cs.take fs.length)∧Row K gs (cs.drop fs.length)
 |[],cs,h=>⟨trivial,h⟩
 |_::_,_::_,h=>⟨⟨h.1,(Row.split h.2).1⟩,(Row.split h.2).2⟩
 |_::_,[],h=>h.elim
theorem jB:∀ (n:Nat) (fs:List Ft),(aU n fs).length=n*fs.length
 |0,_=>by simp[aU]
 |n+1,fs=>by rw[aU,List.length_append,jB n fs,Nat.succ_mul];omega
theorem jM:∀ (n m:Nat) (fs:List Ft),aU (n+m) fs=aU n fs++aU m fs
 |0,m,fs=>by simp[aU]
 |n+1,m,fs=>by rw[show n+1+m=(n+m)+1 by omega,aU,jM n m fs,aU,List.append_assoc]
theorem yf (fs:List Ft):aU 1 fs=fs:=by simp[aU]
theorem jI (h:Row K (aU n fs) cs)(h2:Row K fs ds):Row K (aU (n+1) fs) (cs++ds):=by
 rw[jM,yf];exact h.app h2
theorem F7 (h:Row K (aU (n+1) fs) cs):Row K (aU n fs) (cs.drop fs.length):=by
 rw[aU] at h
 exact h.split.2
theorem m7 (h:Row K (aU n fs) cs)(hi:i<n):Row K fs ((cs.drop (i*fs.length)).take fs.length):=by
 obtain⟨k,rfl⟩:∃ k,n=i+(k+1):=⟨n-i-1,by omega⟩
 rw[jM] at h
 have h2:=h.split.2
 rw[jB] at h2
 rw[aU] at h2
 exact h2.split.1
theorem jJ (h:Row K (aU n [f]) cs)(hi:i<n):fieldOk K f (cs.getD i .junk):=by
 have h1:=m7 h hi
 have hl:=h.len
 rw[jB] at hl
 simp at hl h1
 have e:(cs.drop i).take 1=[cs.getD i .junk]:=by
  rw[List.getD_eq_getElem?_getD,List.getElem?_eq_getElem (by omega),List.drop_eq_getElem_cons (by omega)];rfl
 rw[e] at h1
 exact h1.1
theorem hY (h:Row K (aU n [f]) cs):cs.length=n:=by have :=h.len;rw[jB] at this;simpa using this
end
section
variable {H H0:List (Option Blk)}{G G':Gh}{K K0:Nat→Option Kd}{W:Nat→Prop}{b:Nat}{kd:Kd}{vs:List V}
theorem Cur.putG (h:Cur K0 H0 W G K H)(hb:K b=some kd)(hk:kd.isMap=false)(hw:b<H0.length→W b)(hG:∀ c,c≠b→G.o c≤G'.o c∧G.g c≤G'.g c)(hr:Row K (aV G' b kd) vs):Cur K0 H0 W G' K (H.set b (some ⟨false,vs,none⟩)):=by
 have hlt:=h.wt.lt hb
 refine⟨h.wt.step b (fun _ _ _ _ e=>e) (fun d m n e=>⟨m,n,e⟩) (fun c kc hc=>?_) (h.wt.sane.put (Row.low h.wt.klt hr)),by rw[List.length_set];exact h.len,fun c hc hn=>by rw[aP (fun e=>by subst e;exact hn (hw hc))];exact h.keep c hc hn,h.kin,h.stay,h.ro.put⟩
 by_cases e:c=b
 ·subst e
  rw[hb] at hc;cases hc
  exact .inl ⟨_,aW hlt _,(iT hk).2 ⟨vs,rfl,hr⟩⟩
 ·exact .inr ⟨e,hc,aP (fun e'=>e e'.symm) _,(hG c e).1,(hG c e).2⟩
end
end
def fF (cl:Nat→Nat):List (List Nat×List Nat)→List (List Nat×List Nat)→Prop
 |[],[]=>True
 |x::l,y::l'=>((∀ b∈x.1,cl b∈y.1)∧(∀ b∈x.2,cl b∈y.2))∧fF cl l l'
 |_,_=>False
theorem yg {cl:Nat→Nat}:∀ {l l':List (List Nat×List Nat)},fF cl l l'→∀ (i:Nat) x,l[i]?=some x→∃ y,l'[i]?=some y∧(∀ b∈x.1,cl b∈y.1)∧(∀ b∈x.2,cl b∈y.2)
 |[],[],_,i,x,h=>by simp at h
 |x::l,y::l',h,0,z,hz=>by simp at hz;subst hz;exact⟨y,rfl,h.1⟩
 |x::l,y::l',h,i+1,z,hz=>by simpa using yg h.2 i z (by simpa using hz)
 |[],_::_,h,_,_,_=>h.elim
 |_::_,[],h,_,_,_=>h.elim
theorem xu {cl:Nat→Nat}{a b a' b':List Nat}(ha:∀ x∈a,cl x∈a')(hb:∀ x∈b,cl x∈b')(h:meets a' b'=false):meets a b=false:=by
 unfold meets at*
 rw[List.any_eq_false] at h ⊢
 intro x hx hc
 refine h (cl x) (ha x hx) ?_
 rw[List.contains_iff_mem] at hc ⊢
 exact hb x hc
theorem Ey {ops:Array Oper}{o o':Oper}{cl:Nat→Nat}{e e' f f':List Nat×List Nat}(h1:∀ b∈e.1,cl b∈f.1)(h2:∀ b∈e.2,cl b∈f.2)(h3:∀ b∈e'.1,cl b∈f'.1)(h4:∀ b∈e'.2,cl b∈f'.2)
  (h:eo ops o o' f f'=true):eo ops o o' e e'=true:=by
 unfold eo at*
 simp only[Bool.and_eq_true,Bool.not_eq_true'] at h ⊢
 obtain⟨⟨⟨a1,a2⟩,a3⟩,a4⟩:=h
 refine⟨⟨⟨a1,a2⟩,xu h2 (fun x hx=>?_) a3⟩,xu h4 (fun x hx=>?_) a4⟩
 ·rcases List.mem_append.1 hx with h|h
  ·exact List.mem_append.2 (.inl (h3 x h))
  ·exact List.mem_append.2 (.inr (h4 x h))
 ·rcases List.mem_append.1 hx with h|h
  ·exact List.mem_append.2 (.inl (h1 x h))
  ·exact List.mem_append.2 (.inr (h2 x h))
theorem co {ops:Array Oper}{tr:List (List Nat×List Nat)}(cl:Nat→Nat)(tr':List (List Nat×List Nat))(h:dJ ops tr'=true)(hs:fF cl tr tr'):dJ ops tr=true:=by
 unfold dJ at*
 simp only[List.all_eq_true] at h ⊢
 have up:∀ (x:Oper×(List Nat×List Nat)) (j:Nat),(x,j)∈(ops.toList.zip tr).zipIdx→∃ y,(∀ b∈x.2.1,cl b∈y.1)∧(∀ b∈x.2.2,cl b∈y.2)∧((x.1,y),j)∈(ops.toList.zip tr').zipIdx:=fun x j hx=>by
  rw[List.mem_zipIdx_iff_getElem?] at hx
  simp only at hx
  rw[List.getElem?_zip_eq_some] at hx
  obtain⟨h1,h2⟩:=hx
  obtain⟨y,g1,g2,g3⟩:=yg hs j x.2 h2
  refine⟨y,g2,g3,?_⟩
  rw[List.mem_zipIdx_iff_getElem?]
  simp only
  rw[List.getElem?_zip_eq_some]
  exact⟨h1,g1⟩
 rintro⟨x,j⟩ hx
 obtain⟨y,a1,a2,a3⟩:=up x j hx
 have hj:=h _ a3
 simp only[Bool.and_eq_true] at hj ⊢
 refine⟨hj.1,?_⟩
 have hj2:=hj.2
 rw[List.all_eq_true] at hj2 ⊢
 rintro⟨z,i⟩ hz
 obtain⟨u,b1,b2,b3⟩:=up z i hz
 have hi:=hj2 _ b3
 simp only[Bool.or_eq_true] at hi ⊢
 rcases hi with hi|hi
 ·exact .inl hi
 ·exact .inr (Ey b1 b2 a1 a2 hi)
def kg (N x:Nat):Nat:=if x<N then 0 else x-N+1
theorem yQ {N x:Nat}(h:x<N):kg N x=0:=if_pos h
theorem yR (N:Nat):kg N N=1:=by unfold kg;rw[if_neg (Nat.lt_irrefl N)];omega
theorem yh (N k:Nat):kg N (N+k)=k+1:=by unfold kg;rw[if_neg (by omega)];omega
theorem yi (cl:Nat→Nat):∀ (tr:List (List Nat×List Nat)),fF cl tr (tr.map fun e=>(e.1.map cl,e.2.map cl))
 |[]=>trivial
 |e::tr=>⟨⟨fun b hb=>List.mem_map.2 ⟨b,hb,rfl⟩,fun b hb=>List.mem_map.2 ⟨b,hb,rfl⟩⟩,yi cl tr⟩
theorem xv {ops:Array Oper}{tr tr':List (List Nat×List Nat)}(cl:Nat→Nat)(h:dJ ops tr'=true)(he:(tr.map fun e=>(e.1.map cl,e.2.map cl))=tr'):dJ ops tr=true:=
 co cl tr' h (by rw[←he];exact yi cl tr)
def cM (N x:Nat):Nat:=if x<N then 0 else 1
theorem ce {N x:Nat}(h:x<N):cM N x=0:=if_pos h
theorem j6 (N:Nat):cM N N=1:=if_neg (Nat.lt_irrefl N)
theorem sP (N k:Nat):cM N (N+k)=1:=if_neg (by omega)
theorem eH (N:Nat)(l:List Nat):(∀ b∈l,cM N b∈[0,1])=True:=eq_true fun b _=>by unfold cM;split <;>simp
theorem ia (n:Nat):gM (fun _=>False) n=[]:=by unfold gM;simp
theorem jN (N k:Nat):(∀ b∈List.range' N k,cM N b∈[1])=True:=eq_true fun b hb=>by
 rw[List.mem_range'_1] at hb
 unfold cM
 rw[if_neg (by omega)];simp
theorem Jw (N a b:Nat):cM N (N+a+b)=1:=if_neg (by omega)
theorem cC (cl:Nat→Nat)(x y:List Nat×List Nat)(l l':List (List Nat×List Nat)):fF cl (x::l) (y::l')=(((∀ b∈x.1,cl b∈y.1)∧(∀ b∈x.2,cl b∈y.2))∧fF cl l l'):=rfl
theorem cD (cl:Nat→Nat):fF cl [] []=True:=rfl
theorem cE (Q:Nat→Prop):(∀ b∈([]:List Nat),Q b)=True:=by simp
theorem all_cons (a:Nat)(l:List Nat)(Q:Nat→Prop):(∀ b∈a::l,Q b)=(Q a∧∀ b∈l,Q b):=by simp
theorem cT (l:List Nat):(0∈0::l)=True:=by simp
theorem fa:(1∈[1])=True:=by simp
def cU (d N x:Nat):Nat:=if x=d then 2 else if x<N then 0 else 1
theorem lL (d N:Nat):cU d N d=2:=if_pos rfl
theorem dO {d N x:Nat}(h:x<N)(hn:x≠d):cU d N x=0:=by unfold cU;rw[if_neg hn,if_pos h]
theorem sQ {d N k:Nat}(h:d<N):cU d N (N+k)=1:=by unfold cU;rw[if_neg (by omega),if_neg (by omega)]
theorem tN {d N:Nat}(h:d<N):cU d N N=1:=by unfold cU;rw[if_neg (by omega),if_neg (by omega)]
theorem lm (d N:Nat)(l:List Nat):(∀ b∈l,cU d N b∈[0,1,2])=True:=eq_true fun b _=>by unfold cU;split <;>(try split)<;>simp
theorem lw {d N n k:Nat}(h:N≤n):(∀ b∈gM (fun c=>c=d) n++List.range' n k,cU d N b∈[1,2])=True:=eq_true fun b hb=>by
 rcases List.mem_append.1 hb with hb|hb
 ·have :=(kO.1 hb).2
  subst this
  rw[lL];simp
 ·rw[List.mem_range'_1] at hb
  unfold cU
  split
  ·simp
  ·rw[if_neg (by omega)];simp
theorem pR (a:Nat):(2∈[a,2])=True:=by simp
end Go.Vm
end
section
namespace Go.Vm
open Go.Proofs
section
variable {G:Gh}{K:Nat→Option Kd}{H:List (Option Blk)}{b p d m n:Nat}
def l9 (v:V):Prop:=∃ s:List af,v= .str s∧s.length=32
theorem zm (h:WT G K H)(hd:K d=some (.dev m n)):∃ v G' K' H',Done Tryz.prog 35 [.ptr d 0] K H (fun c=>c=d) v G' K' H'∧br l9 G K v G' K':=by
 obtain⟨here,own,pub,seed,best,fresh,secret,index,firsts,now,busy,peers,paths,bucket,out,got,hg,hF⟩:=h.dev hd
 have hlt:=h.lt hd
 have hseed:=hF.fseed
 unfold bn at hseed
 obtain⟨_,_,hD,rfl,os,ho1,ho2,rfl⟩:=jD 1 (.inl rfl) seed (bz fresh.toNat 8) (by omega) (by rw[cn];omega) 1 (by omega) (by omega)
 obtain⟨k,rfl,hk⟩:=tW ho1 ho2
 have hA:=ku fresh
 generalize hbb:bz fresh.toNat 8=bb at*
 have hbl:bb.length=8:=by rw[←hbb];exact cn _ _
 refine bE (W:=fun c=>c=d) (Post:=br l9 G K) (by kernel_rfl) (fn:=Tryz.f35) Tryz.func35 rfl (by show 1≤29;decide) (ag ?_)
 simp only[go_sem,seval,hg]
 repeat refine aJ ?_
 refine dj [] (hA) (by kernel_rfl) (by simp) rfl (by simp) (by first|decide|simp) (by simp) (by simp) (by simp) (by simp) (by simp) ?_
 simp only[go_sem,seval,d9,hbl,List.take_of_length_le (show(bb.map V.u8).length≤8 by simp;omega)]
 repeat refine aJ ?_
 refine dj [] (hD) (by kernel_rfl) (by simp) rfl (by simp) (by first|decide|simp) (by simp) (by simp) (by simp) (by simp) (by simp) ?_
 simp only[go_sem,seval,hg,eg hlt]
 refine⟨xv (kg H.length) ?_ (by simp[yQ hlt,yR,yh];rfl),?_⟩
 ·kernel_rfl
 have hlt1:d<(H++[some (⟨false,bb.map .u8,none⟩:Blk)]++[some (⟨false,[.str k],none⟩:Blk)]).length:=by simp;omega
 simp only[go_sem,seval,aP (show d≠H.length+1 by omega)]
 repeat refine aJ ?_
 exact EndW.of ((((Cur.refl h _).junk (by simp)).junk (by simp[ac,V.low])).putW hd rfl (fun _=>rfl) (DevF.row (fresh:=fresh+1#64) {hF with})) trivial ⟨rfl,rfl,k,rfl,hk⟩
def zX (v:V):Prop:=∃ x:BitVec 32,v= .u32 x
theorem vF (h:WT G K H)(hd:K d=some (.dev m n)):∃ v G' K' H',Done Tryz.prog 83 [.ptr d 0] K H (fun c=>c=d) v G' K' H'∧br zX G K v G' K':=by
 obtain⟨here,own,pub,seed,best,fresh,secret,index,firsts,now,busy,peers,paths,bucket,out,got,hg,hF⟩:=h.dev hd
 have hlt:=h.lt hd
 refine bE (W:=fun c=>c=d) (Post:=br zX G K) (by kernel_rfl) (fn:=Tryz.f83) Tryz.func83 rfl (by show 1≤14;decide) (ag ?_)
 simp only[go_sem,seval,hg,aW hlt]
 repeat refine aJ ?_
 exact EndW.of ((Cur.refl h _).putW hd rfl (fun _=>rfl) (DevF.row (index:=index+1#32) {hF with})) trivial ⟨rfl,rfl,_,rfl⟩
theorem MH (h:WT G K H)(hd:K d=some (.dev m n))(b:Bool):∃ v G' K' H',Done Tryz.prog 24 [.ptr d 0,.bool b] K H (fun c=>c=d) v G' K' H'∧br (fun v=>v= .tup []) G K v G' K':=by
 obtain⟨here,own,pub,seed,best,fresh,secret,index,firsts,now,busy,peers,paths,bucket,out,got,hg,hF⟩:=h.dev hd
 have hlt:=h.lt hd
 refine bE (W:=fun c=>c=d) (Post:=br (fun v=>v= .tup []) G K) (by kernel_rfl) (fn:=Tryz.f24) Tryz.func24 rfl (by show 2≤8;decide) (ag ?_)
 simp only[go_sem,seval,hg]
 repeat refine aJ ?_
 exact EndW.of ((Cur.refl h _).putW hd rfl (fun _=>rfl) (DevF.row (busy:=b) {hF with})) (by simp[cN,V.low,ac]) ⟨rfl,rfl,rfl⟩
theorem uW (h:WT G K H)(hd:K d=some (.dev m n))(x:BitVec 32):∃ v G' K' H',Done Tryz.prog 86 [.ptr d 0,.u32 x] K H (fun _=>False) v G' K' H'∧br (StrP 32) G K v G' K':=by
 obtain⟨here,own,pub,seed,best,fresh,secret,index,firsts,now,busy,peers,paths,bucket,out,got,hg,hF⟩:=h.dev hd
 have hlt:=h.lt hd
 refine bE (W:=fun _=>False) (Post:=br (StrP 32) G K) (by kernel_rfl) (fn:=Tryz.f86) Tryz.func86 rfl (by show 2≤21;decide) (ag ?_)
 simp only[go_sem,seval,hg]
 repeat refine aJ ?_
 refine dN (Jr secret x now hF.fsecret) ?_
 rintro _ ⟨o,e,rfl,ho⟩
 simp only[go_sem,seval]
 repeat refine aJ ?_
 exact EndW.of (Cur.refl h _) trivial ⟨rfl,rfl,o,rfl,ho⟩
end
end Go.Vm
end
section
namespace Go.Vm
section
def Gh.add (G:Gh)(a b:Nat):Gh:=⟨fun x=>G.o x+a,fun x=>G.g x+b⟩
theorem Gh.add_add (G:Gh)(a b c d:Nat):(G.add a b).add c d=G.add (a+c) (b+d):=by
 unfold Gh.add
 simp only[Nat.add_assoc]
theorem Gh.add_zero (G:Gh):G.add 0 0=G:=rfl
section
variable {G G':Gh}{K K' K0:Nat→Option Kd}{H H0:List (Option Blk)}{W:Nat→Prop}{d m n:Nat}{cs:List V}{fs:List Ft}
theorem Cur.up (h:Cur K0 H0 W G K H){a b a' b':Nat}(h1:a≤a')(h2:b≤b')(e:G=G'.add a b):Cur K0 H0 W (G'.add a' b') K H:=by
 subst e
 exact h.room (fun c=>Nat.add_le_add_left h1 _) (fun c=>Nat.add_le_add_left h2 _)
def Ft.free:Ft→Bool
 | .str| .strN| .strS| .key| .key0| .ck| .u32| .u64| .i64| .bool| .rng _ _| .suite=>true
 |_=>false
theorem Ft.ofFree {f:Ft}{v:V}(hf:f.free=true)(h1:fieldOk K f v):fieldOk K' f v:=by
 cases f<;>first|exact h1|cases hf
theorem Row.free:∀ {fs:List Ft} {cs:List V},(∀ f∈fs,f.free=true)→Row K fs cs→Row K' fs cs
 |[],[],_,_=>trivial
 |f::_,_::_,h,hr=>⟨Ft.ofFree (h f (by simp)) hr.1,Row.free (fun g hg=>h g (by simp[hg])) hr.2⟩
 |[],_::_,_,h=>h.elim
 |_::_,[],_,h=>h.elim
theorem xw (h:Row K (aU n gramF) cs):Row K' (aU n gramF) cs:=Row.free (fun f hf=>by have :=eT hf;simp[gramF] at this;rcases this with rfl|rfl|rfl<;>rfl) h
theorem xx (h:Row K (aU n packF) cs):Row K' (aU n packF) cs:=Row.free (fun f hf=>by have :=eT hf;simp[packF] at this;rcases this with rfl|rfl|rfl<;>rfl) h
theorem F8 (h:Row K (aU n [.strS]) cs):Row K' (aU n [.strS]) cs:=Row.free (fun f hf=>by have :=eT hf;simp at this;subst this;rfl) h
theorem jO (h:Row K (aU n gramF) cs):cs.length=n*3:=by have :=h.len;rwa [jB] at this
theorem k9 (h:Row K (aU n packF) cs):cs.length=n*3:=by have :=h.len;rwa [jB] at this
theorem pS {k:Nat→Kd}{e mx mx':Nat}{v:V}(hk:∀ x n,K x=some (k n)→K' x=some (k n))(hm:mx≤mx')(h:fieldOk K (.sl k e mx) v):fieldOk K' (.sl k e mx') v:=by
 rcases h with rfl|⟨a,n,rfl,h1,h2,h3⟩
 ·exact .inl rfl
 ·exact .inr ⟨a,n,rfl,h1,by omega,hk a n h3⟩
theorem tO {k:Nat→Kd}{n:Nat}{v:V}(hk:∀ x n,K x=some (k n)→K' x=some (k n))(h:fieldOk K (.slE k n) v):fieldOk K' (.slE k n) v:=by
 rcases h with⟨h1,rfl⟩|⟨a,rfl,h1,h2⟩
 ·exact .inl ⟨h1,rfl⟩
 ·exact .inr ⟨a,rfl,h1,hk a n h2⟩
theorem lM {k:Kd}{v:V}(hk:∀ x,K x=some k→K' x=some k)(h:fieldOk K (.opt k) v):fieldOk K' (.opt k) v:=by
 rcases h with rfl|⟨c,rfl,h⟩
 ·exact .inl rfl
 ·exact .inr ⟨c,rfl,hk c h⟩
variable {here:BitVec 32}{own pub seed:List af}{best:Int}{fresh:BitVec 64}{secret:List af}{index:BitVec 32}{firsts now:Int}{busy:Bool}{peers:V}{paths bucket:Nat}{out got out' got':V}
theorem DevF.growOut (h:DevF G K d m n here own pub seed best fresh secret index firsts now busy peers paths bucket out got)(hk:∀ x k,(∀ j,k≠ .out d j)→K x=some k→K' x=some k)(hg:G.g d≤G'.g d)(ho:fieldOk K' (.sl (.out d) 3 (G'.o d)) out'):
  DevF G' K' d m n here own pub seed best fresh secret index firsts now busy peers paths bucket out' got:=
 ⟨h.fown,h.fpub,h.fseed,h.fbest,h.fsecret,h.fnow,tO (fun x n=>hk x _ (fun j e=>by cases e)) h.fpeers,hk _ _ (fun j e=>by cases e) h.fpaths,hk _ _ (fun j e=>by cases e) h.fbucket,ho,pS (fun x n=>hk x _ (fun j e=>by cases e)) hg h.fgot⟩
theorem DevF.growGot (h:DevF G K d m n here own pub seed best fresh secret index firsts now busy peers paths bucket out got)(hk:∀ x k,(∀ j,k≠ .got d j)→K x=some k→K' x=some k)(hg:G.o d≤G'.o d)(ho:fieldOk K' (.sl (.got d) 3 (G'.g d)) got'):
  DevF G' K' d m n here own pub seed best fresh secret index firsts now busy peers paths bucket out got':=
 ⟨h.fown,h.fpub,h.fseed,h.fbest,h.fsecret,h.fnow,tO (fun x n=>hk x _ (fun j e=>by cases e)) h.fpeers,hk _ _ (fun j e=>by cases e) h.fpaths,hk _ _ (fun j e=>by cases e) h.fbucket,pS (fun x n=>hk x _ (fun j e=>by cases e)) hg h.fout,ho⟩
theorem gD {b a:Nat}{X Y:List (Option Blk)}{x:Option Blk}(h:b<H.length)(hne:a≠b):aa ((H++X).set a x++Y) b=aa H b:=by
 rw[bW (by rw[List.length_set,List.length_append];omega),aP hne,bW h]
theorem mJ (h:WT G K H){a:Option Nat}{k':Option Kd}{x:Nat}{k:Kd}(hx:K x=some k)(hn:∀ y,a=some y→x≠y):aQ (bP a K) H.length k' x=some k:=by
 have :=h.lt hx
 rw[aM (by omega)]
 cases a with
 |none=>exact hx
 |some y=>exact(aM (hn y rfl)).trans hx
theorem yj {Q:Kd→Prop}(N:Nat)(hN:H.length=N)(hC:Cur K0 H0 (Wk Q K0) G K H)(hd:K d=some (.dev m n))(hq:Q (.dev m n))(hqo:∀ k,Q (.out d k))(hF:DevF G K d m n here own pub seed best fresh secret index firsts now busy peers paths bucket out got)(a:Option Nat)(k:Nat)
  (ha:∀ x,a=some x→K x=some (.out d k)) (hcs:Row K (aU k gramF) cs) (hk:k≤G.o d) (fr tg:BitVec 32) (x:List af) (hx:x.length≤1000000) (hx0:0<x.length):
  Cur K0 H0 (Wk Q K0) (G.add 1 0) (aQ (bP a K) N (some (.out d (k+1)))) ((cutH a H++[some (⟨false,cs++[.u32 fr,.u32 tg,.str x],none⟩:Blk)]).set d
   (some ⟨false,[.u32 here,.str own,.str pub,.str seed,.i64 best,.u64 fresh,.str secret,.u32 index,.i64 firsts,.i64 now,.bool busy,peers,.ptr paths 0,.ptr bucket 0,.slice N 0 (k+1) 3,got],none⟩)):=by
 subst hN
 have hkeep:∀ y kk,(∀ j,kk≠ .out d j)→K y=some kk→aQ (bP a K) H.length (some (.out d (k+1))) y=some kk:=fun y kk hn hy=>
  mJ hC.wt hy fun z hz e=>by subst e;rw[ha y hz] at hy;cases hy;exact hn _ rfl
 refine hC.grow hd rfl (hC.inK hd hq) a (fun y e=>⟨⟨_,ha y e,rfl,fun e2=>?_⟩,hC.inK (ha y e) (hqo k)⟩) (.out d (k+1)) rfl (fun c _=>⟨Nat.le_add_right _ _,Nat.le_refl _⟩) ?_ (DevF.row (hF.growOut hkeep (Nat.le_refl _) (.inr ⟨_,k+1,rfl,by omega,?_,bM⟩)))
 ·have :=ha y e
  rw[e2,hd] at this
  cases this
 ·exact jI (xw hcs) ⟨⟨_,rfl⟩,⟨_,rfl⟩,⟨x,rfl,hx,hx0⟩,trivial⟩
 ·show k+1≤G.o d+1
  omega
theorem yl {Q:Kd→Prop}(N:Nat)(hN:H.length=N)(hC:Cur K0 H0 (Wk Q K0) G K H)(hd:K d=some (.dev m n))(hq:Q (.dev m n))(hqo:∀ k,Q (.got d k))(hF:DevF G K d m n here own pub seed best fresh secret index firsts now busy peers paths bucket out got)(a:Option Nat)(k:Nat)
  (ha:∀ x,a=some x→K x=some (.got d k)) (hcs:Row K (aU k packF) cs) (hk:k≤G.g d) (fr:Int) (tg:BitVec 32) (x:List af) (hx:x.length≤bn):
  Cur K0 H0 (Wk Q K0) (G.add 0 1) (aQ (bP a K) N (some (.got d (k+1)))) ((cutH a H++[some (⟨false,cs++[.i64 fr,.u32 tg,.str x],none⟩:Blk)]).set d
   (some ⟨false,[.u32 here,.str own,.str pub,.str seed,.i64 best,.u64 fresh,.str secret,.u32 index,.i64 firsts,.i64 now,.bool busy,peers,.ptr paths 0,.ptr bucket 0,out,.slice N 0 (k+1) 3],none⟩)):=by
 subst hN
 have hkeep:∀ y kk,(∀ j,kk≠ .got d j)→K y=some kk→aQ (bP a K) H.length (some (.got d (k+1))) y=some kk:=fun y kk hn hy=>
  mJ hC.wt hy fun z hz e=>by subst e;rw[ha y hz] at hy;cases hy;exact hn _ rfl
 refine hC.grow hd rfl (hC.inK hd hq) a (fun y e=>⟨⟨_,ha y e,rfl,fun e2=>?_⟩,hC.inK (ha y e) (hqo k)⟩) (.got d (k+1)) rfl (fun c _=>⟨Nat.le_refl _,Nat.le_add_right _ _⟩) ?_ (DevF.row (hF.growGot hkeep (Nat.le_refl _) (.inr ⟨_,k+1,rfl,by omega,?_,bM⟩)))
 ·have :=ha y e
  rw[e2,hd] at this
  cases this
 ·exact jI (xx hcs) ⟨⟨_,rfl⟩,⟨_,rfl⟩,⟨x,rfl,hx⟩,trivial⟩
 ·show k+1≤G.g d+1
  omega
end
end
section
section
variable {P:Program}{m n N k:Nat}{R:Exit→St→Prop}{ks:List Fr}{l:List Oper}{ops:Array Oper}{dst:Option Tmp}{t:List (Nat×V)}
variable {f:FuncId}{args:List V}{H H0:List (Option Blk)}{G:Gh}{K K0:Nat→Option Kd}{W:Nat→Prop}{b:Nat}{bs cs:List af}
theorem dt {c:Nat}{x y:Option Blk}(h:c<H.length):aa ((H++[x]).set H.length y) c=aa H c:=by rw[aP (by omega),bW h]
theorem d7 {x y:Option Blk}:aa ((H++[x]).set H.length y) H.length=y:=aW (by simp) _
theorem j7 {Q:Kd→Prop}{k:Kd}(hp:K b=some k)(hq:¬ Q k):¬ Wk Q K b:=fun⟨k',e,h⟩=>by rw[hp] at e;cases e;exact hq h
theorem Cur.jcut (h:Cur K0 H0 W G K H)(hb:K b=none)(hlt:H0.length≤b):Cur K0 H0 W G K (H.set b none):=
 ⟨⟨fun c kc hc=>by
  obtain⟨B,hB,hf⟩:=h.wt.all c kc hc
  exact⟨B,by rw[aP (fun e=>by subst e;rw[hb] at hc;cases hc)];exact hB,hf⟩,h.wt.sane.cut⟩,by rw[List.length_set];exact h.len,fun c hc hn=>by rw[aP (by omega)];exact h.keep c hc hn,h.kin,h.stay,h.ro.cut⟩
theorem Cur.boxed {zs ys:List V}(hC:Cur K0 H0 W G K H)(h1:ac (H.length+1) zs)(h2:ac (H.length+1) ys):Cur K0 H0 W G K ((H++[some (⟨false,zs,none⟩:Blk)]).set H.length (some ⟨false,ys,none⟩)):=
 (hC.junk h1).jput (hC.wt.fresh (Nat.le_refl _)) hC.len (by rw[List.length_append];exact h2)
theorem iO (N:Nat)(l:List af):ac N (l.map .u8):=by
 induction l with
 |nil=>trivial
 |cons x l ih=>exact⟨trivial,ih⟩
theorem xy (σ:Nat→Nat)(l:List af):rens σ (l.map .u8)=l.map .u8:=by
 induction l with
 |nil=>unfold rens;rfl
 |cons x l ih=>rw[List.map_cons];unfold rens V.ren;rw[ih]
theorem wq {h':List (Option Blk)}(hs:ao P f (.slice 0 0 N 1::args) [some ⟨false,bs.map .u8,none⟩] (.slice 1 0 k 1) [none,some ⟨false,cs.map .u8,none⟩])(hf:∀ σ,rens σ args=args)(hal:ac 1 args)(hg:aa H b=some ⟨false,bs.map .u8,none⟩):
  rens (ah [b]) (.slice 0 0 N 1::args)= .slice b 0 N 1::args∧dU (ah [b]) 1 ⟨t,H⟩ [some ⟨false,bs.map .u8,none⟩] 0∧az [b] H [none,some ⟨false,cs.map .u8,none⟩]=H.set b none++[some ⟨false,cs.map .u8,none⟩]:=by
 refine⟨?_,⟨⟨?_,iO _ _⟩,trivial⟩,?_⟩
 ·unfold rens V.ren;rw[hf];rfl
 ·show aa H b=_
  rw[hg]
  show _=some (Blk.mk _ (rens _ _) _)
  rw[xy]
 ·unfold az
  simp only[bR,cK,bU,cY,Option.map_none,Option.map_some,List.map_cons,List.map_nil,Blk.ren,xy]
theorem zY (b:Nat)(x y:Option Blk):ah (au [b] N [x,y]) 1=N:=by
 rw[fM (by simp) (by simp)];simp
theorem B4 (hC:Cur K0 H0 W G K H)(hb:K b=none)(hb0:H0.length≤b)(hg:aa H b=some ⟨false,bs.map .u8,none⟩)(hs:ao P f (.slice 0 0 N 1::args) [some ⟨false,bs.map .u8,none⟩] (.slice 1 0 k 1) [none,some ⟨false,cs.map .u8,none⟩])
  (hf:∀ σ,rens σ args=args) (hal:ac 1 args) (hc:cw P f=true)
  (hk:∀ H',Cur K0 H0 W G K H'→(∀ c,c<H.length→c≠b→aa H' c=aa H c)→aa H' H.length=some ⟨false,cs.map .u8,none⟩→H'.length=H.length+1→dp P m n R l ops ks ⟨cz t dst (.slice H.length 0 k 1),H'⟩):
  gH P m n R (.fn f [] []) (.slice b 0 N 1::args) dst l ops ks ⟨t,H⟩:=by
 have hlt:=aj hg
 obtain⟨h1,h2,h3⟩:=wq (t:=t) (h':=[]) hs hf hal hg
 refine aA [b] hs hc (by simpa using h1) rfl ⟨Nat.one_pos,hal⟩ (by simp) (fun x hx=>by rw[List.mem_singleton.1 hx];exact hlt) (by simp[gC]) h2 (by simp[fR]) (by simp) ?_
 have key:=hk (H.set b none++[some ⟨false,cs.map .u8,none⟩]) ((hC.jcut hb hb0).junk (iO _ _)) (fun c hc hn=>by rw[bW (by rw[List.length_set];exact hc),aP (fun e=>hn e.symm)]) (by
  have :=d9 (H.set b none) (some (⟨false,cs.map .u8,none⟩:Blk)) []
  rwa [List.length_set] at this) (by simp)
 rw[←h3,←zY (N:=H.length) b none (some ⟨false,cs.map .u8,none⟩)] at key
 exact key
theorem Bm {tr:Tr}(hC:Cur K0 H0 W G K H)(hb:K b=none)(hb0:H0.length≤b)(hg:aa H b=some ⟨false,bs.map .u8,none⟩)(hs:ao P f (.slice 0 0 N 1::args) [some ⟨false,bs.map .u8,none⟩] (.slice 1 0 k 1) [none,some ⟨false,cs.map .u8,none⟩])
  (hf:∀ σ,rens σ args=args) (hal:ac 1 args) (hc:cw P f=true)
  (hk:∀ H',Cur K0 H0 W G K H'→(∀ c,c<H.length→c≠b→aa H' c=aa H c)→aa H' H.length=some ⟨false,cs.map .u8,none⟩→H'.length=H.length+1→dn P m n R l (tr++[([b],[b,H.length])]) ops ks ⟨cz t dst (.slice H.length 0 k 1),H'⟩):
  eF P m n R (.fn f [] []) (.slice b 0 N 1::args) dst l tr ops ks ⟨t,H⟩:=by
 have hlt:=aj hg
 obtain⟨h1,h2,h3⟩:=wq (t:=t) (h':=[]) hs hf hal hg
 refine dj [b] hs hc (by simpa using h1) rfl ⟨Nat.one_pos,hal⟩ (by simp) (fun x hx=>by rw[List.mem_singleton.1 hx];exact hlt) (by simp[gC]) h2 (by simp[fR]) (by simp) ⟨fun x hx=>?_,?_⟩
 ·have hx':x∈[(b,(none:Option Blk))]:=hx
  rw[List.mem_singleton.1 hx'];exact hlt
 have key:=hk (H.set b none++[some ⟨false,cs.map .u8,none⟩]) ((hC.jcut hb hb0).junk (iO _ _)) (fun c hc hn=>by rw[bW (by rw[List.length_set];exact hc),aP (fun e=>hn e.symm)]) (by
  have :=d9 (H.set b none) (some (⟨false,cs.map .u8,none⟩:Blk)) []
  rwa [List.length_set] at this) (by simp)
 rw[←h3,←zY (N:=H.length) b none (some ⟨false,cs.map .u8,none⟩)] at key
 exact key
variable {v v':V}{ds:List V}
theorem wr (hs:ao P f args [] v [])(ha:∀ σ,rens σ args=args)(hal:ac 0 args)(hv:∀ σ,v.ren σ=v):ao P f args H v H:=by
 have h:=kP (H:=H) hs [] rfl hal (by simp) (by simp) (fun b B e=>by simp[aa] at e) (fun b B e=>by simp[aa] at e) (Nat.le_refl _)
 rw[ha,hv] at h
 have e:az [] H []=H:=by simp[az,bR,cK,bU]
 rw[e] at h
 exact h
theorem oD (hs:ao P f args [] v [some ⟨false,ds,none⟩])(ha:∀ σ,rens σ args=args)(hal:ac 0 args)(hd:∀ σ,rens σ ds=ds)(hv:∀ σ:Nat→Nat,σ 0=H.length→v.ren σ=v'):ao P f args H v' (H++[some ⟨false,ds,none⟩]):=by
 have h:=kP (H:=H) hs [] rfl hal (by simp) (by simp) (fun b B e=>by simp[aa] at e) (fun b B e _=>by
  match b with
  |0=>have e':some (⟨false,ds,none⟩:Blk)=some B:=e;cases e';rfl
  |b+1=>simp[aa] at e) (Nat.zero_le _)
 have h0:ah (au [] H.length [some (⟨false,ds,none⟩:Blk)]) 0=H.length:=by rw[fM (by simp) (by simp)];simp
 rw[ha,hv _ h0] at h
 have e:az [] H [some (⟨false,ds,none⟩:Blk)]=H++[some ⟨false,ds,none⟩]:=by simp[az,bR,cK,bU,cY,Blk.ren,hd]
 rw[e] at h
 exact h
end
end
section
section
variable {G G':Gh}{K K' K0:Nat→Option Kd}{H H0:List (Option Blk)}{W:Nat→Prop}{p d a:Nat}{ds:List V}
theorem Jx {X Y:Option Blk}{J N:List (Option Blk)}(hp:p<H.length)(hne:p≠a):(((H.set p X++J).set a none)++N).set p Y=(((H++J).set a none)++N).set p Y:=by
 have e1:H.set p X++J=(H++J).set p X:=(List.set_append_left p X hp).symm
 rw[e1,List.set_comm _ _ hne]
 have e2:((H++J).set a none).set p X++N=(((H++J).set a none)++N).set p X:=(List.set_append_left p X (by rw[List.length_set,List.length_append];omega)).symm
 rw[e2,List.set_set]
theorem MI {X y:Option Blk}:aa (H.set p X++[y]) H.length=y:=by
 have :=dm (H:=H.set p X) (x:=y)
 rwa [List.length_set] at this
attribute [go_sem] MI
def qA:Kd→Prop
 | .dev _ _| .out _ _| .got _ _| .timer| .pair| .win| .peer _| .waits _ _| .bucket| .bmap=>True
 |_=>False
variable {tm:Nat}{num:Int}{pub psk:List af}{at_:BitVec 32}{knows pin:Int}{stamped:Bool}{sec nano:Int}{cookie:List af}{until_:Int}{waits waits' begun:V}{bindex:BitVec 32}{btext:List af}{old session next:V}
theorem PeerF.growWaits (h:PeerF G K p d tm num pub psk at_ knows pin stamped sec nano cookie until_ waits begun bindex btext old session next)(hk:∀ x k,(∀ j,k≠ .waits p j)→K x=some k→K' x=some k)(ho:fieldOk K' (.sl (.waits p) 1 4) waits'):
  PeerF G' K' p d tm num pub psk at_ knows pin stamped sec nano cookie until_ waits' begun bindex btext old session next:=
 ⟨by obtain⟨m,n,e⟩:=h.fdv;exact⟨m,n,hk _ _ (fun j e=>by cases e) e⟩,hk _ _ (fun j e=>by cases e) h.ftm,h.fpub,h.fpsk,h.fknows,h.fpin,h.fcookie,ho,lM (fun x=>hk x _ (fun j e=>by cases e)) h.fbegun,h.fbtext,lM (fun x=>hk x _ (fun j e=>by cases e)) h.fold,lM (fun x=>hk x _ (fun j e=>by cases e)) h.fsession,lM (fun x=>hk x _ (fun j e=>by cases e)) h.fnext⟩
theorem rb {Q:Kd→Prop}(N:Nat)(hN:H.length=N)(hC:Cur K0 H0 (Wk Q K0) G K H)(hp:K p=some (.peer d))(hq:Q (.peer d))(hqo:∀ k,Q (.waits p k))(hF:PeerF G K p d tm num pub psk at_ knows pin stamped sec nano cookie until_ waits begun bindex btext old session next)
  (a:Option Nat) (ka k:Nat) (ha:∀ x,a=some x→K x=some (.waits p ka)) (hk0:0<k) (hk:k≤4) (hds:Row K (aU k [.strS]) ds):
  Cur K0 H0 (Wk Q K0) G (aQ (bP a K) N (some (.waits p k))) ((cutH a H++[some (⟨false,ds,none⟩:Blk)]).set p
   (some ⟨false,[.ptr d 0,.ptr tm 0,.i64 num,.str pub,.str psk,.u32 at_,.i64 knows,.i64 pin,.bool stamped,.i64 sec,.i64 nano,.str cookie,.i64 until_,.slice N 0 k 1,begun,.u32 bindex,.str btext,old,session,next],none⟩)):=by
 subst hN
 have hkeep:∀ y kk,(∀ j,kk≠ .waits p j)→K y=some kk→aQ (bP a K) H.length (some (.waits p k)) y=some kk:=fun y kk hn hy=>
  mJ hC.wt hy fun z hz e=>by subst e;rw[ha y hz] at hy;cases hy;exact hn _ rfl
 refine hC.grow hp rfl (hC.inK hp hq) a (fun y e=>⟨⟨_,ha y e,rfl,fun e2=>?_⟩,hC.inK (ha y e) (hqo ka)⟩) (.waits p k) rfl (fun c _=>⟨Nat.le_refl _,Nat.le_refl _⟩) (F8 hds) (PeerF.row (hF.growWaits (G':=G) hkeep (.inr ⟨_,k,rfl,hk0,hk,bM⟩)))
 have :=ha y e
 rw[e2,hp] at this
 cases this
end
end
section
section
variable {G G':Gh}{K K' K0:Nat→Option Kd}{H H' H0:List (Option Blk)}{W:Nat→Prop}{b c d m n n' N:Nat}{k kc:Kd}{cs ds:List V}
theorem WT.growDev (h:WT G K H)(hb:K b=some (.dev m n))(a:Option Nat)(ha:∀ x,a=some x→∃ ka,K x=some ka∧ka.own=some b∧x≠b)(k':Kd)(hk':k'.isMap=false)(hkd:∀ i j,k'≠ .dev i j)
  (hds:Row (aQ (aQ (bP a K) H.length (some k')) b (some (.dev m n'))) (aV G H.length k') ds) (hr:Row (aQ (aQ (bP a K) H.length (some k')) b (some (.dev m n'))) (aV G b (.dev m n')) cs):
  WT G (aQ (aQ (bP a K) H.length (some k')) b (some (.dev m n'))) ((cutH a H++[some (⟨false,ds,none⟩:Blk)]).set b (some ⟨false,cs,none⟩)):=by
 have hlt:=h.lt hb
 have hlen:(cutH a H).length=H.length:=by cases a<;>simp[cutH]
 have hold:∀ c kc,bP a K c=some kc→K c=some kc∧a≠some c:=by
  intro c kc e
  cases a with
  |none=>exact⟨e,fun e2=>by cases e2⟩
  |some x=>
   by_cases e2:c=x
   ·subst e2
    have e3:bP (some c) K c=none:=bM
    rw[e3] at e;cases e
   ·have e4:bP (some x) K c=K c:=aM e2
    rw[e4] at e
    exact⟨e,fun e3=>e2 (Option.some.inj e3).symm⟩
 have hkeep:∀ c kc,K c=some kc→c≠b→a≠some c→aQ (aQ (bP a K) H.length (some k')) b (some (.dev m n')) c=some kc:=fun c kc e hcb hn=>by
  have :=h.lt e
  rw[aM hcb,aM (by omega)]
  cases a with
  |none=>exact e
  |some x=>exact(aM (fun e2=>hn (by rw[e2]))).trans e
 have hget:∀ c,c<H.length→c≠b→a≠some c→aa ((cutH a H++[some (⟨false,ds,none⟩:Blk)]).set b (some ⟨false,cs,none⟩)) c=aa H c:=fun c h1 h2 h3=>by
  rw[aP (fun e=>h2 e.symm),bW (by rw[hlen];exact h1)]
  cases a with
  |none=>rfl
  |some x=>exact aP (fun e=>h3 (by rw[e])) _
 have hK':∀ c kc,aQ (aQ (bP a K) H.length (some k')) b (some (.dev m n')) c=some kc→c<H.length+1:=fun c kc e=>by
  by_cases e1:c=b
  ·omega
  rw[aM e1] at e
  by_cases e2:c=H.length
  ·omega
  ·rw[aM e2] at e
   have :=h.lt (hold c kc e).1
   omega
 have hs0:Sane (cutH a H):=by
  cases a with
  |none=>exact h.sane
  |some x=>exact h.sane.cut
 refine h.step b (fun x k2 g1 g2 e=>?_) (fun d i j e=>?_) (fun c kc hc=>?_) ?_
 ·refine hkeep x k2 e (fun e2=>by subst e2;rw[hb] at e;cases e;cases g1) fun e2=>?_
  obtain⟨ka,h1,h2,-⟩:=ha x e2
  rw[e] at h1;cases h1
  exact g2 h2
 ·by_cases e1:d=b
  ·subst e1;exact⟨m,n',bM⟩
  ·refine⟨i,j,hkeep d _ e e1 fun e2=>?_⟩
   obtain⟨ka,h1,h2,-⟩:=ha d e2
   rw[e] at h1;cases h1;cases h2
 ·by_cases e2:c=b
  ·subst e2
   rw[bM] at hc;cases hc
   exact .inl ⟨_,aW (by rw[List.length_append,hlen];omega) _,(iT rfl).2 ⟨cs,rfl,hr⟩⟩
  ·rw[aM e2] at hc
   by_cases e:c=H.length
   ·subst e
    rw[bM] at hc;cases hc
    refine .inl ⟨_,?_,(iT hk').2 ⟨ds,rfl,hds⟩⟩
    rw[aP (by omega)]
    have :=d9 (cutH a H) (some (⟨false,ds,none⟩:Blk)) []
    rw[hlen] at this
    exact this
   ·rw[aM e] at hc
    obtain⟨g1,g2⟩:=hold c kc hc
    exact .inr ⟨e2,g1,hget c (h.lt g1) e2 g2,Nat.le_refl _,Nat.le_refl _⟩
 ·refine Sane.put (Sane.app1 hs0 (by rw[hlen];exact Row.low hK' hds)) ?_
  rw[List.length_append,hlen]
  exact Row.low hK' hr
theorem Cur.growDev (h:Cur K0 H0 W G K H)(hK0:∀ c kc,K0 c=some kc→c<H0.length)(hb:K b=some (.dev m n))(hb0:H0.length≤b)(a:Option Nat)(ha:∀ x,a=some x→(∃ ka,K x=some ka∧ka.own=some b∧x≠b)∧H0.length≤x)(k':Kd)(hk':k'.isMap=false)(hkd:∀ i j,k'≠ .dev i j)
  (hds:Row (aQ (aQ (bP a K) H.length (some k')) b (some (.dev m n'))) (aV G H.length k') ds) (hr:Row (aQ (aQ (bP a K) H.length (some k')) b (some (.dev m n'))) (aV G b (.dev m n')) cs):
  Cur K0 H0 W G (aQ (aQ (bP a K) H.length (some k')) b (some (.dev m n'))) ((cutH a H++[some (⟨false,ds,none⟩:Blk)]).set b (some ⟨false,cs,none⟩)):=by
 have hlen:(cutH a H).length=H.length:=by cases a<;>simp[cutH]
 have hl:=h.len
 have hcut:∀ c,c<H0.length→bP a K c=K c∧aa (cutH a H) c=aa H c:=fun c hc=>by
  cases a with
  |none=>exact⟨rfl,rfl⟩
  |some x=>
   have :=(ha x rfl).2
   exact⟨aM (by omega),aP (by omega) _⟩
 refine⟨h.wt.growDev hb a (fun x e=>(ha x e).1) k' hk' hkd hds hr,by rw[List.length_set,List.length_append,hlen];omega,fun c hc hn=>?_,fun c kk hc e=>?_,fun c kc hk2 e=>?_,((h.ro.cutH a).app).put⟩
 ·rw[aP (by omega),bW (by rw[hlen];omega),(hcut c hc).2]
  exact h.keep c hc hn
 ·rw[aM (by omega),aM (by omega),(hcut c hc).1] at e
  exact h.kin c _ hc e
 ·have h1:=h.stay c kc hk2 e
  have h2:=h.wt.lt h1
  have hc:=hK0 c kc e
  rw[aM (by omega),aM (by omega),(hcut c hc).1]
  exact h1
theorem WT.newMap (h:WT G K H){mm:MapC}(hm:jY mm):WT G (aQ K H.length (some .bmap)) (H++[some ⟨false,[],some mm⟩]):=by
 have hf:=h.fresh (Nat.le_refl H.length)
 refine h.step H.length (fun x k' _ _ e=>h.old e) (rX (fun m n e=>by rw[hf] at e;cases e)) (fun c kc hc=>?_) (h.sane.app1 (cs:=[]) trivial)
 by_cases e:c=H.length
 ·subst e
  rw[bM] at hc;cases hc
  exact .inl ⟨_,d9 _ _ _,mm,rfl,hm⟩
 ·rw[aM e] at hc
  exact .inr ⟨e,hc,bW (h.lt hc) _,Nat.le_refl _,Nat.le_refl _⟩
theorem Cur.newMap (h:Cur K0 H0 W G K H){mm:MapC}(hm:jY mm):Cur K0 H0 W G (aQ K H.length (some .bmap)) (H++[some ⟨false,[],some mm⟩]):=
 ⟨h.wt.newMap hm,by rw[List.length_append];exact Nat.le_trans h.len (Nat.le_add_right _ _),fun c hc hn=>by rw[bW (Nat.lt_of_lt_of_le hc h.len)];exact h.keep c hc hn,
  fun c k hc e=>by rw[aM (by have :=h.len;omega)] at e;exact h.kin c k hc e,fun c kc hk2 e=>h.wt.old (h.stay c kc hk2 e),h.ro.app⟩
theorem WT.typ (h:WT G K H)(hb:K b=none)(k:Kd)(hk:k.isMap=false)(hg:aa H b=some ⟨false,cs,none⟩)(hr:Row (aQ K b (some k)) (aV G b k) cs):WT G (aQ K b (some k)) H:=by
 refine h.step b (fun x k' _ _ e=>?_) (rX (fun m n e=>by rw[hb] at e;cases e)) (fun c kc hc=>?_) h.sane
 ·rw[aM (fun e2=>by subst e2;rw[hb] at e;cases e)];exact e
 ·by_cases e:c=b
  ·subst e
   rw[bM] at hc;cases hc
   exact .inl ⟨_,hg,(iT hk).2 ⟨cs,rfl,hr⟩⟩
  ·rw[aM e] at hc
   exact .inr ⟨e,hc,rfl,Nat.le_refl _,Nat.le_refl _⟩
theorem Cur.typ (h:Cur K0 H0 W G K H)(hb:K b=none)(hb0:H0.length≤b)(k:Kd)(hk:k.isMap=false)(hg:aa H b=some ⟨false,cs,none⟩)(hr:Row (aQ K b (some k)) (aV G b k) cs):Cur K0 H0 W G (aQ K b (some k)) H:=
 ⟨h.wt.typ hb k hk hg hr,h.len,h.keep,fun c kc hc e=>by rw[aM (by omega)] at e;exact h.kin c kc hc e,fun c kc hk2 e=>by
  have :=h.stay c kc hk2 e
  rw[aM (fun e2=>by subst e2;rw[hb] at this;cases this)];exact this,h.ro⟩
end
end
section
section
variable {G:Gh}{K K0:Nat→Option Kd}{H H0:List (Option Blk)}{W:Nat→Prop}{d m n q:Nat}{ps:List V}
variable {here:BitVec 32}{own pub seed:List af}{best:Int}{fresh:BitVec 64}{secret:List af}{index:BitVec 32}{firsts now:Int}{busy:Bool}{peers:V}{paths bucket:Nat}{out got:V}
theorem zn {N x:Nat}(h:N≤x):cM N x=1:=if_neg (by omega)
theorem MJ {N x k:Nat}(h:N≤x):cM N (x+k)=1:=if_neg (by omega)
theorem pA {d N x:Nat}(h:N≤x)(hd:d<N):cU d N x=1:=by unfold cU;rw[if_neg (by omega),if_neg (by omega)]
theorem MK {d N x k:Nat}(h:N≤x)(hd:d<N):cU d N (x+k)=1:=by unfold cU;rw[if_neg (by omega),if_neg (by omega)]
theorem oW {b a:Nat}{X Y Z:List (Option Blk)}{x:Option Blk}(h:b<H.length)(hne:a≠b):aa ((H++X++Y).set a x++Z) b=aa H b:=by
 rw[bW (by rw[List.length_set,List.length_append,List.length_append];omega),aP hne,eg h]
theorem tk:(1∈[1,2])=True:=by simp
theorem ML {d N k:Nat}(hd:d<N):(∀ b∈List.range' N k,cU d N b∈[1])=True:=eq_true fun b hb=>by
 rw[List.mem_range'_1] at hb
 rw[pA hb.1 hd];simp
def zZ (n0 d:Nat)(H:List (Option Blk)):Prop:=∀ B pa n e,aa H d=some B→B.cs.getD 11 .junk= .slice pa 0 n e→n0≤pa
def jr (K:Nat→Option Kd)(a:Option Nat)(N d m n:Nat):Nat→Option Kd:=aQ (aQ (bP a K) N (some (.peers d n))) d (some (.dev m n))
theorem oX {a:Option Nat}{N n':Nat}{x:Nat}{k:Kd}(hx:K x=some k)(h1:x≠d)(h2:x≠N)(ha:a≠some x):jr K a N d m n' x=some k:=by
 unfold jr
 rw[aM h1,aM h2]
 cases a with
 |none=>exact hx
 |some y=>exact(aM (fun e=>ha (by rw[e]))).trans hx
theorem wu (N:Nat)(hN:H.length=N)(hC:Cur K0 H0 W G K H)(hK0:∀ c kc,K0 c=some kc→c<H0.length)(hd:K d=some (.dev m n))(hd0:H0.length≤d)(hF:DevF G K d m n here own pub seed best fresh secret index firsts now busy peers paths bucket out got)(a:Option Nat)
  (ha:∀ x,a=some x→K x=some (.peers d n)∧H0.length≤x) (hps:Row K (aU n [.ptr (.peer d)]) ps) (hq:K q=some (.peer d)):
  Cur K0 H0 W G (jr K a N d m (n+1)) ((cutH a H++[some (⟨false,ps++[.ptr q 0],none⟩:Blk)]).set d
   (some ⟨false,[.u32 here,.str own,.str pub,.str seed,.i64 best,.u64 fresh,.str secret,.u32 index,.i64 firsts,.i64 now,.bool busy,.slice N 0 (n+1) 1,.ptr paths 0,.ptr bucket 0,out,got],none⟩)):=by
 subst hN
 have hld:=hC.wt.lt hd
 have hkeep:∀ y kk,kk≠ .peers d n→kk≠ .dev m n→K y=some kk→jr K a H.length d m (n+1) y=some kk:=fun y kk h1 h2 hy=>by
  have hy2:=hC.wt.lt hy
  refine oX hy (fun e=>?_) (by omega) fun e=>?_
  ·subst e;rw[hd] at hy;cases hy;exact h2 rfl
  ·have :=(ha y e).1
   rw[hy] at this;cases this;exact h1 rfl
 have hd':jr K a H.length d m (n+1) d=some (.dev m (n+1)):=bM
 have hr:Row (jr K a H.length d m (n+1)) (aU (n+1) [.ptr (.peer d)]) (ps++[.ptr q 0]):=by
  refine jI (Row.mono (fun e i j he=>?_) (fun f hf x k' hr he=>?_) hps) ⟨⟨q,rfl,hkeep _ _ (by simp) (by simp) hq⟩,trivial⟩
  ·by_cases e1:e=d
   ·subst e1;exact⟨m,n+1,hd'⟩
   ·have hl:=hC.wt.lt he
    refine⟨i,j,oX he e1 (by omega) fun e2=>?_⟩
    have :=(ha e e2).1
    rw[he] at this;cases this
  ·have :=eT hf
   simp at this
   subst this
   unfold Ft.refs at hr
   subst hr
   exact hkeep x _ (by simp) (by simp) he
 refine hC.growDev hK0 hd hd0 a (fun x e=>⟨⟨_,(ha x e).1,rfl,fun e2=>?_⟩,(ha x e).2⟩) (.peers d (n+1)) rfl (fun i j e=>by cases e) hr (DevF.row (fresh:=fresh) ⟨hF.fown,hF.fpub,hF.fseed,hF.fbest,hF.fsecret,hF.fnow,.inr ⟨_,rfl,by omega,?_⟩,hkeep _ _ (by simp) (by simp) hF.fpaths,hkeep _ _ (by simp) (by simp) hF.fbucket,pS (fun x j=>hkeep x _ (by simp) (by simp)) (Nat.le_refl _) hF.fout,pS (fun x j=>hkeep x _ (by simp) (by simp)) (Nat.le_refl _) hF.fgot⟩)
 ·have :=(ha x e).1
  rw[e2,hd] at this
  cases this
 ·show jr K a H.length d m (n+1) H.length=_
  unfold jr
  rw[aM (by omega)]
  exact bM
end
end
end Go.Vm
end
section
namespace Go.Vm
open Go.Proofs
section
variable {G:Gh}{K K0:Nat→Option Kd}{H H0:List (Option Blk)}{a b c p q d m n M l s:Nat}{xs:List Nat}{cs:List V}
theorem pf (h:WT G K H)(seed:List af)(hs:seed.length=32)(hg:aa H s=some ⟨false,[.str seed],none⟩)(n:Int):
  ∃ v G' K' H',Done Tryz.prog 19 [.i64 n,.ptr s 0] K H (fun _=>False) v G' K' H'∧br l9 G K v G' K':=by
 have hlt:=aj hg
 obtain⟨_,_,hD,rfl,os,ho1,ho2,rfl⟩:=jD 1 (.inl rfl) seed [BitVec.ofInt 8 n] (by omega) (by simp) 1 (by omega) (by omega)
 obtain⟨k,rfl,hk⟩:=tW ho1 ho2
 refine bE (W:=fun _=>False) (Post:=br l9 G K) (by kernel_rfl) (fn:=Tryz.f19) Tryz.func19 rfl (by show 2≤18;decide) (ag ?_)
 simp only[go_sem,seval,hg]
 repeat refine aI ?_
 refine aA [] (hD) (by kernel_rfl) (by simp) rfl (by simp) (by first|decide|simp) (by simp) (by simp) (by simp) (by simp) (by simp) ?_
 simp only[go_sem,seval]
 repeat refine aI ?_
 exact EndW.of (((Cur.refl h _).junk (by simp[ac,V.low])).junk (by simp[ac,V.low])) trivial ⟨rfl,rfl,k,rfl,hk⟩
theorem Ft.oneFree {f:Ft}{v:V}(hf:f.free=true)(h:fieldOk K f v):v.one=true∧(∀ σ,v.ren σ=v)∧(∀ n,v.low n):=by
 cases f<;>first|(cases hf;done)|skip
 all_goals unfold fieldOk at h
 case suite=>rcases h with rfl|rfl<;>exact⟨rfl,fun σ=>by simp[V.ren,rens],fun n=>by simp[V.low,ac]⟩
 all_goals first
  |(obtain⟨x,rfl,-⟩:=h;exact⟨rfl,fun _=>rfl,fun _=>trivial⟩)
  |(obtain⟨x,rfl⟩:=h;exact⟨rfl,fun _=>rfl,fun _=>trivial⟩)
theorem Row.oneFree:∀ {fs:List Ft} {cs:List V},(∀ f∈fs,f.free=true)→Row K fs cs→(∀ u∈cs,u.one=true)∧(∀ σ,rens σ cs=cs)∧(∀ n,ac n cs)
 |[],[],_,_=>⟨by simp,fun _=>rfl,fun _=>trivial⟩
 |f::fs,v::vs,hf,h=>by
  obtain⟨h1,h2,h3⟩:=Ft.oneFree (hf f (by simp)) h.1
  obtain⟨g1,g2,g3⟩:=Row.oneFree (fun f' hf'=>hf f' (by simp[hf'])) h.2
  refine⟨fun u hu=>?_,fun σ=>?_,fun n=>⟨h3 n,g3 n⟩⟩
  ·rcases List.mem_cons.1 hu with rfl|hu
   ·exact h1
   ·exact g1 u hu
  ·unfold rens;rw[h2,g2]
 |[],_::_,_,h=>h.elim
 |_::_,[],_,h=>h.elim
theorem lp (h:Row K (aU n gramF) cs):(∀ u∈cs,u.one=true)∧(∀ σ,rens σ cs=cs)∧(∀ n,ac n cs):=Row.oneFree (fun f hf=>by have :=eT hf;simp[gramF] at this;rcases this with rfl|rfl|rfl<;>rfl) h
theorem m9 (h:Row K (aU n packF) cs):(∀ u∈cs,u.one=true)∧(∀ σ,rens σ cs=cs)∧(∀ n,ac n cs):=Row.oneFree (fun f hf=>by have :=eT hf;simp[packF] at this;rcases this with rfl|rfl|rfl<;>rfl) h
theorem Ez:ao Tryz.prog 16 [.nilSlice] [] .nilSlice []:=by
 refine aR (by kernel_rfl) (fn:=Tryz.f16) Tryz.func16 rfl (by show 1≤8;decide) (ag ?_)
 simp only[go_sem,seval,Tryz.ntmps16,Tryz.results16]
 exact Fin.ren [] (by simp) (by simp) (by rfl) (by decide) (by simp) (by simp)
theorem EA:ao Tryz.prog 18 [.nilSlice] [] .nilSlice []:=by
 refine aR (by kernel_rfl) (fn:=Tryz.f18) Tryz.func18 rfl (by show 1≤8;decide) (ag ?_)
 simp only[go_sem,seval,Tryz.ntmps18,Tryz.results18]
 exact Fin.ren [] (by simp) (by simp) (by rfl) (by decide) (by simp) (by simp)
theorem B6:ao Tryz.prog 16 [.slice 0 0 0 3] [some ⟨false,[],none⟩] (.slice 1 0 0 3) [some ⟨false,[],none⟩,some ⟨false,[],none⟩]:=by
 refine aR (by kernel_rfl) (fn:=Tryz.f16) Tryz.func16 rfl (by show 1≤8;decide) (ag ?_)
 simp only[go_sem,seval,Tryz.ntmps16,Tryz.results16]
 refine Fin.id (s:=⟨_,[some ⟨false,[],none⟩,some ⟨false,[],none⟩]⟩) ?_
 show 1≤2
 decide
theorem C7 (n:Nat)(hn:0<n)(hn2:n≤7000000000000)(ds:List V)(hl:ds.length=n*3)(ho:(∀ u∈ds,u.one=true)∧(∀ σ,rens σ ds=ds)∧(∀ n,ac n ds)):ao Tryz.prog 16 [.slice 0 0 n 3] [some ⟨false,ds,none⟩] (.slice 1 0 n 3) [some ⟨false,ds,none⟩,some ⟨false,ds,none⟩]:=by
 obtain⟨o1,o2,o3⟩:=ho
 refine aR (by kernel_rfl) (fn:=Tryz.f16) Tryz.func16 rfl (by show 1≤8;decide) (ag ?_)
 simp only[go_sem,seval,Tryz.ntmps16,Tryz.results16]
 repeat refine aI ?_
 simp only[go_sem,seval,show(n=0)=False from eq_false (by omega),List.take_of_length_le (show ds.length≤n*3 by omega),Nat.min_eq_left (show n*3≤ds.length by omega)]
 refine⟨⟨by omega,by omega,by omega,o1⟩,?_⟩
 exact Fin.ren [0,2] (by simp) (by simp) (by rfl) (by decide) (by simp) (by simp[o2,o3])
theorem C8 (n:Nat)(hn:0<n)(hn2:n≤7000000000000)(ds:List V)(hl:ds.length=n*3)(ho:(∀ u∈ds,u.one=true)∧(∀ σ,rens σ ds=ds)∧(∀ n,ac n ds)):ao Tryz.prog 18 [.slice 0 0 n 3] [some ⟨false,ds,none⟩] (.slice 1 0 n 3) [some ⟨false,ds,none⟩,some ⟨false,ds,none⟩]:=by
 obtain⟨o1,o2,o3⟩:=ho
 refine aR (by kernel_rfl) (fn:=Tryz.f18) Tryz.func18 rfl (by show 1≤8;decide) (ag ?_)
 simp only[go_sem,seval,Tryz.ntmps18,Tryz.results18]
 repeat refine aI ?_
 simp only[go_sem,seval,show(n=0)=False from eq_false (by omega),List.take_of_length_le (show ds.length≤n*3 by omega),Nat.min_eq_left (show n*3≤ds.length by omega)]
 refine⟨⟨by omega,by omega,by omega,o1⟩,?_⟩
 exact Fin.ren [0,2] (by simp) (by simp) (by rfl) (by decide) (by simp) (by simp[o2,o3])
end
section
variable {G:Gh}{K K0:Nat→Option Kd}{H H0:List (Option Blk)}{a b c p q d m n M l s:Nat}{xs:List Nat}{cs:List V}
theorem jK:∀ {xs:List Nat} {cs:List V},Row K (xs.map .pnode) cs→cs.length=xs.length∧∀ i x,xs[i]?=some x→cs.getD i .junk= .ptr x 0∧∃ c m,K x=some (.node c m)
 |[],[],_=>⟨rfl,by simp⟩
 |x::xs,v::vs,h=>by
  obtain⟨g1,g2⟩:=jK (xs:=xs) h.2
  refine⟨by simp[g1],fun i y hy=>?_⟩
  cases i with
  |zero=>
   have :x=y:=by simpa using hy
   subst this
   exact h.1
  |succ i=>exact g2 i y (by simpa using hy)
 |[],_::_,h=>h.elim
 |_::_,[],h=>h.elim
def tP (xs:List Nat)(n:Int)(v:V):Prop:=(v= .nilPtr∧¬ (0≤n∧n<xs.length))∨∃ (i x:Nat),n=(i:Int)∧xs[i]?=some x∧v= .ptr x 0
theorem si (h:WT G K H)(hl:K l=some (.link xs))(n:Int):∃ v G' K' H',Done Tryz.prog 17 [.ptr l 0,.i64 n] K H (fun _=>False) v G' K' H'∧br (tP xs n) G K v G' K':=by
 obtain⟨nodes,air,hg,hF⟩:=h.link hl
 refine bE (W:=fun _=>False) (Post:=br (tP xs n) G K) (by kernel_rfl) (fn:=Tryz.f17) Tryz.func17 rfl (by show 2≤23;decide) (ag ?_)
 simp only[go_sem,seval,hg]
 repeat refine aI ?_
 have none_:∀ t,¬ (0≤n∧n<xs.length)→EndW K H (fun _=>False) (br (tP xs n) G K) .nilPtr ⟨t,H⟩:=fun t hn=>EndW.of (s:=⟨t,H⟩) (Cur.refl h _) trivial ⟨rfl,rfl,.inl ⟨rfl,hn⟩⟩
 by_cases hn0:n<0
 ·simp only[go_sem,seval,hn0,decide_true]
  repeat refine aI ?_
  exact none_ _ (by omega)
 rcases hF.fnodes with⟨h0,rfl⟩|⟨a,rfl,hx0,ha⟩
 ·have hn1:(0:Int)≤n:=by omega
  simp only[go_sem,seval,hn0,hn1,decide_false,decide_true]
  repeat refine aI ?_
  exact none_ _ (by omega)
 obtain⟨cs,hga,hr⟩:=h.row ha rfl
 obtain⟨hlen,hrow⟩:=jK hr
 by_cases hn1:(xs.length:Int)≤n
 ·simp only[go_sem,seval,hn0,hn1,decide_false,decide_true]
  repeat refine aI ?_
  exact none_ _ (by omega)
 obtain⟨i,rfl⟩:∃ i:Nat,n=(i:Int):=⟨n.toNat,by omega⟩
 have hi:i<xs.length:=by omega
 obtain⟨hx,c,m,hc⟩:=hrow i xs[i] (List.getElem?_eq_getElem hi)
 have q0:(0:Int)≤i:=by omega
 have q1:(i:Int)<xs.length:=by omega
 simp only[go_sem,seval,hn0,hn1,decide_false,hg,hga,hx,hlen]
 repeat refine aI ?_
 exact EndW.of (Cur.refl h _) (h.lt hc) ⟨rfl,rfl,.inr ⟨i,_,rfl,List.getElem?_eq_getElem hi,rfl⟩⟩
end
section
variable {G:Gh}{K:Nat→Option Kd}{H:List (Option Blk)}{b p d m n:Nat}
def zI (K:Nat→Option Kd)(d:Nat)(v:V):Prop:=v= .nilPtr∨∃ p,v= .ptr p 0∧K p=some (.peer d)
theorem ym (h:WT G K H)(hd:K d=some (.dev m n))(hm:n≤1000000)(x:List af):∃ v G' K' H',Done Tryz.prog 32 [.ptr d 0,.str x] K H (fun _=>False) v G' K' H'∧br (zI K d) G K v G' K':=by
 obtain⟨here,own,pub,seed,best,fresh,secret,index,firsts,now,busy,peers,paths,bucket,out,got,hg,hF⟩:=h.dev hd
 have hlt:=h.lt hd
 refine bE (W:=fun _=>False) (Post:=br (zI K d) G K) (by kernel_rfl) (fn:=Tryz.f32) Tryz.func32 rfl (by show 2≤24;decide) (ag ?_)
 simp only[go_sem,seval,hg]
 have hps:=hF.fpeers
 rcases hps with⟨rfl,rfl⟩|⟨a,rfl,hn,ha⟩
 ·simp only[go_sem,seval]
  repeat refine aJ ?_
  refine bI 1 ?_
  simp only[go_sem,seval]
  exact EndW.of (Cur.refl h _) trivial ⟨rfl,rfl,.inl rfl⟩
 obtain⟨cs,hga,hr⟩:=h.row ha rfl
 have hlen:=hY hr
 simp only[go_sem,seval]
 repeat refine aJ ?_
 refine aH (fun j st=>∃ i:Nat,i+j=n∧st=⟨[(0,.ptr d 0),(1,.str x),(10,.slice a 0 n 1),(11,.i64 n),(12,.i64 i)],H⟩) ?_ ?_
 ·exact aX n ⟨[(0,.ptr d 0),(1,.str x),(10,.slice a 0 n 1),(11,.i64 n),(12,.i64 (0:Nat))],H⟩ (by simp[St.get,ae]) rfl (fun _ _ h=>h) ⟨0,by omega,rfl⟩
 rintro j st ⟨i,hij,rfl⟩-
 by_cases hi:i<n
 ·have hi':(i:Int)<n:=by omega
  have hw1:=cd (i:=i) (by omega)
  obtain⟨q,hq,hqK⟩:=jJ hr hi
  obtain⟨tm,num,qub,psk,at_,kn,pin,stp,sec,nano,ck,un,wv,bg,bi,bt,ol,se,ne,hgq,hQ⟩:=h.peer hqK
  simp only[go_sem,seval,hi',hga,hq,hgq,hlen]
  repeat refine aJ ?_
  split
  ·exact EndW.of (Cur.refl h _) (h.lt hqK) ⟨rfl,rfl,.inr ⟨q,rfl,hqK⟩⟩
  ·exact aS (j-1) ⟨[(0,.ptr d 0),(1,.str x),(10,.slice a 0 n 1),(11,.i64 n),(12,.i64 (i+1:Nat))],H⟩ (by omega) (by simp[St.get,ae,hw1]) rfl (fun _ _ h=>h) ⟨i+1,by omega,rfl⟩
 ·have hi':¬ (i:Int)<n:=by omega
  simp only[go_sem,seval,hi']
  exact EndW.of (Cur.refl h _) trivial ⟨rfl,rfl,.inl rfl⟩
end
section
variable {G:Gh}{K:Nat→Option Kd}{H:List (Option Blk)}{b p d m n:Nat}
def HasP (H:List (Option Blk))(p i:Nat):Prop:=∃ B c,aa H p=some B∧B.cs.getD i .junk= .ptr c 0
theorem HasP.keep {H':List (Option Blk)}{i:Nat}(h:HasP H p i)(e:aa H' p=aa H p):HasP H' p i:=by
 obtain⟨B,c,h1,h2⟩:=h
 exact⟨B,c,e.trans h1,h2⟩
def z8 (K:Nat→Option Kd)(H:List (Option Blk))(d:Nat)(v:V):Prop:=v= .nilPtr∨∃ p,v= .ptr p 0∧K p=some (.peer d)∧HasP H p 14
theorem ww (h:WT G K H)(hd:K d=some (.dev m n))(hm:n≤1000000)(x:List af)(hx:4≤x.length)(hx2:x.length≤10000000):∃ v G' K' H',Done Tryz.prog 95 [.ptr d 0,.str x] K H (fun _=>False) v G' K' H'∧br (z8 K H d) G K v G' K':=by
 obtain⟨here,own,pub,seed,best,fresh,secret,index,firsts,now,busy,peers,paths,bucket,out,got,hg,hF⟩:=h.dev hd
 have hlt:=h.lt hd
 refine bE (W:=fun _=>False) (Post:=br (z8 K H d) G K) (by kernel_rfl) (fn:=Tryz.f95) Tryz.func95 rfl (by show 2≤34;decide) (ag ?_)
 simp only[go_sem,seval,hg]
 have hps:=hF.fpeers
 rcases hps with⟨rfl,rfl⟩|⟨a,rfl,hn,ha⟩
 ·simp only[go_sem,seval]
  repeat refine aJ ?_
  refine bI 1 ?_
  simp only[go_sem,seval]
  exact EndW.of (Cur.refl h _) trivial ⟨rfl,rfl,.inl rfl⟩
 obtain⟨cs,hga,hr⟩:=h.row ha rfl
 have hlen:=hY hr
 simp only[go_sem,seval]
 repeat refine aJ ?_
 refine aH (fun j st=>∃ i:Nat,i+j=n∧st=⟨[(0,.ptr d 0),(1,.str x),(10,.slice a 0 n 1),(11,.i64 n),(12,.i64 i)],H⟩) ?_ ?_
 ·exact aX n ⟨[(0,.ptr d 0),(1,.str x),(10,.slice a 0 n 1),(11,.i64 n),(12,.i64 (0:Nat))],H⟩ (by simp[St.get,ae]) rfl (fun _ _ h=>h) ⟨0,by omega,rfl⟩
 rintro j st ⟨i,hij,rfl⟩-
 by_cases hi:i<n
 ·have hi':(i:Int)<n:=by omega
  have hw1:=cd (i:=i) (by omega)
  obtain⟨q,hq,hqK⟩:=jJ hr hi
  obtain⟨tm,num,qub,psk,at_,kn,pin,stp,sec,nano,ck,un,wv,bg,bi,bt,ol,se,ne,hgq,hQ⟩:=h.peer hqK
  have hnext:∀ t,ae t 0= .ptr d 0→ae t 1= .str x→ae t 10= .slice a 0 n 1→ae t 11= .i64 n→ae t 12= .i64 (ai ((i:Int)+1))→eX H.length 34 (fun j st=>∃ i:Nat,i+j=n∧st=⟨[(0,.ptr d 0),(1,.str x),(10,.slice a 0 n 1),(11,.i64 n),(12,.i64 i)],H⟩) j ⟨t,H⟩:=fun t h0 h1 h2 h3 h4=>
   aS (j-1) ⟨[(0,.ptr d 0),(1,.str x),(10,.slice a 0 n 1),(11,.i64 n),(12,.i64 (i+1:Nat))],H⟩ (by omega) (by simp[St.get,h0,h1,h2,h3,h4,hw1]) rfl (fun _ _ h=>h) ⟨i+1,by omega,rfl⟩
  rcases hQ.fbegun with rfl|⟨bc,rfl,hbc⟩
  ·simp only[go_sem,seval,hi',hga,hq,hgq,hlen]
   repeat refine aJ ?_
   exact hnext _ rfl rfl rfl rfl rfl
  ·simp only[go_sem,seval,hi',hga,hq,hgq,hlen]
   repeat refine aJ ?_
   refine aC (dF (x.take 4) (by simp;omega)) ?_
   simp only[go_sem,seval]
   repeat refine aJ ?_
   split
   ·exact EndW.of (Cur.refl h _) (h.lt hqK) ⟨rfl,rfl,.inr ⟨q,rfl,hqK,_,bc,hgq,rfl⟩⟩
   ·exact hnext _ rfl rfl rfl rfl rfl
 ·have hi':¬ (i:Int)<n:=by omega
  simp only[go_sem,seval,hi']
  exact EndW.of (Cur.refl h _) trivial ⟨rfl,rfl,.inl rfl⟩
def Aa (H:List (Option Blk))(p:Nat)(v:V):Prop:=∃ r:Bool,v= .bool r∧(r=true→HasP H p 18)
theorem xz (h:WT G K H)(hp:K p=some (.peer d)):∃ v G' K' H',Done Tryz.prog 38 [.ptr p 0] K H (fun _=>False) v G' K' H'∧br (Aa H p) G K v G' K':=by
 obtain⟨tm,num,qub,psk,at_,kn,pin,stp,sec,nano,ck,un,wv,bg,bi,bt,ol,se,ne,hgq,hQ⟩:=h.peer hp
 obtain⟨m,n,hd⟩:=hQ.fdv
 obtain⟨here,own,pub,seed,best,fresh,secret,index,firsts,now,busy,peers,paths,bucket,out,got,hg,hF⟩:=h.dev hd
 refine bE (W:=fun _=>False) (Post:=br (Aa H p) G K) (by kernel_rfl) (fn:=Tryz.f38) Tryz.func38 rfl (by show 1≤26;decide) (ag ?_)
 simp only[go_sem,seval,hgq]
 repeat refine aJ ?_
 rcases hQ.fsession with rfl|⟨sc,rfl,hsc⟩
 ·simp only[go_sem,seval]
  repeat refine aJ ?_
  exact EndW.of (Cur.refl h _) trivial ⟨rfl,rfl,_,rfl,by simp⟩
 ·obtain⟨pc,su,mine,theirs,hgs,hS⟩:=h.ses hsc
  simp only[go_sem,seval,hgq,hg,hgs]
  repeat refine aJ ?_
  refine bN (sh h hS.fpair now) (by kernel_rfl) rfl (by simp[ac,V.low,h.lt hS.fpair]) h.sane ?_
  rintro _ G1 K1 H1 hC1 hl1 ⟨rfl,rfl,r,rfl⟩
  simp only[go_sem,seval]
  refine⟨?_,?_⟩
  ·refine co (cM H.length) [([],[]),([],[]),([],[]),([0],[]),([],[]),([],[]),([],[]),([],[]),([],[]),([0],[]),([],[]),([],[]),([0],[]),([],[]),([],[]),([],[]),([0],[]),([],[]),([],[]),([0],[]),([0,1],[0,1]),([],[]),([],[]),([],[])] (by kernel_rfl) (by simp only[cC,cD,cE,eH,all_cons,ia,List.nil_append,ce (h.lt hp),ce (h.lt hd),ce (h.lt hsc),cT,and_true])
  exact EndW.of hC1 trivial ⟨rfl,rfl,_,rfl,fun _=>⟨_,sc,hgq,rfl⟩⟩
end
section
variable {G:Gh}{K:Nat→Option Kd}{H:List (Option Blk)}{b p d m n:Nat}
def Ab (lo hi:Nat)(v:V):Prop:=∃ o:List af,v= .str o∧lo≤o.length∧o.length≤hi
theorem yS (h:WT G K H)(hp:K p=some (.peer d))(x:List af)(hx:x.length≤1000000):∃ v G' K' H',Done Tryz.prog 85 [.ptr p 0,.str x] K H (fun _=>False) v G' K' H'∧br (Ab x.length (x.length+64)) G K v G' K':=by
 obtain⟨tm,num,qub,psk,at_,kn,pin,stp,sec,nano,ck,un,wv,bg,bi,bt,ol,se,ne,hgq,hQ⟩:=h.peer hp
 obtain⟨m,n,hd⟩:=hQ.fdv
 obtain⟨here,own,pub,seed,best,fresh,secret,index,firsts,now,busy,peers,paths,bucket,out,got,hg,hF⟩:=h.dev hd
 have h1:=hQ.fpub
 have h2:=hQ.fcookie
 refine bE (W:=fun _=>False) (Post:=br (Ab x.length (x.length+64)) G K) (by kernel_rfl) (fn:=Tryz.f85) Tryz.func85 rfl (by show 2≤35;decide) (ag ?_)
 simp only[go_sem,seval,hgq,hg]
 repeat refine aJ ?_
 split
 ·refine bh (yd qub [] x h1 (.inl rfl) (by omega)) ?_
  rintro _ ⟨o,e,rfl,ho,ho2⟩
  simp only[go_sem,seval]
  exact EndW.of (Cur.refl h _) trivial ⟨rfl,rfl,o,rfl,ho,ho2⟩
 ·refine bh (yd qub ck x h1 h2 (by omega)) ?_
  rintro _ ⟨o,e,rfl,ho,ho2⟩
  simp only[go_sem,seval]
  exact EndW.of (Cur.refl h _) trivial ⟨rfl,rfl,o,rfl,ho,ho2⟩
def qG:Kd→Prop
 | .dev _ _| .out _ _=>True
 |_=>False
def fU (v:V):Prop:=v= .tup []
def bC (a b:Nat)(Q:V→Prop)(G:Gh):V→Gh→(Nat→Option Kd)→Prop:=fun v G' _=>G'=G.add a b∧Q v
theorem pg (h:WT G K H)(hd:K d=some (.dev m n))(tgt:BitVec 32)(x:List af)(hx:x.length≤1000000)(hx0:0<x.length)(ho:G.o d≤1000000):∃ v G' K' H',Done Tryz.prog 58 [.ptr d 0,.u32 tgt,.str x] K H (Wk qG K) v G' K' H'∧bC 1 0 fU G v G' K':=by
 obtain⟨here,own,pub,seed,best,fresh,secret,index,firsts,now,busy,peers,paths,bucket,out,got,hg,hF⟩:=h.dev hd
 have hlt:=h.lt hd
 refine bE (W:=Wk qG K) (Post:=bC 1 0 fU G) (by kernel_rfl) (fn:=Tryz.f58) Tryz.func58 rfl (by show 3≤24;decide) (ag ?_)
 simp only[go_sem,seval,hg]
 by_cases h0:tgt=0#32
 ·simp only[go_sem,seval,h0,not_true,decide_false]
  exact EndW.of ((Cur.refl h _).up (G':=G) (Nat.zero_le 1) (Nat.le_refl 0) rfl) trivial ⟨rfl,rfl⟩
 simp only[go_sem,seval,h0,not_false_eq_true,decide_true]
 repeat refine aJ ?_
 have hC1:=(Cur.start (Q:=qG) h).junk (vs:=[.u32 here,.u32 tgt,.str x]) (mm:=none) (by simp[ac,V.low])
 have hxb:x.length≤bn:=by unfold bn;omega
 rcases hF.fout with rfl|⟨a,k,rfl,hk0,hk,ha⟩
 ·simp only[go_sem,seval,hg,eg hlt]
  repeat refine aI ?_
  refine And.intro ?_ ?_
  ·refine co (cM H.length) [([],[]),([],[]),([],[]),([],[]),([0],[]),([],[]),([],[]),([],[]),([0],[]),([],[]),([],[]),([],[]),([],[1]),([0,1],[0,1]),([],[]),([],[]),([0,1],[0,1])] (by kernel_rfl) (by simp only[cC,cD,cE,eH,all_cons,j6,ce hlt,cT,fa,and_true])
  exact EndW.of (yj (H.length+1) (by simp) hC1 hd trivial (fun _=>trivial) hF none 0 (fun _ e=>by cases e) (cs:=[]) trivial (Nat.zero_le _) here tgt x hx hx0) trivial ⟨rfl,rfl⟩
 ·obtain⟨cs,hga,hr⟩:=h.row ha rfl
  have hl:=jO hr
  have hlta:=h.lt ha
  have hne:a≠d:=fun e=>by subst e;rw[hd] at ha;cases ha
  simp only[go_sem,seval,hg,hga,dH hlta,gD hlt hne,List.drop_zero,List.take_of_length_le (show cs.length≤k*3 by omega)]
  repeat refine aI ?_
  refine And.intro ?_ ?_
  ·refine co (cM H.length) [([],[]),([],[]),([],[]),([],[]),([0],[]),([],[]),([],[]),([],[]),([0],[]),([],[]),([],[]),([],[]),([],[1]),([0,1],[0,1]),([],[]),([],[]),([0,1],[0,1])] (by kernel_rfl) (by simp only[cC,cD,cE,eH,all_cons,j6,ce hlt,cT,fa,and_true])
  exact EndW.of (yj (H.length+1) (by simp) hC1 hd trivial (fun _=>trivial) hF (some a) k (fun _ e=>by cases e;exact ha) hr hk here tgt x hx hx0) trivial ⟨rfl,rfl⟩
end
section
variable {G:Gh}{K:Nat→Option Kd}{H:List (Option Blk)}{b p d m n:Nat}
theorem F9 (h:WT G K H)(hp:K p=some (.peer d))(x:List af)(hx:x.length≤900000)(hx0:0<x.length)(ho:G.o d≤1000000):∃ v G' K' H',Done Tryz.prog 94 [.ptr p 0,.str x] K H (Wk qG K) v G' K' H'∧bC 1 0 fU G v G' K':=by
 obtain⟨tm,num,qub,psk,at_,kn,pin,stp,sec,nano,ck,un,wv,bg,bi,bt,ol,se,ne,hgq,hQ⟩:=h.peer hp
 obtain⟨m,n,hd⟩:=hQ.fdv
 refine bE (W:=Wk qG K) (Post:=bC 1 0 fU G) (by kernel_rfl) (fn:=Tryz.f94) Tryz.func94 rfl (by show 2≤16;decide) (ag ?_)
 simp only[go_sem,seval,hgq]
 repeat refine aI ?_
 refine bN (yS h hp x (by omega)) (by kernel_rfl) rfl (by simp[ac,V.low,h.lt hp]) h.sane ?_
 rintro _ G1 K1 H1 hC1 hl1 ⟨rfl,rfl,o,rfl,ho1,ho2⟩
 simp only[go_sem,seval]
 repeat refine aI ?_
 refine bN (pg hC1.wt hd at_ o (by omega) (by omega) ho) (by kernel_rfl) rfl (by simp[ac,V.low,hC1.wt.lt hd]) hC1.wt.sane ?_
 rintro _ G2 K2 H2 hC2 hl2 ⟨rfl,rfl⟩
 simp only[go_sem]
 refine And.intro ?_ ?_
 ·refine co (cM H.length) [([],[]),([],[]),([],[]),([0],[]),([],[]),([],[]),([],[]),([0],[]),([],[]),([],[]),([0,1],[1]),([0,1],[0,1])] (by kernel_rfl) (by simp only[cC,cD,cE,eH,all_cons,ia,List.nil_append,jN,ce (h.lt hp),cT,and_true])
 exact EndW.of ((hC1.mono fun _ h=>h.elim).callK hC2 fun _ h=>h) trivial ⟨rfl,rfl⟩
def qS:Kd→Prop
 | .dev _ _| .out _ _| .timer| .pair=>True
 |_=>False
theorem yn:∀ k,qG k→qS k:=fun k h=>by cases k<;>first|exact h|trivial
theorem nc (h:WT G K H)(hp:K p=some (.peer d))(hs:HasP H p 18)(x:List af)(hx:x.length≤100000)(ho:G.o d≤1000000):∃ v G' K' H',Done Tryz.prog 39 [.ptr p 0,.str x] K H (Wk qS K) v G' K' H'∧bC 1 0 fU G v G' K':=by
 obtain⟨tm,num,qub,psk,at_,kn,pin,stp,sec,nano,ck,un,wv,bg,bi,bt,ol,se,ne,hgq,hQ⟩:=h.peer hp
 obtain⟨m,n,hd⟩:=hQ.fdv
 obtain⟨here,own,pub,seed,best,fresh,secret,index,firsts,now,busy,peers,paths,bucket,out,got,hg,hF⟩:=h.dev hd
 obtain⟨B,sc,hB,hB2⟩:=hs
 rw[hgq] at hB;cases hB
 obtain rfl:se= .ptr sc 0:=hB2
 have hsc:K sc=some .ses:=by
  rcases hQ.fsession with e|⟨c,e,hc⟩
  ·cases e
  ·cases e;exact hc
 obtain⟨pc,su,mine,theirs,hgs,hS⟩:=h.ses hsc
 refine bE (W:=Wk qS K) (Post:=bC 1 0 fU G) (by kernel_rfl) (fn:=Tryz.f39) Tryz.func39 rfl (by show 2≤95;decide) (ag ?_)
 simp only[go_sem,seval,hgq,hg,hgs]
 repeat refine aI ?_
 refine bN (Js h hS.fpair x (by omega) now) (by kernel_rfl) rfl (by simp[ac,V.low,h.lt hS.fpair]) h.sane ?_
 rintro _ G1 K1 H1 hC1 hl1 ⟨rfl,rfl,k,s,e,rfl,hs1⟩
 simp only[go_sem,seval]
 repeat refine aI ?_
 have hD1:Cur K1 H (Wk qS K1) G1 K1 H1:=hC1.mono fun b e=>by subst e;exact⟨_,hS.fpair,trivial⟩
 by_cases h0:e=0
 rotate_left
 ·simp only[go_sem,seval,h0,not_false_eq_true]
  exact EndW.of (hD1.up (G':=G1) (Nat.zero_le 1) (Nat.le_refl 0) rfl) trivial ⟨rfl,rfl⟩
 subst h0
 have kp:∀ c k,K1 c=some k→c≠pc→aa H1 c=aa H c:=fun c k hc hn=>hC1.keep c (h.lt hc) hn
 have hg1:=(kp p _ hp fun e=>by have :=hS.fpair;rw[←e,hp] at this;cases this).trans hgq
 have hs1':=(kp sc _ hsc fun e=>by have :=hS.fpair;rw[←e,hsc] at this;cases this).trans hgs
 have hd1:=(kp d _ hd fun e=>by have :=hS.fpair;rw[←e,hd] at this;cases this).trans hg
 have hw1:=hC1.wt
 have hA4:=pV [4#8,0#8] (theirs.setWidth 64) (by simp)
 have hA8:=js ([4#8,0#8]++aE (theirs.setWidth 64).toNat 4) (BitVec.ofInt 64 k) (by simp[bL])
 simp only[List.length_append,bL] at hA8
 simp only[go_sem,seval,not_true,hg1,hs1',dH (hw1.lt hp),dH (hw1.lt hsc)]
 repeat refine aI ?_
 have hC2:=hD1.junk (vs:=[.u8 4#8,.u8 0#8]) (mm:=none) (by simp[ac,V.low])
 have hl2:(H1++[some (⟨false,[.u8 4#8,.u8 0#8],none⟩:Blk)]).length=H1.length+1:=by simp
 refine B4 hC2 (hw1.fresh (Nat.le_refl _)) hC1.len dm hA4 (fun _=>rfl) (by simp[ac,V.low]) (by kernel_rfl) (fun H2 hC2 hk2 hg2 hl2'=>?_)
 rw[hl2] at hg2 hl2'
 have hk2':∀ c,c<H1.length→aa H2 c=aa H1 c:=fun c hc=>(hk2 c (by rw[hl2];omega) (Nat.ne_of_lt hc)).trans (dH hc)
 have hg1b:=(hk2' p (hw1.lt hp)).trans hg1
 simp only[go_sem,seval,hl2,hg1b]
 repeat refine aI ?_
 refine Bm hC2 (hw1.fresh (Nat.le_add_right _ _)) (Nat.le_trans hC1.len (Nat.le_add_right _ _)) hg2 hA8 (fun _=>rfl) (by simp[ac,V.low]) (by kernel_rfl) (fun H3 hC3 hk3 hg3 hl3=>?_)
 rw[hl2'] at hg3 hl3
 have hlb:(([4#8,0#8]++aE (theirs.setWidth 64).toNat 4)++aE (BitVec.ofInt 64 k).toNat 8).length=14:=by simp[bL]
 generalize hbb:([4#8,0#8]++aE (theirs.setWidth 64).toNat 4)++aE (BitVec.ofInt 64 k).toNat 8=bb at*
 simp only[go_sem,seval,hl2',hg3,List.take_of_length_le (show(bb.map V.u8).length≤14 by simp;omega)]
 repeat refine aI ?_
 have hps:(bb++s).length≤1000000:=by rw[List.length_append];omega
 refine bN (pg hC3.wt hd at_ (bb++s) hps (by simp;omega) ho) (by kernel_rfl) rfl (by simp[ac,V.low,hC3.wt.lt hd]) hC3.wt.sane ?_
 rintro _ G4 K4 H4 hC4 hl4 ⟨rfl,rfl⟩
 simp only[go_sem,seval]
 refine And.intro ?_ ?_
 ·refine co (cM H1.length) [([],[]),([],[]),([],[]),([0],[]),([],[]),([],[]),([],[]),([0],[]),([],[]),([],[]),([0,1],[1]),([1],[1]),([0,1],[1]),([],[]),([],[]),([0,1],[0,1])] (by kernel_rfl) (by simp only[cC,cD,cE,eH,all_cons,sP,Jw,ce (hw1.lt hp),cT,fa,and_true])
 have hD4:=hC3.callK hC4 yn
 have hp4:=hC4.stay p _ rfl hp
 have hd4:=hC4.stay d _ rfl hd
 have hg4:=(hC4.keep p (hC3.wt.lt hp) (j7 hp id)).trans ((hk3 p (by rw[hl2'];have :=hw1.lt hp;omega) (by have :=hw1.lt hp;omega)).trans hg1b)
 have hs4:=(hC4.keep sc (hC3.wt.lt hsc) (j7 hsc id)).trans ((hk3 sc (by rw[hl2'];have :=hw1.lt hsc;omega) (by have :=hw1.lt hsc;omega)).trans ((hk2' sc (hw1.lt hsc)).trans hs1'))
 obtain⟨here4,own4,pub4,seed4,best4,fresh4,secret4,index4,firsts4,now4,busy4,peers4,paths4,bucket4,out4,got4,hgd4,hF4⟩:=hC4.wt.dev hd4
 simp only[go_sem,seval,hg4,hgd4]
 repeat refine aI ?_
 have htm4:=hC4.stay tm _ rfl hQ.ftm
 refine bN (fh hC4.wt htm4 1 now4) (by kernel_rfl) rfl (by simp[ac,V.low,hC4.wt.lt htm4]) hC4.wt.sane ?_
 rintro _ G5 K5 H5 hC5 hl5 ⟨rfl,rfl,e,rfl⟩
 simp only[go_sem,seval]
 repeat refine aI ?_
 have ntm:∀ c k,K5 c=some k→k≠ .timer→c<H4.length→¬ c=tm:=fun c k hc hk _ e=>by subst e;rw[htm4] at hc;cases hc;exact hk rfl
 have hg5:=(hC5.keep p (hC4.wt.lt hp4) (ntm p _ hp4 (by simp) (hC4.wt.lt hp4))).trans hg4
 have hsc4:=hC4.stay sc _ rfl hsc
 have hs5:=(hC5.keep sc (hC4.wt.lt hsc4) (ntm sc _ hsc4 (by simp) (hC4.wt.lt hsc4))).trans hs4
 have hgd5:=(hC5.keep d (hC4.wt.lt hd4) (ntm d _ hd4 (by simp) (hC4.wt.lt hd4))).trans hgd4
 have hD5:=hD4.callP (W2:=fun c=>c=tm) hC5 fun c e=>by subst e;exact⟨_,htm4,trivial⟩
 have hpc5:=hC4.stay pc _ rfl hS.fpair
 simp only[go_sem,seval,hg5,hs5,hgd5]
 repeat refine aI ?_
 refine bN (F4 hC5.wt hpc5 now4) (by kernel_rfl) rfl (by simp[ac,V.low,hC5.wt.lt hpc5]) hC5.wt.sane ?_
 rintro _ G6 K6 H6 hC6 hl6 ⟨rfl,rfl,r,rfl⟩
 simp only[go_sem,seval]
 repeat refine aI ?_
 have hD6:=hD5.callP (W2:=fun _=>False) hC6 fun _ h=>h.elim
 cases r
 ·simp only[go_sem,seval]
  exact EndW.of hD6 trivial ⟨rfl,rfl⟩
 have k6:∀ c,c<H5.length→aa H6 c=aa H5 c:=fun c hc=>hC6.keep c hc id
 simp only[go_sem,seval,(k6 p (hC5.wt.lt hp4)).trans hg5,(k6 d (hC5.wt.lt hd4)).trans hgd5]
 repeat refine aI ?_
 refine bN (fh hC6.wt htm4 3 now4) (by kernel_rfl) rfl (by simp[ac,V.low,hC6.wt.lt htm4]) hC6.wt.sane ?_
 rintro _ G7 K7 H7 hC7 hl7 ⟨rfl,rfl,e7,rfl⟩
 simp only[go_sem]
 repeat refine aI ?_
 exact EndW.of (hD6.callP (W2:=fun c=>c=tm) hC7 fun c e=>by subst e;exact⟨_,htm4,trivial⟩) trivial ⟨rfl,rfl⟩
end
section
variable {G:Gh}{K:Nat→Option Kd}{H:List (Option Blk)}{b p d m n:Nat}
def qF:Kd→Prop
 | .dev _ _| .out _ _| .timer| .pair| .peer _=>True
 |_=>False
theorem sj:∀ k,qS k→qF k:=fun k h=>by cases k<;>first|exact h|trivial
theorem lc (h:WT G K H)(hp:K p=some (.peer d))(hs:HasP H p 18)(ho:G.o d≤999990):∃ v G' K' H',Done Tryz.prog 97 [.ptr p 0] K H (Wk qF K) v G' K' H'∧bC 4 0 fU G v G' K':=by
 obtain⟨tm,num,qub,psk,at_,kn,pin,stp,sec,nano,ck,un,wv,bg,bi,bt,ol,se,ne,hgq,hQ⟩:=h.peer hp
 have hlt:=h.lt hp
 refine bE (W:=Wk qF K) (Post:=bC 4 0 fU G) (by kernel_rfl) (fn:=Tryz.f97) Tryz.func97 rfl (by show 1≤22;decide) (ag ?_)
 simp only[go_sem,seval,hgq]
 repeat refine aI ?_
 have hC1:=(Cur.start (Q:=qF) h).putK hp rfl trivial (PeerF.row (num:=num) (at_:=at_) (stamped:=stp) (sec:=sec) (nano:=nano) (until_:=un) (bindex:=bi) (waits:= .nilSlice) {hQ with fwaits:= .inl rfl})
 have hs1:HasP (H.set p (some ⟨false,[.ptr d 0,.ptr tm 0,.i64 num,.str qub,.str psk,.u32 at_,.i64 kn,.i64 pin,.bool stp,.i64 sec,.i64 nano,.str ck,.i64 un,.nilSlice,bg,.u32 bi,.str bt,ol,se,ne],none⟩)) p 18:=by
  obtain⟨B,c,g1,g2⟩:=hs
  rw[hgq] at g1;cases g1
  exact⟨_,c,aW hlt _,g2⟩
 rcases hQ.fwaits with rfl|⟨a,k,rfl,hk0,hk,ha⟩
 ·simp only[go_sem,seval]
  repeat refine aI ?_
  refine bI 1 ?_
  simp only[go_sem,seval]
  exact EndW.of (hC1.up (G':=G) (Nat.zero_le 4) (Nat.le_refl 0) rfl) trivial ⟨rfl,rfl⟩
 obtain⟨cs,hga,hr⟩:=h.row ha rfl
 have hlen:=hY hr
 have hlta:=h.lt ha
 have hne:p≠a:=fun e=>by subst e;rw[hp] at ha;cases ha
 simp only[go_sem,seval]
 repeat refine aI ?_
 have hga1:=(aP (H:=H) hne (some (⟨false,[.ptr d 0,.ptr tm 0,.i64 num,.str qub,.str psk,.u32 at_,.i64 kn,.i64 pin,.bool stp,.i64 sec,.i64 nano,.str ck,.i64 un,.nilSlice,bg,.u32 bi,.str bt,ol,se,ne],none⟩:Blk))).trans hga
 refine aH (fun j st=>∃ (i:Nat) (Ki:Nat→Option Kd) (Hi:List (Option Blk)),i+j=k∧Cur K H (Wk qF K) (G.add i 0) Ki Hi∧aa Hi a=some ⟨false,cs,none⟩∧HasP Hi p 18∧st=⟨[(0,.ptr p 0),(12,.slice a 0 k 1),(13,.i64 k),(14,.i64 i)],Hi⟩) ?_ ?_
 ·exact aX k ⟨[(0,.ptr p 0),(12,.slice a 0 k 1),(13,.i64 k),(14,.i64 (0:Nat))],_⟩ (by simp[St.get,ae]) rfl (fun _ _ h=>h) ⟨0,K,_,by omega,hC1,hga1,hs1,rfl⟩
 clear hC1 hga1 hs1
 rintro j st ⟨i,Ki,Hi,hij,hCi,hgi,hsi,rfl⟩-
 by_cases hi:i<k
 ·have hi':(i:Int)<k:=by omega
  have hw1:=cd (i:=i) (by omega)
  obtain⟨s,hq,hsl⟩:=jJ hr hi
  have hpi:=hCi.stay p _ rfl hp
  simp only[go_sem,seval,hi',hgi,hq,hlen]
  repeat refine aI ?_
  have hoi:(G.add i 0).o d≤1000000:=by show G.o d+i≤_;omega
  refine aT (nc hCi.wt hpi hsi s (by omega) hoi) (by kernel_rfl) rfl (by simp[ac,V.low,hCi.wt.lt hpi]) hCi.wt.sane ?_
  rintro _ G2 K2 H2 hC2 hl2 ⟨rfl,rfl⟩
  simp only[go_sem,seval]
  have hka:¬ Wk qS Ki a:=fun⟨k',e,hq⟩=>by have :=hCi.kin a k' hlta e;rw[ha] at this;cases this;exact hq
  have hlai:=aj hgi
  have hCj:Cur K H (Wk qF K) (G.add (i+1) 0) K2 H2:=by
   have :=hCi.callK hC2 sj
   rwa [Gh.add_add] at this
  exact aS (j-1) ⟨[(0,.ptr p 0),(12,.slice a 0 k 1),(13,.i64 k),(14,.i64 (i+1:Nat))],H2⟩ (by omega) (by simp[St.get,ae,hw1]) rfl (fun _ _ h=>h)
   ⟨i+1,K2,H2,by omega,hCj,(hC2.keep a hlai hka).trans hgi,hsi.keep (hC2.keep p (hCi.wt.lt hpi) (j7 hpi id)),rfl⟩
 ·have hi':¬ (i:Int)<k:=by omega
  simp only[go_sem,seval,hi']
  exact EndW.of (hCi.up (G':=G) (show i≤4 by omega) (Nat.le_refl 0) rfl) trivial ⟨rfl,rfl⟩
end
section
variable {G:Gh}{K:Nat→Option Kd}{H:List (Option Blk)}{b p d m n:Nat}
def Pu (K':Nat→Option Kd)(v:V):Prop:=(∃ e:Int,e≠0∧v= .tup [.str [],.nilPtr,.i64 e])∨∃ (s:List af) (c:Nat),v= .tup [.str s,.ptr c 0,.i64 0]∧0<s.length∧s.length≤1000∧K' c=some .begun
def Ac (Q:(Nat→Option Kd)→V→Prop)(G:Gh)(K:Nat→Option Kd):V→Gh→(Nat→Option Kd)→Prop:=fun v G' K'=>G'=G∧dM K K'∧Q K' v
theorem Jy (h:WT G K H)(su:Int)(hsu:su=1∨su=2)(own peer psk once:List af)(sec nano best:Int)(id:BitVec 32)(h1:own.length≤1048576)(h2:peer.length≤1048576)(h3:psk.length≤1048576)(h4:once.length≤1048576):
  ∃ v G' K' H',Done Tryz.prog 84 [.agg [.i64 su,.str own,.str peer,.str psk],.str once,.agg [.i64 sec,.i64 nano],.i64 best,.u32 id] K H (fun _=>False) v G' K' H'∧Ac Pu G K v G' K':=by
 obtain⟨v,h',hs,hP⟩:=F1 su hsu own peer psk once sec nano best id h1 h2 h3 h4
 rcases hP with⟨⟨e,he,rfl⟩,rfl⟩|⟨⟨s,hs1,hs0,rfl⟩,cs,⟨su6,h6,ch6,k6,n6,⟨hsu6,q1,q2,q3⟩,rfl⟩,rfl⟩
 ·exact⟨_,G,K,H,⟨wr hs (fun _=>rfl) (by simp[ac,V.low]) (fun _=>rfl),Cur.refl h _,by simp[ac,V.low]⟩,rfl,fun _ _ e=>e,.inl ⟨e,he,rfl⟩⟩
 ·have hsr:=fun σ=>d8 hsu6 σ
  have hC:=(Cur.refl h (fun _=>False)).new .begun rfl (BegunF.row (G:=G) (b:=H.length) (n:=n6) (id:=id) (csu:=su) ⟨hsu6,q1,q2,q3,by omega,h1,h2,h3,h4⟩)
  refine⟨.tup [.str s,.ptr H.length 0,.i64 0],G,_,_,⟨oD hs (fun _=>rfl) (by simp[ac,V.low]) (fun σ=>by simp[bD,rens,V.ren,hsr]) (fun σ e=>by simp[V.ren,rens,e]),hC,by simp[ac,V.low]⟩,rfl,fun c k hc=>h.old hc,.inr ⟨s,H.length,rfl,hs0,hs1,bM⟩⟩
end
section
variable {G:Gh}{K:Nat→Option Kd}{H:List (Option Blk)}{b p d m n:Nat}
theorem Jz (h:WT G K H)(hp:K p=some (.peer d))(ho:G.o d≤1000000):∃ v G' K' H',Done Tryz.prog 61 [.ptr p 0] K H (Wk qF K) v G' K' H'∧bC 1 0 fU G v G' K':=by
 obtain⟨tm,num,qub,psk,at_,kn,pin,stp,sec,nano,ck,un,wv,bg,bi,bt,ol,se,ne,hgq,hQ⟩:=h.peer hp
 obtain⟨m,n,hd⟩:=hQ.fdv
 obtain⟨here,own,pub,seed,best,fresh,secret,index,firsts,now,busy,peers,paths,bucket,out,got,hg,hF0⟩:=h.dev hd
 have hF:=hF0
 have hlp:=h.lt hp
 have hld:=h.lt hd
 have hsu:(if kn<best then kn else best)=1∨(if kn<best then kn else best)=2:=by
  have h1:=hQ.fknows
  have h2:=hF.fbest
  split <;>omega
 refine bE (W:=Wk qF K) (Post:=bC 1 0 fU G) (by kernel_rfl) (fn:=Tryz.f61) Tryz.func61 rfl (by show 1≤130;decide) (ag ?_)
 simp only[go_sem,seval,hgq,hg]
 generalize (if kn<best then kn else best)=su at*
 repeat refine aI ?_
 refine And.intro ?_ ?_
 ·refine co (cM H.length) [([],[]),([],[]),([],[]),([0],[]),([],[]),([],[]),([0],[]),([],[]),([],[]),([],[]),([0],[]),([0],[]),([],[]),([],[]),([],[]),([0],[]),([],[]),([],[]),([0],[]),([],[]),([],[]),([],[]),([0],[]),([],[]),([],[]),([],[]),([0],[]),([],[]),([],[1]),([0,1],[0,1])] (by kernel_rfl) (by simp only[cC,cD,cE,eH,all_cons,j6,ce hlp,ce hld,cT,fa,and_true])
 have hC0:=Cur.start (Q:=qF) h
 have hC1:=hC0.boxed (zs:=[.i64 0,.str [],.str [],.str []]) (ys:=[.i64 su,.str own,.str qub,.str psk]) (by simp[ac,V.low]) (by simp[ac,V.low])
 have hg1:=(dt (x:=some (⟨false,[.i64 0,.str [],.str [],.str []],none⟩:Blk)) (y:=some ⟨false,[.i64 su,.str own,.str qub,.str psk],none⟩) hlp).trans hgq
 have hd1:=(dt (x:=some (⟨false,[.i64 0,.str [],.str [],.str []],none⟩:Blk)) (y:=some ⟨false,[.i64 su,.str own,.str qub,.str psk],none⟩) hld).trans hg
 have hc1:=d7 (H:=H) (x:=some (⟨false,[.i64 0,.str [],.str [],.str []],none⟩:Blk)) (y:=some ⟨false,[.i64 su,.str own,.str qub,.str psk],none⟩)
 have hlM:((H++[some (⟨false,[.i64 0,.str [],.str [],.str []],none⟩:Blk)]).set H.length (some ⟨false,[.i64 su,.str own,.str qub,.str psk],none⟩)).length=H.length+1:=by simp
 generalize ((H++[some (⟨false,[.i64 0,.str [],.str [],.str []],none⟩:Blk)]).set H.length (some ⟨false,[.i64 su,.str own,.str qub,.str psk],none⟩))=M at*
 have hlp1:=hC1.wt.lt hp
 have hld1:=hC1.wt.lt hd
 have hlc1:=aj hc1
 simp only[go_sem,seval,hg1,hd1]
 repeat refine aI ?_
 refine And.intro ?_ ?_
 ·refine co (cM M.length) [([],[]),([],[]),([],[]),([0],[]),([],[]),([],[]),([0],[]),([],[]),([],[]),([],[]),([0],[]),([],[]),([],[]),([0],[]),([],[]),([],[]),([],[1]),([0,1],[0,1])] (by kernel_rfl) (by simp only[cC,cD,cE,eH,all_cons,j6,ce hlp1,ce hld1,cT,fa,and_true])
 have hC2:=hC1.boxed (zs:=[.i64 0,.i64 0]) (ys:=[.i64 now,.i64 (firsts.tmod 1000000000)]) (by simp[ac,V.low]) (by simp[ac,V.low])
 have hg2:=(dt (x:=some (⟨false,[.i64 0,.i64 0],none⟩:Blk)) (y:=some ⟨false,[.i64 now,.i64 (firsts.tmod 1000000000)],none⟩) hlp1).trans hg1
 have hd2:=(dt (x:=some (⟨false,[.i64 0,.i64 0],none⟩:Blk)) (y:=some ⟨false,[.i64 now,.i64 (firsts.tmod 1000000000)],none⟩) hld1).trans hd1
 have hc2:=(dt (x:=some (⟨false,[.i64 0,.i64 0],none⟩:Blk)) (y:=some ⟨false,[.i64 now,.i64 (firsts.tmod 1000000000)],none⟩) hlc1).trans hc1
 have hb2:=d7 (H:=M) (x:=some (⟨false,[.i64 0,.i64 0],none⟩:Blk)) (y:=some ⟨false,[.i64 now,.i64 (firsts.tmod 1000000000)],none⟩)
 have hlM2:((M++[some (⟨false,[.i64 0,.i64 0],none⟩:Blk)]).set M.length (some ⟨false,[.i64 now,.i64 (firsts.tmod 1000000000)],none⟩)).length=M.length+1:=by simp
 generalize ((M++[some (⟨false,[.i64 0,.i64 0],none⟩:Blk)]).set M.length (some ⟨false,[.i64 now,.i64 (firsts.tmod 1000000000)],none⟩))=M2 at*
 have hlp2:=hC2.wt.lt hp
 have hld2:=hC2.wt.lt hd
 have hne:p≠d:=fun e=>by subst e;rw[hp] at hd;cases hd
 simp only[go_sem,seval,hg2]
 repeat refine aI ?_
 refine bN (zm hC2.wt hd) (by kernel_rfl) rfl (by simp[ac,V.low,hC2.wt.lt hd]) hC2.wt.sane ?_
 rintro _ G3 K3 H3 hC3 hl3 ⟨rfl,rfl,once,rfl,honce⟩
 simp only[go_sem,seval]
 have hg3:=(hC3.keep p hlp2 hne).trans hg2
 simp only[go_sem,seval,hg3]
 repeat refine aI ?_
 refine bN (vF hC3.wt hd) (by kernel_rfl) rfl (by simp[ac,V.low,hC3.wt.lt hd]) hC3.wt.sane ?_
 rintro _ G4 K4 H4 hC4 hl4 ⟨rfl,rfl,idx,rfl⟩
 simp only[go_sem,seval]
 refine And.intro ?_ ?_
 ·refine co (cU d M2.length) [([],[]),([],[]),([],[]),([0],[]),([0,1,2],[1,2]),([],[]),([],[]),([],[]),([0],[]),([0,1,2],[1,2]),([],[]),([],[])] (by kernel_rfl) (by simp only[cC,cD,cE,lm,all_cons,lw (show M2.length≤_ by first|exact Nat.le_refl _|omega),dO hlp2 hne,lw hC3.len,cT,and_true])
 have hD4:=(hC2.callP (W2:=fun c=>c=d) hC3 fun c e=>by subst e;exact⟨_,hd,trivial⟩).callP (W2:=fun c=>c=d) hC4 fun c e=>by subst e;exact⟨_,hd,trivial⟩
 have k4:∀ c,c<M2.length→c≠d→aa H4 c=aa M2 c:=fun c hc hn=>(hC4.keep c (Nat.lt_of_lt_of_le hc hC3.len) hn).trans (hC3.keep c hc hn)
 have hg4:=(k4 p hlp2 hne).trans hg2
 have hc4:=(k4 H.length (aj hc2) (by omega)).trans hc2
 have hb4:=(k4 M.length (aj hb2) (by omega)).trans hb2
 obtain⟨here4,own4,pub4,seed4,best4,fresh4,secret4,index4,firsts4,now4,busy4,peers4,paths4,bucket4,out4,got4,hd4,hF⟩:=hC4.wt.dev hd
 have hld4:=hC4.wt.lt hd
 have nd:∀ c,c≠d→d≠c:=fun c h e=>h e.symm
 simp only[go_sem,seval,hg4,hd4,aW hld4,aP (nd p hne),aP (nd H.length (by omega)),aP (nd M.length (by omega)),hc4,hb4]
 repeat refine aI ?_
 have hC5:=hD4.putK hd rfl trivial (DevF.row (here:=here4) (fresh:=fresh4) (index:=index4) (firsts:=ai (firsts4+1)) (busy:=busy4) {hF with})
 have hg5:=(aP (H:=H4) (nd p hne) (some (⟨false,[.u32 here4,.str own4,.str pub4,.str seed4,.i64 best4,.u64 fresh4,.str secret4,.u32 index4,.i64 (ai (firsts4+1)),.i64 now4,.bool busy4,peers4,.ptr paths4 0,.ptr bucket4 0,out4,got4],none⟩:Blk))).trans hg4
 generalize H4.set d (some (⟨false,[.u32 here4,.str own4,.str pub4,.str seed4,.i64 best4,.u64 fresh4,.str secret4,.u32 index4,.i64 (ai (firsts4+1)),.i64 now4,.bool busy4,peers4,.ptr paths4 0,.ptr bucket4 0,out4,got4],none⟩:Blk))=H5 at*
 have q1:=hQ.fpsk
 have q2:=hQ.fpub
 have q3:=hF0.fown
 unfold bn at q1 q3
 refine bN (Jy hC5.wt su hsu own qub psk once now (firsts.tmod 1000000000) best4 idx q3 (by omega) q1 (by omega)) (by kernel_rfl) rfl (by simp[ac,V.low]) hC5.wt.sane ?_
 rintro _ G6 K6 H6 hC6 hl6 ⟨rfl,hx6,hB6⟩
 have hD6:=hC5.callP (W2:=fun _=>False) hC6 fun _ h=>h.elim
 rcases hB6 with⟨e,he,rfl⟩|⟨s,c,rfl,hs0,hs1,hKc⟩
 ·simp only[go_sem,seval,he,ne_eq,not_false_eq_true,decide_true]
  repeat refine aI ?_
  exact EndW.of (hD6.up (G':=G6) (Nat.zero_le 1) (Nat.le_refl 0) rfl) trivial ⟨rfl,rfl⟩
 simp only[go_sem,seval,ne_eq,not_true,decide_false]
 repeat refine aI ?_
 have hp6:=hx6 p _ hp
 have hd6:=hx6 d _ hd
 have hlp5:=hC5.wt.lt hp
 refine aT (yS hC6.wt hp6 s (by omega)) (by kernel_rfl) rfl (by simp[ac,V.low,hC6.wt.lt hp6]) hC6.wt.sane ?_
 rintro _ G7 K7 H7 hC7 hl7 ⟨rfl,rfl,o,rfl,ho1,ho2⟩
 have hD7:=hD6.callP (W2:=fun _=>False) hC7 fun _ h=>h.elim
 have hg7:=(hC7.keep p (hC6.wt.lt hp6) id).trans ((hC6.keep p hlp5 id).trans hg5)
 have hQ7:=hC7.wt.peerF hp6 hg7
 have hlp7:=hC7.wt.lt hp6
 simp only[go_sem,seval,hg7,aW hlp7,List.length_set,List.set_set]
 repeat refine aI ?_
 have hC8:=hD7.putK hp6 rfl trivial (PeerF.row (num:=num) (at_:=at_) (stamped:=stp) (sec:=sec) (nano:=nano) (until_:=un) (begun:= .ptr c 0) (bindex:=idx) (btext:=o) {hQ7 with fbegun:= .inr ⟨c,rfl,hKc⟩,fbtext:=by unfold bn;omega})
 have hg8:=aW hlp7 (some (⟨false,[.ptr d 0,.ptr tm 0,.i64 num,.str qub,.str psk,.u32 at_,.i64 kn,.i64 pin,.bool stp,.i64 sec,.i64 nano,.str ck,.i64 un,wv,.ptr c 0,.u32 idx,.str o,ol,se,ne],none⟩:Blk))
 generalize H7.set p (some (⟨false,[.ptr d 0,.ptr tm 0,.i64 num,.str qub,.str psk,.u32 at_,.i64 kn,.i64 pin,.bool stp,.i64 sec,.i64 nano,.str ck,.i64 un,wv,.ptr c 0,.u32 idx,.str o,ol,se,ne],none⟩:Blk))=H8 at*
 refine bN (pg hC8.wt hd6 at_ o (by omega) (by omega) ho) (by kernel_rfl) rfl (by simp[ac,V.low,hC8.wt.lt hd6]) hC8.wt.sane ?_
 rintro _ G9 K9 H9 hC9 hl9 ⟨rfl,rfl⟩
 simp only[go_sem,seval]
 repeat refine aI ?_
 have hD9:=hC8.callK hC9 fun k hk=>sj k (yn k hk)
 have hp9:=hC9.stay p _ rfl hp6
 have hd9:=hC9.stay d _ rfl hd6
 have ht9:=hC9.stay tm _ rfl hQ7.ftm
 have hg9:=(hC9.keep p (hC8.wt.lt hp6) (j7 hp6 fun h=>h)).trans hg8
 obtain⟨here9,own9,pub9,seed9,best9,fresh9,secret9,index9,firsts9,now9,busy9,peers9,paths9,bucket9,out9,got9,hgd9,hF9⟩:=hC9.wt.dev hd9
 simp only[go_sem,seval,hg9,hgd9]
 repeat refine aI ?_
 refine bN (fh hC9.wt ht9 4 now9) (by kernel_rfl) rfl (by simp[ac,V.low,hC9.wt.lt ht9]) hC9.wt.sane ?_
 rintro _ G10 K10 H10 hC10 hl10 ⟨rfl,rfl,e,rfl⟩
 simp only[go_sem]
 repeat refine aI ?_
 exact EndW.of (hD9.callP (W2:=fun c=>c=tm) hC10 fun c e=>by subst e;exact⟨_,ht9,trivial⟩) trivial ⟨rfl,rfl⟩
end
section
variable {G:Gh}{K:Nat→Option Kd}{H:List (Option Blk)}{b p d m n:Nat}
theorem mY (h:WT G K H)(hp:K p=some (.peer d))(ho:G.o d≤1000000):∃ v G' K' H',Done Tryz.prog 41 [.ptr p 0] K H (Wk qF K) v G' K' H'∧bC 1 0 fU G v G' K':=by
 obtain⟨tm,num,qub,psk,at_,kn,pin,stp,sec,nano,ck,un,wv,bg,bi,bt,ol,se,ne,hgq,hQ⟩:=h.peer hp
 obtain⟨m,n,hd⟩:=hQ.fdv
 obtain⟨here,own,pub,seed,best,fresh,secret,index,firsts,now,busy,peers,paths,bucket,out,got,hg,hF⟩:=h.dev hd
 have hlp:=h.lt hp
 have hld:=h.lt hd
 have htm:=hQ.ftm
 have hpt:p≠tm:=fun e=>by subst e;rw[hp] at htm;cases htm
 have hdt:d≠tm:=fun e=>by subst e;rw[hd] at htm;cases htm
 refine bE (W:=Wk qF K) (Post:=bC 1 0 fU G) (by kernel_rfl) (fn:=Tryz.f41) Tryz.func41 rfl (by show 1≤61;decide) (ag ?_)
 simp only[go_sem,seval,hgq,hg]
 repeat refine aI ?_
 refine bN (MG h htm now) (by kernel_rfl) rfl (by simp[ac,V.low,h.lt htm]) h.sane ?_
 rintro _ G1 K1 H1 hC1 hl1 ⟨rfl,rfl,e,rfl⟩
 simp only[go_sem,seval]
 repeat refine aI ?_
 have hD1:=(Cur.start (Q:=qF) h).callP (W2:=fun c=>c=tm) hC1 fun c e=>by subst e;exact⟨_,htm,trivial⟩
 have hg1:=(hC1.keep p hlp hpt).trans hgq
 have hd1:=(hC1.keep d hld hdt).trans hg
 have hw1:=hC1.wt
 by_cases h1:e=1
 ·have e1:(e=1)=True:=eq_true h1
  simp only[go_sem,seval,e1,decide_true,hg1]
  repeat refine aI ?_
  by_cases ha:at_=0#32
  ·simp only[go_sem,seval,ha,not_true,decide_false]
   exact EndW.of (hD1.up (G':=G1) (Nat.zero_le 1) (Nat.le_refl 0) rfl) trivial ⟨rfl,rfl⟩
  ·simp only[go_sem,seval,ha,not_false_eq_true,decide_true]
   refine aT (Jz hw1 hp ho) (by kernel_rfl) rfl (by simp[ac,V.low,hw1.lt hp]) hw1.sane ?_
   rintro _ G2 K2 H2 hC2 hl2 ⟨rfl,rfl⟩
   simp only[go_sem]
   exact EndW.of (hD1.callK hC2 fun _ h=>h) trivial ⟨rfl,rfl⟩
 by_cases h2:e=2
 ·have e2:(e=2)=True:=eq_true h2
  simp only[go_sem,seval,h1,e2,decide_true,decide_false]
  refine aT (xz hw1 hp) (by kernel_rfl) rfl (by simp[ac,V.low,hw1.lt hp]) hw1.sane ?_
  rintro _ G2 K2 H2 hC2 hl2 ⟨rfl,rfl,r,rfl,hr⟩
  have hD2:=hD1.callP (W2:=fun _=>False) hC2 fun _ h=>h.elim
  have hg2:=(hC2.keep p (hw1.lt hp) fun h=>h).trans hg1
  have hd2:=(hC2.keep d (hw1.lt hd) fun h=>h).trans hd1
  cases r
  ·simp only[go_sem,seval,hg2,hd2]
   repeat refine aI ?_
   refine bN (fh hC2.wt htm 1 now) (by kernel_rfl) rfl (by simp[ac,V.low,hC2.wt.lt htm]) hC2.wt.sane ?_
   rintro _ G3 K3 H3 hC3 hl3 ⟨rfl,rfl,e3,rfl⟩
   simp only[go_sem]
   repeat refine aI ?_
   have hD3:=hD2.callP (W2:=fun c=>c=tm) hC3 fun c e=>by subst e;exact⟨_,htm,trivial⟩
   exact EndW.of (hD3.up (G':=G3) (Nat.zero_le 1) (Nat.le_refl 0) rfl) trivial ⟨rfl,rfl⟩
  ·simp only[go_sem,seval]
   refine aT (nc hC2.wt hp ((hr rfl).keep (hC2.keep p (hw1.lt hp) fun h=>h)) [] (by simp) ho) (by kernel_rfl) rfl (by simp[ac,V.low,hC2.wt.lt hp]) hC2.wt.sane ?_
   rintro _ G3 K3 H3 hC3 hl3 ⟨rfl,rfl⟩
   simp only[go_sem]
   exact EndW.of (hD2.callK hC3 sj) trivial ⟨rfl,rfl⟩
 by_cases h3:e=3
 ·have e3:(e=3)=True:=eq_true h3
  have hlp1:=hw1.lt hp
  have hQ1:=hw1.peerF hp hg1
  simp only[go_sem,seval,h1,h2,e3,decide_true,decide_false,hg1,aW hlp1,List.length_set,List.set_set,aP (show p≠d from fun e=>by subst e;rw[hp] at hd;cases hd),hd1]
  repeat refine aI ?_
  have hD2:=hD1.putK hp rfl trivial (PeerF.row (num:=num) (at_:=at_) (stamped:=stp) (sec:=sec) (nano:=nano) (until_:=un) (bindex:=bi) (waits:= .nilSlice) (begun:= .nilPtr) {hQ1 with fwaits:= .inl rfl,fbegun:= .inl rfl})
  refine bN (fh hD2.wt htm 6 now) (by kernel_rfl) rfl (by simp[ac,V.low,hw1.lt htm]) hD2.wt.sane ?_
  rintro _ G3 K3 H3 hC3 hl3 ⟨rfl,rfl,e3,rfl⟩
  simp only[go_sem]
  repeat refine aI ?_
  have hD3:=hD2.callP (W2:=fun c=>c=tm) hC3 fun c e=>by subst e;exact⟨_,htm,trivial⟩
  exact EndW.of (hD3.up (G':=G3) (Nat.zero_le 1) (Nat.le_refl 0) rfl) trivial ⟨rfl,rfl⟩
 simp only[go_sem,seval,h1,h2,h3,decide_false]
 exact EndW.of (hD1.up (G':=G1) (Nat.zero_le 1) (Nat.le_refl 0) rfl) trivial ⟨rfl,rfl⟩
end
section
variable {G:Gh}{K:Nat→Option Kd}{H:List (Option Blk)}{b p d m n:Nat}
theorem MM (h:WT G K H)(hd:K d=some (.dev m n))(hn:n≤8)(k:Int)(ho:G.o d≤999000):∃ v G' K' H',Done Tryz.prog 25 [.ptr d 0,.i64 k] K H (Wk qF K) v G' K' H'∧bC 8 0 bK G v G' K':=by
 obtain⟨here,own,pub,seed,best,fresh,secret,index,firsts,now,busy,peers,paths,bucket,out,got,hg,hF⟩:=h.dev hd
 have hld:=h.lt hd
 have hnow:=hF.fnow
 have hC0:=Cur.start (Q:=qF) h
 have w1:ai (1099511627776-now)=1099511627776-now:=al (by omega) (by omega)
 refine bE (W:=Wk qF K) (Post:=bC 8 0 bK G) (by kernel_rfl) (fn:=Tryz.f25) Tryz.func25 rfl (by show 2≤38;decide) (ag ?_)
 simp only[go_sem,seval,hg,w1]
 by_cases h1:k<0
 ·simp only[go_sem,seval,h1,decide_true]
  repeat refine aI ?_
  exact EndW.of (hC0.up (G':=G) (Nat.zero_le 8) (Nat.le_refl 0) rfl) trivial ⟨rfl,_,rfl⟩
 by_cases h2:1099511627776-now<k
 ·simp only[go_sem,seval,h1,h2,decide_true,decide_false]
  repeat refine aI ?_
  exact EndW.of (hC0.up (G':=G) (Nat.zero_le 8) (Nat.le_refl 0) rfl) trivial ⟨rfl,_,rfl⟩
 have w2:ai (now+k)=now+k:=al (by omega) (by omega)
 simp only[go_sem,seval,h1,h2,decide_false,hg,w2,aW hld]
 repeat refine aI ?_
 have hC1:=hC0.putK hd rfl trivial (DevF.row (here:=here) (fresh:=fresh) (index:=index) (firsts:=firsts) (busy:=busy) (now:=now+k) {hF with fnow:=⟨by omega,by omega⟩})
 have hps:=hF.fpeers
 rcases hps with⟨rfl,rfl⟩|⟨a,rfl,hn0,ha⟩
 ·simp only[go_sem,seval]
  repeat refine aI ?_
  refine bI 1 ?_
  simp only[go_sem,seval]
  exact EndW.of (hC1.up (G':=G) (Nat.zero_le 8) (Nat.le_refl 0) rfl) trivial ⟨rfl,_,rfl⟩
 obtain⟨cs,hga,hr⟩:=h.row ha rfl
 have hlen:=hY hr
 have hlta:=h.lt ha
 have hne:d≠a:=fun e=>by subst e;rw[hd] at ha;cases ha
 simp only[go_sem,seval]
 repeat refine aI ?_
 have hga1:=(aP (H:=H) hne (some (⟨false,[.u32 here,.str own,.str pub,.str seed,.i64 best,.u64 fresh,.str secret,.u32 index,.i64 firsts,.i64 (now+k),.bool busy,.slice a 0 n 1,.ptr paths 0,.ptr bucket 0,out,got],none⟩:Blk))).trans hga
 refine aH (fun j st=>∃ (i:Nat) (Ki:Nat→Option Kd) (Hi:List (Option Blk)),i+j=n∧Cur K H (Wk qF K) (G.add i 0) Ki Hi∧aa Hi a=some ⟨false,cs,none⟩∧st=⟨[(29,.slice a 0 n 1),(30,.i64 n),(31,.i64 i)],Hi⟩) ?_ ?_
 ·exact aX n ⟨[(29,.slice a 0 n 1),(30,.i64 n),(31,.i64 (0:Nat))],_⟩ (by simp[St.get,ae]) rfl (fun _ _ h=>h) ⟨0,K,_,by omega,hC1,hga1,rfl⟩
 clear hC1 hga1
 rintro j st ⟨i,Ki,Hi,hij,hCi,hgi,rfl⟩-
 by_cases hi:i<n
 ·have hi':(i:Int)<n:=by omega
  have hw1:=cd (i:=i) (by omega)
  obtain⟨q,hq,hqK⟩:=jJ hr hi
  have hqi:=hCi.stay q _ rfl hqK
  simp only[go_sem,seval,hi',hgi,hq,hlen]
  repeat refine aI ?_
  have hoi:(G.add i 0).o d≤1000000:=by show G.o d+i≤_;omega
  refine aT (mY hCi.wt hqi hoi) (by kernel_rfl) rfl (by simp[ac,V.low,hCi.wt.lt hqi]) hCi.wt.sane ?_
  rintro _ G2 K2 H2 hC2 hl2 ⟨rfl,rfl⟩
  simp only[go_sem,seval]
  have hka:¬ Wk qF Ki a:=fun⟨k',e,hq⟩=>by have :=hCi.kin a k' hlta e;rw[ha] at this;cases this;exact hq
  have hCj:Cur K H (Wk qF K) (G.add (i+1) 0) K2 H2:=by
   have :=hCi.callK hC2 fun _ h=>h
   rwa [Gh.add_add] at this
  exact aS (j-1) ⟨[(29,.slice a 0 n 1),(30,.i64 n),(31,.i64 (i+1:Nat))],H2⟩ (by omega) (by simp[St.get,ae,hw1]) rfl (fun _ _ h=>h)
   ⟨i+1,K2,H2,by omega,hCj,(hC2.keep a (aj hgi) hka).trans hgi,rfl⟩
 ·have hi':¬ (i:Int)<n:=by omega
  simp only[go_sem,seval,hi']
  exact EndW.of (hCi.up (G':=G) (show i≤8 by omega) (Nat.le_refl 0) rfl) trivial ⟨rfl,_,rfl⟩
end
section
variable {G:Gh}{K:Nat→Option Kd}{H:List (Option Blk)}{b p d m n c:Nat}
def IsNode (K:Nat→Option Kd)(m c:Nat):Prop:=K c=some (.tnode m)∨K c=some (.troot m)
theorem re (h:WT G K H)(hc:IsNode K m c):∃ k0 k1 is ow rest,aa H c=some ⟨false,k0::k1:: .bool is:: .i64 ow::rest,none⟩∧fieldOk K (.opt (.tnode m)) k0∧fieldOk K (.opt (.tnode m)) k1∧0≤ow∧ow≤(m:Int)-1:=by
 rcases hc with hc|hc
 ·obtain⟨k0,k1,is,ow,hg,hF⟩:=h.tnode hc
  exact⟨k0,k1,is,ow,[],hg,hF.fk0,hF.fk1,hF.fowner.1,hF.fowner.2⟩
 ·obtain⟨k0,k1,is,ow,many,hg,hF⟩:=h.troot hc
  exact⟨k0,k1,is,ow,[.i64 many],hg,hF.fk0,hF.fk1,hF.fowner.1,hF.fowner.2⟩
theorem zJ (y:BitVec 32):y&&&1#32=0#32∨y&&&1#32=1#32:=by
 have h:(y&&&1#32).toNat=y.toNat%2:=by rw[BitVec.toNat_and];exact Nat.and_one_is_mod _
 have h2:y.toNat%2=0∨y.toNat%2=1:=by omega
 rcases h2 with h2|h2
 ·exact .inl (BitVec.eq_of_toNat_eq (by rw[h,h2];rfl))
 ·exact .inr (BitVec.eq_of_toNat_eq (by rw[h,h2];rfl))
def tQ (m:Nat)(v:V):Prop:=∃ (k:Int) (b:Bool),v= .tup [.i64 k,.bool b]∧(b=true→0≤k∧k≤(m:Int)-1)
theorem yT (h:WT G K H)(hc:K c=some (.troot m))(a:BitVec 32):∃ v G' K' H',Done Tryz.prog 36 [.ptr c 0,.u32 a] K H (fun _=>False) v G' K' H'∧br (tQ m) G K v G' K':=by
 refine bE (W:=fun _=>False) (Post:=br (tQ m) G K) (by kernel_rfl) (fn:=Tryz.f36) Tryz.func36 rfl (by show 2≤39;decide) (ag ?_)
 simp only[go_sem,seval]
 refine aH (fun j st=>∃ (i:Nat) (k:Int) (r:Bool) (nv:V),i+j=33∧i≤32∧(r=true→0≤k∧k≤(m:Int)-1)∧(nv= .nilPtr∨∃ q,nv= .ptr q 0∧IsNode K m q)∧st=⟨[(1,.u32 a),(6,.i64 k),(7,.bool r),(8,nv),(9,.i64 i)],H⟩) ?_ ?_
 ·exact aX 33 ⟨[(1,.u32 a),(6,.i64 0),(7,.bool false),(8,.ptr c 0),(9,.i64 (0:Nat))],H⟩ (by simp[St.get,ae]) rfl (fun _ _ h=>h) ⟨0,0,false,.ptr c 0,by omega,by omega,by simp,.inr ⟨c,rfl,.inr hc⟩,rfl⟩
 rintro j st ⟨i,k,r,nv,hij,hi32,hr,hnv,rfl⟩-
 rcases hnv with rfl|⟨q,rfl,hq⟩
 ·simp only[go_sem,seval]
  exact EndW.of (Cur.refl h _) (by simp[V.low,ac]) ⟨rfl,rfl,k,r,rfl,hr⟩
 obtain⟨k0,k1,is,ow,rest,hg,hk0,hk1,ho0,ho1⟩:=re h hq
 have ends:∀ (k:Int) (r:Bool) (s:St),(r=true→0≤k∧k≤(m:Int)-1)→s.H=H→EndW K H (fun _=>False) (br (tQ m) G K) (.tup [.i64 k,.bool r]) s:=fun k r s hr hs=>by
  obtain⟨t,H'⟩:=s
  have e:H'=H:=hs
  subst e
  exact EndW.of (Cur.refl h _) (by simp[V.low,ac]) ⟨rfl,rfl,k,r,rfl,hr⟩
 by_cases hi:i=32
 ·subst hi
  cases is
  ·simp only[go_sem,seval,hg]
   repeat refine aI ?_
   exact ends _ _ _ hr rfl
  ·simp only[go_sem,seval,hg]
   repeat refine aI ?_
   exact ends _ _ _ (fun _=>⟨ho0,ho1⟩) rfl
 have hi':¬ (i:Int)=32:=by omega
 have w1:ai (31-(i:Int))=((31-i:Nat):Int):=by rw[al (by omega) (by omega)];omega
 have w2:=cd (i:=i) (by omega)
 have hnn:(0:Int)≤((31-i:Nat):Int):=by omega
 have hx:=zJ (a>>>(31-i))
 have step:∀ (k:Int) (r:Bool) (nv:V) (t:List (Nat×V)),(r=true→0≤k∧k≤(m:Int)-1)→fieldOk K (.opt (.tnode m)) nv→ae t 1= .u32 a→ae t 6= .i64 k→ae t 7= .bool r→ae t 8=nv→ae t 9= .i64 (ai ((i:Int)+1))→
   eX H.length 39 (fun j st=>∃ (i:Nat) (k:Int) (r:Bool) (nv:V),i+j=33∧i≤32∧(r=true→0≤k∧k≤(m:Int)-1)∧(nv= .nilPtr∨∃ q,nv= .ptr q 0∧IsNode K m q)∧st=⟨[(1,.u32 a),(6,.i64 k),(7,.bool r),(8,nv),(9,.i64 i)],H⟩) j ⟨t,H⟩:=fun k r nv t hr hn h1 h6 h7 h8 h9=>
  aS (j-1) ⟨[(1,.u32 a),(6,.i64 k),(7,.bool r),(8,nv),(9,.i64 (i+1:Nat))],H⟩ (by omega) (by simp[St.get,h1,h6,h7,h8,h9,w2]) rfl (fun _ _ h=>h)
   ⟨i+1,k,r,nv,by omega,by omega,hr,by rcases hn with e|⟨q,e,hq⟩;exact .inl e;exact .inr ⟨q,e,.inl hq⟩,rfl⟩
 rcases hx with hx|hx<;>cases is
 ·simp only[go_sem,seval,hg,hi',w1,hnn,Int.toNat_natCast,hx]
  repeat refine aI ?_
  exact step _ _ _ _ hr hk0 rfl rfl rfl rfl rfl
 ·simp only[go_sem,seval,hg,hi',w1,hnn,Int.toNat_natCast,hx]
  repeat refine aI ?_
  exact step _ _ _ _ (fun _=>⟨ho0,ho1⟩) hk0 rfl rfl rfl rfl rfl
 ·simp only[go_sem,seval,hg,hi',w1,hnn,Int.toNat_natCast,hx]
  repeat refine aI ?_
  exact step _ _ _ _ hr hk1 rfl rfl rfl rfl rfl
 ·simp only[go_sem,seval,hg,hi',w1,hnn,Int.toNat_natCast,hx]
  repeat refine aI ?_
  exact step _ _ _ _ (fun _=>⟨ho0,ho1⟩) hk1 rfl rfl rfl rfl rfl
end
theorem MN:j8 Tryz.prog 131=true:=by kernel_rfl
theorem Rr:ar Tryz.prog 131=some 1:=by kernel_rfl
theorem Pv:aL Tryz.prog 131=some false:=by kernel_rfl
attribute [go_sem] MN Rr Pv
theorem Ga (k:BitVec 32)(n:Int):am Tryz.prog 130 [.u32 k,.i64 n] (.bool (decide (5≤n))):=by
 refine aw (by kernel_rfl) (fn:=Tryz.f130) (by kernel_rfl) Tryz.func130 rfl (by show 2≤7;decide) (by simp[ac,V.low]) (by simp[V.low]) (ag ?_)
 simp only[go_sem,seval,Tryz.ntmps130,Tryz.results130]
section
variable {G:Gh}{K K0:Nat→Option Kd}{H H0:List (Option Blk)}{b c p d m n:Nat}
theorem Rs:ao Tryz.prog 34 [] [] (.ptr 0 0) [some ⟨false,[.bool false,.i64 0,.i64 0,.bool false,.i64 0],none⟩]:=by
 refine aR (by kernel_rfl) (fn:=Tryz.f34) Tryz.func34 rfl (by show 0≤3;decide) (ag ?_)
 simp only[go_sem,seval,Tryz.ntmps34,Tryz.results34]
 exact Fin.ren [0] (by simp) (by simp) (by rfl) (by decide) (by simp) (by simp)
theorem Rt:ao Tryz.prog 30 [] [] (.ptr 0 0) [some ⟨false,[.nilPtr,.nilPtr,.bool false,.i64 0,.i64 0],none⟩]:=by
 refine aR (by kernel_rfl) (fn:=Tryz.f30) Tryz.func30 rfl (by show 0≤3;decide) (ag ?_)
 simp only[go_sem,seval,Tryz.ntmps30,Tryz.results30]
 exact Fin.ren [0] (by simp) (by simp) (by rfl) (by decide) (by simp) (by simp)
theorem yo (h:WT G K H):∃ v G' K' H',Done Tryz.prog 34 [] K H (fun _=>False) v G' K' H'∧(G'=G∧dM K K'∧v= .ptr H.length 0∧K' H.length=some .timer):=
 ⟨_,G,_,_,⟨oD Rs (fun _=>rfl) trivial (fun _=>rfl) (fun σ e=>by simp[V.ren,e]),(Cur.refl h (fun _=>False)).new .timer rfl ⟨⟨_,rfl⟩,⟨_,rfl⟩,⟨_,rfl⟩,⟨_,rfl⟩,⟨_,rfl⟩,trivial⟩,by simp[V.low]⟩,rfl,fun c k hc=>h.old hc,rfl,bM⟩
theorem JA (h:WT G K H)(m:Nat)(hm:0<m):∃ v G' K' H',Done Tryz.prog 30 [] K H (fun _=>False) v G' K' H'∧(G'=G∧dM K K'∧v= .ptr H.length 0∧K' H.length=some (.troot m)):=
 ⟨_,G,_,_,⟨oD Rt (fun _=>rfl) trivial (fun _=>rfl) (fun σ e=>by simp[V.ren,e]),(Cur.refl h (fun _=>False)).new (.troot m) rfl ⟨.inl rfl,.inl rfl,⟨_,rfl⟩,⟨_,rfl,by omega,by omega⟩,⟨_,rfl⟩,trivial⟩,by simp[V.low]⟩,rfl,fun c k hc=>h.old hc,rfl,bM⟩
theorem Ru:ao Tryz.prog 31 [] [] (.ptr 1 0) [some ⟨false,[],some ⟨[],0⟩⟩,some ⟨false,[.i64 0,.map 0],none⟩]:=by
 refine aR (by kernel_rfl) (fn:=Tryz.f31) Tryz.func31 rfl (by show 0≤4;decide) (ag ?_)
 simp only[go_sem,seval,Tryz.ntmps31,Tryz.results31]
 exact Fin.id (s:=⟨_,_⟩) (Nat.zero_le _)
theorem JB (h:WT G K H):∃ v G' K' H',Done Tryz.prog 31 [] K H (fun _=>False) v G' K' H'∧(G'=G∧dM K K'∧∃ c,v= .ptr c 0∧K' c=some .bucket):=by
 have hS:=kP (H:=H) Ru [] rfl trivial (by simp) (by simp) (fun b B e=>by simp[aa] at e) (fun b B e _=>by
  match b with
  |0=>have e':some (⟨false,[],some ⟨[],0⟩⟩:Blk)=some B:=e;cases e';rfl
  |1=>have e':some (⟨false,[.i64 0,.map 0],none⟩:Blk)=some B:=e;cases e';rfl
  |b+2=>simp[aa] at e) (Nat.zero_le _)
 have hσ:∀ i,i<2→ah (au [] H.length [some (⟨false,[],some ⟨[],0⟩⟩:Blk),some ⟨false,[.i64 0,.map 0],none⟩]) i=H.length+i:=fun i hi=>by
  rw[fM (Nat.zero_le _) hi];simp
 have e1:az [] H [some (⟨false,[],some ⟨[],0⟩⟩:Blk),some ⟨false,[.i64 0,.map 0],none⟩]=H++[some ⟨false,[],some ⟨[],0⟩⟩]++[some ⟨false,[.i64 0,.map H.length],none⟩]:=by
  have q1:=hσ 0 (by decide)
  unfold az
  simp only[cK,bR,bU,List.map_cons,List.map_nil,cY,Option.map_some,Blk.ren,rens,V.ren,q1,List.append_assoc,List.cons_append,List.nil_append,Nat.add_zero]
 rw[e1] at hS
 have e2:(V.ptr 1 0).ren (ah (au [] H.length [some (⟨false,[],some ⟨[],0⟩⟩:Blk),some ⟨false,[.i64 0,.map 0],none⟩]))= .ptr (H.length+1) 0:=by
  unfold V.ren;rw[hσ 1 (by decide)]
 rw[e2] at hS
 have l1:(H++[some (⟨false,[],some ⟨[],0⟩⟩:Blk)]).length=H.length+1:=by simp
 have c2:=(Cur.refl h (fun _=>False)).newMap (mm:=⟨[],0⟩) ⟨⟨by simp,by simp,by simp⟩,by simp⟩
 have c3:=c2.new .bucket rfl (vs:=[.i64 0,.map H.length]) ⟨⟨_,rfl,by omega,by omega⟩,⟨_,rfl,by rw[aM (by omega)];exact bM⟩,trivial⟩
 exact⟨_,G,_,_,⟨hS,c3,by simp[V.low]⟩,rfl,fun c k hc=>c2.wt.old (h.old hc),H.length+1,rfl,by rw[←l1];exact bM⟩
end
section
variable {G:Gh}{K K0:Nat→Option Kd}{H H0:List (Option Blk)}{b c p q d m n:Nat}
def qT:Kd→Prop
 | .tnode _| .troot _=>True
 |_=>False
theorem IsNode.ext {K':Nat→Option Kd}(h:IsNode K m c)(hx:dM K K'):IsNode K' m c:=h.imp (hx _ _) (hx _ _)
theorem sk {k0 k1 k0' k1':V}{is is':Bool}{ow ow':Int}{rest:List V}(hC:Cur K0 H0 (Wk qT K0) G K H)(hq:IsNode K m q)(hg:aa H q=some ⟨false,k0::k1:: .bool is:: .i64 ow::rest,none⟩)(h0:fieldOk K (.opt (.tnode m)) k0')(h1:fieldOk K (.opt (.tnode m)) k1')(ho0:0≤ow')(ho1:ow'≤(m:Int)-1):
  Cur K0 H0 (Wk qT K0) G K (H.set q (some ⟨false,k0'::k1':: .bool is':: .i64 ow'::rest,none⟩)):=by
 rcases hq with hq|hq
 ·have hr:=hC.wt.rowOf hq rfl hg
  exact hC.putK hq rfl trivial ⟨h0,h1,⟨_,rfl⟩,⟨_,rfl,ho0,ho1⟩,hr.2.2.2.2⟩
 ·have hr:=hC.wt.rowOf hq rfl hg
  exact hC.putK hq rfl trivial ⟨h0,h1,⟨_,rfl⟩,⟨_,rfl,ho0,ho1⟩,hr.2.2.2.2⟩
theorem Rv (h:WT G K H)(hc:K c=some (.troot m))(hm:0<m)(a:BitVec 32)(n:Nat)(hn:n≤32):∃ v G' K' H',Done Tryz.prog 54 [.ptr c 0,.agg [.u32 a,.i64 n]] K H (Wk qT K) v G' K' H'∧(G'=G∧dM K K'∧∃ q,v= .ptr q 0∧IsNode K' m q):=by
 have hC0:=(Cur.start (Q:=qT) h).junk (vs:=[.u32 a,.i64 n]) (mm:=none) (by simp[ac,V.low])
 have hl0:(H++[some (⟨false,[.u32 a,.i64 n],none⟩:Blk)]).length=H.length+1:=by simp
 refine bE (W:=Wk qT K) (Post:=fun v G' K'=>G'=G∧dM K K'∧∃ q,v= .ptr q 0∧IsNode K' m q) (by kernel_rfl) (fn:=Tryz.f54) Tryz.func54 rfl (by show 2≤44;decide) (ag ?_)
 simp only[go_sem,seval]
 refine aH (fun j st=>∃ (i:Nat) (Hi:List (Option Blk)) (Ki:Nat→Option Kd) (q:Nat),i+j=n∧Cur K H (Wk qT K) G Ki Hi∧dM K Ki∧IsNode Ki m q∧aa Hi H.length=some ⟨false,[.u32 a,.i64 n],none⟩∧Ki H.length=none∧st=⟨[(3,.ptr H.length 0),(5,.ptr q 0),(12,.i64 n),(13,.i64 i)],Hi⟩) ?_ ?_
 ·exact aX n ⟨[(3,.ptr H.length 0),(5,.ptr c 0),(12,.i64 n),(13,.i64 (0:Nat))],H++[some ⟨false,[.u32 a,.i64 n],none⟩]⟩ (by simp[St.get,ae]) rfl (fun _ _ h=>h) ⟨0,_,K,c,by omega,hC0,fun _ _ e=>e,.inr hc,dm,h.fresh (Nat.le_refl _),rfl⟩
 rintro j st ⟨i,Hi,Ki,q,hij,hC,hx,hq,hgN,hKN,rfl⟩-
 by_cases hi:i<n
 rotate_left
 ·have hi':¬ (i:Int)<(n:Int):=by omega
  simp only[go_sem,seval,hi',decide_false]
  exact EndW.of hC (by have :=hC.wt;rcases hq with e|e<;>exact this.lt e) ⟨rfl,hx,q,rfl,hq⟩
 have hi':(i:Int)<(n:Int):=by omega
 have w1:ai (31-(i:Int))=((31-i:Nat):Int):=by rw[al (by omega) (by omega)];omega
 have w2:=cd (i:=i) (by omega)
 have hnn:(0:Int)≤((31-i:Nat):Int):=by omega
 have hb:=zJ (a>>>(31-i))
 obtain⟨k0,k1,is,ow,rest,hg,hk0,hk1,ho0,ho1⟩:=re hC.wt hq
 have hlq:q<Hi.length:=by rcases hq with e|e<;>exact hC.wt.lt e
 have hlN:=aj hgN
 have hqN:q≠H.length:=fun e=>by subst e;rcases hq with e|e<;>(rw[hKN] at e;cases e)
 have step:∀ (Hi:List (Option Blk)) (Ki:Nat→Option Kd) (q:Nat) (t:List (Nat×V)),Cur K H (Wk qT K) G Ki Hi→dM K Ki→IsNode Ki m q→aa Hi H.length=some ⟨false,[.u32 a,.i64 n],none⟩→Ki H.length=none→ae t 3= .ptr H.length 0→ae t 5= .ptr q 0→ae t 12= .i64 n→ae t 13= .i64 (ai ((i:Int)+1))→
   eX H.length 44 (fun j st=>∃ (i:Nat) (Hi:List (Option Blk)) (Ki:Nat→Option Kd) (q:Nat),i+j=n∧Cur K H (Wk qT K) G Ki Hi∧dM K Ki∧IsNode Ki m q∧aa Hi H.length=some ⟨false,[.u32 a,.i64 n],none⟩∧Ki H.length=none∧st=⟨[(3,.ptr H.length 0),(5,.ptr q 0),(12,.i64 n),(13,.i64 i)],Hi⟩) j ⟨t,Hi⟩:=fun Hi Ki q t hC hx hq hgN hKN h3 h5 h12 h13=>
  aS (j-1) ⟨[(3,.ptr H.length 0),(5,.ptr q 0),(12,.i64 n),(13,.i64 (i+1:Nat))],Hi⟩ (by omega) (by simp[St.get,h3,h5,h12,h13,w2]) rfl (fun _ _ h=>h) ⟨i+1,Hi,Ki,q,by omega,hC,hx,hq,hgN,hKN,rfl⟩
 have hnew:=hC.new (.tnode m) rfl (vs:=[.nilPtr,.nilPtr,.bool false,.i64 0]) ⟨.inl rfl,.inl rfl,⟨_,rfl⟩,⟨_,rfl,by omega,by omega⟩,trivial⟩
 have hq2:IsNode (aQ Ki Hi.length (some (.tnode m))) m q:=hq.ext fun _ _ e=>hC.wt.old e
 have hg2:aa (Hi++[some (⟨false,[.nilPtr,.nilPtr,.bool false,.i64 0],none⟩:Blk)]) q=some ⟨false,k0::k1:: .bool is:: .i64 ow::rest,none⟩:=(dH hlq).trans hg
 have hlq2:q<(Hi++[some (⟨false,[.nilPtr,.nilPtr,.bool false,.i64 0],none⟩:Blk)]).length:=by simp;omega
 have hgN2:aa (Hi++[some (⟨false,[.nilPtr,.nilPtr,.bool false,.i64 0],none⟩:Blk)]) H.length=some ⟨false,[.u32 a,.i64 n],none⟩:=(dH hlN).trans hgN
 have hx2:dM K (aQ Ki Hi.length (some (.tnode m))):=fun _ _ e=>hC.wt.old (hx _ _ e)
 have hKN2:aQ Ki Hi.length (some (.tnode m)) H.length=none:=by rw[aM (by omega)];exact hKN
 rcases hb with hb|hb
 ·rcases hk0 with rfl|⟨e,rfl,he⟩
  ·simp only[go_sem,seval,hgN,hg,hi',w1,hnn,Int.toNat_natCast,hb,decide_true,hg2,aW hlq2]
   repeat refine aI ?_
   have hp:=sk (k0':= .ptr Hi.length 0) (k1':=k1) (is':=is) (ow':=ow) hnew hq2 hg2 (.inr ⟨_,rfl,bM⟩) (lM (fun x e=>hC.wt.old e) hk1) ho0 ho1
   exact step _ _ _ _ hp hx2 (.inl bM) ((aP hqN _).trans hgN2) hKN2 rfl rfl rfl rfl
  ·simp only[go_sem,seval,hgN,hg,hi',w1,hnn,Int.toNat_natCast,hb,decide_true]
   repeat refine aI ?_
   exact step _ _ _ _ hC hx (.inl he) hgN hKN rfl rfl rfl rfl
 ·rcases hk1 with rfl|⟨e,rfl,he⟩
  ·simp only[go_sem,seval,hgN,hg,hi',w1,hnn,Int.toNat_natCast,hb,decide_true,hg2,aW hlq2]
   repeat refine aI ?_
   have hp:=sk (k0':=k0) (k1':= .ptr Hi.length 0) (is':=is) (ow':=ow) hnew hq2 hg2 (lM (fun x e=>hC.wt.old e) hk0) (.inr ⟨_,rfl,bM⟩) ho0 ho1
   exact step _ _ _ _ hp hx2 (.inl bM) ((aP hqN _).trans hgN2) hKN2 rfl rfl rfl rfl
  ·simp only[go_sem,seval,hgN,hg,hi',w1,hnn,Int.toNat_natCast,hb,decide_true]
   repeat refine aI ?_
   exact step _ _ _ _ hC hx (.inl he) hgN hKN rfl rfl rfl rfl
end
section
variable {G:Gh}{K K0:Nat→Option Kd}{H H0:List (Option Blk)}{b c p q d m n:Nat}
def uc (G:Gh)(K:Nat→Option Kd):V→Gh→(Nat→Option Kd)→Prop:=fun v G' K'=>G'=G∧dM K K'∧bK v
theorem Pw (h:WT G K H)(hc:K c=some (.troot m))(a:BitVec 32)(n:Nat)(hn:n≤32)(i:Nat)(hi:i<m)(hm:m≤8):∃ v G' K' H',Done Tryz.prog 33 [.ptr c 0,.agg [.u32 a,.i64 n],.i64 i] K H (Wk qT K) v G' K' H'∧uc G K v G' K':=by
 have hC0:=(Cur.start (Q:=qT) h).junk (vs:=[.u32 a,.i64 n]) (mm:=none) (by simp[ac,V.low])
 have hlc:=h.lt hc
 have q1:¬ (n:Int)<0:=by omega
 have q2:¬ (32:Int)<n:=by omega
 have q3:¬ (i:Int)<0:=by omega
 have q4:¬ (8:Int)≤i:=by omega
 have q5:(0:Int)≤n:=by omega
 refine bE (W:=Wk qT K) (Post:=uc G K) (by kernel_rfl) (fn:=Tryz.f33) Tryz.func33 rfl (by show 3≤58;decide) (ag ?_)
 simp only[go_sem,seval,dm,q1,q2,q3,q4,q5]
 repeat refine aI ?_
 split
 ·exact EndW.of hC0 trivial ⟨rfl,fun _ _ e=>e,_,rfl⟩
 refine aT (Rv hC0.wt hc (by omega) a n hn) (by kernel_rfl) rfl (by simp[ac,V.low,(show c<H.length+1 by omega)]) hC0.wt.sane ?_
 rintro _ G1 K1 H1 hC1 hl1 ⟨rfl,hx1,q,rfl,hq⟩
 have hD1:=hC0.callK hC1 fun _ h=>h
 obtain⟨k0,k1,is,ow,rest,hg,hk0,hk1,ho0,ho1⟩:=re hC1.wt hq
 have hlq:q<H1.length:=by rcases hq with e|e<;>exact hC1.wt.lt e
 have hio:(i:Int)≤(m:Int)-1:=by omega
 have fin:∀ {H2:List (Option Blk)} {t:List (Nat×V)} {k0 k1:V} {is:Bool} {ow:Int} {rest:List V},Cur K H (Wk qT K) G1 K1 H2→aa H2 q=some ⟨false,k0::k1:: .bool is:: .i64 ow::rest,none⟩→fieldOk K1 (.opt (.tnode m)) k0→fieldOk K1 (.opt (.tnode m)) k1→
   EndW K H (Wk qT K) (uc G1 K) (.i64 0) ⟨t,H2.set q (some ⟨false,k0::k1:: .bool true:: .i64 i::rest,none⟩)⟩:=fun hC hg h0 h1=>EndW.of (s:=⟨_,_⟩) (sk hC hq hg h0 h1 (by omega) hio) trivial ⟨rfl,hx1,_,rfl⟩
 cases is
 rotate_left
 ·simp only[go_sem,seval,hg,aW hlq,List.set_set]
  repeat refine aI ?_
  exact fin hD1 hg hk0 hk1
 have hc1:=hx1 c _ hc
 obtain⟨r0,r1,ris,row,many,hgc,hF⟩:=hC1.wt.troot hc1
 have hlc1:=hC1.wt.lt hc1
 by_cases h64:many=64
 ·simp only[go_sem,seval,hg,hgc,h64,decide_true]
  repeat refine aI ?_
  exact EndW.of hD1 trivial ⟨rfl,hx1,_,rfl⟩
 by_cases hqc:q=c
 ·subst hqc
  rw[hg] at hgc
  cases hgc
  simp only[go_sem,seval,hg,h64,decide_false,aW hlq,List.set_set]
  repeat refine aI ?_
  have hD2:=hD1.putK hc1 rfl trivial (TrootF.row (G:=G1) (is:=false) (many:=ai (many+1)) {hF with})
  have :=fin (t:=[]) hD2 (aW hlq _) hk0 hk1
  rw[List.set_set] at this
  exact this
 ·have hD2:=hD1.putK hc1 rfl trivial (TrootF.row (G:=G1) (is:=ris) (many:=ai (many+1)) {hF with})
  have hg2:=(aP (H:=H1) (fun e=>hqc e.symm) (some (⟨false,[r0,r1,.bool ris,.i64 row,.i64 (ai (many+1))],none⟩:Blk))).trans hg
  have hlq3:q<(H1.set c (some (⟨false,[r0,r1,.bool ris,.i64 row,.i64 (ai (many+1))],none⟩:Blk))).length:=by rw[List.length_set];exact hlq
  simp only[go_sem,seval,hg,hgc,h64,decide_false,aW hlq3,hg2,List.set_set]
  repeat refine aI ?_
  exact fin hD2 hg2 hk0 hk1
end
section
variable {G:Gh}{K K0:Nat→Option Kd}{H H0:List (Option Blk)}{a b c p q d m n M:Nat}
structure PeersA (K:Nat→Option Kd) (H:List (Option Blk)) (a M:Nat) (cs:List V):Prop where
 here:aa H a=some ⟨false,cs,none⟩
 no:K a=none
 len:cs.length=M*4
 row:∀ i,i<M→∃ (pub psk:List af) (at_:BitVec 32) (pb:Nat) (addr:BitVec 32),(cs.drop (i*4)).take 4=[.str pub,.str psk,.u32 at_,.slice pb 0 1 2]∧pub.length≤1000∧psk.length≤1000∧aa H pb=some ⟨false,[.u32 addr,.i64 24],none⟩∧K pb=none
theorem PeersA.keep {K':Nat→Option Kd}{H':List (Option Blk)}{cs:List V}(h:PeersA K H a M cs)(hC:Cur K H (Wk qT K) G K' H'):PeersA K' H' a M cs:=by
 have hn:∀ b B,aa H b=some B→K b=none→aa H' b=some B∧K' b=none:=fun b B hg hk=>
  ⟨(hC.keep b (aj hg) fun⟨k,e,_⟩=>by rw[hk] at e;cases e).trans hg,hC.unt b (aj hg) hk⟩
 refine⟨(hn _ _ h.here h.no).1,(hn _ _ h.here h.no).2,h.len,fun i hi=>?_⟩
 obtain⟨pub,psk,at_,pb,addr,h1,h2,h3,h4,h5⟩:=h.row i hi
 exact⟨pub,psk,at_,pb,addr,h1,h2,h3,(hn _ _ h4 h5).1,(hn _ _ h4 h5).2⟩
def nw (G:Gh)(K:Nat→Option Kd)(M:Nat)(v:V)(G':Gh)(K':Nat→Option Kd):Prop:=G'=G∧dM K K'∧((∃ e:Int,e≠0∧v= .tup [.nilPtr,.i64 e])∨∃ c,v= .tup [.ptr c 0,.i64 0]∧K' c=some (.dev M M))
theorem Gb (h:WT G K H)(here:BitVec 32)(own seed:List af)(h1:own.length=32)(h2:seed.length=32)(best:Int)(hb:best=1∨best=2){cs:List V}(hP:PeersA K H a M cs)(hM0:0<M)(hM8:M≤8){t:List (Nat×V)}
  (e0:ae t 0= .u32 here) (e1:ae t 1= .str own) (e2:ae t 2= .str seed) (e3:ae t 3= .i64 best) (e4:ae t 4= .slice a 0 M 4) (r0 b1 c5:Code) (hc:Tryz.f22.body=some (.seq r0 (.seq b1 c5))):
  vc Tryz.prog H.length Tryz.f22.ntmps c5 (b8 Tryz.prog Tryz.f22 (EndW K H (Wk qT K) (nw G K M))) ⟨t,H⟩:=by
 have hC0:=Cur.start (Q:=qT) h
 have hla:=aj hP.here
 simp only[Tryz.f22,Option.some.injEq,Code.seq.injEq] at hc
 obtain⟨-,-,rfl⟩:=hc
 refine ag ?_
 simp only[go_sem,seval,e1]
 repeat refine aI ?_
 refine bh (kJ own) ?_
 rintro _ ⟨pu,e,rfl,hpu⟩
 simp only[go_sem,seval,e0,e1,e2,e3]
 repeat refine aI ?_
 refine aT (JA h M hM0) (by kernel_rfl) rfl (by simp[ac]) h.sane ?_
 rintro _ G1 K1 H1 hC1 hl1 ⟨hG1,hx1,rfl,hp1⟩
 obtain rfl:=hG1.symm
 have hD1:=hC0.callP (W2:=fun _=>False) hC1 fun _ h=>h.elim
 simp only[go_sem,seval]
 repeat refine aI ?_
 refine aT (JB hC1.wt) (by kernel_rfl) rfl (by simp[ac]) hC1.wt.sane ?_
 rintro _ G2 K2 H2 hC2 hl2 ⟨hG2,hx2,c2,rfl,hc2⟩
 obtain rfl:=hG2.symm
 have hD2:=hD1.callP (W2:=fun _=>False) hC2 fun _ h=>h.elim
 have hp2:=hx2 _ _ hp1
 have hx02:dM K K2:=fun b k e=>hx2 _ _ (hx1 _ _ e)
 have hlen2:=hD2.len
 simp only[go_sem,seval,e4]
 repeat refine aI ?_
 have hD3:=hD2.new (.dev M 0) rfl (vs:=[.u32 here,.str own,.str pu,.str seed,.i64 best,.u64 0#64,.str [],.u32 0#32,.i64 0,.i64 0,.bool false,.nilSlice,.ptr H.length 0,.ptr c2 0,.nilSlice,.nilSlice])
  (DevF.row (G:=G) (here:=here) (fresh:=0#64) (index:=0#32) (firsts:=0) (busy:=false) ⟨by unfold bn;omega,by unfold bn;omega,by unfold bn;omega,by omega,by simp[bn],by omega,.inl ⟨rfl,rfl⟩,by rw[aM (by have :=hC2.wt.lt hp2;omega)];exact hp2,by rw[aM (by have :=hC2.wt.lt hc2;omega)];exact hc2,.inl rfl,.inl rfl⟩)
 have hx3:dM K (aQ K2 H2.length (some (.dev M 0))):=fun b k e=>hC2.wt.old (hx02 b k e)
 have hdK:aQ K2 H2.length (some (.dev M 0)) H2.length=some (.dev M 0):=bM
 have hP3:=hP.keep hD3
 have hN3:zZ H.length H2.length (H2++[some (⟨false,[.u32 here,.str own,.str pu,.str seed,.i64 best,.u64 0#64,.str [],.u32 0#32,.i64 0,.i64 0,.bool false,.nilSlice,.ptr H.length 0,.ptr c2 0,.nilSlice,.nilSlice],none⟩:Blk)]):=by
  intro B pa n e hB he
  rw[dm] at hB
  cases hB
  cases he
 generalize aQ K2 H2.length (some (.dev M 0))=K3 at*
 generalize (H2++[some (⟨false,[.u32 here,.str own,.str pu,.str seed,.i64 best,.u64 0#64,.str [],.u32 0#32,.i64 0,.i64 0,.bool false,.nilSlice,.ptr H.length 0,.ptr c2 0,.nilSlice,.nilSlice],none⟩:Blk)])=H3 at*
 generalize H2.length=d at*
 refine aH (fun j st=>∃ (i:Nat) (Hi:List (Option Blk)) (Ki:Nat→Option Kd),i+j=M∧Cur K H (Wk qT K) G Ki Hi∧dM K Ki∧PeersA Ki Hi a M cs∧Ki d=some (.dev M i)∧zZ H.length d Hi∧st=⟨[(12,.str pu),(14,.ptr d 0),(59,.slice a 0 M 4),(60,.i64 M),(61,.i64 i)],Hi⟩) ?_ ?_
 ·exact aX M ⟨[(12,.str pu),(14,.ptr d 0),(59,.slice a 0 M 4),(60,.i64 M),(61,.i64 (0:Nat))],H3⟩ (by simp[St.get,ae]) rfl (fun _ _ h=>h) ⟨0,H3,K3,by omega,hD3,hx3,hP3,hdK,hN3,rfl⟩
 rintro j st ⟨i,Hi,Ki,hij,hC,hx,hPi,hd,hPN,rfl⟩-
 have hld:=hC.wt.lt hd
 by_cases hi:i<M
 rotate_left
 ·have hi':¬ (i:Int)<(M:Int):=by omega
  obtain rfl:i=M:=by omega
  simp only[go_sem,seval,hi',decide_false]
  repeat refine aI ?_
  refine aT (zm hC.wt hd) (by kernel_rfl) rfl (by simp[ac,V.low,hld]) hC.wt.sane ?_
  rintro _ G8 K8 H8 hC8 hl8 ⟨hG8,hK8,k8,rfl,hk8⟩
  obtain rfl:=hG8.symm
  obtain rfl:=hK8.symm
  have hD8:=hC.call hC8 fun b hb e=>by subst e;omega
  obtain⟨here,own,pub,seed,best,fresh,secret,index,firsts,now,busy,peers,paths,bucket,out,got,hg8,hF⟩:=hC8.wt.dev hd
  have hld8:=hC8.wt.lt hd
  simp only[go_sem,seval,hg8]
  repeat refine aI ?_
  exact EndW.of (hD8.putW hd rfl (fun h=>by omega) (DevF.row (here:=here) (fresh:=fresh) (index:=index) (firsts:=firsts) (busy:=busy) (secret:=k8) {hF with fsecret:=by unfold bn;omega})) (by simp[ac,V.low,hld8]) ⟨rfl,hx,.inr ⟨d,rfl,hd⟩⟩
 have hi':(i:Int)<(M:Int):=by omega
 obtain⟨pub,psk,at_,pb,addr,hrow,hpub,hpsk,hgpb,hkpb⟩:=hPi.row i hi
 have hga:=hPi.here
 have hlen:=hPi.len
 have hmul:i*4+4≤M*4:=by omega
 have hz:Hi.length<(Hi++[some (⟨false,[.str [],.str [],.u32 0#32,.nilSlice],none⟩:Blk)]).length:=by simp
 simp only[go_sem,seval,hi',decide_true,hga,hrow,hlen,aW hz]
 repeat refine aI ?_
 have hlai:=aj hga
 have hlpb:=aj hgpb
 have hbox:=hC.boxed (zs:=[.str [],.str [],.u32 0#32,.nilSlice]) (ys:=[.str pub,.str psk,.u32 at_,.slice pb 0 1 2]) (by simp[ac,V.low]) (by simp[ac,V.low];omega)
 have hb4:=d7 (H:=Hi) (x:=some (⟨false,[.str [],.str [],.u32 0#32,.nilSlice],none⟩:Blk)) (y:=some ⟨false,[.str pub,.str psk,.u32 at_,.slice pb 0 1 2],none⟩)
 have hgpb4:=(dt (x:=some (⟨false,[.str [],.str [],.u32 0#32,.nilSlice],none⟩:Blk)) (y:=some ⟨false,[.str pub,.str psk,.u32 at_,.slice pb 0 1 2],none⟩) hlpb).trans hgpb
 have hP4:PeersA Ki ((Hi++[some (⟨false,[.str [],.str [],.u32 0#32,.nilSlice],none⟩:Blk)]).set Hi.length (some ⟨false,[.str pub,.str psk,.u32 at_,.slice pb 0 1 2],none⟩)) a M cs:=hP.keep hbox
 have hgd4:aa ((Hi++[some (⟨false,[.str [],.str [],.u32 0#32,.nilSlice],none⟩:Blk)]).set Hi.length (some ⟨false,[.str pub,.str psk,.u32 at_,.slice pb 0 1 2],none⟩)) d=aa Hi d:=dt hld
 have hNK:Ki Hi.length=none:=hC.wt.fresh (Nat.le_refl _)
 have hlT:((Hi++[some (⟨false,[.str [],.str [],.u32 0#32,.nilSlice],none⟩:Blk)]).set Hi.length (some ⟨false,[.str pub,.str psk,.u32 at_,.slice pb 0 1 2],none⟩)).length=Hi.length+1:=by simp
 have hlHi:=hC.len
 generalize ((Hi++[some (⟨false,[.str [],.str [],.u32 0#32,.nilSlice],none⟩:Blk)]).set Hi.length (some ⟨false,[.str pub,.str psk,.u32 at_,.slice pb 0 1 2],none⟩))=T1 at*
 generalize Hi.length=N at*
 have ret_:∀ (e:Int) (t:List (Nat×V)) (K2:Nat→Option Kd) (H2:List (Option Blk)),e≠0→Cur K H (Wk qT K) G K2 H2→dM K K2→EndW K H (Wk qT K) (nw G K M) (.tup [.nilPtr,.i64 e]) ⟨t,H2⟩:=fun e t K2 H2 he hC hx=>EndW.of (s:=⟨t,H2⟩) hC (by simp[ac,V.low]) ⟨rfl,hx,.inl ⟨e,he,rfl⟩⟩
 by_cases hpl:pub.length=32
 rotate_left
 ·have hpl':¬ (pub.length:Int)=32:=by omega
  simp only[go_sem,seval,hpl',not_true,not_false_eq_true]
  repeat refine aI ?_
  exact ret_ _ _ _ _ (by decide) hbox hx
 have hpl':(pub.length:Int)=32:=by omega
 simp only[go_sem,seval,hpl',not_true,not_false_eq_true,hb4]
 repeat refine aI ?_
 by_cases hkl:psk.length=32
 rotate_left
 ·have hkl':¬ (psk.length:Int)=32:=by omega
  simp only[go_sem,seval,hkl',not_false_eq_true,decide_true]
  repeat refine aI ?_
  exact ret_ _ _ _ _ (by decide) hbox hx
 have hkl':(psk.length:Int)=32:=by omega
 simp only[go_sem,seval,hkl',not_true,decide_false]
 repeat refine aI ?_
 have hldT:d<T1.length:=hbox.wt.lt hd
 have hldT2:d<N+1:=by omega
 by_cases hpp:pub=pu
 ·simp only[go_sem,seval,hpp,decide_true]
  repeat refine aI ?_
  exact ret_ _ _ _ _ (by decide) hbox hx
 simp only[go_sem,seval,hpp,decide_false,not_false_eq_true]
 repeat refine aI ?_
 refine aT (ym hbox.wt hd (by omega) pub) (by kernel_rfl) rfl (by simp[ac,V.low,hldT]) hbox.wt.sane ?_
 rintro _ G5 K5 H5 hC5 hl5 ⟨hG5,hK5,hv5⟩
 obtain rfl:=hG5.symm
 obtain rfl:=hK5.symm
 have hD5:=hbox.callP (W2:=fun _=>False) hC5 fun _ h=>h.elim
 have k5:∀ c,c<T1.length→aa H5 c=aa T1 c:=fun c hc=>hC5.keep c hc fun h=>h
 have hb5:=(k5 N (by omega)).trans hb4
 have hgpb5:=(k5 pb (by omega)).trans hgpb4
 have hl5:=hC5.len
 rcases hv5 with rfl|⟨p5,rfl,hp5⟩
 rotate_left
 ·simp only[go_sem,seval]
  repeat refine aI ?_
  exact ret_ _ _ _ _ (by decide) hD5 hx
 simp only[go_sem,seval,hb5]
 repeat refine aI ?_
 refine bI 2 ?_
 obtain⟨here,own,pub5,seed,best,fresh,secret,index,firsts,now,busy,peers,paths,bucket,out,got,hg5,hF⟩:=hC5.wt.dev hd
 have hld5:=hC5.wt.lt hd
 have hgi:=hgd4.symm.trans ((k5 d hldT).symm.trans hg5)
 have hz5:H5.length<(H5++[some (⟨false,[.u32 0#32,.i64 0],none⟩:Blk)]).length:=by simp
 have hlpb5:=aj hgpb5
 have hg6:=(dt (x:=some (⟨false,[.u32 0#32,.i64 0],none⟩:Blk)) (y:=some ⟨false,[.u32 addr,.i64 24],none⟩) hld5).trans hg5
 simp only[go_sem,seval,hgpb5,aW hz5,hg6]
 repeat refine aI ?_
 have hNl5:N<H5.length:=by omega
 have hD6:=hD5.boxed (zs:=[.u32 0#32,.i64 0]) (ys:=[.u32 addr,.i64 24]) (by simp[ac,V.low]) (by simp[ac,V.low])
 have hb56:=(dt (x:=some (⟨false,[.u32 0#32,.i64 0],none⟩:Blk)) (y:=some ⟨false,[.u32 addr,.i64 24],none⟩) hNl5).trans hb5
 have hb6:=d7 (H:=H5) (x:=some (⟨false,[.u32 0#32,.i64 0],none⟩:Blk)) (y:=some ⟨false,[.u32 addr,.i64 24],none⟩)
 have hlT6:((H5++[some (⟨false,[.u32 0#32,.i64 0],none⟩:Blk)]).set H5.length (some ⟨false,[.u32 addr,.i64 24],none⟩)).length=H5.length+1:=by simp
 generalize ((H5++[some (⟨false,[.u32 0#32,.i64 0],none⟩:Blk)]).set H5.length (some ⟨false,[.u32 addr,.i64 24],none⟩))=T6 at*
 refine bN (Pw hD6.wt hF.fpaths addr 24 (by omega) i hi hM8) (by kernel_rfl) rfl (by simp[ac,V.low,hD6.wt.lt hF.fpaths]) hD6.wt.sane ?_
 rintro _ G7 K7 H7 hC7 hl7 ⟨hG7,hx7,e7,rfl⟩
 obtain rfl:=hG7.symm
 simp only[go_sem,seval]
 repeat refine aI ?_
 have hD7:=hD6.callK hC7 fun _ h=>h
 have hx07:dM K K7:=fun b k e=>hx7 _ _ (hx _ _ e)
 have hd7:=hx7 _ _ hd
 have hlT6:T6.length=H5.length+1:=hlT6
 have hg7:=(hC7.keep d (hD6.wt.lt hd) (j7 hd id)).trans hg6
 have hb7:=(hC7.keep N (by omega) fun⟨k,e,_⟩=>by rw[hNK] at e;cases e).trans hb56
 have hF7:=hC7.wt.devF hd7 hg7
 have hP7:PeersA K7 H7 a M cs:=hP.keep hD7
 by_cases he7:e7=0
 rotate_left
 ·rw[if_pos he7]
  exact ret_ _ _ _ _ he7 hD7 hx07
 rw[if_neg (by omega)]
 have hld7:=hC7.wt.lt hd7
 have hlN7:=aj hb7
 rcases hF7.fpeers with⟨rfl,rfl⟩|⟨pa,rfl,hi0,hpa⟩
 ·simp only[go_sem,seval,hg7,hb7]
  repeat refine aI ?_
  refine bN (yo hC7.wt) (by kernel_rfl) rfl (by simp[ac]) hC7.wt.sane ?_
  rintro _ G8 K8 H8 hC8 hl8 ⟨hG8,hx8,rfl,htm⟩
  obtain rfl:=hG8.symm
  have hD8:=hD7.callP (W2:=fun _=>False) hC8 fun _ h=>h.elim
  have hg8:=(hC8.keep d hld7 fun h=>h).trans hg7
  have hd8:=hx8 _ _ hd7
  simp only[go_sem,seval]
  repeat refine aI ?_
  have hld8:=hC8.wt.lt hd8
  have hl8:H7.length≤H8.length:=hC8.len
  have hHD8:H.length≤H8.length:=hD8.len
  have hA:=hD8.new (.peer d) rfl (vs:=[.ptr d 0,.ptr H7.length 0,.i64 0,.str pub,.str psk,.u32 at_,.i64 1,.i64 1,.bool false,.i64 0,.i64 0,.str [],.i64 0,.nilSlice,.nilPtr,.u32 0#32,.str [],.nilPtr,.nilPtr,.nilPtr])
   (PeerF.row (G:=G) (num:=0) (at_:=at_) (stamped:=false) (sec:=0) (nano:=0) (until_:=0) (bindex:=0#32) ⟨⟨M,0,hC8.wt.old hd8⟩,hC8.wt.old htm,hpl,by unfold bn;omega,by omega,by omega,.inl rfl,.inl rfl,.inl rfl,by simp[bn],.inl rfl,.inl rfl,.inl rfl⟩)
  have hB:=hA.junk (vs:=[.ptr H8.length 0]) (mm:=none) (by simp[ac,V.low];omega)
  have hF8:=hC8.wt.devF hd8 hg8
  simp only[go_sem,seval,hg8,o6 hld8]
  repeat refine aI ?_
  refine And.intro ?_ ?_
  ·refine co (cM H7.length) [([],[]),([],[]),([],[]),([],[]),([0],[]),([],[]),([],[]),([],[]),([0],[]),([],[]),([0],[]),([],[]),([0],[]),([0,1],[1]),([],[]),([],[1]),([],[1]),([1],[1]),([],[]),([],[]),([0],[0])] (by kernel_rfl) (by simp only[cC,cD,cE,eH,all_cons,ia,List.nil_append,jN,ce hld7,ce hlN7,zn hl8,MJ hl8,zn (show H7.length≤H8.length+1+1 by omega),cT,fa,and_true])
  have hdB:aQ K8 H8.length (some (.peer d)) d=some (.dev M 0):=hC8.wt.old hd8
  have hGr:=wu (H8.length+1+1) (by simp) hB h.klt hdB (by omega) (hB.wt.devF hdB ((eg hld8).trans hg8)) none (fun _ e=>by cases e) (ps:=[]) trivial bM
  refine aS (j-1) ⟨[(12,.str pu),(14,.ptr d 0),(59,.slice a 0 M 4),(60,.i64 M),(61,.i64 ((0+1:Nat):Int))],_⟩ (by omega) (by simp[St.get,ae]) rfl (fun _ _ h=>h) ⟨1,_,_,by omega,hGr,fun b k hk=>?_,hP.keep hGr,bM,?_,rfl⟩
  ·have hbl:=h.lt hk
   exact oX (hC8.wt.old (hx8 _ _ (hx07 _ _ hk))) (by omega) (by omega) (by simp)
  ·intro B pa2 n2 e2 hB he
   rw[aW (by simp[cutH];omega)] at hB
   cases hB
   cases he
   omega
 ·simp only[go_sem,seval,hg7,hb7]
  repeat refine aI ?_
  refine bN (yo hC7.wt) (by kernel_rfl) rfl (by simp[ac]) hC7.wt.sane ?_
  rintro _ G8 K8 H8 hC8 hl8 ⟨hG8,hx8,rfl,htm⟩
  obtain rfl:=hG8.symm
  have hD8:=hD7.callP (W2:=fun _=>False) hC8 fun _ h=>h.elim
  have hg8:=(hC8.keep d hld7 fun h=>h).trans hg7
  have hd8:=hx8 _ _ hd7
  simp only[go_sem,seval]
  repeat refine aI ?_
  have hld8:=hC8.wt.lt hd8
  have hl8:H7.length≤H8.length:=hC8.len
  have hHD8:H.length≤H8.length:=hD8.len
  have w1:=cd (i:=i) (by omega)
  have hA:=hD8.new (.peer d) rfl (vs:=[.ptr d 0,.ptr H7.length 0,.i64 i,.str pub,.str psk,.u32 at_,.i64 1,.i64 1,.bool false,.i64 0,.i64 0,.str [],.i64 0,.nilSlice,.nilPtr,.u32 0#32,.str [],.nilPtr,.nilPtr,.nilPtr])
   (PeerF.row (G:=G) (num:=i) (at_:=at_) (stamped:=false) (sec:=0) (nano:=0) (until_:=0) (bindex:=0#32) ⟨⟨M,i,hC8.wt.old hd8⟩,hC8.wt.old htm,hpl,by unfold bn;omega,by omega,by omega,.inl rfl,.inl rfl,.inl rfl,by simp[bn],.inl rfl,.inl rfl,.inl rfl⟩)
  have hB:=hA.junk (vs:=[.ptr H8.length 0]) (mm:=none) (by simp[ac,V.low];omega)
  have hF8:=hC8.wt.devF hd8 hg8
  have hpa8:=hx8 _ _ hpa
  have hpn:=hPN _ pa i 1 hgi rfl
  obtain⟨ps,hgp,hrp⟩:=hC8.wt.row hpa8 rfl
  have hlps:=hY hrp
  have hlpa:=hC8.wt.lt hpa8
  have hlpa7:=hC7.wt.lt hpa
  have hne:pa≠d:=fun e=>by subst e;rw[hd7] at hpa;cases hpa
  have hNpa:N≠pa:=fun e=>by subst e;have :=hC7.unt N (by omega) hNK;rw[hpa] at this;cases this
  simp only[go_sem,seval,hg8,hgp,eg hlpa,oW hld8 hne,List.take_of_length_le (show ps.length≤i by omega)]
  repeat refine aI ?_
  refine And.intro ?_ ?_
  ·refine co (cU pa H7.length) [([],[]),([],[]),([],[]),([],[]),([0],[]),([],[]),([],[]),([],[]),([0],[]),([],[]),([0],[]),([],[]),([0],[]),([0,1,2],[1]),([],[]),([],[1]),([],[1]),([1,2],[1,2]),([],[]),([],[]),([0],[0])] (by kernel_rfl) (by simp only[cC,cD,cE,lm,all_cons,ia,List.nil_append,lL,dO hld7 hne.symm,dO hlN7 hNpa,tk,ML hlpa7,pA hl8 hlpa7,MK hl8 hlpa7,pA (show H7.length≤H8.length+1+1 by omega) hlpa7,cT,fa,pR,and_true])
  have hdB:aQ K8 H8.length (some (.peer d)) d=some (.dev M i):=hC8.wt.old hd8
  have hGr:=wu (H8.length+1+1) (by simp) hB h.klt hdB (by omega) (hB.wt.devF hdB ((eg hld8).trans hg8)) (some pa) (fun x e=>by cases e;exact⟨hC8.wt.old hpa8,hpn⟩) (ps:=ps) (Row.mono (fun e m' n' he=>⟨m',n',hC8.wt.old he⟩) (fun f hf x k' hr he=>hC8.wt.old he) hrp) bM
  refine aS (j-1) ⟨[(12,.str pu),(14,.ptr d 0),(59,.slice a 0 M 4),(60,.i64 M),(61,.i64 ((i+1:Nat):Int))],_⟩ (by omega) (by simp[St.get,ae,w1]) rfl (fun _ _ h=>h) ⟨i+1,_,_,by omega,hGr,fun b k hk=>?_,hP.keep hGr,bM,?_,rfl⟩
  ·have hbl:=h.lt hk
   exact oX (hC8.wt.old (hx8 _ _ (hx07 _ _ hk))) (by omega) (by omega) (fun e2=>by cases e2;omega)
  ·intro B pa2 n2 e2 hB he
   rw[aW (by simp[cutH];omega)] at hB
   cases hB
   cases he
   omega
end
section
variable {G:Gh}{K K0:Nat→Option Kd}{H H0:List (Option Blk)}{a b c p q d m n M:Nat}
theorem JC (h:WT G K H)(here:BitVec 32)(h0:here≠0#32)(own seed:List af)(h1:own.length=32)(h2:seed.length=32)(best:Int){cs:List V}(hP:PeersA K H a M cs)(hM0:0<M)(hM8:M≤8)(r0 b1 c5:Code)(hc:Tryz.f22.body=some (.seq r0 (.seq b1 c5))):
  vc Tryz.prog H.length Tryz.f22.ntmps (.seq r0 (.seq b1 c5)) (b8 Tryz.prog Tryz.f22 (EndW K H (Wk qT K) (nw G K M))) ⟨cW [.u32 here,.str own,.str seed,.i64 best,.slice a 0 M 4] 0,H⟩:=by
 have hC0:=Cur.start (Q:=qT) h
 have main:=fun(hb:best=1∨best=2) {t:List (Nat×V)} (e0:ae t 0= .u32 here) (e1:ae t 1= .str own) (e2:ae t 2= .str seed) (e3:ae t 3= .i64 best) (e4:ae t 4= .slice a 0 M 4)=>
  Gb h here own seed h1 h2 best hb hP hM0 hM8 e0 e1 e2 e3 e4 r0 b1 c5 hc
 simp only[Tryz.f22,Option.some.injEq,Code.seq.injEq] at hc
 obtain⟨rfl,rfl,hc⟩:=hc
 clear hc
 have q1:(own.length:Int)=32:=by omega
 have q2:(seed.length:Int)=32:=by omega
 have q3:¬ (8:Int)<(M:Int):=by omega
 refine ag ?_
 simp only[go_sem,seval,h0,q1,q2]
 repeat refine aI ?_
 by_cases hb:best=1∨best=2
 rotate_left
 ·have b1:best≠1:=by omega
  have b2:best≠2:=by omega
  simp only[go_sem,seval,b1,b2,not_false_eq_true,decide_true]
  repeat refine aI ?_
  exact EndW.of hC0 (by simp[ac,V.low]) ⟨rfl,fun _ _ e=>e,.inl ⟨1,by decide,rfl⟩⟩
 have hm:=@main hb
 rcases hb with rfl|rfl
 ·simp only[go_sem,seval,q3,not_true,decide_false]
  repeat refine aI ?_
  exact hm rfl rfl rfl rfl rfl
 ·simp only[go_sem,seval,q3,not_true,not_false_eq_true,decide_false]
  repeat refine aI ?_
  exact hm rfl rfl rfl rfl rfl
theorem MO (h:WT G K H)(here:BitVec 32)(h0:here≠0#32)(own seed:List af)(h1:own.length=32)(h2:seed.length=32)(best:Int){cs:List V}(hP:PeersA K H a M cs)(hM0:0<M)(hM8:M≤8):
  ∃ v G' K' H',Done Tryz.prog 22 [.u32 here,.str own,.str seed,.i64 best,.slice a 0 M 4] K H (Wk qT K) v G' K' H'∧nw G K M v G' K':=
 bE (W:=Wk qT K) (Post:=nw G K M) (by kernel_rfl) (fn:=Tryz.f22) Tryz.func22 rfl (by show 5≤132;decide) (JC h here h0 own seed h1 h2 best hP hM0 hM8 _ _ _ rfl)
end
section
variable {G:Gh}{K K0:Nat→Option Kd}{H H0:List (Option Blk)}{a b c p q d m n M l s N x cnt n0:Nat}{xs:List Nat}{cs:List V}
def Prs (n0:Nat)(K:Nat→Option Kd)(H:List (Option Blk))(v:V)(cnt:Nat):Prop:=(cnt=0∧v= .nilSlice)∨∃ pa cs,v= .slice pa 0 cnt 4∧0<cnt∧n0≤pa∧PeersA K H pa cnt cs
theorem Prs.mono {K':Nat→Option Kd}{H':List (Option Blk)}{v:V}(h:Prs n0 K H v cnt)(hk:∀ b B,aa H b=some B→K b=none→aa H' b=some B∧K' b=none):Prs n0 K' H' v cnt:=by
 rcases h with h|⟨pa,cs,e,h0,h1,hP⟩
 ·exact .inl h
 ·refine .inr ⟨pa,cs,e,h0,h1,(hk _ _ hP.here hP.no).1,(hk _ _ hP.here hP.no).2,hP.len,fun i hi=>?_⟩
  obtain⟨pub,psk,at_,pb,addr,g1,g2,g3,g4,g5⟩:=hP.row i hi
  exact⟨pub,psk,at_,pb,addr,g1,g2,g3,(hk _ _ g4 g5).1,(hk _ _ g4 g5).2⟩
theorem MP (hC:Cur K0 H0 (fun _=>False) G K H){seed:List af}(hs:seed.length=32)(hsb:aa H s=some ⟨false,[.str seed],none⟩){v:V}(hP:Prs H0.length K H v cnt)(hcnt:cnt≤8){i k:Nat}(hi:i≤10)(hk:k≤10)
  {t:List (Nat×V)} (h6:ae t 6= .fn 19 [] [.ptr s 0]) (h8:ae t 8= .i64 i) (h10:ae t 10=v) (h11:ae t 11= .i64 k) {R:Exit→St→Prop} {r0 s1 r3 r4 r5 r6 c6 r7 r8 r9 r10 c10 r11 s12 r13 r14 r15 r16 s17 r19 r20 c21:Code} {b0 b1 b2 b3:Nat}
  (hc:Tryz.f12.body=some (.seq r0 (.seq s1 (.seq r3 (.seq r4 (.seq (.seq r5 (.block b0 (.loop (.seq r6 (.seq c6 (.seq (.block b1 (.seq r7 (.seq r8 (.seq (.seq r9 (.block b2 (.loop (.seq r10 (.seq c10 (.seq (.block b3 (.seq r11 (.seq s12 (.seq r13 r14)))) r15)))))) (.seq r16 (.seq s17 r19)))))) r20)))))) c21))))))
  (hR:∀ (t':List (Nat×V)) (v':V) (H':List (Option Blk)),Cur K0 H0 (fun _=>False) G K H'→Prs H0.length K H' v' (cnt+1)→(∀ b B,aa H b=some B→B.cs.length<4→aa H' b=some B)→ae t' 10=v'→(∀ j,j<47→j≠10→j≠12→j≠13→ae t' j=ae t j)→R .normal ⟨t',H'⟩):
  vc Tryz.prog H0.length Tryz.f12.ntmps (.seq r13 r14) R ⟨t,H⟩:=by
 simp only[Tryz.f12,Option.some.injEq,Code.seq.injEq,Code.block.injEq,Code.loop.injEq] at hc
 obtain⟨-,-,-,-,⟨⟨-,-,-,-,⟨⟨-,-,-,⟨⟨-,-,-,-,⟨⟨-,-,-,rfl,rfl⟩,-⟩⟩,-,-,-⟩⟩,-⟩⟩,-⟩⟩:=hc
 have hls:=aj hsb
 refine ag ?_
 simp only[go_sem,seval,h6,h11]
 repeat refine aI ?_
 refine aT (pf hC.wt seed hs hsb k) (by kernel_rfl) rfl (by simp[ac,V.low,hls]) hC.wt.sane ?_
 rintro _ G1 K1 H1 hC1 hl1 ⟨hG1,hK1,k1,rfl,hk1⟩
 obtain rfl:=hG1.symm
 obtain rfl:=hK1.symm
 have hD1:=hC.call hC1 fun _ _ h=>h
 have e1:∀ c,c<H.length→aa H1 c=aa H c:=fun c hc=>hC1.keep c hc fun h=>h
 have hsb1:=(e1 s hls).trans hsb
 simp only[go_sem,seval]
 repeat refine aI ?_
 refine bh (kJ k1) ?_
 rintro _ ⟨pu,e,rfl,hpu⟩
 simp only[go_sem,seval,h6,h8,h10,h11]
 repeat refine aI ?_
 refine aT (pf hC1.wt seed hs hsb1 _) (by kernel_rfl) rfl (by simp[ac,V.low,aj hsb1]) hC1.wt.sane ?_
 rintro _ G2 K2 H2 hC2 hl2 ⟨hG2,hK2,k2,rfl,hk2⟩
 obtain rfl:=hG2.symm
 obtain rfl:=hK2.symm
 have hD2:=hD1.call hC2 fun _ _ h=>h
 have e2:∀ c,c<H1.length→aa H2 c=aa H1 c:=fun c hc=>hC2.keep c hc fun h=>h
 have hl1:=hC1.len
 have hl2:=hC2.len
 have e12:∀ c B,aa H c=some B→aa H2 c=some B:=fun c B hc=>(e2 c (by have :=aj hc;omega)).trans ((e1 c (aj hc)).trans hc)
 have hP2:Prs H0.length K H2 v cnt:=hP.mono fun b B hb hk=>⟨e12 b B hb,hk⟩
 have hlen0:=hC.len
 have w1:ai ((k:Int)+1)=((k+1:Nat):Int):=cd (by omega)
 rcases hP2 with⟨rfl,rfl⟩|⟨pa,cs,rfl,hc0,hpa0,hPA⟩
 ·simp only[go_sem,seval,h11]
  repeat refine aI ?_
  have hD:=((hD2.junk (vs:=[.u32 (167772160#32+BitVec.ofInt 32 ↑k<<<8),.i64 24]) (mm:=none) (by simp[ac,V.low])).junk (vs:=[.str pu,.str k2,.u32 (BitVec.ofInt 32 (ai (↑k+1))),.slice H2.length 0 1 2]) (mm:=none) (by simp[ac,V.low];omega)).junk (vs:=[.str pu,.str k2,.u32 (BitVec.ofInt 32 (ai (↑k+1))),.slice H2.length 0 1 2]) (mm:=none) (by simp[ac,V.low];omega)
  refine hR _ (.slice (H2.length+1+1) 0 1 4) _ hD (.inr ⟨H2.length+1+1,_,rfl,by omega,by omega,sM,hC2.wt.fresh (by omega),by simp,fun i' hi'=>?_⟩) (fun b B hb _=>?_) (by simp only[go_sem,seval]) (fun j g1 g2 g3 g4=>?_)
  ·obtain rfl:i'=0:=by omega
   exact⟨pu,k2,_,H2.length,_,rfl,by omega,by omega,xT,hC2.wt.fresh (Nat.le_refl _)⟩
  ·have :=e12 b B hb
   exact(o6 (aj this)).trans this
  ·simp only[ae]
   repeat rw[if_neg (by omega)]
 ·have hlpa:=aj hPA.here
  have hlencs:=hPA.len
  simp only[go_sem,seval,h11,hPA.here,eg hlpa,List.drop_zero,List.take_of_length_le (show cs.length≤cnt*4 by omega)]
  repeat refine aI ?_
  have hD:=(((hD2.junk (vs:=[.u32 (167772160#32+BitVec.ofInt 32 ↑k<<<8),.i64 24]) (mm:=none) (by simp[ac,V.low])).junk (vs:=[.str pu,.str k2,.u32 (BitVec.ofInt 32 (ai (↑k+1))),.slice H2.length 0 1 2]) (mm:=none) (by simp[ac,V.low];omega)).jcut hPA.no hpa0).junk (vs:=cs++[.str pu,.str k2,.u32 (BitVec.ofInt 32 (ai (↑k+1))),.slice H2.length 0 1 2]) (mm:=none) (by
   rw[List.length_set,List.length_append,List.length_append,kr]
   exact⟨gw (by simp;omega) _ (hC2.wt.sane pa _ hPA.here).1,by simp[ac,V.low];omega⟩)
  have hother:∀ b B,aa H2 b=some B→B.cs.length<4→b≠pa:=fun b B hb hB e=>by
   subst e
   rw[hPA.here] at hb
   cases hb
   have hB':cs.length<4:=hB
   omega
  have hget:∀ b B,aa H2 b=some B→b≠pa→aa ((H2++[some (⟨false,[.u32 (167772160#32+BitVec.ofInt 32 ↑k<<<8),.i64 24],none⟩:Blk)]++[some (⟨false,[.str pu,.str k2,.u32 (BitVec.ofInt 32 (ai (↑k+1))),.slice H2.length 0 1 2],none⟩:Blk)]).set pa none++[some (⟨false,cs++[.str pu,.str k2,.u32 (BitVec.ofInt 32 (ai (↑k+1))),.slice H2.length 0 1 2],none⟩:Blk)]) b=some B:=fun b B hb hne=>(oW (aj hb) hne.symm).trans hb
  have hnew:aa ((H2++[some (⟨false,[.u32 (167772160#32+BitVec.ofInt 32 ↑k<<<8),.i64 24],none⟩:Blk)]++[some (⟨false,[.str pu,.str k2,.u32 (BitVec.ofInt 32 (ai (↑k+1))),.slice H2.length 0 1 2],none⟩:Blk)]).set pa none++[some (⟨false,cs++[.str pu,.str k2,.u32 (BitVec.ofInt 32 (ai (↑k+1))),.slice H2.length 0 1 2],none⟩:Blk)]) (H2.length+1+1)=some (⟨false,cs++[.str pu,.str k2,.u32 (BitVec.ofInt 32 (ai (↑k+1))),.slice H2.length 0 1 2],none⟩:Blk):=by
   have :=d9 ((H2++[some (⟨false,[.u32 (167772160#32+BitVec.ofInt 32 ↑k<<<8),.i64 24],none⟩:Blk)]++[some (⟨false,[.str pu,.str k2,.u32 (BitVec.ofInt 32 (ai (↑k+1))),.slice H2.length 0 1 2],none⟩:Blk)]).set pa none) (some (⟨false,cs++[.str pu,.str k2,.u32 (BitVec.ofInt 32 (ai (↑k+1))),.slice H2.length 0 1 2],none⟩:Blk)) []
   simp only[List.length_set,List.length_append,List.length_singleton] at this
   exact this
  have hpath:aa ((H2++[some (⟨false,[.u32 (167772160#32+BitVec.ofInt 32 ↑k<<<8),.i64 24],none⟩:Blk)]++[some (⟨false,[.str pu,.str k2,.u32 (BitVec.ofInt 32 (ai (↑k+1))),.slice H2.length 0 1 2],none⟩:Blk)]).set pa none++[some (⟨false,cs++[.str pu,.str k2,.u32 (BitVec.ofInt 32 (ai (↑k+1))),.slice H2.length 0 1 2],none⟩:Blk)]) H2.length=some (⟨false,[.u32 (167772160#32+BitVec.ofInt 32 ↑k<<<8),.i64 24],none⟩:Blk):=by
   rw[bW (by simp),aP (by omega)]
   exact oS
  refine hR _ (.slice (H2.length+1+1) 0 (cnt+1) 4) _ hD (.inr ⟨H2.length+1+1,_,rfl,by omega,by omega,hnew,hC2.wt.fresh (by omega),by simp;omega,fun i' hi'=>?_⟩) (fun b B hb hB=>hget b B (e12 b B hb) (hother b B (e12 b B hb) hB)) (by simp only[go_sem,seval]) (fun j g1 g2 g3 g4=>?_)
  ·by_cases hlast:i'<cnt
   ·obtain⟨pub,psk,at_,pb,addr,q1,q2,q3,q4,q5⟩:=hPA.row i' hlast
    refine⟨pub,psk,at_,pb,addr,?_,q2,q3,hget pb _ q4 (hother pb _ q4 (by show 2<4;omega)),q5⟩
    rw[List.drop_append_of_le_length (by omega),List.take_append_of_le_length (by rw[List.length_drop];omega)]
    exact q1
   ·obtain rfl:i'=cnt:=by omega
    refine⟨pu,k2,BitVec.ofInt 32 (ai (↑k+1)),H2.length,_,?_,by omega,by omega,hpath,hC2.wt.fresh (Nat.le_refl _)⟩
    rw[List.drop_left' (by omega)]
    rfl
  ·simp only[ae]
   repeat rw[if_neg (by omega)]
end
section
variable {G:Gh}{K K0:Nat→Option Kd}{H H0:List (Option Blk)}{a b c p q d m n M l s N x cnt n0 L:Nat}{xs:List Nat}{cs:List V}
def NodesR (n0 s L:Nat)(K:Nat→Option Kd)(H:List (Option Blk))(nv:V)(xs:List Nat):Prop:=(xs=[]∧nv= .nilSlice)∨∃ na,nv= .slice na 0 xs.length 1∧0<xs.length∧n0≤na∧na≠L∧na≠s∧K na=none∧aa H na=some ⟨false,xs.map fun x=> .ptr x 0,none⟩
theorem NodesR.mono {K':Nat→Option Kd}{H':List (Option Blk)}{nv:V}(h:NodesR n0 s L K H nv xs)(hk:∀ b B,aa H b=some B→K b=none→aa H' b=some B∧K' b=none):NodesR n0 s L K' H' nv xs:=by
 rcases h with h|⟨na,e,h0,h1,h2,h3,h4,h5⟩
 ·exact .inl h
 ·exact .inr ⟨na,e,h0,h1,h2,h3,(hk _ _ h5 h4).2,(hk _ _ h5 h4).1⟩
theorem MQ (hK0:∀ b,K0 b=none)(hC:Cur K0 H0 (fun _=>False) G K H){seed:List af}(hs:seed.length=32)(hsb:aa H s=some ⟨false,[.str seed],none⟩)(hKs:K s=none){v:V}(hP:Prs H0.length K H v M)(hM0:0<M)(hM8:M≤8){nv:V}(hLb:aa H L=some ⟨false,[nv,.nilSlice],none⟩)(hKL:K L=none)(hL0:H0.length≤L)(hLs:L≠s)(hNR:NodesR H0.length s L K H nv xs){i:Nat}(hi:i≤10)(best:Int)(hxs:xs.length≤8)
  {t:List (Nat×V)} (h6:ae t 6= .fn 19 [] [.ptr s 0]) (h7:ae t 7= .ptr L 0) (h8:ae t 8= .i64 i) (h9:ae t 9= .i64 best) (h10:ae t 10=v) {R:Exit→St→Prop} {r0 s1 r3 r4 r5 r6 c6 r7 r8 r9 r10 c10 r11 s12 r13 r14 r15 r16 s17 r19 r20 c21:Code} {b0 b1 b2 b3:Nat}
  (hc:Tryz.f12.body=some (.seq r0 (.seq s1 (.seq r3 (.seq r4 (.seq (.seq r5 (.block b0 (.loop (.seq r6 (.seq c6 (.seq (.block b1 (.seq r7 (.seq r8 (.seq (.seq r9 (.block b2 (.loop (.seq r10 (.seq c10 (.seq (.block b3 (.seq r11 (.seq s12 (.seq r13 r14)))) r15)))))) (.seq r16 (.seq s17 r19)))))) r20)))))) c21))))))
  (hret:∀ (t':List (Nat×V)) (K':Nat→Option Kd) (H':List (Option Blk)) (e:Int),Cur K0 H0 (fun _=>False) G K' H'→e≠0→ae t' 4= .nilPtr→ae t' 5= .i64 e→R .ret ⟨t',H'⟩)
  (hR:∀ (t':List (Nat×V)) (nv':V) (K':Nat→Option Kd) (H':List (Option Blk)) (x:Nat),Cur K0 H0 (fun _=>False) G K' H'→aa H' s=some ⟨false,[.str seed],none⟩→K' s=none→aa H' L=some ⟨false,[nv',.nilSlice],none⟩→K' L=none→NodesR H0.length s L K' H' nv' (xs++[x])→(∃ c,K' x=some (.node c M)∧K' c=some (.dev M M))→(∀ y ky,K y=some ky→K' y=some ky)→(∀ j,j<75→j≠14→j≠15→ae t' j=ae t j)→R .normal ⟨t',H'⟩):
  vc Tryz.prog H0.length Tryz.f12.ntmps (.seq r16 (.seq s17 r19)) R ⟨t,H⟩:=by
 simp only[Tryz.f12,Option.some.injEq,Code.seq.injEq,Code.block.injEq,Code.loop.injEq] at hc
 obtain⟨-,-,-,-,⟨⟨-,-,-,-,⟨⟨-,-,-,⟨-,rfl,rfl,rfl⟩⟩,-⟩⟩,-⟩⟩:=hc
 rcases hP with⟨e,-⟩|⟨pa,cs,rfl,hc0,hpa0,hPA⟩
 ·omega
 have hls:=aj hsb
 have hlL:=aj hLb
 refine ag ?_
 simp only[go_sem,seval,h6,h8]
 repeat refine aI ?_
 refine aT (pf hC.wt seed hs hsb _) (by kernel_rfl) rfl (by simp[ac,V.low,hls]) hC.wt.sane ?_
 rintro _ G1 K1 H1 hC1 hl1 ⟨hG1,hK1,k1,rfl,hk1⟩
 obtain rfl:=hG1.symm
 obtain rfl:=hK1.symm
 have hD1:=hC.call hC1 fun _ _ h=>h
 have e1:∀ c,c<H.length→aa H1 c=aa H c:=fun c hc=>hC1.keep c hc fun h=>h
 have hsb1:=(e1 s hls).trans hsb
 simp only[go_sem,seval,h6,h8]
 repeat refine aI ?_
 refine aT (pf hC1.wt seed hs hsb1 _) (by kernel_rfl) rfl (by simp[ac,V.low,aj hsb1]) hC1.wt.sane ?_
 rintro _ G2 K2 H2 hC2 hl2 ⟨hG2,hK2,k2,rfl,hk2⟩
 obtain rfl:=hG2.symm
 obtain rfl:=hK2.symm
 have hD2:=hD1.call hC2 fun _ _ h=>h
 have e2:∀ c,c<H1.length→aa H2 c=aa H1 c:=fun c hc=>hC2.keep c hc fun h=>h
 have hl1:=hC1.len
 have hl2:=hC2.len
 have e12:∀ c B,aa H c=some B→aa H2 c=some B:=fun c B hc=>(e2 c (by have :=aj hc;omega)).trans ((e1 c (aj hc)).trans hc)
 have hPA2:PeersA K H2 pa M cs:=⟨e12 _ _ hPA.here,hPA.no,hPA.len,fun i hi=>by
  obtain⟨pub,psk,at_,pb,addr,g1,g2,g3,g4,g5⟩:=hPA.row i hi
  exact⟨pub,psk,at_,pb,addr,g1,g2,g3,e12 _ _ g4,g5⟩⟩
 have hlpa:=aj hPA2.here
 have w1:ai ((i:Int)+1)=((i+1:Nat):Int):=cd (by omega)
 have hne0:BitVec.ofInt 32 (ai ((i:Int)+1))≠0#32:=by
  rw[w1]
  have hi2:i=0∨i=1∨i=2∨i=3∨i=4∨i=5∨i=6∨i=7∨i=8∨i=9∨i=10:=by omega
  rcases hi2 with rfl|rfl|rfl|rfl|rfl|rfl|rfl|rfl|rfl|rfl|rfl<;>decide
 simp only[go_sem,seval,h9,h10]
 repeat refine aI ?_
 refine aT (MO hC2.wt _ hne0 k1 k2 hk1 hk2 best hPA2 hM0 hM8) (by kernel_rfl) rfl (by simp[ac,V.low,hlpa]) hC2.wt.sane ?_
 rintro _ G3 K3 H3 hC3 hl3 ⟨hG3,hx3,hv3⟩
 obtain rfl:=hG3.symm
 have hD3:=hD2.call hC3 fun b hb ⟨k,e,_⟩=>by
  have :=hD2.kin b k hb e
  rw[hK0 b] at this;cases this
 have e3:∀ b B,aa H2 b=some B→K b=none→aa H3 b=some B∧K3 b=none:=fun b B hb hk=>
  ⟨(hC3.keep b (aj hb) fun⟨k,e,_⟩=>by rw[hk] at e;cases e).trans hb,hC3.unt b (aj hb) hk⟩
 rcases hv3 with⟨e,he,rfl⟩|⟨c,rfl,hcd⟩
 ·simp only[go_sem,seval,he,ne_eq,not_false_eq_true,decide_true]
  exact hret _ K3 H3 e hD3 he (by simp only[go_sem,seval]) (by simp only[go_sem,seval])
 obtain⟨hsb3,hKs3⟩:=e3 s _ (e12 s _ hsb) hKs
 obtain⟨hLb3,hKL3⟩:=e3 L _ (e12 L _ hLb) hKL
 have hNR3:NodesR H0.length s L K3 H3 nv xs:=hNR.mono fun b B hb hk=>e3 b B (e12 b B hb) hk
 have hlL3:=aj hLb3
 rcases hNR3 with⟨rfl,rfl⟩|⟨na,rfl,hx0,hna0,hnaL,hnas,hKna,hgna⟩
 ·simp only[go_sem,seval,h7,hLb3,o6 hlL3]
  repeat refine aI ?_
  have hl3:=hD3.len
  have hLne:L≠H3.length:=by omega
  have hsne:s≠H3.length:=by have :=aj hsb3;omega
  have hls3:=aj hsb3
  have hN:=hD3.new (.node c M) rfl (vs:=[.ptr c 0,.nilSlice]) (NodeF.row (G:=G) ⟨⟨M,M,hC3.wt.old hcd⟩,.inl rfl⟩)
  have hfr:∀ y,H3.length<y→aQ K3 H3.length (some (.node c M)) y=none:=fun y hy=>by rw[aM (by omega)];exact hC3.wt.fresh (by omega)
  have hS:=((hN.junk (vs:=[.ptr H3.length 0]) (mm:=none) (by simp[ac,V.low];omega)).junk (vs:=[.ptr H3.length 0]) (mm:=none) (by simp[ac,V.low];omega)).jput (b:=L) (by rw[aM hLne];exact hKL3) hL0 (vs:=[.slice (H3.length+1+1) 0 1 1,.nilSlice]) (mm:=none) (by simp[ac,V.low])
  refine hR _ (.slice (H3.length+1+1) 0 1 1) _ _ H3.length hS ((aP hLs _).trans ((o6 hls3).trans hsb3)) (by rw[aM hsne];exact hKs3) (aW (by simp;omega) _) (by rw[aM hLne];exact hKL3) (.inr ⟨H3.length+1+1,rfl,by simp,by omega,by omega,by omega,hfr _ (by omega),(aP (by omega) _).trans sM⟩) ⟨c,bM,hC3.wt.old hcd⟩ (fun y ky e=>hC3.wt.old (hx3 y ky e)) (fun j g1 g2 g3=>?_)
  simp only[ae]
  repeat rw[if_neg (by omega)]
 ·have hlna:=aj hgna
  simp only[go_sem,seval,h7,hLb3,hgna,eg hlna,oW hlL3 hnaL,List.drop_zero,List.take_of_length_le (show(xs.map fun x=>V.ptr x 0).length≤xs.length by simp)]
  repeat refine aI ?_
  have hl3:=hD3.len
  have hLne:L≠H3.length:=by omega
  have hsne:s≠H3.length:=by have :=aj hsb3;omega
  have hls3:=aj hsb3
  have hN:=hD3.new (.node c M) rfl (vs:=[.ptr c 0,.nilSlice]) (NodeF.row (G:=G) ⟨⟨M,M,hC3.wt.old hcd⟩,.inl rfl⟩)
  have hfr:∀ y,H3.length<y→aQ K3 H3.length (some (.node c M)) y=none:=fun y hy=>by rw[aM (by omega)];exact hC3.wt.fresh (by omega)
  have hnane:na≠H3.length:=by omega
  have hS:=(((hN.junk (vs:=[.ptr H3.length 0]) (mm:=none) (by simp[ac,V.low];omega)).jcut (b:=na) (by rw[aM hnane];exact hKna) hna0).junk (vs:=(xs.map fun x=>V.ptr x 0)++[.ptr H3.length 0]) (mm:=none) (by
   rw[List.length_set,List.length_append,List.length_append,kr]
   exact⟨gw (by simp;omega) _ (hC3.wt.sane na _ hgna).1,by simp[ac,V.low];omega⟩)).jput (b:=L) (by rw[aM hLne];exact hKL3) hL0 (vs:=[.slice (H3.length+1+1) 0 (xs.length+1) 1,.nilSlice]) (mm:=none) (by simp[ac,V.low])
  have hnew:aa ((H3++[some (⟨false,[.ptr c 0,.nilSlice],none⟩:Blk)]++[some (⟨false,[.ptr H3.length 0],none⟩:Blk)]).set na none++[some (⟨false,(xs.map fun x=>V.ptr x 0)++[.ptr H3.length 0],none⟩:Blk)]) (H3.length+1+1)=some (⟨false,(xs.map fun x=>V.ptr x 0)++[.ptr H3.length 0],none⟩:Blk):=by
   have :=d9 ((H3++[some (⟨false,[.ptr c 0,.nilSlice],none⟩:Blk)]++[some (⟨false,[.ptr H3.length 0],none⟩:Blk)]).set na none) (some (⟨false,(xs.map fun x=>V.ptr x 0)++[.ptr H3.length 0],none⟩:Blk)) []
   simp only[List.length_set,List.length_append,List.length_singleton] at this
   exact this
  refine hR _ (.slice (H3.length+1+1) 0 (xs.length+1) 1) _ _ H3.length hS ((aP hLs _).trans ((oW hls3 hnas).trans hsb3)) (by rw[aM hsne];exact hKs3) (aW (by simp;omega) _) (by rw[aM hLne];exact hKL3) (.inr ⟨H3.length+1+1,by simp,by simp,by omega,by omega,by omega,hfr _ (by omega),?_⟩) ⟨c,bM,hC3.wt.old hcd⟩ (fun y ky e=>hC3.wt.old (hx3 y ky e)) (fun j g1 g2 g3=>?_)
  ·rw[List.map_append]
   exact(aP (by omega) _).trans hnew
  simp only[ae]
  repeat rw[if_neg (by omega)]
end
end Go.Vm
end
section
namespace Go.Vm
section
section
variable {G G':Gh}{K K0:Nat→Option Kd}{H H0:List (Option Blk)}{W:Nat→Prop}{a l n k N c m x:Nat}{xs:List Nat}{cs g:List V}{nodes air:V}
theorem Cur.callT {Q:Kd→Prop}{K':Nat→Option Kd}{H':List (Option Blk)}(h:Cur K0 H0 (bF K0) G K H)(h2:Cur K H (Wk Q K) G' K' H'):Cur K0 H0 (bF K0) G' K' H':=h.callW h2 fun b ⟨k,e,_⟩=>by rw[e];simp
theorem ph (N:Nat)(hN:H.length=N)(hC:Cur K0 H0 (bF K0) G K H)(hl:K l=some (.link xs))(hF:LinkF G K l xs nodes air)(a:Option Nat)(k:Nat)(ha:∀ x,a=some x→K x=some (.air l k)){k':Nat}(hk:k'≤60)(hcs:Row K (aU k' gramF) cs):
  Cur K0 H0 (bF K0) G (aQ (bP a K) N (some (.air l k'))) ((cutH a H++[some (⟨false,cs,none⟩:Blk)]).set l (some ⟨false,[nodes,.slice N 0 k' 3],none⟩)):=by
 subst hN
 have hkeep:∀ y kk,(∀ j,kk≠ .air l j)→K y=some kk→aQ (bP a K) H.length (some (.air l k')) y=some kk:=fun y kk hn hy=>
  mJ hC.wt hy fun z hz e=>by subst e;rw[ha y hz] at hy;cases hy;exact hn _ rfl
 refine hC.grow hl rfl (hC.typed hl) a (fun y e=>⟨⟨_,ha y e,rfl,fun e2=>?_⟩,hC.typed (ha y e)⟩) (.air l k') rfl (fun c _=>⟨Nat.le_refl _,Nat.le_refl _⟩) (xw hcs) ?_
 ·have :=ha y e
  rw[e2,hl] at this
  cases this
 ·exact LinkF.row (G:=G) ⟨tO (fun x n=>hkeep x _ (fun j e=>by cases e)) hF.fnodes,.inr ⟨_,k',rfl,hk,bM⟩⟩
theorem Bn {i:Nat}(hi:i<n)(h:Row K (aU n gramF) cs):Row K (aU (n-1) gramF) (cs.take (i*3)++cs.drop ((i+1)*3)):=by
 have hlen:=jO h
 obtain⟨j,rfl⟩:∃ j,n=i+(1+j):=⟨n-i-1,by omega⟩
 rw[jM,jM,yf] at h
 have h1:=h.split
 rw[jB] at h1
 have h2:=h1.2.split
 have e3:gramF.length=3:=rfl
 rw[e3] at h1 h2
 rw[List.drop_drop] at h2
 rw[show i+(1+j)-1=i+j by omega,jM,show(i+1)*3=i*3+3 by omega]
 exact h1.1.app h2.2
end
end
end Go.Vm
end
