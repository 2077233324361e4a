/- A part of the proof: laws of a small machine of values, or what one function answers, proved against the model; no conditions beyond those in each theorem. -/
import Derived.Test.YtgffdnniifmglaaGreatDoorDelAToLkV
import Derived.Test.YtgffdnniifmglaaGreatDoorVmZ2ToVmZ3
set_option linter.unusedVariables false
set_option linter.unusedSimpArgs false
set_option linter.unusedSectionVars false
set_option maxRecDepth 20000
set_option maxHeartbeats 8000000
section
namespace Go.Vm
open Go.Proofs
section
section
variable {G:Gh}{K:Nat→Option Kd}{H H' h h' ha h1 hP:List (Option Blk)}{l N n β α m0 L x:Nat}{xs sg:List Nat}{c:List V}{bB aB:Blk}{rows:List (List V)}{av v row:V}{Fs:List Ft}
theorem y7 {n:Nat}:∀ {vs:List V},(∀ j,j<vs.length→(vs.getD j .junk).low n)→ac n vs
 |[],_=>trivial
 |v::vs,h=>⟨by have :=h 0 (by simp);simpa using this,y7 fun j hj=>by have :=h (j+1) (by simpa using hj);simpa using this⟩
open Classical in
theorem JM {ob:Nat}{vs:List V}{tt:List (Nat×V)}(hPj:∀ b B,aa hP b=some B→aa H b=some B)(hPs:∀ b B,aa hP b=some B→ac hP.length B.cs)(hPl:hP.length≤H.length)(hgo:aa H ob=some ⟨false,vs,none⟩)(hob:hP.length≤ob)(hvl:vs.length=xs.length)(hout:∀ j x,j<xs.length→xs[j]?=some x→nF h hP.length ob H x (vs.getD j .junk)):
  ∃ v' h',pJ h xs hP v' h'∧Fin hP.length v' h' (.tup [.slice ob 0 xs.length 1,.i64 0]) ⟨tt,H⟩:=by
 have hlob:=aj hgo
 let p:Nat→Bool:=fun b=>decide ((b<hP.length∧∃ B,aa hP b=some B)∨b=ob∨∃ n ds K,aa H b=some ⟨false,ds,none⟩∧Row K (aU n packF) ds)
 have hpl:(gm p H).length=H.length:=Cb
 have hlow:∀ b B,aa (gm p H) b=some B→ac H.length B.cs:=fun b B e=>by
  obtain⟨e1,e2⟩:=rj e
  rcases of_decide_eq_true e1 with⟨hb,B',g⟩|hbo|⟨n,ds,K,g,hr⟩
  ·rw[hPj b B' g] at e2;cases e2
   exact gw hPl _ (hPs b _ g)
  ·rw[hbo,hgo] at e2;cases e2
   refine y7 fun j hj=>?_
   have hj':j<vs.length:=hj
   have hj2:j<xs.length:=by omega
   obtain⟨u1,r1,-,q⟩:=hout j _ hj2 (List.getElem?_eq_getElem hj2)
   exact V.low_mono (n:=ob) (Nat.le_of_lt hlob) _ q.vlow
  ·rw[g] at e2;cases e2
   exact(m9 hr).2.2 _
 refine⟨.tup [.slice ob 0 xs.length 1,.i64 0],gm p H,⟨⟨by omega,fun b B e hor=>?_,fun b B e=>by rw[hpl];exact hlow b B e⟩,fun b B e=>?_,by simp[ac,V.low];omega,ob,vs,rfl,hob,?_,hvl,fun i x hx=>?_⟩,Fin.same (by omega) (by show(gm p H).length≤H.length;omega) (by simp[ac,V.low];omega) fun b B e=>⟨(rj e).2,by rw[hpl];exact hlow b B e⟩⟩
 ·obtain⟨e1,e2⟩:=rj e
  rcases of_decide_eq_true e1 with⟨hb,B',g⟩|hbo|⟨n,ds,K,g,hr⟩
  ·rcases hor with ho|ho
   ·omega
   ·rw[g] at ho;cases ho
  ·rw[hbo,hgo] at e2;cases e2;rfl
  ·rw[g] at e2;cases e2;rfl
 ·exact(rS (decide_eq_true (.inl ⟨aj e,B,e⟩))).trans (hPj b B e)
 ·exact(rS (decide_eq_true (.inr (.inl rfl)))).trans hgo
 ·have hi2:=(List.getElem?_eq_some_iff.1 hx).1
  obtain⟨u1,r1,q1,q2⟩:=hout i x hi2 hx
  refine⟨u1,r1,q1,?_⟩
  rcases q2 with g|⟨a,n,ds,N,g1,g2,g3,g4,g5,g6,g7,K,g8⟩
  ·exact .inl g
  ·exact .inr ⟨a,n,ds,N,g1,g2,g3,g4,g5,g6,(rS (decide_eq_true (.inr (.inr ⟨n,ds,K,g7,g8⟩)))).trans g7,K,g8⟩
theorem xB (hE:Emb sg h H)(hL:LInv bB l xs N h G K)(hN:N≤7000000000000)(hx0:0<xs.length)(hx3:xs.length≤3)(hLp:ah sg l=L)(hPH:∀ b B,aa hP b=some B→aa H b=some B)(hPs:∀ b B,aa hP b=some B→ac hP.length B.cs)(hP0:hP.length≤H.length)(hsm:∀ b,b∈sg→b<hP.length→b=ah sg 0){t:List (Nat×V)}(h8:ae t 8= .ptr L 0)
  {r0 s1 r3 s4 s6 c11:Code} (hc:Tryz.f9.body=some (.seq r0 (.seq s1 (.seq r3 (.seq s4 (.seq s6 c11)))))):
  vc Tryz.prog hP.length Tryz.f9.ntmps c11 (b8 Tryz.prog Tryz.f9 fun v s=>∃ v' h',pJ h xs hP v' h'∧Fin hP.length v' h' v s) ⟨t,H⟩:=by
 have hl:=hL.inv.link
 have hsane:∀ b B,aa h b=some B→ac h.length B.cs:=fun b B e=>(hL.wt.sane b B e).1
 obtain⟨nodes,air,hgl,hF⟩:=hL.wt.link hl
 obtain⟨na,rfl,hna⟩:∃ na,nodes= .slice na 0 xs.length 1∧K na=some (.nodes xs):=by
  rcases hF.fnodes with⟨e,-⟩|⟨na,e,-,h⟩
  ·omega
  ·exact⟨na,e,h⟩
 have hgL:=(hE.blk l _ hgl).1
 rw[hLp] at hgL
 have e0:rens (ah sg) [.slice na 0 xs.length 1,air]=[.slice (ah sg na) 0 xs.length 1,air.ren (ah sg)]:=by simp[rens,V.ren]
 simp only[e0] at hgL
 have hll:=hL.wt.lt hl
 simp only[Tryz.f9,Option.some.injEq,Code.seq.injEq] at hc
 obtain⟨-,-,-,-,-,rfl⟩:=hc
 refine ag ?_
 simp only[go_sem,seval,h8,hgL]
 repeat refine aI ?_
 refine aH (fun j st=>∃ (i:Nat) (Hj:List (Option Blk)) (ov:V) (vs:List V),i+j=xs.length∧Emb sg h Hj∧(∀ b B,aa hP b=some B→aa Hj b=some B)∧H.length≤Hj.length∧vs.length=i∧((i=0∧ov= .nilSlice)∨∃ ob,ov= .slice ob 0 i 1∧aa Hj ob=some ⟨false,vs,none⟩∧H.length≤ob∧ob∉sg∧∀ j x,j<i→xs[j]?=some x→nF h H.length ob Hj x (vs.getD j .junk))∧
  st=⟨[(8,.ptr L 0),(12,ov),(40,.i64 xs.length),(41,.i64 i)],Hj⟩) ?_ ?_
 ·exact aX xs.length ⟨[(8,.ptr L 0),(12,.nilSlice),(40,.i64 xs.length),(41,.i64 (0:Nat))],H⟩ (by simp[St.get,ae,h8]) rfl (fun _ _ h=>h) ⟨0,H,.nilSlice,[],by omega,hE,hPH,Nat.le_refl _,rfl,.inl ⟨rfl,rfl⟩,rfl⟩
 rintro j st ⟨i,Hj,ov,vs,hij,hEj,hPj,hPl,hvl,hov,rfl⟩-
 by_cases hi:i<xs.length
 rotate_left
 ·have hi':¬ (i:Int)<(xs.length:Int):=by omega
  obtain rfl:i=xs.length:=by omega
  simp only[go_sem,seval,hi',decide_false]
  repeat refine aI ?_
  rcases hov with⟨e,-⟩|⟨ob,rfl,hgo,hob,hobs,hout⟩
  ·omega
  exact JM hPj hPs (by omega) hgo (by omega) hvl fun j x hj hx=>by
   obtain⟨u1,r1,q1,q2⟩:=hout j x hj hx
   exact⟨u1,r1,q1,q2.lowr hP0⟩
 have hi':(i:Int)<(xs.length:Int):=by omega
 have w1:=cd (i:=i) (by omega)
 obtain⟨row,⟨v1,hrow⟩,gv,gh,hS,hNx,hkp,hcp,hgl2⟩:=yt hL hN (List.getElem?_eq_getElem hi)
 simp only[go_sem,seval,hi',decide_true]
 repeat refine aI ?_
 refine fJ hEj hS hNx (by kernel_rfl) (by simp[rens,V.ren,hLp]) (by simp[ac,V.low];exact hll) rfl ?_
 have hcE:=jQ jF hEj hNx hcp
 have hE2:=oZ hEj hNx hkp hsane
 have hkeep:∀ b,b<Hj.length→(b∉sg∨b=ah sg 0)→aa (az sg Hj gh) b=aa Hj b:=fun b hb hx=>kW hEj hNx hkp hsane hb (hx.imp id fun e=>⟨0,bB,e,hL.b0⟩)
 have hmle:Hj.length≤(az sg Hj gh).length:=by rw[df];omega
 generalize gv.ren (ah (au sg Hj.length gh))=v2 at*
 generalize az sg Hj gh=M at*
 obtain⟨vo1,vo2,vo3⟩:=hcE.one
 rcases hov with⟨rfl,rfl⟩|⟨ob,rfl,hgo,hob,hobs,hout⟩
 ·simp only[go_sem,seval,↓vo1,↓vo2,↓vo3]
  repeat refine aI ?_
  refine aS (j-1) ⟨[(8,.ptr L 0),(12,.slice (M.length+1) 0 1 1),(40,.i64 xs.length),(41,.i64 ((0+1:Nat):Int))],M++[some ⟨false,[v2],none⟩]++[some ⟨false,[v2],none⟩]⟩ (by omega) (by simp[St.get,ae]) rfl (fun _ _ h=>h) ⟨1,_,.slice (M.length+1) 0 1 1,[v2],by omega,(hE2.app _).app _,fun b B e=>?_,by simp;omega,rfl,.inr ⟨M.length+1,rfl,o7,by omega,fun hm=>?_,fun j' x hj' hx=>?_⟩,rfl⟩
  ·have hlt:=aj e
   have hbM:=(hkeep b (by omega) (by by_cases hm:b∈sg;exact .inr (hsm b hm hlt);exact .inl hm)).trans (hPj b B e)
   exact(eg (aj hbM)).trans hbM
  ·have :=hEj.lt _ hm
   omega
  ·obtain rfl:j'=0:=by omega
   rw[List.getElem?_eq_getElem hi] at hx
   cases hx
   exact⟨v1,row,hrow,(hcE.lowr hPl).mono (by omega) fun b _ hb=>eg hb⟩
 ·have hlob:=aj hgo
  have hgoM:=(hkeep ob hlob (.inl hobs)).trans hgo
  have hlobM:=aj hgoM
  simp only[go_sem,seval,↓vo1,↓vo2,↓vo3,dH hlobM,hgoM,List.take_of_length_le (show vs.length≤i by omega)]
  repeat refine aI ?_
  refine aS (j-1) ⟨[(8,.ptr L 0),(12,.slice (M.length+1) 0 (i+1) 1),(40,.i64 xs.length),(41,.i64 ((i+1:Nat):Int))],(M++[some (⟨false,[v2],none⟩:Blk)]).set ob none++[some (⟨false,vs++[v2],none⟩:Blk)]⟩ (by omega) (by simp[St.get,ae,w1]) rfl (fun _ _ h=>h) ⟨i+1,_,.slice (M.length+1) 0 (i+1) 1,vs++[v2],by omega,((hE2.app _).set hobs).app _,fun b B e=>?_,by simp;omega,by simp[hvl],.inr ⟨M.length+1,rfl,?_,by omega,fun hm=>?_,fun j' x hj' hx=>?_⟩,rfl⟩
  ·have hlt:=aj e
   have hbM:=(hkeep b (by omega) (by by_cases hm:b∈sg;exact .inr (hsm b hm hlt);exact .inl hm)).trans (hPj b B e)
   exact(gD (aj hbM) (by omega)).trans hbM
  ·have :=d9 ((M++[some (⟨false,[v2],none⟩:Blk)]).set ob none) (some (⟨false,vs++[v2],none⟩:Blk)) []
   simp only[List.length_set,List.length_append,List.length_singleton] at this
   exact this
  ·have :=hEj.lt _ hm
   omega
  ·by_cases hlast:j'<i
   ·obtain⟨u1,r1,q1,q2⟩:=hout j' x hlast hx
    have ev:(vs++[v2]).getD j' .junk=vs.getD j' .junk:=by rw[List.getD_eq_getElem?_getD,List.getD_eq_getElem?_getD,List.getElem?_append_left (by omega)]
    rw[ev]
    refine⟨u1,r1,q1,q2.mono (by omega) fun b hb1 hb2=>?_⟩
    have hbM:aa M b=aa Hj b:=hkeep b (by omega) (.inl fun hm=>by have :=hE.lt _ hm;omega)
    rw[gD (by omega) (by omega)]
    exact hbM
   ·obtain rfl:j'=i:=by omega
    rw[List.getElem?_eq_getElem hi] at hx
    cases hx
    have ev:(vs++[v2]).getD vs.length .junk=v2:=by rw[List.getD_eq_getElem?_getD,List.getElem?_append_right (Nat.le_refl _)];simp
    rw[hvl] at ev
    rw[ev]
    exact⟨v1,row,hrow,(hcE.mono (by omega) fun b hb1 hb2=>gD (by omega) (by have :=aj hgo;omega)).lowr hPl⟩
end
end
section
section
variable {G:Gh}{K:Nat→Option Kd}{H H' h h' ha h1 hP:List (Option Blk)}{l N n β α m0 L x:Nat}{xs sg:List Nat}{c:List V}{bB aB:Blk}{rows:List (List V)}{av v row:V}{Fs:List Ft}{seed:List af}
theorem Si (hg:aa hP 0=some bB)(hp:∀ σ,rens σ bB.cs=bB.cs)(hpl:ac 1 bB.cs):Emb [0] [some bB] hP:=by
 refine⟨rfl,by simp,fun b hb=>?_,fun b B e=>?_⟩
 ·rw[List.mem_singleton.1 hb];exact aj hg
 ·match b with
  |0=>
   have :bB=B:=by simpa [aa] using e
   subst this
   exact⟨by rw[hp];exact hg,hpl⟩
  |b+1=>simp[aa] at e
theorem y8 (hr:∀ r∈rows,ActC r){i:Nat}(hi:i<rows.length):(rows.flatten.drop (i*7)).take 7=rows.getD i []:=Nw (by omega) (fun r h=>(hr r h).plain.1) hi
theorem sr:∀ {rows:List (List V)},(∀ r∈rows,ActC r)→rows.flatten.length=rows.length*7
 |[],_=>rfl
 |r::rows,h=>by
  rw[List.flatten_cons,List.length_append,(h r (by simp)).plain.1,sr fun q hq=>h q (by simp[hq])]
  simp;omega
theorem JN (hd:Done Tryz.prog 12 [.slice 0 0 n 1,.str seed] zK [some bB] (fun _=>False) (.tup [.ptr l 0,.i64 0]) G K h1)(hL:LInv bB l xs 0 h1 G K)(hx2:2≤xs.length)(hx3:xs.length≤3)(hp:∀ σ,rens σ bB.cs=bB.cs)(hpl:ac 1 bB.cs)
  (hP0:aa hP 0=some bB) (hPs:∀ b B,aa hP b=some B→ac hP.length B.cs) (hav:gg hP av α aB rows) (h300:rows.length≤300)
  {r0 s1 r3 s4 s6 c11:Code} (hc:Tryz.f9.body=some (.seq r0 (.seq s1 (.seq r3 (.seq s4 (.seq s6 c11)))))):
  vc Tryz.prog hP.length Tryz.f9.ntmps (.seq r0 (.seq s1 (.seq r3 (.seq s4 (.seq s6 c11))))) (b8 Tryz.prog Tryz.f9 fun v s=>∃ v' h',pJ (cr bB l xs h1 rows rows.length) xs hP v' h'∧Fin hP.length v' h' v s) ⟨cW [.slice 0 0 n 1,.str seed,av] 0,hP⟩:=by
 have hc0:=hc
 simp only[Tryz.f9,Option.some.injEq,Code.seq.injEq] at hc
 obtain⟨rfl,rfl,rfl,rfl,rfl,q⟩:=hc
 clear q
 have hE0:=Si hP0 hp hpl
 have hN1:=nj hd
 have hE1:=hE0.call hN1
 have h0l:=aj hP0
 have hk0:∀ b B,aa hP b=some B→aa (az [0] hP h1) b=some B:=fun b B e=>by
  by_cases hb:b=0
  ·subst hb
   rw[hP0] at e
   cases e
   have :=(hE1.blk 0 bB hL.b0).1
   rw[mF (by simp),hp] at this
   exact this
  ·exact(iM (aj e) (by simp[hb])).trans e
 have hz1:ah (au [0] hP.length h1) 0=0:=mF (by simp)
 have hsm1:∀ b,b∈au [0] hP.length h1→b<hP.length→b=0:=fun b hb hlt=>by
  rcases kV hb with hb|hb
  ·exact List.mem_singleton.1 hb
  ·omega
 have hle1:hP.length≤(az [0] hP h1).length:=by rw[df];omega
 have e300:¬ (300:Int)<(rows.length:Int):=by omega
 have hargs:rens (ah [0]) [.slice 0 0 n 1,.str seed]=[.slice 0 0 n 1,.str seed]:=rfl
 have hlow1:ac [some bB].length [V.slice 0 0 n 1,.str seed]:=by simp[ac,V.low]
 obtain⟨Lp,hLp⟩:∃ Lp,ah (au [0] hP.length h1) l=Lp:=⟨_,rfl⟩
 refine ag ?_
 rcases hav with⟨rfl,rfl⟩|⟨rfl,-,hgα,haB,hrow⟩
 ·simp only[go_sem,seval]
  repeat refine aI ?_
  refine fJ hE0 hd.spec hN1 (by kernel_rfl) hargs hlow1 (v':= .tup [.ptr Lp 0,.i64 0]) (by show V.tup [.ptr (ah (au [0] hP.length h1) l) 0,.i64 0]=_;rw[hLp]) ?_
  simp only[go_sem,seval]
  repeat refine aI ?_
  refine bI 1 ?_
  simp only[go_sem,seval]
  exact xB hE1 hL (by omega) (by omega) hx3 hLp hk0 hPs hle1 (fun b hb hlt=>by rw[hz1];exact hsm1 b hb hlt) (by simp only[go_sem,seval]) hc0
 simp only[go_sem,seval,e300,decide_false]
 repeat refine aI ?_
 refine fJ hE0 hd.spec hN1 (by kernel_rfl) hargs hlow1 (v':= .tup [.ptr Lp 0,.i64 0]) (by show V.tup [.ptr (ah (au [0] hP.length h1) l) 0,.i64 0]=_;rw[hLp]) ?_
 simp only[go_sem,seval]
 repeat refine aI ?_
 have hrun:=pB hL hx3 hrow (by omega :rows.length≤2600000000000)
 refine aH (fun j st=>∃ (i:Nat) (sg:List Nat) (Hi:List (Option Blk)),i+j=rows.length∧Emb sg (cr bB l xs h1 rows i) Hi∧ah sg l=Lp∧ah sg 0=0∧(∀ b B,aa hP b=some B→aa Hi b=some B)∧hP.length≤Hi.length∧(∀ b,b∈sg→b<hP.length→b=0)∧st=⟨[(8,.ptr Lp 0),(26,.slice α 0 rows.length 7),(27,.i64 rows.length),(28,.i64 i)],Hi⟩) ?_ ?_
 ·exact aX rows.length ⟨[(8,.ptr Lp 0),(26,.slice α 0 rows.length 7),(27,.i64 rows.length),(28,.i64 (0:Nat))],az [0] hP h1⟩ (by simp[St.get,ae]) rfl (fun _ _ h=>h) ⟨0,_,_,by omega,hE1,hLp,hz1,hk0,hle1,hsm1,rfl⟩
 rintro j st ⟨i,sg,Hi,hij,hE,hsl,hsz,hPi,hPl,hsm,rfl⟩-
 by_cases hi:i<rows.length
 rotate_left
 ·have hi':¬ (i:Int)<(rows.length:Int):=by omega
  obtain rfl:i=rows.length:=by omega
  obtain⟨⟨G2,K2,hL2⟩,-⟩:=hrun rows.length (Nat.le_refl _)
  simp only[go_sem,seval,hi',decide_false]
  exact xB hE hL2 (by omega) (by omega) hx3 hsl hPi hPs hPl (fun b hb hlt=>by rw[hsz];exact hsm b hb hlt) (by simp only[go_sem,seval]) hc0
 have hi':(i:Int)<(rows.length:Int):=by omega
 have hi0:(0:Int)≤(i:Int):=by omega
 have w1:=cd (i:=i) (by omega)
 obtain⟨⟨G2,K2,hL2⟩,-⟩:=hrun i (by omega)
 obtain⟨e,hS,hNx⟩:=yv hL hx3 hrow (by omega) hi
 obtain⟨⟨G3,K3,hL3⟩,-⟩:=hrun (i+1) (by omega)
 have hb0':=hL3.b0
 generalize hhn:cr bB l xs h1 rows (i+1)=hn at*
 generalize cr bB l xs h1 rows i=hc at*
 have hm:rows.getD i []∈rows:=by rw[List.getD_eq_getElem?_getD,List.getElem?_eq_getElem hi];exact List.getElem_mem hi
 have hcell:=y8 hrow hi
 have hAC:=hrow _ hm
 obtain⟨kind,A,B,C,src,dst,txt,hre,htx⟩:=hAC
 have hgαi:=hPi α aB (hgα (by omega))
 have hflat:aB.cs.length=rows.length*7:=by rw[haB];exact sr hrow
 have hz:Hi.length<(Hi++[some (⟨false,[.i64 0,.i64 0,.i64 0,.i64 0,.u32 0#32,.u32 0#32,.str []],none⟩:Blk)]).length:=by simp
 rw[←haB,hre] at hcell
 rw[hre] at hS
 simp only[go_sem,seval,hi',decide_true,hgαi,hcell,hflat,hi0,aW hz]
 repeat refine aI ?_
 have hboxk:∀ b,b<Hi.length→aa ((Hi++[some (⟨false,[.i64 0,.i64 0,.i64 0,.i64 0,.u32 0#32,.u32 0#32,.str []],none⟩:Blk)]).set Hi.length (some ⟨false,[.i64 kind,.i64 A,.i64 B,.i64 C,.u32 src,.u32 dst,.str txt],none⟩)) b=aa Hi b:=fun b hb=>dt hb
 have hEb:Emb sg (hc) ((Hi++[some (⟨false,[.i64 0,.i64 0,.i64 0,.i64 0,.u32 0#32,.u32 0#32,.str []],none⟩:Blk)]).set Hi.length (some ⟨false,[.i64 kind,.i64 A,.i64 B,.i64 C,.u32 src,.u32 dst,.str txt],none⟩)):=hE.stay (by simp) fun i' B' e=>hboxk _ (hE.ltOf (aj e))
 have hlM:((Hi++[some (⟨false,[.i64 0,.i64 0,.i64 0,.i64 0,.u32 0#32,.u32 0#32,.str []],none⟩:Blk)]).set Hi.length (some ⟨false,[.i64 kind,.i64 A,.i64 B,.i64 C,.u32 src,.u32 dst,.str txt],none⟩)).length=Hi.length+1:=by simp
 generalize ((Hi++[some (⟨false,[.i64 0,.i64 0,.i64 0,.i64 0,.u32 0#32,.u32 0#32,.str []],none⟩:Blk)]).set Hi.length (some ⟨false,[.i64 kind,.i64 A,.i64 B,.i64 C,.u32 src,.u32 dst,.str txt],none⟩))=M at*
 have hll:=hL2.wt.lt hL2.inv.link
 refine fJ hEb hS hNx (by kernel_rfl) (by show[V.ptr (ah sg l) 0,_]=_;rw[hsl];rfl) (by simp[ac,V.low];exact hll) rfl ?_
 have hlen1:=hE.len
 have hE2:=hEb.call hNx
 have h0lt:=aj hL2.b0
 have hz2:ah (au sg M.length hn) 0=0:=by rw[iU (by omega)];exact hsz
 simp only[go_sem,seval]
 refine aS (j-1) ⟨[(8,.ptr Lp 0),(26,.slice α 0 rows.length 7),(27,.i64 rows.length),(28,.i64 (i+1:Nat))],az sg M hn⟩ (by omega) (by simp[St.get,ae,w1]) rfl (fun _ _ h=>h) ⟨i+1,_,_,by omega,by rw[hhn];exact hE2,by rw[iU (by omega)];exact hsl,hz2,fun b B' e=>?_,by rw[df];omega,fun b hb hlt=>?_,rfl⟩
 ·have hlt:=aj e
  have hbM:=(hboxk b (by omega)).trans (hPi b B' e)
  by_cases hb:b=0
  ·subst hb
   rw[hP0] at e
   cases e
   have :=(hE2.blk 0 bB hb0').1
   rw[hz2,hp] at this
   exact this
  ·exact(iM (by omega) fun hm=>hb (hsm b hm hlt)).trans hbM
 ·rcases kV hb with hb|hb
  ·exact hsm b hb hlt
  ·omega
theorem Ne (hd:Done Tryz.prog 12 [.slice 0 0 n 1,.str seed] zK [some bB] (fun _=>False) (.tup [.ptr l 0,.i64 0]) G K h1)(hL:LInv bB l xs 0 h1 G K)(hx2:2≤xs.length)(hx3:xs.length≤3)(hp:∀ σ,rens σ bB.cs=bB.cs)(hpl:ac 1 bB.cs)
  (hP0:aa hP 0=some bB) (hPs:∀ b B,aa hP b=some B→ac hP.length B.cs) (hav:gg hP av α aB rows) (h300:rows.length≤300):∃ v h',ao Tryz.prog 9 [.slice 0 0 n 1,.str seed,av] hP v h'∧pJ (cr bB l xs h1 rows rows.length) xs hP v h':=
 cb (by kernel_rfl) (fn:=Tryz.f9) Tryz.func9 rfl (by show 3≤52;decide) (JN hd hL hx2 hx3 hp hpl hP0 hPs hav h300 rfl)
theorem Gm {bv:V}(hav:gg hP av α aB rows)(h300:300<rows.length):ao Tryz.prog 9 [bv,.str seed,av] hP (.tup [.nilSlice,.i64 2]) hP:=by
 rcases hav with⟨rfl,rfl⟩|⟨rfl,-,hgα,haB,hrow⟩
 ·simp at h300
 have e300:(300:Int)<(rows.length:Int):=by omega
 refine aR (by kernel_rfl) (fn:=Tryz.f9) Tryz.func9 rfl (by show 3≤52;decide) (ag ?_)
 simp only[go_sem,seval,Tryz.ntmps9,Tryz.results9]
 simp only[go_sem,seval,e300,decide_true]
 exact Fin.id (s:=⟨_,hP⟩) (Nat.le_refl _)
end
end
section
section
variable {G:Gh}{K:Nat→Option Kd}{H H' h h' ha h1 h0 hA:List (Option Blk)}{l N n β α m0 L x:Nat}{xs sg sg0:List Nat}{c:List V}{bB aB:Blk}{rows:List (List V)}{av bv bv0 v row:V}{Fs:List Ft}{seed:List af}
theorem yw (hs:Sane h0):Nxt h0 h0:=⟨Nat.le_refl _,fun b B e hor=>(by
  have :=aj e
  rcases hor with hb|hb
  ·omega
  ·rw[hb] at e;cases e),fun b B e=>(hs b B e).1⟩
theorem rT (hE:Emb sg h0 H)(hs:Sane h0):∀ b B,aa H b=some B→(b∉sg∨∃ i B0,b=ah sg i∧aa h0 i=some B0)→aa (az sg H h0) b=some B:=fun b B e hx=>
 (kW hE (yw hs) (fun _ _ e=>e) (fun b B e=>(hs b B e).1) (aj e) hx).trans e
theorem tp (hmade:ao Tryz.prog 4 [bv0,.str seed] h0 .nilPtr h0)(href:ao Tryz.prog 5 [bv0,.str seed] h0 (.bool true) h0)(hs:Sane h0)(hE:Emb sg0 h0 hA)(hb0:rens (ah sg0) [bv0,.str seed]=[bv,.str seed])(hlow:ac h0.length [bv0,.str seed])
  (hall:∀ b B,aa hA b=some B→b∈sg0→∃ i B0,b=ah sg0 i∧aa h0 i=some B0) (hAs:∀ b B,aa hA b=some B→ac hA.length B.cs):ao Tryz.prog 3 [bv,.str seed,av] hA (.bool true) hA:=by
 have hN:=yw hs
 have hor:∀ b B,aa hA b=some B→b∉sg0∨∃ i B0,b=ah sg0 i∧aa h0 i=some B0:=fun b B e=>by
  by_cases hm:b∈sg0
  ·exact .inr (hall b B e hm)
  ·exact .inl hm
 have hsl:∀ b B,aa h0 b=some B→ac h0.length B.cs:=fun b B e=>(hs b B e).1
 have hE1:Emb sg0 h0 (az sg0 hA h0):=oZ hE hN (fun _ _ e=>e) hsl
 have hE2:Emb sg0 h0 (az sg0 (az sg0 hA h0) h0):=oZ hE1 hN (fun _ _ e=>e) hsl
 have k1:=fun b B e=>rT hE hs b B e (hor b B e)
 have k2:=fun b B e0 e=>rT hE1 hs b B e (hor b B e0)
 have k3:=fun b B e0 e=>rT hE2 hs b B e (hor b B e0)
 have hl0:=hE.len
 have e1:(az sg0 hA h0).length=hA.length:=by rw[df];omega
 have e2:(az sg0 (az sg0 hA h0) h0).length=hA.length:=by rw[df];omega
 have e3:(az sg0 (az sg0 (az sg0 hA h0) h0) h0).length=hA.length:=by rw[df];omega
 refine aR (by kernel_rfl) (fn:=Tryz.f3) Tryz.func3 rfl (by show 3≤111;decide) (ag ?_)
 simp only[go_sem,seval,Tryz.ntmps3]
 refine fJ hE hmade hN (by kernel_rfl) hb0 hlow rfl ?_
 simp only[go_sem,seval]
 refine fJ hE1 hmade hN (by kernel_rfl) hb0 hlow rfl ?_
 simp only[go_sem,seval,V.ren]
 repeat refine aI ?_
 refine fJ hE2 href hN (by kernel_rfl) hb0 hlow rfl ?_
 simp only[go_sem,seval,V.ren]
 exact Fin.same (Nat.le_refl _) (by show hA.length≤(az sg0 (az sg0 (az sg0 hA h0) h0) h0).length;omega) trivial fun b B e=>⟨k3 b B e (k2 b B e (k1 b B e)),hAs b B e⟩
end
end
section
section
variable {G:Gh}{K:Nat→Option Kd}{H H' h h' ha h1 h0 hA:List (Option Blk)}{l N n β α m0 L x:Nat}{xs sg sg1 sg2 sg0:List Nat}{c:List V}{bB aB:Blk}{rows:List (List V)}{av bv bv0 v row v1 v2:V}{Fs:List Ft}{seed:List af}
variable {P:Program}{m:Nat}{R:Exit→St→Prop}{k:List Fr}{ll:List Oper}{ops:Array Oper}{dst:Option Tmp}{t:List (Nat×V)}
theorem Nf (hE:Emb sg h H)(hall:∀ i,i<h.length→∃ B,aa h i=some B)(hs:∀ b B,aa h b=some B→ac h.length B.cs)(hro:∀ b B,aa h b=some B→(h.length≤b∨aa h b=none)→B.ro=false):az sg H h=H:=by
 have hl:=hE.len
 refine tq (by rw[df];omega) fun b hb=>?_
 rw[df] at hb
 refine kW hE ⟨Nat.le_refl _,hro,hs⟩ (fun _ _ e=>e) hs (by omega) ?_
 by_cases hm:b∈sg
 ·obtain⟨i,hi,e⟩:=hE.idx hm
  obtain⟨B,hB⟩:=hall i (by omega)
  exact .inr ⟨i,B,e.symm,hB⟩
 ·exact .inl hm
theorem Ng {tr:Tr}{f:FuncId}{ds:List V}{N1 N2 q:Nat}(hf:∀ f∈Fs,f.free=true)(hr:Row K (aU q Fs) ds)(hS:ao P f [.slice 0 0 q 3,.slice 1 0 q 3] [some ⟨false,ds,none⟩,some ⟨false,ds,none⟩] (.bool true) [some ⟨false,ds,none⟩,some ⟨false,ds,none⟩])(hc:cw P f=true)(h1:aa H N1=some ⟨false,ds,none⟩)(h2:aa H N2=some ⟨false,ds,none⟩)(hne:N1≠N2)
  (hk:dn P m n R ll (tr++[([N1,N2],[N1,N2])]) ops k ⟨cz t dst (.bool true),H⟩):eF P m n R (.fn f [] []) [.slice N1 0 q 3,.slice N2 0 q 3] dst ll tr ops k ⟨t,H⟩:=by
 obtain⟨o1,o2,o3⟩:=Row.oneFree (fun f hf'=>hf f (eT hf')) hr
 have hcase:∀ b B,aa [some (⟨false,ds,none⟩:Blk),some ⟨false,ds,none⟩] b=some B→B=⟨false,ds,none⟩∧(b=0∨b=1):=fun b B e=>by
  match b with
  |0=>exact⟨by simpa [aa] using e.symm,.inl rfl⟩
  |1=>exact⟨by simpa [aa] using e.symm,.inr rfl⟩
  |b+2=>simp[aa] at e
 have hE:Emb [N1,N2] [some (⟨false,ds,none⟩:Blk),some ⟨false,ds,none⟩] H:=by
  refine⟨rfl,by simp[hne],fun b hb=>?_,fun b B e=>?_⟩
  ·rcases List.mem_cons.1 hb with rfl|hb
   ·exact aj h1
   ·rw[List.mem_singleton.1 hb];exact aj h2
  ·obtain⟨rfl,rfl|rfl⟩:=hcase b B e
   ·exact⟨by simp only[o2];exact h1,o3 _⟩
   ·exact⟨by simp only[o2];exact h2,o3 _⟩
 have hN:Nxt [some (⟨false,ds,none⟩:Blk),some ⟨false,ds,none⟩] [some ⟨false,ds,none⟩,some ⟨false,ds,none⟩]:=⟨Nat.le_refl _,fun b B e _=>by rw[(hcase b B e).1],fun b B e=>by rw[(hcase b B e).1];exact o3 _⟩
 refine iE hE hS hN hc (by simp[rens,V.ren,ah]) (by simp[ac,V.low]) rfl ?_
 rw[Nf hE (fun i hi=>?_) (fun b B e=>by rw[(hcase b B e).1];exact o3 _) hN.ro]
 ·simpa [V.ren] using hk
 ·match i,hi with
  |0,_=>exact⟨_,rfl⟩
  |1,_=>exact⟨_,rfl⟩
theorem Gn (hE0:Emb [β] [some bB] hA)(hN:Nxt [some bB] h1)(hb0:aa h1 0=some bB)(hp:∀ σ,rens σ bB.cs=bB.cs)(hpl:ac 1 bB.cs):
  TwoL β bB (au [β] hA.length h1) h1 (au [β] (az [β] hA h1).length h1) h1 (az [β] (az [β] hA h1) h1)∧Emb [β] [some bB] (az [β] hA h1)∧(∀ b B,aa hA b=some B→aa (az [β] (az [β] hA h1) h1) b=some B)∧hA.length≤(az [β] (az [β] hA h1) h1).length∧
  (∀ b,(b∈au [β] hA.length h1∨b∈au [β] (az [β] hA h1).length h1)→b<hA.length→b=β):=by
 have hgβ:aa hA β=some bB:=by
  have :=(hE0.blk 0 bB rfl).1
  rw[hp] at this
  exact this
 have hE1:=hE0.call hN
 have h1l:=hN.le
 have h1l':1≤h1.length:=h1l
 have hz1:ah (au [β] hA.length h1) 0=β:=mF (by simp)
 have keep:∀ {H:List (Option Blk)},Emb [β] [some bB] H→aa H β=some bB→∀ b B,aa H b=some B→aa (az [β] H h1) b=some B:=fun {H} hE hg b B e=>by
  by_cases hb:b=β
  ·subst hb
   rw[hg] at e;cases e
   have :=((hE.call hN).blk 0 bB hb0).1
   rw[mF (by simp),hp] at this
   exact this
  ·exact(iM (aj e) (by simp[hb])).trans e
 have k1:=keep hE0 hgβ
 have hm1:(az [β] hA h1).length=hA.length+(h1.length-1):=by rw[df];rfl
 have hE02:Emb [β] [some bB] (az [β] hA h1):=hE0.stay (by omega) fun i B e=>by
  match i with
  |0=>exact(k1 β bB hgβ).trans hgβ.symm
  |i+1=>simp[aa] at e
 have k2:=keep hE02 (k1 _ _ hgβ)
 have hE2:=hE02.call hN
 have hz2:ah (au [β] (az [β] hA h1).length h1) 0=β:=mF (by simp)
 have hm2:(az [β] (az [β] hA h1) h1).length=hA.length+(h1.length-1)+(h1.length-1):=by rw[df,hm1];rfl
 have hE1':Emb (au [β] hA.length h1) h1 (az [β] (az [β] hA h1) h1):=hE1.stay (by omega) fun i B e=>by
  have hg:=(hE1.blk i B e).1
  exact(k2 _ _ hg).trans hg.symm
 have hβl:=aj hgβ
 refine⟨⟨hE1',hE2,hz1,hz2,hb0,hb0,fun i j hi hj e=>?_⟩,hE02,fun b B e=>k2 b B (k1 b B e),by omega,fun b hb hlt=>?_⟩
 ·rw[hE1.len] at hi
  rw[hE2.len] at hj
  by_cases hi0:i=0
  ·subst hi0
   by_cases hj0:j=0
   ·exact⟨rfl,hj0⟩
   ·rw[hz1,fM (by simp;omega) hj] at e
    omega
  ·rw[fM (by simp;omega) hi] at e
   by_cases hj0:j=0
   ·subst hj0
    rw[hz2] at e
    omega
   ·rw[fM (by simp;omega) hj,hm1] at e
    simp at e
    omega
 ·rcases hb with hb|hb<;>rcases kV hb with hb|hb
  ·exact List.mem_singleton.1 hb
  ·omega
  ·exact List.mem_singleton.1 hb
  ·omega
end
end
section
structure PArg (hA:List (Option Blk)) (n:Nat) (seed:List af) (β:Nat) (bB:Blk) (av:V) (rows:List (List V)) (hP:List (Option Blk)) (sgP:List Nat) (avP:V) (αP:Nat) (aB:Blk):Prop where
 g0:aa hP 0=some bB
 low:∀ b B,aa hP b=some B→ac hP.length B.cs
 acts:gg hP avP αP aB rows
 ren:rens (ah sgP) [.slice 0 0 n 1,.str seed,avP]=[.slice β 0 n 1,.str seed,av]
 alow:ac hP.length [.slice 0 0 n 1,.str seed,avP]
 all:∀ i,i<hP.length→(∃ B,aa hP i=some B)∨aa hA (ah sgP i)=none
 emb:∀ H,hA.length≤H.length→(∀ b B,aa hA b=some B→aa H b=some B)→Emb sgP hP H
 mem:∀ b∈sgP,b<hA.length
section
variable {hA:List (Option Blk)}{n α β:Nat}{bB aB:Blk}{rows:List (List V)}{av:V}{seed:List af}
theorem wA:∀ {rows:List (List V)},(∀ r∈rows,ActC r)→(∀ σ,rens σ rows.flatten=rows.flatten)∧∀ n,ac n rows.flatten
 |[],_=>⟨fun _=>rfl,fun _=>trivial⟩
 |r::rows,h=>by
  obtain⟨a1,a2⟩:=wA (rows:=rows) fun q hq=>h q (by simp[hq])
  have p:=(h r (by simp)).plain
  exact⟨fun σ=>by rw[List.flatten_cons,qr,p.2.1,a1],fun n=>by rw[List.flatten_cons,kr];exact⟨p.2.2.1 n,a2 n⟩⟩
theorem Sj (hb:aa hA β=some bB)(hp:∀ σ,rens σ bB.cs=bB.cs)(hpl:∀ n,ac n bB.cs)(hav:gg hA av α aB rows)(hne:β≠α)(hno:rows=[]→aa hA α=none):
  ∃ hP sgP avP αP,PArg hA n seed β bB av rows hP sgP avP αP aB:=by
 rcases hav with⟨rfl,rfl⟩|⟨rfl,hα,hg,he,hr⟩
 ·refine⟨[some bB],[β],.nilSlice,1,⟨rfl,fun b B e=>?_,.inl ⟨rfl,rfl⟩,by simp[rens,V.ren,ah],by simp[ac,V.low],fun i hi=>?_,fun H hl hk=>⟨rfl,by simp,fun b hb'=>?_,fun b B e=>?_⟩,fun b hb'=>?_⟩⟩
  ·match b,e with
   |0,e=>
    have :bB=B:=by simpa [aa] using e
    subst this
    exact hpl _
   |b+1,e=>simp[aa] at e
  ·match i,hi with
   |0,_=>exact .inl ⟨_,rfl⟩
  ·rw[List.mem_singleton.1 hb'];exact aj (hk _ _ hb)
  ·match b,e with
   |0,e=>
    have :bB=B:=by simpa [aa] using e
    subst this
    exact⟨by rw[hp];exact hk _ _ hb,hpl _⟩
   |b+1,e=>simp[aa] at e
  ·rw[List.mem_singleton.1 hb'];exact aj hb
 ·by_cases h0:0<rows.length
  ·have hg:=hg h0
   obtain⟨q1,q2⟩:=wA hr
   have hcs:(∀ σ,rens σ aB.cs=aB.cs)∧∀ n,ac n aB.cs:=by rw[he];exact⟨q1,q2⟩
   have hcase:∀ b B,aa [some bB,some aB] b=some B→(b=0∧B=bB)∨(b=1∧B=aB):=fun b B e=>by
    match b with
    |0=>exact .inl ⟨rfl,by simpa [aa] using e.symm⟩
    |1=>exact .inr ⟨rfl,by simpa [aa] using e.symm⟩
    |b+2=>simp[aa] at e
   have hm:∀ b∈[β,α],b<hA.length:=fun b hb'=>by
    rcases List.mem_cons.1 hb' with rfl|hb'
    ·exact aj hb
    ·rw[List.mem_singleton.1 hb'];exact aj hg
   refine⟨[some bB,some aB],[β,α],.slice 1 0 rows.length 7,1,⟨rfl,fun b B e=>?_,.inr ⟨rfl,by simp,fun _=>rfl,he,hr⟩,by simp[rens,V.ren,ah],by simp[ac,V.low],fun i hi=>?_,fun H hl hk=>⟨rfl,by simp[hne],fun b hb'=>?_,fun b B e=>?_⟩,hm⟩⟩
   ·rcases hcase b B e with⟨-,rfl⟩|⟨-,rfl⟩
    ·exact hpl _
    ·exact hcs.2 _
   ·match i,hi with
    |0,_=>exact .inl ⟨_,rfl⟩
    |1,_=>exact .inl ⟨_,rfl⟩
   ·have :=hm b hb';omega
   ·rcases hcase b B e with⟨rfl,rfl⟩|⟨rfl,rfl⟩
    ·exact⟨by rw[hp];exact hk _ _ hb,hpl _⟩
    ·exact⟨by rw[hcs.1];exact hk _ _ hg,hcs.2 _⟩
  ·obtain rfl:rows=[]:=by
    cases rows with
    |nil=>rfl
    |cons r rs=>simp at h0
   have hcase:∀ b B,aa [some bB,none] b=some B→b=0∧B=bB:=fun b B e=>by
    match b with
    |0=>exact⟨rfl,by simpa [aa] using e.symm⟩
    |1=>simp[aa] at e
    |b+2=>simp[aa] at e
   have hm:∀ b∈[β,α],b<hA.length:=fun b hb'=>by
    rcases List.mem_cons.1 hb' with rfl|hb'
    ·exact aj hb
    ·rw[List.mem_singleton.1 hb'];exact hα
   refine⟨[some bB,none],[β,α],.slice 1 0 0 7,1,⟨rfl,fun b B e=>?_,.inr ⟨rfl,by simp,fun h=>absurd h h0,he,hr⟩,by simp[rens,V.ren,ah],by simp[ac,V.low],fun i hi=>?_,fun H hl hk=>⟨rfl,by simp[hne],fun b hb'=>?_,fun b B e=>?_⟩,hm⟩⟩
   ·obtain⟨-,rfl⟩:=hcase b B e
    exact hpl _
   ·match i,hi with
    |0,_=>exact .inl ⟨_,rfl⟩
    |1,_=>exact .inr (hno rfl)
   ·have :=hm b hb';omega
   ·obtain⟨rfl,rfl⟩:=hcase b B e
    exact⟨by rw[hp];exact hk _ _ hb,hpl _⟩
end
end
section
section
variable {G:Gh}{K:Nat→Option Kd}{H H' H2 h h' ha h1 hA:List (Option Blk)}{l N n a o k α β ob lo x:Nat}{xs sg sg1 sg2:List Nat}{bB:Blk}{vs:List V}{row v1 v2 v:V}{Fs:List Ft}
theorem Gq (hL:LInv bB l xs N h G K)(hN:N≤7000000000000){i:Nat}(hx:xs[i]?=some x)(hg:aa h x=some ⟨false,[v1,.slice a o n k],none⟩):n≤7000000000000:=by
 obtain⟨c,m,hxn,hcd,-,-,-,hxg⟩:=hL.inv.node x (List.mem_of_getElem? hx)
 obtain⟨all,hg',hF⟩:=hL.wt.node hxn
 rw[hg] at hg'
 injection hg' with e
 injection e with _ e _
 injection e with _ e
 injection e with e _
 rcases hF.fall with e2|⟨a',n',e2,-,hn,-⟩
 ·rw[←e] at e2;cases e2
 ·rw[←e] at e2;cases e2
  omega
theorem Gr (hL:LInv bB l xs N h G K)(hg:aa h l=some ⟨false,[v1,.slice a o n k],none⟩):n≤7000000000000:=by
 obtain⟨nodes,air,hg',hF⟩:=hL.wt.link hL.inv.link
 rw[hg] at hg'
 injection hg' with e
 injection e with _ e _
 injection e with _ e
 injection e with e _
 rcases hF.fair with e2|⟨a',n',e2,hn,-⟩
 ·rw[←e] at e2;cases e2
 ·rw[←e] at e2;cases e2
  omega
def iC (o x:Nat):Nat:=if x=o then 1 else 0
theorem gu {T S:List Nat}{L L':List (List Nat×List Nat)}(hT:∀ x∈T,x≠o)(hS:∀ x∈S,x≠o)(hL:fF (iC o) L L'):fF (iC o) ((T,S)::L) (([0],[0])::L'):=
 ⟨⟨fun x hx=>by unfold iC;rw[if_neg (hT x hx)];simp,fun x hx=>by unfold iC;rw[if_neg (hS x hx)];simp⟩,hL⟩
theorem dw {cl:Nat→Nat}{L L':List (List Nat×List Nat)}(hL:fF cl L L'):fF cl (([],[])::L) (([],[])::L'):=⟨⟨fun _ h=>(by cases h),fun _ h=>(by cases h)⟩,hL⟩
theorem jW {T:List Nat}{q d:Nat}(hT:∀ x∈T,x≠o)(hq:o<q):∀ x∈T++List.range' q d,x≠o:=fun x hx=>by
 rcases List.mem_append.1 hx with hx|hx
 ·exact hT x hx
 ·have :=(List.mem_range'_1.1 hx).1
  omega
theorem sv {L L':List (List Nat×List Nat)}(hL:fF (iC o) L L'):fF (iC o) (([o],[])::L) (([1],[])::L'):=
 ⟨⟨fun x hx=>by rw[List.mem_singleton.1 hx];unfold iC;simp,fun x hx=>by cases hx⟩,hL⟩
variable {P:Program}{m:Nat}{R:Exit→St→Prop}{ks:List Fr}{ll:List Oper}{ops:Array Oper}{dst:Option Tmp}{t:List (Nat×V)}
theorem ui {tr:Tr}{f:FuncId}{lo1 hi1 lo2 hi2:Nat}(hf:∀ f∈Fs,f.free=true)(hnil:am P f [.nilSlice,.nilSlice] (.bool true))(hsome:∀ (K:Nat→Option Kd) (n:Nat),n≤7000000000000→∀ ds,Row K (aU n Fs) ds→ao P f [.slice 0 0 n 3,.slice 1 0 n 3] [some ⟨false,ds,none⟩,some ⟨false,ds,none⟩] (.bool true) [some ⟨false,ds,none⟩,some ⟨false,ds,none⟩])
  (hn:∀ a o n k,row= .slice a o n k→n≤7000000000000) (hc:cw P f=true) (c1:CopyE Fs h row v1 lo1 hi1 H) (c2:CopyE Fs h row v2 lo2 hi2 H) (hd:hi1≤lo2)
  (hk:∀ T,(∀ x∈T,(lo1≤x∧x<hi1)∨(lo2≤x∧x<hi2))→dn P m n R ll (tr++[(T,T)]) ops ks ⟨cz t dst (.bool true),H⟩):eF P m n R (.fn f [] []) [v1,v2] dst ll tr ops ks ⟨t,H⟩:=by
 rcases c1 with⟨e,rfl⟩|⟨a,q,ds,N1,e1,g1,g2,rfl,g3,g4,g5,K,g6⟩
 ·rcases c2 with⟨-,rfl⟩|⟨a,q,ds,N1,e1,-⟩
  ·exact aC hnil (hk [] fun _ h=>by cases h)
  ·rw[e] at e1;cases e1
 ·rcases c2 with⟨e,-⟩|⟨a',q',ds',N2,e1',g1',g2',rfl,g3',g4',g5',-⟩
  ·rw[e1] at e;cases e
  ·rw[e1] at e1'
   cases e1'
   rw[g1] at g1'
   cases g1'
   refine Ng hf g6 (hsome K q (hn _ _ _ _ e1) _ g6) hc g5 g5' (by omega) (hk [N1,N2] fun x hx=>?_)
   rcases List.mem_cons.1 hx with rfl|hx
   ·exact .inl ⟨g3,g4⟩
   ·rw[List.mem_singleton.1 hx];exact .inr ⟨g3',g4'⟩
theorem y9 (hT:TwoL β bB sg1 h sg2 h H)(hp:∀ σ,rens σ bB.cs=bB.cs)(hL:LInv bB l xs N h G K)(hN:N≤7000000000000)(hx3:xs.length≤3){L1 L2:Nat}(e1:ah sg1 l=L1)(e2:ah sg2 l=L2)
  (hAH:∀ b B,aa hA b=some B→aa H b=some B) (hAs:∀ b B,aa hA b=some B→ac hA.length B.cs) (hAl:hA.length≤H.length) (hsm:∀ b,b∈sg1∨b∈sg2→b<hA.length→b=β)
  (hob:aa H ob=some ⟨false,vs,none⟩) (hvl:vs.length=xs.length) (hlo:∀ b,b∈sg1∨b∈sg2→b<lo) (hlob:lo≤ob) (hout:∀ i x,xs[i]?=some x→nF h lo ob H x (vs.getD i .junk))
  {t:List (Nat×V)} (t0:ae t 0= .slice β 0 xs.length 1) (t7:ae t 7= .ptr L1 0) (t8:ae t 8= .ptr L2 0) (t13:ae t 13= .slice ob 0 xs.length 1)
  {r0 r1 s2 s4 r16 s17 s19 c21:Code} (hc:Tryz.f3.body=some (.seq r0 (.seq r1 (.seq s2 (.seq s4 (.seq r16 (.seq s17 (.seq s19 c21)))))))):
  vc Tryz.prog hA.length Tryz.f3.ntmps c21 (b8 Tryz.prog Tryz.f3 fun v s=>Fin hA.length (.bool true) hA v s) ⟨t,H⟩:=by
 have hll:=hL.wt.lt hL.inv.link
 have hsane:∀ b B,aa h b=some B→ac h.length B.cs:=fun b B e=>(hL.wt.sane b B e).1
 have hobl:=aj hob
 simp only[Tryz.f3,Option.some.injEq,Code.seq.injEq] at hc
 obtain⟨-,-,-,-,-,-,-,rfl⟩:=hc
 refine ag ?_
 simp only[go_sem,seval,t0]
 repeat refine aI ?_
 refine aH (fun j st=>∃ (i:Nat) (Hj:List (Option Blk)),i+j=xs.length∧TwoL β bB sg1 h sg2 h Hj∧(∀ b B,aa hA b=some B→aa Hj b=some B)∧H.length≤Hj.length∧(∀ b,lo≤b→b<H.length→aa Hj b=aa H b)∧
  st=⟨[(7,.ptr L1 0),(8,.ptr L2 0),(13,.slice ob 0 xs.length 1),(87,.i64 xs.length),(88,.i64 i)],Hj⟩) ?_ ?_
 ·exact aX xs.length ⟨[(7,.ptr L1 0),(8,.ptr L2 0),(13,.slice ob 0 xs.length 1),(87,.i64 xs.length),(88,.i64 (0:Nat))],H⟩ (by simp[St.get,ae,t7,t8,t13]) rfl (fun _ _ h=>h) ⟨0,H,by omega,hT,hAH,Nat.le_refl _,fun _ _ _=>rfl,rfl⟩
 rintro j st ⟨i,Hj,hij,hTj,hPj,hPl,hkj,rfl⟩-
 by_cases hi:i<xs.length
 rotate_left
 ·have hi':¬ (i:Int)<(xs.length:Int):=by omega
  obtain rfl:i=xs.length:=by omega
  simp only[go_sem,seval,hi',decide_false]
  exact Fin.same (Nat.le_refl _) (by show hA.length≤Hj.length;omega) trivial fun b B e=>⟨hPj b B e,hAs b B e⟩
 have hi':(i:Int)<(xs.length:Int):=by omega
 have hi0:(0:Int)≤(i:Int):=by omega
 have w1:=cd (i:=i) (by omega)
 have hxi:=List.getElem?_eq_getElem hi
 obtain⟨row,⟨u1,hrow⟩,gv,gh,hS,hNx,hkp,hcp,hgl2⟩:=yt hL hN hxi
 have hnb:∀ a o n k,row= .slice a o n k→n≤7000000000000:=fun a o n k e=>by rw[e] at hrow;exact Gq hL hN hxi hrow
 have hgh:h.length≤gh.length:=hNx.le
 have stepK:∀ {s:List Nat} {M:List (Option Blk)},Emb s h M→s=sg1∨s=sg2→∀ b,b<M.length→((lo≤b)∨∃ B,aa hA b=some B)→aa (az s M gh) b=aa M b:=fun {s M} hE hs b hb hx=>by
  have hss:b∈s→b∈sg1∨b∈sg2:=fun hm=>by rcases hs with rfl|rfl;exact .inl hm;exact .inr hm
  have hz:ah s 0=β:=by rcases hs with rfl|rfl;exact hT.z1;exact hT.z2
  refine kW hE hNx hkp hsane hb ?_
  by_cases hm:b∈s
  ·rcases hx with hx|⟨B,hx⟩
   ·have :=hlo b (hss hm);omega
   ·exact .inr ⟨0,bB,by rw[hz];exact hsm b (hss hm) (aj hx),hL.b0⟩
  ·exact .inl hm
 have nob:∀ {s:List Nat},s=sg1∨s=sg2→∀ x∈s,x≠ob:=fun {s} hs x hx=>by
  have :=hlo x (by rcases hs with rfl|rfl;exact .inl hx;exact .inr hx)
  omega
 simp only[go_sem,seval,hi',decide_true]
  -- the first link
 have hcE1:=jQ jF hTj.e1 hNx hcp
 have hT1:=hTj.read hp hNx hkp hsane
 refine iE hTj.e1 hS hNx (by kernel_rfl) (by simp[rens,V.ren,e1]) (by simp[ac,V.low];exact hll) rfl ?_
 have k1:=stepK hTj.e1 (.inl rfl)
 have l1:(az sg1 Hj gh).length=Hj.length+(gh.length-sg1.length):=by rw[df]
 generalize gv.ren (ah (au sg1 Hj.length gh))=w1' at*
 generalize az sg1 Hj gh=M1 at*
 simp only[go_sem,seval]
  -- the second link
 have hcE2:=jQ jF hT1.e2 hNx hcp
 have hT2:=(hT1.swap.read hp hNx hkp hsane).swap
 refine iE hT1.e2 hS hNx (by kernel_rfl) (by simp[rens,V.ren,e2]) (by simp[ac,V.low];exact hll) rfl ?_
 have k2:=stepK hT1.e2 (.inr rfl)
 have l2:(az sg2 M1 gh).length=M1.length+(gh.length-sg2.length):=by rw[df]
 generalize gv.ren (ah (au sg2 M1.length gh))=w2' at*
 generalize az sg2 M1 gh=M2 at*
 simp only[go_sem,seval]
 have hcE1':CopyE packF h row w1' Hj.length M1.length M2:=hcE1.mono (Nat.le_refl _) fun b hb1 hb2=>k2 b hb2 (.inl (by omega))
 refine ui jF y6 (fun K n hn ds hr=>yu n hn ds hr) hnb (by kernel_rfl) hcE1' hcE2 (Nat.le_refl _) fun T1 hT1'=>?_
 have gob:aa M2 ob=some ⟨false,vs,none⟩:=by rw[k2 ob (by omega) (.inl hlob),k1 ob (by omega) (.inl hlob),hkj ob hlob hobl,hob]
 obtain⟨u2,zN,q1,q2⟩:=hout i _ hxi
 rw[hrow] at q1
 cases q1
 obtain⟨vo1,vo2,vo3⟩:=q2.one
 have hvi:(vs.drop (i*1)).take 1=[vs.getD i .junk]:=by
  rw[Nat.mul_one,List.getD_eq_getElem?_getD,List.getElem?_eq_getElem (by omega),List.drop_eq_getElem_cons (by omega)]
  rfl
 simp only[go_sem,seval,hi,hi0,hvl,gob]
 repeat refine aI ?_
 have hcE3:=jQ jF hT2.e1 hNx hcp
 have hT3:=hT2.read hp hNx hkp hsane
 refine iE hT2.e1 hS hNx (by kernel_rfl) (by simp[rens,V.ren,e1]) (by simp[ac,V.low];exact hll) rfl ?_
 have k3:=stepK hT2.e1 (.inl rfl)
 have l3:(az sg1 M2 gh).length=M2.length+(gh.length-sg1.length):=by rw[df]
 generalize gv.ren (ah (au sg1 M2.length gh))=w3' at*
 generalize az sg1 M2 gh=M3 at*
 simp only[go_sem,seval]
 have kk:∀ b,lo≤b→b<Hj.length→aa M3 b=aa Hj b:=fun b h1 h2=>by rw[k3 b (by omega) (.inl h1),k2 b (by omega) (.inl h1),k1 b h2 (.inl h1)]
 have hcE4:CopyE packF h row (vs.getD i .junk) lo ob M3:=q2.mono (Nat.le_refl _) fun b hb1 hb2=>by rw[kk b hb1 (by omega),hkj b hb1 (by omega)]
 refine ui jF y6 (fun K n hn ds hr=>yu n hn ds hr) hnb (by kernel_rfl) hcE4 hcE3 (by omega) fun T2 hT2'=>?_
 simp only[go_sem,seval]
 have nb1:=nob (.inl rfl:sg1=sg1∨sg1=sg2)
 have nb2:=nob (.inr rfl:sg2=sg1∨sg2=sg2)
 refine⟨co (iC ob) [([],[]),([],[]),([0],[0]),([],[]),([],[]),([0],[0]),([0],[0]),([],[]),([],[]),([],[]),([],[]),([],[]),([1],[]),([],[]),([],[]),([0],[0]),([0],[0]),([],[]),([],[])] (by kernel_rfl)
  (dw (dw (gu nb1 (jW nb1 (by omega)) (dw (dw (gu nb2 (jW nb2 (by omega)) (gu (fun x hx=>by have :=hT1' x hx;omega) (fun x hx=>by have :=hT1' x hx;omega) (dw (dw (dw (dw (dw (sv (dw (dw (gu nb1 (jW nb1 (by omega)) (gu (fun x hx=>by have :=hT2' x hx;omega) (fun x hx=>by have :=hT2' x hx;omega) (dw (dw trivial))))))))))))))))))),?_⟩
 refine aS (j-1) ⟨[(7,.ptr L1 0),(8,.ptr L2 0),(13,.slice ob 0 xs.length 1),(87,.i64 xs.length),(88,.i64 (i+1:Nat))],M3⟩ (by omega) (by simp[St.get,ae,w1]) rfl (fun _ _ h=>h) ⟨i+1,M3,by omega,hT3,fun b B e=>?_,by omega,fun b h1 h2=>by rw[kk b h1 (by omega),hkj b h1 h2],rfl⟩
 have g:=hPj b B e
 have gl:=aj g
 rw[k3 b (by omega) (.inr ⟨B,e⟩),k2 b (by omega) (.inr ⟨B,e⟩),k1 b gl (.inr ⟨B,e⟩),g]
end
end
section
section
variable {G:Gh}{K:Nat→Option Kd}{H H' H2 h h' ha h1 hA hP:List (Option Blk)}{l N n a o k α β αP ob lo x:Nat}{xs sg sg1 sg2 sgP:List Nat}{bB aB:Blk}{vs:List V}{row v1 v2 v av avP:V}{Fs:List Ft}{seed:List af}{rows:List (List V)}
theorem PArg.stay (hPa:PArg hA n seed β bB av rows hP sgP avP αP aB)(hAl:hA.length≤H.length)(hAH:∀ b B,aa hA b=some B→aa H b=some B)(hN:Nxt hP h')(hk:∀ b B,aa hP b=some B→aa h' b=some B):∀ b,b<H.length→(b<hA.length→b=β∨∃ B,aa hA b=some B)→aa (az sgP H h') b=aa H b:=fun b hb hx=>by
 have hE:=hPa.emb H hAl hAH
 refine kW hE hN hk hPa.low hb ?_
 by_cases hm:b∈sgP
 ·rcases hx (hPa.mem b hm) with rfl|⟨B,hB⟩
  ·have e:=hPa.ren
   simp only[rens,V.ren,List.cons.injEq,V.slice.injEq] at e
   exact .inr ⟨0,bB,e.1.1.symm,hPa.g0⟩
  ·obtain⟨i,hi,e⟩:=hE.idx hm
   rcases hPa.all i (by rw[←hE.len];exact hi) with⟨B,hB⟩|hB
   ·exact .inr ⟨i,B,e.symm,hB⟩
   ·rw[e,‹aa hA b=some _›] at hB;cases hB
 ·exact .inl hm
theorem PArg.nxt (hPa:PArg hA n seed β bB av rows hP sgP avP αP aB):Nxt hP hP:=⟨Nat.le_refl _,fun b B e hor=>(by
  have :=aj e
  rcases hor with hb|hb
  ·omega
  ·rw[hb] at e;cases e),hPa.low⟩
theorem CopyE.emb {lo' hi:Nat}(hf:∀ f∈Fs,f.free=true)(hE:Emb sg h' H)(hc:CopyE Fs h row v lo hi h')(hs:∀ N,lo≤N→N<hi→lo'≤ah sg N∧ah sg N<ob):CopyE Fs h row (v.ren (ah sg)) lo' ob H:=by
 rcases hc with⟨rfl,rfl⟩|⟨a,n,ds,N,rfl,g1,g2,rfl,g3,g4,g5,K,hr⟩
 ·exact .inl ⟨rfl,rfl⟩
 ·obtain⟨o1,o2,o3⟩:=Row.oneFree (fun f hf'=>hf f (eT hf')) hr
  have hb:=(hE.blk N _ g5).1
  simp only at hb
  rw[o2] at hb
  exact .inr ⟨a,n,ds,ah sg N,rfl,g1,g2,rfl,(hs N g3 g4).1,(hs N g3 g4).2,hb,K,hr⟩
theorem yx (hd:Done Tryz.prog 12 [.slice 0 0 n 1,.str seed] zK [some bB] (fun _=>False) (.tup [.ptr l 0,.i64 0]) G K h1)(hL:LInv bB l xs 0 h1 G K)(hxn:xs.length=n)(hx2:2≤xs.length)(hx3:xs.length≤3)(hp:∀ σ,rens σ bB.cs=bB.cs)(hpl:ac 1 bB.cs)
  (hav:gg hA av α aB rows) (hrl:rows.length≤2600000000000) (hrow:∀ r∈rows,ActC r) (hPa:PArg hA n seed β bB av rows hP sgP avP αP aB)
  (hT:TwoL β bB sg1 (cr bB l xs h1 rows rows.length) sg2 (cr bB l xs h1 rows rows.length) H) {L1 L2:Nat} (e1:ah sg1 l=L1) (e2:ah sg2 l=L2)
  (hAH:∀ b B,aa hA b=some B→aa H b=some B) (hAs:∀ b B,aa hA b=some B→ac hA.length B.cs) (hAl:hA.length≤H.length) (hsm:∀ b,b∈sg1∨b∈sg2→b<hA.length→b=β)
  {t:List (Nat×V)} (t0:ae t 0= .slice β 0 n 1) (t1:ae t 1= .str seed) (t2:ae t 2=av) (t7:ae t 7= .ptr L1 0) (t8:ae t 8= .ptr L2 0)
  {r0 r1 s2 s4 c16:Code} (hc:Tryz.f3.body=some (.seq r0 (.seq r1 (.seq s2 (.seq s4 c16))))):
  vc Tryz.prog hA.length Tryz.f3.ntmps c16 (b8 Tryz.prog Tryz.f3 fun v s=>Fin hA.length (.bool true) hA v s) ⟨t,H⟩:=by
 obtain⟨⟨G2,K2,hL2⟩,-⟩:=pB hL hx3 hrow hrl rows.length (Nat.le_refl _)
 have hEP:=hPa.emb H hAl hAH
 have hlenP:=hEP.len
 obtain⟨c0,hc0⟩:∃ c,Tryz.f3.body=some c:=⟨_,rfl⟩
 have hsplit:∃ r16 s17 s19 c21,c16= .seq r16 (.seq s17 (.seq s19 c21)):=by
  simp only[Tryz.f3,Option.some.injEq,Code.seq.injEq] at hc
  obtain⟨-,-,-,-,rfl⟩:=hc
  exact⟨_,_,_,_,rfl⟩
 obtain⟨r16,s17,s19,c21,rfl⟩:=hsplit
 have hc1:=hc
 simp only[Tryz.f3,Option.some.injEq,Code.seq.injEq] at hc
 obtain⟨-,-,-,-,rfl,rfl,rfl,q⟩:=hc
 clear q hc0
 refine ag ?_
 simp only[go_sem,seval,t0,t1,t2]
 have hlav:∀ {G0:Prop},G0→G0:=fun h=>h
 by_cases h300:rows.length≤300
 ·obtain⟨v,h',hS,hNP,hkp,hvl,ob,vs,rfl,hob,hgo,hvsl,hout⟩:=Ne hd hL hx2 hx3 hp hpl hPa.g0 hPa.low hPa.acts h300
  generalize cr bB l xs h1 rows rows.length=hkk at*
  have hE2:=hEP.call hNP
  have hobl:=aj hgo
  have hz:ah (au sgP H.length h') ob=H.length+(ob-sgP.length):=fM (by omega) hobl
  refine fJ hEP hS hNP (by kernel_rfl) hPa.ren hPa.alow (v':= .tup [.slice (H.length+(ob-sgP.length)) 0 xs.length 1,.i64 0]) (by simp[V.ren,rens,hz]) ?_
  have hk:=hPa.stay hAl hAH hNP hkp
  have hlm:(az sgP H h').length=H.length+(h'.length-sgP.length):=by rw[df]
  have hgo':=(hE2.blk ob _ hgo).1
  rw[hz] at hgo'
  have hTM:=hT.stay (H':=az sgP H h') (by omega) fun b hb=>hk b (by rcases hb with hb|hb;exact hT.e1.lt b hb;exact hT.e2.lt b hb) fun h=> .inl (hsm b hb h)
  have hout':∀ i x,xs[i]?=some x→nF hkk H.length (H.length+(ob-sgP.length)) (az sgP H h') x ((rens (ah (au sgP H.length h')) vs).getD i .junk):=fun i x hx=>by
   obtain⟨u1,r1,q1,q2⟩:=hout i x hx
   have hi:i<vs.length:=by have :=(List.getElem?_eq_some_iff.1 hx).1;omega
   refine⟨u1,r1,q1,?_⟩
   have ev:(rens (ah (au sgP H.length h')) vs).getD i .junk=(vs.getD i .junk).ren (ah (au sgP H.length h')):=by
    rw[dG,List.getD_eq_getElem?_getD,List.getD_eq_getElem?_getD,List.getElem?_map,List.getElem?_eq_getElem hi];rfl
   rw[ev]
   refine q2.emb jF hE2 fun N hN1 hN2=>?_
   rw[fM (by omega) (by omega)]
   omega
  have hvl':(rens (ah (au sgP H.length h')) vs).length=xs.length:=by rw[dG,List.length_map,hvsl]
  have hAM:∀ b B,aa hA b=some B→aa (az sgP H h') b=some B:=fun b B e=>(hk b (aj (hAH b B e)) fun _=> .inr ⟨B,e⟩).trans (hAH b B e)
  generalize rens (ah (au sgP H.length h')) vs=vs' at*
  generalize az sgP H h'=M at*
  have hlo:∀ b,b∈sg1∨b∈sg2→b<H.length:=fun b hb=>by rcases hb with hb|hb;exact hT.e1.lt b hb;exact hT.e2.lt b hb
  have e300:¬ (300:Int)<(rows.length:Int):=by omega
  have hl2:2*rows.length≤7000000000000:=by omega
  subst hxn
  rcases hav with⟨rfl,rfl⟩|⟨rfl,-,hgα,haB,-⟩
  ·simp only[go_sem,seval,t0,t2]
   repeat refine aI ?_
   exact y9 hTM hp hL2 hl2 hx3 e1 e2 hAM hAs (by omega) hsm hgo' hvl' hlo (by omega) hout' (by simp only[go_sem,seval,t0]) (by simp only[go_sem,seval,t7]) (by simp only[go_sem,seval,t8]) (by simp only[go_sem,seval]) hc1
  ·simp only[go_sem,seval,t0,t2,e300,decide_false]
   repeat refine aI ?_
   exact y9 hTM hp hL2 hl2 hx3 e1 e2 hAM hAs (by omega) hsm hgo' hvl' hlo (by omega) hout' (by simp only[go_sem,seval,t0]) (by simp only[go_sem,seval,t7]) (by simp only[go_sem,seval,t8]) (by simp only[go_sem,seval]) hc1
 ·have hS:=Gm (seed:=seed) (bv:= .slice 0 0 n 1) hPa.acts (by omega)
  refine fJ hEP hS hPa.nxt (by kernel_rfl) hPa.ren hPa.alow rfl ?_
  have hk:=hPa.stay hAl hAH hPa.nxt (fun _ _ e=>e)
  have hlm:(az sgP H hP).length=H.length:=by rw[df];omega
  generalize az sgP H hP=M at*
  rcases hav with⟨rfl,rfl⟩|⟨rfl,-,hgα,haB,-⟩
  ·simp at h300
  have e300:(300:Int)<(rows.length:Int):=by omega
  simp only[go_sem,seval,t2,e300,decide_true,V.ren]
  exact Fin.same (Nat.le_refl _) (by show hA.length≤M.length;omega) trivial fun b B e=>⟨(hk b (aj (hAH b B e)) fun _=> .inr ⟨B,e⟩).trans (hAH b B e),hAs b B e⟩
end
end
section
section
variable {G:Gh}{K:Nat→Option Kd}{H H' H2 h h' ha h1 hA hP:List (Option Blk)}{l N n a o k α β αP ob lo x:Nat}{xs sg sg1 sg2 sgP:List Nat}{bB aB:Blk}{vs:List V}{row v1 v2 v av avP:V}{Fs:List Ft}{seed:List af}{rows:List (List V)}
theorem yy {i:Nat}(h:i<9000000000000):ai ((i:Int)+1)=((i+1:Nat):Int):=by rw[al (by omega) (by omega)];omega
theorem Gs (hL:LInv bB l xs N h G K):∃ (v:V) (h':List (Option Blk)) (row:V),ao Tryz.prog 8 [.ptr l 0] h v h'∧Nxt h h'∧(∀ b B,aa h b=some B→aa h' b=some B)∧tR gramF h row v h'∧v.low h'.length∧∀ a o n k,row= .slice a o n k→n≤7000000000000:=by
 obtain⟨nodes,air,hg,hF⟩:=hL.wt.link hL.inv.link
 obtain⟨v,G',K',h',hd,-,-,hcp⟩:=PD hL.wt hL.inv.link hg
 refine⟨v,h',air,hd.spec,nj hd,fun b B e=>(hd.cur.keep b (aj e) fun h=>h).trans e,?_,hd.low,fun a o n k e=>Gr hL (by rw[e] at hg;exact hg)⟩
 rcases hcp with⟨rfl,rfl⟩|⟨a,n,ds,N,rfl,g1,g2,rfl,g3,g4⟩
 ·exact .inl ⟨rfl,rfl⟩
 ·refine .inr ⟨a,n,ds,N,rfl,g1,g2,rfl,g3,g4,K,?_⟩
  rcases hF.fair with e|⟨a',n',e,-,ha⟩
  ·cases e
  ·cases e
   exact hL.wt.rowOf ha rfl g1
theorem zM {M M1:List (Option Blk)}(h1:∀ b,b<M.length→b∉sg→aa M1 b=aa M b)(h2:aa M1 β=some bB)(h3:aa M β=some bB)(h4:∀ b∈sg,b<hA.length→b=β)(h5:∀ b B,aa hA b=some B→aa M b=some B):∀ b B,aa hA b=some B→aa M1 b=some B:=fun b B e=>by
 by_cases hm:b∈sg
 ·obtain rfl:=h4 b hm (aj e)
  have :=h5 b B e
  rw[h3] at this
  rw[h2,this]
 ·exact(h1 b (aj (h5 b B e)) hm).trans (h5 b B e)
theorem JO (hd:Done Tryz.prog 12 [.slice 0 0 n 1,.str seed] zK [some bB] (fun _=>False) (.tup [.ptr l 0,.i64 0]) G K h1)(hL:LInv bB l xs 0 h1 G K)(hxn:xs.length=n)(hx2:2≤xs.length)(hx3:xs.length≤3)(hp:∀ σ,rens σ bB.cs=bB.cs)(hpl:ac 1 bB.cs)
  (hav:gg hA av α aB rows) (hrl:rows.length≤2600000000000) (hrow:∀ r∈rows,ActC r) (hPa:PArg hA n seed β bB av rows hP sgP avP αP aB)
  (hT:TwoL β bB sg1 h1 sg2 h1 H) {L1 L2:Nat} (e1:ah sg1 l=L1) (e2:ah sg2 l=L2)
  (hAH:∀ b B,aa hA b=some B→aa H b=some B) (hAs:∀ b B,aa hA b=some B→ac hA.length B.cs) (hAl:hA.length≤H.length) (hsm:∀ b,b∈sg1∨b∈sg2→b<hA.length→b=β)
  {t:List (Nat×V)} (t0:ae t 0= .slice β 0 n 1) (t1:ae t 1= .str seed) (t2:ae t 2=av) (t7:ae t 7= .ptr L1 0) (t8:ae t 8= .ptr L2 0)
  {r0 r1 s2 c4:Code} (hc:Tryz.f3.body=some (.seq r0 (.seq r1 (.seq s2 c4)))):
  vc Tryz.prog hA.length Tryz.f3.ntmps c4 (b8 Tryz.prog Tryz.f3 fun v s=>Fin hA.length (.bool true) hA v s) ⟨t,H⟩:=by
 have hsplit:∃ s4 c16,c4= .seq s4 c16:=by
  simp only[Tryz.f3,Option.some.injEq,Code.seq.injEq] at hc
  obtain⟨-,-,-,rfl⟩:=hc
  exact⟨_,_,rfl⟩
 obtain⟨s4,c16,rfl⟩:=hsplit
 have hc1:=hc
 simp only[Tryz.f3,Option.some.injEq,Code.seq.injEq] at hc
 obtain⟨-,-,-,rfl,q⟩:=hc
 clear q
 have hrun:=pB hL hx3 hrow hrl
 have hlr0:cr bB l xs h1 rows 0=h1:=by rw[cr]
 refine ag ?_
 have hav0:=hav
 rcases hav with⟨rfl,rfl⟩|⟨rfl,-,hgα,haB,-⟩
 ·simp only[go_sem,seval,t2]
  repeat refine aI ?_
  refine bI 1 ?_
  simp only[go_sem,seval]
  exact yx hd hL hxn hx2 hx3 hp hpl hav0 hrl hrow hPa (by show TwoL β bB sg1 (cr bB l xs h1 [] 0) sg2 (cr bB l xs h1 [] 0) H;rw[hlr0];exact hT) e1 e2 hAH hAs hAl hsm (by simp only[go_sem,seval,t0]) (by simp only[go_sem,seval,t1]) (by simp only[go_sem,seval,t2]) (by simp only[go_sem,seval,t7]) (by simp only[go_sem,seval,t8]) hc1
 simp only[go_sem,seval,t2]
 repeat refine aI ?_
 refine aH (fun j st=>∃ (i:Nat) (sg1 sg2:List Nat) (Hi:List (Option Blk)),i+j=rows.length∧TwoL β bB sg1 (cr bB l xs h1 rows i) sg2 (cr bB l xs h1 rows i) Hi∧ah sg1 l=L1∧ah sg2 l=L2∧(∀ b B,aa hA b=some B→aa Hi b=some B)∧hA.length≤Hi.length∧(∀ b,b∈sg1∨b∈sg2→b<hA.length→b=β)∧
  st=⟨[(0,.slice β 0 n 1),(1,.str seed),(2,.slice α 0 rows.length 7),(7,.ptr L1 0),(8,.ptr L2 0),(31,.slice α 0 rows.length 7),(32,.i64 rows.length),(33,.i64 i)],Hi⟩) ?_ ?_
 ·exact aX rows.length ⟨[(0,.slice β 0 n 1),(1,.str seed),(2,.slice α 0 rows.length 7),(7,.ptr L1 0),(8,.ptr L2 0),(31,.slice α 0 rows.length 7),(32,.i64 rows.length),(33,.i64 (0:Nat))],H⟩ (by simp[St.get,ae,t0,t1,t2,t7,t8]) rfl (fun _ _ h=>h) ⟨0,sg1,sg2,H,by omega,by rw[hlr0];exact hT,e1,e2,hAH,hAl,hsm,rfl⟩
 clear hsm hAH hAl e1 e2 hT t0 t1 t2 t7 t8
 clear t sg1 sg2 H
 rintro j st ⟨i,sg1,sg2,Hi,hij,hT,e1,e2,hAH,hAl,hsm,rfl⟩-
 by_cases hi:i<rows.length
 rotate_left
 ·have hi':¬ (i:Int)<(rows.length:Int):=by omega
  obtain rfl:i=rows.length:=by omega
  simp only[go_sem,seval,hi',decide_false]
  exact yx hd hL hxn hx2 hx3 hp hpl hav0 hrl hrow hPa hT e1 e2 hAH hAs hAl hsm (by simp only[go_sem,seval]) (by simp only[go_sem,seval]) (by simp only[go_sem,seval]) (by simp only[go_sem,seval]) (by simp only[go_sem,seval]) hc1
 have hi':(i:Int)<(rows.length:Int):=by omega
 have hi0:(0:Int)≤(i:Int):=by omega
 have wi:=yy (i:=i) (by omega)
 obtain⟨⟨G2,K2,hL2⟩,-⟩:=hrun i (by omega)
 obtain⟨e,hS,hNx⟩:=yv hL hx3 hrow hrl hi
 obtain⟨⟨G3,K3,hL3⟩,-⟩:=hrun (i+1) (by omega)
 have hb0':=hL3.b0
 generalize hhn:cr bB l xs h1 rows (i+1)=hn at*
 generalize cr bB l xs h1 rows i=hk at*
 have hm:rows.getD i []∈rows:=by rw[List.getD_eq_getElem?_getD,List.getElem?_eq_getElem hi];exact List.getElem_mem hi
 have hcell:=y8 hrow hi
 have hAC:=hrow _ hm
 obtain⟨kind,A,B,C,src,dst,txt,hre,htx⟩:=hAC
 have hgαi:=hAH α aB (hgα (by omega))
 have hflat:aB.cs.length=rows.length*7:=by rw[haB];exact sr hrow
 rw[←haB,hre] at hcell
 rw[hre] at hS
 have hz:Hi.length<(Hi++[some (⟨false,[.i64 0,.i64 0,.i64 0,.i64 0,.u32 0#32,.u32 0#32,.str []],none⟩:Blk)]).length:=by simp
 simp only[go_sem,seval,hi',decide_true,hgαi,hcell,hflat,hi0,aW hz]
 repeat refine aI ?_
 have hboxk:∀ b,b<Hi.length→aa ((Hi++[some (⟨false,[.i64 0,.i64 0,.i64 0,.i64 0,.u32 0#32,.u32 0#32,.str []],none⟩:Blk)]).set Hi.length (some ⟨false,[.i64 kind,.i64 A,.i64 B,.i64 C,.u32 src,.u32 dst,.str txt],none⟩)) b=aa Hi b:=fun b hb=>dt hb
 have hbox:=aW (x:=(some ⟨false,[.i64 kind,.i64 A,.i64 B,.i64 C,.u32 src,.u32 dst,.str txt],none⟩:Option Blk)) hz
 have hlM:((Hi++[some (⟨false,[.i64 0,.i64 0,.i64 0,.i64 0,.u32 0#32,.u32 0#32,.str []],none⟩:Blk)]).set Hi.length (some ⟨false,[.i64 kind,.i64 A,.i64 B,.i64 C,.u32 src,.u32 dst,.str txt],none⟩)).length=Hi.length+1:=by simp
 generalize ((Hi++[some (⟨false,[.i64 0,.i64 0,.i64 0,.i64 0,.u32 0#32,.u32 0#32,.str []],none⟩:Blk)]).set Hi.length (some ⟨false,[.i64 kind,.i64 A,.i64 B,.i64 C,.u32 src,.u32 dst,.str txt],none⟩))=M at*
 have hll:=hL2.wt.lt hL2.inv.link
 have hll3:=hL3.wt.lt hL3.inv.link
 have hlg1:=hT.e1.len
 have hlg2:=hT.e2.len
 have n1:∀ x∈sg1,x≠Hi.length:=fun x hx=>by have :=hT.e1.lt x hx;omega
 have n2:∀ x∈sg2,x≠Hi.length:=fun x hx=>by have :=hT.e2.lt x hx;omega
 have hTM:=hT.stay (H':=M) (by omega) fun b hb=>hboxk b (by rcases hb with hb|hb;exact hT.e1.lt b hb;exact hT.e2.lt b hb)
 have hAM:∀ b B,aa hA b=some B→aa M b=some B:=fun b B e=>(hboxk b (by have :=aj (hAH b B e);omega)).trans (hAH b B e)
  -- Do on the first link
 have hT1:=hTM.left hp hNx hb0'
 refine iE hTM.e1 hS hNx (by kernel_rfl) (by simp[rens,V.ren,e1]) (by simp[ac,V.low];exact hll) rfl ?_
 have l1:(az sg1 M hn).length=M.length+(hn.length-sg1.length):=by rw[df]
 have hb1:aa (az sg1 M hn) Hi.length=_:=(iM (by omega) fun hm=>n1 _ hm rfl).trans hbox
 have hA1:∀ b B,aa hA b=some B→aa (az sg1 M hn) b=some B:=zM (fun b hb hm=>iM hb hm) (hT1.bH hp) (hTM.bH hp) (fun b hb hlt=>hsm b (.inl hb) hlt) hAM
 have e1':ah (au sg1 M.length hn) l=L1:=by rw[iU (by omega)];exact e1
 have s1:∀ b∈au sg1 M.length hn,b∈sg1∨M.length≤b:=fun b hb=>(kV hb).imp id fun h=>h.1
 generalize au sg1 M.length hn=sgA at*
 generalize az sg1 M hn=M1 at*
 simp only[go_sem,seval,hb1]
  -- Do on the second link
 have hT2:=(hT1.swap.left hp hNx hb0').swap
 refine iE hT1.e2 hS hNx (by kernel_rfl) (by simp[rens,V.ren,e2]) (by simp[ac,V.low];exact hll) rfl ?_
 have l2:(az sg2 M1 hn).length=M1.length+(hn.length-sg2.length):=by rw[df]
 have hA2:∀ b B,aa hA b=some B→aa (az sg2 M1 hn) b=some B:=zM (fun b hb hm=>iM hb hm) (hT2.bH hp) (hT1.bH hp) (fun b hb hlt=>hsm b (.inr hb) hlt) hA1
 have e2':ah (au sg2 M1.length hn) l=L2:=by rw[iU (by omega)];exact e2
 have s2:∀ b∈au sg2 M1.length hn,b∈sg2∨M1.length≤b:=fun b hb=>(kV hb).imp id fun h=>h.1
 generalize au sg2 M1.length hn=sgB at*
 generalize az sg2 M1 hn=M2 at*
 simp only[go_sem,seval]
 have nA:∀ x∈sgA,x≠Hi.length:=fun x hx=>by rcases s1 x hx with h|h;exact n1 x h;omega
 have nB:∀ x∈sgB,x≠Hi.length:=fun x hx=>by rcases s2 x hx with h|h;exact n2 x h;omega
 have smA:∀ b,b∈sgA∨b∈sgB→b<hA.length→b=β:=fun b hb hlt=>by
  rcases hb with hb|hb
  ·rcases s1 b hb with h|h;exact hsm b (.inl h) hlt;omega
  ·rcases s2 b hb with h|h;exact hsm b (.inr h) hlt;omega
 have hsane3:∀ b B,aa hn b=some B→ac hn.length B.cs:=fun b B e=>(hL3.wt.sane b B e).1
 obtain⟨gv,gh,row,hSa,hNa,hkp,hcp,hgl2,hnb⟩:=Gs hL3
 have hgh:hn.length≤gh.length:=hNa.le
 have stepK:∀ {s:List Nat} {M:List (Option Blk)},Emb s hn M→s=sgA∨s=sgB→∀ b,b<M.length→((b∉s)∨b<hA.length)→aa (az s M gh) b=aa M b:=fun {s M} hE hs b hb hx=>by
  have hss:b∈s→b∈sgA∨b∈sgB:=fun hm=>by rcases hs with rfl|rfl;exact .inl hm;exact .inr hm
  have hz:ah s 0=β:=by rcases hs with rfl|rfl;exact hT2.z1;exact hT2.z2
  refine kW hE hNa hkp hsane3 hb ?_
  by_cases hm:b∈s
  ·rcases hx with hx|hx
   ·exact absurd hm hx
   ·exact .inr ⟨0,bB,by rw[hz];exact smA b (hss hm) hx,hb0'⟩
  ·exact .inl hm
  -- what is in the air, on both links
 have hcE1:=jQ oE hT2.e1 hNa hcp
 have hT3:=hT2.read hp hNa hkp hsane3
 refine iE hT2.e1 hSa hNa (by kernel_rfl) (by simp[rens,V.ren,e1']) (by simp[ac,V.low];exact hll3) rfl ?_
 have k3:=stepK hT2.e1 (.inl rfl)
 have l3:(az sgA M2 gh).length=M2.length+(gh.length-sgA.length):=by rw[df]
 generalize gv.ren (ah (au sgA M2.length gh))=w1' at*
 generalize az sgA M2 gh=M3 at*
 simp only[go_sem,seval]
 have hcE2:=jQ oE hT3.e2 hNa hcp
 have hT4:=(hT3.swap.read hp hNa hkp hsane3).swap
 refine iE hT3.e2 hSa hNa (by kernel_rfl) (by simp[rens,V.ren,e2']) (by simp[ac,V.low];exact hll3) rfl ?_
 have k4:=stepK hT3.e2 (.inr rfl)
 have l4:(az sgB M3 gh).length=M3.length+(gh.length-sgB.length):=by rw[df]
 generalize gv.ren (ah (au sgB M3.length gh))=w2' at*
 generalize az sgB M3 gh=M4 at*
 simp only[go_sem,seval]
 have hcE1':CopyE gramF hn row w1' M2.length M3.length M4:=hcE1.mono (Nat.le_refl _) fun b hb1 hb2=>k4 b hb2 (.inl fun hm=>by have :=hT2.e2.lt b hm;omega)
 refine ui oE Nc (fun K n hn ds hr=>JL n hn ds hr) hnb (by kernel_rfl) hcE1' hcE2 (Nat.le_refl _) fun T1 hT1'=>?_
 simp only[go_sem,seval]
 refine⟨co (iC Hi.length) [([],[]),([1],[]),([0],[0]),([],[]),([1],[]),([0],[0]),([],[]),([],[]),([],[]),([0],[0]),([],[]),([0],[0]),([0],[0]),([],[]),([],[])] (by kernel_rfl)
  (dw (sv (gu n1 (jW n1 (by omega)) (dw (sv (gu n2 (jW n2 (by omega)) (dw (dw (dw (gu nA (jW nA (by omega)) (dw (gu nB (jW nB (by omega)) (gu (fun x hx=>by have :=hT1' x hx;omega) (fun x hx=>by have :=hT1' x hx;omega) (dw (dw trivial))))))))))))))),?_⟩
 have hcE3:=jQ oE hT4.e1 hNa hcp
 have hT5:=hT4.read hp hNa hkp hsane3
 refine fJ hT4.e1 hSa hNa (by kernel_rfl) (by simp[rens,V.ren,e1']) (by simp[ac,V.low];exact hll3) rfl ?_
 have k5:=stepK hT4.e1 (.inl rfl)
 have l5:(az sgA M4 gh).length=M4.length+(gh.length-sgA.length):=by rw[df]
 generalize gv.ren (ah (au sgA M4.length gh))=w3' at*
 generalize az sgA M4 gh=M5 at*
 have hA5:∀ b B,aa hA b=some B→aa M5 b=some B:=fun b B e=>by
  have g:=hA2 b B e
  have gl:=aj g
  have bl:=aj e
  rw[k5 b (by omega) (.inr bl),k4 b (by omega) (.inr bl),k3 b gl (.inr bl),g]
 rcases hcE3 with⟨-,rfl⟩|⟨a,q,ds,NN,hre2,g1,g2,rfl,g3,g4,g5,Kd,g6⟩
 ·simp only[go_sem,seval]
  repeat refine aI ?_
  refine bI 1 ?_
  simp only[go_sem,seval]
  repeat refine aI ?_
  refine aS (j-1) ⟨[(0,.slice β 0 n 1),(1,.str seed),(2,.slice α 0 rows.length 7),(7,.ptr L1 0),(8,.ptr L2 0),(31,.slice α 0 rows.length 7),(32,.i64 rows.length),(33,.i64 (i+1:Nat))],M5⟩ (by omega) (by simp[St.get,ae,wi]) rfl (fun _ _ h=>h) ⟨i+1,sgA,sgB,M5,by omega,by rw[hhn];exact hT5,e1',e2',hA5,by omega,smA,rfl⟩
 simp only[go_sem,seval]
 repeat refine aI ?_
 have hq:=hnb _ _ _ _ hre2
 have hNN1:∀ b,b∈sgA∨b∈sgB→b≠NN:=fun b hb=>by
  rcases hb with hb|hb
  ·have :=hT4.e1.lt b hb;omega
  ·have :=hT4.e2.lt b hb;omega
 refine aH (fun j2 st=>∃ (i2:Nat) (ds2:List V) (M6:List (Option Blk)),i2+j2=q∧ds2.length=q*3∧M6.length=M5.length∧(∀ b,b≠NN→aa M6 b=aa M5 b)∧aa M6 NN=some ⟨false,ds2,none⟩∧
  st=⟨[(0,.slice β 0 n 1),(1,.str seed),(2,.slice α 0 rows.length 7),(7,.ptr L1 0),(8,.ptr L2 0),(11,.slice NN 0 q 3),(31,.slice α 0 rows.length 7),(32,.i64 rows.length),(33,.i64 i),(55,.i64 q),(56,.i64 i2)],M6⟩) ?_ ?_
 ·exact aX q ⟨[(0,.slice β 0 n 1),(1,.str seed),(2,.slice α 0 rows.length 7),(7,.ptr L1 0),(8,.ptr L2 0),(11,.slice NN 0 q 3),(31,.slice α 0 rows.length 7),(32,.i64 rows.length),(33,.i64 i),(55,.i64 q),(56,.i64 (0:Nat))],M5⟩ (by simp[St.get,ae]) rfl (fun _ _ h=>h) ⟨0,ds,M5,by omega,g2,rfl,fun _ _=>rfl,g5,rfl⟩
 rintro j2 st ⟨i2,ds2,M6,hij2,hd2,hl6,hk6,hg6,rfl⟩-
 by_cases hi2:i2<q
 rotate_left
 ·have hi2':¬ (i2:Int)<(q:Int):=by omega
  simp only[go_sem,seval,hi2',decide_false]
  repeat refine aI ?_
  have hT6:=hT5.stay (H':=M6) (by omega) fun b hb=>hk6 b (hNN1 b hb)
  refine aS (j-1) ⟨[(0,.slice β 0 n 1),(1,.str seed),(2,.slice α 0 rows.length 7),(7,.ptr L1 0),(8,.ptr L2 0),(31,.slice α 0 rows.length 7),(32,.i64 rows.length),(33,.i64 (i+1:Nat))],M6⟩ (by omega) (by simp[St.get,ae,wi]) rfl (fun _ _ h=>h) ⟨i+1,sgA,sgB,M6,by omega,by rw[hhn];exact hT6,e1',e2',fun b B e=>?_,by omega,smA,rfl⟩
  have :=hA5 b B e
  have bl:=aj e
  rw[hk6 b (by omega),this]
 have hi2':(i2:Int)<(q:Int):=by omega
 have hi20:(0:Int)≤(i2:Int):=by omega
 have wi2:=yy (i:=i2) (by omega)
 simp only[go_sem,seval,hi2',decide_true,hg6,hd2,hi20]
 repeat refine aI ?_
 refine aS (j2-1) ⟨[(0,.slice β 0 n 1),(1,.str seed),(2,.slice α 0 rows.length 7),(7,.ptr L1 0),(8,.ptr L2 0),(11,.slice NN 0 q 3),(31,.slice α 0 rows.length 7),(32,.i64 rows.length),(33,.i64 i),(55,.i64 q),(56,.i64 (i2+1:Nat))],M6.set NN (some ⟨false,List.take (i2*3) ds2++[V.u32 0#32,V.u32 0#32,V.str []]++List.drop (i2*3+3) ds2,none⟩)⟩ (by omega) (by simp[St.get,ae,wi2]) rfl (fun _ _ h=>h)
  ⟨i2+1,_,_,by omega,?_,by simp[hl6],fun b hb=>by rw[aP (fun e=>hb e.symm),hk6 b hb],aW (by omega) _,rfl⟩
 simp only[List.length_append,List.length_take,List.length_drop,List.length_cons,List.length_nil,hd2]
 omega
end
end
section
section
variable {G:Gh}{K:Nat→Option Kd}{h1 hA hP:List (Option Blk)}{l N n a o k α β αP:Nat}{xs sgP:List Nat}{bB aB:Blk}{av avP:V}{seed:List af}{rows:List (List V)}
theorem Nh (hd:Done Tryz.prog 12 [.slice 0 0 n 1,.str seed] zK [some bB] (fun _=>False) (.tup [.ptr l 0,.i64 0]) G K h1)(hI:LkInv G K l xs 0)(hxn:xs.length=n)(hx2:2≤xs.length)(hx3:xs.length≤3)(hp:∀ σ,rens σ bB.cs=bB.cs)(hpl:∀ n,ac n bB.cs)(hs0:Sane [some bB])
  (hgβ:aa hA β=some bB) (hav:gg hA av α aB rows) (hrl:rows.length≤2600000000000) (hrow:∀ r∈rows,ActC r) (hne:β≠α) (hno:rows=[]→aa hA α=none) (hAs:∀ b B,aa hA b=some B→ac hA.length B.cs)
  {r0 r1 s2 c4:Code} (hc:Tryz.f3.body=some (.seq r0 (.seq r1 (.seq s2 c4)))):
  vc Tryz.prog hA.length Tryz.f3.ntmps (.seq r0 (.seq r1 (.seq s2 c4))) (b8 Tryz.prog Tryz.f3 fun v s=>Fin hA.length (.bool true) hA v s) ⟨cW [.slice β 0 n 1,.str seed,av] 0,hA⟩:=by
 obtain⟨hP,sgP,avP,αP,hPa⟩:=Sj (n:=n) (seed:=seed) hgβ hp hpl hav hne hno
 have hlow:ac [some bB].length [V.slice 0 0 n 1,.str seed]:=by simp[ac,V.low]
 have hmade:=Nd hd hlow hs0 hI hx3
 have hN:=nj hd
 have hb0:aa h1 0=some bB:=(hd.cur.keep 0 (by simp) fun h=>h).trans rfl
 have hL:LInv bB l xs 0 h1 G K:=⟨hd.cur.wt,hI,hb0,hd.cur.unt 0 (by simp) rfl⟩
 have hll:=hL.wt.lt hI.link
 have hE0:Emb [β] [some bB] hA:=⟨rfl,by simp,fun b hb=>by rw[List.mem_singleton.1 hb];exact aj hgβ,fun b B e=>by
  match b,e with
  |0,e=>
   have :bB=B:=by simpa [aa] using e
   subst this
   exact⟨by rw[hp];exact hgβ,hpl _⟩
  |b+1,e=>simp[aa] at e⟩
 obtain⟨hT,hE2,hAH,hAl,hsm⟩:=Gn hE0 hN hb0 hp (hpl 1)
 have hargs:rens (ah [β]) [V.slice 0 0 n 1,.str seed]=[.slice β 0 n 1,.str seed]:=rfl
 have hc1:=hc
 simp only[Tryz.f3,Option.some.injEq,Code.seq.injEq] at hc
 obtain⟨rfl,rfl,rfl,q⟩:=hc
 clear q
 refine ag ?_
 simp only[go_sem,seval]
 repeat refine aI ?_
 refine fJ hE0 hmade hN (by kernel_rfl) hargs hlow rfl ?_
 simp only[go_sem,seval]
 refine fJ hE2 hmade hN (by kernel_rfl) hargs hlow rfl ?_
 simp only[go_sem,seval,V.ren]
 repeat refine aI ?_
 exact JO hd hL hxn hx2 hx3 hp (hpl 1) hav hrl hrow hPa hT rfl rfl hAH hAs hAl hsm (by simp only[go_sem,seval]) (by simp only[go_sem,seval]) (by simp only[go_sem,seval]) (by simp only[go_sem,seval]) (by simp only[go_sem,seval]) hc1
theorem Ni (hd:Done Tryz.prog 12 [.slice 0 0 n 1,.str seed] zK [some bB] (fun _=>False) (.tup [.ptr l 0,.i64 0]) G K h1)(hI:LkInv G K l xs 0)(hxn:xs.length=n)(hx2:2≤xs.length)(hx3:xs.length≤3)(hp:∀ σ,rens σ bB.cs=bB.cs)(hpl:∀ n,ac n bB.cs)(hs0:Sane [some bB])
  (hgβ:aa hA β=some bB) (hav:gg hA av α aB rows) (hrl:rows.length≤2600000000000) (hrow:∀ r∈rows,ActC r) (hne:β≠α) (hno:rows=[]→aa hA α=none) (hAs:∀ b B,aa hA b=some B→ac hA.length B.cs):ao Tryz.prog 3 [.slice β 0 n 1,.str seed,av] hA (.bool true) hA:=
 aR (by kernel_rfl) (fn:=Tryz.f3) Tryz.func3 rfl (by show 3≤111;decide) (Nh hd hI hxn hx2 hx3 hp hpl hs0 hgβ hav hrl hrow hne hno hAs rfl)
end
end
section
section
variable {G:Gh}{K:Nat→Option Kd}{H hA:List (Option Blk)}{n α β:Nat}{av:V}{seed:List af}{rows:List (List V)}
theorem Cc (h:WT G K H)(seed:List af){bb:Nat}(hbb:bb<H.length)
  {r0 s1 c:Code} (hc:Tryz.f12.body=some (.seq r0 (.seq s1 c))):
  vc Tryz.prog H.length Tryz.f12.ntmps (.seq r0 (.seq s1 c)) (b8 Tryz.prog Tryz.f12 (EndW K H (fun _=>False) (jd G 0))) ⟨cW [.slice bb 0 0 1,.str seed] 0,H⟩:=by
 simp only[Tryz.f12,Option.some.injEq,Code.seq.injEq] at hc
 obtain⟨rfl,rfl,q⟩:=hc
 clear q
 have hC0:=(Cur.refl h (fun _=>False)).junk (vs:=[.str seed]) (mm:=none) (by simp[ac,V.low])
 have ret_:∀ (e:Int) (t:List (Nat×V)) (K2:Nat→Option Kd) (H2:List (Option Blk)),e≠0→Cur K H (fun _=>False) G K2 H2→EndW K H (fun _=>False) (jd G 0) (.tup [.nilPtr,.i64 e]) ⟨t,H2⟩:=fun e t K2 H2 he hC=>EndW.of (s:=⟨t,H2⟩) hC (by simp[ac,V.low]) ⟨rfl,.inl ⟨e,he,rfl⟩⟩
 refine ag ?_
 simp only[go_sem,seval,dm]
 repeat refine aI ?_
 by_cases hs:seed.length=32
 rotate_left
 ·have hs':¬ (seed.length:Int)=32:=by omega
  simp only[go_sem,seval,hs',not_false_eq_true,decide_true]
  repeat refine aI ?_
  exact ret_ _ _ _ _ (by decide) hC0
 have hs':(seed.length:Int)=32:=by omega
 simp only[go_sem,seval,hs',not_true,decide_false]
 repeat refine aI ?_
 exact ret_ _ _ _ _ (by decide) hC0
theorem JP (h:WT G K H)(seed:List af){bb:Nat}(hbb:bb<H.length):∃ v G' K' H',Done Tryz.prog 12 [.slice bb 0 0 1,.str seed] K H (fun _=>False) v G' K' H'∧jd G 0 v G' K':=
 bE (W:=fun _=>False) (Post:=jd G 0) (by kernel_rfl) (fn:=Tryz.f12) Tryz.func12 rfl (by show 2≤108;decide) (Cc h seed hbb rfl)
theorem JQ {v:V}(hA0:List (Option Blk)){β n1:Nat}(hne:β≠α)(hv:(av= .nilSlice∧rows=[])∨(av= .slice α 0 rows.length 7∧α<hA.length∧(0<rows.length→aa hA α=some ⟨true,rows.flatten,none⟩)))(hr:∀ r∈rows,ActC r):gg hA av α ⟨true,rows.flatten,none⟩ rows:=by
 rcases hv with⟨rfl,rfl⟩|⟨rfl,h1,h2⟩
 ·exact .inl ⟨rfl,rfl⟩
 ·exact .inr ⟨rfl,h1,h2,rfl,hr⟩
theorem Nj (seed:List af)(hAs:∀ b B,aa hA b=some B→ac hA.length B.cs):ao Tryz.prog 3 [.nilSlice,.str seed,av] hA (.bool true) hA:=by
 have hs0:Sane ([]:List (Option Blk)):=fun b B e=>by simp[aa] at e
 obtain⟨v,G',K',H',hd,hG,hP⟩:=yY (sV hs0) (fun _=>rfl) (fun _=>⟨rfl,rfl⟩) seed (bs:=[]) (ro:=true) (.inl ⟨rfl,rfl⟩)
 rcases hP with⟨e,he,rfl⟩|⟨l,xs,-,-,h2,-⟩
 rotate_left
 ·simp at h2
 have hlow:ac ([]:List (Option Blk)).length [V.nilSlice,.str seed]:=by simp[ac,V.low]
 exact tp (sg0:=[]) (sW he hd hlow hs0) (qB he hd hlow hs0) hs0 ⟨rfl,by simp,fun b hb=>(by cases hb),fun b B e=>by simp[aa] at e⟩ rfl hlow (fun b B _ hb=>by cases hb) hAs
theorem JR (seed:List af)(hβ:β<hA.length)(hn:aa hA β=none)(hAs:∀ b B,aa hA b=some B→ac hA.length B.cs):ao Tryz.prog 3 [.slice β 0 0 1,.str seed,av] hA (.bool true) hA:=by
 have h0:∀ b B,aa ([none]:List (Option Blk)) b=some B→False:=fun b B e=>by
  match b with
  |0=>simp[aa] at e
  |b+1=>simp[aa] at e
 have hs0:Sane ([none]:List (Option Blk)):=fun b B e=>(h0 b B e).elim
 obtain⟨v,G',K',H',hd,hG,hP⟩:=JP (sV hs0) seed (bb:=0) (by simp)
 rcases hP with⟨e,he,rfl⟩|⟨l,xs,-,-,h2,-⟩
 rotate_left
 ·simp at h2
 have hlow:ac ([none]:List (Option Blk)).length [V.slice 0 0 0 1,.str seed]:=by simp[ac,V.low]
 exact tp (sg0:=[β]) (sW he hd hlow hs0) (qB he hd hlow hs0) hs0 ⟨rfl,by simp,fun b hb=>(by rw[List.mem_singleton.1 hb];exact hβ),fun b B e=>(h0 b B e).elim⟩ rfl hlow (fun b B e hb=>by rw[List.mem_singleton.1 hb,hn] at e;cases e) hAs
theorem rk:∀ zs:List Int,(∀ σ,rens σ (zs.map V.i64)=zs.map V.i64)∧∀ n,ac n (zs.map V.i64)
 |[]=>⟨fun _=>rfl,fun _=>trivial⟩
 |z::zs=>⟨fun σ=>by simp only[List.map_cons,rens,V.ren,(rk zs).1 σ],fun n=>by simp only[List.map_cons,ac,V.low,true_and];exact(rk zs).2 n⟩
theorem JS (seed:List af){zs:List Int}(hg:aa hA β=some ⟨true,zs.map V.i64,none⟩)(hav:gg hA av α ⟨true,rows.flatten,none⟩ rows)(hrl:rows.length≤2600000000000)(hrow:∀ r∈rows,ActC r)(hne:β≠α)(hno:rows=[]→aa hA α=none)(hAs:∀ b B,aa hA b=some B→ac hA.length B.cs):
  ao Tryz.prog 3 [.slice β 0 zs.length 1,.str seed,av] hA (.bool true) hA:=by
 have hpz:=rk zs
 have h0:∀ b B,aa [some (⟨true,zs.map V.i64,none⟩:Blk)] b=some B→b=0∧B=⟨true,zs.map V.i64,none⟩:=fun b B e=>by
  match b with
  |0=>exact⟨rfl,by simpa [aa] using e.symm⟩
  |b+1=>simp[aa] at e
 have hs0:Sane [some (⟨true,zs.map V.i64,none⟩:Blk)]:=fun b B e=>by
  obtain⟨-,rfl⟩:=h0 b B e
  exact⟨hpz.2 _,rfl⟩
 obtain⟨v,G',K',H',hd,hG,hP⟩:=yY (sV hs0) (fun _=>rfl) (fun _=>⟨rfl,rfl⟩) seed (bs:=zs) (ro:=true) (.inr ⟨0,rfl,rfl⟩)
 rcases hP with⟨e,he,rfl⟩|⟨l,xs,rfl,hxn,h2,h3,hI⟩
 ·have hlow:ac [some (⟨true,zs.map V.i64,none⟩:Blk)].length [V.slice 0 0 zs.length 1,.str seed]:=by simp[ac,V.low]
  exact tp (sg0:=[β]) (sW he hd hlow hs0) (qB he hd hlow hs0) hs0 ⟨rfl,by simp,fun b hb=>(by rw[List.mem_singleton.1 hb];exact aj hg),fun b B e=>by
   obtain⟨rfl,rfl⟩:=h0 b B e
   exact⟨by show aa hA β=some ⟨true,rens _ _,none⟩;rw[hpz.1];exact hg,hpz.2 _⟩⟩ rfl hlow (fun b B e hb=>⟨0,_,List.mem_singleton.1 hb,rfl⟩) hAs
 ·exact Ni hd hI hxn (by omega) (by omega) hpz.1 hpz.2 hs0 hg hav hrl hrow hne hno hAs
theorem ze:∀ {rows:List (List V)},(∀ r∈rows,Kinds [.i64,.i64,.i64,.i64,.u32,.u32,.str] r)→∀ r∈rows,ActC r:=fun h r hr=>by
 obtain⟨_,_,rfl,⟨k,rfl,-⟩,_,_,rfl,⟨a,rfl,-⟩,_,_,rfl,⟨b,rfl,-⟩,_,_,rfl,⟨c,rfl,-⟩,_,_,rfl,⟨s,rfl⟩,_,_,rfl,⟨d,rfl⟩,_,_,rfl,⟨x,rfl,hx⟩,rfl⟩:=h r hr
 exact⟨k,a,b,c,s,d,x,rfl,by omega⟩
end
end
end Go.Vm
end
