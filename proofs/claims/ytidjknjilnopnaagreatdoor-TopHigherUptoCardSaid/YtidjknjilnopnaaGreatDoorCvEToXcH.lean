/- Proved: laws of a machine of values; no conditions but each theorem's own. -/
import Derived.Test.YtidjknjilnopnaaGreatDoorVmI1ToCvF
set_option linter.unusedVariables false
set_option linter.unusedSimpArgs false
set_option maxRecDepth 20000
set_option maxHeartbeats 8000000
section
namespace Go.Cv
def D:F:=20800338683988658368647408995589388737092878452977063003340006470870624536394
theorem Wy:D*121666=121665:=by decide+kernel
theorem yb:(2:F)≠0:=by decide+kernel
theorem PQ:D≠0:=by decide+kernel
theorem OV:D^((Q-1)/2)≠1:=by
 intro h;have h1:=congrArg Fin.val h;rw[Cm] at h1;have h2:=El (m:=Q) (k:=256) (b:=D.val) (e:=(Q-1)/2) (r:=Q-1) (by decide+kernel) (by decide+kernel);rw[h2] at h1;exact absurd h1 (by decide+kernel)
theorem FQ (a:F)(m:Nat):∀ n:Nat,a^(m*n)=(a^m)^n
 |0=>by simp
 |n+1=>by
  rw[Nat.mul_succ,show(a^m)^(n+1)=(a^m)^n*a^m by grobner,<-FQ a m n];generalize m*n=k;grobner
theorem VG (s:F):s*s≠D:=fun h=>by
 by_cases h0:s=0
 ·subst h0;exact PQ (by rw[<-h];grobner)
 ·refine OV ?_;rw[<-h,show s*s=s^2 by grobner,<-FQ,show 2*((Q-1)/2)=Q-1 from by decide+kernel];exact Ia h0
theorem FJ {u v:F}(a:v≠0)(h:u*u=D*(v*v)):False:=by
 refine VG (u*cI v) ?_;have :=kR a;generalize cI v=w at*;grobner
theorem E1 {c d x2 f:F}(h1:c^2+d^2=1+D*c^2*d^2)(h2:x2^2+f^2=1+D*x2^2*f^2){e:F}(i:D*c*x2*d*f=e)(l:e*e=1):False:=by
 have g:e≠0:=fun h=>by subst h;exact absurd l (by decide+kernel)
 have a:c≠0:=fun h=>g (by rw[<-i,h];grobner)
 have b:d≠0:=fun h=>g (by rw[<-i,h];grobner)
 by_cases j:x2+f=0
 ·by_cases k:x2-f=0
  ·have :(2:F)*x2=0:=by grobner
   rcases iE this with h|h
   ·exact yb h
   ·exact g (by rw[<-i,h];grobner)
  ·exact FJ (u:=c-e*d) (v:=c*d*(x2-f)) (fG (fG a b) k) (by clear j k a b g;grobner)
 ·exact FJ (u:=c+e*d) (v:=c*d*(x2+f)) (fG (fG a b) j) (by clear j a b g;grobner)
structure Ed where
 x:F
 y:F
 on:x^2+y^2=1+D*x^2*y^2
theorem Ed.ext' {p q:Ed}(a:p.x=q.x)(b:p.y=q.y):p=q:=by
 cases p;cases q;simp only at a b;subst a b;rfl
def dp (p q:Ed):F:=1+D*p.x*q.x*p.y*q.y
def dm (p q:Ed):F:=1-D*p.x*q.x*p.y*q.y
theorem sv (p q:Ed):dp p q≠0:=fun h=>E1 p.on q.on rfl (by unfold dp at h;generalize D*p.x*q.x*p.y*q.y=t at*;grobner)
theorem nG (p q:Ed):dm p q≠0:=fun h=>E1 p.on q.on rfl (by unfold dm at h;generalize D*p.x*q.x*p.y*q.y=t at*;grobner)
def nx (p q:Ed):F:=p.x*q.y+p.y*q.x
def ny (p q:Ed):F:=p.y*q.y-p.x*q.x
theorem Yf (a b x2 c D:F)(h1:a^2+b^2=1+D*a^2*b^2)(h2:x2^2+c^2=1+D*x2^2*c^2):
 (a*c+b*x2)^2*(1-D*a*x2*b*c)^2+(b*c-a*x2)^2*(1+D*a*x2*b*c)^2=(1+D*a*x2*b*c)^2*(1-D*a*x2*b*c)^2+D*(a*c+b*x2)^2*(b*c-a*x2)^2:=by grobner
theorem acP (p q:Ed):(nx p q*cI (dp p q))^2+(ny p q*cI (dm p q))^2=1+D*(nx p q*cI (dp p q))^2*(ny p q*cI (dm p q))^2:=by
 have h:=Yf p.x p.y q.x q.y D p.on q.on;have i1:=kR (sv p q);have i2:=kR (nG p q);change (nx p q)^2*(dm p q)^2+(ny p q)^2*(dp p q)^2=(dp p q)^2*(dm p q)^2+D*(nx p q)^2*(ny p q)^2 at h;generalize cI (dp p q)=u at*;generalize cI (dm p q)=v at*;generalize dp p q=a at*;generalize dm p q=b at*;generalize nx p q=m at*;generalize ny p q=n at*;have c:(a*u)^2=1:=by rw[i1];grobner
 have d:(b*v)^2=1:=by rw[i2];grobner
 have e:(m^2*b^2+n^2*a^2)*(u^2*v^2)=(a^2*b^2+D*m^2*n^2)*(u^2*v^2):=by rw[h]
 grobner
def Ed.add (p q:Ed):Ed:=⟨nx p q*cI (dp p q),ny p q*cI (dm p q),acP p q⟩
theorem xt (p q:Ed):(p.add q).x*dp p q=nx p q:=by
 show nx p q*cI (dp p q)*dp p q=nx p q;have :=kR (sv p q);generalize cI (dp p q)=u at*;grobner
theorem ph (p q:Ed):(p.add q).y*dm p q=ny p q:=by
 show ny p q*cI (dm p q)*dm p q=ny p q;have :=kR (nG p q);generalize cI (dm p q)=u at*;grobner
theorem Mb (p q:Ed):p.add q=q.add p:=by
 have a:dp p q=dp q p:=by unfold dp;grobner
 have b:dm p q=dm q p:=by unfold dm;grobner
 have c:nx p q=nx q p:=by unfold nx;grobner
 have d:ny p q=ny q p:=by unfold ny;grobner
 refine Ed.ext' ?_ ?_
 ·show nx p q*cI (dp p q)=nx q p*cI (dp q p);rw[a,c]
 ·show ny p q*cI (dm p q)=ny q p*cI (dm q p);rw[b,d]
theorem Pg (b c x2 a x3 d D:F)(h1:b^2+c^2=1+D*b^2*c^2)(h2:x2^2+a^2=1+D*x2^2*a^2)(e:x3^2+d^2=1+D*x3^2*d^2):
 ((b*a+c*x2)*(1-D*b*x2*c*a)*d+(c*a-b*x2)*(1+D*b*x2*c*a)*x3)*((1+D*x2*x3*a*d)*(1-D*x2*x3*a*d)+D*(x2*d+a*x3)*(a*d-x2*x3)*b*c)
 =(b*(a*d-x2*x3)*(1+D*x2*x3*a*d)+c*(x2*d+a*x3)*(1-D*x2*x3*a*d))*((1+D*b*x2*c*a)*(1-D*b*x2*c*a)+D*(b*a+c*x2)*(c*a-b*x2)*x3*d):=by grobner
theorem U2 (b c x2 a x3 d D:F)(h1:b^2+c^2=1+D*b^2*c^2)(h2:x2^2+a^2=1+D*x2^2*a^2)(e:x3^2+d^2=1+D*x3^2*d^2):
 ((c*a-b*x2)*(1+D*b*x2*c*a)*d-(b*a+c*x2)*(1-D*b*x2*c*a)*x3)*((1+D*x2*x3*a*d)*(1-D*x2*x3*a*d)-D*(x2*d+a*x3)*(a*d-x2*x3)*b*c)
 =(c*(a*d-x2*x3)*(1+D*x2*x3*a*d)-b*(x2*d+a*x3)*(1-D*x2*x3*a*d))*((1+D*b*x2*c*a)*(1-D*b*x2*c*a)-D*(b*a+c*x2)*(c*a-b*x2)*x3*d):=by grobner
theorem ER {X A m n X' A' g n' a b a' h c:F}(k:a≠0)(d:a'≠0)(l:A≠0)(e:A'≠0)(h1:X*A=m)(h2:X'*A'=g)(o:m*a=n)(p:A*a=b)(q:g*a'=n')(r:A'*a'=h)(s:n*h=n'*b)(_hc:c=0):X=X':=by
 have h0:=fG (fG k d) (fG l e);refine Al h0 ?_;subst h1 h2 o p q r;grobner
theorem Hp (p q r:Ed):(p.add q).add r=p.add (q.add r):=by
 have f:=xt p q;have g:=ph p q;have h:=xt q r;have i:=ph q r;have b:=sv p q;have n2:=nG p q;have d:=sv q r;have e:=nG q r;have j:=xt (p.add q) r;have a2:=ph (p.add q) r;have k:=xt p (q.add r);have l:=ph p (q.add r);have m1:=sv (p.add q) r;have m:=nG (p.add q) r;have n:=sv p (q.add r);have o:=nG p (q.add r);have s:=Pg p.x p.y q.x q.y r.x r.y D p.on q.on r.on;have t:=U2 p.x p.y q.x q.y r.x r.y D p.on q.on r.on;change (nx p q*dm p q*r.y+ny p q*dp p q*r.x)*(dp q r*dm q r+D*nx q r*ny q r*p.x*p.y)=(p.x*ny q r*dp q r+p.y*nx q r*dm q r)*(dp p q*dm p q+D*nx p q*ny p q*r.x*r.y) at s;change (ny p q*dp p q*r.y-nx p q*dm p q*r.x)*(dp q r*dm q r-D*nx q r*ny q r*p.x*p.y)=(p.y*ny q r*dp q r-p.x*nx q r*dm q r)*(dp p q*dm p q-D*nx p q*ny p q*r.x*r.y) at t;rw[<-f,<-g,<-h,<-i] at s t;refine Ed.ext' ?_ ?_
 ·refine ER (a:=dp p q*dm p q) (a':=dp q r*dm q r) (fG b n2) (fG d e) m1 n j k rfl rfl rfl rfl ?_ (c:=0) rfl;unfold nx at*;rw[show dp (p.add q) r=1+D*(p.add q).x*r.x*(p.add q).y*r.y from rfl,show dp p (q.add r)=1+D*p.x*(q.add r).x*p.y*(q.add r).y from rfl];generalize dp p q=d1 at*;generalize dm p q=d2 at*;generalize dp q r=d3 at*;generalize dm q r=d4 at*;generalize (p.add q).x=X at*;generalize (p.add q).y=Y at*;generalize (q.add r).x=X2 at*;generalize (q.add r).y=Y2 at*;clear f g h i b n2 d e j a2 k l m1 m n o t;grobner
 ·refine ER (a:=dp p q*dm p q) (a':=dp q r*dm q r) (fG b n2) (fG d e) m o a2 l rfl rfl rfl rfl ?_ (c:=0) rfl;unfold ny at*;rw[show dm (p.add q) r=1-D*(p.add q).x*r.x*(p.add q).y*r.y from rfl,show dm p (q.add r)=1-D*p.x*(q.add r).x*p.y*(q.add r).y from rfl];generalize dp p q=d1 at*;generalize dm p q=d2 at*;generalize dp q r=d3 at*;generalize dm q r=d4 at*;generalize (p.add q).x=X at*;generalize (p.add q).y=Y at*;generalize (q.add r).x=X2 at*;generalize (q.add r).y=Y2 at*;clear f g h i b n2 d e j a2 k l m1 m n o s;grobner
def Ed.zero:Ed:=⟨0,1,by decide+kernel⟩
theorem HI:cI (1:F)=1:=by
 have :=kR (a:=(1:F)) (by decide+kernel);grobner
theorem sf (p:Ed):Ed.zero.add p=p:=by
 have a:dp Ed.zero p=1:=by show 1+D*0*p.x*1*p.y=1;grobner
 have b:dm Ed.zero p=1:=by show 1-D*0*p.x*1*p.y=1;grobner
 refine Ed.ext' ?_ ?_
 ·show nx Ed.zero p*cI (dp Ed.zero p)=p.x;rw[a,HI];show(0*p.y+1*p.x)*1=p.x;grobner
 ·show ny Ed.zero p*cI (dm Ed.zero p)=p.y;rw[b,HI];show(1*p.y-0*p.x)*1=p.y;grobner
def cb:Nat->Ed->Ed
 |0,_=>Ed.zero
 |n+1,p=>(cb n p).add p
theorem qL (p:Ed)(m:Nat):∀ n,cb (m+n) p=(cb m p).add (cb n p)
 |0=>by show cb m p=(cb m p).add Ed.zero;rw[Mb,sf]
 |n+1=>by
  show(cb (m+n) p).add p=(cb m p).add ((cb n p).add p);rw[qL p m n,Hp]
theorem C8 (p:Ed)(m:Nat):∀ n,cb (m*n) p=cb n (cb m p)
 |0=>rfl
 |n+1=>by
  rw[Nat.mul_succ,qL,C8 p m n];rfl
def base:Ed:=⟨9771384041963202563870679428059935816164187996444183106833894008023910952347,46316835694926478169428394003475163141307993866256225615783033603165251855960,by decide+kernel⟩
end Go.Cv
end
section
namespace Go.Cv
def Ed.neg (p:Ed):Ed:=⟨0-p.x,p.y,by have :=p.on;grobner⟩
theorem Zf (p:Ed):p.neg.add p=Ed.zero:=by
 have b:=xt p.neg p;have c:=ph p.neg p;have d:nx p.neg p=0:=by show(0-p.x)*p.y+p.y*p.x=0;grobner
 have e:ny p.neg p=dm p.neg p:=by
  show p.y*p.y-(0-p.x)*p.x=1-D*(0-p.x)*p.x*p.y*p.y;have :=p.on;grobner
 rw[d] at b;rw[e] at c;refine Ed.ext' ?_ ?_
 ·rcases iE b with h|h
  ·exact h
  ·exact absurd h (sv _ _)
 ·refine Al (nG p.neg p) ?_;show _=dm p.neg p*1;generalize dm p.neg p=a at*;grobner
def oz (X Z:F)(p:Ed):Prop:=∃ l:F,l≠0/\X=l*(1+p.y)/\Z=l*(1-p.y)
def qn (X Z:F):F×F:=((X+Z)*(X+Z)*((X-Z)*(X-Z)),((X+Z)*(X+Z)-(X-Z)*(X-Z))*((X+Z)*(X+Z)+121665*((X+Z)*(X+Z)-(X-Z)*(X-Z))))
def n7 (X Z X' Z' u:F):F×F:=(((X-Z)*(X'+Z')+(X+Z)*(X'-Z'))*((X-Z)*(X'+Z')+(X+Z)*(X'-Z')),u*(((X-Z)*(X'+Z')-(X+Z)*(X'-Z'))*((X-Z)*(X'+Z')-(X+Z)*(X'-Z'))))
theorem adf:(8:F)≠0:=by decide+kernel
theorem Tp:(121666:F)≠0:=by decide+kernel
theorem ZY {x y:F}(h:x^2+y^2=1+D*x^2*y^2):(121666-121665*y^2)*(1-x^2)=y^2:=by
 have :=Wy;generalize D=d at*;grobner
theorem Km {X Z:F}{p:Ed}(h:oz X Z p):oz (qn X Z).1 (qn X Z).2 (p.add p):=by
 obtain⟨l,j,rfl,rfl⟩:=h;have d:=ph p p;have g:=nG p p;have on:=p.on;have hw:=ZY on;have a:121666-121665*p.y^2≠0:=fun e=>by
  rw[e] at hw;have h0:p.y^2=0:=by grobner
  rw[h0] at e;exact Tp (by grobner)
 have b:dm p p=2-p.x^2-p.y^2:=by
  show 1-D*p.x*p.x*p.y*p.y=_;grobner
 have f:ny p p=p.y^2-p.x^2:=by show p.y*p.y-p.x*p.x=_;grobner
 refine⟨8*(l*l)*(l*l)*(121666-121665*p.y^2)*dm p p,fG (fG (fG (fG adf (fG j j)) (fG j j)) a) g,?_,?_⟩
 ·unfold qn;simp only;rw[b,f] at d;rw[b];generalize (p.add p).y=s at*;generalize p.y=y at*;generalize p.x=x at*;have c:(2-x^2-y^2)*(1+s)=2-2*x^2:=by grobner
  have i:8*(l*l)*(l*l)*(121666-121665*y^2)*(2-x^2-y^2)*(1+s)=8*(l*l)*(l*l)*(121666-121665*y^2)*(2-2*x^2):=by rw[<-c];clear c d on hw a g b f;grobner
  rw[i];clear c i d on a g b f;grobner
 ·unfold qn;simp only;rw[b,f] at d;rw[b];generalize (p.add p).y=s at*;generalize p.y=y at*;generalize p.x=x at*;have c:(2-x^2-y^2)*(1-s)=2-2*y^2:=by grobner
  have i:8*(l*l)*(l*l)*(121666-121665*y^2)*(2-x^2-y^2)*(1-s)=8*(l*l)*(l*l)*(121666-121665*y^2)*(2-2*y^2):=by rw[<-c];clear c d on hw a g b f;grobner
  rw[i];clear c i d on a g b f hw;grobner
theorem ag2 (x2 a x3 b D:F)(h1:x2^2+a^2=1+D*x2^2*a^2)(h2:x3^2+b^2=1+D*x3^2*b^2):
 (a+b)^2*((1+D*x2*x3*a*b)-(a*b+x2*x3))*((1-D*x2*x3*a*b)-(a*b-x2*x3))=((1+D*x2*x3*a*b)+(a*b+x2*x3))*(b-a)^2*((1-D*x2*x3*a*b)+(a*b-x2*x3)):=by grobner
def half:F:=28948022309329048855892746252171976963317496166410141009864396001978282409975
theorem F3:half*2=1:=by decide+kernel
theorem IQ:half≠0:=by decide+kernel
theorem acR {a:F}(h:a*a=1):(a-1)*(a+1)=0:=by grobner
theorem s7 {a b:F}(h:a-b=0):a=b:=by grobner
theorem Bq {a:F}(h:a+1=0):a=0-1:=by grobner
theorem IS {a:F}(h:a^2=0):a=0:=by
 have h:a*a=0:=by grobner
 rcases iE h with h|h<;>exact h
theorem WO {u x2 b x3 e f g a c d:F}(p:a=1+d)(hc:c=1-d)(q:d=D*x2*x3*b*e)(i:x2^2+b^2=1+D*x2^2*b^2)(j:x3^2+e^2=1+D*x3^2*e^2)(k:f*a=b*e+x2*x3)(l:a≠0)(m:g*c=b*e-x2*x3)(n:c≠0)(hu:u*(1-f)=1+f)(o:1-f≠0):
  (b+e)^2*(1-g)=u*(e-b)^2*(1+g):=by
 have h:=ag2 x2 b x3 e D i j;rw[<-q,<-p,<-hc,<-k,<-m] at h;refine Al (a:=(1-f)*(a*c)) (fG o (fG l n)) ?_;clear i j k m l n o p hc q;have h1:(b+e)^2*(a*(1-f))*(c*(1-g))=a*(1+f)*(e-b)^2*(c*(1+g)):=by
  have :(b+e)^2*(a*(1-f))*(c*(1-g))=(b+e)^2*(a-f*a)*(c-g*c):=by clear h hu;grobner
  rw[this,h];clear h hu this;grobner
 have h2:(1-f)*(a*c)*((b+e)^2*(1-g))=(b+e)^2*(a*(1-f))*(c*(1-g)):=by clear h hu h1;grobner
 rw[h2,h1,<-hu];clear h hu h1 h2;grobner
theorem RB {u x2 e x3 d f:F}(a:x2^2+e^2=1+D*x2^2*e^2)(b:x3^2+d^2=1+D*x3^2*d^2)(c:f*(1+D*x2*x3*e*d)=e*d+x2*x3)(g:f*f≠1)(i:u≠0)(h1:e+d=0)(h2:u*(d-e)^2=0):False:=by
 have k:d-e=0:=by
  rcases iE h2 with h|h
  ·exact absurd h i
  ·exact IS h
 have j:(2:F)*d=0:=by clear a b c h2;grobner
 have j:d=0:=by
  rcases iE j with h|h
  ·exact absurd h yb
  ·exact h
 subst j;have m:e=0:=by clear a b c h2 k;grobner
 subst m;refine g ?_;clear h1 h2 k;have n:x2*x2=1:=by clear b c;grobner
 have o:x3*x3=1:=by clear a c;grobner
 have l:f=x2*x3:=by clear a b n o;grobner
 rw[l];clear a b c l;grobner
theorem ab2 {l m u a b c:F}(key:(a+b)^2*(1-c)=u*(b-a)^2*(1+c)):
  (n7 (l*(1+a)) (l*(1-a)) (m*(1+b)) (m*(1-b)) u).1=half*(16*(l*m)*(l*m)*((a+b)^2+u*(b-a)^2))*(1+c)/\
  (n7 (l*(1+a)) (l*(1-a)) (m*(1+b)) (m*(1-b)) u).2=half*(16*(l*m)*(l*m)*((a+b)^2+u*(b-a)^2))*(1-c):=by
 have d:=F3;generalize half=w at*;constructor
 ·have h1:(a+b)^2*2=((a+b)^2+u*(b-a)^2)*(1+c):=by grobner
  have h2:w*(16*(l*m)*(l*m)*((a+b)^2+u*(b-a)^2))*(1+c)=16*(l*m)*(l*m)*(a+b)^2*(w*2):=by
   have :w*(16*(l*m)*(l*m)*((a+b)^2+u*(b-a)^2))*(1+c)=w*(16*(l*m)*(l*m))*(((a+b)^2+u*(b-a)^2)*(1+c)):=by clear h1 key d;grobner
   rw[this,<-h1];clear h1 key d this;grobner
  rw[h2,d];clear h1 h2 d key;unfold n7;simp only;grobner
 ·have h1:u*(b-a)^2*2=((a+b)^2+u*(b-a)^2)*(1-c):=by grobner
  have h2:w*(16*(l*m)*(l*m)*((a+b)^2+u*(b-a)^2))*(1-c)=16*(l*m)*(l*m)*(u*(b-a)^2)*(w*2):=by
   have :w*(16*(l*m)*(l*m)*((a+b)^2+u*(b-a)^2))*(1-c)=w*(16*(l*m)*(l*m))*(((a+b)^2+u*(b-a)^2)*(1-c)):=by clear h1 key d;grobner
   rw[this,<-h1];clear h1 key d this;grobner
  rw[h2,d];clear h1 h2 d key;unfold n7;simp only;grobner
theorem QL {a b c d e:F}(k:a*(1-e)=b*(1+e))(h:a+b=0)(h2:c*2=d):2*a=0:=by
 clear h2;grobner
theorem XX {X Z X' Z' u:F}{p q b:Ed}(h:oz X Z p)(h':oz X' Z' q)(E:q=p.add b)(hu:u*(1-b.y)=1+b.y)(v:b.y≠1)(g:u≠0):oz (n7 X Z X' Z' u).1 (n7 X Z X' Z' u).2 (p.add q):=by
 obtain⟨l,w,rfl,rfl⟩:=h;obtain⟨m,A,rfl,rfl⟩:=h';have G:b=p.neg.add q:=by rw[E,<-Hp,Zf,sf]
 have a:=ph p.neg q;rw[<-G] at a;have i:=nG p.neg q;have k:1-D*p.x*q.x*p.y*q.y≠0:=nG p q;have f:(p.add q).y*(1-D*p.x*q.x*p.y*q.y)=p.y*q.y-p.x*q.x:=ph p q;have j:dm p.neg q=1+D*p.x*q.x*p.y*q.y:=by show 1-D*(0-p.x)*q.x*p.y*q.y=_;grobner
 have n:ny p.neg q=p.y*q.y+p.x*q.x:=by show p.y*q.y-(0-p.x)*q.x=_;grobner
 rw[j,n] at a;rw[j] at i;have o:1-b.y≠0:=fun e=>v (s7 e).symm
 have r:b.y≠0-1:=fun e=>by
  rw[e] at hu;have :u*2=0:=by clear a f;grobner
  rcases iE this with h|h
  ·exact g h
  ·exact yb h
 have s:b.y*b.y≠1:=fun e=>by
  rcases iE (acR e) with h|h
  ·exact v (s7 h)
  ·exact r (Bq h)
 have key:=WO rfl rfl rfl p.on q.on a i f k hu o;obtain⟨f1,f2⟩:=ab2 (l:=l) (m:=m) key;refine⟨_,fun e=>?_,f1,f2⟩;have B:(p.y+q.y)^2+u*(q.y-p.y)^2=0:=by
  rcases iE e with h|h
  ·exact absurd h IQ
  ·have t:(16:F)*(l*m)*(l*m)≠0:=fG (fG (by decide+kernel) (fG w A)) (fG w A);rcases iE h with h|h
   ·exact absurd h t
   ·exact h
 have H:=QL (c:=0) (d:=0*2) key B rfl;have C:p.y+q.y=0:=by
  rcases iE H with h|h
  ·exact absurd h yb
  ·exact IS h
 refine RB p.on q.on a s g C ?_;rw[C] at B;generalize u*(q.y-p.y)^2=z at*;clear a f key f1 f2 hu;grobner
def gj (u:F):List Bool->(F×F)×(F×F)
 |[]=>((1,0),(u,1))
 |b::l=>match b with
  |false=>(qn (gj u l).1.1 (gj u l).1.2,n7 (gj u l).1.1 (gj u l).1.2 (gj u l).2.1 (gj u l).2.2 u)
  |true=>(n7 (gj u l).1.1 (gj u l).1.2 (gj u l).2.1 (gj u l).2.2 u,qn (gj u l).2.1 (gj u l).2.2)
def eZ:List Bool->Nat
 |[]=>0
 |b::l=>2*eZ l+b.toNat
theorem Dt {u:F}{b:Ed}(hu:u*(1-b.y)=1+b.y)(f:b.y≠1)(d:u≠0):∀ l,oz (gj u l).1.1 (gj u l).1.2 (cb (eZ l) b)/\oz (gj u l).2.1 (gj u l).2.2 (cb (eZ l+1) b)
 |[]=>by
  have a:1-b.y≠0:=fun e=>f (by grobner)
  refine⟨⟨half,IQ,?_,?_⟩,⟨cI (1-b.y),fun e=>?_,?_,?_⟩⟩
  ·show(1:F)=half*(1+1);have :=F3;grobner
  ·show(0:F)=half*(1-1);grobner
  ·have :=kR a;rw[e] at this;exact absurd this (by rw[show(1-b.y)*0=0 by grobner];decide+kernel)
  ·have e:cb (eZ []+1) b=b:=by show Ed.zero.add b=b;exact sf b
   rw[e];show u=_;have :=kR a;generalize cI (1-b.y)=w at*;grobner
  ·have e:cb (eZ []+1) b=b:=by show Ed.zero.add b=b;exact sf b
   rw[e];show(1:F)=_;have :=kR a;generalize cI (1-b.y)=w at*;grobner
 |c::l=>by
  obtain⟨h1,h2⟩:=Dt hu f d l;have g:=XX h1 h2 rfl hu f d;have i:(cb (eZ l) b).add (cb (eZ l+1) b)=cb (2*eZ l+1) b:=by rw[<-qL];congr 1;omega
  rw[i] at g
  match c with
  |false=>
   have h:cb (eZ (false::l)) b=(cb (eZ l) b).add (cb (eZ l) b):=by rw[<-qL];show cb (2*eZ l+0) b=_;congr 1;omega
   refine⟨?_,?_⟩
   ·rw[h];exact Km h1
   ·exact g
  |true=>
   have h:cb (eZ (true::l)+1) b=(cb (eZ l+1) b).add (cb (eZ l+1) b):=by rw[<-qL];show cb (2*eZ l+1+1) b=_;congr 1;omega
   refine⟨?_,?_⟩
   ·exact g
   ·rw[h];exact Km h2
def jT (p:Ed):F:=(1+p.y)*cI (1-p.y)
theorem aep:cI 0=0:=by
 unfold cI;have :(0:F)^(Q-2)=0:=by
  rw[show Q-2=(Q-3)+1 from rfl];generalize Q-3=n;grobner
 exact this
theorem XF {X Z:F}{p:Ed}(h:oz X Z p):X*cI Z=jT p:=by
 obtain⟨l,b,rfl,rfl⟩:=h;unfold jT;by_cases h0:1-p.y=0
 ·rw[h0,show l*(0:F)=0 by grobner,aep];grobner
 ·have i1:=kR h0;have i2:=kR (fG b h0);generalize 1-p.y=a at*;generalize cI a=v at*;generalize cI (l*a)=w at*;generalize 1+p.y=c at*;have :l*w=v:=by
   refine Al h0 ?_;grobner
  rw[<-this];clear this i1 i2;grobner
end Go.Cv
end
section
namespace Go.Vm
open Go.Proofs Go.Cv
theorem Ol (Q U:List (BitVec 8))(c:U.length=32):aV (aT (bE (if(bz (eJ U) Q 255).sw=1#8 then(bz (eJ U) Q 255).x3 else(bz (eJ U) Q 255).x2) (cv (if(bz (eJ U) Q 255).sw=1#8 then(bz (eJ U) Q 255).z3 else(bz (eJ U) Q 255).z2) (lz 18446744073709551615#64) (64*4)))%Pq) 32=
  zK (dY (gg (gG U 16) (gm Q 255) 255).1.1 (yH (gg (gG U 16) (gm Q 255) 255).1.2)):=by
 have d:=ahf (eJ U) (gG U 16) Q (QE U c) 255 255 (aH _);have hw:64*4=64*(lz 18446744073709551615#64).length:=rfl;generalize bz (eJ U) Q 255=L at*;generalize gg (gG U 16) (gm Q 255) 255=f at*;rcases d with⟨h1,h2,e⟩|⟨h1,h2,e⟩
 ·have b:¬ L.sw=1#8:=by rw[h1];decide
  rw[if_neg b,if_neg b];have a:=GQ h2.2 IE;rw[<-hw] at a;exact JM (kY h2.1 a)
 ·rw[if_pos h1,if_pos h1];have a:=GQ h2.2 IE;rw[<-hw] at a;exact JM (kY h2.1 a)
theorem ac6 (z:Int):(z%57896044618658097711785492504343953926634992332820282019728792003956564819949).toNat<57896044618658097711785492504343953926634992332820282019728792003956564819949:=aa
def gL (z:Int):F:=⟨(z%cH).toNat,ac6 z⟩
theorem oL (z:Int):((gL z).val:Int)=z%cH:=by
 show(((z%cH).toNat:Nat):Int)=_;have :=Int.emod_nonneg z (show cH≠0 by decide);omega
theorem wU {z w:Int}(h:z%cH=w%cH):gL z=gL w:=by
 apply Fin.ext;have h1:=oL z;have h2:=oL w;rw[h,<-h2] at h1;omega
theorem EE {a b:F}(h:(a.val:Int)=b.val):a=b:=Fin.ext aa
theorem vN (z w:Int):gL (z*w)=gL z*gL w:=by
 apply EE;rw[Fin.val_mul,oL,yy,uO,oL,oL,j5];rfl
theorem Di (z w:Int):gL (z+w)=gL z+gL w:=by
 apply EE;rw[Fin.val_add,oL,yy,sV,oL,oL,sb];rfl
theorem D3:gL 1=1:=by decide+kernel
theorem PK:gL (-1)=0-1:=by decide+kernel
theorem RA:gL 121665=121665:=by decide+kernel
theorem RE:gL 0=0:=by decide+kernel
def fI (m:List Int):F:=gL (aO m)
theorem nF {a b:List Int}(c:bH a)(d:bH b):fI (dY a b)=fI a*fI b:=by
 unfold fI;rw[wU (nu a b c d).2,vN]
theorem zQ {a b:List Int}(c:bH a)(d:bH b):fI (je a b 1)=fI a+fI b:=by
 unfold fI;rw[wU (oe a b 1 c d ah).2,Di,vN,D3];generalize gL (aO a)=x;generalize gL (aO b)=y;grobner
theorem xp {a b:List Int}(c:bH a)(d:bH b):fI (je a b (-1))=fI a-fI b:=by
 unfold fI;rw[wU (oe a b (-1) c d ah).2,Di,vN,PK];generalize gL (aO a)=x;generalize gL (aO b)=y;grobner
theorem O5 {a b:List Int}(c:bH a)(d:bH b):fI (je a b 121665)=fI a+121665*fI b:=by
 unfold fI;rw[wU (oe a b 121665 c d ah).2,Di,vN,RA]
theorem Gm {p:Pt}(h:dX p):(fI (oO p).1,fI (oO p).2)=qn (fI p.1) (fI p.2):=by
 unfold oO qn;dsimp only;rw[nF (tF h) (As h),nF (xW h) (Lq h)];unfold dF;rw[O5 (tF h) (xW h)];unfold dE;rw[xp (tF h) (As h)];unfold dA dB;rw[nF (pG h) (pG h),nF (pM h) (pM h)];unfold pS pD;rw[zQ h.1 h.2,xp h.1 h.2]
theorem Kk {p q:Pt}{x:List Int}(a:dX p)(b:dX q)(c:bH x):(fI (np p q x).1,fI (np p q x).2)=n7 (fI p.1) (fI p.2) (fI q.1) (fI q.2) (fI x):=by
 unfold np n7;dsimp only;rw[nF (Ad a b) (Ad a b),nF c (KU a b)];unfold rm;rw[nF (y9 a b) (y9 a b)];unfold aC aD;rw[zQ (yi a b) (zl a b),xp (yi a b) (zl a b)];unfold uC uI;rw[nF (pM a) (pG b),nF (pG a) (pM b)];unfold pS pD;rw[zQ a.1 a.2,xp a.1 a.2,zQ b.1 b.2,xp b.1 b.2]
def mh (bits:List (BitVec 8)):Nat->List Bool
 |0=>[]
 |c+1=>(if bits.getD c 0=48#8 then false else true)::mh bits c
theorem XY:fI nC=1:=by
 unfold fI;rw[show aO nC=1 from rfl,D3]
theorem Mx:fI (List.replicate 16 0)=0:=by
 unfold fI;rw[show aO (List.replicate 16 0)=0 from rfl,RE]
theorem GN (x:List Int)(bits:List (BitVec 8))(a:bH x):∀ c,((fI (gg x bits c).1.1,fI (gg x bits c).1.2),(fI (gg x bits c).2.1,fI (gg x bits c).2.2))=gj (fI x) (mh bits c)
 |0=>by
  show((fI nC,fI (List.replicate 16 0)),(fI x,fI nC))=((1,0),(fI x,1));rw[XY,Mx]
 |c+1=>by
  obtain⟨d,e⟩:=F7 x bits a c;have ih:=GN x bits a c;have f:=congrArg (fun t=>t.1.1) ih;have g:=congrArg (fun t=>t.1.2) ih;have h:=congrArg (fun t=>t.2.1) ih;have i:=congrArg (fun t=>t.2.2) ih;dsimp only at f g h i;unfold gg mh;by_cases b:bits.getD c 0=48#8
  ·rw[if_pos b,if_pos b];unfold gj;dsimp only;rw[Gm d,Kk d e a,f,g,h,i]
  ·rw[if_neg b,if_neg b];unfold gj;dsimp only;rw[Gm e,Kk d e a,f,g,h,i]
theorem Ij (z:Int):∀ n:Nat,gL (z^n)=gL z^n
 |0=>by rw[xQ,D3];grobner
 |n+1=>by
  rw[mV,vN,Ij z n];generalize gL z=a;grobner
theorem afs:qy bitsP bitsP.length=Q-2:=ac
theorem Oy {m:List Int}(a:bH m):fI (yH m)=cI (fI m):=by
 unfold fI yH cI;rw[wU (Kz m bitsP a bitsP.length),Ij,afs]
theorem S4 (m:List Int):zK m=aV (fI m).val 32:=rfl
def enc (a:F):List (BitVec 8):=aV a.val 32
theorem A2 (a:F):(enc a).length=32:=bT _ _
theorem Dj (a:F):le (enc a)=a.val:=by
 have h:=a.isLt;have e:∀ n k:Nat,le (aV n k)=n%256^k:=fun n k=>by
  induction k generalizing n with
  |zero=>show 0=n%1;omega
  |succ k ih=>
   show(BitVec.ofNat 8 n).toNat+256*le (aV (n/256) k)=_;rw[ih,iT,jv (256^k) 256,wq,cx]
 unfold enc;rw[e];exact gn (Nat.lt_trans h ah)
theorem PY (s:List (BitVec 8)):∀ j,(s.getD j 0).toNat=le s/256^j%256:=by
 induction s with
 |nil=>intro j;simp[le]
 |cons b s ih=>
  intro j;have a:=b.isLt;cases j with
  |zero=>show b.toNat=(b.toNat+256*le s)/1%256;omega
  |succ j=>
   show(s.getD j 0).toNat=(b.toNat+256*le s)/256^(j+1)%256;rw[ih j,iT,jv (256^j) 256,<-mi,show(b.toNat+256*le s)/256=le s by omega]
theorem ab0 (a:F):mE (enc a)=enc a:=by
 have h:=PY (enc a) 31;rw[Dj] at h;have c:a.val<57896044618658097711785492504343953926634992332820282019728792003956564819949:=a.isLt;have h2:((enc a).getD 31 0).toNat<128:=by rw[h];omega
 have e:(enc a).getD 31 0&&&127#8=(enc a).getD 31 0:=by
  apply eE;rw[nM,show(127#8).toNat=2^7-1 from rfl,rb];omega
 unfold mE;rw[e];have d:=A2 a;refine qM fun j=>?_
 by_cases b:31=j
 ·subst b;rw[kL aa,aW,aF aa];rfl
 ·rw[mF b]
def mZ (k:List (BitVec 8)):Nat:=eZ (mh (gm (dy k) 255) 255)
theorem Vw (k:List (BitVec 8))(a:F):cm k (enc a)=enc ((gj a (mh (gm (dy k) 255) 255)).1.1*cI (gj a (mh (gm (dy k) 255) 255)).1.2):=by
 unfold cm;rw[ab0,Ol _ _ (A2 a)];obtain⟨d,e⟩:=JJ (enc a) (A2 a);rw[Dj] at e;have f:fI (gG (enc a) 16)=a:=by
  unfold fI;rw[e];apply EE;rw[oL,y8 aa (by have h:a.val<57896044618658097711785492504343953926634992332820282019728792003956564819949:=a.isLt;unfold cH;omega)]
 have hc:=GN (gG (enc a) 16) (gm (dy k) 255) d 255;rw[f] at hc;obtain⟨c,g⟩:=F7 (gG (enc a) 16) (gm (dy k) 255) d 255;have b:=Df _ bitsP c.2 bitsP.length;rw[show k8 (gg (gG (enc a) 16) (gm (dy k) 255) 255).1.2 bitsP bitsP.length=yH (gg (gG (enc a) 16) (gm (dy k) 255) 255).1.2 from rfl] at b;rw[S4,nF c.1 b,Oy c.2,<-hc];rfl
theorem Fc (k:List (BitVec 8)){p:Ed}(h1:p.y≠1)(h2:p.y≠0-1):cm k (enc (jT p))=enc (jT (cb (mZ k) p)):=by
 have f:1-p.y≠0:=fun e=>h1 (s7 e).symm
 have i:=kR f;have hu:jT p*(1-p.y)=1+p.y:=by
  unfold jT;generalize cI (1-p.y)=w at*;generalize p.y=y at*;clear h1 h2 f;grobner
 have h:jT p≠0:=fun e=>by
  rw[e] at hu;exact h2 (Bq (by clear i;grobner))
 rw[Vw,XF (Dt hu h1 h _).1];rfl
end Go.Vm
end
section
namespace Go.Cv
abbrev Lo:Nat:=7237005577332262213973186563042994240857116359379907606001950938285454250989
theorem prmLo:Prm Lo:=Wa
def DI:List Bool:=[true,false,true,true,false,true,true,true,true,true,false,false,true,false,true,true,true,false,true,false,true,true,true,true,false,false,true,true,true,false,true,false,false,true,false,true,true,false,false,false,true,true,false,false,false,true,true,false,false,true,false,false,true,false,false,false,false,false,false,true,true,false,true,false,false,true,true,false,true,false,true,true,false,false,true,true,true,false,false,true,true,true,true,false,true,true,true,true,false,true,false,false,false,true,false,true,false,true,true,true,true,false,true,true,true,false,false,true,true,true,true,true,false,true,true,true,true,false,true,true,false,false,true,false,true,false,false,false,false,false,false,false,false,false,false,false,false,false,false,false,false,false,false,false,false,false,false,false,false,false,false,false,false,false,false,false,false,false,false,false,false,false,false,false,false,false,false,false,false,false,false,false,false,false,false,false,false,false,false,false,false,false,false,false,false,false,false,false,false,false,false,false,false,false,false,false,false,false,false,false,false,false,false,false,false,false,false,false,false,false,false,false,false,false,false,false,false,false,false,false,false,false,false,false,false,false,false,false,false,false,false,false,false,false,false,false,false,false,false,false,false,false,false,false,false,false,false,false,false,false,false,false,true]
theorem agu:eZ DI=Lo:=by decide+kernel
theorem KW:(9:F)*(1-base.y)=1+base.y:=by decide+kernel
theorem zH:base.y≠1:=by decide+kernel
theorem Sg:base.y≠0-1:=by decide+kernel
theorem agF:(9:F)≠0:=by decide+kernel
theorem QN:(gj 9 DI).1.2=0:=by decide+kernel
theorem C3 {p:Ed}(h:p.y=1):p=Ed.zero:=by
 have on:=p.on;rw[h] at on;have a:(1:F)-D≠0:=by decide+kernel
 have e:(1-D)*(p.x*p.x)=0:=by
  generalize p.x=x at*;generalize D=d at*;clear a h;grobner
 refine Ed.ext' ?_ h;rcases iE e with h|h
 ·exact absurd h a
 ·rcases iE h with h|h<;>exact h
theorem afY {X Z:F}{p:Ed}(h:oz X Z p)(a:Z=0):p=Ed.zero:=by
 obtain⟨l,b,-,h2⟩:=h;rw[a] at h2;rcases iE h2.symm with h|h
 ·exact absurd h b
 ·exact C3 (s7 h).symm
theorem Vy:cb Lo base=Ed.zero:=by
 have h:=(Dt KW zH agF DI).1;rw[agu] at h;exact afY h QN
theorem Iu:∀ n,cb n Ed.zero=Ed.zero
 |0=>rfl
 |n+1=>by show(cb n Ed.zero).add Ed.zero=_;rw[Iu n,sf]
theorem W6 {p:Ed}:∀ a b:Nat,cb a p=Ed.zero->cb b p=Ed.zero->cb (Nat.gcd a b) p=Ed.zero:=by
 intro a b;induction a,b using Nat.gcd.induction with
 |H0 n=>intro _ h;simpa using h
 |H1 m n f ih=>
  intro c d;rw[Nat.gcd_rec];refine ih ?_ c;have e:=Nat.div_add_mod n m;rw[<-e,qL,C8,c,Iu,sf] at d;exact d
theorem Gq {n:Nat}(h:cb n base=Ed.zero):Lo∣n:=by
 have a:=W6 n Lo h Vy;rcases prmLo.2 _ (Nat.gcd_dvd_right n Lo) with e|e
 ·rw[e] at a;have h1:base=Ed.zero:=by rw[<-a];exact(sf base).symm
  exact absurd (congrArg Ed.y h1) zH
 ·rw[<-e];exact Nat.gcd_dvd_left n Lo
theorem Lu {n:Nat}(h:¬ Lo∣n):(cb n base).y≠1/\(cb n base).y≠0-1:=by
 refine⟨fun e=>h (Gq (C3 e)),fun e=>?_⟩;have i:((cb n base).add (cb n base)).y=1:=by
  have b:=ph (cb n base) (cb n base);have on:=(cb n base).on;generalize cb n base=p at*;rw[e] at on;have c:(1:F)-D≠0:=by decide+kernel
  have ex:(1-D)*(p.x*p.x)=0:=by
   generalize p.x=x at*;generalize D=d at*;clear c b;grobner
  have f:p.x=0:=by
   rcases iE ex with h|h
   ·exact absurd h c
   ·rcases iE h with h|h<;>exact h
  have j:dm p p=1:=by
   show 1-D*p.x*p.x*p.y*p.y=1;rw[f];generalize p.y=y;generalize D=d;grobner
  have k:ny p p=1:=by
   show p.y*p.y-p.x*p.x=1;rw[f,e];decide+kernel
  rw[j,k] at b;generalize (p.add p).y=y at*;clear on ex;grobner
 have h2:=C3 i;rw[<-qL] at h2;have g:=Gq h2;rw[<-Nat.two_mul] at g;rcases prmLo.dvd_mul g with a|a
 ·exact absurd (Nat.le_of_dvd (by decide) a) (by decide)
 ·exact h a
theorem NK:jT base=9:=by
 have h:=kR (a:=1-base.y) (fun e=>zH (s7 e).symm);unfold jT;rw[<-KW];generalize cI (1-base.y)=w at*;generalize 1-base.y=a at*;grobner
theorem afk {p:Ed}(h1:p.y≠1)(h2:p.y≠0-1):jT p≠0:=by
 have b:=kR (a:=1-p.y) (fun e=>h1 (s7 e).symm);intro e;unfold jT at e;rcases iE e with h|h
 ·exact h2 (Bq (by clear b h1 h2 e;grobner))
 ·rw[h] at b;exact absurd b (by rw[show(1-p.y)*(0:F)=0 by clear b h1 h2 e h;grobner];decide+kernel)
end Go.Cv
end
section
namespace Go.Vm
open Go.Proofs Go.Cv
theorem afZ (x:BitVec 8):((x&&&127#8|||64#8)>>>6)&&&1#8=1#8:=by
 have h:∀ y:Nat,ze (fun y=>Nat.beq (((BitVec.ofNat 8 y&&&127#8|||64#8)>>>6)&&&1#8).toNat 1) 256=true:=fun _=>by decide+kernel
 have :=BN (h 0) x.toNat x.isLt;have e:BitVec.ofNat 8 x.toNat=x:=ae;simp only[e] at this;exact eE (Nat.eq_of_beq_eq_true this)
theorem XE (x:BitVec 8):(x&&&248#8)>>>0&&&1#8=0#8/\(x&&&248#8)>>>1&&&1#8=0#8/\(x&&&248#8)>>>2&&&1#8=0#8:=by
 have h:∀ y:Nat,ze (fun y=>Nat.beq (((BitVec.ofNat 8 y&&&248#8)>>>0&&&1#8).toNat+((BitVec.ofNat 8 y&&&248#8)>>>1&&&1#8).toNat+((BitVec.ofNat 8 y&&&248#8)>>>2&&&1#8).toNat) 0) 256=true:=fun _=>by decide+kernel
 have :=BN (h 0) x.toNat x.isLt;have e:BitVec.ofNat 8 x.toNat=x:=ae;simp only[e] at this;have :=Nat.eq_of_beq_eq_true this;exact⟨eE (by show _=0;omega),eE (by show _=0;omega),eE (by show _=0;omega)⟩
theorem adu {k:List (BitVec 8)}(a:k.length=32):(dy k).getD 31 0=(k.getD 31 0&&&127#8)|||64#8:=by
 unfold dy;rw[aW,kL (by rw[aY];omega)];rfl
theorem Ev {k:List (BitVec 8)}(a:k.length=32):(dy k).getD 0 0=k.getD 0 0&&&248#8:=by
 unfold dy;rw[aW,mF ah,kL aa];rfl
theorem acO {k:List (BitVec 8)}(a:k.length=32):rR (dy k) 254=49#8:=by
 have :iW (dy k) 254=1#8:=by
  unfold iW;rw[show 254/8=31 from rfl,show 254%8=6 from rfl,adu a];exact afZ _
 unfold rR;rw[this];rfl
theorem Dw {k:List (BitVec 8)}(a:k.length=32){t:Nat}(b:t<3):rR (dy k) t=48#8:=by
 obtain⟨h0,h1,h2⟩:=XE (k.getD 0 0);have :iW (dy k) t=0#8:=by
  unfold iW
  match t,b with
  |0,_=>rw[show 0/8=0 from rfl,show 0%8=0 from rfl,Ev a];exact h0
  |1,_=>rw[show 1/8=0 from rfl,show 1%8=1 from rfl,Ev a];exact h1
  |2,_=>rw[show 2/8=0 from rfl,show 2%8=2 from rfl,Ev a];exact h2
 unfold rR;rw[if_pos this]
theorem acx (b:Bool)(l:List Bool):eZ (b::l)=2*eZ l+b.toNat:=rfl
theorem v7 (s:List (BitVec 8))(c:Nat):eZ (mh s (c+1))=2*eZ (mh s c)+(if s.getD c 0=48#8 then 0 else 1):=by
 rw[mh,acx];split <;>rfl
theorem KL {s:List (BitVec 8)}(h:s.getD 0 0≠48#8):∀ c,2^c<=eZ (mh s (c+1))/\eZ (mh s (c+1))<2^(c+1)
 |0=>by
  rw[v7,if_neg h];exact⟨aH 1,DH 1⟩
 |c+1=>by
  obtain⟨h1,h2⟩:=KL h c;rw[v7,iT,iT 2 (c+1)];split <;>omega
theorem adg {k:List (BitVec 8)}(a:k.length=32):∃ m,mZ k=8*m/\2^251<=m/\m<2^252:=by
 have g:=Gy (dy k) 255;refine⟨eZ (mh (gm (dy k) 255) 252),?_,?_⟩
 ·unfold mZ;have b:=v7 (gm (dy k) 255) 254;have n2:=v7 (gm (dy k) 255) 253;have d:=v7 (gm (dy k) 255) 252;rw[g 254 ah,Dw a ah,if_pos rfl] at b;rw[g 253 ah,Dw a ah,if_pos rfl] at n2;rw[g 252 ah,Dw a ah,if_pos rfl] at d;rw[b,n2,d];omega
 ·exact KL (c:=251) (by rw[g 0 ah,acO a];decide)
theorem AX {k:List (BitVec 8)}(b:k.length=32):¬ Lo∣mZ k:=by
 obtain⟨m,h1,h2,d⟩:=adg b;intro h;rw[h1] at h;have c:=prmLo;rcases c.dvd_mul h with a|a
 ·exact absurd (Nat.le_of_dvd ah a) ah
 ·have e:=Nat.le_of_dvd aa a;have f:Lo<2^253:=ah;have g:2^252<Lo:=ah;omega
theorem LZ:basePt=enc (jT base):=by
 rw[NK];decide+kernel
theorem Yd {k:List (BitVec 8)}:cm k basePt=enc (jT (cb (mZ k) base)):=by
 rw[LZ];exact Fc k zH Sg
theorem DN {a b:List (BitVec 8)}(e:b.length=32):cm a (cm b basePt)=enc (jT (cb (mZ b*mZ a) base)):=by
 obtain⟨h1,h2⟩:=Lu (AX e);rw[Yd,Fc a h1 h2,C8]
theorem yW {a b:List (BitVec 8)}(c:a.length=32)(d:b.length=32):cm a (cm b basePt)=cm b (cm a basePt):=by
 rw[DN d,DN c,jv]
theorem qb {a b:List (BitVec 8)}(f:a.length=32)(c:b.length=32):cm a (cm b basePt)≠List.replicate 32 0#8:=by
 rw[DN c];have g:¬ Lo∣mZ b*mZ a:=fun h=>by
  have i:=prmLo;rcases i.dvd_mul h with h|h
  ·exact AX c h
  ·exact AX f h
 obtain⟨h1,h2⟩:=Lu g;have j:=afk h1 h2;generalize jT (cb (mZ b*mZ a) base)=u at*;intro e;have d:=Dj u;rw[e,show le (List.replicate 32 0#8)=0 by decide+kernel] at d;exact j (Fin.ext d.symm)
end Go.Vm
end
section
namespace Go.Vm
open Go.Proofs Go.Proofs.Tryz
section
theorem BE (ss:List (List ai))(l:ss.length<=1000)(b:∀ s∈ss,s.length=32):aq prog 121 [.slice 0 0 ss.length 1] [bK (ss.map .str)] (.bool true) [bK (ss.map .str)]:=by
 have :∃ v h',aq prog 121 [.slice 0 0 ss.length 1] [bK (ss.map .str)] v h'/\(v= .bool true/\h'=[bK (ss.map .str)]):=by
  refine fP (Post:=fun v h'=>v= .bool true/\h'=[bK (ss.map .str)]) ac (fn:=f121) func121 rfl am (ak ?_);simp -implicitDefEqProofs only[go_sem,seval];refine bq (fun j st=>∃ i:Nat,i+j=ss.length/\st=⟨[(5,.slice 0 0 ss.length 1),(6,.i64 ss.length),(7,.i64 i)],[bK (ss.map .str)]⟩) ?_ ?_
  ·exact bJ ss.length ⟨[(5,.slice 0 0 ss.length 1),(6,.i64 ss.length),(7,.i64 (0:Nat))],[bK (ss.map .str)]⟩ (by simp[St.get,aj]) rfl (fun _ _ h=>h) ⟨0,aa,rfl⟩
  rintro j st ⟨i,e,rfl⟩-;by_cases c:i<ss.length
  ·have a:(i:Int)<ss.length:=aa;have d:=dw (i:=i) aa;have f:(ss.map V.str).getD i .junk= .str (ss.getD i []):=by rw[fJ V.str [],if_pos c]
   have g:((ss.getD i []).length:Int)=32:=by
    have :=b (ss.getD i []) (by rw[aW,aF c];exact dd c);omega
   simp -implicitDefEqProofs only[go_sem,seval,a,f,ba,g];repeat refine aJ ?_
   exact bx (j-1) ⟨[(5,.slice 0 0 ss.length 1),(6,.i64 ss.length),(7,.i64 (i+1:Nat))],[bK (ss.map .str)]⟩ aa (by simp[St.get,aj,d]) rfl (fun _ _ h=>h) ⟨i+1,aa,rfl⟩
  ·have a:¬ (i:Int)<ss.length:=aa;simp -implicitDefEqProofs only[go_sem,seval,a];refine⟨_,_,?_,Fin.take 1 ae ae (by simp[V.low,-List.map_take,-List.map_drop,-List.map_map,-List.map_set]) (by simp[bD,-List.map_take,-List.map_drop,-List.map_map,-List.map_set])⟩;exact⟨rfl,rfl⟩
 obtain⟨_,_,k,rfl,rfl⟩:=this;exact k
def cW (n:BitVec 32):List ai:=aV (n.setWidth 64).toNat 4
theorem fE (n:BitVec 32):(cW n).length=4:=bT _ _
theorem Cs (n:BitVec 32):aG prog 126 [.u32 n] (.str (cW n)):=by
 unfold cW;have h:=bT (n.setWidth 64).toNat 4;refine aQ ac (fn:=f126) ac func126 rfl am (by simp[af,V.low]) (by simp[V.low]) (ak ?_);simp -implicitDefEqProofs only[go_sem,seval,ntmps126];refine aS [] (zt (n.setWidth 64)) ac ae rfl ae aM ae ae ae ae ae ?_;simp -implicitDefEqProofs only[go_sem,seval];exact⟨aa,by first|trivial|(rw[ar (Nat.le_of_eq h)];trivial)|simp[ar (Nat.le_of_eq h)]⟩
def aK (k:List ai):List ai:=cm k basePt
theorem cB (k:List ai):(aK k).length=32:=qh _ _
def kv (sec nano:Int):List ai:=bu (4611686018427387904+sec.toNat) 8++bu nano.toNat 4
theorem pZ (sec nano:Int):(kv sec nano).length=12:=by unfold kv;simp[cF]
noncomputable def mS (su:Int) (q once:List ai):HS:=(HS.start su (aK q)).both su (aK once)
noncomputable def lH (su:Int) (q once:List ai):HS:=(mS su q once).key su (cm once (aK q))
noncomputable def fA (su:Int) (q once own:List ai):List ai:=(lH su q once).out su (aK own)
noncomputable def nA (su:Int) (q once own:List ai):HS:=(lH su q once).next su (fA su q once own)
noncomputable def lL (su:Int) (q once own:List ai):HS:=(nA su q once own).key su (cm own (aK q))
def fR (sec nano best:Int):List ai:=kv sec nano++[BitVec.ofInt 8 best]
noncomputable def fB (su:Int) (q once own:List ai) (sec nano best:Int):List ai:=(lL su q once own).out su (fR sec nano best)
noncomputable def jN (su:Int) (q once own:List ai) (sec nano best:Int):HS:=(lL su q once own).next su (fB su q once own sec nano best)
noncomputable def fT (su:Int) (q once own:List ai) (sec nano best:Int) (id:BitVec 32):List ai:=1#8::BitVec.ofInt 8 su::(cW id++aK once++fA su q once own++fB su q once own sec nano best)
section
variable {su:Int}{q once own:List ai}{sec nano best:Int}{id:BitVec 32}
theorem DU (a:su=1\/su=2):(mS su q once).ok/\(mS su q once).k.length=32:=HS.ok_both a (HS.ok_start a (by rw[cB];decide)) (by rw[cB];decide)
theorem vk (a:su=1\/su=2):(lH su q once).ok/\(lH su q once).k.length=32:=HS.ok_key a (DU a).1 (by rw[qh];decide)
theorem xD (a:su=1\/su=2):(fA su q once own).length=48:=by
 have h:=vk (q:=q) (once:=once) a;show((lH su q once).out su (aK own)).length=48;rw[HS.out_length h.1 h.2 (by rw[cB];decide),cB]
theorem DY (a:su=1\/su=2):(nA su q once own).ok:=HS.ok_next a (vk a).1 (by rw[xD a];decide)
theorem uW (a:su=1\/su=2):(lL su q once own).ok/\(lL su q once own).k.length=32:=HS.ok_key a (DY a) (by rw[qh];decide)
theorem wn:(fR sec nano best).length=13:=by unfold fR;rw[aE,pZ];rfl
theorem xq (a:su=1\/su=2):(fB su q once own sec nano best).length=29:=by
 have h:=uW (q:=q) (once:=once) (own:=own) a;show((lL su q once own).out su (fR sec nano best)).length=29;rw[HS.out_length h.1 h.2 (by rw[wn];decide),wn]
theorem abr (a:su=1\/su=2):(jN su q once own sec nano best).ok:=HS.ok_next a (uW a).1 (by rw[xq a];decide)
theorem P2 (hx:su=1\/su=2)(hbest:best=1\/best=2)(ht:l8 sec nano)(psk:List ai)(hq:q.length=32)(ho:once.length=32)(hw:own.length=32)(hp:psk.length=32):
  aq prog 91 [.agg [.i64 su,.str own,.str (aK q),.str psk],.str once,.agg [.i64 sec,.i64 nano],.i64 best,.u32 id] [] (.tup [.str (fT su q once own sec nano best id),.ptr 0 0,.i64 0])
   [bK ((jN su q once own sec nano best).cs su++[.i64 su,.str own,.str (aK q),.str psk,.str once,.u32 id])]:=by
 have hsu':decide (su=1\/su=2)=true:=decide_eq_true hx;have hb':decide (best=1\/best=2)=true:=decide_eq_true hbest;have hwr:=U3 sec nano;rw[if_pos ht] at hwr;change aG _ _ _ (.tup [.str (kv sec nano),.i64 0]) at hwr;have hbg:=Iq hx (u:=aK q) (by rw[cB];decide);have hbo:=Aw hx (HS.ok_start hx (u:=aK q) (by rw[cB];decide)) (t:=aK once) (by rw[cB];decide) 0;change aq _ _ _ _ _ (bw 0 ((mS su q once).cs su)) at hbo;have hse:=pI hx (DU (q:=q) (once:=once) hx).1 (k:=once) (u:=aK q) ho (cB q) (qb ho hq);change aq _ _ _ _ _ (bw 0 ((lH su q once).cs su)) at hse;have hsl:=Dc hx (vk (q:=q) (once:=once) hx).1 (vk hx).2 (t:=aK own) (by rw[cB];decide);change aq _ _ _ _ (.str (fA su q once own)) (bw 0 ((nA su q once own).cs su)) at hsl;have hs5:=pI hx (DY (q:=q) (once:=once) (own:=own) hx) (k:=own) (u:=aK q) hw (cB q) (qb hw hq);change aq _ _ _ _ _ (bw 0 ((lL su q once own).cs su)) at hs5;have hs6:=Dc hx (uW (q:=q) (once:=once) (own:=own) hx).1 (uW hx).2 (t:=fR sec nano best) (by rw[wn];decide);change aq _ _ _ _ (.str (fB su q once own sec nano best)) (bw 0 ((jN su q once own sec nano best).cs su)) at hs6;have hP1:aG prog 26 [.str once] (.tup [.str (aK once),.i64 0]):=vu once ho;have hP2:aG prog 26 [.str own] (.tup [.str (aK own),.i64 0]):=vu own hw;have hk:=BE [own,aK q,psk,once] ae (by simp[hw,hp,ho,cB]);have hix:=Cs id;have r0:=(HS.start su (aK q)).rens su;have l0:=(HS.start su (aK q)).low su;have r1:=(mS su q once).rens su;have l1:=(mS su q once).low su;have r2:=(lH su q once).rens su;have l2:=(lH su q once).low su;have r3:=(nA su q once own).rens su;have l3:=(nA su q once own).low su;have r4:=(lL su q once own).rens su;have l4:=(lL su q once own).low su;have r5:=(jN su q once own sec nano best).rens su;have l5:=(jN su q once own sec nano best).low su;have n5:=(jN su q once own sec nano best).len su;have eR:fR sec nano best=kv sec nano++[BitVec.ofInt 8 best]:=rfl;have hwl:=pZ sec nano;have hla:=xD (q:=q) (once:=once) (own:=own) hx;have hlb:=xq (q:=q) (once:=once) (own:=own) (sec:=sec) (nano:=nano) (best:=best) hx;have hli:=fE id;have hlp:=cB once;have e5:∃ (ty:TypeId) (h c k:List ai) (n:BitVec 64),(jN su q once own sec nano best).cs su=[.iface ty (.agg []),.str h,.str c,.str k,.u64 n]:=⟨_,_,_,_,_,rfl⟩;unfold fT;generalize (HS.start su (aK q)).cs su=c0 at*;generalize (mS su q once).cs su=c1 at*;generalize (lH su q once).cs su=c2 at*;generalize (nA su q once own).cs su=c3 at*;generalize (lL su q once own).cs su=c4 at*;generalize (jN su q once own sec nano best).cs su=c5 at*;generalize fA su q once own=a at*;generalize fB su q once own sec nano best=b at*;generalize fR sec nano best=fr at*;generalize kv sec nano=wh at*;generalize cW id=ix at*;generalize aK once=po at*;generalize aK own=pw at*;generalize aK q=pq at*;obtain⟨ty5,h5,k5,g5,m5,rfl⟩:=e5;have :∃ v h',aq prog 91 [.agg [.i64 su,.str own,.str pq,.str psk],.str once,.agg [.i64 sec,.i64 nano],.i64 best,.u32 id] [] v h'/\(v= .tup [.str (1#8::BitVec.ofInt 8 su::(ix++po++a++b)),.ptr 0 0,.i64 0]/\
   h'=[bK [.iface ty5 (.agg []),.str h5,.str k5,.str g5,.u64 m5,.i64 su,.str own,.str pq,.str psk,.str once,.u32 id]]):=by
  refine fP (Post:=fun v h'=>v= .tup [.str (1#8::BitVec.ofInt 8 su::(ix++po++a++b)),.ptr 0 0,.i64 0]/\h'=[bK [.iface ty5 (.agg []),.str h5,.str k5,.str g5,.u64 m5,.i64 su,.str own,.str pq,.str psk,.str once,.u32 id]]) ac (fn:=f91) func91 rfl am (ak ?_);simp -implicitDefEqProofs only[go_sem,seval];repeat refine aJ ?_
  refine au (hwr) ?_;simp -implicitDefEqProofs only[go_sem,seval];repeat refine aJ ?_
  refine au (vj su) ?_;simp -implicitDefEqProofs only[go_sem,seval,hsu',jI];repeat refine aJ ?_
  refine aS [2] (hk) ac ae rfl ae aM ae ae ae ae ae ?_;simp -implicitDefEqProofs only[go_sem,seval,jI];refine au (vj best) ?_;simp -implicitDefEqProofs only[go_sem,seval,hb',jI];repeat refine aJ ?_
  refine aS [] (hbg) ac ae rfl ae aM ae ae ae ae ae ?_;simp -implicitDefEqProofs only[go_sem,seval,bw,r0];repeat refine aJ ?_
  refine au (hP1) ?_;simp -implicitDefEqProofs only[go_sem,seval];repeat refine aJ ?_
  refine au (hP2) ?_;simp -implicitDefEqProofs only[go_sem,seval];repeat refine aJ ?_
  refine aS [3,4] (hbo) ac ae rfl (by simp[bw]) aM ae (by simp[bw]) (by simp[bw,r0,l0]) (by simp[bw]) ae ?_;simp -implicitDefEqProofs only[go_sem,seval,bw,r1];repeat refine aJ ?_
  refine aS [3,4] (hse) ac ae rfl (by simp[bw]) aM ae (by simp[bw]) (by simp[bw,r1,l1]) (by simp[bw]) ae ?_;simp -implicitDefEqProofs only[go_sem,seval,bw,r2];repeat refine aJ ?_
  refine aS [3,4] (hsl) ac ae rfl (by simp[bw]) aM ae (by simp[bw]) (by simp[bw,r2,l2]) (by simp[bw]) ae ?_;simp -implicitDefEqProofs only[go_sem,seval,bw,r3];repeat refine aJ ?_
  refine aS [3,4] (hs5) ac ae rfl (by simp[bw]) aM ae (by simp[bw]) (by simp[bw,r3,l3]) (by simp[bw]) ae ?_;simp -implicitDefEqProofs only[go_sem,seval,bw,r4];repeat refine aJ ?_
  rw[eR] at hs6;refine aS [3,4] (hs6) ac ae rfl (by simp[bw]) aM ae (by simp[bw]) (by simp[bw,r4,l4]) (by simp[bw]) ae ?_;simp -implicitDefEqProofs only[go_sem,seval,bw];repeat refine aJ ?_
  refine aX (hix) ?_;simp -implicitDefEqProofs only[go_sem,seval];repeat refine aJ ?_
  refine⟨_,_,⟨rfl,rfl⟩,?_⟩;exact Fin.ren [7] ae ae aZ ah ae ae
 obtain⟨_,_,hs,rfl,rfl⟩:=this;exact hs
end
end
section
theorem Ht {s:List ai}{size:Nat}{k:BitVec 8}(h1:s.length=size)(d:2<=size)(b:s.getD 0 0=k)(c:((s.getD 1 0).toNat:Int)=1\/((s.getD 1 0).toNat:Int)=2):aG prog 139 [.str s,.i64 size,.u8 k] (.i64 0):=by
 have h1':¬ (s.length:Int)<size:=aa;have a:¬ (size:Int)<s.length:=aa;refine aQ ac (fn:=f139) ac func139 rfl am (by simp[af,V.low]) (by simp[V.low]) (ak ?_);simp -implicitDefEqProofs only[go_sem,↓reduceIte,Nat.reduceEqDiff,Nat.reduceLT,Nat.reduceAdd,Int.reduceToNat,reduceCtorEq,ntmps139,results139];simp -implicitDefEqProofs only[go_sem,↓reduceIte,Nat.reduceEqDiff,Nat.reduceLT,Int.reduceLE,Int.reduceToNat,reduceCtorEq,h1',a,b,not_true,decide_false];repeat refine aJ ?_
 refine au (vj _) ?_;simp -implicitDefEqProofs only[go_sem,↓reduceIte,Nat.reduceEqDiff,Nat.reduceLT];simp -implicitDefEqProofs only[go_sem,↓reduceIte,c]
theorem wD {su:Int}(a:su=1\/su=2):((BitVec.ofInt 8 su).toNat:Int)=su:=by rcases a with rfl|rfl<;>rfl
theorem C0 {k s:BitVec 8}{ix c a b:List ai}(d:ix.length=4)(e:c.length=32)(f:a.length=48)(g:b.length=29):
  (k::s::(ix++c++a++b)).length=115/\List.drop 6 (List.take 38 (k::s::(ix++c++a++b)))=c/\List.drop 38 (List.take 86 (k::s::(ix++c++a++b)))=a/\List.drop 86 (k::s::(ix++c++a++b))=b/\List.drop 2 (List.take 6 (k::s::(ix++c++a++b)))=ix:=by
 have t38:List.take 38 (k::s::(ix++c++a++b))=k::s::(ix++c):=by
  rw[cj,cj,dV,ja (by simp[d,e])]
 have t86:List.take 86 (k::s::(ix++c++a++b))=k::s::(ix++c++a):=by
  rw[cj,cj,ja (by simp[d,e,f])]
 have t6:List.take 6 (k::s::(ix++c++a++b))=k::s::ix:=by
  rw[cj,cj,dV,dV,ja d]
 refine⟨by simp[d,e,f,g],?_,?_,?_,?_⟩
 ·rw[t38,iK,iK,kg d]
 ·rw[t86,iK,iK,kg (by simp[d,e])]
 ·rw[iK,iK,kg (by simp[d,e,f])]
 ·rw[t6];rfl
theorem AL (id:BitVec 32):BitVec.setWidth 32 (BitVec.ofNat 64 (le (cW id)))=id:=by
 have e:∀ n k:Nat,le (aV n k)=n%256^k:=fun n k=>by
  induction k generalizing n with
  |zero=>show 0=n%1;omega
  |succ k ih=>
   show(BitVec.ofNat 8 n).toNat+256*le (aV (n/256) k)=_;rw[ih,iT,jv (256^k) 256,wq,cx]
 have a:=id.isLt;unfold cW;rw[e];apply eE;simp only[mL,cx];omega
section
variable {su:Int}{q once own:List ai}{sec nano best:Int}{id:BitVec 32}
theorem YV (hx:su=1\/su=2)(hbest:best=1\/best=2)(hR:aG prog 141 [.str (kv sec nano)] (.tup [.agg [.i64 sec,.i64 nano],.i64 0]))(hq:q.length=32)(ho:once.length=32)(hw:own.length=32):
  aq prog 97 [.str q,.str (fT su q once own sec nano best id)] [] (.tup [.agg [.i64 su,.u32 id,.str (aK own),.i64 sec,.i64 nano,.i64 best],.ptr 0 0,.i64 0])
   [bK ((jN su q once own sec nano best).cs su++[.i64 su,.u32 id,.str (aK once),.str (aK own)])]:=by
 have hb':decide (best=1\/best=2)=true:=decide_eq_true hbest;have hbg:=Iq hx (u:=aK q) (by rw[cB];decide);have hbo:=Aw hx (HS.ok_start hx (u:=aK q) (by rw[cB];decide)) (t:=aK once) (by rw[cB];decide) 0;change aq _ _ _ _ _ (bw 0 ((mS su q once).cs su)) at hbo;have hse:=pI hx (DU (q:=q) (once:=once) hx).1 (k:=q) (u:=aK once) hq (cB once) (qb hq ho);rw[show cm q (aK once)=cm once (aK q) from yW hq ho] at hse;change aq _ _ _ _ _ (bw 0 ((lH su q once).cs su)) at hse;have hsl:=CO hx (vk (q:=q) (once:=once) hx).1 (vk hx).2 (t:=aK own) (by rw[cB];decide);change aq _ _ [.ptr 0 0,.str (fA su q once own)] _ _ (bw 0 ((nA su q once own).cs su)) at hsl;have hs5:=pI hx (DY (q:=q) (once:=once) (own:=own) hx) (k:=q) (u:=aK own) hq (cB own) (qb hq hw);rw[show cm q (aK own)=cm own (aK q) from yW hq hw] at hs5;change aq _ _ _ _ _ (bw 0 ((lL su q once own).cs su)) at hs5;have hs6:=CO hx (uW (q:=q) (once:=once) (own:=own) hx).1 (uW hx).2 (t:=fR sec nano best) (by rw[wn];decide);change aq _ _ [.ptr 0 0,.str (fB su q once own sec nano best)] _ _ (bw 0 ((jN su q once own sec nano best).cs su)) at hs6;have hP1:aG prog 26 [.str q] (.tup [.str (aK q),.i64 0]):=vu q hq;have hk:=BE [q] ae (by simp[hq]);obtain⟨q1,q2,q3,q4,q5⟩:=C0 (k:=1#8) (s:=BitVec.ofInt 8 su) (fE id) (cB once) (xD (q:=q) (once:=once) (own:=own) hx) (xq (q:=q) (once:=once) (own:=own) (sec:=sec) (nano:=nano) (best:=best) hx);change (fT su q once own sec nano best id).length=115 at q1;change List.drop 6 (List.take 38 (fT su q once own sec nano best id))=_ at q2;change List.drop 38 (List.take 86 (fT su q once own sec nano best id))=_ at q3;change List.drop 86 (fT su q once own sec nano best id)=_ at q4;change List.drop 2 (List.take 6 (fT su q once own sec nano best id))=_ at q5;have q6:(((fT su q once own sec nano best id).getD 1 0).toNat:Int)=su:=wD hx;have q7:(fT su q once own sec nano best id).getD 0 0=1#8:=rfl;have hf:=Ht (size:=115) (k:=1#8) q1 ah q7 (by rw[q6];exact hx);have hid:=AL id;have hLi:=iJ (cW id) (by rw[fE];decide);have e8:List.take 8 (cW id)=cW id:=ar (by rw[fE];decide);rw[e8] at hLi;have w1:List.take 12 (fR sec nano best)=kv sec nano:=by unfold fR;exact ja (pZ sec nano)
 have w2:(((fR sec nano best).getD 12 0).toNat:Int)=best:=by
  unfold fR;rw[aW,dL (by rw[pZ];decide),pZ];exact wD hbest
 have w3:(fR sec nano best).length=13:=wn;have r0:=(HS.start su (aK q)).rens su;have l0:=(HS.start su (aK q)).low su;have r1:=(mS su q once).rens su;have l1:=(mS su q once).low su;have r2:=(lH su q once).rens su;have l2:=(lH su q once).low su;have r3:=(nA su q once own).rens su;have l3:=(nA su q once own).low su;have r4:=(lL su q once own).rens su;have l4:=(lL su q once own).low su;have e5:∃ (ty:TypeId) (h c k:List ai) (n:BitVec 64),(jN su q once own sec nano best).cs su=[.iface ty (.agg []),.str h,.str c,.str k,.u64 n]:=⟨_,_,_,_,_,rfl⟩;generalize (HS.start su (aK q)).cs su=c0 at*;generalize (mS su q once).cs su=c1 at*;generalize (lH su q once).cs su=c2 at*;generalize (nA su q once own).cs su=c3 at*;generalize (lL su q once own).cs su=c4 at*;generalize (jN su q once own sec nano best).cs su=c5 at*;generalize fT su q once own sec nano best id=first at*
 generalize fA su q once own=a at*;generalize fB su q once own sec nano best=b at*;generalize fR sec nano best=fr at*;generalize kv sec nano=wh at*;generalize cW id=ix at*;generalize aK once=po at*;generalize aK own=pw at*;generalize aK q=pq at*;obtain⟨ty5,h5,k5,g5,m5,rfl⟩:=e5;have g1:(38:Int)<=first.length:=aa;have :∃ v h',aq prog 97 [.str q,.str first] [] v h'/\(v= .tup [.agg [.i64 su,.u32 id,.str pw,.i64 sec,.i64 nano,.i64 best],.ptr 0 0,.i64 0]/\
   h'=[bK [.iface ty5 (.agg []),.str h5,.str k5,.str g5,.u64 m5,.i64 su,.u32 id,.str po,.str pw]]):=by
  refine fP (Post:=fun v h'=>v= .tup [.agg [.i64 su,.u32 id,.str pw,.i64 sec,.i64 nano,.i64 best],.ptr 0 0,.i64 0]/\h'=[bK [.iface ty5 (.agg []),.str h5,.str k5,.str g5,.u64 m5,.i64 su,.u32 id,.str po,.str pw]]) ac (fn:=f97) func97 rfl am (ak ?_);simp -implicitDefEqProofs only[go_sem,↓reduceIte,Nat.reduceLT,Nat.reduceLeDiff,reduceCtorEq];repeat refine aJ ?_
  refine aS [1] (hk) ac ae rfl ae aM ae ae ae ae ae ?_;simp -implicitDefEqProofs only[go_sem,↓reduceIte,Nat.reduceEqDiff,Nat.reduceLT,Nat.reduceAdd,Nat.reduceSub,Int.reduceLE,Int.reduceLT,BitVec.reduceOfInt,jI];refine au (hf) ?_;simp -implicitDefEqProofs only[go_sem,↓reduceIte,Nat.reduceLT,reduceCtorEq,ne_eq,not_true,decide_false];refine au (hP1) ?_;simp -implicitDefEqProofs only[go_sem,↓reduceIte,Nat.reduceEqDiff,Nat.reduceLT,Int.reduceLE,Int.reduceLT,Int.reduceToNat,q1,q6];repeat refine aJ ?_
  refine aS [] (hbg) ac ae rfl ae aM ae ae (by simp[q1]) ae ae ?_;simp -implicitDefEqProofs only[go_sem,↓reduceIte,Nat.reduceEqDiff,Nat.reduceLT,Nat.reduceAdd,Nat.reduceSub,Int.reduceLE,Int.reduceToNat,r0];simp -implicitDefEqProofs only[go_sem,Int.reduceLE,q1,q2];repeat refine aJ ?_
  refine aS [2,3] (hbo) ac ae rfl ae aM ae ae (by simp[r0,l0]) ae ae ?_;simp -implicitDefEqProofs only[go_sem,↓reduceIte,Nat.reduceEqDiff,Nat.reduceLT,Nat.reduceAdd,Nat.reduceSub,reduceCtorEq,r1];repeat refine aJ ?_
  refine aS [2,3] (hse) ac ae rfl ae aM ae ae (by simp[r1,l1]) ae ae ?_;simp -implicitDefEqProofs only[go_sem,↓reduceIte,Nat.reduceEqDiff,Nat.reduceLT,Nat.reduceAdd,Nat.reduceSub,Int.reduceLE,Int.reduceToNat,r2];simp -implicitDefEqProofs only[go_sem,Int.reduceLE,q1,q3];repeat refine aJ ?_
  refine aS [2,3] (hsl) ac ae rfl ae aM ae ae (by simp[r2,l2]) ae ae ?_;simp -implicitDefEqProofs only[go_sem,↓reduceIte,Nat.reduceEqDiff,Nat.reduceLT,Nat.reduceAdd,Nat.reduceSub,reduceCtorEq,r3];repeat refine aJ ?_
  refine aS [2,3] (hs5) ac ae rfl ae aM ae ae (by simp[r3,l3]) ae ae ?_;simp -implicitDefEqProofs only[go_sem,↓reduceIte,Nat.reduceEqDiff,Nat.reduceLT,Nat.reduceAdd,Nat.reduceSub,Int.reduceLE,Int.reduceToNat,r4];simp -implicitDefEqProofs only[go_sem,Int.reduceLE,q1,q4];repeat refine aJ ?_
  refine aS [2,3] (hs6) ac ae rfl ae aM ae ae (by simp[r4,l4]) ae ae ?_;simp -implicitDefEqProofs only[go_sem,↓reduceIte,Nat.reduceEqDiff,Nat.reduceLT,Nat.reduceAdd,Nat.reduceSub,Int.reduceLE,Int.reduceToNat,bw];repeat refine aJ ?_
  simp -implicitDefEqProofs only[go_sem,w1];repeat refine aJ ?_
  refine au (hR) ?_;simp -implicitDefEqProofs only[go_sem,↓reduceIte,Nat.reduceEqDiff,Nat.reduceLT,Nat.reduceAdd,Int.reduceLE,Int.reduceLT,Int.reduceToNat,ne_eq,not_true,decide_false,w2,w3];repeat refine aJ ?_
  refine au (vj best) ?_;simp -implicitDefEqProofs only[go_sem,↓reduceIte,Nat.reduceEqDiff,Nat.reduceLT,Nat.reduceAdd,Int.reduceLE,Int.reduceToNat,hb',jI];simp -implicitDefEqProofs only[go_sem,Int.reduceLE,Int.reduceLT,q1,q5,q6];repeat refine aJ ?_
  refine aX (hLi) ?_;simp -implicitDefEqProofs only[go_sem,↓reduceIte,Nat.reduceEqDiff,Nat.reduceLT,Nat.reduceLeDiff,Nat.reduceAdd,hid];repeat refine aJ ?_
  refine⟨_,_,⟨rfl,rfl⟩,?_⟩;exact Fin.ren [6] ae ae aZ ah ae ae
 obtain⟨_,_,hs,rfl,rfl⟩:=this;exact hs
end
end
end Go.Vm
end
section
namespace Go.Vm
open Go.Proofs
end Go.Vm
end
section
namespace Go.Vm
open Go.Proofs Go.Proofs.Tryz
section
noncomputable def nU (su:Int) (S:HS) (e:List ai):HS:=S.both su (aK e)
noncomputable def nV (su:Int) (S:HS) (e once:List ai):HS:=(nU su S e).key su (cm e (aK once))
noncomputable def nt (su:Int) (S:HS) (e once own:List ai):HS:=(nV su S e once).key su (cm e (aK own))
noncomputable def lm (su:Int) (S:HS) (e once own psk:List ai):HS:=(nt su S e once own).psk su psk
noncomputable def gC (su:Int) (S:HS) (e once own psk:List ai) (best:Int):List ai:=(lm su S e once own psk).out su [BitVec.ofInt 8 best]
noncomputable def mM (su:Int) (S:HS) (e once own psk:List ai) (best:Int):HS:=(lm su S e once own psk).next su (gC su S e once own psk best)
noncomputable def gK (su:Int) (S:HS) (e once own psk:List ai) (best:Int) (i:Nat):List ai:=d2 su (mM su S e once own psk best).c [] i
noncomputable def mC (su:Int) (S:HS) (e once own psk:List ai) (best:Int) (id2 id:BitVec 32):List ai:=2#8::BitVec.ofInt 8 su::(cW id2++cW id++aK e++gC su S e once own psk best)
section
variable {su:Int}{S:HS}{e q once own psk:List ai}{best:Int}{id id2:BitVec 32}
theorem A0 (a:su=1\/su=2)(b:S.ok):(nU su S e).ok:=(HS.ok_both a b (by rw[cB];decide)).1
theorem EB (a:su=1\/su=2)(b:S.ok):(nV su S e once).ok:=(HS.ok_key a (A0 a b) (by rw[qh];decide)).1
theorem Ez (a:su=1\/su=2)(b:S.ok):(nt su S e once own).ok:=(HS.ok_key a (EB a b) (by rw[qh];decide)).1
theorem uF (a:su=1\/su=2)(b:S.ok)(c:psk.length=32):(lm su S e once own psk).ok/\(lm su S e once own psk).k.length=32:=HS.ok_psk a (Ez a b) aa
theorem Ac (a:su=1\/su=2)(b:S.ok)(c:psk.length=32):(gC su S e once own psk best).length=17:=by
 have h:=uF (e:=e) (once:=once) (own:=own) a b c;show((lm su S e once own psk).out su [BitVec.ofInt 8 best]).length=17;rw[HS.out_length h.1 h.2 ae];rfl
theorem BZ (a:su=1\/su=2)(b:S.ok)(c:psk.length=32):(mM su S e once own psk best).ok:=HS.ok_next a (uF a b c).1 (by rw[Ac a b c];decide)
theorem MO (a:su=1\/su=2)(b:S.ok)(d:psk.length=32){i:Nat}(f:i<2):(gK su S e once own psk best i).length=32:=by
 obtain⟨-,h1,h2⟩:=z8 a (mM su S e once own psk best).c [] (by have :=(BZ (e:=e) (once:=once) (own:=own) (best:=best) a b d).2;omega) ae
 match i,f with
 |0,_=>exact h1
 |1,_=>exact h2
theorem EL (a:su=1\/su=2)(h:S.ok):aq prog 145 [.ptr 0 0] [bK (S.cs su)] (.tup [.str (d2 su S.c [] 0),.str (d2 su S.c [] 1)]) [bK (S.cs su)]:=acb a S.h S.c S.k S.n h.2
theorem HQ {k s:BitVec 8}{i2 i1 a c:List ai}(h2:i2.length=4)(h1:i1.length=4)(b:a.length=32)(hc:c.length=17):
  (k::s::(i2++i1++a++c)).length=59/\List.drop 6 (List.take 10 (k::s::(i2++i1++a++c)))=i1/\List.drop 10 (List.take 42 (k::s::(i2++i1++a++c)))=a/\List.drop 42 (k::s::(i2++i1++a++c))=c/\List.drop 2 (List.take 6 (k::s::(i2++i1++a++c)))=i2:=by
 have t10:List.take 10 (k::s::(i2++i1++a++c))=k::s::(i2++i1):=by
  rw[cj,cj,dV,ja (by simp[h1,h2])]
 have t42:List.take 42 (k::s::(i2++i1++a++c))=k::s::(i2++i1++a):=by
  rw[cj,cj,ja (by simp[h1,h2,b])]
 have t6:List.take 6 (k::s::(i2++i1++a++c))=k::s::i2:=by
  rw[cj,cj,dV,dV,ja h2]
 refine⟨by simp[h1,h2,b,hc],?_,?_,?_,?_⟩
 ·rw[t10,iK,iK,kg h2]
 ·rw[t42,iK,iK,kg (by simp[h1,h2])]
 ·rw[iK,iK,kg (by simp[h1,h2,b])]
 ·rw[t6];rfl
theorem Sy (hx:su=1\/su=2)(hbest:best=1\/best=2)(hS:S.ok)(he:e.length=32)(ho:once.length=32)(hw:own.length=32)(hp:psk.length=32):
  aq prog 99 [.ptr 0 0,.str psk,.str e,.i64 best,.u32 id2] [bK (S.cs su++[.i64 su,.u32 id,.str (aK once),.str (aK own)])]
   (.tup [.str (mC su S e once own psk best id2 id),.agg [.str (gK su S e once own psk best 1),.str (gK su S e once own psk best 0)],.i64 0]) [bK (S.cs su++[.i64 su,.u32 id,.str (aK once),.str (aK own)])]:=by
 have hb':decide (best=1\/best=2)=true:=decide_eq_true hbest;have hbo:=Aw hx hS (t:=aK e) (by rw[cB];decide) 0;change aq _ _ _ _ _ (bw 0 ((nU su S e).cs su)) at hbo;have hse:=pI hx (A0 (e:=e) hx hS) (k:=e) (u:=aK once) he (cB once) (qb he ho);change aq _ _ _ _ _ (bw 0 ((nV su S e once).cs su)) at hse;have hs5:=pI hx (EB (e:=e) (once:=once) hx hS) (k:=e) (u:=aK own) he (cB own) (qb he hw);change aq _ _ _ _ _ (bw 0 ((nt su S e once own).cs su)) at hs5;have hmb:=Kv hx (Ez (e:=e) (once:=once) (own:=own) hx hS) (t:=psk) aa;change aq _ _ _ _ _ [bK ((lm su S e once own psk).cs su)] at hmb;have hs7:=Dc hx (uF (e:=e) (once:=once) (own:=own) hx hS hp).1 (uF hx hS hp).2 (t:=[BitVec.ofInt 8 best]) ae;change aq _ _ _ _ (.str (gC su S e once own psk best)) (bw 0 ((mM su S e once own psk best).cs su)) at hs7;have hsp:=EL hx (BZ (e:=e) (once:=once) (own:=own) (best:=best) hx hS hp);change aq _ _ _ _ (.tup [.str (gK su S e once own psk best 0),.str (gK su S e once own psk best 1)]) _ at hsp;have hP1:aG prog 26 [.str e] (.tup [.str (aK e),.i64 0]):=vu e he;have hk:=BE [psk,e] ae (by simp[hp,he]);have hi1:=Cs id;have hi2:=Cs id2;have l1':=fE id;have l2':=fE id2;have l3':=cB e;have l4':=Ac (e:=e) (once:=once) (own:=own) (best:=best) hx hS hp;have r1:=(nU su S e).rens su;have l1:=(nU su S e).low su;have r2:=(nV su S e once).rens su;have l2:=(nV su S e once).low su;have r3:=(nt su S e once own).rens su;have l3:=(nt su S e once own).low su;have r4:=(lm su S e once own psk).rens su;have l4:=(lm su S e once own psk).low su;have r5:=(mM su S e once own psk best).rens su;have l5:=(mM su S e once own psk best).low su;have e0:∃ (ty:TypeId) (h c k:List ai) (n:BitVec 64),S.cs su=[.iface ty (.agg []),.str h,.str c,.str k,.u64 n]:=⟨_,_,_,_,_,rfl⟩;unfold mC;generalize (nU su S e).cs su=c1 at*;generalize (nV su S e once).cs su=c2 at*;generalize (nt su S e once own).cs su=c3 at*;generalize (lm su S e once own psk).cs su=c4 at*;generalize (mM su S e once own psk best).cs su=c5 at*;generalize gC su S e once own psk best=gc at*;generalize gK su S e once own psk best 0=k0 at*;generalize gK su S e once own psk best 1=k1 at*;generalize S.cs su=c0 at*;generalize cW id=ix at*;generalize cW id2=ix2 at*;generalize aK once=po at*;generalize aK own=pw at*;generalize aK e=pe at*;obtain⟨ty,h0,ch0,q0,n0,rfl⟩:=e0;have :∃ v h',aq prog 99 [.ptr 0 0,.str psk,.str e,.i64 best,.u32 id2] [bK [.iface ty (.agg []),.str h0,.str ch0,.str q0,.u64 n0,.i64 su,.u32 id,.str po,.str pw]] v h'/\
   (v= .tup [.str (2#8::BitVec.ofInt 8 su::(ix2++ix++pe++gc)),.agg [.str k1,.str k0],.i64 0]/\h'=[bK [.iface ty (.agg []),.str h0,.str ch0,.str q0,.u64 n0,.i64 su,.u32 id,.str po,.str pw]]):=by
  refine fP (Post:=fun v h'=>v= .tup [.str (2#8::BitVec.ofInt 8 su::(ix2++ix++pe++gc)),.agg [.str k1,.str k0],.i64 0]/\h'=[bK [.iface ty (.agg []),.str h0,.str ch0,.str q0,.u64 n0,.i64 su,.u32 id,.str po,.str pw]]) ac (fn:=f99) func99 rfl am (ak ?_);simp -implicitDefEqProofs only[go_sem,seval,dT];repeat refine aJ ?_
  refine aS [2] (hk) ac ae rfl ae aM ae ae ae ae ae ?_;simp -implicitDefEqProofs only[go_sem,seval,dT,jI];refine au (vj best) ?_;simp -implicitDefEqProofs only[go_sem,seval,dT,hb',jI];repeat refine aJ ?_
  refine au (hP1) ?_;simp -implicitDefEqProofs only[go_sem,seval,dT];repeat refine aJ ?_
  refine aS [4,3] (hbo) ac ae rfl ae aM ae ae ae ae ae ?_;simp -implicitDefEqProofs only[go_sem,seval,dT,r1];repeat refine aJ ?_
  refine aS [4,3] (hse) ac (by simp[r1,l1]) rfl (by simp[r1,l1]) aM (by simp[r1,l1]) (by simp[r1,l1]) (by simp[r1,l1]) (by simp[r1,l1]) ae ?_;simp -implicitDefEqProofs only[go_sem,seval,dT,r2];repeat refine aJ ?_
  refine aS [4,3] (hs5) ac (by simp[r2,l2]) rfl (by simp[r2,l2]) aM (by simp[r2,l2]) (by simp[r2,l2]) (by simp[r2,l2]) (by simp[r2,l2]) ae ?_;simp -implicitDefEqProofs only[go_sem,seval,dT,r3];repeat refine aJ ?_
  refine aS [3] (hmb) ac (by simp[r3,l3]) rfl (by simp[r3,l3]) aM (by simp[r3,l3]) (by simp[r3,l3]) (by simp[r3,l3]) (by simp[r3,l3]) ae ?_;simp -implicitDefEqProofs only[go_sem,seval,dT,r4];repeat refine aJ ?_
  refine aS [4,3] (hs7) ac (by simp[r4,l4]) rfl (by simp[r4,l4]) aM (by simp[r4,l4]) (by simp[r4,l4]) (by simp[r4,l4]) (by simp[r4,l4]) ae ?_;simp -implicitDefEqProofs only[go_sem,seval,dT,r5];repeat refine aJ ?_
  refine aS [3] (hsp) ac (by simp[r5,l5]) rfl (by simp[r5,l5]) aM (by simp[r5,l5]) (by simp[r5,l5]) (by simp[r5,l5]) (by simp[r5,l5]) ae ?_;simp -implicitDefEqProofs only[go_sem,seval,dT,r5];repeat refine aJ ?_
  refine aX (hi2) ?_;simp -implicitDefEqProofs only[go_sem,seval,dT];repeat refine aJ ?_
  refine aX (hi1) ?_;simp -implicitDefEqProofs only[go_sem,seval,dT];repeat refine aJ ?_
  refine⟨_,_,?_,Fin.take 1 ae ae (by simp[eL,bD,af,V.low,oF,-List.map_take,-List.map_drop,-List.map_map,-List.map_set]) (by simp[eL,bD,af,V.low,oF,-List.map_take,-List.map_drop,-List.map_map,-List.map_set])⟩;exact⟨rfl,rfl⟩
 obtain⟨_,_,hs,rfl,rfl⟩:=this;exact hs
theorem ZH (hx:su=1\/su=2)(hbest:best=1\/best=2)(hS:S.ok)(he:e.length=32)(ho:once.length=32)(hw:own.length=32)(hp:psk.length=32)(peer:List ai):
  aq prog 103 [.ptr 0 0,.str (mC su S e once own psk best id2 id)] [bK (S.cs su++[.i64 su,.str own,.str peer,.str psk,.str once,.u32 id])]
   (.tup [.agg [.str (gK su S e once own psk best 0),.str (gK su S e once own psk best 1)],.i64 best,.u32 id2,.i64 0]) [bK (S.cs su++[.i64 su,.str own,.str peer,.str psk,.str once,.u32 id])]:=by
 have hb':decide (best=1\/best=2)=true:=decide_eq_true hbest;have hbo:=Aw hx hS (t:=aK e) (by rw[cB];decide) 0;change aq _ _ _ _ _ (bw 0 ((nU su S e).cs su)) at hbo;have hse:=pI hx (A0 (e:=e) hx hS) (k:=once) (u:=aK e) ho (cB e) (qb ho he);rw[show cm once (aK e)=cm e (aK once) from yW ho he] at hse;change aq _ _ _ _ _ (bw 0 ((nV su S e once).cs su)) at hse;have hs5:=pI hx (EB (e:=e) (once:=once) hx hS) (k:=own) (u:=aK e) hw (cB e) (qb hw he);rw[show cm own (aK e)=cm e (aK own) from yW hw he] at hs5;change aq _ _ _ _ _ (bw 0 ((nt su S e once own).cs su)) at hs5;have hmb:=Kv hx (Ez (e:=e) (once:=once) (own:=own) hx hS) (t:=psk) aa;change aq _ _ _ _ _ [bK ((lm su S e once own psk).cs su)] at hmb;have hs7:=CO hx (uF (e:=e) (once:=once) (own:=own) hx hS hp).1 (uF hx hS hp).2 (t:=[BitVec.ofInt 8 best]) ae;change aq _ _ [.ptr 0 0,.str (gC su S e once own psk best)] _ _ (bw 0 ((mM su S e once own psk best).cs su)) at hs7;have hsp:=EL hx (BZ (e:=e) (once:=once) (own:=own) (best:=best) hx hS hp);change aq _ _ _ _ (.tup [.str (gK su S e once own psk best 0),.str (gK su S e once own psk best 1)]) _ at hsp;obtain⟨q1,q2,q3,q4,q5⟩:=HQ (k:=2#8) (s:=BitVec.ofInt 8 su) (fE id2) (fE id) (cB e) (Ac (e:=e) (once:=once) (own:=own) (best:=best) hx hS hp);change (mC su S e once own psk best id2 id).length=59 at q1;change List.drop 6 (List.take 10 (mC su S e once own psk best id2 id))=_ at q2;change List.drop 10 (List.take 42 (mC su S e once own psk best id2 id))=_ at q3;change List.drop 42 (mC su S e once own psk best id2 id)=_ at q4;change List.drop 2 (List.take 6 (mC su S e once own psk best id2 id))=_ at q5;have q6:(((mC su S e once own psk best id2 id).getD 1 0).toNat:Int)=su:=wD hx;have q7:(mC su S e once own psk best id2 id).getD 0 0=2#8:=rfl;have hf:=Ht (size:=59) (k:=2#8) q1 ah q7 (by rw[q6];exact hx);have hid:=AL id;have hid2:=AL id2;have e8:List.take 8 (cW id)=cW id:=ar (by rw[fE];decide);have e82:List.take 8 (cW id2)=cW id2:=ar (by rw[fE];decide);have hLi:=iJ (cW id) (by rw[fE];decide);rw[e8] at hLi;have hLi2:=iJ (cW id2) (by rw[fE];decide);rw[e82] at hLi2;have w2:((([BitVec.ofInt 8 best]:List ai).getD 0 0).toNat:Int)=best:=wD hbest;have w3:([BitVec.ofInt 8 best]:List ai).length=1:=rfl;have r1:=(nU su S e).rens su;have l1:=(nU su S e).low su;have r2:=(nV su S e once).rens su;have l2:=(nV su S e once).low su;have r3:=(nt su S e once own).rens su;have l3:=(nt su S e once own).low su;have r4:=(lm su S e once own psk).rens su;have l4:=(lm su S e once own psk).low su;have r5:=(mM su S e once own psk best).rens su;have l5:=(mM su S e once own psk best).low su;have e0:∃ (ty:TypeId) (h c k:List ai) (n:BitVec 64),S.cs su=[.iface ty (.agg []),.str h,.str c,.str k,.u64 n]:=⟨_,_,_,_,_,rfl⟩;generalize (nU su S e).cs su=c1 at*;generalize (nV su S e once).cs su=c2 at*;generalize (nt su S e once own).cs su=c3 at*;generalize (lm su S e once own psk).cs su=c4 at*;generalize (mM su S e once own psk best).cs su=c5 at*;generalize mC su S e once own psk best id2 id=sec at*;generalize gC su S e once own psk best=gc at*;generalize gK su S e once own psk best 0=k0 at*;generalize gK su S e once own psk best 1=k1 at*;generalize S.cs su=c0 at*;generalize cW id=ix at*;generalize cW id2=ix2 at*;generalize aK once=po at*;generalize aK own=pw at*;generalize aK e=pe at*;generalize ([BitVec.ofInt 8 best]:List ai)=bb at*;obtain⟨ty,h0,ch0,q0,n0,rfl⟩:=e0;have :∃ v h',aq prog 103 [.ptr 0 0,.str sec] [bK [.iface ty (.agg []),.str h0,.str ch0,.str q0,.u64 n0,.i64 su,.str own,.str peer,.str psk,.str once,.u32 id]] v h'/\
   (v= .tup [.agg [.str k0,.str k1],.i64 best,.u32 id2,.i64 0]/\h'=[bK [.iface ty (.agg []),.str h0,.str ch0,.str q0,.u64 n0,.i64 su,.str own,.str peer,.str psk,.str once,.u32 id]]):=by
  refine fP (Post:=fun v h'=>v= .tup [.agg [.str k0,.str k1],.i64 best,.u32 id2,.i64 0]/\h'=[bK [.iface ty (.agg []),.str h0,.str ch0,.str q0,.u64 n0,.i64 su,.str own,.str peer,.str psk,.str once,.u32 id]]) ac (fn:=f103) func103 rfl am (ak ?_);simp -implicitDefEqProofs only[go_sem,↓reduceIte,Nat.reduceEqDiff,Nat.reduceLT,Nat.reduceLeDiff,Nat.reduceAdd,Nat.reduceSub,Nat.reduceMul,Nat.reduceMod,Nat.reduceDiv,Int.reduceLE,Int.reduceLT,Int.reduceToNat,Int.reduceAdd,Int.reduceSub,Int.reduceMul,Int.reduceEq,Int.reduceNeg,BitVec.reduceOfInt,BitVec.reduceToNat,BitVec.reduceEq,BitVec.reduceNe,BitVec.reduceLT,reduceCtorEq,dT];repeat refine aJ ?_
  refine au (hf) ?_;simp -implicitDefEqProofs only[go_sem,↓reduceIte,Nat.reduceEqDiff,Nat.reduceLT,Nat.reduceLeDiff,Nat.reduceAdd,Nat.reduceSub,Nat.reduceMul,Nat.reduceMod,Nat.reduceDiv,Int.reduceLE,Int.reduceLT,Int.reduceToNat,Int.reduceAdd,Int.reduceSub,Int.reduceMul,Int.reduceEq,Int.reduceNeg,BitVec.reduceOfInt,BitVec.reduceToNat,BitVec.reduceEq,BitVec.reduceNe,BitVec.reduceLT,reduceCtorEq,dT,q1,q6,ne_eq,not_true,decide_false,decide_true];simp -implicitDefEqProofs only[go_sem,↓reduceIte,Nat.reduceEqDiff,Nat.reduceLT,Nat.reduceLeDiff,Nat.reduceAdd,Nat.reduceSub,Nat.reduceMul,Nat.reduceMod,Nat.reduceDiv,Int.reduceLE,Int.reduceLT,Int.reduceToNat,Int.reduceAdd,Int.reduceSub,Int.reduceMul,Int.reduceEq,Int.reduceNeg,BitVec.reduceOfInt,BitVec.reduceToNat,BitVec.reduceEq,BitVec.reduceNe,BitVec.reduceLT,reduceCtorEq,dT,q1,q2,q3,q4,q5,q6,ne_eq,not_true,decide_false,decide_true];repeat refine aJ ?_
  refine aX (hLi) ?_;simp -implicitDefEqProofs only[go_sem,↓reduceIte,Nat.reduceEqDiff,Nat.reduceLT,Nat.reduceLeDiff,Nat.reduceAdd,Nat.reduceSub,Nat.reduceMul,Nat.reduceMod,Nat.reduceDiv,Int.reduceLE,Int.reduceLT,Int.reduceToNat,Int.reduceAdd,Int.reduceSub,Int.reduceMul,Int.reduceEq,Int.reduceNeg,BitVec.reduceOfInt,BitVec.reduceToNat,BitVec.reduceEq,BitVec.reduceNe,BitVec.reduceLT,reduceCtorEq,dT,hid,ne_eq,not_true,decide_false,decide_true];simp -implicitDefEqProofs only[go_sem,↓reduceIte,Nat.reduceEqDiff,Nat.reduceLT,Nat.reduceLeDiff,Nat.reduceAdd,Nat.reduceSub,Nat.reduceMul,Nat.reduceMod,Nat.reduceDiv,Int.reduceLE,Int.reduceLT,Int.reduceToNat,Int.reduceAdd,Int.reduceSub,Int.reduceMul,Int.reduceEq,Int.reduceNeg,BitVec.reduceOfInt,BitVec.reduceToNat,BitVec.reduceEq,BitVec.reduceNe,BitVec.reduceLT,reduceCtorEq,dT,q1,q2,q3,q4,q5,q6,ne_eq,not_true,decide_false,decide_true];repeat refine aJ ?_
  refine aS [3,2] (hbo) ac ae rfl ae aM ae ae ae ae ae ?_;simp -implicitDefEqProofs only[go_sem,↓reduceIte,Nat.reduceEqDiff,Nat.reduceLT,Nat.reduceLeDiff,Nat.reduceAdd,Nat.reduceSub,Nat.reduceMul,Nat.reduceMod,Nat.reduceDiv,Int.reduceLE,Int.reduceLT,Int.reduceToNat,Int.reduceAdd,Int.reduceSub,Int.reduceMul,Int.reduceEq,Int.reduceNeg,BitVec.reduceOfInt,BitVec.reduceToNat,BitVec.reduceEq,BitVec.reduceNe,BitVec.reduceLT,reduceCtorEq,dT,r1];repeat refine aJ ?_
  refine aS [3,2] (hse) ac (by simp[r1,l1]) rfl (by simp[r1,l1]) aM (by simp[r1,l1]) (by simp[r1,l1]) (by simp[r1,l1]) (by simp[r1,l1]) ae ?_;simp -implicitDefEqProofs only[go_sem,↓reduceIte,Nat.reduceEqDiff,Nat.reduceLT,Nat.reduceLeDiff,Nat.reduceAdd,Nat.reduceSub,Nat.reduceMul,Nat.reduceMod,Nat.reduceDiv,Int.reduceLE,Int.reduceLT,Int.reduceToNat,Int.reduceAdd,Int.reduceSub,Int.reduceMul,Int.reduceEq,Int.reduceNeg,BitVec.reduceOfInt,BitVec.reduceToNat,BitVec.reduceEq,BitVec.reduceNe,BitVec.reduceLT,reduceCtorEq,dT,r2];repeat refine aJ ?_
  refine aS [3,2] (hs5) ac (by simp[r2,l2]) rfl (by simp[r2,l2]) aM (by simp[r2,l2]) (by simp[r2,l2]) (by simp[r2,l2]) (by simp[r2,l2]) ae ?_;simp -implicitDefEqProofs only[go_sem,↓reduceIte,Nat.reduceEqDiff,Nat.reduceLT,Nat.reduceLeDiff,Nat.reduceAdd,Nat.reduceSub,Nat.reduceMul,Nat.reduceMod,Nat.reduceDiv,Int.reduceLE,Int.reduceLT,Int.reduceToNat,Int.reduceAdd,Int.reduceSub,Int.reduceMul,Int.reduceEq,Int.reduceNeg,BitVec.reduceOfInt,BitVec.reduceToNat,BitVec.reduceEq,BitVec.reduceNe,BitVec.reduceLT,reduceCtorEq,dT,r3];repeat refine aJ ?_
  refine iq [2] (hmb) ac (by simp[r3,l3]) rfl (by simp[r3,l3]) aM (by simp[r3,l3]) (by simp[r3,l3]) (by simp[r3,l3]) (by simp[r3,l3]) ae ?_;simp -implicitDefEqProofs only[go_sem,↓reduceIte,Nat.reduceEqDiff,Nat.reduceLT,Nat.reduceLeDiff,Nat.reduceAdd,Nat.reduceSub,Nat.reduceMul,Nat.reduceMod,Nat.reduceDiv,Int.reduceLE,Int.reduceLT,Int.reduceToNat,Int.reduceAdd,Int.reduceSub,Int.reduceMul,Int.reduceEq,Int.reduceNeg,BitVec.reduceOfInt,BitVec.reduceToNat,BitVec.reduceEq,BitVec.reduceNe,BitVec.reduceLT,reduceCtorEq,dT,r4];simp -implicitDefEqProofs only[go_sem,↓reduceIte,Nat.reduceEqDiff,Nat.reduceLT,Nat.reduceLeDiff,Nat.reduceAdd,Nat.reduceSub,Nat.reduceMul,Nat.reduceMod,Nat.reduceDiv,Int.reduceLE,Int.reduceLT,Int.reduceToNat,Int.reduceAdd,Int.reduceSub,Int.reduceMul,Int.reduceEq,Int.reduceNeg,BitVec.reduceOfInt,BitVec.reduceToNat,BitVec.reduceEq,BitVec.reduceNe,BitVec.reduceLT,reduceCtorEq,dT,q1,q2,q3,q4,q5,q6,ne_eq,not_true,decide_false,decide_true];repeat refine aJ ?_
  refine aS [3,2] (hs7) ac (by simp[r4,l4]) rfl (by simp[r4,l4]) aM (by simp[r4,l4]) (by simp[r4,l4]) (by simp[r4,l4]) (by simp[r4,l4]) ae ?_;simp -implicitDefEqProofs only[go_sem,↓reduceIte,Nat.reduceEqDiff,Nat.reduceLT,Nat.reduceLeDiff,Nat.reduceAdd,Nat.reduceSub,Nat.reduceMul,Nat.reduceMod,Nat.reduceDiv,Int.reduceLE,Int.reduceLT,Int.reduceToNat,Int.reduceAdd,Int.reduceSub,Int.reduceMul,Int.reduceEq,Int.reduceNeg,BitVec.reduceOfInt,BitVec.reduceToNat,BitVec.reduceEq,BitVec.reduceNe,BitVec.reduceLT,reduceCtorEq,dT,r5];repeat refine aJ ?_
  simp -implicitDefEqProofs only[go_sem,↓reduceIte,Nat.reduceEqDiff,Nat.reduceLT,Nat.reduceLeDiff,Nat.reduceAdd,Nat.reduceSub,Nat.reduceMul,Nat.reduceMod,Nat.reduceDiv,Int.reduceLE,Int.reduceLT,Int.reduceToNat,Int.reduceAdd,Int.reduceSub,Int.reduceMul,Int.reduceEq,Int.reduceNeg,BitVec.reduceOfInt,BitVec.reduceToNat,BitVec.reduceEq,BitVec.reduceNe,BitVec.reduceLT,reduceCtorEq,dT,w2,w3,ne_eq,not_true,decide_false,decide_true];repeat refine aJ ?_
  refine au (vj best) ?_;simp -implicitDefEqProofs only[go_sem,↓reduceIte,Nat.reduceEqDiff,Nat.reduceLT,Nat.reduceLeDiff,Nat.reduceAdd,Nat.reduceSub,Nat.reduceMul,Nat.reduceMod,Nat.reduceDiv,Int.reduceLE,Int.reduceLT,Int.reduceToNat,Int.reduceAdd,Int.reduceSub,Int.reduceMul,Int.reduceEq,Int.reduceNeg,BitVec.reduceOfInt,BitVec.reduceToNat,BitVec.reduceEq,BitVec.reduceNe,BitVec.reduceLT,reduceCtorEq,dT,hb',jI];repeat refine aJ ?_
  refine aS [2] (hsp) ac (by simp[r5,l5]) rfl (by simp[r5,l5]) aM (by simp[r5,l5]) (by simp[r5,l5]) (by simp[r5,l5]) (by simp[r5,l5]) ae ?_;simp -implicitDefEqProofs only[go_sem,↓reduceIte,Nat.reduceEqDiff,Nat.reduceLT,Nat.reduceLeDiff,Nat.reduceAdd,Nat.reduceSub,Nat.reduceMul,Nat.reduceMod,Nat.reduceDiv,Int.reduceLE,Int.reduceLT,Int.reduceToNat,Int.reduceAdd,Int.reduceSub,Int.reduceMul,Int.reduceEq,Int.reduceNeg,BitVec.reduceOfInt,BitVec.reduceToNat,BitVec.reduceEq,BitVec.reduceNe,BitVec.reduceLT,reduceCtorEq,dT,r5];simp -implicitDefEqProofs only[go_sem,↓reduceIte,Nat.reduceEqDiff,Nat.reduceLT,Nat.reduceLeDiff,Nat.reduceAdd,Nat.reduceSub,Nat.reduceMul,Nat.reduceMod,Nat.reduceDiv,Int.reduceLE,Int.reduceLT,Int.reduceToNat,Int.reduceAdd,Int.reduceSub,Int.reduceMul,Int.reduceEq,Int.reduceNeg,BitVec.reduceOfInt,BitVec.reduceToNat,BitVec.reduceEq,BitVec.reduceNe,BitVec.reduceLT,reduceCtorEq,dT,q1,q2,q3,q4,q5,q6,ne_eq,not_true,decide_false,decide_true];repeat refine aJ ?_
  refine aX (hLi2) ?_;simp -implicitDefEqProofs only[go_sem,↓reduceIte,Nat.reduceEqDiff,Nat.reduceLT,Nat.reduceLeDiff,Nat.reduceAdd,Nat.reduceSub,Nat.reduceMul,Nat.reduceMod,Nat.reduceDiv,Int.reduceLE,Int.reduceLT,Int.reduceToNat,Int.reduceAdd,Int.reduceSub,Int.reduceMul,Int.reduceEq,Int.reduceNeg,BitVec.reduceOfInt,BitVec.reduceToNat,BitVec.reduceEq,BitVec.reduceNe,BitVec.reduceLT,reduceCtorEq,dT,hid2];repeat refine aJ ?_
  refine⟨_,_,?_,Fin.take 1 ae ae (by simp[eL,bD,af,V.low,oF,-List.map_take,-List.map_drop,-List.map_map,-List.map_set,w2]) (by simp[eL,bD,af,V.low,oF,-List.map_take,-List.map_drop,-List.map_map,-List.map_set,w2])⟩;exact⟨by rw[w2],rfl⟩
 obtain⟨_,_,hs,rfl,rfl⟩:=this;exact hs
end
end
theorem Db (u c:List ai):aG prog 129 [.str u,.str c] (.i64 (if u.length=32/\(c=[]\/c.length=16) then 0 else 1)):=by
 refine aQ ac (fn:=f129) ac func129 rfl am (by simp[af,V.low]) (by simp[V.low]) (ak ?_);simp -implicitDefEqProofs only[go_sem,seval,ntmps129];by_cases h1:(u.length:Int)=32
 ·by_cases h2:c=[]
  ·subst h2;have h1':u.length=32:=aa;simp -implicitDefEqProofs only[go_sem,seval,h1',not_true,decide_false,true_and,true_or]
  ·by_cases b:(c.length:Int)=16
   ·have h1':u.length=32:=aa;have a:c.length=16:=aa;simp -implicitDefEqProofs only[go_sem,seval,h1',h2,a,not_true,not_false_eq_true,decide_true,decide_false,true_and,or_true]
   ·have a:¬ c.length=16:=aa;simp -implicitDefEqProofs only[go_sem,seval,h1,h2,b,a,not_true,not_false_eq_true,decide_true,decide_false,or_self,and_false]
 ·have h1':¬ u.length=32:=aa;simp -implicitDefEqProofs only[go_sem,seval,h1,h1',not_false_eq_true,decide_true,false_and]
end Go.Vm
end
section
namespace Go.Vm
open Go.Proofs
end Go.Vm
end
section
namespace Go.Vm
open Go.Proofs Go.Proofs.Tryz
section
theorem Ey (key x:List ai)(m:Nat)(c:1<=m/\m<=32)(d:key.length<=32)(a:x.length<=1099511627776):∃ o:List ai,aG prog 131 [.str key,.str x,.i64 m] (.str o)/\o.length=m:=by
 obtain⟨_,h1,b⟩:=Ky key x m aa a;rcases b with⟨rfl,h⟩|⟨-,g,-,o,e,rfl⟩
 ·omega
 ·refine⟨o,?_,aa⟩;refine aQ ac (fn:=f131) ac func131 rfl am (by simp[af,V.low]) (by simp[V.low]) (ak ?_);simp -implicitDefEqProofs only[go_sem,seval,ntmps131];refine au (h1) ?_;simp -implicitDefEqProofs only[go_sem,seval]
theorem VB (u x:List ai)(d:u.length<=549755813888)(b:x.length<=1099511627776):∃ o:List ai,aG prog 130 [.str u,.str x] (.str o)/\o.length=16:=by
 have e:(bytesOf ⟨#[109,97,114,107,45,45,45,45]⟩).length=8:=by rw[kF];rfl
 obtain⟨o,h1,f⟩:=Ey [] (bytesOf ⟨#[109,97,114,107,45,45,45,45]⟩++u) 32 ah ae (by rw[aE];omega);obtain⟨c,h2,a⟩:=Ey o x 16 ah aa b;refine⟨c,?_,a⟩;refine aQ ac (fn:=f130) ac func130 rfl am (by simp[af,V.low]) (by simp[V.low]) (ak ?_);simp -implicitDefEqProofs only[go_sem,seval,ntmps130];repeat refine aJ ?_
 refine au (h1) ?_;simp -implicitDefEqProofs only[go_sem,seval];refine au (h2) ?_;simp -implicitDefEqProofs only[go_sem,seval]
open Classical in
noncomputable def bX (u x:List ai):List ai:=if h:∃ o:List ai,aG prog 130 [.str u,.str x] (.str o)/\o.length=16 then h.choose else[]
theorem yL (u x:List ai)(a:u.length<=549755813888)(b:x.length<=1099511627776):aG prog 130 [.str u,.str x] (.str (bX u x))/\(bX u x).length=16:=by
 have h:=VB u x a b;unfold bX;rw[dif_pos h];exact h.choose_spec
noncomputable def marked (u x:List ai):List ai:=x++bX u x++List.replicate 16 0#8
theorem Nr (u x:List ai)(hu:u.length=32)(c:x.length<=10000000):aG prog 127 [.str u,.str [],.str x] (.tup [.str (marked u x),.i64 0]):=by
 have a:=Db u [];rw[if_pos ⟨hu,.inl rfl⟩] at a;obtain⟨b,d⟩:=yL u x aa aa;unfold marked;generalize bX u x=o at*;refine aQ ac (fn:=f127) ac func127 rfl am (by simp[af,V.low]) (by simp[af,V.low]) (ak ?_);simp -implicitDefEqProofs only[go_sem,seval,ntmps127];refine au (a) ?_;simp -implicitDefEqProofs only[go_sem,seval];refine au (b) ?_;simp -implicitDefEqProofs only[go_sem,seval];repeat refine aJ ?_
 refine au (vD 16 ah) ?_;simp -implicitDefEqProofs only[go_sem,seval];omega
end
end Go.Vm
end
section
namespace Go.Vm
open Go.Proofs
end Go.Vm
end
section
namespace Go.Vm
open Go.Proofs Go.Proofs.Tryz
def lk (next:Int)(bits:BitVec 64)(n:Int):Int:=
 if n<0\/1099511627776<n then 1 else if next-1-n<0 then 0 else if 64<=next-1-n\/bits>>>(next-1-n).toNat&&&1#64=1#64 then 11 else 0
def rI (next n:Int):Int:=if next<=n then n+1 else next
def yG (next:Int)(bits:BitVec 64)(n:Int):BitVec 64:=
 if next<=n then bits<<<(if 64<n+1-next then 64 else n+1-next).toNat|||1#64<<<0 else bits|||1#64<<<(next-1-n).toNat
theorem KD:aq prog 164 [] [] (.ptr 0 0) [bK [.i64 0,.u64 0#64]]:=by
 refine bf ac (fn:=f164) func164 rfl am (ak ?_);simp only[go_sem,seval,ntmps164,results164];exact Fin.ren [0] ae ae aZ ah ae ae
theorem zA (next:Int)(bits:BitVec 64)(n:Int)(h0:0<=next)(h1:next<=1099511627777):aq prog 166 [.ptr 0 0,.i64 n] [bK [.i64 next,.u64 bits]] (.i64 (lk next bits n)) [bK [.i64 next,.u64 bits]]:=by
 unfold lk;by_cases h2:n<0
 ·refine bf ac (fn:=f166) func166 rfl am (ak ?_);simp only[go_sem,seval,ntmps166,results166,h2,true_or];exact Fin.ren [0] ae ae aZ ah ae ae
 ·by_cases a:1099511627776<n
  ·refine bf ac (fn:=f166) func166 rfl am (ak ?_);simp only[go_sem,seval,ntmps166,results166,h2,a,false_or];exact Fin.ren [0] ae ae aZ ah ae ae
  ·have b:ao (next-1)=next-1:=az aa aa;have c:ao (next-1-n)=next-1-n:=az aa aa;by_cases d:next-1-n<0
   ·refine bf ac (fn:=f166) func166 rfl am (ak ?_);simp only[go_sem,seval,ntmps166,results166,h2,a,false_or,b,c,d];exact Fin.ren [0] ae ae aZ ah ae ae
   ·by_cases e:64<=next-1-n
    ·refine bf ac (fn:=f166) func166 rfl am (ak ?_);simp only[go_sem,seval,ntmps166,results166,h2,a,false_or,b,c,d,e,true_or];exact Fin.ren [0] ae ae aZ ah ae ae
    ·refine bf ac (fn:=f166) func166 rfl am (ak ?_);simp only[go_sem,seval,ntmps166,results166,h2,a,false_or,b,c,d,e];refine⟨aa,?_⟩;split
     ·exact Fin.ren [0] ae ae aZ ah ae ae
     ·exact Fin.ren [0] ae ae aZ ah ae ae
theorem Ow (next:Int)(bits:BitVec 64)(n:Int)(h0:0<=next)(h1:next<=1099511627777)(h:lk next bits n=0):aq prog 168 [.ptr 0 0,.i64 n] [bK [.i64 next,.u64 bits]] (.i64 0) [bK [.i64 (rI next n),.u64 (yG next bits n)]]:=by
 have i:0<=n/\n<=1099511627776:=by
  unfold lk at h;by_cases h2:n<0\/1099511627776<n
  ·rw[if_pos h2] at h;omega
  ·omega
 have b:ao (next-1)=next-1:=az aa aa;have c:ao (next-1-n)=next-1-n:=az aa aa;have d:ao (n+1)=n+1:=az aa aa;have e:ao (n+1-next)=n+1-next:=az aa aa;have f:ao (n+1-1)=n:=by rw[az aa aa];omega
 have g:ao (n-n)=0:=by rw[az aa aa];omega
 unfold rI yG;refine bf ac (fn:=f168) func168 rfl am (ak ?_);simp only[go_sem,seval,ntmps168];refine aS [0] (zA next bits n h0 h1) ac ae rfl ae aM ae ae ae ae ae ?_;simp only[go_sem,seval,h];by_cases h2:next<=n
 ·have a:0<=(if 64<n+1-next then 64 else n+1-next):=by split <;>omega
  simp only[go_sem,seval,h2,d,e,a,f,g];refine⟨ac,ac,?_⟩;exact Fin.ren [0] ae ae aZ ah ae ae
 ·have a:0<=next-1-n:=aa;simp only[go_sem,seval,h2,b,c,a];refine⟨ac,?_⟩;exact Fin.ren [0] ae ae aZ ah ae ae
def nZ (bo se now:Int):Bool:=if bo+180<=now then true else decide (1000<=se)
def Ec (bo se:Int)(fs:Bool)(now:Int):Bool:=if nZ bo se now=true then true else if fs=true then decide (bo+120<=now) else false
theorem vo (sd rc:List (BitVec 8))(s bo se:Int)(fs:Bool)(next:Int)(bits:BitVec 64)(now m:Int)(c:0<=bo)(a:bo<=1099511627776)(d:0<=m)(b:m<=1000):
  aq prog 88 [.ptr 0 0,.i64 now,.i64 m] [bK [.ptr 1 0,.str sd,.str rc,.i64 s,.i64 bo,.i64 se,.bool fs],bK [.i64 next,.u64 bits]] (.bool (decide (bo+m<=now))) [bK [.ptr 1 0,.str sd,.str rc,.i64 s,.i64 bo,.i64 se,.bool fs],bK [.i64 next,.u64 bits]]:=by
 have e:ao (bo+m)=bo+m:=az aa aa;refine bf ac (fn:=f88) func88 rfl am (ak ?_);simp only[go_sem,seval,ntmps88,results88,e];exact Fin.ren [0,1] ae ae aZ ah ae ae
theorem yC (sd rc:List (BitVec 8))(s bo se:Int)(fs:Bool)(next:Int)(bits:BitVec 64)(now:Int)(c:0<=bo)(b:bo<=1099511627776):
  aq prog 62 [.ptr 0 0,.i64 now] [bK [.ptr 1 0,.str sd,.str rc,.i64 s,.i64 bo,.i64 se,.bool fs],bK [.i64 next,.u64 bits]] (.bool (nZ bo se now)) [bK [.ptr 1 0,.str sd,.str rc,.i64 s,.i64 bo,.i64 se,.bool fs],bK [.i64 next,.u64 bits]]:=by
 have a:=vo sd rc s bo se fs next bits now 180 c b ah ah;unfold nZ;by_cases h:bo+180<=now
 ·have h':=eq_true h;rw[decide_eq_true h] at a;refine bf ac (fn:=f62) func62 rfl am (ak ?_);simp only[go_sem,seval,ntmps62];refine aS [0,1] (a) ac ae rfl ae aM ae ae ae ae ae ?_;simp only[go_sem,seval,h'];exact Fin.ren [0,1] ae ae aZ ah ae ae
 ·have h':=eq_false h;rw[decide_eq_false h] at a;refine bf ac (fn:=f62) func62 rfl am (ak ?_);simp only[go_sem,seval,ntmps62];refine aS [0,1] (a) ac ae rfl ae aM ae ae ae ae ae ?_;simp only[go_sem,seval,h'];exact Fin.ren [0,1] ae ae aZ ah ae ae
theorem LX (sd rc:List (BitVec 8))(s bo se:Int)(fs:Bool)(next:Int)(bits:BitVec 64)(now:Int)(c:0<=bo)(a:bo<=1099511627776):
  aq prog 66 [.ptr 0 0,.i64 now] [bK [.ptr 1 0,.str sd,.str rc,.i64 s,.i64 bo,.i64 se,.bool fs],bK [.i64 next,.u64 bits]] (.bool (Ec bo se fs now)) [bK [.ptr 1 0,.str sd,.str rc,.i64 s,.i64 bo,.i64 se,.bool fs],bK [.i64 next,.u64 bits]]:=by
 have b:=yC sd rc s bo se fs next bits now c a;have d:=vo sd rc s bo se fs next bits now 120 c a ah ah;unfold Ec;generalize nZ bo se now=o at*;cases o
 ·cases fs
  ·refine bf ac (fn:=f66) func66 rfl am (ak ?_);simp only[go_sem,seval,ntmps66];refine aS [0,1] (b) ac ae rfl ae aM ae ae ae ae ae ?_;simp only[go_sem,seval];exact Fin.ren [0,1] ae ae aZ ah ae ae
  ·refine bf ac (fn:=f66) func66 rfl am (ak ?_);simp only[go_sem,seval,ntmps66];refine aS [0,1] (b) ac ae rfl ae aM ae ae ae ae ae ?_;simp only[go_sem,seval];refine aS [0,1] (d) ac ae rfl ae aM ae ae ae ae ae ?_;simp only[go_sem,seval];exact Fin.ren [0,1] ae ae aZ ah ae ae
 ·refine bf ac (fn:=f66) func66 rfl am (ak ?_);simp only[go_sem,seval,ntmps66];refine aS [0,1] (b) ac ae rfl ae aM ae ae ae ae ae ?_;simp only[go_sem,seval];exact Fin.ren [0,1] ae ae aZ ah ae ae
theorem aeV (sd rc:List (BitVec 8))(s bo se:Int)(fs:Bool)(next:Int)(bits:BitVec 64)(c:s=1\/s=2)(t:List (BitVec 8))(now:Int)(d:0<=bo)(a:bo<=1099511627776)(e:0<=se)(b:se<=100000)(f:nZ bo se now=false)(h:(ij s sd (cA s (BitVec.ofInt 64 se)) [] t).2=0):
  aq prog 63 [.ptr 0 0,.str t,.i64 now] [bK [.ptr 1 0,.str sd,.str rc,.i64 s,.i64 bo,.i64 se,.bool fs],bK [.i64 next,.u64 bits]] (.tup [.i64 se,.str (ij s sd (cA s (BitVec.ofInt 64 se)) [] t).1,.i64 0]) [bK [.ptr 1 0,.str sd,.str rc,.i64 s,.i64 bo,.i64 (se+1),.bool fs],bK [.i64 next,.u64 bits]]:=by
 have h1:=yC sd rc s bo se fs next bits now d a;rw[f] at h1;have h2:=Yj c sd [] t (BitVec.ofInt 64 se);generalize ij s sd (cA s (BitVec.ofInt 64 se)) [] t=g at*;have i:ao (se+1)=se+1:=az aa aa;have j:ao (se+1-1)=se:=by rw[az aa aa];omega
 refine bf ac (fn:=f63) func63 rfl am (ak ?_);simp only[go_sem,seval,ntmps63];refine aS [0,1] (h1) ac ae rfl ae aM ae ae ae ae ae ?_;simp only[go_sem,seval];refine aX (h2) ?_;simp only[go_sem,seval,h,i,j];refine⟨ac,?_⟩;exact Fin.ren [0,1] ae ae aZ ah ae ae
theorem QZ (sd rc:List (BitVec 8))(s bo se:Int)(fs:Bool)(next:Int)(bits:BitVec 64)(d:s=1\/s=2)(n:Int)(t:List (BitVec 8))(now:Int)(e:0<=bo)(c:bo<=1099511627776)(a:0<=next)(b:next<=1099511627777)(f:¬ bo+180<=now)(hc:lk next bits n=0)(h:(iG s rc (cA s (BitVec.ofInt 64 n)) [] t).2=0):
  aq prog 148 [.ptr 0 0,.i64 n,.str t,.i64 now] [bK [.ptr 1 0,.str sd,.str rc,.i64 s,.i64 bo,.i64 se,.bool fs],bK [.i64 next,.u64 bits]] (.tup [.str (iG s rc (cA s (BitVec.ofInt 64 n)) [] t).1,.i64 0]) [bK [.ptr 1 0,.str sd,.str rc,.i64 s,.i64 bo,.i64 se,.bool fs],bK [.i64 (rI next n),.u64 (yG next bits n)]]:=by
 have h1:=vo sd rc s bo se fs next bits now 180 e c ah ah;rw[decide_eq_false f] at h1;have h2:=Jx d rc [] t (BitVec.ofInt 64 n);generalize iG s rc (cA s (BitVec.ofInt 64 n)) [] t=g at*;refine bf ac (fn:=f148) func148 rfl am (ak ?_);simp only[go_sem,seval,ntmps148];refine aS [0,1] (h1) ac ae rfl ae aM ae ae ae ae ae ?_;simp only[go_sem,seval];refine aS [1] (zA next bits n a b) ac ae rfl ae aM ae ae ae ae ae ?_;simp only[go_sem,seval,hc];refine aX (h2) ?_;simp only[go_sem,seval,h];refine⟨ac,?_⟩;refine aS [1] (Ow next bits n a b hc) ac ae rfl ae aM ae ae ae ae ae ?_;simp only[go_sem,seval];exact Fin.ren [0,1] ae ae aZ ah ae ae
def mP (s:Int)(k:List ai)(n:Int)(t:List ai):List ai:=(ij s k (cA s (BitVec.ofInt 64 n)) [] t).1
theorem GK {s:Int}{k t:List ai}{n:Int}(a:k.length=32)(b:t.length<=2000):(mP s k n t).length=t.length+16:=
 (vX (x:=s) (k:=k) (c:=cA s (BitVec.ofInt 64 n)) (m:=[]) (t:=t) a (xN _ _) ae b).2.1
theorem afK {s:Int}(e:s=1\/s=2){sd:List ai}(rc:List ai)(f:sd.length=32)(bo se:Int)(fs:Bool)(next:Int)(bits:BitVec 64){t:List ai}(g:t.length<=2000)(now:Int)(h:0<=bo)(a:bo<=1099511627776)(i:now<bo+180)(b:0<=se)(d:se<1000):
  aq prog 63 [.ptr 0 0,.str t,.i64 now] [bK [.ptr 1 0,.str sd,.str rc,.i64 s,.i64 bo,.i64 se,.bool fs],bK [.i64 next,.u64 bits]] (.tup [.i64 se,.str (mP s sd se t),.i64 0]) [bK [.ptr 1 0,.str sd,.str rc,.i64 s,.i64 bo,.i64 (se+1),.bool fs],bK [.i64 next,.u64 bits]]:=by
 obtain⟨h1,-,-⟩:=vX (x:=s) (k:=sd) (c:=cA s (BitVec.ofInt 64 se)) (m:=[]) (t:=t) f (xN _ _) ae g;exact aeV sd rc s bo se fs next bits e t now h a b aa (by unfold nZ;rw[if_neg aa];simp;omega) h1
def Bf (k n:Int):Prop:=(k<1\/6<k)\/(n<0\/1099511627776<n)
def tW (w:Bool)(k:Int):Bool:=if k=3 then true else if k=4 then true else if k=5 then false else if k=6 then false else w
def tT (t k:Int):Int:=if k=4 then t+1 else if k=5 then 0 else if k=6 then 0 else t
def tL (l k n:Int):Int:=if k=4 then n else if k=6 then 0 else l
def tO (o:Bool)(k:Int):Bool:=if k=1 then false else if k=2 then true else if k=6 then false else o
def tU (o:Bool)(u k n:Int):Int:=if k=2 then(if o=true then u else n) else if k=6 then 0 else u
theorem acj (w:Bool)(t l:Int)(o:Bool)(u k n:Int)(c:0<=t)(a:t<=140737488355328)(h:¬ Bf k n):aq prog 47 [.ptr 0 0,.i64 k,.i64 n] [bK [.bool w,.i64 t,.i64 l,.bool o,.i64 u]] (.i64 0) [bK [.bool (tW w k),.i64 (tT t k),.i64 (tL l k n),.bool (tO o k),.i64 (tU o u k n)]]:=by
 unfold Bf at h;have h1:¬ n<0:=aa;have h2:¬ 1099511627776<n:=aa;have b:ao (t+1)=t+1:=az aa aa;rcases(by omega :k=1\/k=2\/k=3\/k=4\/k=5\/k=6) with rfl|rfl|rfl|rfl|rfl|rfl
 ·refine bf ac (fn:=f47) func47 rfl am (ak ?_);simp only[go_sem,seval,ntmps47,results47,h1,h2];exact Fin.ren [0] ae ae aZ ah ae (by simp[tW,tT,tL,tO,tU])
 ·cases o
  ·refine bf ac (fn:=f47) func47 rfl am (ak ?_);simp only[go_sem,seval,ntmps47,results47,h1,h2];exact Fin.ren [0] ae ae aZ ah ae (by simp[tW,tT,tL,tO,tU])
  ·refine bf ac (fn:=f47) func47 rfl am (ak ?_);simp only[go_sem,seval,ntmps47,results47,h1,h2];exact Fin.ren [0] ae ae aZ ah ae (by simp[tW,tT,tL,tO,tU])
 ·refine bf ac (fn:=f47) func47 rfl am (ak ?_);simp only[go_sem,seval,ntmps47,results47,h1,h2];exact Fin.ren [0] ae ae aZ ah ae (by simp[tW,tT,tL,tO,tU])
 ·refine bf ac (fn:=f47) func47 rfl am (ak ?_);simp only[go_sem,seval,ntmps47,results47,h1,h2,b];exact Fin.ren [0] ae ae aZ ah ae (by simp[tW,tT,tL,tO,tU])
 ·refine bf ac (fn:=f47) func47 rfl am (ak ?_);simp only[go_sem,seval,ntmps47,results47,h1,h2];exact Fin.ren [0] ae ae aZ ah ae (by simp[tW,tT,tL,tO,tU])
 ·refine bf ac (fn:=f47) func47 rfl am (ak ?_);simp only[go_sem,seval,ntmps47,results47,h1,h2];exact Fin.ren [0] ae ae aZ ah ae (by simp[tW,tT,tL,tO,tU])
def AA (w:Bool)(t l:Int)(o:Bool)(u now:Int):Int:=
 if w=true/\t=0 then 1 else if w=true/\l+5<=now then(if t=6 then 3 else 1) else if o=true/\u+10<=now then 2 else 0
theorem Vg (w:Bool)(t l:Int)(o:Bool)(u now:Int)(e:0<=l/\l<=1099511627776)(hu:0<=u/\u<=1099511627776):aq prog 67 [.ptr 0 0,.i64 now] [bK [.bool w,.i64 t,.i64 l,.bool o,.i64 u]] (.i64 (AA w t l o u now)) [bK [.bool w,.i64 t,.i64 l,.bool o,.i64 u]]:=by
 have a:ao (l+5)=l+5:=az aa aa;have c:ao (u+10)=u+10:=az aa aa;unfold AA;cases w
 ·cases o
  ·refine bf ac (fn:=f67) func67 rfl am (ak ?_);simp only[go_sem,seval,ntmps67,results67,true_and,ct,false_and];exact Fin.ren [0] ae ae aZ ah ae ae
  ·by_cases b:u+10<=now
   ·refine bf ac (fn:=f67) func67 rfl am (ak ?_);simp only[go_sem,seval,ntmps67,results67,c,true_and,b,ct,false_and];exact Fin.ren [0] ae ae aZ ah ae ae
   ·refine bf ac (fn:=f67) func67 rfl am (ak ?_);simp only[go_sem,seval,ntmps67,results67,c,true_and,b,ct,false_and,and_false];exact Fin.ren [0] ae ae aZ ah ae ae
 ·by_cases h1:t=0
  ·refine bf ac (fn:=f67) func67 rfl am (ak ?_);simp only[go_sem,seval,ntmps67,results67,h1];exact Fin.ren [0] ae ae aZ ah ae ae
  ·by_cases h2:l+5<=now
   ·by_cases d:t=6
    ·refine bf ac (fn:=f67) func67 rfl am (ak ?_);simp only[go_sem,seval,ntmps67,results67,a,h2,d,ct,and_false];exact Fin.ren [0] ae ae aZ ah ae ae
    ·refine bf ac (fn:=f67) func67 rfl am (ak ?_);simp only[go_sem,seval,ntmps67,results67,a,h1,h2,d,ct,and_false];exact Fin.ren [0] ae ae aZ ah ae ae
   ·cases o
    ·refine bf ac (fn:=f67) func67 rfl am (ak ?_);simp only[go_sem,seval,ntmps67,results67,a,h1,h2,ct,false_and,and_false];exact Fin.ren [0] ae ae aZ ah ae ae
    ·by_cases b:u+10<=now
     ·refine bf ac (fn:=f67) func67 rfl am (ak ?_);simp only[go_sem,seval,ntmps67,results67,a,c,h1,h2,b,ct,and_false];exact Fin.ren [0] ae ae aZ ah ae ae
     ·refine bf ac (fn:=f67) func67 rfl am (ak ?_);simp only[go_sem,seval,ntmps67,results67,a,c,h1,h2,b,ct,and_false];exact Fin.ren [0] ae ae aZ ah ae ae
end Go.Vm
end
section
namespace Go.Vm
open Go.Proofs
section
structure FiP where
 su:Int
 q:List ai
 once:List ai
 own:List ai
 sec:Int
 nano:Int
 best:Int
 id:BitVec 32
noncomputable def FiP.text (f:FiP):List ai:=fT f.su f.q f.once f.own f.sec f.nano f.best f.id
noncomputable def FiP.st (f:FiP):HS:=jN f.su f.q f.once f.own f.sec f.nano f.best
noncomputable def FiP.cs (f:FiP) (psk:List ai):List V:=f.st.cs f.su++[.i64 f.su,.str f.own,.str (aK f.q),.str psk,.str f.once,.u32 f.id]
structure FiP.ok (f:FiP):Prop where
 su:f.su=1\/f.su=2
 q:f.q.length=32
 once:f.once.length=32
 own:f.own.length=32
 time:l8 f.sec f.nano
 best:f.best=1\/f.best=2
structure TmS where
 w:Bool
 t:Int
 l:Int
 o:Bool
 u:Int
def TmS.cs (T:TmS):List V:=[.bool T.w,.i64 T.t,.i64 T.l,.bool T.o,.i64 T.u]
def TmS.ev (T:TmS)(k now:Int):TmS:=⟨tW T.w k,tT T.t k,tL T.l k now,tO T.o k,tU T.o T.u k now⟩
def TmS.nx (T:TmS)(now:Int):Int:=AA T.w T.t T.l T.o T.u now
structure TmS.ok (T:TmS):Prop where
 t0:0<=T.t
 t6:T.t<=6
 l:0<=T.l/\T.l<=1099511627776
 u:0<=T.u/\T.u<=1099511627776
structure SeS where
 su:Int
 mine:BitVec 32
 theirs:BitVec 32
 sd:List ai
 rc:List ai
 bo:Int
 se:Int
 fs:Bool
 nx:Int
 bits:BitVec 64
structure SeS.ok (S:SeS):Prop where
 su:S.su=1\/S.su=2
 sd:S.sd.length=32
 rc:S.rc.length=32
 bo:0<=S.bo/\S.bo<=1099511627776
 se:0<=S.se/\S.se<=1000
 nx:0<=S.nx/\S.nx<=1099511627777
def SeS.pc (S:SeS)(w:Nat):List V:=[.ptr w 0,.str S.sd,.str S.rc,.i64 S.su,.i64 S.bo,.i64 S.se,.bool S.fs]
def SeS.wc (S:SeS):List V:=[.i64 S.nx,.u64 S.bits]
def SeS.sc (S:SeS)(q:Nat):List V:=[.ptr q 0,.i64 S.su,.u32 S.mine,.u32 S.theirs]
structure PeS where
 q:List ai
 num:Int
 pub:List ai
 psk:List ai
 at_:BitVec 32
 kn:Int
 pin:Int
 stp:Bool
 sec:Int
 nano:Int
 ck:List ai
 un:Int
 waits:List (List ai)
 bg:Option FiP
 bi:BitVec 32
 bt:List ai
 ol:Option SeS
 se:Option SeS
 ne:Option SeS
 tm:TmS
def PeS.cs (P:PeS)(d tm:Nat)(wv bg ol se ne:V):List V:=[.ptr d 0,.ptr tm 0,.i64 P.num,.str P.pub,.str P.psk,.u32 P.at_,.i64 P.kn,.i64 P.pin,.bool P.stp,.i64 P.sec,.i64 P.nano,.str P.ck,.i64 P.un,wv,bg,.u32 P.bi,.str P.bt,ol,se,ne]
structure PeS.ok (P:PeS):Prop where
 q:P.q.length=32
 pub:P.pub=aK P.q
 psk:P.psk.length=32
 kn:P.kn=1\/P.kn=2
 pin:P.pin=1\/P.pin=2
 ck:P.ck=[]\/P.ck.length=16
 un:0<=P.un/\P.un<=2099511627776
 wl:P.waits.length<=4
 ws:∀ x∈P.waits,x.length<=2000
 bg:∀ f,P.bg=some f->f.ok
 bt:P.bt.length<=100000
 ol:∀ S,P.ol=some S->S.ok
 se:∀ S,P.se=some S->S.ok
 ne:∀ S,P.ne=some S->S.ok
 tm:P.tm.ok
abbrev Gr:=BitVec 32×BitVec 32×List ai
abbrev Pk:=Int×BitVec 32×List ai
def cg:List Gr->List V
 |[]=>[]
 |(a,b,s)::l=> .u32 a:: .u32 b:: .str s::cg l
def cS:List Pk->List V
 |[]=>[]
 |(a,b,s)::l=> .i64 a:: .u32 b:: .str s::cS l
structure DeS where
 here:BitVec 32
 own:List ai
 pub:List ai
 seed:List ai
 best:Int
 fresh:BitVec 64
 secret:List ai
 index:BitVec 32
 firsts:Int
 now:Int
 busy:Bool
 out:List Gr
 got:List Pk
def DeS.cs (D:DeS)(arr n paths bk:Nat)(out got:V):List V:=[.u32 D.here,.str D.own,.str D.pub,.str D.seed,.i64 D.best,.u64 D.fresh,.str D.secret,.u32 D.index,.i64 D.firsts,.i64 D.now,.bool D.busy,.slice arr 0 n 1,.ptr paths 0,.ptr bk 0,out,got]
structure DeS.ok (D:DeS) (n:Nat):Prop where
 own:D.own.length=32
 pub:D.pub=aK D.own
 seed:D.seed.length=32
 best:D.best=1\/D.best=2
 secret:D.secret.length=32
 now:0<=D.now/\D.now<=1099511627776
 firsts:0<=D.firsts/\D.firsts<=n
 out:D.out.length<=n
 got:D.got.length<=n
def RwAt (K:RK)(H:List (Option Blk))(r:Rl)(v:V)(n:Nat)(cs:List V):Prop:=(v= .nilSlice/\n=0)\/∃ a,v= .slice a 0 n 3/\0<n/\K a=some r/\ag H a=bK cs
def WtAt (K:RK)(H:List (Option Blk))(j i:Nat)(v:V)(l:List (List ai)):Prop:=(v= .nilSlice/\l=[])\/∃ a,v= .slice a 0 l.length 1/\l≠[]/\K a=some (.wt j i)/\ag H a=bK (l.map .str)
def BgAt (K:RK)(H:List (Option Blk))(j i:Nat)(v:V)(psk:List ai):Option FiP->Prop
 |none=>v= .nilPtr
 |some f=>∃ a,v= .ptr a 0/\K a=some (.bg j i)/\ag H a=bK (f.cs psk)
structure SesIn (K:RK) (H:List (Option Blk)) (j i a:Nat) (q w:Nat) (S:SeS):Prop where
 ka:K a=some (.ses j i)
 kq:K q=some (.pair j i a)
 kw:K w=some (.win j i a)
 ga:ag H a=some ⟨false,S.sc q,some ⟨[],0⟩⟩
 gq:ag H q=bK (S.pc w)
 gw:ag H w=bK (S.wc)
def SesAt (K:RK)(H:List (Option Blk))(j i:Nat)(v:V):Option SeS->Prop
 |none=>v= .nilPtr
 |some S=>∃ a q w,v= .ptr a 0/\SesIn K H j i a q w S
def Apart (v v':V):Prop:=v= .nilPtr\/v≠v'
structure PeerAt (K:RK) (H:List (Option Blk)) (j i d p:Nat) (P:PeS) (tm:Nat) (wv bg ol se ne:V):Prop where
 kp:K p=some (.peer j i)
 kt:K tm=some (.tm j i)
 gp:ag H p=bK (P.cs d tm wv bg ol se ne)
 gt:ag H tm=bK (P.tm.cs)
 fwv:WtAt K H j i wv P.waits
 fbg:BgAt K H j i bg P.psk P.bg
 fol:SesAt K H j i ol P.ol
 fse:SesAt K H j i se P.se
 fne:SesAt K H j i ne P.ne
 d1:Apart ol se
 d2:Apart ol ne
 d3:Apart se ne
def PeerIn (K:RK)(H:List (Option Blk))(j i d p:Nat)(P:PeS):Prop:=∃ tm wv bg ol se ne,PeerAt K H j i d p P tm wv bg ol se ne
structure DevAt (K:RK) (H:List (Option Blk)) (j d:Nat) (D:DeS) (arr:Nat) (ps:List Nat) (paths bk:Nat) (out got:V):Prop where
 kd:K d=some (.dev j)
 ka:K arr=some (.parr j)
 g:ag H d=bK (D.cs arr ps.length paths bk out got)
 ga:ag H arr=bK (ps.map (fun p=> .ptr p 0))
 o:RwAt K H (.out j) out D.out.length (cg D.out)
 t:RwAt K H (.got j) got D.got.length (cS D.got)
def fm (K:RK)(H:List (Option Blk))(j d:Nat)(D:DeS)(arr:Nat)(ps:List Nat)(paths bk:Nat):Prop:=∃ out got,DevAt K H j d D arr ps paths bk out got
def qP (j i:Nat):Rl->Prop
 | .dev j'| .out j'| .got j'=>j'=j
 | .peer j' b| .tm j' b| .wt j' b| .bg j' b| .ses j' b| .pair j' b _| .win j' b _=>j'=j/\b=i
 |_=>False
def qO (j:Nat):Rl->Prop
 | .dev j'| .out j'=>j'=j
 |_=>False
def qD (j:Nat):Rl->Prop
 | .dev j'| .parr j'| .out j'| .got j'| .bk j'| .bm j'| .path j'=>j'=j
 | .peer j' _| .tm j' _| .wt j' _| .bg j' _| .ses j' _| .pair j' _ _| .win j' _ _=>j'=j
 |_=>False
theorem re {j i:Nat}:∀ r,qP j i r->qD j r:=fun r h=>by cases r<;>first|exact h|exact h.1|cases h
theorem zm {j i:Nat}:∀ r,qO j r->qP j i r:=fun r h=>by cases r<;>first|exact h|cases h
section
variable {K K0 K':RK}{H H0 H':List (Option Blk)}{j i d p tm q w a arr paths bk n:Nat}{P P':PeS}{D D':DeS}{S S':SeS}{v wv bg ol se ne out got:V}{Q:Rl->Prop}{r:Rl}{cs:List V}{ps:List Nat}
structure Off (Q:Rl->Prop) (K:RK) (H:List (Option Blk)) (K':RK) (H':List (Option Blk)):Prop where
 k:∀ b r,K b=some r->¬ Q r->K' b=some r
 h:∀ b r,K b=some r->¬ Q r->ag H' b=ag H b
theorem Cx.off (h:Cx K H Q K' H'):Off Q K H K' H':=⟨h.stay,fun b r e c=>h.get e (h.old b r e) c⟩
theorem Off.mono {Q2:Rl->Prop}(h:Off Q K H K' H')(f:∀ r,Q r->Q2 r):Off Q2 K H K' H':=⟨fun b r e c=>h.k b r e fun x=>c (f _ x),fun b r e c=>h.h b r e fun x=>c (f _ x)⟩
theorem Off.trans {K2:RK}{H2:List (Option Blk)}(h:Off Q K H K' H')(h2:Off Q K' H' K2 H2):Off Q K H K2 H2:=⟨fun b r e c=>h2.k b r (h.k b r e c) c,fun b r e c=>(h2.h b r (h.k b r e c) c).trans (h.h b r e c)⟩
theorem RwAt.off (h:RwAt K H r v n cs)(b:Off Q K H K' H')(c:¬ Q r):RwAt K' H' r v n cs:=by
 rcases h with h|⟨a,h1,h2,e,f⟩
 ·exact .inl h
 ·exact .inr ⟨a,h1,h2,b.k a _ e c,(b.h a _ e c).trans f⟩
theorem WtAt.off {l:List (List ai)}(h:WtAt K H j i v l)(b:Off Q K H K' H')(c:¬ Q (.wt j i)):WtAt K' H' j i v l:=by
 rcases h with h|⟨a,h1,h2,e,f⟩
 ·exact .inl h
 ·exact .inr ⟨a,h1,h2,b.k a _ e c,(b.h a _ e c).trans f⟩
theorem BgAt.off {psk:List ai}{o:Option FiP}(h:BgAt K H j i v psk o)(b:Off Q K H K' H')(c:¬ Q (.bg j i)):BgAt K' H' j i v psk o:=by
 cases o with
 |none=>exact h
 |some f=>
  obtain⟨a,h1,e,g⟩:=h;exact⟨a,h1,b.k a _ e c,(b.h a _ e c).trans g⟩
theorem SesIn.off (h:SesIn K H j i a q w S)(b:Off Q K H K' H')(h1:¬ Q (.ses j i))(h2:¬ Q (.pair j i a))(c:¬ Q (.win j i a)):SesIn K' H' j i a q w S:=
 ⟨b.k a _ h.ka h1,b.k q _ h.kq h2,b.k w _ h.kw c,(b.h a _ h.ka h1).trans h.ga,(b.h q _ h.kq h2).trans h.gq,(b.h w _ h.kw c).trans h.gw⟩
theorem SesAt.off {o:Option SeS}(h:SesAt K H j i v o)(b:Off Q K H K' H')(h1:¬ Q (.ses j i))(h2:∀ a,v= .ptr a 0->¬ Q (.pair j i a)/\¬ Q (.win j i a)):SesAt K' H' j i v o:=by
 cases o with
 |none=>exact h
 |some S=>
  obtain⟨a,q,w,e,c⟩:=h;exact⟨a,q,w,e,c.off b h1 (h2 a e).1 (h2 a e).2⟩
theorem PeerAt.off (h:PeerAt K H j i d p P tm wv bg ol se ne)(b:Off Q K H K' H')(h1:¬ Q (.peer j i))(h2:¬ Q (.tm j i))(f:¬ Q (.wt j i))(g:¬ Q (.bg j i))(c:¬ Q (.ses j i))(e:∀ a,¬ Q (.pair j i a)/\¬ Q (.win j i a)):PeerAt K' H' j i d p P tm wv bg ol se ne:=
 ⟨b.k p _ h.kp h1,b.k tm _ h.kt h2,(b.h p _ h.kp h1).trans h.gp,(b.h tm _ h.kt h2).trans h.gt,h.fwv.off b f,h.fbg.off b g,h.fol.off b c fun a _=>e a,h.fse.off b c fun a _=>e a,h.fne.off b c fun a _=>e a,h.d1,h.d2,h.d3⟩
theorem PeerAt.timer (h:PeerAt K H j i d p P tm wv bg ol se ne)(b:Off (fun r=>r= .tm j i) K H K' H')(c:K' tm=some (.tm j i)){T:TmS}(e:ag H' tm=bK (T.cs)):PeerAt K' H' j i d p {P with tm:=T} tm wv bg ol se ne:=
 ⟨b.k p _ h.kp ae,c,(b.h p _ h.kp ae).trans h.gp,e,h.fwv.off b ae,h.fbg.off b ae,h.fol.off b ae ae,h.fse.off b ae ae,h.fne.off b ae ae,h.d1,h.d2,h.d3⟩
theorem DevAt.off (h:DevAt K H j d D arr ps paths bk out got)(b:Off Q K H K' H')(h1:¬ Q (.dev j))(h2:¬ Q (.parr j))(c:¬ Q (.out j))(e:¬ Q (.got j)):DevAt K' H' j d D arr ps paths bk out got:=
 ⟨b.k d _ h.kd h1,b.k arr _ h.ka h2,(b.h d _ h.kd h1).trans h.g,(b.h arr _ h.ka h2).trans h.ga,h.o.off b c,h.t.off b e⟩
theorem DevAt.cells (h:DevAt K H j d D arr ps paths bk out got)(b:Off (fun r=>r= .dev j) K H K' H')(c:K' d=some (.dev j))(e:ag H' d=bK (D'.cs arr ps.length paths bk out got))(f:D'.out=D.out)(g:D'.got=D.got):DevAt K' H' j d D' arr ps paths bk out got:=
 ⟨c,b.k arr _ h.ka ae,e,(b.h arr _ h.ka ae).trans h.ga,by rw[f];exact h.o.off b ae,by rw[g];exact h.t.off b ae⟩
end
end
end Go.Vm
end
section
namespace Go.Vm
open Go.Proofs Go.Proofs.Tryz
section
section
variable {P:Program}{f:FuncId}{args:List V}{v:V}{H:List (Option Blk)}{q w:Nat}
theorem xR {b:Nat}{x:Option Blk}{B:Blk}(c:ag H b=some B)(e:x=some B):H.set b x=H:=by
 subst e;have g:=aU c;have h:H[b]?=some (some B):=by
  unfold ag at c;rw[aF g] at c |-
  exact congrArg some c
 rw[aF g] at h;rw[<-kJ h,Ee]
theorem BF {b k d1 d2:List V}(z:aq P f (.ptr 0 0::args) [bK (.ptr 1 0::b),bK k] v [bK (.ptr 1 0::d1),bK d2])(x:ag H q=bK (.ptr w 0::b))(m:ag H w=bK k)(o:q≠w)
  (A:∀ σ,rens σ args=args) (r:∀ n,af n args) (h1:∀ σ,rens σ b=b) (s:∀ n,af n b) (h2:∀ σ,rens σ k=k) (t:∀ n,af n k) (C:∀ σ,rens σ d1=d1) (D:∀ σ,rens σ d2=d2) (E:∀ σ,v.ren σ=v):
  aq P f (.ptr q 0::args) H v ((H.set q (bK (.ptr w 0::d1))).set w (bK d2)):=by
 have J:=aU x;have hw:=aU m;have s0:aw [q,w] 0=q:=rfl;have s1:aw [q,w] 1=w:=rfl;have h:=qa (H:=H) z [q,w] rfl ⟨Nat.zero_lt_two,r 2⟩ (by simp[o]) (fun c hc=>by simp at hc;rcases hc with rfl|rfl<;>assumption) (fun c B e=>by
  match c with
  |0=>
   have u:bK (.ptr 1 0::b)=some B:=e;cases u;refine⟨?_,Nat.one_lt_two,s _⟩;show ag H q=bK (rens (aw [q,w]) (.ptr 1 0::b));rw[x];unfold rens V.ren;rw[h1,s1]
  |1=>
   have u:bK k=some B:=e;cases u;exact⟨by rw[h2];exact m,t _⟩
  |c+2=>simp[ag] at e) (fun c B e hc=>by
  have :=aU e
  match c with
  |0=>rcases hc with hc|hc<;>simp[ag] at hc
  |1=>rcases hc with hc|hc<;>simp[ag] at hc
  |c+2=>simp[ag] at e) (aH _)
 have F:rens (aw [q,w]) (.ptr 0 0::args)= .ptr q 0::args:=by
  unfold rens V.ren;rw[A];rfl
 have G:memH [q,w] H [bK (.ptr 1 0::d1),bK d2]=(H.set q (bK (.ptr w 0::d1))).set w (bK d2):=by
  have I:aw (bd [q,w] H.length [bK (.ptr 1 0::d1),bK d2]) 1=w:=by rw[uL ae];rfl
  unfold memH;simp[cR,dQ,cK,dx,Blk.ren,C,D,rens,V.ren,I];exact(List.set_comm _ _ o).symm
 rw[F,G,E] at h;exact h
theorem zy {b c:List V}(r:aq P f (.ptr 0 0::args) [bK (.ptr 1 0::b),bK c] v [bK (.ptr 1 0::b),bK c])(o:ag H q=bK (.ptr w 0::b))(e:ag H w=bK c)(g:q≠w)
  (s:∀ σ,rens σ args=args) (k:∀ n,af n args) (h1:∀ σ,rens σ b=b) (l:∀ n,af n b) (h2:∀ σ,rens σ c=c) (m:∀ n,af n c) (t:∀ σ,v.ren σ=v):aq P f (.ptr q 0::args) H v H:=by
 have h:=BF r o e g s k h1 l h2 m h1 h2 t
 rwa [xR o rfl,xR e rfl] at h
end
section
variable {K K0:RK}{H H0:List (Option Blk)}{Q0:Rl->Prop}{j i d p tm q w a:Nat}{P:PeS}{S:SeS}{T:TmS}{wv bg ol se ne:V}
theorem ng (c:Cx K0 H0 Q0 K H)(e:K tm=some (.tm j i))(g:ag H tm=bK (T.cs))(b:T.ok)(k now:Int)(h:1<=k/\k<=6)(m:0<=now/\now<=1099511627776):
  ∃ v K' H',Dx prog 47 [.ptr tm 0,.i64 k,.i64 now] K H (fun r=>r= .tm j i) v K' H'/\(v= .i64 0/\K'=K/\H'=H.set tm (bK ((T.ev k now).cs))):=
 WB c e g (acj T.w T.t T.l T.o T.u k now b.t0 (by have :=b.t6;omega) (by unfold Bf;omega)) (fun _=>rfl) (fun _=>by simp[af,V.low]) (fun _=>rfl) (fun _=>by simp[TmS.cs,af,V.low]) (fun _=>rfl) (fun _=>by simp[af,V.low]) (fun _=>rfl) (fun _=>trivial) ⟨rfl,rfl,rfl⟩
theorem YH (c:Cx K0 H0 Q0 K H)(e:ag H tm=bK (T.cs))(b:T.ok)(now:Int):
  ∃ v K' H',Dx prog 67 [.ptr tm 0,.i64 now] K H (fun _=>False) v K' H'/\(v= .i64 (T.nx now)/\K'=K/\H'=H):=
 Bs c e (Vg T.w T.t T.l T.o T.u now b.l b.u) (fun _=>rfl) (fun _=>by simp[af,V.low]) (fun _=>rfl) (fun _=>by simp[TmS.cs,af,V.low]) (fun _=>rfl) (fun _=>trivial) ⟨rfl,rfl,rfl⟩
def SeS.over (S:SeS)(now:Int):Bool:=nZ S.bo S.se now
def SeS.stale (S:SeS)(now:Int):Bool:=Ec S.bo S.se S.fs now
theorem SesIn.ne1 (h:SesIn K H j i a q w S):q≠w:=fun e=>by subst e;have h1:=h.kq;rw[h.kw] at h1;cases h1
theorem Ox (c:Cx K0 H0 Q0 K H)(h:SesIn K H j i a q w S)(b:S.ok)(now:Int):∃ v K' H',Dx prog 62 [.ptr q 0,.i64 now] K H (fun _=>False) v K' H'/\(v= .bool (S.over now)/\K'=K/\H'=H):=
 ⟨_,_,_,⟨zy (yC S.sd S.rc S.su S.bo S.se S.fs S.nx S.bits now b.bo.1 b.bo.2) h.gq h.gw h.ne1 (fun _=>rfl) (fun _=>by simp[af,V.low]) (fun _=>rfl) (fun _=>by simp[af,V.low]) (fun _=>rfl) (fun _=>by simp[af,V.low]) (fun _=>rfl),c.start _,trivial⟩,rfl,rfl,rfl⟩
theorem Q4 (c:Cx K0 H0 Q0 K H)(h:SesIn K H j i a q w S)(b:S.ok)(now:Int):∃ v K' H',Dx prog 66 [.ptr q 0,.i64 now] K H (fun _=>False) v K' H'/\(v= .bool (S.stale now)/\K'=K/\H'=H):=
 ⟨_,_,_,⟨zy (LX S.sd S.rc S.su S.bo S.se S.fs S.nx S.bits now b.bo.1 b.bo.2) h.gq h.gw h.ne1 (fun _=>rfl) (fun _=>by simp[af,V.low]) (fun _=>rfl) (fun _=>by simp[af,V.low]) (fun _=>rfl) (fun _=>by simp[af,V.low]) (fun _=>rfl),c.start _,trivial⟩,rfl,rfl,rfl⟩
theorem aeW (sd rc:List (BitVec 8))(s bo se:Int)(fs:Bool)(next:Int)(bits:BitVec 64)(t:List (BitVec 8))(now:Int)(c:0<=bo)(b:bo<=1099511627776)(e:nZ bo se now=true):
  aq prog 63 [.ptr 0 0,.str t,.i64 now] [bK [.ptr 1 0,.str sd,.str rc,.i64 s,.i64 bo,.i64 se,.bool fs],bK [.i64 next,.u64 bits]] (.tup [.i64 0,.str [],.i64 11]) [bK [.ptr 1 0,.str sd,.str rc,.i64 s,.i64 bo,.i64 se,.bool fs],bK [.i64 next,.u64 bits]]:=by
 have h1:=yC sd rc s bo se fs next bits now c b;rw[e] at h1;refine bf ac (fn:=f63) func63 rfl am (ak ?_);simp -implicitDefEqProofs only[go_sem,seval,ntmps63];refine aS [0,1] (h1) ac ae rfl ae aM ae ae ae ae ae ?_;simp -implicitDefEqProofs only[go_sem,seval];exact Fin.ren [0,1] ae ae aZ ah ae ae
theorem Jz (l:Cx K0 H0 Q0 K H)(h:SesIn K H j i a q w S)(b:S.ok)(x:List ai)(n:x.length<=2000)(now:Int):
  ∃ v K' H',Dx prog 63 [.ptr q 0,.str x,.i64 now] K H (fun r=>r= .pair j i a) v K' H'/\(if S.over now=true then v= .tup [.i64 0,.str [],.i64 11]/\K'=K/\H'=H else v= .tup [.i64 S.se,.str (mP S.su S.sd S.se x),.i64 0]/\K'=K/\H'=H.set q (bK ({S with se:=S.se+1}.pc w))):=by
 by_cases g:S.over now=true
 ·refine⟨_,_,_,⟨zy (aeW S.sd S.rc S.su S.bo S.se S.fs S.nx S.bits x now b.bo.1 b.bo.2 g) h.gq h.gw h.ne1 (fun _=>rfl) (fun _=>by simp[af,V.low]) (fun _=>rfl) (fun _=>by simp[af,V.low]) (fun _=>rfl) (fun _=>by simp[af,V.low]) (fun _=>rfl),l.start _,by simp[af,V.low]⟩,?_⟩;rw[if_pos g];exact⟨rfl,rfl,rfl⟩
 ·have c:=g;unfold SeS.over nZ at c;have o:=afK b.su S.rc b.sd S.bo S.se S.fs S.nx S.bits n now b.bo.1 b.bo.2 (by
   by_cases h:S.bo+180<=now
   ·rw[if_pos h] at c;exact absurd rfl c
   ·omega) b.se.1 (by
   by_cases h:S.bo+180<=now
   ·rw[if_pos h] at c;exact absurd rfl c
   ·rw[if_neg h] at c;simpa using c)
  have h2:=BF o h.gq h.gw h.ne1 (fun _=>rfl) (fun _=>by simp[af,V.low]) (fun _=>rfl) (fun _=>by simp[af,V.low]) (fun _=>rfl) (fun _=>by simp[af,V.low]) (fun _=>rfl) (fun _=>rfl) (fun _=>rfl);have e:=xR (H:=H.set q (bK ({S with se:=S.se+1}.pc w))) ((bW h.ne1 _).trans h.gw) rfl;unfold SeS.pc SeS.wc at e;rw[e] at h2;refine⟨_,_,_,⟨h2,(l.start (fun r=>r= .pair j i a)).put h.kq rfl (by simp[af,V.low,l.lt h.kw]),by simp[af,V.low]⟩,?_⟩;rw[if_neg g];exact⟨rfl,rfl,rfl⟩
theorem aa0 (sd rc:List (BitVec 8))(s bo se:Int)(fs:Bool)(next:Int)(bits:BitVec 64)(n:Int)(t:List (BitVec 8))(now:Int)(c:0<=bo)(b:bo<=1099511627776)(e:bo+180<=now):
  aq prog 148 [.ptr 0 0,.i64 n,.str t,.i64 now] [bK [.ptr 1 0,.str sd,.str rc,.i64 s,.i64 bo,.i64 se,.bool fs],bK [.i64 next,.u64 bits]] (.tup [.str [],.i64 11]) [bK [.ptr 1 0,.str sd,.str rc,.i64 s,.i64 bo,.i64 se,.bool fs],bK [.i64 next,.u64 bits]]:=by
 have h1:=vo sd rc s bo se fs next bits now 180 c b ah ah;rw[decide_eq_true e] at h1;refine bf ac (fn:=f148) func148 rfl am (ak ?_);simp -implicitDefEqProofs only[go_sem,seval,ntmps148];refine aS [0,1] (h1) ac ae rfl ae aM ae ae ae ae ae ?_;simp -implicitDefEqProofs only[go_sem,seval];exact Fin.ren [0,1] ae ae aZ ah ae ae
theorem TN (sd rc:List (BitVec 8))(s bo se:Int)(fs:Bool)(next:Int)(bits:BitVec 64)(n:Int)(t:List (BitVec 8))(now:Int)(g:0<=bo)(b:bo<=1099511627776)(c:0<=next)(e:next<=1099511627777)(h:¬ bo+180<=now)(hc:¬ lk next bits n=0):
  aq prog 148 [.ptr 0 0,.i64 n,.str t,.i64 now] [bK [.ptr 1 0,.str sd,.str rc,.i64 s,.i64 bo,.i64 se,.bool fs],bK [.i64 next,.u64 bits]] (.tup [.str [],.i64 (lk next bits n)]) [bK [.ptr 1 0,.str sd,.str rc,.i64 s,.i64 bo,.i64 se,.bool fs],bK [.i64 next,.u64 bits]]:=by
 have h1:=vo sd rc s bo se fs next bits now 180 g b ah ah;rw[decide_eq_false h] at h1;refine bf ac (fn:=f148) func148 rfl am (ak ?_);simp -implicitDefEqProofs only[go_sem,seval,ntmps148];refine aS [0,1] (h1) ac ae rfl ae aM ae ae ae ae ae ?_;simp -implicitDefEqProofs only[go_sem,seval];refine aS [1] (zA next bits n c e) ac ae rfl ae aM ae ae ae ae ae ?_;simp -implicitDefEqProofs only[go_sem,seval,hc,ne_eq,not_false_eq_true,decide_true];exact Fin.ren [0,1] ae ae aZ ah ae ae
theorem M1 (sd rc:List (BitVec 8))(s bo se:Int)(fs:Bool)(next:Int)(bits:BitVec 64)(h:s=1\/s=2)(n:Int)(t:List (BitVec 8))(now:Int)(k:0<=bo)(b:bo<=1099511627776)(c:0<=next)(e:next<=1099511627777)(l:¬ bo+180<=now)(hc:lk next bits n=0)(m:¬ (iG s rc (cA s (BitVec.ofInt 64 n)) [] t).2=0):
  aq prog 148 [.ptr 0 0,.i64 n,.str t,.i64 now] [bK [.ptr 1 0,.str sd,.str rc,.i64 s,.i64 bo,.i64 se,.bool fs],bK [.i64 next,.u64 bits]] (.tup [.str [],.i64 (iG s rc (cA s (BitVec.ofInt 64 n)) [] t).2]) [bK [.ptr 1 0,.str sd,.str rc,.i64 s,.i64 bo,.i64 se,.bool fs],bK [.i64 next,.u64 bits]]:=by
 have h1:=vo sd rc s bo se fs next bits now 180 k b ah ah;rw[decide_eq_false l] at h1;have h2:=Jx h rc [] t (BitVec.ofInt 64 n);generalize iG s rc (cA s (BitVec.ofInt 64 n)) [] t=g at*;refine bf ac (fn:=f148) func148 rfl am (ak ?_);simp -implicitDefEqProofs only[go_sem,seval,ntmps148];refine aS [0,1] (h1) ac ae rfl ae aM ae ae ae ae ae ?_;simp -implicitDefEqProofs only[go_sem,seval];refine aS [1] (zA next bits n c e) ac ae rfl ae aM ae ae ae ae ae ?_;simp -implicitDefEqProofs only[go_sem,seval,hc];refine aX (h2) ?_;simp -implicitDefEqProofs only[go_sem,seval,m,ne_eq,not_false_eq_true,decide_true];refine⟨ac,?_⟩;exact Fin.ren [0,1] ae ae aZ ah ae ae
noncomputable def SeS.open_ (S:SeS) (n:Int) (z:List ai) (now:Int):List ai×Int×SeS:=
 if S.bo+180<=now then([],11,S) else if lk S.nx S.bits n=0 then
  (if(iG S.su S.rc (cA S.su (BitVec.ofInt 64 n)) [] z).2=0 then((iG S.su S.rc (cA S.su (BitVec.ofInt 64 n)) [] z).1,0,{S with nx:=rI S.nx n,bits:=yG S.nx S.bits n}) else([],(iG S.su S.rc (cA S.su (BitVec.ofInt 64 n)) [] z).2,S))
 else([],lk S.nx S.bits n,S)
theorem UD (m:Cx K0 H0 Q0 K H)(h:SesIn K H j i a q w S)(b:S.ok)(n:Int)(z:List ai)(now:Int):
  ∃ v K' H',Dx prog 148 [.ptr q 0,.i64 n,.str z,.i64 now] K H (fun r=>r= .win j i a) v K' H'/\(v= .tup [.str (S.open_ n z now).1,.i64 (S.open_ n z now).2.1]/\K'=K/\H'=H.set w (bK ((S.open_ n z now).2.2.wc))):=by
 have same:∀ {v:V},aq prog 148 [.ptr 0 0,.i64 n,.str z,.i64 now] [bK [.ptr 1 0,.str S.sd,.str S.rc,.i64 S.su,.i64 S.bo,.i64 S.se,.bool S.fs],bK [.i64 S.nx,.u64 S.bits]] v [bK [.ptr 1 0,.str S.sd,.str S.rc,.i64 S.su,.i64 S.bo,.i64 S.se,.bool S.fs],bK [.i64 S.nx,.u64 S.bits]]->(∀ σ,v.ren σ=v)->(∀ n,v.low n)->∀ k l,v= .tup [.str k,.i64 l]->S.open_ n z now=(k,l,S)->∃ v K' H',Dx prog 148 [.ptr q 0,.i64 n,.str z,.i64 now] K H (fun r=>r= .win j i a) v K' H'/\(v= .tup [.str (S.open_ n z now).1,.i64 (S.open_ n z now).2.1]/\K'=K/\H'=H.set w (bK ((S.open_ n z now).2.2.wc))):=fun o s t k l ev u=>by
  rw[u];exact⟨_,_,_,⟨zy o h.gq h.gw h.ne1 (fun _=>rfl) (fun _=>by simp[af,V.low]) (fun _=>rfl) (fun _=>by simp[af,V.low]) (fun _=>rfl) (fun _=>by simp[af,V.low]) s,m.start _,t _⟩,ev,rfl,(xR h.gw rfl).symm⟩
 by_cases c:S.bo+180<=now
 ·exact same (aa0 S.sd S.rc S.su S.bo S.se S.fs S.nx S.bits n z now b.bo.1 b.bo.2 c) (fun _=>rfl) (fun _=>by simp[af,V.low]) _ _ rfl (by unfold SeS.open_;rw[if_pos c])
 by_cases hc:lk S.nx S.bits n=0
 rotate_left
 ·exact same (TN S.sd S.rc S.su S.bo S.se S.fs S.nx S.bits n z now b.bo.1 b.bo.2 b.nx.1 b.nx.2 c hc) (fun _=>rfl) (fun _=>by simp[af,V.low]) _ _ rfl (by unfold SeS.open_;rw[if_neg c,if_neg hc])
 by_cases g:(iG S.su S.rc (cA S.su (BitVec.ofInt 64 n)) [] z).2=0
 rotate_left
 ·exact same (M1 S.sd S.rc S.su S.bo S.se S.fs S.nx S.bits b.su n z now b.bo.1 b.bo.2 b.nx.1 b.nx.2 c hc g) (fun _=>rfl) (fun _=>by simp[af,V.low]) _ _ rfl (by unfold SeS.open_;rw[if_neg c,if_pos hc,if_neg g])
 have h2:=BF (QZ S.sd S.rc S.su S.bo S.se S.fs S.nx S.bits b.su n z now b.bo.1 b.bo.2 b.nx.1 b.nx.2 c hc g) h.gq h.gw h.ne1 (fun _=>rfl) (fun _=>by simp[af,V.low]) (fun _=>rfl) (fun _=>by simp[af,V.low]) (fun _=>rfl) (fun _=>by simp[af,V.low]) (fun _=>rfl) (fun _=>rfl) (fun _=>rfl);have e:=xR h.gq rfl;unfold SeS.pc at e;rw[e] at h2;refine⟨_,_,_,⟨h2,(m.start (fun r=>r= .win j i a)).put h.kw rfl (by simp[af,V.low]),by simp[af,V.low]⟩,?_⟩;unfold SeS.open_;rw[if_neg c,if_pos hc,if_pos g];exact⟨rfl,rfl,rfl⟩
end
end
section
theorem AH:∀ (l l':List Gr),cg (l++l')=cg l++cg l'
 |[],_=>rfl
 |(a,b,s)::l,l'=>congrArg (fun x=>V.u32 a::V.u32 b::V.str s::x) (AH l l')
theorem vR:∀ (l:List Gr),(cg l).length=l.length*3
 |[]=>rfl
 |(a,b,s)::l=>by show(cg l).length+1+1+1=_;rw[vR l,ce];omega
theorem DA:∀ (l l':List Pk),cS (l++l')=cS l++cS l'
 |[],_=>rfl
 |(a,b,s)::l,l'=>congrArg (fun x=>V.i64 a::V.u32 b::V.str s::x) (DA l l')
theorem xU:∀ (l:List Pk),(cS l).length=l.length*3
 |[]=>rfl
 |(a,b,s)::l=>by show(cS l).length+1+1+1=_;rw[xU l,ce];omega
theorem xf (n:Nat):∀ (l:List Gr),af n (cg l)
 |[]=>trivial
 |(a,b,s)::l=>⟨trivial,trivial,trivial,xf n l⟩
theorem um (n:Nat):∀ (l:List Pk),af n (cS l)
 |[]=>trivial
 |(a,b,s)::l=>⟨trivial,trivial,trivial,um n l⟩
section
variable {K K0 K':RK}{H H0 H':List (Option Blk)}{Q0 Q:Rl->Prop}{j i d p tm arr paths bk b N:Nat}{P:PeS}{D:DeS}{ps:List Nat}{out got:V}{r r2:Rl}{ds vs:List V}{a:Option Nat}
theorem uh (h:Cx K0 H0 Q K H)(l:H.length=N)(c:K b=some r)(m:∀ x,a=some x->K x=some r2)(f:r≠r2):
  cV (fQ a K) N (some r2) b=some r/\ag ((cutH a H++[bK ds]).set b (bK vs)) b=bK vs/\ag ((cutH a H++[bK ds]).set b (bK vs)) N=bK ds:=by
 subst l;have o:=h.lt c;refine⟨?_,bG (by rw[aE,sL];omega) _,?_⟩
 ·rw[dW aa,EP fun x e n=>by subst n;have :=m _ e;rw[c] at this;exact f (kJ this)];exact c
 ·rw[bW aa];have :=eY (H:=cutH a H) (x:=bK ds)
  rwa [sL] at this
theorem Cx.growN (h:Cx K0 H0 Q K H)(e:H.length=N)(f:K b=some r)(g:Q r)(a:Option Nat)(r2:Rl)(k:∀ x,a=some x->K x=some r2)(c:Q r2)(h1:af (H.length+1) ds)(h2:af (H.length+1) vs):
  Cx K0 H0 Q (cV (fQ a K) N (some r2)) ((cutH a H++[bK ds]).set b (bK vs)):=by
 subst e;exact h.grow f g a r2 k c h1 h2
theorem DevAt.low (e:Cx K0 H0 Q K H)(h:DevAt K H j d D arr ps paths bk out got):af H.length (D.cs arr ps.length paths bk out got):=(e.sane _ _ h.g).1
theorem DeS.low {n m:Nat}(h:af n (D.cs arr ps.length paths bk out got))(c:n<=m):arr<m/\paths<m/\bk<m/\out.low m/\got.low m:=by
 have h:=ma c _ h;unfold DeS.cs at h;simp only[af,V.low,true_and,and_true] at h;exact h
def DeS.goes (D:DeS)(c:BitVec 32)(x:List ai):DeS:=if c=0#32 then D else {D with out:=D.out++[(D.here,c,x)]}
theorem yZ (hC:Cx K0 H0 Q0 K H)(hD:DevAt K H j d D arr ps paths bk out got)(tgt:BitVec 32)(x:List ai)(ho:D.out.length<=1000000000):
  ∃ v K' H',Dx prog 65 [.ptr d 0,.u32 tgt,.str x] K H (qO j) v K' H'/\(v= .tup []/\fm K' H' j d (D.goes tgt x) arr ps paths bk):=by
 have hg:=hD.g;have hlow:=hD.low hC;unfold DeS.cs at hg;have hlt:=aU hg;refine bV (Q:=qO j) (Post:=fun v K' H'=>v= .tup []/\fm K' H' j d (D.goes tgt x) arr ps paths bk) ac (fn:=f65) func65 rfl am (ak ?_);simp -implicitDefEqProofs only[go_sem,seval,hg];by_cases h0:tgt=0#32
 ·simp -implicitDefEqProofs only[go_sem,seval,h0,not_true,decide_false];exact Ex.of (hC.start _) trivial ⟨rfl,out,got,by unfold DeS.goes;rw[if_pos rfl];exact hD⟩
 simp -implicitDefEqProofs only[go_sem,seval,h0,not_false_eq_true,decide_true];repeat refine aJ ?_
 have hC1:=(hC.start (qO j)).junk (vs:=[.u32 D.here,.u32 tgt,.str x]) (mm:=none) (by simp[af,V.low]);have fin:∀ (a:Option Nat),(∀ x,a=some x->K x=some (.out j))->Ex K H (qO j) (fun v K' H'=>v= .tup []/\fm K' H' j d (D.goes tgt x) arr ps paths bk) (.tup []) ⟨[],(cutH a (H++[bK [.u32 D.here,.u32 tgt,.str x]])++[bK (cg D.out++[.u32 D.here,.u32 tgt,.str x])]).set d (bK ((D.goes tgt x).cs arr ps.length paths bk (.slice (H.length+1) 0 (D.out.length+1) 3) got))⟩:=fun a ha=>by
  have hl1:(H++[bK [.u32 D.here,.u32 tgt,.str x]]).length=H.length+1:=ae;obtain⟨l1,l2,l3,-,l5⟩:=DeS.low hlow (show H.length<=H.length+1+1 by omega);have hG:=hC1.growN hl1 hD.kd rfl a (.out j) ha rfl (ds:=cg D.out++[.u32 D.here,.u32 tgt,.str x]) (vs:=(D.goes tgt x).cs arr ps.length paths bk (.slice (H.length+1) 0 (D.out.length+1) 3) got) (by rw[oZ];exact⟨xf _ _,by simp[af,V.low]⟩) (by rw[hl1];simp[DeS.cs,af,V.low,l1,l2,l3,l5]);obtain⟨g1,g2,g3⟩:=uh (ds:=cg D.out++[.u32 D.here,.u32 tgt,.str x]) (vs:=(D.goes tgt x).cs arr ps.length paths bk (.slice (H.length+1) 0 (D.out.length+1) 3) got) hC1 hl1 hD.kd ha ae;have hf:=hG.off;refine Ex.of (s:=⟨[],_⟩) hG trivial ⟨rfl,_,_,g1,hf.k _ _ hD.ka id,g2,(hf.h _ _ hD.ka id).trans hD.ga,?_,?_⟩
  ·have e:(D.goes tgt x).out=D.out++[(D.here,tgt,x)]:=by unfold DeS.goes;rw[if_neg h0]
   refine .inr ⟨_,by rw[e,aE];rfl,by rw[e];simp,gB,by rw[e,AH];exact g3⟩
  ·have e:(D.goes tgt x).got=D.got:=by unfold DeS.goes;rw[if_neg h0]
   rw[e];exact hD.t.off hf id
 have ecs:∀ o,(D.goes tgt x).cs arr ps.length paths bk o got=D.cs arr ps.length paths bk o got:=fun o=>by unfold DeS.goes;rw[if_neg h0];rfl
 simp only[ecs] at fin;unfold DeS.cs at fin;rcases hD.o with⟨rfl,hz⟩|⟨a,rfl,hk0,ha,hga⟩
 ·have e:=jJ.1 hz;have :=fin none (fun _ e=>by cases e);simp only[e,cg,ff,ig,cw,cutH] at this;simp -implicitDefEqProofs only[go_sem,seval,hg,m7 hlt];repeat refine aI ?_
  refine And.intro ?_ ?_
  ·refine eC (fw H.length) [([],[]),([],[]),([],[]),([],[]),([0],[]),([],[]),([],[]),([],[]),([0],[]),([],[]),([],[]),([],[]),([],[1]),([0,1],[0,1]),([],[]),([],[]),([0,1],[0,1])] ac (by simp only[eO,eG,bh,mz,all_cons,rG,dU hlt,fC,kN,and_true])
  exact this
 ·have hl:=vR D.out;have hlta:=hC.lt ha;have hne:a≠d:=fun e=>by subst e;rw[hD.kd] at ha;cases ha
  have :=fin (some a) (fun _ e=>by cases e;exact ha);simp only[cutH] at this;simp -implicitDefEqProofs only[go_sem,seval,hg,hga,lI hlta,sa hlt hne,jC,ar (show(cg D.out).length<=D.out.length*3 by omega)];repeat refine aI ?_
  refine And.intro ?_ ?_
  ·refine eC (fw H.length) [([],[]),([],[]),([],[]),([],[]),([0],[]),([],[]),([],[]),([],[]),([0],[]),([],[]),([],[]),([],[]),([],[1]),([0,1],[0,1]),([],[]),([],[]),([0,1],[0,1])] ac (by simp only[eO,eG,bh,mz,all_cons,rG,dU hlt,fC,kN,and_true])
  exact this
theorem DevAt.set (g:Cx K0 H0 Q0 K H)(f:DevAt K H j d D arr ps paths bk out got){D':DeS}(k:D'.out=D.out)(l:D'.got=D.got):Cx K H (fun r=>r= .dev j) K (H.set d (bK (D'.cs arr ps.length paths bk out got)))/\DevAt K (H.set d (bK (D'.cs arr ps.length paths bk out got))) j d D' arr ps paths bk out got:=by
 obtain⟨l1,l2,l3,m,n⟩:=DeS.low (f.low g) (aH _);have h1:=(g.start (fun r=>r= .dev j)).put (mm:=none) f.kd rfl (vs:=D'.cs arr ps.length paths bk out got) (by simp[DeS.cs,af,V.low,l1,l2,l3,m,n]);exact⟨h1,f.cells h1.off f.kd (bG (g.lt f.kd) _) k l⟩
theorem LD (l:Cx K0 H0 Q0 K H)(f:DevAt K H j d D arr ps paths bk out got):
  ∃ v K' H',Dx prog 90 [.ptr d 0] K H (fun r=>r= .dev j) v K' H'/\(v= .u32 (D.index+1#32)/\K'=K/\DevAt K' H' j d {D with index:=D.index+1#32} arr ps paths bk out got):=by
 obtain⟨h,k⟩:=f.set l (D':={D with index:=D.index+1#32}) rfl rfl;have c:=f.g;unfold DeS.cs at c h k;have e:=aU c;refine bV (Q:=fun r=>r= .dev j) (Post:=fun v K' H'=>v= .u32 (D.index+1#32)/\K'=K/\DevAt K' H' j d {D with index:=D.index+1#32} arr ps paths bk out got) ac (fn:=f90) func90 rfl am (ak ?_);simp -implicitDefEqProofs only[go_sem,seval,c,bG e];repeat refine aJ ?_
 exact Ex.of h trivial ⟨rfl,rfl,k⟩
theorem Ql (k:Cx K0 H0 Q0 K H)(e:DevAt K H j d D arr ps paths bk out got)(z:Bool):
  ∃ v K' H',Dx prog 29 [.ptr d 0,.bool z] K H (fun r=>r= .dev j) v K' H'/\(v= .tup []/\K'=K/\DevAt K' H' j d {D with busy:=z} arr ps paths bk out got):=by
 obtain⟨f,h⟩:=e.set k (D':={D with busy:=z}) rfl rfl;have c:=e.g;unfold DeS.cs at c f h;have l:=aU c;refine bV (Q:=fun r=>r= .dev j) (Post:=fun v K' H'=>v= .tup []/\K'=K/\DevAt K' H' j d {D with busy:=z} arr ps paths bk out got) ac (fn:=f29) func29 rfl am (ak ?_);simp -implicitDefEqProofs only[go_sem,seval,c];repeat refine aJ ?_
 exact Ex.of f (by simp[eL,V.low,af]) ⟨rfl,rfl,h⟩
noncomputable def DeS.keyV (D:DeS):List ai:=(tP 1 D.seed (bu D.fresh.toNat 8) 1).getD 0 []
theorem DeS.keyV_spec (D:DeS)(g:D.seed.length=32):aq prog 25 [.i64 1,.str D.seed,.str (bu D.fresh.toNat 8),.i64 1] [] (.tup [.slice 0 0 1 1,.i64 0]) [bK [.str D.keyV]]/\D.keyV.length=32:=by
 obtain⟨h1,h2,c⟩:=yw (x:=1) (.inl rfl) D.seed (bu D.fresh.toNat 8) aa (by rw[cF];decide) (n:=1) ah ah;unfold DeS.keyV;obtain⟨a,e,f⟩:=J6 h2 c;rw[e] at h1 |-
 exact⟨h1,f⟩
theorem x6 (x:Cx K0 H0 Q0 K H)(q:DevAt K H j d D arr ps paths bk out got)(y:D.seed.length=32):
  ∃ v K' H',Dx prog 42 [.ptr d 0] K H (fun r=>r= .dev j) v K' H'/\(v= .str D.keyV/\K'=K/\DevAt K' H' j d {D with fresh:=D.fresh+1#64} arr ps paths bk out got):=by
 have e:=q.g;have c:=aU e;have f:=(D.keyV_spec y).1;have z:=wZ D.fresh;have l:=cF D.fresh.toNat 8;generalize D.keyV=k at*;generalize bu D.fresh.toNat 8=m at*;have n:=((x.start (fun _=>False)).junk (vs:=m.map .u8) (mm:=none) (wT _ _)).junk (vs:=[.str k]) (mm:=none) (by simp[af,V.low]);have o:=q.off n.off ae ae ae ae;obtain⟨s,t⟩:=o.set n (D':={D with fresh:=D.fresh+1#64}) rfl rfl;have u:=(n.mono (Q2:=fun r=>r= .dev j) fun _ h=>h.elim).call s fun _ h=>h
 unfold DeS.cs at e s t u;refine bV (Q:=fun r=>r= .dev j) (Post:=fun v K' H'=>v= .str k/\K'=K/\DevAt K' H' j d {D with fresh:=D.fresh+1#64} arr ps paths bk out got) ac (fn:=f42) func42 rfl am (ak ?_);simp -implicitDefEqProofs only[go_sem,seval,e];repeat refine aJ ?_
 refine iq [] (z) ac ae rfl ae aM ae ae ae ae ae ?_;simp -implicitDefEqProofs only[go_sem,seval,kj,l,ar (show(m.map V.u8).length<=8 by simp;omega)];repeat refine aJ ?_
 refine iq [] (f) ac ae rfl ae aM ae ae ae ae ae ?_;simp -implicitDefEqProofs only[go_sem,seval,e,m7 c];refine⟨We (u6 H.length) ?_ (by simp[V4 c,RD,My];rfl),?_⟩
 ·kernel_rfl
 have w:d<(H++[bK (m.map .u8)]++[bK [.str k]]).length:=by simp;omega
 simp -implicitDefEqProofs only[go_sem,seval,bW (show d≠H.length+1 by omega)];repeat refine aJ ?_
 exact Ex.of u trivial ⟨rfl,rfl,t⟩
end
end
end Go.Vm
end
section
namespace Go.Vm
section
section
variable {P:Program}{m n N k:Nat}{R:Exit->St->Prop}{ks:List Fr}{l:List Oper}{ops:Array Oper}{dst:Option Tmp}{t:List (Nat×V)}
variable {f:FuncId}{args:List V}{H H0:List (Option Blk)}{K K0:RK}{Q:Rl->Prop}{b:Nat}{bs cs:List ai}
theorem Vk (j:Cx K0 H0 Q K H)(d:H0.length<=b)(h:ag H b=bK (bs.map .u8))(i:aq P f (.slice 0 0 N 1::args) [bK (bs.map .u8)] (.slice 1 0 k 1) [none,bK (cs.map .u8)])
  (o:∀ σ,rens σ args=args) (a:af 1 args) (hc:eu P f=true)
  (p:∀ H',Cx K0 H0 Q K H'->(∀ c,c<H.length->c≠b->ag H' c=ag H c)->ag H' H.length=bK (cs.map .u8)->H'.length=H.length+1->fY P m n R l ops ks ⟨putS t dst (.slice H.length 0 k 1),H'⟩):
  n9 P m n R (.fn f [] []) (.slice b 0 N 1::args) dst l ops ks ⟨t,H⟩:=by
 have g:=aU h;obtain⟨h1,h2,q⟩:=Jd (t:=t) (h':=[]) i o a h;refine aS [b] i hc (by simpa using h1) rfl ⟨Nat.one_pos,a⟩ ae (fun x r=>by rw[lh.1 r];exact g) (by simp[lV]) h2 (by simp[kS]) ae ?_;have key:=p (H.set b none++[bK (cs.map .u8)]) ((j.jcut d).junk (wT _ _)) (fun c hc s=>by rw[cz (by rw[aY];exact hc),bW (fun e=>s e.symm)]) (by
  have :=kj (H.set b none) (bK (cs.map .u8)) []
  rwa [aY] at this) ae
 rw[<-q,<-KO (N:=H.length) b none (bK (cs.map .u8))] at key;exact key
theorem Oe {tr:Tr}(p:Cx K0 H0 Q K H)(g:H0.length<=b)(j:ag H b=bK (bs.map .u8))(o:aq P f (.slice 0 0 N 1::args) [bK (bs.map .u8)] (.slice 1 0 k 1) [none,bK (cs.map .u8)])
  (q:∀ σ,rens σ args=args) (a:af 1 args) (hc:eu P f=true)
  (r:∀ H',Cx K0 H0 Q K H'->(∀ c,c<H.length->c≠b->ag H' c=ag H c)->ag H' H.length=bK (cs.map .u8)->H'.length=H.length+1->ir P m n R l (tr++[([b],[b,H.length])]) ops ks ⟨putS t dst (.slice H.length 0 k 1),H'⟩):
  mj P m n R (.fn f [] []) (.slice b 0 N 1::args) dst l tr ops ks ⟨t,H⟩:=by
 have d:=aU j;obtain⟨h1,h2,s⟩:=Jd (t:=t) (h':=[]) o q a j;refine iq [b] o hc (by simpa using h1) rfl ⟨Nat.one_pos,a⟩ ae (fun x h=>by rw[lh.1 h];exact d) (by simp[lV]) h2 (by simp[kS]) ae ⟨fun x h=>?_,?_⟩
 ·have i:x∈[(b,(none:Option Blk))]:=h;rw[lh.1 i];exact d
 have key:=r (H.set b none++[bK (cs.map .u8)]) ((p.jcut g).junk (wT _ _)) (fun c hc u=>by rw[cz (by rw[aY];exact hc),bW (fun e=>u e.symm)]) (by
  have :=kj (H.set b none) (bK (cs.map .u8)) []
  rwa [aY] at this) ae
 rw[<-s,<-KO (N:=H.length) b none (bK (cs.map .u8))] at key;exact key
end
end
end Go.Vm
end
section
namespace Go.Vm
open Go.Proofs
theorem Ta (k c m t:List ai):(gY dP k c m t).1.length<=t.length+16:=by
 unfold gY;split
 ·exact(QK _ _ _ _).2
 ·simp
end Go.Vm
end
section
namespace Go.Vm
open Go.Proofs Go.Proofs.Tryz
section
open Classical in
noncomputable def ik (key x:List ai) (m:Nat):List ai:=if h:∃ o:List ai,aG prog 131 [.str key,.str x,.i64 m] (.str o)/\o.length=m then h.choose else[]
theorem qW (key x:List ai)(m:Nat)(a:1<=m/\m<=32)(b:key.length<=32)(c:x.length<=1099511627776):aG prog 131 [.str key,.str x,.i64 m] (.str (ik key x m))/\(ik key x m).length=m:=by
 have h:=Ey key x m a b c;unfold ik;rw[dif_pos h];exact h.choose_spec
noncomputable def nD (u c x:List ai):List ai:=x++bX u x++(if c=[] then List.replicate 16 0#8 else ik c (x++bX u x) 16)
theorem vK (u x:List ai)(a:u.length<=549755813888)(b:x.length<=1099511627776):(bX u x).length=16:=(yL u x a b).2
theorem abk {u c x:List ai}(hu:u.length=32)(hc:c=[]\/c.length=16)(a:x.length<=10000000):(nD u c x).length=x.length+32:=by
 have h:=vK u x aa aa;unfold nD;split
 ·rw[aE,aE,h,gv]
 ·have h2:=(qW c (x++bX u x) 16 ah (by rcases hc with rfl|hc<;>simp_all) (by rw[aE];omega)).2;rw[aE,aE,h,h2]
theorem Ic (u c x:List ai)(hu:u.length=32)(hc:c=[]\/c.length=16)(e:x.length<=10000000):aG prog 127 [.str u,.str c,.str x] (.tup [.str (nD u c x),.i64 0]):=by
 by_cases h0:c=[]
 ·subst h0;have :=Nr u x hu e;unfold marked at this;unfold nD
  rwa [if_pos rfl]
 have d:c.length=16:=hc.resolve_left h0;have a:=Db u c;rw[if_pos ⟨hu,hc⟩] at a;obtain⟨f,i⟩:=yL u x aa aa;unfold nD;rw[if_neg h0];generalize bX u x=o at*;have g:=(qW c (x++o) 16 ah aa (by rw[aE];omega));obtain⟨b,h⟩:=g;generalize ik c (x++o) 16=j at*;refine aQ ac (fn:=f127) ac func127 rfl am (by simp[af,V.low]) (by simp[af,V.low]) (ak ?_);simp -implicitDefEqProofs only[go_sem,seval,ntmps127];refine au (a) ?_;simp -implicitDefEqProofs only[go_sem,seval];refine au (f) ?_;simp -implicitDefEqProofs only[go_sem,seval];repeat refine aJ ?_
 simp -implicitDefEqProofs only[go_sem,seval,h0];refine au (b) ?_;simp -implicitDefEqProofs only[go_sem,seval];repeat refine aJ ?_
 omega
theorem GH (u c x m:List ai)(hu:u.length=32)(hc:c.length=16)(l:x.length<=1000000)(n:m.length=16):aG prog 94 [.str u,.str c,.str (x++bX u x++m)] (.tup [.str x,.bool (decide (ik c (x++bX u x) 16=m)),.i64 0]):=by
 have a:=Db u c;rw[if_pos ⟨hu,.inr hc⟩] at a;obtain⟨g,h⟩:=yL u x aa aa;generalize bX u x=o at*;have b:(x++o++m).length=x.length+32:=by rw[aE,aE];omega
 have t1:List.take x.length (x++o++m)=x:=by rw[dV];exact ja rfl
 have t2:List.take (x.length+16) (x++o++m)=x++o:=ja (by simp[h]);obtain⟨d,i⟩:=qW c (x++o) 16 ah aa (by rw[aE];omega);generalize ik c (x++o) 16=f at*;have j:decide (f=m)=decide (x++o++f=x++o++m):=ae;rw[j];generalize x++o++m=s at*;have h0:c≠[]:=fun e=>by rw[e] at hc;cases hc
 have h1':¬ ((x.length+32:Nat):Int)<32:=aa;have w1:ao (((x.length+32:Nat):Int)-32)=(x.length:Int):=by rw[az aa aa];omega
 have k:ao (((x.length+32:Nat):Int)-16)=((x.length+16:Nat):Int):=by rw[az aa aa];omega
 refine aQ ac (fn:=f94) ac func94 rfl am (by simp[af,V.low]) (by simp[af,V.low]) (ak ?_);simp -implicitDefEqProofs only[go_sem,seval,ntmps94];refine au (a) ?_;simp -implicitDefEqProofs only[go_sem,seval];simp -implicitDefEqProofs only[go_sem,seval,b,h1',w1,k,cT,t1,t2];repeat refine aJ ?_
 refine au (g) ?_;simp -implicitDefEqProofs only[go_sem,seval];repeat refine aJ ?_
 simp -implicitDefEqProofs only[go_sem,seval,h0,not_false_eq_true,decide_true];repeat refine aJ ?_
 refine au (d) ?_;simp -implicitDefEqProofs only[go_sem,seval];repeat refine aJ ?_
 omega
noncomputable def gV (k:List ai) (fr:BitVec 32) (now:Int):List ai:=ik k (bu (BitVec.ofInt 64 (ao (now.tdiv 120))).toNat 8++bu (fr.setWidth 64).toNat 4) 16
theorem DR {k:List ai}(fr:BitVec 32)(now:Int)(a:k.length=32):(gV k fr now).length=16:=(qW k _ 16 ah aa (by simp[cF])).2
theorem UB (k:List ai)(fr:BitVec 32)(now:Int)(e:k.length=32)(h2:0<=now)(f:now<=1099511627776):aG prog 128 [.str k,.u32 fr,.i64 now] (.tup [.str (gV k fr now),.i64 0]):=by
 have h1:(k.length:Int)=32:=aa;have a:¬ now<0:=aa;have b:¬ 1099511627776<now:=aa;obtain⟨d,g⟩:=qW k (bu (BitVec.ofInt 64 (ao (now.tdiv 120))).toNat 8++bu (fr.setWidth 64).toNat 4) 16 ah aa (by simp[cF]);unfold gV;generalize ik k (bu (BitVec.ofInt 64 (ao (now.tdiv 120))).toNat 8++bu (fr.setWidth 64).toNat 4) 16=o at*;have c:=ym (bu (BitVec.ofInt 64 (ao (now.tdiv 120))).toNat 8) (fr.setWidth 64) (by rw[cF];omega);rw[cF] at c;refine aQ ac (fn:=f128) ac func128 rfl am (by simp[af,V.low]) (by simp[af,V.low]) (ak ?_);simp -implicitDefEqProofs only[go_sem,seval,ntmps128];simp -implicitDefEqProofs only[go_sem,seval,h1,a,b,ne_eq,not_true,decide_false];repeat refine aJ ?_
 refine aS [] (wZ (BitVec.ofInt 64 (ao (now.tdiv 120)))) ac ae rfl ae aM ae ae ae ae ae ?_;simp -implicitDefEqProofs only[go_sem,seval];repeat refine aJ ?_
 refine aS [0] (c) ac ae rfl ae aM ae ae ae ae ae ?_;simp -implicitDefEqProofs only[go_sem,seval,cF];repeat refine aJ ?_
 refine au (d) ?_;simp -implicitDefEqProofs only[go_sem,seval]
noncomputable def jB (u:List ai):List ai:=ik [] (bytesOf ⟨#[99,111,111,107,105,101,45,45]⟩++u) 32
theorem IF (u:List ai)(hu:u.length=32):(jB u).length=32:=by
 have h:(bytesOf ⟨#[99,111,111,107,105,101,45,45]⟩).length=8:=by rw[kF];rfl
 exact(qW [] _ 32 ah ah (by rw[aE];omega)).2
theorem KP (u:List ai)(hu:u.length=32):aG prog 133 [.str u] (.str (jB u)):=by
 have a:(bytesOf ⟨#[99,111,111,107,105,101,45,45]⟩).length=8:=by rw[kF];rfl
 obtain⟨h1,h2⟩:=qW [] (bytesOf ⟨#[99,111,111,107,105,101,45,45]⟩++u) 32 ah ah (by rw[aE];omega);unfold jB;refine aQ ac (fn:=f133) ac func133 rfl am (by simp[af,V.low]) (by simp[V.low]) (ak ?_);simp -implicitDefEqProofs only[go_sem,seval,ntmps133];repeat refine aJ ?_
 refine au (h1) ?_;simp -implicitDefEqProofs only[go_sem,seval]
theorem IA (a b c:List ai)(d:b.length=16)(hc:c.length=16)(g:a.length<=1000000):aG prog 134 [.str (a++b++c)] (.str b):=by
 have e:(a++b++c).length=a.length+32:=by rw[aE,aE];omega
 have t2:List.take (a.length+16) (a++b++c)=a++b:=ja (by simp[d]);generalize a++b++c=s at*;have w1:ao (((a.length+32:Nat):Int)-32)=(a.length:Int):=by rw[az aa aa];omega
 have f:ao (((a.length+32:Nat):Int)-16)=((a.length+16:Nat):Int):=by rw[az aa aa];omega
 refine aQ ac (fn:=f134) ac func134 rfl am (by simp[af,V.low]) (by simp[V.low]) (ak ?_);simp -implicitDefEqProofs only[go_sem,seval,ntmps134,results134,e,w1,f,cT,t2,List.drop_left];repeat refine aJ ?_
 all_goals first|omega |rfl
theorem Fg (s:List ai)(h:6<=s.length)(h2:s.length<=10000000):aG prog 135 [.str s] (.str (3#8::0#8::List.drop 2 (List.take 6 s))):=by
 refine aQ ac (fn:=f135) ac func135 rfl am (by simp[af,V.low]) (by simp[V.low]) (ak ?_);simp -implicitDefEqProofs only[go_sem,seval,ntmps135,results135];repeat refine aJ ?_
 all_goals first|omega |rfl|skip
theorem EM {k c m t:List ai}(b:k.length=32)(hc:c.length=24)(d:m.length<=2000)(e:t.length<=2000):(gY dP k c m t).2=0/\(gY dP k c m t).1.length=t.length+16/\gY lQ k c m (gY dP k c m t).1=(t,0):=by
 have h:k.length=32/\c.length=24:=⟨b,hc⟩;have f:(u0 k (c.take 16)).length=32:=by
  have a:(dH (arr (k++c.take 16) 12) 80).length=16:=by rw[xG];exact vA (k++c.take 16) 12 ae
  unfold u0;rw[aE,tR,tR,br,bU,a];rfl
 unfold gY;rw[if_pos h,if_pos h];exact Lc f (by rw[aE,gv,bU];omega) d e
noncomputable def dj (u a ck x b:List ai):List ai:=(3#8::0#8::List.drop 2 (List.take 6 x))++a++(gY dP (jB u) a b ck).1
theorem Rp (u nonce ck x b c:List ai)(hu:u.length=32)(hn:nonce.length=24)(hk:ck.length=16)(hx:6<=x.length)(hx2:x.length<=1000000)(hb:b.length=16)(hc:c.length=16):aG prog 95 [.str u,.str nonce,.str ck,.str (x++b++c)] (.tup [.str (dj u nonce ck x b),.i64 0]):=by
 have h1:(u.length:Int)=32:=aa;have h2:(nonce.length:Int)=24:=aa;have h3:(ck.length:Int)=16:=aa;have hl:(x++b++c).length=x.length+32:=by rw[aE,aE];omega
 have h4:¬ ((x.length+32:Nat):Int)<38:=aa;have hK:=KP u hu;have hM:=IA x b c hb hc hx2;have hH:=Fg (x++b++c) aa aa;rw[show List.take 6 (x++b++c)=List.take 6 x by rw[dV,xH hx]] at hH;have hL:=ael (jB u) nonce b ck;unfold dj;have hzl:(gY dP (jB u) nonce b ck).1.length<=1000:=by have :=Ta (jB u) nonce b ck;omega
 have hdl:(3#8::0#8::List.drop 2 (List.take 6 x)).length=6:=by simp;omega
 generalize gY dP (jB u) nonce b ck=z at*;generalize jB u=ko at*;generalize x++b++c=s at*;generalize 3#8::0#8::List.drop 2 (List.take 6 x)=hd at*;refine aQ ac (fn:=f95) ac func95 rfl am (by simp[af,V.low]) (by simp[af,V.low]) (ak ?_);simp -implicitDefEqProofs only[go_sem,seval,ntmps95,h1,h2,h3,hl,h4,ne_eq,not_true,decide_false];refine au (hK) ?_;simp -implicitDefEqProofs only[go_sem,seval];refine au (hM) ?_;simp -implicitDefEqProofs only[go_sem,seval];refine au (hL) ?_;simp -implicitDefEqProofs only[go_sem,seval];repeat refine aJ ?_
 refine au (hH) ?_;simp -implicitDefEqProofs only[go_sem,seval];repeat refine aJ ?_
 omega
theorem afe (u nonce ck x b c:List ai)(hu:u.length=32)(hn:nonce.length=24)(hk:ck.length=16)(hx:6<=x.length)(hx2:x.length<=1000000)(hb:b.length=16)(hc:c.length=16):aG prog 105 [.str u,.str (x++b++c),.str (dj u nonce ck x b)] (.tup [.str ck,.i64 0]):=by
 have h1:(u.length:Int)=32:=aa;have hl:(x++b++c).length=x.length+32:=by rw[aE,aE];omega
 have h4:¬ ((x.length+32:Nat):Int)<38:=aa;have hK:=KP u hu;have hM:=IA x b c hb hc hx2;have hH:=Fg (x++b++c) aa aa;rw[show List.take 6 (x++b++c)=List.take 6 x by rw[dV,xH hx]] at hH;obtain⟨-,q2,q3⟩:=EM (k:=jB u) (c:=nonce) (m:=b) (t:=ck) (IF u hu) hn aa aa;have hdl:(3#8::0#8::List.drop 2 (List.take 6 x)).length=6:=by simp;omega
 have hrl:(dj u nonce ck x b).length=62:=by unfold dj;rw[aE,aE,hdl,q2];omega
 have t6:List.take 6 (dj u nonce ck x b)=3#8::0#8::List.drop 2 (List.take 6 x):=by unfold dj;rw[dV];exact ja hdl
 have t30:List.drop 6 (List.take 30 (dj u nonce ck x b))=nonce:=by
  unfold dj;rw[ja (by rw[aE,hdl,hn])];exact kg hdl
 have d30:List.drop 30 (dj u nonce ck x b)=(gY dP (jB u) nonce b ck).1:=by unfold dj;exact kg (by rw[aE,hdl,hn])
 have hL:=OT (jB u) nonce b (gY dP (jB u) nonce b ck).1;rw[q3] at hL;generalize dj u nonce ck x b=rp at*;generalize (gY dP (jB u) nonce b ck).1=z at*;generalize jB u=ko at*;generalize x++b++c=s at*;generalize 3#8::0#8::List.drop 2 (List.take 6 x)=hd at*;refine aQ ac (fn:=f105) ac func105 rfl am (by simp[af,V.low]) (by simp[af,V.low]) (ak ?_);simp -implicitDefEqProofs only[go_sem,seval,ntmps105,h1,hl,h4,hrl,ne_eq,not_true,decide_false];repeat refine aJ ?_
 refine aX (hH) ?_;simp -implicitDefEqProofs only[go_sem,seval,t6,ne_eq,not_true,decide_false];repeat refine aJ ?_
 refine aX (hK) ?_;simp -implicitDefEqProofs only[go_sem,seval,t30];repeat refine aJ ?_
 refine aX (hM) ?_;simp -implicitDefEqProofs only[go_sem,seval,d30];repeat refine aJ ?_
 refine aX (hL) ?_;simp -implicitDefEqProofs only[go_sem,seval];kernel_rfl
end
section
def cY (theirs:BitVec 32)(n:Int)(z:List ai):List ai:=[4#8,0#8]++aV (theirs.setWidth 64).toNat 4++aV (BitVec.ofInt 64 n).toNat 8++z
section
variable {K K0 K':RK}{H H0 H':List (Option Blk)}{Q0 Q:Rl->Prop}{j i d p tm q w a arr paths bk b N n:Nat}{P:PeS}{D:DeS}{S S':SeS}{ps:List Nat}{out got wv bg ol se ne:V}
theorem Hz (f:Cx K0 H0 Q0 K H)(h:DevAt K H j d D arr ps paths bk out got)(c:D.ok n)(fr:BitVec 32):
  ∃ v K' H',Dx prog 93 [.ptr d 0,.u32 fr] K H (fun _=>False) v K' H'/\(v= .str (gV D.secret fr D.now)/\K'=K/\H'=H):=by
 have e:=h.g;unfold DeS.cs at e;have k:=UB D.secret fr D.now c.secret c.now.1 c.now.2;generalize gV D.secret fr D.now=o at*;refine bV (Q:=fun _=>False) (Post:=fun v K' H'=>v= .str o/\K'=K/\H'=H) ac (fn:=f93) func93 rfl am (ak ?_);simp -implicitDefEqProofs only[go_sem,seval,e];repeat refine aJ ?_
 refine aX (k) ?_;simp -implicitDefEqProofs only[go_sem,seval];repeat refine aJ ?_
 exact Ex.of (f.start _) trivial ⟨rfl,rfl,rfl⟩
noncomputable def PeS.mkd (P:PeS) (now:Int) (x:List ai):List ai:=nD P.pub (if P.un<now then[] else P.ck) x
theorem PeS.mkd_length (c:P.ok){now:Int}{x:List ai}(e:x.length<=1000000):(P.mkd now x).length=x.length+32:=by
 unfold PeS.mkd;exact abk (by rw[c.pub,cB]) (by split <;>first|exact .inl rfl|exact c.ck) aa
theorem IV (l:Cx K0 H0 Q0 K H)(r:DevAt K H j d D arr ps paths bk out got)(s:PeerAt K H j i d p P tm wv bg ol se ne)(m:P.ok)(x:List ai)(t:x.length<=1000000):
  ∃ v K' H',Dx prog 92 [.ptr p 0,.str x] K H (fun _=>False) v K' H'/\(v= .str (P.mkd D.now x)/\K'=K/\H'=H):=by
 have f:=r.g;have c:=s.gp;unfold DeS.cs at f;unfold PeS.cs at c;have e:P.pub.length=32:=by rw[m.pub,cB]
 unfold PeS.mkd;by_cases h:P.un<D.now
 ·have k:=Ic P.pub [] x e (.inl rfl) aa;rw[if_pos h];generalize nD P.pub [] x=o at*;refine bV (Q:=fun _=>False) (Post:=fun v K' H'=>v= .str o/\K'=K/\H'=H) ac (fn:=f92) func92 rfl am (ak ?_);simp -implicitDefEqProofs only[go_sem,seval,c,f,h];repeat refine aJ ?_
  refine au (k) ?_;simp -implicitDefEqProofs only[go_sem,seval];exact Ex.of (l.start _) trivial ⟨rfl,rfl,rfl⟩
 ·have k:=Ic P.pub P.ck x e m.ck aa;rw[if_neg h];generalize nD P.pub P.ck x=o at*;refine bV (Q:=fun _=>False) (Post:=fun v K' H'=>v= .str o/\K'=K/\H'=H) ac (fn:=f92) func92 rfl am (ak ?_);simp -implicitDefEqProofs only[go_sem,seval,c,f,h];repeat refine aJ ?_
  refine au (k) ?_;simp -implicitDefEqProofs only[go_sem,seval];exact Ex.of (l.start _) trivial ⟨rfl,rfl,rfl⟩
theorem PeerAt.offO (h:PeerAt K H j i d p P tm wv bg ol se ne){j':Nat}(c:Off (qO j') K H K' H'):PeerAt K' H' j i d p P tm wv bg ol se ne:=h.off c id id id id id fun _=>⟨id,id⟩
theorem PeerAt.offF (h:PeerAt K H j i d p P tm wv bg ol se ne)(c:Off (fun _=>False) K H K' H'):PeerAt K' H' j i d p P tm wv bg ol se ne:=h.off c id id id id id fun _=>⟨id,id⟩
theorem DevAt.offF (h:DevAt K H j d D arr ps paths bk out got)(c:Off (fun _=>False) K H K' H'):DevAt K' H' j d D arr ps paths bk out got:=h.off c id id id id
theorem W9 (c:Cx K0 H0 Q0 K H)(g:DevAt K H j d D arr ps paths bk out got)(f:PeerAt K H j i d p P tm wv bg ol se ne)(k:P.ok)(x:List ai)(s:x.length<=900000)(l:D.out.length<=1000000000):
  ∃ v K' H',Dx prog 101 [.ptr p 0,.str x] K H (qO j) v K' H'/\(v= .tup []/\fm K' H' j d (D.goes P.at_ (P.mkd D.now x)) arr ps paths bk):=by
 have e:=f.gp;unfold PeS.cs at e;refine bV (Q:=qO j) (Post:=fun v K' H'=>v= .tup []/\fm K' H' j d (D.goes P.at_ (P.mkd D.now x)) arr ps paths bk) ac (fn:=f101) func101 rfl am (ak ?_);simp -implicitDefEqProofs only[go_sem,seval,e];repeat refine aI ?_
 refine cN (IV c g f k x aa) ac rfl (by simp[af,V.low,c.lt f.kp]) c.sane ?_;rintro _ K1 H1 m o ⟨rfl,rfl,rfl⟩;simp -implicitDefEqProofs only[go_sem,seval];repeat refine aI ?_
 refine cN (yZ c g P.at_ (P.mkd D.now x) l) ac rfl (by simp[af,V.low,c.lt g.kd]) c.sane ?_;rintro _ K2 H2 h r ⟨rfl,h2⟩;simp -implicitDefEqProofs only[go_sem];refine And.intro ?_ ?_
 ·refine eC (fw H1.length) [([],[]),([],[]),([],[]),([0],[]),([],[]),([],[]),([],[]),([0],[]),([],[]),([],[]),([0,1],[1]),([0,1],[0,1])] ac (by simp only[eO,eG,bh,mz,all_cons,pO,ff,w8,dU (c.lt f.kp),fC,and_true])
 exact Ex.of h trivial ⟨rfl,h2⟩
theorem PeerAt.sealed (h:PeerAt K H j i d p P tm wv bg ol (.ptr a 0) ne)(c:Off (fun r=>r= .pair j i a\/r= .win j i a) K H K' H')(t:SesIn K' H' j i a q w S'):PeerAt K' H' j i d p {P with se:=some S'} tm wv bg ol (.ptr a 0) ne:=by
 have o:∀ {v:V} {a':Nat},v= .ptr a' 0->Apart v (.ptr a 0)->¬ (Rl.pair j i a'= .pair j i a\/Rl.pair j i a'= .win j i a)/\¬ (Rl.win j i a'= .pair j i a\/Rl.win j i a'= .win j i a):=fun {v a'} e f=>by
  have l:a'≠a:=fun u=>by
   subst u;rcases f with f|f
   ·rw[e] at f;cases f
   ·exact f e
  simp[l]
 refine⟨c.k p _ h.kp ae,c.k tm _ h.kt ae,(c.h p _ h.kp ae).trans h.gp,(c.h tm _ h.kt ae).trans h.gt,h.fwv.off c ae,h.fbg.off c ae,h.fol.off c ae fun a' e=>o e h.d1,⟨a,q,w,rfl,t⟩,h.fne.off c ae fun a' e=>o e ?_,h.d1,h.d2,h.d3⟩;rcases h.d3 with m|m
 ·cases m
 ·exact .inr (Ne.symm m)
noncomputable def dn (D:DeS) (P:PeS) (x:List ai):DeS×PeS:=match P.se with
 |none=>(D,P)
 |some S=>if S.over D.now=true then(D,P) else(D.goes P.at_ (cY S.theirs S.se (mP S.su S.sd S.se x)),
   {P with se:=some {S with se:=S.se+1},tm:=if({S with se:=S.se+1}:SeS).stale D.now=true then(P.tm.ev 1 D.now).ev 3 D.now else P.tm.ev 1 D.now})
theorem Rk (c:Cx K0 H0 Q0 K H)(h:SesIn K H j i a q w S)(e:S.ok)(x:List ai)(f:x.length<=2000)(now:Int)(g:S.over now=true):
  ∃ v K' H',Dx prog 63 [.ptr q 0,.str x,.i64 now] K H (fun r=>r= .pair j i a) v K' H'/\(v= .tup [.i64 0,.str [],.i64 11]/\K'=K/\H'=H):=by
 obtain⟨v,K',H',h1,h2⟩:=Jz c h e x f now;rw[if_pos g] at h2;exact⟨v,K',H',h1,h2⟩
theorem abX (c:Cx K0 H0 Q0 K H)(h:SesIn K H j i a q w S)(e:S.ok)(x:List ai)(f:x.length<=2000)(now:Int)(g:¬ S.over now=true):
  ∃ v K' H',Dx prog 63 [.ptr q 0,.str x,.i64 now] K H (fun r=>r= .pair j i a) v K' H'/\(v= .tup [.i64 S.se,.str (mP S.su S.sd S.se x),.i64 0]/\K'=K/\SesIn K' H' j i a q w {S with se:=S.se+1}):=by
 obtain⟨v,K',H',h1,h2⟩:=Jz c h e x f now;rw[if_neg g] at h2;obtain⟨rfl,rfl,rfl⟩:=h2;exact⟨_,_,_,h1,rfl,rfl,h.ka,h.kq,h.kw,(h1.cur.get h.ka (aU h.ga) ae).trans h.ga,bG (aU h.gq) _,(h1.cur.get h.kw (aU h.gw) ae).trans h.gw⟩
theorem TmS.ev_ok {T:TmS}(c:T.ok){k now:Int}(e:k≠4\/T.t<=5)(f:0<=now/\now<=1099511627776):(T.ev k now).ok:=by
 have h1:=c.t0;have h2:=c.t6;have g:=c.l;have h:=c.u;refine⟨?_,?_,?_,?_⟩
 ·show 0<=tT T.t k;unfold tT;split <;>(try split)<;>(try split)<;>omega
 ·show tT T.t k<=6;unfold tT;split <;>(try split)<;>(try split)<;>omega
 ·show 0<=tL T.l k now/\tL T.l k now<=1099511627776;unfold tL;split <;>(try split)<;>omega
 ·show 0<=tU T.o T.u k now/\tU T.o T.u k now<=1099511627776;unfold tU;split <;>(try split)<;>omega
theorem SeS.seal_ok (c:S.ok){now:Int}(e:¬ S.over now=true):({S with se:=S.se+1}:SeS).ok:=
 ⟨c.su,c.sd,c.rc,c.bo,by
  have h:=c.se;unfold SeS.over nZ at e;split at e
  ·exact absurd rfl e
  ·simp at e;exact⟨by show 0<=S.se+1;omega,by show S.se+1<=1000;omega⟩,c.nx⟩
theorem wB (f:P.ok)(c:D.ok n)(x:List ai):(dn D P x).2.ok/\(dn D P x).1.ok (n+1):=by
 have up:D.ok (n+1):=⟨c.own,c.pub,c.seed,c.best,c.secret,c.now,⟨c.firsts.1,by have :=c.firsts.2;omega⟩,by have :=c.out;omega,by have :=c.got;omega⟩;unfold dn;split
 ·exact⟨f,up⟩
 ·rename_i S g;split
  ·exact⟨f,up⟩
  ·rename_i h;refine⟨⟨f.q,f.pub,f.psk,f.kn,f.pin,f.ck,f.un,f.wl,f.ws,f.bg,f.bt,f.ol,fun S2 e=>?_,f.ne,?_⟩,?_⟩
   ·cases e;exact SeS.seal_ok (f.se S g) h
   ·have h1:=TmS.ev_ok f.tm (k:=1) (.inl ah) c.now;show(if _ then _ else _:TmS).ok;split
    ·exact TmS.ev_ok h1 (.inl ah) c.now
    ·exact h1
   ·unfold DeS.goes;split
    ·exact up
    ·exact⟨c.own,c.pub,c.seed,c.best,c.secret,c.now,⟨c.firsts.1,up.firsts.2⟩,by have :=c.out;simp;omega,up.got⟩
def qS (j i:Nat):Rl->Prop
 | .dev j'| .out j'=>j'=j
 | .tm j' e| .pair j' e _=>j'=j/\e=i
 |_=>False
theorem Xi:∀ r,qO j r->qS j i r:=fun r h=>by cases r<;>first|exact h|cases h
theorem uG:∀ r,qS j i r->qP j i r:=fun r h=>by cases r<;>first|exact h|cases h
theorem yV (hC:Cx K0 H0 Q0 K H)(hD:DevAt K H j d D arr ps paths bk out got)(hP:PeerAt K H j i d p P tm wv bg ol se ne)(hp:P.ok)(hd:D.ok n)(hn:n<=1000000000)(hS:P.se=some S)(x:List ai)(hx:x.length<=2000):
  ∃ v K' H',Dx prog 46 [.ptr p 0,.str x] K H (qS j i) v K' H'/\(v= .tup []/\fm K' H' j d (dn D P x).1 arr ps paths bk/\PeerIn K' H' j i d p (dn D P x).2):=by
 have hse:=hP.fse;rw[hS] at hse;obtain⟨a,q,w,rfl,hs⟩:=hse;have hSo:=hp.se S hS;have hnow:=hd.now;have hg:=hD.g;have hgq:=hP.gp;have hgs:=hs.ga;unfold DeS.cs at hg;unfold PeS.cs at hgq;unfold SeS.sc at hgs;by_cases ho:S.over D.now=true
 ·have e:dn D P x=(D,P):=by unfold dn;rw[hS];exact if_pos ho
  rw[e];refine bV (Q:=qS j i) (Post:=fun v K' H'=>v= .tup []/\fm K' H' j d D arr ps paths bk/\PeerIn K' H' j i d p P) ac (fn:=f46) func46 rfl am (ak ?_);simp -implicitDefEqProofs only[go_sem,seval,hgq,hg,hgs];repeat refine aI ?_
  refine cN (Rk hC hs hSo x hx D.now ho) ac rfl (by simp[af,V.low,hC.lt hs.kq]) hC.sane ?_;rintro _ K1 H1 hC1 hl1 ⟨rfl,rfl,rfl⟩;simp -implicitDefEqProofs only[go_sem,seval];repeat refine aI ?_
  exact Ex.of (hC.start _) trivial ⟨rfl,⟨_,_,hD⟩,_,_,_,_,_,_,hP⟩
 have e:dn D P x=(D.goes P.at_ (cY S.theirs S.se (mP S.su S.sd S.se x)),{P with se:=some {S with se:=S.se+1},tm:=if({S with se:=S.se+1}:SeS).stale D.now=true then(P.tm.ev 1 D.now).ev 3 D.now else P.tm.ev 1 D.now}):=by unfold dn;rw[hS];exact if_neg ho
 rw[e];clear e;have hxl:=GK (s:=S.su) (n:=S.se) hSo.sd hx;have hS1:=SeS.seal_ok hSo ho;refine bV (Q:=qS j i) (Post:=fun v K' H'=>v= .tup []/\fm K' H' j d (D.goes P.at_ (cY S.theirs S.se (mP S.su S.sd S.se x))) arr ps paths bk/\PeerIn K' H' j i d p {P with se:=some {S with se:=S.se+1},tm:=if({S with se:=S.se+1}:SeS).stale D.now=true then(P.tm.ev 1 D.now).ev 3 D.now else P.tm.ev 1 D.now}) ac (fn:=f46) func46 rfl am (ak ?_);simp -implicitDefEqProofs only[go_sem,seval,hgq,hg,hgs];repeat refine aI ?_
 refine cN (abX hC hs hSo x hx D.now ho) ac rfl (by simp[af,V.low,hC.lt hs.kq]) hC.sane ?_;rintro _ K1 H1 hC1 hl1 ⟨rfl,rfl,hs1⟩;simp -implicitDefEqProofs only[go_sem,seval];repeat refine aI ?_
 have hD1:=hD.off hC1.off ae ae ae ae;have hP1:=hP.sealed (hC1.off.mono fun r h=> .inl h) hs1;have hE1:=hC1.mono (Q2:=qS j i) fun r h=>by subst h;exact⟨rfl,rfl⟩
 have hg1:=hP1.gp;have hgs1:=hs1.ga;unfold PeS.cs at hg1;unfold SeS.sc at hgs1;dsimp only at hg1 hgs1;have hA4:=Ew [4#8,0#8] (S.theirs.setWidth 64) ae;have hA8:=rj ([4#8,0#8]++aV (S.theirs.setWidth 64).toNat 4) (BitVec.ofInt 64 S.se) (by simp[bT]);simp only[aE,bT] at hA8;simp -implicitDefEqProofs only[go_sem,seval,hg1,hgs1,lI (hC1.lt hP1.kp),lI (hC1.lt hs1.ka)];repeat refine aI ?_
 have hE2:=hE1.junk (vs:=[.u8 4#8,.u8 0#8]) (mm:=none) (by simp[af,V.low]);have hl2:(H1++[bK [.u8 4#8,.u8 0#8]]).length=H1.length+1:=ae;refine Vk hE2 hE1.len eY hA4 (fun _=>rfl) (by simp[af,V.low]) ac (fun H2 hE2 hk2 hg2 hl2'=>?_);rw[hl2] at hg2 hl2';have hk2':∀ c,c<H1.length->ag H2 c=ag H1 c:=fun c hc=>(hk2 c (by rw[hl2];omega) (vO hc)).trans (lI hc)
 have hg1b:=(hk2' p (hC1.lt hP1.kp)).trans hg1;simp -implicitDefEqProofs only[go_sem,seval,hl2,hg1b];repeat refine aI ?_
 refine Oe hE2 (fF hE1.len (nW _ _)) hg2 hA8 (fun _=>rfl) (by simp[af,V.low]) ac (fun H3 hE3 hk3 hg3 hl3=>?_);rw[hl2'] at hg3 hl3;have hlb:(([4#8,0#8]++aV (S.theirs.setWidth 64).toNat 4)++aV (BitVec.ofInt 64 S.se).toNat 8).length=14:=by simp[bT]
 have hk3':∀ c,c<H1.length->ag H3 c=ag H1 c:=fun c hc=>(hk3 c (by rw[hl2'];omega) aa).trans (hk2' c hc)
 have hO3:Off (fun _=>False) K1 H1 K1 H3:=⟨fun _ _ e _=>e,fun b r e _=>hk3' b (hC1.lt e)⟩;have hD3:=hD1.offF hO3;have hP3:=hP1.offF hO3;have hs3:=hs1.off hO3 id id id;unfold cY;generalize hbb:([4#8,0#8]++aV (S.theirs.setWidth 64).toNat 4)++aV (BitVec.ofInt 64 S.se).toNat 8=bb at*;simp -implicitDefEqProofs only[go_sem,seval,hl2',hg3,ar (show(bb.map V.u8).length<=14 by simp;omega)];repeat refine aI ?_
 generalize mP S.su S.sd S.se x=z at*;refine cN (yZ hE3 hD3 P.at_ (bb++z) (by have :=hd.out;omega)) ac rfl (by simp[af,V.low,hE3.lt hD3.kd]) hE3.sane ?_;rintro _ K4 H4 hC4 hl4 ⟨rfl,_,_,hD4⟩;simp -implicitDefEqProofs only[go_sem,seval];refine And.intro ?_ ?_
 ·refine eC (fw H1.length) [([],[]),([],[]),([],[]),([0],[]),([],[]),([],[]),([],[]),([0],[]),([],[]),([],[]),([0,1],[1]),([1],[1]),([0,1],[1]),([],[]),([],[]),([0,1],[0,1])] ac (by simp only[eO,eG,bh,mz,all_cons,DD,YT,dU (hC1.lt hP1.kp),fC,kN,and_true])
 have hE4:=hE3.call hC4 Xi;have hP4:=hP3.offO hC4.off;have hs4:=hs3.off hC4.off id id id;have hg4:=hP4.gp;have hgd4:=hD4.g;have hgs4:=hs4.ga;have eD:(D.goes P.at_ (bb++z)).now=D.now:=by unfold DeS.goes;split <;>rfl
 unfold PeS.cs at hg4;unfold DeS.cs at hgd4;unfold SeS.sc at hgs4;rw[eD] at hgd4;dsimp only at hg4 hgs4;simp -implicitDefEqProofs only[go_sem,seval,hg4,hgd4];repeat refine aI ?_
 refine cN (ng hE4 hP4.kt hP4.gt hp.tm 1 D.now ah hnow) ac rfl (by simp[af,V.low,hE4.lt hP4.kt]) hE4.sane ?_;rintro _ K5 H5 hC5 hl5 ⟨rfl,rfl,hH5⟩;simp -implicitDefEqProofs only[go_sem,seval];repeat refine aI ?_
 have hE5:=hE4.call hC5 fun r h=>by subst h;exact⟨rfl,rfl⟩
 have hP5:=hP4.timer hC5.off hP4.kt (T:=P.tm.ev 1 D.now) (by rw[hH5];exact bG (hE4.lt hP4.kt) _);have hD5:=hD4.off hC5.off ae ae ae ae;have hs5:=hs4.off hC5.off ae ae ae;have hg5:=hP5.gp;have hgd5:=hD5.g;have hgs5:=hs5.ga;unfold PeS.cs at hg5;unfold DeS.cs at hgd5;unfold SeS.sc at hgs5;rw[eD] at hgd5;dsimp only at hg5 hgs5;simp -implicitDefEqProofs only[go_sem,seval,hg5,hgs5,hgd5];repeat refine aI ?_
 refine cN (Q4 hE5 hs5 hS1 D.now) ac rfl (by simp[af,V.low,hE5.lt hs5.kq]) hE5.sane ?_;rintro _ K6 H6 hC6 hl6 ⟨rfl,rfl,rfl⟩;simp -implicitDefEqProofs only[go_sem,seval];repeat refine aI ?_
 generalize hr:({S with se:=S.se+1}:SeS).stale D.now=r at*;cases r
 ·simp -implicitDefEqProofs only[go_sem,seval];exact Ex.of hE5 trivial ⟨rfl,⟨_,_,hD5⟩,_,_,_,_,_,_,hP5⟩
 simp -implicitDefEqProofs only[go_sem,seval,hg5,hgd5];repeat refine aI ?_
 refine cN (ng hE5 hP5.kt hP5.gt (TmS.ev_ok hp.tm (.inl ah) hnow) 3 D.now ah hnow) ac rfl (by simp[af,V.low,hE5.lt hP5.kt]) hE5.sane ?_;rintro _ K7 H7 hC7 hl7 ⟨rfl,rfl,hH7⟩;simp -implicitDefEqProofs only[go_sem];repeat refine aI ?_
 have hE7:=hE5.call hC7 fun r h=>by subst h;exact⟨rfl,rfl⟩
 have hP7:=hP5.timer hC7.off hP5.kt (T:=(P.tm.ev 1 D.now).ev 3 D.now) (by rw[hH7];exact bG (hE5.lt hP5.kt) _);exact Ex.of hE7 trivial ⟨rfl,⟨_,_,hD5.off hC7.off ae ae ae ae⟩,_,_,_,_,_,_,hP7⟩
end
end
section
section
variable {K K0 K':RK}{H H0 H':List (Option Blk)}{Q0 Q:Rl->Prop}{j i d p tm q w a arr paths bk b N n:Nat}{P:PeS}{D:DeS}{S S':SeS}{ps:List Nat}{out got wv bg ol se ne:V}
def PeS.useB (P:PeS)(now:Int):Bool:=match P.se with
 |none=>false
 |some S=>! S.over now
theorem FV (e:Cx K0 H0 Q0 K H)(m:DevAt K H j d D arr ps paths bk out got)(l:PeerAt K H j i d p P tm wv bg ol se ne)(s:P.ok):
  ∃ v K' H',Dx prog 45 [.ptr p 0] K H (fun _=>False) v K' H'/\(v= .bool (P.useB D.now)/\K'=K/\H'=H):=by
 have r:=m.g;have c:=l.gp;have f:=l.fse;unfold DeS.cs at r;unfold PeS.cs at c;unfold PeS.useB;generalize t:P.se=o at*;cases o with
 |none=>
  obtain rfl:se= .nilPtr:=f;refine bV (Q:=fun _=>False) (Post:=fun v K' H'=>v= .bool false/\K'=K/\H'=H) ac (fn:=f45) func45 rfl am (ak ?_);simp -implicitDefEqProofs only[go_sem,seval,c];repeat refine aJ ?_
  exact Ex.of (e.start _) trivial ⟨rfl,rfl,rfl⟩
 |some S=>
  obtain⟨a,q,w,rfl,k⟩:=f;have h:=k.ga;unfold SeS.sc at h;refine bV (Q:=fun _=>False) (Post:=fun v K' H'=>v= .bool (! S.over D.now)/\K'=K/\H'=H) ac (fn:=f45) func45 rfl am (ak ?_);simp -implicitDefEqProofs only[go_sem,seval,c];repeat refine aJ ?_
  simp -implicitDefEqProofs only[go_sem,seval,c,r,h];repeat refine aJ ?_
  refine cN (Ox e k (s.se S t) D.now) ac rfl (by simp[af,V.low,e.lt k.kq]) e.sane ?_;rintro _ K1 H1 u x ⟨rfl,rfl,rfl⟩;simp -implicitDefEqProofs only[go_sem,seval];refine⟨?_,?_⟩
  ·refine eC (fw H1.length) [([],[]),([],[]),([],[]),([0],[]),([],[]),([],[]),([],[]),([],[]),([],[]),([0],[]),([],[]),([],[]),([0],[]),([],[]),([],[]),([],[]),([0],[]),([],[]),([],[]),([0],[]),([0,1],[0,1]),([],[]),([],[]),([],[])] ac (by simp only[eO,eG,bh,mz,all_cons,pO,ff,dU (e.lt l.kp),dU (e.lt m.kd),dU (e.lt k.ka),fC,and_true])
  exact Ex.of (e.start _) trivial ⟨rfl,rfl,rfl⟩
noncomputable def iR (s:DeS×PeS) (l:List (List ai)):DeS×PeS:=l.foldl (fun s x=>dn s.1 s.2 x) s
noncomputable def jP (D:DeS) (P:PeS):DeS×PeS:=iR (D,{P with waits:=[]}) P.waits
theorem Ja (c:P.se≠none)(x:List ai):(dn D P x).2.se≠none:=by
 unfold dn;split
 ·rename_i h;exact absurd h c
 ·split
  ·exact c
  ·simp
theorem Fj {l:List (List ai)}:∀ {D:DeS} {P:PeS} {n:Nat},P.ok->D.ok n->(iR (D,P) l).2.ok/\(iR (D,P) l).1.ok (n+l.length):=by
 induction l with
 |nil=>exact fun c e=>⟨c,e⟩
 |cons x l ih=>
  intro D P n c e;have h:=wB c e x;have :=ih (D:=(dn D P x).1) (P:=(dn D P x).2) h.1 h.2;rw[show n+(x::l).length=n+1+l.length by rw[ce];omega];exact this
theorem Tn (s:DeS×PeS)(l:List (List ai))(x:List ai):iR s (l++[x])=dn (iR s l).1 (iR s l).2 x:=by
 unfold iR;rw[Ch];rfl
theorem TS {l:List (List ai)}:∀ {D:DeS} {P:PeS},P.se≠none->(iR (D,P) l).2.se≠none:=by
 induction l with
 |nil=>exact fun h=>h
 |cons x l ih=>exact fun h=>ih (Ja h x)
theorem PeS.ok.waits (c:P.ok):({P with waits:=[]}:PeS).ok:=⟨c.q,c.pub,c.psk,c.kn,c.pin,c.ck,c.un,fg _,(fun _ h=>nomatch h),c.bg,c.bt,c.ol,c.se,c.ne,c.tm⟩
theorem PeS.low {m k:Nat}(h:af m (P.cs d tm wv bg ol se ne))(c:m<=k):d<k/\tm<k/\wv.low k/\bg.low k/\ol.low k/\se.low k/\ne.low k:=by
 have h:=ma c _ h;unfold PeS.cs at h;simp only[af,V.low,true_and,and_true] at h;exact h
theorem PeerAt.put (l:Cx K0 H0 Q0 K H)(c:PeerAt K H j i d p P tm wv bg ol se ne){P':PeS}{wv' bg':V}(hw:WtAt K H j i wv' P'.waits)(u:BgAt K H j i bg' P'.psk P'.bg)(m:wv'.low H.length)(o:bg'.low H.length)(v:P'.tm=P.tm)(x:P'.ol=P.ol)(y:P'.se=P.se)(z:P'.ne=P.ne):
  Cx K H (fun r=>r= .peer j i) K (H.set p (bK (P'.cs d tm wv' bg' ol se ne)))/\PeerAt K (H.set p (bK (P'.cs d tm wv' bg' ol se ne))) j i d p P' tm wv' bg' ol se ne:=by
 obtain⟨l1,l2,l3,E,A,B,C⟩:=PeS.low (l.sane _ _ c.gp).1 (aH _);have h1:=(l.start (fun r=>r= .peer j i)).put (mm:=none) c.kp rfl (vs:=P'.cs d tm wv' bg' ol se ne) (by simp[PeS.cs,af,V.low,l1,l2,m,o,A,B,C]);have e:=h1.off;refine⟨h1,c.kp,c.kt,bG (l.lt c.kp) _,?_,hw.off e ae,u.off e ae,?_,?_,?_,c.d1,c.d2,c.d3⟩
 ·rw[v];exact(e.h _ _ c.kt ae).trans c.gt
 ·rw[x];exact c.fol.off e ae ae
 ·rw[y];exact c.fse.off e ae ae
 ·rw[z];exact c.fne.off e ae ae
theorem PeerAt.set (f:Cx K0 H0 Q0 K H)(c:PeerAt K H j i d p P tm wv bg ol se ne){P':PeS}{wv':V}(hw:WtAt K H j i wv' P'.waits)(e:wv'.low H.length)(g:P'.tm=P.tm)(h:P'.psk=P.psk)(k:P'.bg=P.bg)(l:P'.ol=P.ol)(m:P'.se=P.se)(o:P'.ne=P.ne):
  Cx K H (fun r=>r= .peer j i) K (H.set p (bK (P'.cs d tm wv' bg ol se ne)))/\PeerAt K (H.set p (bK (P'.cs d tm wv' bg ol se ne))) j i d p P' tm wv' bg ol se ne:=
 c.put f hw (by rw[h,k];exact c.fbg) e (PeS.low (f.sane _ _ c.gp).1 (aH _)).2.2.2.1 g l m o
theorem BA (hC:Cx K0 H0 Q0 K H)(hD:DevAt K H j d D arr ps paths bk out got)(hP:PeerAt K H j i d p P tm wv bg ol se ne)(hp:P.ok)(hd:D.ok n)(hn:n<=999999990)(hS:P.se≠none):
  ∃ v K' H',Dx prog 104 [.ptr p 0] K H (qP j i) v K' H'/\(v= .tup []/\fm K' H' j d (jP D P).1 arr ps paths bk/\PeerIn K' H' j i d p (jP D P).2):=by
 obtain⟨c1,c2⟩:=hP.set hC (P':={P with waits:=[]}) (wv':= .nilSlice) (.inl ⟨rfl,rfl⟩) trivial rfl rfl rfl rfl rfl rfl;have hgq:=hP.gp;have hd1:=hD.off c1.off ae ae ae ae;have hc1:=c1.mono (Q2:=qP j i) fun r h=>by subst h;exact⟨rfl,rfl⟩
 unfold PeS.cs at hgq c1 hc1 c2 hd1;have hlt:=hC.lt hP.kp;refine bV (Q:=qP j i) (Post:=fun v K' H'=>v= .tup []/\fm K' H' j d (jP D P).1 arr ps paths bk/\PeerIn K' H' j i d p (jP D P).2) ac (fn:=f104) func104 rfl am (ak ?_);simp -implicitDefEqProofs only[go_sem,seval,hgq];repeat refine aI ?_
 rcases hP.fwv with⟨rfl,hw⟩|⟨wa,rfl,hw0,hwk,hgw⟩
 ·have e:jP D P=(D,{P with waits:=[]}):=by unfold jP;rw[hw];rfl
  rw[e];simp -implicitDefEqProofs only[go_sem,seval];repeat refine aI ?_
  refine dz 1 ?_;simp -implicitDefEqProofs only[go_sem,seval];exact Ex.of hc1 trivial ⟨rfl,⟨_,_,hd1⟩,_,_,_,_,_,_,c2⟩
 have hk0:0<P.waits.length:=rH.2 hw0;have hk4:=hp.wl;have hgw1:=(c1.get hwk (aU hgw) ae).trans hgw;generalize hws:P.waits=ws at*;have hfl:jP D P=iR (D,{P with waits:=[]}) ws:=by unfold jP;rw[hws]
 rw[hfl];simp -implicitDefEqProofs only[go_sem,seval];repeat refine aI ?_
 refine bq (fun jj st=>∃ (m:Nat) (Ki:RK) (Hi:List (Option Blk)),m+jj=ws.length/\Cx K H (qP j i) Ki Hi/\fm Ki Hi j d (iR (D,{P with waits:=[]}) (ws.take m)).1 arr ps paths bk/\PeerIn Ki Hi j i d p (iR (D,{P with waits:=[]}) (ws.take m)).2/\Ki wa=some (.wt j i)/\ag Hi wa=bK (ws.map .str)/\st=⟨[(0,.ptr p 0),(12,.slice wa 0 ws.length 1),(13,.i64 ws.length),(14,.i64 m)],Hi⟩) ?_ ?_
 ·exact bJ ws.length ⟨[(0,.ptr p 0),(12,.slice wa 0 ws.length 1),(13,.i64 ws.length),(14,.i64 (0:Nat))],_⟩ (by simp[St.get,aj]) rfl (fun _ _ h=>h) ⟨0,K,_,aa,hc1,⟨_,_,hd1⟩,⟨_,_,_,_,_,_,c2⟩,hwk,hgw1,rfl⟩
 clear c1 c2 hd1 hc1 hgw1;rintro jj st ⟨m,Ki,Hi,hij,hCi,⟨_,_,hDi⟩,⟨_,_,_,_,_,_,hPi⟩,hki,hgi,rfl⟩-;by_cases hi:m<ws.length
 ·have hi':(m:Int)<ws.length:=aa;have hw1:=dw (i:=m) aa;have hq:(ws.map V.str).getD m .junk= .str ws[m]:=by
   rw[aW,ci,aF hi];rfl
  have hok:=Fj (l:=ws.take m) hp.waits hd;have hse:=TS (l:=ws.take m) (D:=D) (P:={P with waits:=[]}) hS;have hlen:(ws.take m).length=m:=by rw[br];omega
  rw[hlen] at hok;obtain⟨Si,hSi⟩:=Option.ne_none_iff_exists'.1 hse;have hx:ws[m].length<=2000:=hp.ws _ (by rw[hws];exact dd hi);simp -implicitDefEqProofs only[go_sem,seval,hi',hgi,hq,ba];repeat refine aI ?_
  refine bA (yV hCi hDi hPi hok.1 hok.2 aa hSi ws[m] hx) ac rfl (by simp[af,V.low,hCi.lt hPi.kp]) hCi.sane ?_;rintro _ K2 H2 hC2 hl2 ⟨rfl,hD2,hP2⟩;simp -implicitDefEqProofs only[go_sem,seval];have e:iR (D,{P with waits:=[]}) (ws.take (m+1))=dn (iR (D,{P with waits:=[]}) (ws.take m)).1 (iR (D,{P with waits:=[]}) (ws.take m)).2 ws[m]:=by
   rw[List.take_add_one,aF hi];exact Tn _ _ _
  rw[<-e] at hD2 hP2;exact bx (jj-1) ⟨[(0,.ptr p 0),(12,.slice wa 0 ws.length 1),(13,.i64 ws.length),(14,.i64 (m+1:Nat))],H2⟩ aa (by simp[St.get,aj,hw1]) rfl (fun _ _ h=>h)
   ⟨m+1,K2,H2,aa,hCi.call hC2 uG,hD2,hP2,hC2.stay _ _ hki id,(hC2.get hki (aU hgi) id).trans hgi,rfl⟩
 ·have hi':¬ (m:Int)<ws.length:=aa;have e:ws.take m=ws:=ar aa;rw[e] at hDi hPi;simp -implicitDefEqProofs only[go_sem,seval,hi'];exact Ex.of hCi trivial ⟨rfl,⟨_,_,hDi⟩,_,_,_,_,_,_,hPi⟩
end
end
section
section
variable {K K0 K':RK}{H H0 H':List (Option Blk)}{Q0 Q:Rl->Prop}{j i d p tm q w a arr paths bk b N n:Nat}{P:PeS}{D:DeS}{S S':SeS}{f:FiP}{ps:List Nat}{out got wv bg ol se ne:V}
theorem MA (h:Cx K0 H0 Q0 K H)(g:f.ok)(psk:List ai)(k:psk.length=32)(j i:Nat):
  ∃ v K' H',Dx prog 91 [.agg [.i64 f.su,.str f.own,.str (aK f.q),.str psk],.str f.once,.agg [.i64 f.sec,.i64 f.nano],.i64 f.best,.u32 f.id] K H (fun _=>False) v K' H'/\(∃ c,v= .tup [.str f.text,.ptr c 0,.i64 0]/\K' c=some (.bg j i)/\ag H' c=bK (f.cs psk)):=by
 have l:=P2 (id:=f.id) g.su g.best g.time psk g.q g.once g.own k;have m:=f.st.low f.su;have r:=f.st.rens f.su;have o:=zD (H:=H) (v':= .tup [.str f.text,.ptr H.length 0,.i64 0]) l (fun _=>rfl) (by simp[af,V.low]) (fun σ=>rfl) (fun σ e=>by simp[V.ren,rens,e];rfl);refine⟨_,_,_,⟨o,(h.start (fun _=>False)).new (.bg j i) (by rw[oZ];exact⟨by rw[show(jN f.su f.q f.once f.own f.sec f.nano f.best).cs f.su=f.st.cs f.su from rfl,m];trivial,by simp[af,V.low]⟩),by simp[af,V.low]⟩,H.length,rfl,gB,eY⟩
noncomputable def eF (D:DeS) (P:PeS):FiP:={su:=if P.kn<D.best then P.kn else D.best,q:=P.q,once:=D.keyV,own:=D.own,sec:=D.now,nano:=D.firsts.tmod 1000000000,best:=D.best,id:=D.index+1#32}
noncomputable def qF (D:DeS) (P:PeS):DeS×PeS:=
 (({D with fresh:=D.fresh+1#64,index:=D.index+1#32,firsts:=D.firsts+1}:DeS).goes P.at_ (P.mkd D.now (eF D P).text),
  {P with bg:=some (eF D P),bi:=D.index+1#32,bt:=P.mkd D.now (eF D P).text,tm:=P.tm.ev 4 D.now})
theorem Bo (e:P.ok)(c:D.ok n):(eF D P).ok:=by
 refine⟨?_,e.q,(D.keyV_spec c.seed).2,c.own,?_,c.best⟩
 ·show(if P.kn<D.best then P.kn else D.best)=1\/(if P.kn<D.best then P.kn else D.best)=2;have h1:=e.kn;have h2:=c.best;split <;>omega
 ·have h:=c.firsts.1;refine⟨c.now.1,c.now.2,Int.tmod_nonneg _ h,?_⟩;have :=Int.tmod_lt_of_pos D.firsts (show(0:Int)<1000000000 by decide);show D.firsts.tmod 1000000000<=999999999;omega
theorem FiP.text_length (c:f.ok):f.text.length=115:=(C0 (k:=1#8) (s:=BitVec.ofInt 8 f.su) (fE _) (cB _) (xD c.su) (xq c.su)).1
theorem DeS.ok.up (c:D.ok n){m:Nat}(h:n<=m):D.ok m:=⟨c.own,c.pub,c.seed,c.best,c.secret,c.now,⟨c.firsts.1,by have :=c.firsts.2;omega⟩,fF c.out h,fF c.got h⟩
theorem DeS.ok.goes (c:D.ok n)(e:BitVec 32)(x:List ai):(D.goes e x).ok (n+1):=by
 unfold DeS.goes;split
 ·exact c.up (nj _)
 ·have up:=c.up (nj n);exact⟨c.own,c.pub,c.seed,c.best,c.secret,c.now,⟨c.firsts.1,up.firsts.2⟩,by have :=c.out;simp;omega,up.got⟩
theorem Gv (c:P.ok)(g:D.ok n)(ht:P.tm.t<=5):(qF D P).2.ok/\(qF D P).1.ok (n+2):=by
 have h:=Bo c g;have k:=PeS.mkd_length c (now:=D.now) (x:=(eF D P).text) (by rw[FiP.text_length h];decide);rw[FiP.text_length h] at k;have h1:({D with fresh:=D.fresh+1#64,index:=D.index+1#32,firsts:=D.firsts+1}:DeS).ok (n+1):=⟨g.own,g.pub,g.seed,g.best,g.secret,g.now,⟨by have :=g.firsts.1;show 0<=D.firsts+1;omega,by have :=g.firsts.2;show D.firsts+1<=((n+1:Nat):Int);omega⟩,rQ g.out,rQ g.got⟩;exact⟨⟨c.q,c.pub,c.psk,c.kn,c.pin,c.ck,c.un,c.wl,c.ws,fun f e=>by cases e;exact h,by show(P.mkd D.now (eF D P).text).length<=100000;omega,c.ol,c.se,c.ne,TmS.ev_ok c.tm (.inr ht) g.now⟩,h1.goes _ _⟩
theorem Uu (hC:Cx K0 H0 Q0 K H)(hD:DevAt K H j d D arr ps paths bk out got)(hP:PeerAt K H j i d p P tm wv bg ol se ne)(hp:P.ok)(hd:D.ok n)(hn:n<=999999990):
  ∃ v K' H',Dx prog 68 [.ptr p 0] K H (qP j i) v K' H'/\(v= .tup []/\fm K' H' j d (qF D P).1 arr ps paths bk/\PeerIn K' H' j i d p (qF D P).2):=by
 have hf:=Bo hp hd;have hnow:=hd.now;have hg:=hD.g;have hgq:=hP.gp;unfold DeS.cs at hg;unfold PeS.cs at hgq;have hlp:=hC.lt hP.kp;have hld:=hC.lt hD.kd;have hne:p≠d:=fun e=>by have :=hP.kp;rw[e,hD.kd] at this;cases this
 unfold qF;generalize hF:eF D P=F at*;have hsu:(if P.kn<D.best then P.kn else D.best)=F.su:=by rw[<-hF];rfl
 have hnano:D.firsts.tmod 1000000000=F.nano:=by rw[<-hF];rfl
 have hft:F.text.length=115:=FiP.text_length hf;refine bV (Q:=qP j i) (Post:=fun v K' H'=>v= .tup []/\fm K' H' j d (({D with fresh:=D.fresh+1#64,index:=D.index+1#32,firsts:=D.firsts+1}:DeS).goes P.at_ (P.mkd D.now F.text)) arr ps paths bk/\PeerIn K' H' j i d p {P with bg:=some F,bi:=D.index+1#32,bt:=P.mkd D.now F.text,tm:=P.tm.ev 4 D.now}) ac (fn:=f68) func68 rfl am (ak ?_);simp -implicitDefEqProofs only[go_sem,seval,hgq,hg,hsu];repeat refine aI ?_
 refine And.intro ?_ ?_
 ·refine eC (fw H.length) [([],[]),([],[]),([],[]),([0],[]),([],[]),([],[]),([0],[]),([],[]),([],[]),([],[]),([0],[]),([0],[]),([],[]),([],[]),([],[]),([0],[]),([],[]),([],[]),([0],[]),([],[]),([],[]),([],[]),([0],[]),([],[]),([],[]),([],[]),([0],[]),([],[]),([],[1]),([0,1],[0,1])] ac (by simp only[eO,eG,bh,mz,all_cons,rG,dU hlp,dU hld,fC,kN,and_true])
 have hC0:=hC.start (fun _=>False);have hC1:=hC0.boxed (zs:=[.i64 0,.str [],.str [],.str []]) (ys:=[.i64 F.su,.str D.own,.str P.pub,.str P.psk]) (by simp[af,V.low]) (by simp[af,V.low]);have hg1:=(lc (x:=bK [.i64 0,.str [],.str [],.str []]) (y:=bK [.i64 F.su,.str D.own,.str P.pub,.str P.psk]) hlp).trans hgq;have hd1:=(lc (x:=bK [.i64 0,.str [],.str [],.str []]) (y:=bK [.i64 F.su,.str D.own,.str P.pub,.str P.psk]) hld).trans hg;have hc1:=lF (H:=H) (x:=bK [.i64 0,.str [],.str [],.str []]) (y:=bK [.i64 F.su,.str D.own,.str P.pub,.str P.psk]);have hlM:((H++[bK [.i64 0,.str [],.str [],.str []]]).set H.length (bK [.i64 F.su,.str D.own,.str P.pub,.str P.psk])).length=H.length+1:=ae;generalize ((H++[bK [.i64 0,.str [],.str [],.str []]]).set H.length (bK [.i64 F.su,.str D.own,.str P.pub,.str P.psk]))=M at*;have hlp1:=hC1.lt hP.kp;have hld1:=hC1.lt hD.kd;have hlc1:=aU hc1;simp -implicitDefEqProofs only[go_sem,seval,hg1,hd1,hnano];repeat refine aI ?_
 refine And.intro ?_ ?_
 ·refine eC (fw M.length) [([],[]),([],[]),([],[]),([0],[]),([],[]),([],[]),([0],[]),([],[]),([],[]),([],[]),([0],[]),([],[]),([],[]),([0],[]),([],[]),([],[]),([],[1]),([0,1],[0,1])] ac (by simp only[eO,eG,bh,mz,all_cons,rG,dU hlp1,dU hld1,fC,kN,and_true])
 have hC2:=hC1.boxed (zs:=[.i64 0,.i64 0]) (ys:=[.i64 D.now,.i64 F.nano]) (by simp[af,V.low]) (by simp[af,V.low]);have hg2:=(lc (x:=bK [.i64 0,.i64 0]) (y:=bK [.i64 D.now,.i64 F.nano]) hlp1).trans hg1;have hd2:=(lc (x:=bK [.i64 0,.i64 0]) (y:=bK [.i64 D.now,.i64 F.nano]) hld1).trans hd1;have hc2:=(lc (x:=bK [.i64 0,.i64 0]) (y:=bK [.i64 D.now,.i64 F.nano]) hlc1).trans hc1;have hb2:=lF (H:=M) (x:=bK [.i64 0,.i64 0]) (y:=bK [.i64 D.now,.i64 F.nano]);have hlM2:((M++[bK [.i64 0,.i64 0]]).set M.length (bK [.i64 D.now,.i64 F.nano])).length=M.length+1:=ae;generalize ((M++[bK [.i64 0,.i64 0]]).set M.length (bK [.i64 D.now,.i64 F.nano]))=M2 at*;have hlp2:=hC2.lt hP.kp;have hld2:=hC2.lt hD.kd;have hD2:=hD.offF hC2.off;have hP2:=hP.offF hC2.off;simp -implicitDefEqProofs only[go_sem,seval,hg2];repeat refine aI ?_
 refine cN (x6 hC2 hD2 hd.seed) ac rfl (by simp[af,V.low,hC2.lt hD2.kd]) hC2.sane ?_;rintro _ K3 H3 hC3 hl3 ⟨rfl,rfl,hD3⟩;simp -implicitDefEqProofs only[go_sem,seval];have hP3:=hP2.off hC3.off ae ae ae ae ae ae;have hg3:=hP3.gp;unfold PeS.cs at hg3;simp -implicitDefEqProofs only[go_sem,seval,hg3];repeat refine aI ?_
 refine cN (LD hC3 hD3) ac rfl (by simp[af,V.low,hC3.lt hD3.kd]) hC3.sane ?_;rintro _ K4 H4 hC4 hl4 ⟨rfl,rfl,hD4⟩;simp -implicitDefEqProofs only[go_sem,seval];refine And.intro ?_ ?_
 ·have hx:=vp (Q:=fun r=>r= .dev j) hP3.kp hlp2 ae;have hw1:=wM (K:=K4) (Q:=fun r=>r= .dev j) (Q2:=fun r=>r= .dev j) (N:=M2.length) (n:=M2.length) (k:=H3.length-M2.length) (aH _) (fun _ h=>h);have hw2:=wM (K:=K4) (Q:=fun r=>r= .dev j) (Q2:=fun r=>r= .dev j) (N:=M2.length) (n:=H3.length) (k:=H4.length-H3.length) hC3.len (fun _ h=>h);refine eC (ia K4 (fun r=>r= .dev j) M2.length) [([],[]),([],[]),([],[]),([0],[]),([0,1,2],[1,2]),([],[]),([],[]),([],[]),([0],[]),([0,1,2],[1,2]),([],[]),([],[])] ac (by simp only[eO,eG,bh,all_cons,tY,fC,and_true,hx,hw1,hw2])
 have hE4:=(hC2.mono (Q2:=fun r=>r= .dev j) fun _ h=>h.elim).call (hC3.call hC4 fun _ h=>h) fun _ h=>h
 have hC34:=hC3.call hC4 fun _ h=>h
 have hP4:=hP3.off hC4.off ae ae ae ae ae ae;have hc4:=(hC34.getN (hC.fresh _ (aH _)) (aU hc2)).trans hc2;have hb4:=(hC34.getN (hC1.fresh _ (aH _)) (aU hb2)).trans hb2;have hg4:=hP4.gp;have hd4:=hD4.g;have hld4:=hC4.lt hD4.kd;have nd:∀ c,c≠d->d≠c:=fun c h e=>h e.symm
 obtain⟨c5,hD5⟩:=hD4.set hC4 (D':={D with fresh:=D.fresh+1#64,index:=D.index+1#32,firsts:=D.firsts+1}) rfl rfl;have hC5:=hE4.call c5 fun _ h=>h
 have hP5:=hP4.off c5.off ae ae ae ae ae ae;unfold PeS.cs at hg4;unfold DeS.cs at hd4 c5 hD5 hC5 hP5;dsimp only at hd4 c5 hD5 hC5 hP5;have ew:ao (D.firsts+1)=D.firsts+1:=az (by have :=hd.firsts;omega) (by have :=hd.firsts;omega);simp -implicitDefEqProofs only[go_sem,seval,hg4,hd4,bG hld4,bW (nd p hne),bW (nd H.length aa),bW (nd M.length aa),hc4,hb4,ew];repeat refine aI ?_
 have hg5:=hP5.gp;have hgd5:=hD5.g;generalize H4.set d (bK [.u32 D.here,.str D.own,.str D.pub,.str D.seed,.i64 D.best,.u64 (D.fresh+1#64),.str D.secret,.u32 (D.index+1#32),.i64 (D.firsts+1),.i64 D.now,.bool D.busy,.slice arr 0 ps.length 1,.ptr paths 0,.ptr bk 0,out,got])=H5 at*;have hB5:=MA hC5 hf P.psk hp.psk j i;have eo:F.own=D.own:=by rw[<-hF];rfl
 have eq:aK F.q=P.pub:=by rw[<-hF,hp.pub];rfl
 have e1:F.once=D.keyV:=by rw[<-hF];rfl
 have e2:F.sec=D.now:=by rw[<-hF];rfl
 have e3:F.best=D.best:=by rw[<-hF];rfl
 have e4:F.id=D.index+1#32:=by rw[<-hF];rfl
 rw[eo,eq,e1,e2,e3,e4] at hB5;refine cN (hB5) ac rfl (by simp[af,V.low]) hC5.sane ?_;rintro _ K6 H6 hC6 hl6 ⟨c,rfl,hKc,hgc⟩;have hC6':=hC5.call hC6 fun _ h=>h.elim
 have hD6:=hD5.offF hC6.off;have hP6:=hP5.offF hC6.off;simp -implicitDefEqProofs only[go_sem,seval,ne_eq,not_true,decide_false];repeat refine aI ?_
 refine bA (IV hC6' hD6 hP6 hp F.text aa) ac rfl (by simp[af,V.low,hC6'.lt hP6.kp]) hC6'.sane ?_;rintro _ K7 H7 hC7 hl7 ⟨rfl,rfl,rfl⟩;have hg7:=hP6.gp;have hlp7:=hC6'.lt hP6.kp;obtain⟨c8,hP8⟩:=hP6.put hC6' (P':={P with bg:=some F,bi:=D.index+1#32,bt:=P.mkd D.now F.text}) (wv':=wv) (bg':= .ptr c 0) hP6.fwv ⟨c,rfl,hKc,hgc⟩ (PeS.low (hC6'.sane _ _ hP6.gp).1 (aH _)).2.2.1 (hC6'.lt hKc) rfl rfl rfl rfl;have hC8:=(hC6'.mono (Q2:=qP j i) fun r h=>by subst h;exact rfl).call c8 fun r h=>by subst h;exact⟨rfl,rfl⟩
 have hD8:=hD6.off c8.off ae ae ae ae;unfold PeS.cs at hg7 c8 hP8 hC8 hD8;dsimp only at c8 hP8 hC8 hD8;simp -implicitDefEqProofs only[go_sem,seval,hg7,bG hlp7,aY,iX];repeat refine aI ?_
 refine cN (yZ hC8 hD8 P.at_ (P.mkd D.now F.text) (by have :=hd.out;show D.out.length<=_;omega)) ac rfl (by simp[af,V.low,hC6'.lt hD6.kd]) hC8.sane ?_;rintro _ K9 H9 hC9 hl9 ⟨rfl,_,_,hD9⟩;simp -implicitDefEqProofs only[go_sem,seval];repeat refine aI ?_
 have hC9':=hC8.call hC9 zm;have hP9:=hP8.offO hC9.off;have hg9:=hP9.gp;have hgd9:=hD9.g;have eD:(({D with fresh:=D.fresh+1#64,index:=D.index+1#32,firsts:=D.firsts+1}:DeS).goes P.at_ (P.mkd D.now F.text)).now=D.now:=by unfold DeS.goes;split <;>rfl
 unfold PeS.cs at hg9;unfold DeS.cs at hgd9;rw[eD] at hgd9;dsimp only at hg9;simp -implicitDefEqProofs only[go_sem,seval,hg9,hgd9];repeat refine aI ?_
 refine cN (ng hC9' hP9.kt hP9.gt hp.tm 4 D.now ah hnow) ac rfl (by simp[af,V.low,hC9'.lt hP9.kt]) hC9'.sane ?_;rintro _ K10 H10 hC10 hl10 ⟨rfl,rfl,hH10⟩;simp -implicitDefEqProofs only[go_sem];repeat refine aI ?_
 have hP10:=hP9.timer hC10.off hP9.kt (T:=P.tm.ev 4 D.now) (by rw[hH10];exact bG (hC9'.lt hP9.kt) _);exact Ex.of (hC9'.call hC10 fun r h=>by subst h;exact⟨rfl,rfl⟩) trivial ⟨rfl,⟨_,_,hD9.off hC10.off ae ae ae ae⟩,_,_,_,_,_,_,hP10⟩
noncomputable def dM (D:DeS) (P:PeS):DeS×PeS:=
 if P.tm.nx D.now=1 then(if P.at_=0#32 then(D,P) else qF D P)
 else if P.tm.nx D.now=2 then(if P.useB D.now=true then dn D P [] else(D,{P with tm:=P.tm.ev 1 D.now}))
 else if P.tm.nx D.now=3 then(D,{P with waits:=[],bg:=none,tm:=P.tm.ev 6 D.now})
 else(D,P)
theorem HP (T:TmS)(c:T.ok)(now:Int)(h:T.nx now=1):T.t<=5:=by
 have e:=c.t6;unfold TmS.nx AA at h;split at h
 ·omega
 ·split at h
  ·split at h
   ·omega
   ·omega
  ·split at h<;>omega
theorem F4 (c:P.ok)(e:D.ok n):(dM D P).2.ok/\(dM D P).1.ok (n+2):=by
 have up:=e.up (show n<=n+2 by omega);unfold dM;split
 ·rename_i h1;split
  ·exact⟨c,up⟩
  ·exact Gv c e (HP _ c.tm _ h1)
 ·split
  ·split
   ·have :=wB c e [];exact⟨this.1,this.2.up aa⟩
   ·exact⟨⟨c.q,c.pub,c.psk,c.kn,c.pin,c.ck,c.un,c.wl,c.ws,c.bg,c.bt,c.ol,c.se,c.ne,TmS.ev_ok c.tm (.inl ah) e.now⟩,up⟩
  ·split
   ·exact⟨⟨c.q,c.pub,c.psk,c.kn,c.pin,c.ck,c.un,fg _,(fun _ h=>nomatch h),(fun _ h=>nomatch h),c.bt,c.ol,c.se,c.ne,TmS.ev_ok c.tm (.inl ah) e.now⟩,up⟩
   ·exact⟨c,up⟩
theorem wy (hC:Cx K0 H0 Q0 K H)(hD:DevAt K H j d D arr ps paths bk out got)(hP:PeerAt K H j i d p P tm wv bg ol se ne)(hp:P.ok)(hd:D.ok n)(hn:n<=999999990):
  ∃ v K' H',Dx prog 48 [.ptr p 0] K H (qP j i) v K' H'/\(v= .tup []/\fm K' H' j d (dM D P).1 arr ps paths bk/\PeerIn K' H' j i d p (dM D P).2):=by
 have hnow:=hd.now;have hg:=hD.g;have hgq:=hP.gp;unfold DeS.cs at hg;unfold PeS.cs at hgq;have hpd:p≠d:=fun e=>by have :=hP.kp;rw[e,hD.kd] at this;cases this
 have hQ:=hC.start (qP j i);unfold dM;refine bV (Q:=qP j i) (Post:=fun v K' H'=>v= .tup []/\fm K' H' j d (dM D P).1 arr ps paths bk/\PeerIn K' H' j i d p (dM D P).2) ac (fn:=f48) func48 rfl am (ak ?_);simp -implicitDefEqProofs only[go_sem,seval,hgq,hg];repeat refine aI ?_
 refine cN (YH hC hP.gt hp.tm D.now) ac rfl (by simp[af,V.low,hC.lt hP.kt]) hC.sane ?_;rintro _ K1 H1 hC1 hl1 ⟨rfl,rfl,rfl⟩;simp -implicitDefEqProofs only[go_sem,seval];repeat refine aI ?_
 unfold dM;generalize P.tm.nx D.now=e at*;by_cases h1:e=1
 ·have e1:(e=1)=True:=eq_true h1;simp -implicitDefEqProofs only[go_sem,seval,e1,decide_true,hgq];repeat refine aI ?_
  by_cases ha:P.at_=0#32
  ·simp -implicitDefEqProofs only[go_sem,seval,ha,not_true,decide_false];exact Ex.of hQ trivial ⟨rfl,⟨_,_,hD⟩,_,_,_,_,_,_,hP⟩
  ·simp -implicitDefEqProofs only[go_sem,seval,ha,not_false_eq_true,decide_true];refine bA (Uu hC hD hP hp hd hn) ac rfl (by simp[af,V.low,hC.lt hP.kp]) hC.sane ?_;rintro _ K2 H2 hC2 hl2 ⟨rfl,h2⟩;simp -implicitDefEqProofs only[go_sem];exact Ex.of hC2 trivial ⟨rfl,h2⟩
 by_cases h2:e=2
 ·have e2:(e=2)=True:=eq_true h2;simp -implicitDefEqProofs only[go_sem,seval,h1,e2,decide_true,decide_false];refine bA (FV hC hD hP hp) ac rfl (by simp[af,V.low,hC.lt hP.kp]) hC.sane ?_;rintro _ K2 H2 hC2 hl2 ⟨rfl,rfl,rfl⟩;generalize hr:P.useB D.now=r at*;cases r
  ·simp -implicitDefEqProofs only[go_sem,seval,hgq,hg,ct];repeat refine aI ?_
   refine cN (ng hC hP.kt hP.gt hp.tm 1 D.now ah hnow) ac rfl (by simp[af,V.low,hC.lt hP.kt]) hC.sane ?_;rintro _ K3 H3 hC3 hl3 ⟨rfl,rfl,hH3⟩;simp -implicitDefEqProofs only[go_sem];repeat refine aI ?_
   have hP3:=hP.timer hC3.off hP.kt (T:=P.tm.ev 1 D.now) (by rw[hH3];exact bG (hC.lt hP.kt) _);exact Ex.of (hC3.mono fun r h=>by subst h;exact⟨rfl,rfl⟩) trivial ⟨rfl,⟨_,_,hD.off hC3.off ae ae ae ae⟩,_,_,_,_,_,_,hP3⟩
  ·simp -implicitDefEqProofs only[go_sem,seval];obtain⟨S,hS⟩:∃ S,P.se=some S:=by
    unfold PeS.useB at hr;split at hr
    ·cases hr
    ·exact⟨_,‹_›⟩
   refine bA (yV hC hD hP hp hd aa hS [] ae) ac rfl (by simp[af,V.low,hC.lt hP.kp]) hC.sane ?_;rintro _ K3 H3 hC3 hl3 ⟨rfl,h3⟩;simp -implicitDefEqProofs only[go_sem];exact Ex.of (hC3.mono uG) trivial ⟨rfl,h3⟩
 by_cases h3:e=3
 ·have e3:(e=3)=True:=eq_true h3;have hlp:=hC.lt hP.kp;obtain⟨c2,hP2⟩:=hP.put hC (P':={P with waits:=[],bg:=none}) (wv':= .nilSlice) (bg':= .nilPtr) (.inl ⟨rfl,rfl⟩) rfl trivial trivial rfl rfl rfl rfl;have hC2:=c2.mono (Q2:=qP j i) fun r h=>by subst h;exact⟨rfl,rfl⟩
  have hD2:=hD.off c2.off ae ae ae ae;unfold PeS.cs at c2 hP2 hC2 hD2;dsimp only at c2 hP2 hC2 hD2;simp -implicitDefEqProofs only[go_sem,seval,h1,h2,e3,decide_true,decide_false,hgq,bG hlp,aY,iX,bW hpd,hg];repeat refine aI ?_
  refine cN (ng hC2 hP2.kt hP2.gt hp.tm 6 D.now ah hnow) ac rfl (by simp[af,V.low,hC.lt hP.kt]) hC2.sane ?_;rintro _ K3 H3 hC3 hl3 ⟨rfl,rfl,hH3⟩;simp -implicitDefEqProofs only[go_sem];repeat refine aI ?_
  have hP3:=hP2.timer hC3.off hP2.kt (T:=P.tm.ev 6 D.now) (by rw[hH3];exact bG (hC2.lt hP2.kt) _);exact Ex.of (hC2.call hC3 fun r h=>by subst h;exact⟨rfl,rfl⟩) trivial ⟨rfl,⟨_,_,hD2.off hC3.off ae ae ae ae⟩,_,_,_,_,_,_,hP3⟩
 simp -implicitDefEqProofs only[go_sem,seval,h1,h2,h3,decide_false];exact Ex.of hQ trivial ⟨rfl,⟨_,_,hD⟩,_,_,_,_,_,_,hP⟩
end
end
theorem Uj:qp prog 139=true:=ac
theorem Y6:aR prog 139=some 1:=ac
theorem Xr:bp prog 139=some false:=ac
attribute [go_sem] Uj Y6 Xr
theorem Xo (k:BitVec 32)(n:Int):aG prog 137 [.u32 k,.i64 n] (.bool (decide (5<=n))):=by
 refine aQ ac (fn:=f137) ac func137 rfl am (by simp[af,V.low]) (by simp[V.low]) (ak ?_);simp only[go_sem,seval,ntmps137,results137]
def full (n:Int):Bool:=decide (5<=n)
def MapC.drop (m:MapC):MapC:=⟨m.es.filter fun e=>! full e.2.2,m.clock⟩
theorem acS (m:MapC)(j:m.ok)(d:m.plain):aq prog 136 [.map 0,.fn 137 [] []] [some ⟨false,[],some m⟩] (.tup []) [some ⟨false,[],some m.drop⟩]:=by
 refine yn (fn:=f136) func136 rfl am ?_
 let M:List Nat->MapC:=fun seen=>⟨jx full m.es seen,m.clock⟩
 let J:List Nat->St:=fun seen=>⟨[(0,.map 0),(1,.fn 137 [] []),(7,.ptr 1 0)],[some ⟨false,[],some (M seen)⟩,none]⟩
 have f:M []=m:=by show(⟨jx full m.es [],m.clock⟩:MapC)=m;rw[Yq]
 refine adB (Q:=jH (fun s'=>ag s'.H 0=some ⟨false,[],some m.drop⟩/\1<=s'.H.length) fun _ _=>False) (FD ac (S1:=⟨[(6,.map 0),(0,.map 0),(1,.fn 137 [] [])],[some ⟨false,[],some m⟩]⟩) (pre:=[_]) (bm:=0) (fun _=>True) J M (oJ m.es) rfl ae (pH ?_) rfl (by rw[f];rfl) rfl rfl rfl ah underlying139 rfl rfl rfl ah rfl rfl rfl rfl ah trivial (fun seen _=>⟨fun e c=>?_,?_,aH _⟩) (fun seen _ e c=>d e (kz.1 c).1) (fun seen _=>rfl) ?_ (fun seen=>rfl) (fun seen _ g=>pH ?_) (fun seen e _ c l=>⟨trivial,?_,pH ?_⟩)) ?_
 ·simp only[go_sem,seval]
 ·exact j.below e ((kz.1 c).1)
 ·exact yI (Ar _ AF) j.stamps
 ·refine Weak.drop ?_ rfl (fun b B h=>?_)
  ·simp[J,St.get,aj,putS]
  ·simpa [J,f] using h
 ·have h2:M seen=m.drop:=by
   show(⟨jx full m.es seen,m.clock⟩:MapC)=⟨m.es.filter fun e=>! full e.2.2,m.clock⟩;rw[QJ g]
  simp only[go_sem,seval,J,h2]
 ·exact Jt ((kz.1 c).1) l
 ·have n:e∈m.es:=(kz.1 c).1;have a:M (seen++[e.1])=if full e.2.2=true then(M seen).del e.2.1 else M seen:=by
   show(⟨jx full m.es (seen++[e.1]),m.clock⟩:MapC)=if full e.2.2=true then⟨mD e.2.1 (jx full m.es seen),m.clock⟩ else⟨jx full m.es seen,m.clock⟩
   rw[ae0 j n l];split <;>rfl
  obtain⟨st,k,v⟩:=e;simp only at a l;have o:(M seen).plain:=fun e c=>d e (kz.1 c).1
  simp only[go_sem,seval,J];refine pH ?_;simp only[go_sem,seval];refine ak ?_;simp only[go_sem,seval];refine au (Xo k v) ?_;simp only[go_sem,seval];by_cases i:5<=v
  ·have p:full v=true:=decide_eq_true i;rw[if_pos p] at a;simp only[go_sem,seval,i,a,o];refine⟨rfl,Weak.drop ?_ rfl (fun _ _ h=>h)⟩;simp[St.get,aj]
  ·have p:¬ full v=true:=by unfold full;simp[i]
   rw[if_neg p] at a;simp only[go_sem,seval,i,a];refine⟨rfl,Weak.drop ?_ rfl (fun _ _ h=>h)⟩;simp[St.get,aj]
 ·intro x s' q;cases x
  case normal=>
   obtain⟨h1,h2⟩:=q;show Fin 1 (.tup []) [some ⟨false,[],some m.drop⟩] (.tup []) s';refine Fin.same (aH _) h2 trivial (fun b B h=>?_);cases b with
   |zero=>
    simp only[C4] at h;injection h with h
    subst h;exact⟨h1,trivial⟩
   |succ b=>simp[ag] at h
  all_goals exact q.elim
def gr (d:Int)(l:List (Nat×BitVec 32×Int))(seen:List Nat):List (Nat×BitVec 32×Int):=l.map fun e=>if seen.contains e.1=true then(e.1,e.2.1,e.2.2+d) else e
def MapC.more (d:Int)(m:MapC):MapC:=⟨m.es.map fun e=>(e.1,e.2.1,e.2.2+d),m.clock⟩
theorem N5 (d:Int)(l:List (Nat×BitVec 32×Int)):gr d l []=l:=by
 unfold gr;simp
theorem Rw (d:Int)(l:List (Nat×BitVec 32×Int))(seen:List Nat):(gr d l seen).map (·.1)=l.map (·.1):=by
 unfold gr;rw[kH];refine mX fun x _=>?_
 simp only[Function.comp];split <;>rfl
theorem LC (d:Int)(l:List (Nat×BitVec 32×Int))(seen:List Nat):(gr d l seen).map (·.2.1)=l.map (·.2.1):=by
 unfold gr;rw[kH];refine mX fun x _=>?_
 simp only[Function.comp];split <;>rfl
theorem Iw {d:Int}{l:List (Nat×BitVec 32×Int)}{seen:List Nat}{e:Nat×BitVec 32×Int}(h:e∈gr d l seen)(b:e.1∉seen):e∈l:=by
 unfold gr at h;obtain⟨x,c,a⟩:=cD.1 h;split at a
 ·rename_i hc;rw[<-a] at b;exact absurd (by simpa using hc) b
 ·rw[<-a];exact c
theorem ZN {d:Int}{m:MapC}(b:m.ok){seen:List Nat}{e:Nat×BitVec 32×Int}(c:e∈m.es)(i:e.1∉seen):gr d m.es (seen++[e.1])=jf e.2.1 (e.2.2+d) (gr d m.es seen):=by
 rw[DO _ _ _ (by rw[LC];exact b.keys)];unfold gr;rw[kH];refine mX fun x f=>?_
 simp only[Function.comp];by_cases a:x=e
 ·subst a;simp[i]
 ·have h1:x.1≠e.1:=fun h=>a (uA b.stamps f c h)
  have h2:x.2.1≠e.2.1:=fun h=>a (uA b.keys f c h)
  by_cases g:x.1∈seen
  ·simp[h2,g]
  ·simp[h1,h2,g]
theorem Nb {d:Int}{m:MapC}{seen:List Nat}(h:∀ e∈gr d m.es seen,e.1∈seen):gr d m.es seen=(m.more d).es:=by
 unfold gr MapC.more at*;refine mX fun x b=>?_
 have :=h _ (cD.2 ⟨x,b,rfl⟩);by_cases a:x.1∈seen
 ·rw[if_pos (by simpa using a)]
 ·rw[if_neg (by simpa using a)] at this;exact absurd this a
theorem MapC.more_ok {m:MapC}(a:m.ok)(d:Int):(m.more d).ok:=
 ⟨by unfold MapC.more;rw[kH];exact a.stamps,fun e b=>by
  unfold MapC.more at b;obtain⟨x,c,rfl⟩:=cD.1 b;exact a.below x c,by unfold MapC.more;rw[kH];exact a.keys⟩
theorem MapC.drop_ok {m:MapC}(a:m.ok):m.drop.ok:=
 ⟨yI (Ar _ AF) a.stamps,fun e b=>a.below e (kz.1 b).1,yI (Ar _ AF) a.keys⟩
def iU (t0 now:Int)(k:BitVec 32)(m:MapC):Int×Int×MapC:=
 if now<t0\/1099511627776<now then(1,t0,m) else
  let a:=(m.more (min (now-t0) 5)).drop
  match bB k a.es with
  |some n=>if n=0 then(15,now,a) else(0,now,a.set k (n-1))
  |none=>if(a.es.length:Int)=16 then(9,now,a) else(0,now,a.set k 4)
theorem agG (t0 now:Int)(k:BitVec 32)(m:MapC)(r:m.ok)(s:∀ e∈m.es,0<=e.2.2/\e.2.2<=100)(h0:0<=t0)(h1:t0<=1099511627776):aq prog 96 [.ptr 0 0,.u32 k,.i64 now] [bK [.i64 t0,.map 1],some ⟨false,[],some m⟩] (.i64 (iU t0 now k m).1) [bK [.i64 (iU t0 now k m).2.1,.map 1],some ⟨false,[],some (iU t0 now k m).2.2⟩]:=by
 by_cases g:now<t0
 ·have e:iU t0 now k m=(1,t0,m):=by unfold iU;rw[if_pos (.inl g)]
  rw[e];refine bf ac (fn:=f96) func96 rfl am (ak ?_);simp only[go_sem,seval,ntmps96,results96,g];exact Fin.ren [0,1] ae ae aZ ah ae ae
 by_cases o:1099511627776<now
 ·have e:iU t0 now k m=(1,t0,m):=by unfold iU;rw[if_pos (.inr o)]
  rw[e];refine bf ac (fn:=f96) func96 rfl am (ak ?_);simp only[go_sem,seval,ntmps96,results96,g,o];exact Fin.ren [0,1] ae ae aZ ah ae ae
 generalize P:min (now-t0) 5=d;have T:0<=d/\d<=5:=aa;have F:(if(5:Int)<now-t0 then 5 else now-t0)=d:=by
  rw[<-P];split <;>omega
 have hw:ao (now-t0)=now-t0:=az aa aa;refine yn (fn:=f96) func96 rfl am ?_;refine qc (K:=fun st=>Weak 2 90 st ⟨[(0,.ptr 0 0),(1,.u32 k),(2,.i64 now)],[bK [.i64 t0,.map 1],some ⟨false,[],some m⟩]⟩) (qw ac (ak ?_)) (fun st a=>uq ?_ a)
 ·simp only[go_sem,seval];refine Weak.drop ?_ rfl (fun _ _ h=>h);simp[St.get,aj]
 refine qc (K:=fun st=>Weak 2 90 st ⟨[(0,.ptr 0 0),(1,.u32 k),(2,.i64 now)],[bK [.i64 t0,.map 1],some ⟨false,[],some m⟩]⟩) (qw ac (ak ?_)) (fun st a=>uq ?_ a)
 ·simp only[go_sem,seval,g,o];refine Weak.drop ?_ rfl (fun _ _ h=>h);simp[St.get,aj]
 refine qc (K:=fun st=>Weak 2 90 st ⟨[(0,.ptr 0 0),(1,.u32 k),(2,.i64 now),(7,.i64 d)],[bK [.i64 t0,.map 1],some ⟨false,[],some m⟩]⟩) (qw ac (ak ?_)) (fun st a=>uq ?_ a)
 ·simp only[go_sem,seval,hw,F];refine Weak.drop ?_ rfl (fun _ _ h=>h);simp[St.get,aj]
 refine qc (K:=fun st=>Weak 2 90 st ⟨[(0,.ptr 0 0),(1,.u32 k),(7,.i64 d)],[bK [.i64 now,.map 1],some ⟨false,[],some m⟩]⟩) (qw ac (ak ?_)) (fun st a=>uq ?_ a)
 ·simp only[go_sem,seval];refine Weak.drop ?_ rfl (fun _ _ h=>h);simp[St.get,aj]
 let M:List Nat->MapC:=fun seen=>⟨gr d m.es seen,m.clock⟩
 let J:List Nat->St:=fun seen=>⟨[(0,.ptr 0 0),(1,.u32 k),(7,.i64 d),(36,.ptr 2 0)],[bK [.i64 now,.map 1],some ⟨false,[],some (M seen)⟩,none]⟩
 have U:m.plain:=fun e c=>by have :=s e c;omega
 have t:∀ seen,(M seen).plain:=fun seen e c=>by
  have c:e∈gr d m.es seen:=c;unfold gr at c;obtain⟨x,p,rfl⟩:=cD.1 c;have :=s x p;split
  ·show x.2.2+d<_;omega
  ·omega
 have u:(m.more d).plain:=fun e c=>by
  have c:e∈m.es.map fun e=>(e.1,e.2.1,e.2.2+d):=c
  obtain⟨x,p,rfl⟩:=cD.1 c;have :=s x p;show x.2.2+d<_;omega
 have w:M []=m:=by show(⟨gr d m.es [],m.clock⟩:MapC)=m;rw[N5]
 have y:∀ seen,((M seen).es.map (·.1))=m.es.map (·.1):=fun seen=>Rw d m.es seen
 refine qc (K:=fun st=>Weak 2 90 st ⟨[(0,.ptr 0 0),(1,.u32 k)],[bK [.i64 now,.map 1],some ⟨false,[],some (m.more d)⟩,none]⟩) (FD ac (S1:=⟨[(35,.map 1),(34,.ptr 0 1),(33,.ptr 0 0),(32,.ptr 0 0),(0,.ptr 0 0),(1,.u32 k),(7,.i64 d)],[bK [.i64 now,.map 1],some ⟨false,[],some m⟩]⟩) (pre:=[_,_,_,_]) (bm:=1) (fun _=>True) J M (oJ m.es) rfl ae (pH ?_) rfl (by rw[w];rfl) rfl rfl rfl ah underlying139 rfl rfl rfl ah rfl rfl rfl rfl ah trivial (fun seen _=>⟨fun e c=>?_,?_,aH _⟩) (fun seen _=>t seen) (fun seen _=>rfl) ?_ (fun seen=>rfl) (fun seen _ z=>pH ?_) (fun seen e _ c A=>⟨trivial,?_,pH ?_⟩)) (fun st a=>uq ?_ a)
 ·simp only[go_sem,seval]
 ·have :e.1∈(M seen).es.map (·.1):=cD.2 ⟨e,c,rfl⟩;rw[y] at this;obtain⟨x,p,q⟩:=cD.1 this;rw[<-q];exact r.below x p
 ·rw[y];exact r.stamps
 ·refine Weak.drop ?_ rfl (fun b B h=>?_)
  ·simp[J,St.get,aj,putS]
  ·simpa [J,w] using h
 ·have h2:M seen=m.more d:=by
   show(⟨gr d m.es seen,m.clock⟩:MapC)=⟨(m.more d).es,m.clock⟩;rw[Nb z]
  simp only[go_sem,seval,J,h2];refine Weak.drop ?_ rfl (fun _ _ h=>h);simp[St.get,aj]
 ·exact Jt (Iw c A) A
 ·have C:e∈m.es:=Iw c A;have G:=s e C;obtain⟨st,H,v⟩:=e;have i:bB H (M seen).es=some v:=Ef (by show((gr d m.es seen).map (·.2.1)).Nodup;rw[LC];exact r.keys) c;have I:M (seen++[st])=(M seen).set H (v+d):=by
   unfold MapC.set;rw[i];show(⟨gr d m.es (seen++[st]),m.clock⟩:MapC)=⟨jf H (v+d) (gr d m.es seen),m.clock⟩;rw[ZN r C A]
  simp only at A G;have L:ao (v+d)=v+d:=az aa aa;simp only[go_sem,seval,J];refine pH ?_;simp only[go_sem,seval];refine ak ?_;have N:v+d<1180591620717411303424:=aa;simp only[go_sem,seval,i,oo,L,I,t seen,N];refine⟨rfl,Weak.drop ?_ rfl (fun _ _ h=>h)⟩;simp[St.get,aj]
 refine qw ac (ak ?_);simp only[go_sem,seval];refine aS [1] (acS (m.more d) (MapC.more_ok r d) u) ac ae rfl ae aM ae ae ae ae ae ?_;simp only[go_sem,seval];have f:(m.more d).drop.plain:=fun e c=>u e (kz.1 c).1
 generalize D:(m.more d).drop=j at f |-
 have V:iU t0 now k m=match bB k j.es with
   |some n=>if n=0 then(15,now,j) else(0,now,j.set k (n-1))
   |none=>if(j.es.length:Int)=16 then(9,now,j) else(0,now,j.set k 4):=by
  unfold iU;rw[if_neg aa];simp only[P,D]
 rw[V];cases i:bB k j.es with
 |some n=>
  have W:-100<=n/\n<=200:=by
   obtain⟨b,X⟩:=vQ i;have l:=kP X;rw[<-D] at l;have Q:(b,k,n)∈(m.more d).es:=(kz.1 l).1;unfold MapC.more at Q;obtain⟨x,p,q⟩:=cD.1 Q;have :=s x p;have Y:x.2.2+d=n:=congrArg (·.2.2) q;omega
  by_cases R:n=0
  ·subst R;simp only[go_sem,seval,oo,f];exact Fin.ren [0,1] ae ae aZ ah ae ae
  ·have E:ao (n-1)=n-1:=az aa aa;have O:n-1<1180591620717411303424:=aa;simp only[go_sem,seval,oo,R,E,f,O];exact Fin.ren [0,1] ae ae aZ ah ae ae
 |none=>
  by_cases S:(j.es.length:Int)=16
  ·simp only[go_sem,seval,S,f];exact Fin.ren [0,1] ae ae aZ ah ae ae
  ·have E:ao (5-1)=4:=aZ;simp only[go_sem,seval,S,f];exact Fin.ren [0,1] ae ae aZ ah ae ae
section
theorem af5 {m:MapC}(c:m.ok)(k:BitVec 32)(n:Int):(m.set k n).ok:=by
 cases h:bB k m.es with
 |some v=>
  have e:m.set k n=⟨m.es.map fun e=>if e.2.1=k then(e.1,k,n) else e,m.clock⟩:=by
   unfold MapC.set;rw[if_pos (by rw[h];rfl),DO _ _ _ c.keys]
  rw[e];refine⟨?_,fun x d=>?_,?_⟩
  ·have :(m.es.map fun e=>if e.2.1=k then(e.1,k,n) else e).map (·.1)=m.es.map (·.1):=by
    rw[kH];refine mX fun x _=>?_
    simp only[Function.comp];split <;>rfl
   show((m.es.map fun e=>if e.2.1=k then(e.1,k,n) else e).map (·.1)).Nodup;rw[this];exact c.stamps
  ·obtain⟨y,g,rfl⟩:=cD.1 d;have :=c.below y g;show(if y.2.1=k then(y.1,k,n) else y).1<m.clock;split <;>exact this
  ·have :(m.es.map fun e=>if e.2.1=k then(e.1,k,n) else e).map (·.2.1)=m.es.map (·.2.1):=by
    rw[kH];refine mX fun x _=>?_
    simp only[Function.comp];split
    ·rename_i h;exact h.symm
    ·rfl
   show((m.es.map fun e=>if e.2.1=k then(e.1,k,n) else e).map (·.2.1)).Nodup;rw[this];exact c.keys
 |none=>
  have e:m.set k n=⟨m.es++[(m.clock,k,n)],m.clock+1⟩:=by
   unfold MapC.set;rw[h];rfl
  have i:k∉m.es.map (·.2.1):=fun q=>by
   obtain⟨x,d,l⟩:=cD.1 q;have o:(x.1,k,x.2.2)∈m.es:=by rw[<-l];exact d
   rw[Ef c.keys o] at h;cases h
  rw[e];refine⟨?_,fun x d=>?_,?_⟩
  ·show((m.es++[(m.clock,k,n)]).map (·.1)).Nodup;rw[gD];refine CK.2 ⟨c.stamps,ae,fun a p b f=>?_⟩;obtain⟨y,g,rfl⟩:=cD.1 p;have :=c.below y g;simp at f;omega
  ·show x.1<m.clock+1;rcases eB.1 d with h1|h1
   ·have :=c.below x h1;omega
   ·simp at h1;subst h1;simp
  ·show((m.es++[(m.clock,k,n)]).map (·.2.1)).Nodup;rw[gD];refine CK.2 ⟨c.keys,ae,fun a p b f=>?_⟩;simp at f;subst f;exact fun e=>i (e▸p)
theorem II {k:BitVec 32}{n:Int}:∀ {l:List (Nat×BitVec 32×Int)} {x:Nat×BitVec 32×Int},x∈jf k n l->x.2.2=n\/x∈l
 |[],_,h=>by cases h
 |e::l,x,h=>by
  unfold jf at h;split at h
  ·rcases cQ.1 h with h|h
   ·exact .inl (by rw[h])
   ·exact .inr (by simp[h])
  ·rcases cQ.1 h with h|h
   ·exact .inr (by simp[h])
   ·rcases II h with h|h
    ·exact .inl h
    ·exact .inr (by simp[h])
theorem W3 {m:MapC}{k:BitVec 32}{n:Int}{x:Nat×BitVec 32×Int}(h:x∈(m.set k n).es):x.2.2=n\/x∈m.es:=by
 unfold MapC.set at h;split at h
 ·exact II h
 ·rcases eB.1 h with h|h
  ·exact .inr h
  ·simp at h;exact .inl (by rw[h])
theorem Ji {k:BitVec 32}{n:Int}:∀ {l:List (Nat×BitVec 32×Int)},bB k l=some n->∃ e∈l,e.2.2=n
 |[],h=>by cases h
 |e::l,h=>by
  unfold bB at h;split at h
  ·cases h;exact⟨e,ae,rfl⟩
  ·obtain⟨x,a,h2⟩:=Ji h;exact⟨x,by simp[a],h2⟩
theorem PT {t0 now:Int}{k:BitVec 32}{m:MapC}(d:yK m)(h0:0<=t0)(h1:t0<=1099511627776):yK (iU t0 now k m).2.2/\0<=(iU t0 now k m).2.1/\(iU t0 now k m).2.1<=1099511627776:=by
 unfold iU;by_cases g:now<t0\/1099511627776<now
 ·rw[if_pos g];exact⟨d,h0,h1⟩
 rw[if_neg g];have b:((m.more (min (now-t0) 5)).drop).ok:=MapC.drop_ok (MapC.more_ok d.1 _);have a:∀ e∈((m.more (min (now-t0) 5)).drop).es,0<=e.2.2/\e.2.2<=100:=fun e c=>by
  have f:e∈(m.more (min (now-t0) 5)).es.filter fun e=>! full e.2.2:=c
  obtain⟨h2,i⟩:=kz.1 f;obtain⟨y,l,rfl⟩:=cD.1 h2;have :=d.2 y l;simp[full] at i;show 0<=y.2.2+min (now-t0) 5/\y.2.2+min (now-t0) 5<=100;omega
 generalize (m.more (min (now-t0) 5)).drop=o at*;have fin:∀ n:Int,0<=n->n<=100->yK (o.set k n):=fun n g1 g2=>⟨af5 b k n,fun e c=>by
  rcases W3 c with h|h
  ·omega
  ·exact a e h⟩
 simp only;split
 ·rename_i n p;obtain⟨e,c,rfl⟩:=Ji p;have :=a e c;split
  ·exact⟨⟨b,a⟩,by show 0<=now;omega,by show now<=_;omega⟩
  ·exact⟨fin _ aa aa,by show 0<=now;omega,by show now<=_;omega⟩
 ·split
  ·exact⟨⟨b,a⟩,by show 0<=now;omega,by show now<=_;omega⟩
  ·exact⟨fin _ aa aa,by show 0<=now;omega,by show now<=_;omega⟩
structure BkS where
 t:Int
 m:MapC
structure BkS.ok (B:BkS):Prop where
 m:yK B.m
 t:0<=B.t/\B.t<=1099511627776
def BkAt (K:RK)(H:List (Option Blk))(j bk:Nat)(B:BkS):Prop:=∃ a,K bk=some (.bk j)/\K a=some (.bm j)/\ag H bk=bK [.i64 B.t,.map a]/\ag H a=some ⟨false,[],some B.m⟩
def iu (B:BkS)(fr:BitVec 32)(now:Int):Int×BkS:=((iU B.t now fr B.m).1,⟨(iU B.t now fr B.m).2.1,(iU B.t now fr B.m).2.2⟩)
theorem Lf {B:BkS}(a:B.ok)(fr:BitVec 32)(now:Int):(iu B fr now).2.ok:=by
 obtain⟨h1,h2,b⟩:=PT (now:=now) (k:=fr) a.m a.t.1 a.t.2;exact⟨h1,h2,b⟩
section
variable {K K0 K':RK}{H H0 H':List (Option Blk)}{Q0 Q:Rl->Prop}{j bk:Nat}{B:BkS}
theorem BkAt.off (h:BkAt K H j bk B)(a:Off Q K H K' H')(h1:¬ Q (.bk j))(h2:¬ Q (.bm j)):BkAt K' H' j bk B:=by
 obtain⟨b,g1,g2,g3,g4⟩:=h;exact⟨b,a.k _ _ g1 h1,a.k _ _ g2 h2,(a.h _ _ g1 h1).trans g3,(a.h _ _ g2 h2).trans g4⟩
theorem abn (h:Cx K0 H0 Q0 K H)(u:BkAt K H j bk B)(g:B.ok)(fr:BitVec 32)(now:Int):
  ∃ v K' H',Dx prog 96 [.ptr bk 0,.u32 fr,.i64 now] K H (fun r=>r= .bk j\/r= .bm j) v K' H'/\(v= .i64 (iu B fr now).1/\K'=K/\BkAt K' H' j bk (iu B fr now).2):=by
 obtain⟨c,kb,b,w,k⟩:=u;have d:bk≠c:=fun e=>by subst e;rw[kb] at b;cases b
 have l:=h.lt kb;have f:=h.lt b;unfold iu;have q:=qa (H:=H) (agG B.t now fr B.m g.m.1 g.m.2 g.t.1 g.t.2) [bk,c] rfl (by simp[af,V.low]) (by simp[d]) (fun y s=>by simp at s;rcases s with rfl|rfl<;>assumption) (fun i X e=>by
  match i with
  |0=>have n:bK [.i64 B.t,.map 1]=some X:=e;cases n;exact⟨w,by simp[af,V.low]⟩
  |1=>have n:some (⟨false,[],some B.m⟩:Blk)=some X:=e;cases n;exact⟨k,trivial⟩
  |i+2=>simp[ag] at e) (fun i X e a=>by
  match i with
  |0=>rcases a with a|a<;>simp[ag] at a
  |1=>rcases a with a|a<;>simp[ag] at a
  |i+2=>simp[ag] at e) (aH _)
 generalize iU B.t now fr B.m=E at*;have x:memH [bk,c] H [bK [.i64 E.2.1,.map 1],some ⟨false,[],some E.2.2⟩]=(H.set c (some ⟨false,[],some E.2.2⟩)).set bk (bK [.i64 E.2.1,.map c]):=by
  simp[memH,cR,dQ,cK,dx,Blk.ren,rens,V.ren,aw,bd]
 rw[x] at q;have o:=(h.start (fun r=>r= .bk j\/r= .bm j)).put (mm:=some E.2.2) (vs:=[]) b (.inr rfl) trivial;have p:=o.put (mm:=none) (vs:=[.i64 E.2.1,.map c]) kb (.inl rfl) (by simp[af,V.low,f]);exact⟨.i64 E.1,K,_,⟨q,p,trivial⟩,rfl,rfl,c,kb,b,bG (by rw[aY];exact l) _,(bW d _).trans (bG f _)⟩
end
end
section
def PathAt (K:RK)(H:List (Option Blk))(j pb:Nat)(F:BitVec 32->Int×Bool):Prop:=∃ (T:List (Option Blk)) (sg:List Nat),Emb sg T H/\(∀ b∈sg,K b=some (.path j))/\aw sg 0=pb/\Dv T/\(∀ i,i<T.length->∃ B,ag T i=some B)/\∀ a,aq prog 43 [.ptr 0 0,.u32 a] T (.tup [.i64 (F a).1,.bool (F a).2]) T
structure NoK where
 d:Nat
 arr:Nat
 ps:List Nat
 paths:Nat
 bk:Nat
 F:BitVec 32->Int×Bool
structure NoS where
 D:DeS
 Ps:List PeS
 B:BkS
structure NodeAt (K:RK) (H:List (Option Blk)) (j:Nat) (c:NoK) (N:NoS):Prop where
 dev:fm K H j c.d N.D c.arr c.ps c.paths c.bk
 len:c.ps.length=N.Ps.length
 peer:∀ i (h1:i<c.ps.length) (h2:i<N.Ps.length),PeerIn K H j i c.d c.ps[i] N.Ps[i]
 bkt:BkAt K H j c.bk N.B
 pth:PathAt K H j c.paths c.F
structure NoS.ok (N:NoS) (n:Nat):Prop where
 D:N.D.ok n
 Ps:∀ P∈N.Ps,P.ok
 B:N.B.ok
 num:∀ i (h:i<N.Ps.length),N.Ps[i].num=i
section
variable {K K0 K':RK}{H H0 H':List (Option Blk)}{Q0 Q:Rl->Prop}{j i d p arr paths bk n m:Nat}{P P':PeS}{D D':DeS}{B:BkS}{ps:List Nat}{Ps:List PeS}{c:NoK}{N:NoS}{F:BitVec 32->Int×Bool}
theorem PeerIn.off (h:PeerIn K H j i d p P)(b:Off Q K H K' H')(h1:¬ Q (.peer j i))(h2:¬ Q (.tm j i))(e:¬ Q (.wt j i))(f:¬ Q (.bg j i))(g:¬ Q (.ses j i))(k:∀ a,¬ Q (.pair j i a)/\¬ Q (.win j i a)):PeerIn K' H' j i d p P:=by
 obtain⟨_,_,_,_,_,_,h⟩:=h;exact⟨_,_,_,_,_,_,h.off b h1 h2 e f g k⟩
theorem PeerIn.offP {b:Nat}(h:PeerIn K H j i d p P)(e:Off (qP j b) K H K' H')(a:i≠b):PeerIn K' H' j i d p P:=
 h.off e (fun h=>a h.2) (fun h=>a h.2) (fun h=>a h.2) (fun h=>a h.2) (fun h=>a h.2) fun _=>⟨fun h=>a h.2,fun h=>a h.2⟩
theorem PathAt.off (h:PathAt K H j p F)(a:Off Q K H K' H')(g:H.length<=H'.length)(h1:¬ Q (.path j)):PathAt K' H' j p F:=by
 obtain⟨T,sg,h2,f,l,o⟩:=h;exact⟨T,sg,h2.stay g fun i B e=>a.h _ _ (f _ (h2.mem (aU e))) h1,fun b q=>a.k _ _ (f b q) h1,l,o⟩
theorem NodeAt.one (h:NodeAt K H j c N)(g:Cx K H (qP j i) K' H')(l:fm K' H' j c.d D' c.arr c.ps c.paths c.bk)(q:i<c.ps.length)(o:PeerIn K' H' j i c.d c.ps[i] P'):NodeAt K' H' j c {N with D:=D',Ps:=N.Ps.set i P'}:=by
 refine⟨l,by rw[aY];exact h.len,fun a h1 h2=>?_,h.bkt.off g.off id id,h.pth.off g.off g.len id⟩;have b:a<N.Ps.length:=by rw[<-h.len];exact h1
 show PeerIn K' H' j a c.d c.ps[a] ((N.Ps.set i P')[a]'(by rw[aY];exact b));by_cases e:a=i
 ·subst e;rw[sR];exact o
 ·rw[uT (fun h=>e h.symm)];exact(h.peer a h1 b).offP g.off e
theorem NodeAt.devO (h:NodeAt K H j c N)(b:Cx K H (qO j) K' H')(f:fm K' H' j c.d D' c.arr c.ps c.paths c.bk):NodeAt K' H' j c {N with D:=D'}:=
 ⟨f,h.len,fun i h1 h2=>(h.peer i h1 h2).off b.off id id id id id fun _=>⟨id,id⟩,h.bkt.off b.off id id,h.pth.off b.off b.len id⟩
theorem yS:∀ r,r=Rl.dev j->qO j r:=fun r h=>by subst h;exact rfl
noncomputable def cP (D:DeS):List PeS->DeS×List PeS
 |[]=>(D,[])
 |P::l=>((cP (dM D P).1 l).1,(dM D P).2::(cP (dM D P).1 l).2)
theorem Jn:∀ (l:List PeS) (D:DeS) (P:PeS),cP D (l++[P])=((dM (cP D l).1 P).1,(cP D l).2++[(dM (cP D l).1 P).2])
 |[],_,_=>rfl
 |Q::l,D,P=>by
  have ih:=Jn l (dM D Q).1 P;simp only[fO,cP,ih]
theorem CI:∀ (l:List PeS) (D:DeS),(cP D l).2.length=l.length
 |[],_=>rfl
 |Q::l,D=>congrArg (· +1) (CI l _)
theorem JN:∀ (l:List PeS) (D:DeS) (n:Nat),D.ok n->(∀ P∈l,P.ok)->(cP D l).1.ok (n+2*l.length)/\∀ P∈(cP D l).2,P.ok
 |[],D,n,a,_=>⟨a,fun _ h=>nomatch h⟩
 |Q::l,D,n,a,b=>by
  have h1:=F4 (b Q ae) a;have h2:=JN l (dM D Q).1 (n+2) h1.2 fun P h=>b P (by simp[h])
  refine⟨by have :=h2.1;rwa [show n+2+2*l.length=n+2*(Q::l).length by rw[ce];omega] at this,fun P h=>?_⟩;rcases cQ.1 h with rfl|h
  ·exact h1.1
  ·exact h2.2 P h
noncomputable def fW (N:NoS) (k:Int):Int×NoS:=if k<0\/1099511627776-N.D.now<k then(1,N) else(0,{N with D:=(cP {N.D with now:=N.D.now+k} N.Ps).1,Ps:=(cP {N.D with now:=N.D.now+k} N.Ps).2})
theorem ag5 (hC:Cx K0 H0 Q0 K H)(hN:NodeAt K H j c N)(ho:N.ok n)(hn:n<=900000000)(hp8:N.Ps.length<=8)(h0:0<N.Ps.length)(k:Int)(hk:-9223372036854775808<=k)(hk2:k<9223372036854775808):
  ∃ v K' H',Dx prog 30 [.ptr c.d 0,.i64 k] K H (qD j) v K' H'/\(v= .i64 (fW N k).1/\NodeAt K' H' j c (fW N k).2):=by
 obtain⟨out,got,hD⟩:=hN.dev;have hnow:=ho.D.now;have hg:=hD.g;have hga:=hD.ga;unfold DeS.cs at hg;have hlt:=hC.lt hD.kd;have hlen:=hN.len;have w1:ao (1099511627776-N.D.now)=1099511627776-N.D.now:=az aa aa;unfold fW;by_cases h1:k<0
 ·rw[if_pos (.inl h1)];refine bV (Q:=qD j) (Post:=fun v K' H'=>v= .i64 1/\NodeAt K' H' j c N) ac (fn:=f30) func30 rfl am (ak ?_);simp -implicitDefEqProofs only[go_sem,seval,hg,w1];simp -implicitDefEqProofs only[go_sem,seval,h1,decide_true];repeat refine aI ?_
  exact Ex.of (hC.start _) trivial ⟨rfl,hN⟩
 by_cases h2:1099511627776-N.D.now<k
 ·rw[if_pos (.inr h2)];refine bV (Q:=qD j) (Post:=fun v K' H'=>v= .i64 1/\NodeAt K' H' j c N) ac (fn:=f30) func30 rfl am (ak ?_);simp -implicitDefEqProofs only[go_sem,seval,hg,w1];simp -implicitDefEqProofs only[go_sem,seval,h1,h2,decide_true,decide_false];repeat refine aI ?_
  exact Ex.of (hC.start _) trivial ⟨rfl,hN⟩
 rw[if_neg aa];have w2:ao (N.D.now+k)=N.D.now+k:=az aa aa;obtain⟨c1,c2⟩:=hD.set hC (D':={N.D with now:=N.D.now+k}) rfl rfl;have hN1:=hN.devO (c1.mono yS) ⟨_,_,c2⟩;have hC1:=c1.mono (Q2:=qD j) fun r h=>by subst h;exact rfl
 have hga1:=c2.ga;unfold DeS.cs at c1 hN1 hC1 hga1;dsimp only at c1 hN1 hC1 hga1;clear c2;have ho1:({N.D with now:=N.D.now+k}:DeS).ok n:=⟨ho.D.own,ho.D.pub,ho.D.seed,ho.D.best,ho.D.secret,⟨by show 0<=N.D.now+k;omega,by show N.D.now+k<=_;omega⟩,ho.D.firsts,ho.D.out,ho.D.got⟩;generalize hDk:({N.D with now:=N.D.now+k}:DeS)=Dk at*;refine bV (Q:=qD j) (Post:=fun v K' H'=>v= .i64 0/\NodeAt K' H' j c {N with D:=(cP Dk N.Ps).1,Ps:=(cP Dk N.Ps).2}) ac (fn:=f30) func30 rfl am (ak ?_);simp -implicitDefEqProofs only[go_sem,seval,hg,w1];simp -implicitDefEqProofs only[go_sem,seval,h1,h2,decide_false,hg,w2,bG hlt];repeat refine aI ?_
 refine bq (fun jj st=>∃ (m:Nat) (Ki:RK) (Hi:List (Option Blk)),m+jj=c.ps.length/\Cx K H (qD j) Ki Hi/\NodeAt Ki Hi j c {N with D:=(cP Dk (N.Ps.take m)).1,Ps:=(cP Dk (N.Ps.take m)).2++N.Ps.drop m}/\ag Hi c.arr=bK (c.ps.map (fun p=> .ptr p 0))/\st=⟨[(29,.slice c.arr 0 c.ps.length 1),(30,.i64 c.ps.length),(31,.i64 m)],Hi⟩) ?_ ?_
 ·exact bJ c.ps.length ⟨[(29,.slice c.arr 0 c.ps.length 1),(30,.i64 c.ps.length),(31,.i64 (0:Nat))],_⟩ (by simp[St.get,aj]) rfl (fun _ _ h=>h) ⟨0,K,_,aa,hC1,hN1,hga1,rfl⟩
 clear c1 hC1 hN1 hga1;rintro jj st ⟨m,Ki,Hi,hij,hCi,hNi,hgi,rfl⟩-;by_cases hi:m<c.ps.length
 ·have hi':(m:Int)<c.ps.length:=aa;have hw1:=dw (i:=m) aa;have hm2:m<N.Ps.length:=aa;have hq:(c.ps.map (fun p=>V.ptr p 0)).getD m .junk= .ptr c.ps[m] 0:=by
   rw[aW,ci,aF hi];rfl
  have hl1:(cP Dk (N.Ps.take m)).2.length=m:=by rw[CI,br];omega
  have hok:=JN (N.Ps.take m) Dk n ho1 fun P h=>ho.Ps P (AY h)
  rw[br,iM (Nat.le_of_lt hm2)] at hok;obtain⟨out2,got2,hDi⟩:=hNi.dev;have eP:((cP Dk (N.Ps.take m)).2++N.Ps.drop m)[m]'(by rw[aE,hl1,bU];omega)=N.Ps[m]:=by
   rw[tj aa];simp[hl1]
  have hPi:=hNi.peer m hi (by show m<((cP Dk (N.Ps.take m)).2++N.Ps.drop m).length;rw[aE,hl1,bU];omega);dsimp only at hPi hDi;rw[eP] at hPi;obtain⟨_,_,_,_,_,_,hPi⟩:=hPi;simp -implicitDefEqProofs only[go_sem,seval,hi',hgi,hq,ba];repeat refine aI ?_
  refine bA (wy hCi hDi hPi (ho.Ps _ (dd hm2)) hok.1 aa) ac rfl (by simp[af,V.low,hCi.lt hPi.kp]) hCi.sane ?_;rintro _ K2 H2 hC2 hl2 ⟨rfl,hD2,hP2⟩;simp -implicitDefEqProofs only[go_sem,seval];have hN2:=hNi.one hC2 hD2 hi hP2;have e:cP Dk (N.Ps.take (m+1))=((dM (cP Dk (N.Ps.take m)).1 N.Ps[m]).1,(cP Dk (N.Ps.take m)).2++[(dM (cP Dk (N.Ps.take m)).1 N.Ps[m]).2]):=by
   rw[List.take_add_one,aF hm2];exact Jn _ _ _
  have e3:((cP Dk (N.Ps.take m)).2++N.Ps.drop m).set m (dM (cP Dk (N.Ps.take m)).1 N.Ps[m]).2=((cP Dk (N.Ps.take m)).2++[(dM (cP Dk (N.Ps.take m)).1 N.Ps[m]).2])++N.Ps.drop (m+1):=by
   rw[ou _ _ aa,hl1,gf,sO hm2,iI,dV];rfl
  dsimp only at hN2;rw[e3] at hN2;have e4:=congrArg Prod.fst e;have e5:=congrArg Prod.snd e;dsimp only at e4 e5;rw[<-e4,<-e5] at hN2;exact bx (jj-1) ⟨[(29,.slice c.arr 0 c.ps.length 1),(30,.i64 c.ps.length),(31,.i64 (m+1:Nat))],H2⟩ aa (by simp[St.get,aj,hw1]) rfl (fun _ _ h=>h)
   ⟨m+1,K2,H2,aa,hCi.call hC2 re,hN2,(hC2.get hDi.ka (aU hgi) id).trans hgi,rfl⟩
 ·have hi':¬ (m:Int)<c.ps.length:=aa;have e:N.Ps.take m=N.Ps:=ar aa;have e2:N.Ps.drop m=[]:=AD aa;rw[e,e2,iw] at hNi;simp -implicitDefEqProofs only[go_sem,seval,hi'];exact Ex.of hCi trivial ⟨rfl,hNi⟩
end
end
section
theorem Rb {X Y:List (Option Blk)}(a:X.length=Y.length)(h:∀ b,b<X.length->ag X b=ag Y b):X=Y:=by
 refine yu a fun i h1 h2=>?_
 have :=h i h1;unfold ag at this;rw[aF h1,aF h2] at this;exact this
theorem NP {sg:List Nat}{T H:List (Option Blk)}(e:Emb sg T H)(a:∀ i,i<T.length->∃ B,ag T i=some B):memH sg H T=H:=by
 have k:=e.len;have l:bd sg H.length T=sg:=by unfold bd;rw[k,gf];simp
 refine Rb (by rw[pP];omega) fun b o=>?_
 rw[pP] at o;by_cases g:b∈sg
 ·obtain⟨i,f,rfl⟩:∃ i,i<T.length/\aw sg i=b:=by
   obtain⟨i,f,rfl⟩:=mK g;exact⟨i,aa,by unfold aw;rw[aW,aF f];rfl⟩
  obtain⟨B,h⟩:=a i f;have :=zS (sg:=sg) (H:=H) (h':=T) e.nd e.lt f;rw[l,h] at this;rw[this,(e.blk i B h).1];rfl
 ·exact Ab aa g
section
variable {K K0 K':RK}{H H0 H':List (Option Blk)}{Q0 Q:Rl->Prop}{j i d p pb n m:Nat}{P P':PeS}{D D':DeS}{c:NoK}{N:NoS}{F:BitVec 32->Int×Bool}
theorem I3 (l:Cx K0 H0 Q0 K H)(o:PathAt K H j pb F)(a:BitVec 32):
  ∃ v K' H',Dx prog 43 [.ptr pb 0,.u32 a] K H (fun _=>False) v K' H'/\(v= .tup [.i64 (F a).1,.bool (F a).2]/\K'=K/\H'=H):=by
 obtain⟨T,sg,f,r,rfl,g,h,q⟩:=o;have k:=qa (H:=H) (q a) sg f.len ⟨g.pos,trivial,trivial⟩ f.nd f.lt f.blk (fun b B e _=>g.rw_ b B e) (aH _);rw[NP f h] at k;exact⟨_,_,_,⟨k,l.start _,by simp[af,V.low]⟩,rfl,rfl,rfl⟩
theorem xI (b:Cx K0 H0 Q0 K H)(e:PathAt K H j pb F):pb<H.length:=by
 obtain⟨T,sg,f,g,rfl,a,-,-⟩:=e;exact b.lt (g _ (f.mem a.pos))
def jh (ps:List Nat):Option Nat->V
 |none=> .nilPtr
 |some i=> .ptr (ps.getD i 0) 0
theorem lp {ps:List Nat}{i:Nat}(h:i<ps.length):jh ps (some i)= .ptr ps[i] 0:=by
 show V.ptr (ps.getD i 0) 0=_;rw[aW,aF h];rfl
theorem DF {α:Type}{l:List α}{p:α->Bool}{i:Nat}(b:i<l.length)(e:p l[i]=true)(f:∀ k (h:k<i),p (l[k]'(aa))=false):l.findIdx? p=some i:=
 sM.2 ⟨b,e,fun k g=>by rw[f k g];simp⟩
theorem Bc {α:Type}{l:List α}{p:α->Bool}(a:∀ k (h:k<l.length),p l[k]=false):l.findIdx? p=none:=by
 rw[List.findIdx?_eq_none_iff];intro x b;obtain⟨k,e,rfl⟩:=mK b;exact a k e
theorem JC (hC:Cx K0 H0 Q0 K H)(hN:NodeAt K H j c N)(hp8:N.Ps.length<=8)(x:List ai):
  ∃ v K' H',Dx prog 39 [.ptr c.d 0,.str x] K H (fun _=>False) v K' H'/\(v=jh c.ps (N.Ps.findIdx? fun P=>decide (P.pub=x))/\K'=K/\H'=H):=by
 obtain⟨out,got,hD⟩:=hN.dev;have hg:=hD.g;have hga:=hD.ga;unfold DeS.cs at hg;have hlen:=hN.len;refine bV (Q:=fun _=>False) (Post:=fun v K' H'=>v=jh c.ps (N.Ps.findIdx? fun P=>decide (P.pub=x))/\K'=K/\H'=H) ac (fn:=f39) func39 rfl am (ak ?_);simp -implicitDefEqProofs only[go_sem,seval,hg];repeat refine aJ ?_
 refine bq (fun jj st=>∃ m:Nat,m+jj=c.ps.length/\(∀ k (h:k<m) (h2:k<N.Ps.length),¬ N.Ps[k].pub=x)/\st=⟨[(0,.ptr c.d 0),(1,.str x),(10,.slice c.arr 0 c.ps.length 1),(11,.i64 c.ps.length),(12,.i64 m)],H⟩) ?_ ?_
 ·exact bJ c.ps.length ⟨[(0,.ptr c.d 0),(1,.str x),(10,.slice c.arr 0 c.ps.length 1),(11,.i64 c.ps.length),(12,.i64 (0:Nat))],H⟩ (by simp[St.get,aj]) rfl (fun _ _ h=>h) ⟨0,aa,fun k h=>by omega,rfl⟩
 rintro jj st ⟨m,hij,hno,rfl⟩-;by_cases hi:m<c.ps.length
 ·have hi':(m:Int)<c.ps.length:=aa;have hw1:=dw (i:=m) aa;have hm2:m<N.Ps.length:=aa;have hq:(c.ps.map (fun p=>V.ptr p 0)).getD m .junk= .ptr c.ps[m] 0:=by
   rw[aW,ci,aF hi];rfl
  obtain⟨_,_,_,_,_,_,hP⟩:=hN.peer m hi hm2;have hgq:=hP.gp;unfold PeS.cs at hgq;simp -implicitDefEqProofs only[go_sem,seval,hi',hga,hq,hgq,ba];repeat refine aJ ?_
  split
  ·rename_i he;have e:(N.Ps.findIdx? fun P=>decide (P.pub=x))=some m:=DF hm2 (by simpa using he) fun k hk=>decide_eq_false (hno k hk aa)
   refine Ex.of (hC.start _) (hC.lt hP.kp) ⟨?_,rfl,rfl⟩;rw[e,lp hi]
  ·rename_i he;exact bx (jj-1) ⟨[(0,.ptr c.d 0),(1,.str x),(10,.slice c.arr 0 c.ps.length 1),(11,.i64 c.ps.length),(12,.i64 (m+1:Nat))],H⟩ aa (by simp[St.get,aj,hw1]) rfl (fun _ _ h=>h) ⟨m+1,aa,fun k h h2=>by
    by_cases hk:k=m
    ·subst hk;exact he
    ·exact hno k aa h2,rfl⟩
 ·have hi':¬ (m:Int)<c.ps.length:=aa;simp -implicitDefEqProofs only[go_sem,seval,hi'];refine Ex.of (hC.start _) trivial ⟨?_,rfl,rfl⟩;rw[Bc (p:=fun P=>decide (P.pub=x)) (l:=N.Ps) fun k hk=>decide_eq_false (hno k aa hk)];rfl
def gM (id:BitVec 32)(P:PeS):Bool:=P.bg.isSome&&decide (P.bi=id)
theorem Gj (a b:BitVec 32):(a.setWidth 64=BitVec.ofNat 64 (le ((cW b).take 8)))↔a=b:=by
 rw[ar (show(cW b).length<=8 by rw[fE];decide)];have h:=AL b;constructor
 ·intro e;rw[<-e] at h;rw[<-h];apply eE;have :=a.isLt;simp only[mL];omega
 ·intro e;subst e;have f:le (cW a)<2^32:=by
   have e:∀ n k:Nat,le (aV n k)=n%256^k:=fun n k=>by
    induction k generalizing n with
    |zero=>show 0=n%1;omega
    |succ k ih=>
     show(BitVec.ofNat 8 n).toNat+256*le (aV (n/256) k)=_;rw[ih,iT,jv (256^k) 256,wq,cx]
   unfold cW;rw[e];exact vr _ ah
  have h2:=congrArg BitVec.toNat h;apply eE;simp only[mL,cx] at h2 |-
  omega
theorem ID (hC:Cx K0 H0 Q0 K H)(hN:NodeAt K H j c N)(hp8:N.Ps.length<=8)(x:List ai)(id:BitVec 32)(hx:x.take 4=cW id)(hx4:4<=x.length)(hx2:x.length<=10000000):
  ∃ v K' H',Dx prog 102 [.ptr c.d 0,.str x] K H (fun _=>False) v K' H'/\(v=jh c.ps (N.Ps.findIdx? (gM id))/\K'=K/\H'=H):=by
 obtain⟨out,got,hD⟩:=hN.dev;have hg:=hD.g;have hga:=hD.ga;unfold DeS.cs at hg;have hlen:=hN.len;have hLi:=iJ (cW id) (by rw[fE];decide);rw[<-hx] at hLi;refine bV (Q:=fun _=>False) (Post:=fun v K' H'=>v=jh c.ps (N.Ps.findIdx? (gM id))/\K'=K/\H'=H) ac (fn:=f102) func102 rfl am (ak ?_);simp -implicitDefEqProofs only[go_sem,seval,hg];repeat refine aJ ?_
 refine bq (fun jj st=>∃ m:Nat,m+jj=c.ps.length/\(∀ k (h:k<m) (h2:k<N.Ps.length),gM id N.Ps[k]=false)/\st=⟨[(0,.ptr c.d 0),(1,.str x),(10,.slice c.arr 0 c.ps.length 1),(11,.i64 c.ps.length),(12,.i64 m)],H⟩) ?_ ?_
 ·exact bJ c.ps.length ⟨[(0,.ptr c.d 0),(1,.str x),(10,.slice c.arr 0 c.ps.length 1),(11,.i64 c.ps.length),(12,.i64 (0:Nat))],H⟩ (by simp[St.get,aj]) rfl (fun _ _ h=>h) ⟨0,aa,fun k h=>by omega,rfl⟩
 rintro jj st ⟨m,hij,hno,rfl⟩-;by_cases hi:m<c.ps.length
 ·have hi':(m:Int)<c.ps.length:=aa;have hw1:=dw (i:=m) aa;have hm2:m<N.Ps.length:=aa;have hq:(c.ps.map (fun p=>V.ptr p 0)).getD m .junk= .ptr c.ps[m] 0:=by
   rw[aW,ci,aF hi];rfl
  obtain⟨_,_,bgv,_,_,_,hP⟩:=hN.peer m hi hm2;have hgq:=hP.gp;have hb:=hP.fbg;unfold PeS.cs at hgq;have hnext:gM id N.Ps[m]=false->∀ t,aj t 0= .ptr c.d 0->aj t 1= .str x->aj t 10= .slice c.arr 0 c.ps.length 1->aj t 11= .i64 c.ps.length->aj t 12= .i64 (ao ((m:Int)+1))->jS H.length 34 (fun jj st=>∃ m:Nat,m+jj=c.ps.length/\(∀ k (h:k<m) (h2:k<N.Ps.length),gM id N.Ps[k]=false)/\st=⟨[(0,.ptr c.d 0),(1,.str x),(10,.slice c.arr 0 c.ps.length 1),(11,.i64 c.ps.length),(12,.i64 m)],H⟩) jj ⟨t,H⟩:=fun hf t h0 h1 h2 h3 h4=>
   bx (jj-1) ⟨[(0,.ptr c.d 0),(1,.str x),(10,.slice c.arr 0 c.ps.length 1),(11,.i64 c.ps.length),(12,.i64 (m+1:Nat))],H⟩ aa (by simp[St.get,h0,h1,h2,h3,h4,hw1]) rfl (fun _ _ h=>h) ⟨m+1,aa,fun k h h2=>by
    by_cases hk:k=m
    ·subst hk;exact hf
    ·exact hno k aa h2,rfl⟩
  cases hbo:N.Ps[m].bg with
  |none=>
   rw[hbo] at hb;obtain rfl:bgv= .nilPtr:=hb;simp -implicitDefEqProofs only[go_sem,seval,hi',hga,hq,hgq,ba];repeat refine aJ ?_
   exact hnext (by unfold gM;rw[hbo];rfl) _ rfl rfl rfl rfl rfl
  |some f=>
   rw[hbo] at hb;obtain⟨bc,rfl,hbc,-⟩:=hb;simp -implicitDefEqProofs only[go_sem,seval,hi',hga,hq,hgq,ba];repeat refine aJ ?_
   refine aX (hLi) ?_;simp -implicitDefEqProofs only[go_sem,seval];repeat refine aJ ?_
   rw[hx];split
   ·rename_i he;have h1:N.Ps[m].bi=id:=(Gj _ _).1 he;have e:N.Ps.findIdx? (gM id)=some m:=DF hm2 (by unfold gM;rw[hbo,h1];simp) fun k hk=>hno k hk aa
    refine Ex.of (hC.start _) (hC.lt hP.kp) ⟨?_,rfl,rfl⟩;rw[e,lp hi]
   ·rename_i he;have h1:¬ N.Ps[m].bi=id:=fun h=>he ((Gj _ _).2 h)
    exact hnext (by unfold gM;rw[decide_eq_false h1];simp) _ rfl rfl rfl rfl rfl
 ·have hi':¬ (m:Int)<c.ps.length:=aa;simp -implicitDefEqProofs only[go_sem,seval,hi'];refine Ex.of (hC.start _) trivial ⟨?_,rfl,rfl⟩;rw[Bc fun k hk=>hno k aa hk];rfl
theorem Tw (e:Cx K0 H0 Q0 K H)(q:NodeAt K H j c N):
  ∃ v K' H',Dx prog 18 [.ptr c.d 0] K H (fun r=>r= .dev j) v K' H'/\(K'=K/\RwAt K' H' (.out j) v N.D.out.length (cg N.D.out)/\NodeAt K' H' j c {N with D:={N.D with out:=[]}}):=by
 obtain⟨out,got,a⟩:=q.dev;obtain⟨l1,l2,l3,u,w⟩:=DeS.low (a.low e) (aH _);have h1:=(e.start (fun r=>r= .dev j)).put (mm:=none) a.kd rfl (vs:=({N.D with out:=[]}:DeS).cs c.arr c.ps.length c.paths c.bk .nilSlice got) (by simp[DeS.cs,af,V.low,l1,l2,l3,w]);have f:=h1.off;have k:DevAt K (H.set c.d (bK (({N.D with out:=[]}:DeS).cs c.arr c.ps.length c.paths c.bk .nilSlice got))) j c.d {N.D with out:=[]} c.arr c.ps c.paths c.bk .nilSlice got:=
  ⟨a.kd,a.ka,bG (e.lt a.kd) _,(f.h _ _ a.ka ae).trans a.ga,.inl ⟨rfl,rfl⟩,a.t.off f ae⟩
 have b:=q.devO (h1.mono yS) ⟨_,_,k⟩;have l:=a.o.off f ae;have s:=a.g;unfold DeS.cs at s h1 b l;dsimp only at h1 b l;have x:=e.lt a.kd;refine bV (Q:=fun r=>r= .dev j) (Post:=fun v K' H'=>K'=K/\RwAt K' H' (.out j) v N.D.out.length (cg N.D.out)/\NodeAt K' H' j c {N with D:={N.D with out:=[]}}) ac (fn:=f18) func18 rfl am (ak ?_);simp -implicitDefEqProofs only[go_sem,seval,s];repeat refine aI ?_
 exact Ex.of h1 (by show V.low (List.length (H.set c.d _)) _;rw[aY];exact u) ⟨rfl,l,b⟩
theorem aag (e:Cx K0 H0 Q0 K H)(q:NodeAt K H j c N):
  ∃ v K' H',Dx prog 19 [.ptr c.d 0] K H (fun r=>r= .dev j) v K' H'/\(K'=K/\RwAt K' H' (.got j) v N.D.got.length (cS N.D.got)/\NodeAt K' H' j c {N with D:={N.D with got:=[]}}):=by
 obtain⟨out,got,a⟩:=q.dev;obtain⟨l1,l2,l3,u,w⟩:=DeS.low (a.low e) (aH _);have h1:=(e.start (fun r=>r= .dev j)).put (mm:=none) a.kd rfl (vs:=({N.D with got:=[]}:DeS).cs c.arr c.ps.length c.paths c.bk out .nilSlice) (by simp[DeS.cs,af,V.low,l1,l2,l3,u]);have f:=h1.off;have k:DevAt K (H.set c.d (bK (({N.D with got:=[]}:DeS).cs c.arr c.ps.length c.paths c.bk out .nilSlice))) j c.d {N.D with got:=[]} c.arr c.ps c.paths c.bk out .nilSlice:=
  ⟨a.kd,a.ka,bG (e.lt a.kd) _,(f.h _ _ a.ka ae).trans a.ga,a.o.off f ae,.inl ⟨rfl,rfl⟩⟩
 have b:=q.devO (h1.mono yS) ⟨_,_,k⟩;have l:=a.t.off f ae;have s:=a.g;unfold DeS.cs at s h1 b l;dsimp only at h1 b l;have x:=e.lt a.kd;refine bV (Q:=fun r=>r= .dev j) (Post:=fun v K' H'=>K'=K/\RwAt K' H' (.got j) v N.D.got.length (cS N.D.got)/\NodeAt K' H' j c {N with D:={N.D with got:=[]}}) ac (fn:=f19) func19 rfl am (ak ?_);simp -implicitDefEqProofs only[go_sem,seval,s];repeat refine aI ?_
 exact Ex.of h1 (by show V.low (List.length (H.set c.d _)) _;rw[aY];exact w) ⟨rfl,l,b⟩
theorem aap (a:Cx K0 H0 Q0 K H)(b:NodeAt K H j c N)(n:Int):
  ∃ v K' H',Dx prog 33 [.ptr c.d 0,.i64 n] K H (fun _=>False) v K' H'/\(v=jh c.ps (if n<0\/(c.ps.length:Int)<=n then none else some n.toNat)/\K'=K/\H'=H):=by
 obtain⟨out,got,l⟩:=b.dev;have e:=l.g;have f:=l.ga;unfold DeS.cs at e;refine bV (Q:=fun _=>False) (Post:=fun v K' H'=>v=jh c.ps (if n<0\/(c.ps.length:Int)<=n then none else some n.toNat)/\K'=K/\H'=H) ac (fn:=f33) func33 rfl am (ak ?_);simp -implicitDefEqProofs only[go_sem,seval,e];by_cases h1:n<0
 ·simp -implicitDefEqProofs only[go_sem,seval,h1,decide_true];repeat refine aJ ?_
  exact Ex.of (a.start _) trivial ⟨by simp;rfl,rfl,rfl⟩
 by_cases h2:(c.ps.length:Int)<=n
 ·simp -implicitDefEqProofs only[go_sem,seval,h1,h2,decide_true,decide_false];repeat refine aJ ?_
  exact Ex.of (a.start _) trivial ⟨by simp;rfl,rfl,rfl⟩
 obtain⟨i,rfl⟩:∃ i:Nat,n=(i:Int):=⟨n.toNat,aa⟩;have h:i<c.ps.length:=aa;have k:(i:Int)<c.ps.length:=aa;have o:(c.ps.map (fun p=>V.ptr p 0)).getD i .junk= .ptr c.ps[i] 0:=by
  rw[aW,ci,aF h];rfl
 have r:=b.len;obtain⟨_,_,_,_,_,_,q⟩:=b.peer i h aa;simp -implicitDefEqProofs only[go_sem,seval,h1,h2,k,decide_false,e,f,o,ba];repeat refine aJ ?_
 exact Ex.of (a.start _) (a.lt q.kp) ⟨(lp h).symm,rfl,rfl⟩
def ow (N:NoS)(n:Int):Int:=if n<0\/(N.Ps.length:Int)<=n then 0 else match N.Ps[n.toNat]? with
 |none=>0
 |some P=>match P.se with
  |none=>0
  |some S=>S.su
theorem HC (g:Cx K0 H0 Q0 K H)(l:NodeAt K H j c N)(n:Int):
  ∃ v K' H',Dx prog 23 [.ptr c.d 0,.i64 n] K H (fun _=>False) v K' H'/\(v= .i64 (ow N n)/\K'=K/\H'=H):=by
 have C:=l.len;have o:c.d<H.length:=by obtain⟨_,_,x⟩:=l.dev;exact g.lt x.kd
 refine bV (Q:=fun _=>False) (Post:=fun v K' H'=>v= .i64 (ow N n)/\K'=K/\H'=H) ac (fn:=f23) func23 rfl am (ak ?_);simp -implicitDefEqProofs only[go_sem,seval];repeat refine aJ ?_
 refine bA (aap g l n) ac rfl (by simp[af,V.low,o]) g.sane ?_;rintro _ K1 H1 y z ⟨rfl,rfl,rfl⟩;by_cases h1:n<0\/(c.ps.length:Int)<=n
 ·rw[if_pos h1];have e:ow N n=0:=by unfold ow;rw[if_pos aa]
  rw[e];simp -implicitDefEqProofs only[go_sem,seval,jh];repeat refine aJ ?_
  exact Ex.of (g.start _) trivial ⟨rfl,rfl,rfl⟩
 rw[if_neg h1];obtain⟨i,rfl⟩:∃ i:Nat,n=(i:Int):=⟨n.toNat,aa⟩;have s:i<c.ps.length:=aa;have h:i<N.Ps.length:=aa;obtain⟨_,_,_,_,r,_,t⟩:=l.peer i s h;have f:=t.gp;unfold PeS.cs at f;have A:jh c.ps (some ((i:Int)).toNat)= .ptr c.ps[i] 0:=by rw[cT,lp s]
 have es:ow N i=match N.Ps[i].se with
  |none=>0
  |some S=>S.su:=by unfold ow;rw[if_neg aa,cT,aF h]
 rw[A,es];have b:=t.fse;cases u:N.Ps[i].se with
 |none=>
  rw[u] at b;obtain rfl:r= .nilPtr:=b;simp -implicitDefEqProofs only[go_sem,seval,f];repeat refine aJ ?_
  exact Ex.of (g.start _) trivial ⟨rfl,rfl,rfl⟩
 |some S=>
  rw[u] at b;obtain⟨a,q,w,rfl,B⟩:=b;have k:=B.ga;unfold SeS.sc at k;simp -implicitDefEqProofs only[go_sem,seval,f,k];repeat refine aJ ?_
  exact Ex.of (g.start _) trivial ⟨rfl,rfl,rfl⟩
end
end
end Go.Vm
end
section
namespace Go.Vm
section
section
variable {H H0:List (Option Blk)}{W:Nat->Prop}{p d a:Nat}{ds:List V}
theorem Yb {X Y:Option Blk}{J N:List (Option Blk)}(c:p<H.length)(b:p≠a):(((H.set p X++J).set a none)++N).set p Y=(((H++J).set a none)++N).set p Y:=by
 have e:H.set p X++J=(H++J).set p X:=(y6 p X c).symm;rw[e,List.set_comm _ _ b];have f:((H++J).set a none).set p X++N=(((H++J).set a none)++N).set p X:=(y6 p X (by rw[aY,aE];omega)).symm;rw[f,iX]
theorem TK {X y:Option Blk}:ag (H.set p X++[y]) H.length=y:=by
 have :=eY (H:=H.set p X) (x:=y)
 rwa [aY] at this
attribute [go_sem] TK
variable {tm:Nat}{num:Int}{pub psk:List ai}{at_:BitVec 32}{knows pin:Int}{stamped:Bool}{sec nano:Int}{cookie:List ai}{until_:Int}{waits waits' begun:V}{bindex:BitVec 32}{btext:List ai}{old session next:V}
end
end
end Go.Vm
end
section
namespace Go.Vm
open Go.Proofs Go.Proofs.Tryz
section
def jF (l:List (List ai))(x:List ai):List (List ai):=(if l.length=4 then l.drop 1 else l)++[x]
def jE (src:BitVec 32)(x:List ai):List ai:=bu (src.setWidth 64).toNat 4++x
noncomputable def rM (N:NoS) (F:BitVec 32->Int×Bool) (src dst:BitVec 32) (x:List ai):Int×NoS:=
 if 1000<(x.length:Int) then(2,N) else if(F dst).2=false then(13,N) else match N.Ps[(F dst).1.toNat]? with
  |none=>(13,N)
  |some P=>if P.useB N.D.now=true then
    (0,{N with D:=(dM (dn N.D P (jE src x)).1 (dn N.D P (jE src x)).2).1,Ps:=N.Ps.set (F dst).1.toNat (dM (dn N.D P (jE src x)).1 (dn N.D P (jE src x)).2).2})
   else(0,{N with D:=(dM N.D {P with waits:=jF P.waits (jE src x),tm:=P.tm.ev 3 N.D.now}).1,Ps:=N.Ps.set (F dst).1.toNat (dM N.D {P with waits:=jF P.waits (jE src x),tm:=P.tm.ev 3 N.D.now}).2})
section
variable {K K0 K':RK}{H H0 H':List (Option Blk)}{Q0 Q:Rl->Prop}{j i d p tm pb n m W:Nat}{P P':PeS}{D D':DeS}{c:NoK}{N:NoS}{F:BitVec 32->Int×Bool}{wv bg ol se ne:V}
theorem KB (n:Nat):∀ l:List (List ai),af n (l.map .str)
 |[]=>trivial
 |_::l=>⟨trivial,KB n l⟩
theorem PeerAt.growW (f:Cx K0 H0 Q0 K H)(g:H.length=W)(b:PeerAt K H j i d p P tm wv bg ol se ne)(l:List (List ai))(q:l≠[])(a:Option Nat)(o:∀ x,a=some x->K x=some (.wt j i)):
  Cx K H (fun r=>r= .peer j i\/r= .wt j i) (cV (fQ a K) W (some (.wt j i))) ((cutH a H++[bK (l.map .str)]).set p (bK (({P with waits:=l}:PeS).cs d tm (.slice W 0 l.length 1) bg ol se ne)))/\
  PeerAt (cV (fQ a K) W (some (.wt j i))) ((cutH a H++[bK (l.map .str)]).set p (bK (({P with waits:=l}:PeS).cs d tm (.slice W 0 l.length 1) bg ol se ne))) j i d p {P with waits:=l} tm (.slice W 0 l.length 1) bg ol se ne:=by
 obtain⟨l1,l2,l3,s,t,u,v⟩:=PeS.low (k:=H.length+1) (f.sane _ _ b.gp).1 aa;have h1:=(f.start (fun r=>r= .peer j i\/r= .wt j i)).growN g b.kp (.inl rfl) a (.wt j i) o (.inr rfl) (ds:=l.map .str) (vs:=({P with waits:=l}:PeS).cs d tm (.slice W 0 l.length 1) bg ol se ne) (KB _ _) (by simp[PeS.cs,af,V.low,l1,l2,s,t,u,v];omega);obtain⟨g1,g2,g3⟩:=uh (ds:=l.map .str) (vs:=({P with waits:=l}:PeS).cs d tm (.slice W 0 l.length 1) bg ol se ne) f g b.kp o ae;have e:=h1.off;exact⟨h1,g1,e.k _ _ b.kt ae,g2,(e.h _ _ b.kt ae).trans b.gt,.inr ⟨_,rfl,q,gB,g3⟩,b.fbg.off e ae,b.fol.off e ae ae,b.fse.off e ae ae,b.fne.off e ae ae,b.d1,b.d2,b.d3⟩
theorem HZ (a:P.ok){x:List ai}(e:x.length<=2000)(f:0<=D.now/\D.now<=1099511627776):({P with waits:=jF P.waits x,tm:=P.tm.ev 3 D.now}:PeS).ok:=by
 refine⟨a.q,a.pub,a.psk,a.kn,a.pin,a.ck,a.un,?_,fun y b=>?_,a.bg,a.bt,a.ol,a.se,a.ne,TmS.ev_ok a.tm (.inl ah) f⟩
 ·have :=a.wl;show(jF P.waits x).length<=4;unfold jF;rw[aE];split
  ·rw[bU];simp;omega
  ·simp;omega
 ·have b:y∈jF P.waits x:=b;unfold jF at b;rcases eB.1 b with h|h
  ·split at h
   ·exact a.ws y (BW h)
   ·exact a.ws y h
  ·simp at h;subst h;exact e
theorem Of (src:BitVec 32)(x:List ai):(jE src x).length=x.length+4:=by unfold jE;rw[aE,cF];omega
theorem agN (hC:Cx K0 H0 Q0 K H)(hN:NodeAt K H j c N)(ho:N.ok n)(hn:n<=900000000)(hF:∀ a,(c.F a).2=true->0<=(c.F a).1/\(c.F a).1<c.ps.length)(src dst:BitVec 32)(x:List ai):
  ∃ v K' H',Dx prog 28 [.ptr c.d 0,.u32 src,.u32 dst,.str x] K H (qD j) v K' H'/\(v= .i64 (rM N c.F src dst x).1/\NodeAt K' H' j c (rM N c.F src dst x).2):=by
 obtain⟨out,got,hD⟩:=hN.dev;have hnow:=ho.D.now;have hg:=hD.g;have hga:=hD.ga;unfold DeS.cs at hg;have hld:=hC.lt hD.kd;have hlen:=hN.len;unfold rM;by_cases hx2:1000<(x.length:Int)
 ·rw[if_pos hx2];refine bV (Q:=qD j) (Post:=fun v K' H'=>v= .i64 2/\NodeAt K' H' j c N) ac (fn:=f28) func28 rfl am (ak ?_);simp -implicitDefEqProofs only[go_sem,seval,hx2];exact Ex.of (hC.start _) trivial ⟨rfl,hN⟩
 rw[if_neg hx2];have hfind:=hF dst;have hfx:=I3 hC hN.pth dst;generalize c.F dst=f at*;obtain⟨k,r⟩:=f;dsimp only at hfind hfx |-
 cases r
 ·rw[if_pos rfl];refine bV (Q:=qD j) (Post:=fun v K' H'=>v= .i64 13/\NodeAt K' H' j c N) ac (fn:=f28) func28 rfl am (ak ?_);simp -implicitDefEqProofs only[go_sem,seval,hg,hx2];repeat refine aI ?_
  refine bA (hfx) ac rfl (by simp[af,V.low,xI hC hN.pth]) hC.sane ?_;rintro _ K1 H1 hC1 hl1 ⟨rfl,rfl,rfl⟩;simp -implicitDefEqProofs only[go_sem,seval,qY];exact Ex.of (hC.start _) trivial ⟨rfl,hN⟩
 rw[if_neg ah];obtain⟨hk0,hk1⟩:=hfind rfl;obtain⟨i,rfl⟩:∃ i:Nat,k=(i:Int):=⟨k.toNat,aa⟩;have hi:i<c.ps.length:=aa;have hi2:i<N.Ps.length:=aa;have hi':(i:Int)<c.ps.length:=aa;rw[cT,aF hi2];dsimp only;have hPo:=ho.Ps _ (dd hi2);obtain⟨tm,wv,bg,ol,se,ne,hP⟩:=hN.peer i hi hi2;have hq:(c.ps.map (fun p=>V.ptr p 0)).getD i .junk= .ptr c.ps[i] 0:=by
  rw[aW,ci,aF hi];rfl
 generalize hpe:c.ps[i]=p at*;generalize hPi:N.Ps[i]=P at*;have hgq:=hP.gp;unfold PeS.cs at hgq;have hpi:=hC.lt hP.kp;have hA:=La (src.setWidth 64);have hpl:(jE src x).length<=2000:=by rw[Of];omega
 have hpk:jE src x=bu (src.setWidth 64).toNat 4++x:=rfl;generalize jE src x=pk at*;generalize hbb:bu (src.setWidth 64).toNat 4=bb at*;have hbl:bb.length=4:=by rw[<-hbb];exact cF _ _
 generalize hRes:(if P.useB N.D.now=true then _ else _:Int×NoS)=R;refine bV (Q:=qD j) (Post:=fun v K' H'=>v= .i64 R.1/\NodeAt K' H' j c R.2) ac (fn:=f28) func28 rfl am (ak ?_);simp -implicitDefEqProofs only[go_sem,seval,hg,hx2];repeat refine aI ?_
 refine bA (hfx) ac rfl (by simp[af,V.low,xI hC hN.pth]) hC.sane ?_;rintro _ K1 H1 hC1 hl1 ⟨rfl,rfl,rfl⟩;simp -implicitDefEqProofs only[go_sem,seval,hg,jI,hga,hq,hi',ba];repeat refine aI ?_
 refine aS [] (hA) ac ae rfl ae aM ae ae ae ae ae ?_;simp -implicitDefEqProofs only[go_sem,seval,hbl,ar (show(bb.map V.u8).length<=4 by simp;omega)];repeat refine aI ?_
 have hJ:=(hC.start (fun _=>False)).junk (vs:=bb.map V.u8) (mm:=none) (wT _ _);have hD2:=hD.offF hJ.off;have hP2:=hP.offF hJ.off;have hpeer2:∀ i' (h1:i'<c.ps.length) (h2:i'<N.Ps.length),i'≠i->PeerIn K1 (H1++[bK (bb.map V.u8)]) j i' c.d c.ps[i'] N.Ps[i']:=fun i' h1 h2 _=>(hN.peer i' h1 h2).off hJ.off id id id id id fun _=>⟨id,id⟩
 have hN2:NodeAt K1 (H1++[bK (bb.map V.u8)]) j c N:=⟨⟨_,_,hD2⟩,hN.len,fun i' h1 h2=>(hN.peer i' h1 h2).off hJ.off id id id id id fun _=>⟨id,id⟩,hN.bkt.off hJ.off id id,hN.pth.off hJ.off hJ.len id⟩;have hg2:=(lI (X:=[bK (bb.map V.u8)]) hpi).trans hgq;have hd2:=(lI (X:=[bK (bb.map V.u8)]) hld).trans hg;generalize H1++[bK (bb.map V.u8)]=M at*;rw[<-hpk];refine bA (FV hJ hD2 hP2 hPo) ac rfl (by simp[af,V.low,hJ.lt hP2.kp]) hJ.sane ?_;rintro _ K3 H3 hC3 hl3 ⟨rfl,rfl,rfl⟩;have fin:∀ {K4:RK} {H4:List (Option Blk)} {D4:DeS} {P4:PeS},Cx K3 H3 (qP j i) K4 H4->fm K4 H4 j c.d D4 c.arr c.ps c.paths c.bk->PeerIn K4 H4 j i c.d p P4->Cx K3 H1 (qD j) K4 H4/\NodeAt K4 H4 j c {N with D:=D4,Ps:=N.Ps.set i P4}:=fun hc hd hp=>
  ⟨(hJ.mono fun _ h=>h.elim).call hc re,hN2.one hc hd hi (by rw[hpe];exact hp)⟩
 by_cases hr:P.useB N.D.now=true
 ·rw[if_pos hr] at hRes;subst hRes;obtain⟨S,hS⟩:∃ S,P.se=some S:=by
   unfold PeS.useB at hr;split at hr
   ·cases hr
   ·exact⟨_,‹_›⟩
  simp -implicitDefEqProofs only[go_sem,seval,hr];have h1:=wB hPo ho.D pk;refine bA (yV hJ hD2 hP2 hPo ho.D aa hS pk hpl) ac rfl (by simp[af,V.low,hJ.lt hP2.kp]) hJ.sane ?_;rintro _ K4 H4 hC4 hl4 ⟨rfl,⟨_,_,hD4⟩,_,_,_,_,_,_,hP4⟩;simp -implicitDefEqProofs only[go_sem,seval];have hC4':=(hJ.mono (Q2:=qP j i) fun _ h=>h.elim).call hC4 uG;refine bA (wy hC4' hD4 hP4 h1.1 h1.2 aa) ac rfl (by simp[af,V.low,hC4'.lt hP4.kp]) hC4'.sane ?_;rintro _ K5 H5 hC5 hl5 ⟨rfl,hD5,hP5⟩;simp -implicitDefEqProofs only[go_sem,seval];obtain⟨r1,r2⟩:=fin ((hC4.mono uG).call hC5 fun _ h=>h) hD5 hP5;exact Ex.of r1 trivial ⟨rfl,r2⟩
 rw[if_neg hr] at hRes;subst hRes;have hr':P.useB N.D.now=false:=by simpa using hr
 simp -implicitDefEqProofs only[go_sem,seval,hr'];have hJJ:=hJ.junk (vs:=[.str pk]) (mm:=none) (by simp[af,V.low]);have hP3:=hP2.offF ((hJ.start (fun _=>False)).junk (vs:=[.str pk]) (mm:=none) (by simp[af,V.low])).off;have hD3:=hD2.offF ((hJ.start (fun _=>False)).junk (vs:=[.str pk]) (mm:=none) (by simp[af,V.low])).off;have hlp3:=hJ.lt hP2.kp;have hld3:=hJ.lt hD2.kd;have hpd:p≠c.d:=fun e=>by have :=hP2.kp;rw[e,hD2.kd] at this;cases this
 have htm2:tm<H3.length+2:=by have :=hJ.lt hP2.kt;omega
 have htm3:tm<H3.length+1+1:=by have :=hJ.lt hP2.kt;omega
 have hok:=HZ hPo hpl (D:=N.D) hnow;have step:∀ {K4:RK} {H4:List (Option Blk)} {wv4:V},Cx K3 (H3++[bK [.str pk]]) (fun r=>r= .peer j i\/r= .wt j i) K4 H4->PeerAt K4 H4 j i c.d p {P with waits:=jF P.waits pk} tm wv4 bg ol se ne->DevAt K4 H4 j c.d N.D c.arr c.ps c.paths c.bk out got/\Cx K3 H3 (qP j i) K4 H4:=fun hc hp=>
  ⟨hD3.off hc.off ae ae ae ae,(((hJ.start (fun _=>False)).junk (vs:=[.str pk]) (mm:=none) (by simp[af,V.low])).mono (Q2:=qP j i) fun _ h=>h.elim).call hc fun r h=>by rcases h with rfl|rfl<;>exact⟨rfl,rfl⟩⟩
 rcases hP2.fwv with⟨rfl,hw0⟩|⟨wa,rfl,hw0,hwa,hgw⟩
 ·have e:jF P.waits pk=[pk]:=by unfold jF;rw[hw0];rfl
  rw[e] at step hok |-
  obtain⟨c4,hP4⟩:=hP3.growW hJJ (W:=H3.length+1) ae [pk] ae none (fun _ e=>by cases e);obtain⟨hD4,hE4⟩:=step c4 hP4;have hl4:p<(H3++[bK [.str pk]]++[bK [.str pk]]).length:=by simp;omega
  unfold PeS.cs at c4 hP4 hD4 hE4;dsimp only[cutH,bN,cO,ce,ig] at c4 hP4 hD4 hE4;simp -implicitDefEqProofs only[go_sem,seval,hg2,m7 hlp3,bG hl4,bW hpd,m7 hld3,hd2];repeat refine aI ?_
  refine cN (ng hE4 hP4.kt hP4.gt hPo.tm 3 N.D.now ah hnow) ac rfl (by simp[af,V.low,htm2]) hE4.sane ?_;rintro _ K5 H5 hC5 hl5 ⟨rfl,rfl,hH5⟩;simp -implicitDefEqProofs only[go_sem,seval];repeat refine aI ?_
  have hE5:=hE4.call hC5 fun r h=>by subst h;exact⟨rfl,rfl⟩
  have hP5:=hP4.timer hC5.off hP4.kt (T:=P.tm.ev 3 N.D.now) (by rw[hH5];exact bG (hE4.lt hP4.kt) _);have hD5:=hD4.off hC5.off ae ae ae ae;refine bA (wy hE5 hD5 hP5 hok ho.D aa) ac rfl (by simp[af,V.low,hE5.lt hP5.kp]) hE5.sane ?_;rintro _ K6 H6 hC6 hl6 ⟨rfl,hD6,hP6⟩;simp -implicitDefEqProofs only[go_sem,seval];obtain⟨r1,r2⟩:=fin (hE5.call hC6 fun _ h=>h) hD6 hP6;exact Ex.of r1 trivial ⟨rfl,r2⟩
 have hlwa:=hJ.lt hwa;have hpw:p≠wa:=fun e=>by have :=hP2.kp;rw[e,hwa] at this;cases this
 have hdw:c.d≠wa:=fun e=>by have :=hD2.kd;rw[e,hwa] at this;cases this
 by_cases h4:P.waits.length=4
 ·have e:jF P.waits pk=P.waits.drop 1++[pk]:=by unfold jF;rw[if_pos h4]
  rw[e] at step hok |-
  obtain⟨c4,hP4⟩:=hP3.growW hJJ (W:=H3.length+1) ae (P.waits.drop 1++[pk]) ae (some wa) (fun _ e=>by cases e;exact hwa);obtain⟨hD4,hE4⟩:=step c4 hP4;generalize hws:P.waits=ws at*;obtain⟨w0,w1,w2,w3,rfl⟩:∃ w0 w1 w2 w3,ws=[w0,w1,w2,w3]:=by
   match ws,h4 with
   |[w0,w1,w2,w3],_=>exact⟨_,_,_,_,rfl⟩
  have hl4:p<((H3++[bK [.str pk]]).set wa none++[bK [.str w1,.str w2,.str w3,.str pk]]).length:=by simp;omega
  unfold PeS.cs at c4 hP4 hD4 hE4;dsimp only[cutH,List.drop,gD,bN,cO,aE,ce,ig,fO,ff] at c4 hP4 hD4 hE4 hgw hg2 |-
  simp -implicitDefEqProofs only[go_sem,seval,hg2,decide_true,cz,bG hlp3,bW hpw,bW hpw.symm,aY,hlwa,hlp3,hgw,Yb hlp3 hpw,bG hl4,bW hpd,sa hld3 hdw.symm,hd2];repeat refine aI ?_
  refine cN (ng hE4 hP4.kt hP4.gt hPo.tm 3 N.D.now ah hnow) ac rfl (by simp[af,V.low,htm2]) hE4.sane ?_;rintro _ K5 H5 hC5 hl5 ⟨rfl,rfl,hH5⟩;simp -implicitDefEqProofs only[go_sem,seval];repeat refine aI ?_
  have hE5:=hE4.call hC5 fun r h=>by subst h;exact⟨rfl,rfl⟩
  have hP5:=hP4.timer hC5.off hP4.kt (T:=P.tm.ev 3 N.D.now) (by rw[hH5];exact bG (hE4.lt hP4.kt) _);have hD5:=hD4.off hC5.off ae ae ae ae;refine bA (wy hE5 hD5 hP5 hok ho.D aa) ac rfl (by simp[af,V.low,hE5.lt hP5.kp]) hE5.sane ?_;rintro _ K6 H6 hC6 hl6 ⟨rfl,hD6,hP6⟩;simp -implicitDefEqProofs only[go_sem,seval];obtain⟨r1,r2⟩:=fin (hE5.call hC6 fun _ h=>h) hD6 hP6;exact Ex.of r1 trivial ⟨rfl,r2⟩
 ·have e:jF P.waits pk=P.waits++[pk]:=by unfold jF;rw[if_neg h4]
  rw[e] at step hok |-
  obtain⟨c4,hP4⟩:=hP3.growW hJJ (W:=H3.length+1) ae (P.waits++[pk]) ae (some wa) (fun _ e=>by cases e;exact hwa);obtain⟨hD4,hE4⟩:=step c4 hP4;have h4':¬ (P.waits.length:Int)=4:=aa;have hwl:=hPo.wl;have hl4:p<((H3++[bK [.str pk]]).set wa none++[bK ((P.waits++[pk]).map .str)]).length:=by simp;omega
  unfold PeS.cs at c4 hP4 hD4 hE4;dsimp only[cutH] at c4 hP4 hD4 hE4;simp only[aE,ce,ig,cw] at c4 hP4 hD4 hE4;simp -implicitDefEqProofs only[go_sem,seval,hg2,h4',decide_false,lI hlwa,hgw,sa hlp3 hpw.symm,bG hl4,bW hpd,sa hld3 hdw.symm,hd2,jC,ar (show(P.waits.map V.str).length<=P.waits.length by simp)];repeat refine aI ?_
  refine cN (ng hE4 hP4.kt hP4.gt hPo.tm 3 N.D.now ah hnow) ac rfl (by simp[af,V.low,htm2]) hE4.sane ?_;rintro _ K5 H5 hC5 hl5 ⟨rfl,rfl,hH5⟩;simp -implicitDefEqProofs only[go_sem,seval];repeat refine aI ?_
  have hE5:=hE4.call hC5 fun r h=>by subst h;exact⟨rfl,rfl⟩
  have hP5:=hP4.timer hC5.off hP4.kt (T:=P.tm.ev 3 N.D.now) (by rw[hH5];exact bG (hE4.lt hP4.kt) _);have hD5:=hD4.off hC5.off ae ae ae ae;refine bA (wy hE5 hD5 hP5 hok ho.D aa) ac rfl (by simp[af,V.low,hE5.lt hP5.kp]) hE5.sane ?_;rintro _ K6 H6 hC6 hl6 ⟨rfl,hD6,hP6⟩;simp -implicitDefEqProofs only[go_sem,seval];obtain⟨r1,r2⟩:=fin (hE5.call hC6 fun _ h=>h) hD6 hP6;exact Ex.of r1 trivial ⟨rfl,r2⟩
end
end
end Go.Vm
end
