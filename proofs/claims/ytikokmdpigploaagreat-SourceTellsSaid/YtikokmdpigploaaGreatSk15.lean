/- Part 15. -/
import Derived.Test.YtikokmdpigploaaGreatSk14
namespace Go.Proofs.YtikokmdpigploaaGreat
set_option linter.all false
set_option maxRecDepth 100000
set_option maxHeartbeats 8000000
open Go.RowKit
open St1 St2 St3 St4 St5 St6 St7 St8 StA StB StC
structure ExI (a b:Int) (s:Int × Int):Prop where
 e:s.1*b+s.2=(a.natAbs:Int)
 o:0<=s.1
 r:0<=s.2
def ExI.bd {a b:Int} {s:Int × Int} (h:ExI a b s) (hb:0<b):bl s.1<=bl a∧bl s.2<=bl a:=by
 have h1:=h.o;have h2:=h.r;have h3:=h.e;have h4:s.1*1<=s.1*b:=lbV om h1;exact ⟨a4e om,a4e om⟩
def ExI.fin {a b:Int} {s:Int × Int} (h:ExI a b s) (hb:0<b) (hd:b ∣ a) (hlt:s.2<b):a.sign*s.1=a / b:=by
 have h2:=h.r;have h3:=h.e;obtain ⟨k,rfl⟩:=hd;have e0:s.2=0:=by
  have hk:b ∣ ((b*k).natAbs:Int):=Int.dvd_natAbs.2 ⟨k,rfl⟩;obtain ⟨j,hj⟩:=hk;have:s.2=b*(j - s.1):=by rw [Int.mul_sub,←hj,←h3,a6T b s.1];omega
  apply lb8;intro hn;have hp:0<j - s.1:=by
   apply lb8;intro hc;have:b*(j - s.1)<=b*0:=lbV om om;omega
  have:b*1<=b*(j - s.1):=lbV om om;omega
 rw [aK3 _ (by omega:b≠0)];have e1:s.1*b=(b.natAbs:Int)*(k.natAbs:Int):=by rw [e0,a8Q] at h3;rw [h3,a2x];push_cast;rfl
 have e2:s.1=(k.natAbs:Int):=by
  have hbn:(b.natAbs:Int)=b:=om;rw [hbn,a6T] at e1;exact Int.eq_of_mul_eq_mul_left om e1
 rw [e2,Int.sign_mul,O5 hb,a1l];exact ar7 k
def bn4 {a o:Int}:(⟨(bz o).sg*(bz a).sg,(bz o).dl⟩:Bg)=bz (a.sign*o)∨a=0:=by
 by_cases h:a=0
 ·exact .inr h
 ·left
  rcases b0o h with h|h
  ·rw [a1n h];show Bg.mk (o.sign*a.sign) (dg o.natAbs)=Bg.mk ((-1*o).sign) (dg (-1*o).natAbs);rw [a1n h,show (-1:Int)*o=-o by omega,Int.sign_neg,a2W,show o.sign*-1=-o.sign by omega]
  ·rw [O5 h];show Bg.mk (o.sign*a.sign) (dg o.natAbs)=Bg.mk ((1*o).sign) (dg (1*o).natAbs);rw [O5 h,a1l,am5]
def bq7 (a:Int):(⟨(bz a).sg*(bz a).sg,(bz a).dl⟩:Bg)=bz (a.natAbs:Int):=by
 show Bg.mk (a.sign*a.sign) (dg a.natAbs)=Bg.mk (((a.natAbs:Nat):Int).sign) (dg ((a.natAbs:Nat):Int).natAbs);rcases a3a a 0 with h|h|h
 ·rw [a1n h,O5 om];rfl
 ·subst h;rfl
 ·rw [O5 h,O5 om];rfl
def aH2 (a b:Int) (hb:0<b) (hd:b ∣ a) (la:bl a<=60000) (lb:bl b<=60000):ec 319 [bgS (bz a),bgS (bz b)] [] (bgS (bz (a / b))) []:=by
 have hsq:=bq7 a;have hs:=C4 a;have hsg:(bz a).sg=a.sign:=rfl;have hss:0<=(bz a).sg*(bz a).sg∧(bz a).sg*(bz a).sg<=1:=by
  rw [hsg];rcases hs with ⟨h,_⟩|⟨h,_⟩|⟨h,_⟩<;>rw [h]<;>decide
 (refine ac Tryz.func319 ?_;(conv=>whnf);repeat ((first|refine b0x ?_|refine zy ?_);conv=>whnf))
 repeat' (first|refine zx ?_|apply zD<;>intro h<;>try omega)<;>conv=>whnf
 all_goals try omega
 refine p9 d7 (σ:=Int × Int) (fun s=>([J,J,S.c (C.t (T.ptr [ti (bz a).sg,x6 (bz a).dl])),S.c (C.t (T.ptr [ti (bz b).sg,x6 (bz b).dl])),sP 0 0 0,sP 1 0 0,sP 2 0 0]++Jn 31,[a5k,bgX s.2,bgX s.1])) (ExI a b) (fun s=>s.2.natAbs) (0,(a.natAbs:Int)) [some 0,some 1,some 2]
  ⟨zq,zq,om⟩ ⟨rfl,rfl,⟨⟨rfl,rfl,rfl,.inl ⟨rfl,R8⟩⟩,⟨rfl,rfl,rfl,.inl ⟨?_,?_⟩⟩,⟨rfl,rfl,rfl,.inr rz⟩,trivial⟩,rz⟩ ?_
 ·show [[C.t (ti ((bz a).sg*(bz a).sg)),C.t (x6 (bz a).dl)]]=[bgC (bz (a.natAbs:Int))];rw [← hsq]
 ·exact i5 [[ti ((bz a).sg*(bz a).sg),x6 (bz a).dl]]
 rintro ⟨o,r⟩ hI;have hI:ExI a b (o,r):=hI;obtain ⟨bo,br⟩:=hI.bd hb;have bo:bl o<=bl a:=bo;have br:bl r<=bl a:=br;have h1:o*b+r=(a.natAbs:Int):=hI.e;have h2:0<=o:=hI.o;have h3:0<=r:=hI.r;have hso:-1<=(bz o).sg*(bz a).sg∧(bz o).sg*(bz a).sg<=1:=by
  rw [hsg,a7N];rcases hs with ⟨h,_⟩|⟨h,_⟩|⟨h,_⟩<;>rcases C4 o with ⟨h',_⟩|⟨h',_⟩|⟨h',_⟩<;>rw [h,h']<;>decide
 have cm:=a8F r b om om;by_cases hlt:r<b
 ·have hf:=hI.fin hb hd hlt;have hf:a.sign*o=a / b:=hf;rw [show M3 r b=-1 by unfold M3;rw [if_pos hlt]] at cm;conv=>whnf
  repeat' (first|refine zx ?_|refine ⟨_,a2O (show _<=(bz o).sg*(bz a).sg from by omega) (show (bz o).sg*(bz a).sg<=_ from by omega),?_⟩|apply zD<;>intro h<;>try omega)<;>conv=>whnf
  all_goals first|omega|skip
  refine m9 ?_;rcases bn4 (a:=a) (o:=o) with e|e
  ·rw [hf] at e;rw [← e];exact rz
  ·have:o=0:=by
    subst e;have:=lbZ h2 (show 0<=b by omega);have e0:o*b=0:=by simp at h1;omega
    rcases Int.mul_eq_zero.1 e0 with h|h<;>omega
   subst this e;rw [← hf];exact rz
 ·obtain ⟨q,q0,q1,gu⟩:=b4h r b hb om om;have hc:0<=M3 r b:=by unfold M3;rw [if_neg hlt];split<;>decide
  have bq:bl q<=bl a:=by
   have:q*1<=q*b:=lbV om om;have:=lbZ h2 (show 0<=b by omega);exact a4e om
  have lm:=C8 q b;have ad:=bu5 o q om om;have mu:=af9 q b om om;have su:=b9Z r (q*b) om om;conv=>whnf
  repeat' (first|refine zx ?_|apply zD<;>intro h<;>try omega)<;>conv=>whnf
  all_goals first|omega|skip
  have hqb:0<q*b:=a9p q0 hb;exact ⟨[some 0,some 1,some 2],(o+q,r - q*b),⟨rfl,rfl,⟨⟨rfl,rfl,rfl,.inl ⟨rfl,R8⟩⟩,⟨rfl,rfl,rfl,.inl ⟨rfl,b6K _⟩⟩,⟨rfl,rfl,rfl,.inl ⟨rfl,b6K _⟩⟩,trivial⟩,rz⟩,⟨by show (o+q)*b+(r - q*b)=_;rw [Int.add_mul];omega,by show 0<=o+q;omega,by show 0<=r - q*b;omega⟩,by show (r - q*b).natAbs<r.natAbs;omega⟩
def b9V (x y:Int):bl (x - y)<=max (bl x) (bl y)+1:=by
 have:=a7k x (-y);rw [U3] at this;rw [a9c];exact this
def bj4 (m n q:Nat) (fr:LB) (sc:LI) (D:Int) (V G:Nat->Int) (O F:Nat->Nat) (A:Nat->Nat->Int) (a p b c:Int) (hD:0<D) (hdv:D ∣ a*p - b*c) (la:bl a<=1000) (lp:bl p<=1000) (lb:bl b<=1000) (lc:bl c<=1000) (lD:bl D<=1000):
 ec 320 [.c (.ptr 0 0 0),bgS (bz a),bgS (bz p),bgS (bz b),bgS (bz c)] (G1 m n q fr sc D V G O F A []) (bgS (bz ((a*p - b*c) / D))) (G1 m n q fr sc D V G O F A []):=by
 have e1:=C8 a p;have e2:=C8 b c;have e3:=b9V (a*p) (b*c);have m1:=af9 a p om om;have m2:=af9 b c om om;have s1:=b9Z (a*p) (b*c) om om;have ex:=aH2 (a*p - b*c) D hD hdv om om;refine ac Tryz.func320 ?_;conv=>whnf
 repeat' (first|refine zz ?_|refine qp m1 ?_|refine qp m2 ?_|refine qp s1 ?_|refine qp ex ?_|refine b0x ?_|refine f9 (d8 _ _ _) ?_|refine f5 ?_|refine o5 (d8 _ _ _) ?_|refine x5 (d8 _ _ _) ?_|apply zD<;>intro<;>try omega|refine zy ?_|fail)<;>conv=>whnf
 all_goals
  refine a54 (m:=m) (n:=n) (q:=q) (fr:=fr) (sc:=sc) (D:=D) (V:=V) (G:=G) (O:=O) (F:=F) (A:=A) (T:=[_]) rfl rfl (by simp [d8]) ?_;exact rz
def aK0 {m n q:Nat} {fr:LB} {sc:LI} {D:Int} {V G:Nat->Int} {O F:Nat->Nat} {A:Nat->Nat->Int} {a p b c:Int} (T:Hp) (hD:0<D) (hdv:D ∣ a*p - b*c) (la:bl a<=1000) (lp:bl p<=1000) (lb:bl b<=1000) (lc:bl c<=1000) (lD:bl D<=1000):
 ec 320 [.c (.ptr 0 0 0),bgS (bz a),bgS (bz p),bgS (bz b),bgS (bz c)] (G1 m n q fr sc D V G O F A T) (bgS (bz ((a*p - b*c) / D))) (G1 m n q fr sc D V G O F A T):=by
 have e:G1 m n q fr sc D V G O F A T=G1 m n q fr sc D V G O F A []++T:=a3E (T:=[]) (T':=T);rw [e];exact a2H (n:=m+9) T (bj4 m n q fr sc D V G O F A a p b c hD hdv la lp lb lc lD) V7 V7 (by simp [okS,okC,okL,c9,bgS,bgC,a0j]) (fun k hk=>⟨(a0E k hk).1,(a0E k hk).2,a4d (lbQ _) zq k hk⟩) (fun k hk=>⟨(by rw [(a0E k hk).1];intro h;cases h),a4d (lbQ _) zq k hk⟩) rfl rfl
def a0w {n i j:Nat} {g:Nat->Int} {y:Int} (e:i=j) (h:j<n):y6 (zlB (zF n g)) ((zlB (zF n g)).rows.set i (bgC (bz y)))=zlB (zF n fun k=>if k=j then y else g k):=by
 subst e;have:=b86 (row:=zF n g) (y:=y) (rfl:i=i);rw [bh7 h] at this;exact this
def b4e (Z:Zd):Zd:=⟨fun i=>-(Z.V i),fun i j=>-(Z.A i j),fun j=>-(Z.C j),-Z.D,Z.O,Z.F⟩
def bi3 (m n:Nat) (fr:LB) (sc:LI) (Z:Zd) (hm:m<=100000) (hn:n<=1000) (hB:ZB m n 1000 Z):
 ec 321 [.c (.ptr 0 0 0)] (J3 m n fr sc Z []) (.tup []) (J3 m n fr sc (b4e Z) []):=by
 have nd:=a57 Z.D (by have:=hB.d;omega);refine ac Tryz.func321 ?_;conv=>whnf
 repeat' (first|refine zx ?_|refine f9 (d8 _ _ _) ?_|refine f5 ?_|refine bl0 [0] ?_|apply zD<;>intro<;>try omega)<;>conv=>whnf
 refine j3 d7 (fun i=>([sP 0 0 0,J,eI i]++Jn 85,G1 m n n fr sc (-Z.D) (tv Z.V i) Z.C Z.O Z.F (ta n Z.A i 0) [])) m tT (idR (m+9)) trivial ?_ ?_
 ·exact p8 (T:=[]) (T':=[]) (H6 rfl (by rw [ad2]) rfl rfl rfl rfl rfl rfl rfl (by rw [b7X];rfl)) rfl (by simp [d8]) zq ⟨⟨g9 om,rz⟩,e7 rfl,trivial⟩
 intro i hi _;by_cases hlt:i<m
 ·have ni:=a57 (Z.V i) (by have:=hB.v i hlt;omega);have eIq:0+(i:Int).toNat=i:=om;have gv:(zF m (tv Z.V i))[0+(i:Int).toNat]? =some (Z.V i):=by rw [eIq,P5 hlt,b4E]
  conv=>whnf
  repeat' (first|refine zx ?_|refine f9 (d8 _ _ _) ?_|refine f5 ?_|refine a1w gv ?_|refine bl0 [0,1,2,3,4] ?_|apply zD<;>intro<;>try omega)<;>conv=>whnf
  all_goals try omega
  refine j3 d7 (fun j=>([sP 0 0 0,J,eI i,eI j]++Jn 84,G1 m n n fr sc (-Z.D) (tv Z.V (i+1)) Z.C Z.O Z.F (ta n Z.A i j) [])) n tT (idR (m+9)) trivial ?_ ?_
  ·exact p8 (T:=[]) (T':=[]) (H6 rfl ((a0w eIq hlt).trans (by rw [aM4])) rfl rfl rfl rfl rfl rfl rfl rfl) rfl (by simp [d8]) zq ⟨⟨g9 om,rz⟩,rfl,e7 rfl,trivial⟩
  intro j hj _;have gA:(mZ m n (ta n Z.A i j))[i]? =some (zF n (tv (Z.A i) j)):=by rw [X9 hlt,bb4]
  by_cases hjl:j<n
  ·have nj:=a57 (Z.A i j) (by have:=hB.a i hlt j hjl;omega);have eJ:0+(j:Int).toNat=j:=om;have gj:(zF n (tv (Z.A i) j))[0+(j:Int).toNat]? =some (Z.A i j):=by rw [eJ,P5 hjl,b4E]
   have lA:i<(mZ m n (ta n Z.A i j)).length:=by rw [d8];exact hlt
   conv=>whnf
   repeat' (first|refine zx ?_|refine f9 (d8 _ _ _) ?_|refine f5 ?_|refine aa2 eIq hlt ?_|refine F9 gA ?_|refine a1w gj ?_|refine a1G lA (a0w eJ hjl) ?_|refine bl0 [0,1,2,3,4,5,6,7] ?_|apply zD<;>intro<;>try omega)<;>conv=>whnf
   all_goals first|omega|exact ⟨hjl,trivial,idR (m+9),p8 (T:=[]) (T':=[]) (H6 rfl rfl rfl rfl rfl rfl rfl rfl rfl (by rw [aM4,b2L hlt (b9v n Z.A i j)];rfl)) rfl (by simp [d8]) zq ⟨⟨g9 om,rz⟩,rfl,e7 om,trivial⟩⟩
  ·have hje:j=n:=by omega
   subst hje;conv=>whnf
   repeat' (first|refine zx ?_|refine f9 (d8 _ _ _) ?_|refine f5 ?_|apply zD<;>intro<;>try omega)<;>conv=>whnf
   all_goals first|omega|exact ⟨hlt,trivial,idR (m+9),p8 (T:=[]) (T':=[]) (H6 rfl rfl rfl rfl rfl rfl rfl rfl rfl (by rw [← be2];rfl)) rfl (by simp [d8]) zq ⟨⟨g9 om,rz⟩,e7 om,trivial⟩⟩
 ·have hie:i=m:=by omega
  subst hie;conv=>whnf
  repeat' (first|refine zx ?_|refine f9 (d8 _ _ _) ?_|refine f5 ?_|apply zD<;>intro<;>try omega)<;>conv=>whnf
  all_goals try omega
  refine j3 d7 (fun j=>([sP 0 0 0,J,J,J,eI j]++Jn 83,G1 i n n fr sc (-Z.D) (tv Z.V i) (tv Z.C j) Z.O Z.F (ta n Z.A i 0) [])) n tT (idR (i+9)) trivial ?_ ?_
  ·exact p8 (T:=[]) (T':=[]) (H6 rfl rfl rfl (by rw [ad2]) rfl rfl rfl rfl rfl rfl) rfl (by simp [d8]) zq ⟨⟨g9 om,rz⟩,e7 rfl,trivial⟩
  intro j hj _;by_cases hjl:j<n
  ·have nj:=a57 (Z.C j) (by have:=hB.c j hjl;omega);have eJ:0+(j:Int).toNat=j:=om;have gj:(zF n (tv Z.C j))[0+(j:Int).toNat]? =some (Z.C j):=by rw [eJ,P5 hjl,b4E]
   conv=>whnf
   repeat' (first|refine zx ?_|refine f9 (d8 _ _ _) ?_|refine f5 ?_|refine a1w gj ?_|refine bl0 [0,1,2,3,4] ?_|apply zD<;>intro<;>try omega)<;>conv=>whnf
   all_goals first|omega|exact ⟨hjl,trivial,idR (i+9),p8 (T:=[]) (T':=[]) (H6 rfl rfl rfl ((a0w eJ hjl).trans (by rw [aM4])) rfl rfl rfl rfl rfl rfl) rfl (by simp [d8]) zq ⟨⟨g9 om,rz⟩,e7 om,trivial⟩⟩
  ·have hje:j=n:=by omega
   subst hje;have eA:mZ i j (ta j Z.A i 0)=mZ i j (b4e Z).A:=a84 fun a ha b hb=>bn8 ha hb
   have eV:zF i (tv Z.V i)=zF i (b4e Z).V:=a2k fun a ha=>b0k ha
   have eC:zF j (tv Z.C j)=zF j (b4e Z).C:=a2k fun a ha=>b0k ha
   have e0:G1 i j j fr sc (-Z.D) (tv Z.V i) (tv Z.C j) Z.O Z.F (ta j Z.A i 0) []=J3 i j fr sc (b4e Z) []:=H6 rfl (by rw [eV]) rfl (by rw [eC]) rfl rfl rfl rfl rfl (by rw [eA]);conv=>whnf
   repeat' (first|refine zx ?_|refine f9 (d8 _ _ _) ?_|refine f5 ?_|apply zD<;>intro<;>try omega)<;>conv=>whnf
   all_goals first|omega|(rw [← e0];exact a54 (T:=[]) rfl rfl (by simp [d8]) trivial)
def a3S {N:Nat} {z:Int}:okB N (bgX z):=u0 (rows:=[[ti (bz z).sg,x6 (bz z).dl]]) rfl
def ok1 {N:Nat} {z:Int}:∀k ∈ [bgX z],okB N k:=by intro k hk;simp at hk;subst hk;exact a3S
def ok2 {N:Nat} {z y:Int}:∀k ∈ [bgX z,bgX y],okB N k:=by intro k hk;simp at hk;rcases hk with rfl|rfl<;>exact a3S
def aK6 (m n:Nat) (fr:List (Nat × Bool)) (sc:List Int) (Z:Zd) (r s:Nat) (hm:m<=100000) (hn:n<=1000) (hr:r<m) (hs:s<n) (hd:0<Z.D) (hA:Z.A r s≠0) (hB:ZB m n 1000 Z) (hB':ZB m n 1000 (Z.exch r s)) (hdv:bj6 m n Z r s):
 d6 Tryz.prog 283 [.c (.ptr 0 0 0),c9 .i64 r,c9 .i64 s] (J3 m n fr sc Z []) (.tup []) (J3 m n fr sc (Z.exch r s) []):=by
 have eR:0+(r:Int).toNat=r:=om
 have eS:0+(s:Int).toNat=s:=om
 have bp:=hB.a r hr s hs
 have bd:=hB.d
 have gA:(mZ m n Z.A)[r]? =some (zF n (Z.A r)):=X9 hr
 have e1V:∀i,i<m->bl (Z.exV r s i)<=1000:=fun i hi=>by
  have h:=hB'.v i hi
  have e:(Z.exch r s).V i=if Z.A r s<0 then -(Z.exV r s i) else Z.exV r s i:=rfl
  rw [e] at h
  split at h
  ·rwa [U3] at h
  ·exact h
 have e1A:∀i,i<m->∀j,j<n->bl (Z.exA r s i j)<=1000:=fun i hi j hj=>by
  have h:=hB'.a i hi j hj
  have e:(Z.exch r s).A i j=if Z.A r s<0 then -(Z.exA r s i j) else Z.exA r s i j:=rfl
  rw [e] at h
  split at h
  ·rwa [U3] at h
  ·exact h
 have e1C:∀j,j<n->bl (Z.exC r s j)<=1000:=fun j hj=>by
  have h:=hB'.c j hj
  have e:(Z.exch r s).C j=if Z.A r s<0 then -(Z.exC r s j) else Z.exC r s j:=rfl
  rw [e] at h
  split at h
  ·rwa [U3] at h
  ·exact h
 have bcs:=hB.c s hs
 have gAm:(mZ m n (AE Z r s m))[r]? =some (zF n (Z.A r)):=by rw [X9 hr,b9h]
 have lAm:r<(mZ m n (AE Z r s m)).length:=by rw [d8];exact hr
 (refine M9 d7 Tryz.func283 rfl de ?_;refine u3 d7 ?_;(conv=>whnf);repeat ((first|refine b0x ?_|refine zy ?_);conv=>whnf))
 repeat' (first|refine zx ?_|refine f9 (d8 _ _ _) ?_|refine f5 ?_|refine aa2 eR hr ?_|refine bb1 eS hs ?_|refine F9 gA ?_|refine o5 (d8 _ _ _) ?_|refine x5 (d8 _ _ _) ?_|refine zd ?_ ?_<;>intro h<;>try omega|fail)<;>conv=>whnf
 refine u7 d7 ([S.c (C.ptr 0 0 0),c9 .i64 r,c9 .i64 s,J,J,J,S.c (C.ptr (m+9) 0 0)]++Jn 221) (G1 m n n fr sc Z.D (VE Z r s m) Z.C Z.O Z.F (AE Z r s m) [bgX (Z.A r s)]) ?_ ?_
 ·conv=>whnf
  repeat' (first|refine zx ?_|refine f9 (d8 _ _ _) ?_|refine f5 ?_|refine zd ?_ ?_<;>intro h<;>try omega|fail)<;>conv=>whnf
  refine j3 d7 (fun i=>([S.c (C.ptr 0 0 0),c9 .i64 r,c9 .i64 s,J,J,J,S.c (C.ptr (m+9) 0 0),c9 .i64 i]++Jn 220,G1 m n n fr sc Z.D (VE Z r s i) Z.C Z.O Z.F (AE Z r s i) [bgX (Z.A r s)])) m (fun _=>True) (idR (m+10)) trivial ?_ ?_
  ·exact p8 (T:=[_]) (T':=[]) (H6 rfl (by rw [b9A]) rfl rfl rfl rfl rfl rfl rfl (by rw [b9k];rfl)) rfl (by simp [d8]) ok1 ⟨⟨g9 om,rfl,rfl⟩,rfl,rfl,⟨g9 om,rfl,rfl⟩,e7 rfl,trivial⟩
  intro i hi _
  by_cases hlt:i<m
  ·by_cases hir:i=r
   ·subst hir
    conv=>whnf
    repeat' (first|refine zx ?_|refine f9 (d8 _ _ _) ?_|refine f5 ?_|refine zd ?_ ?_<;>intro h<;>try omega|fail)<;>conv=>whnf
    all_goals first
     |omega
     |exact ⟨hlt,trivial,idR (m+10),p8 (T:=[_]) (T':=[]) (H6 rfl (by rw [← b96]) rfl rfl rfl rfl rfl rfl rfl (by rw [← b9Y];rfl)) rfl (by simp [d8]) ok1 ⟨⟨g9 om,rfl,rfl⟩,rfl,rfl,⟨g9 om,rfl,rfl⟩,e7 om,trivial⟩⟩
   ·have gAi:(mZ m n (AE Z r s i))[i]? =some (zF n (Z.A i)):=by rw [X9 hlt,bc2]
    have eIq:0+(i:Int).toNat=i:=om
    have gv:(zF m (VE Z r s i))[0+(i:Int).toNat]? =some (Z.V i):=by rw [eIq,P5 hlt,bq0]
    have gvr:(zF m (VE Z r s i))[0+(r:Int).toNat]? =some (Z.V r):=by rw [eR,P5 hr,bw8]
    have bi:=hB.v i hlt
    have br:=hB.v r hr
    have bis:=hB.a i hlt s hs
    have n1:=fun T=>aK0 (m:=m) (n:=n) (q:=n) (fr:=fr) (sc:=sc) (V:=VE Z r s i) (G:=Z.C) (O:=Z.O) (F:=Z.F) (A:=AE Z r s i) T hd (hdv.v i hlt hir) bi bp bis br bd
    conv=>whnf
    repeat' (first|refine zx ?_|refine .inr ⟨_,_,n1 _,?_⟩|refine f9 (d8 _ _ _) ?_|refine f5 ?_|refine aa2 eIq hlt ?_|refine bb1 eS hs ?_|refine a1w gv ?_|refine a1w gvr ?_|refine F9 gAi ?_|refine o5 (d8 _ _ _) ?_|refine g8 (t:=1) (d8 _ _ _) ?_|refine x5 (d8 _ _ _) ?_|refine i7 (t:=1) (d8 _ _ _) ?_|refine bl0 [0,1,2,3,4] ?_|refine zd ?_ ?_<;>intro h<;>try omega|fail)<;>conv=>whnf
    all_goals try omega
    refine j3 d7 (fun j=>([S.c (C.ptr 0 0 0),c9 .i64 r,c9 .i64 s,J,J,J,S.c (C.ptr (m+9) 0 0),c9 .i64 i,S.c (C.ptr (m+10) 0 0),c9 .i64 j]++Jn 218,G1 m n n fr sc Z.D (VE Z r s (i+1)) Z.C Z.O Z.F (AI Z r s i j) [bgX (Z.A r s),bgX (Z.A i s)])) n (fun _=>True) (idR (m+11)) trivial ?_ ?_
    ·exact p8 (T:=[_,_]) (T':=[]) (H6 rfl ((a0w eIq hlt).trans (by rw [← b9a hir];rfl)) rfl rfl rfl rfl rfl rfl rfl (by rw [b8v];rfl)) rfl (by simp [d8]) ok2 ⟨⟨g9 om,rfl,rfl⟩,rfl,rfl,⟨g9 om,rfl,rfl⟩,rfl,⟨g9 om,rfl,rfl⟩,e7 rfl,trivial⟩
    intro j hj _
    have gAi:(mZ m n (AI Z r s i j))[i]? =some (zF n (exr Z r s i j)):=by rw [X9 hlt,b1Q]
    have gAr:(mZ m n (AI Z r s i j))[r]? =some (zF n (Z.A r)):=by rw [X9 hr,bv6 hir]
    have lA:i<(mZ m n (AI Z r s i j)).length:=by rw [d8];exact hlt
    by_cases hjl:j<n
    ·by_cases hjs:j=s
     ·subst hjs
      conv=>whnf
      repeat' (first|refine zx ?_|refine f9 (d8 _ _ _) ?_|refine f5 ?_|refine zd ?_ ?_<;>intro h<;>try omega|fail)<;>conv=>whnf
      all_goals first
       |omega
       |exact ⟨hjl,trivial,idR (m+11),p8 (T:=[_,_]) (T':=[]) (H6 rfl rfl rfl rfl rfl rfl rfl rfl rfl (by rw [← b8W];rfl)) rfl (by simp [d8]) ok2 ⟨⟨g9 om,rfl,rfl⟩,rfl,rfl,⟨g9 om,rfl,rfl⟩,rfl,⟨g9 om,rfl,rfl⟩,e7 om,trivial⟩⟩
     ·have eJ:0+(j:Int).toNat=j:=by omega
      have gi:(zF n (exr Z r s i j))[0+(j:Int).toNat]? =some (Z.A i j):=by
       rw [eJ,P5 hjl];unfold exr;rw [if_neg om]
      have grj:(zF n (Z.A r))[0+(j:Int).toNat]? =some (Z.A r j):=by rw [eJ,P5 hjl]
      have bij:=hB.a i hlt j hjl
      have brj:=hB.a r hr j hjl
      have n2:=fun T=>aK0 (m:=m) (n:=n) (q:=n) (fr:=fr) (sc:=sc) (V:=VE Z r s (i+1)) (G:=Z.C) (O:=Z.O) (F:=Z.F) (A:=AI Z r s i j) T hd (hdv.a i hlt hir j hjl hjs) bij bp bis brj bd
      have ex:(fun k=>if k=j then (Z.A i j*Z.A r s - Z.A i s*Z.A r j) / Z.D else exr Z r s i j k)=exr Z r s i (j+1):=b6a hjs
      conv=>whnf
      repeat' (first|refine zx ?_|refine .inr ⟨_,_,n2 _,?_⟩|refine f9 (d8 _ _ _) ?_|refine f5 ?_|refine aa2 eIq hlt ?_|refine aa2 eR hr ?_|refine a1w gi ?_|refine a1w grj ?_|refine F9 gAi ?_|refine F9 gAr ?_|refine o5 (d8 _ _ _) ?_|refine g8 (t:=1) (d8 _ _ _) ?_|refine a1G lA (a0w (g:=exr Z r s i j) eJ hjl) ?_|refine bl0 [0,1,2,3,4,5,6,7] ?_|refine zd ?_ ?_<;>intro h<;>try omega|fail)<;>conv=>whnf
      all_goals first
       |omega
       |exact ⟨hjl,trivial,idR (m+11),p8 (T:=[_,_]) (T':=[]) (H6 rfl rfl rfl rfl rfl rfl rfl rfl rfl (by rw [ex,b2L hlt b9B];rfl)) rfl (by simp [d8]) ok2 ⟨⟨g9 om,rfl,rfl⟩,rfl,rfl,⟨g9 om,rfl,rfl⟩,rfl,⟨g9 om,rfl,rfl⟩,e7 om,trivial⟩⟩
    ·have hje:j=n:=by omega
     subst hje
     have ng:=a57 (Z.A i s) om
     have gi:(zF j (exr Z r s i j))[0+(s:Int).toNat]? =some (Z.A i s):=by
      rw [eS,P5 hs];unfold exr;rw [if_neg om]
     have eA:(mZ m j (AI Z r s i j)).set i (zF j fun k=>if k=s then -(Z.A i s) else exr Z r s i j k)=mZ m j (AE Z r s (i+1)):=by
      rw [b0C hlt]
      exact a84 fun k hk l hl=>by
       have:=bj0 (Z:=Z) (r:=r) (s:=s) (i:=i) (n:=j) hir (k:=k) hl
       rw [← this,b1Q]
       split<;>rfl
     conv=>whnf
     repeat' (first|refine zx ?_|refine qp ng ?_|refine f9 (d8 _ _ _) ?_|refine f5 ?_|refine aa2 eIq hlt ?_|refine a1w gi ?_|refine F9 gAi ?_|refine o5 (d8 _ _ _) ?_|refine g8 (t:=1) (d8 _ _ _) ?_|refine a1G lA (a0w (g:=exr Z r s i j) eS hs) ?_|refine bl0 [0,1,2,3,4,5,6,7] ?_|refine zd ?_ ?_<;>intro h<;>try omega|fail)<;>conv=>whnf
     all_goals first
      |omega
      |exact ⟨hlt,trivial,idR (m+10),p8 (T:=[_]) (T':=[_]) (H6 rfl rfl rfl rfl rfl rfl rfl rfl rfl (by rw [eA];rfl)) rfl (by simp [d8]) ok1 ⟨⟨g9 om,rfl,rfl⟩,rfl,rfl,⟨g9 om,rfl,rfl⟩,e7 om,trivial⟩⟩
  ·have hie:i=m:=by omega
   subst hie
   conv=>whnf
   repeat' (first|refine zx ?_|refine f9 (d8 _ _ _) ?_|refine f5 ?_|refine o5 (d8 _ _ _) ?_|refine g8 (t:=1) (d8 _ _ _) ?_|refine x5 (d8 _ _ _) ?_|refine i7 (t:=1) (d8 _ _ _) ?_|refine zd ?_ ?_<;>intro h<;>try omega|fail)<;>conv=>whnf
   all_goals first
    |omega
    |exact ⟨idR (i+10),p8 (T:=[_]) (T':=[]) rfl rfl (by simp [d8]) ok1 ⟨⟨g9 om,rfl,rfl⟩,rfl,rfl,⟨g9 om,rfl,rfl⟩,trivial⟩⟩
 have gcs:(zF n Z.C)[0+(s:Int).toNat]? =some (Z.C s):=by rw [eS,P5 hs]
 refine u7 d7 ([S.c (C.ptr 0 0 0),c9 .i64 r,c9 .i64 s,J,J,J,S.c (C.ptr (m+9) 0 0),J,J,J,S.c (C.ptr (m+10) 0 0)]++Jn 217) (G1 m n n fr sc Z.D (VE Z r s m) Z.C Z.O Z.F (AE Z r s m) [bgX (Z.A r s),bgX (Z.C s)]) ?_ ?_
 ·conv=>whnf
  repeat' (first|refine zx ?_|refine a1w gcs ?_|refine f9 (d8 _ _ _) ?_|refine f5 ?_|refine o5 (d8 _ _ _) ?_|refine g8 (t:=1) (d8 _ _ _) ?_|refine x5 (d8 _ _ _) ?_|refine i7 (t:=1) (d8 _ _ _) ?_|refine zd ?_ ?_<;>intro h<;>try omega|fail)<;>conv=>whnf
  all_goals exact ⟨idR (m+11),p8 (T:=[_,_]) (T':=[]) rfl rfl (by simp [d8]) ok2 ⟨⟨g9 om,rfl,rfl⟩,rfl,rfl,⟨g9 om,rfl,rfl⟩,⟨g9 om,rfl,rfl⟩,trivial⟩⟩
 refine u7 d7 ([S.c (C.ptr 0 0 0),c9 .i64 r,c9 .i64 s,J,J,J,S.c (C.ptr (m+9) 0 0),J,J,J,S.c (C.ptr (m+10) 0 0)]++Jn 217) (G1 m n n fr sc Z.D (VE Z r s m) (CE Z r s n) Z.O Z.F (AE Z r s m) [bgX (Z.A r s),bgX (Z.C s)]) ?_ ?_
 ·conv=>whnf
  repeat' (first|refine zx ?_|refine f9 (d8 _ _ _) ?_|refine f5 ?_|refine zd ?_ ?_<;>intro h<;>try omega|fail)<;>conv=>whnf
  refine j3 d7 (fun j=>([S.c (C.ptr 0 0 0),c9 .i64 r,c9 .i64 s,J,J,J,S.c (C.ptr (m+9) 0 0),J,J,J,S.c (C.ptr (m+10) 0 0),c9 .i64 j]++Jn 216,G1 m n n fr sc Z.D (VE Z r s m) (CE Z r s j) Z.O Z.F (AE Z r s m) [bgX (Z.A r s),bgX (Z.C s)])) n (fun _=>True) (idR (m+11)) trivial ?_ ?_
  ·exact p8 (T:=[_,_]) (T':=[]) (H6 rfl rfl rfl (by rw [b9R]) rfl rfl rfl rfl rfl rfl) rfl (by simp [d8]) ok2 ⟨⟨g9 om,rfl,rfl⟩,rfl,rfl,⟨g9 om,rfl,rfl⟩,⟨g9 om,rfl,rfl⟩,e7 rfl,trivial⟩
  intro j hj _
  by_cases hjl:j<n
  ·by_cases hjs:j=s
   ·subst hjs
    conv=>whnf
    repeat' (first|refine zx ?_|refine f9 (d8 _ _ _) ?_|refine f5 ?_|refine zd ?_ ?_<;>intro h<;>try omega|fail)<;>conv=>whnf
    all_goals first
     |omega
     |exact ⟨hjl,trivial,idR (m+11),p8 (T:=[_,_]) (T':=[]) (H6 rfl rfl rfl (by rw [← b8O]) rfl rfl rfl rfl rfl rfl) rfl (by simp [d8]) ok2 ⟨⟨g9 om,rfl,rfl⟩,rfl,rfl,⟨g9 om,rfl,rfl⟩,⟨g9 om,rfl,rfl⟩,e7 om,trivial⟩⟩
   ·have eJ:0+(j:Int).toNat=j:=by omega
    have gj:(zF n (CE Z r s j))[0+(j:Int).toNat]? =some (Z.C j):=by rw [eJ,P5 hjl,bu6]
    have grj:(zF n (Z.A r))[0+(j:Int).toNat]? =some (Z.A r j):=by rw [eJ,P5 hjl]
    have bj:=hB.c j hjl
    have brj:=hB.a r hr j hjl
    have n3:=fun T=>aK0 (m:=m) (n:=n) (q:=n) (fr:=fr) (sc:=sc) (V:=VE Z r s m) (G:=CE Z r s j) (O:=Z.O) (F:=Z.F) (A:=AE Z r s m) T hd (hdv.c j hjl hjs) bj bp bcs brj bd
    have ex:(fun k=>if k=j then (Z.C j*Z.A r s - Z.C s*Z.A r j) / Z.D else CE Z r s j k)=CE Z r s (j+1):=b9s hjs
    conv=>whnf
    repeat' (first|refine zx ?_|refine .inr ⟨_,_,n3 _,?_⟩|refine f9 (d8 _ _ _) ?_|refine f5 ?_|refine aa2 eR hr ?_|refine a1w gj ?_|refine a1w grj ?_|refine F9 gAm ?_|refine o5 (d8 _ _ _) ?_|refine g8 (t:=1) (d8 _ _ _) ?_|refine bl0 [0,1,2,3,4] ?_|refine zd ?_ ?_<;>intro h<;>try omega|fail)<;>conv=>whnf
    all_goals first
     |omega
     |exact ⟨hjl,trivial,idR (m+11),p8 (T:=[_,_]) (T':=[]) (H6 rfl rfl rfl ((a0w eJ hjl).trans (by rw [ex])) rfl rfl rfl rfl rfl rfl) rfl (by simp [d8]) ok2 ⟨⟨g9 om,rfl,rfl⟩,rfl,rfl,⟨g9 om,rfl,rfl⟩,⟨g9 om,rfl,rfl⟩,e7 om,trivial⟩⟩
  ·have hje:j=n:=by omega
   subst hje
   conv=>whnf
   repeat' (first|refine zx ?_|refine f9 (d8 _ _ _) ?_|refine f5 ?_|refine o5 (d8 _ _ _) ?_|refine g8 (t:=1) (d8 _ _ _) ?_|refine x5 (d8 _ _ _) ?_|refine i7 (t:=1) (d8 _ _ _) ?_|refine zd ?_ ?_<;>intro h<;>try omega|fail)<;>conv=>whnf
   all_goals first
    |omega
    |exact ⟨idR (m+11),p8 (T:=[_,_]) (T':=[]) rfl rfl (by simp [d8]) ok2 ⟨⟨g9 om,rfl,rfl⟩,rfl,rfl,⟨g9 om,rfl,rfl⟩,⟨g9 om,rfl,rfl⟩,trivial⟩⟩
 have ng:=a57 (Z.C s) om
 have gce:(zF n (CE Z r s n))[0+(s:Int).toNat]? =some (Z.C s):=by rw [eS,P5 hs,bv5]
 have eC:zF n (fun j=>if j=s then -(Z.C s) else CE Z r s n j)=zF n (Z.exC r s):=a2k fun j hj=>bl3 hj
 refine u7 d7 ([S.c (C.ptr 0 0 0),c9 .i64 r,c9 .i64 s,J,J,J,S.c (C.ptr (m+9) 0 0)]++Jn 221) (G1 m n n fr sc Z.D (VE Z r s m) (Z.exC r s) Z.O Z.F (AE Z r s m) [bgX (Z.A r s)]) ?_ ?_
 ·conv=>whnf
  repeat' (first|refine zx ?_|refine qp ng ?_|refine a1w gce ?_|refine f9 (d8 _ _ _) ?_|refine f5 ?_|refine o5 (d8 _ _ _) ?_|refine g8 (t:=1) (d8 _ _ _) ?_|refine x5 (d8 _ _ _) ?_|refine i7 (t:=1) (d8 _ _ _) ?_|refine bl0 [0,1,2,3,4] ?_|refine zd ?_ ?_<;>intro h<;>try omega|fail)<;>conv=>whnf
  all_goals exact ⟨idR (m+10),p8 (T:=[_]) (T':=[_]) (H6 rfl rfl rfl ((a0w eS hs).trans (by rw [eC])) rfl rfl rfl rfl rfl rfl) rfl (by simp [d8]) ok1 ⟨⟨g9 om,rfl,rfl⟩,rfl,rfl,⟨g9 om,rfl,rfl⟩,trivial⟩⟩
 have eA:(mZ m n (AE Z r s m)).set r (zF n fun k=>if k=s then Z.D else Z.A r k)=mZ m n (Z.exA r s):=by
  rw [b0C hr]
  exact a84 fun i hi j hj=>by
   have:=bm4 (Z:=Z) (r:=r) (s:=s) (j:=j) hi
   rw [← this,b9h]
   split<;>rfl
 have gAs:(zF n (Z.A r))[0+(s:Int).toNat]? =some (Z.A r s):=by rw [eS,P5 hs]
 have eV:zF m (VE Z r s m)=zF m (Z.exV r s):=a2k fun i hi=>bk6 hi
 refine u7 d7 ([S.c (C.ptr 0 0 0),c9 .i64 r,c9 .i64 s,J,J,J,S.c (C.ptr (m+9) 0 0)]++Jn 221) (G1 m n n fr sc Z.D (Z.exV r s) (Z.exC r s) Z.O Z.F (Z.exA r s) [bgX (Z.A r s)]) ?_ ?_
 ·conv=>whnf
  repeat' (first|refine zx ?_|refine aa2 eR hr ?_|refine a1w gAs ?_|refine F9 gAm ?_|refine a1G lAm (a0w (g:=Z.A r) eS hs) ?_|refine f9 (d8 _ _ _) ?_|refine f5 ?_|refine o5 (d8 _ _ _) ?_|refine g8 (t:=1) (d8 _ _ _) ?_|refine x5 (d8 _ _ _) ?_|refine i7 (t:=1) (d8 _ _ _) ?_|refine bl0 [0,1,2,3,4] ?_|refine zd ?_ ?_<;>intro h<;>try omega|fail)<;>conv=>whnf
  all_goals first
   |omega
   |exact ⟨idR (m+10),p8 (T:=[_]) (T':=[]) (H6 rfl (by rw [eV]) rfl rfl rfl rfl rfl rfl rfl (by rw [eA];rfl)) rfl (by simp [d8]) ok1 ⟨⟨g9 om,rfl,rfl⟩,rfl,rfl,⟨g9 om,rfl,rfl⟩,trivial⟩⟩
 refine u7 d7 ([S.c (C.ptr 0 0 0),c9 .i64 r,c9 .i64 s,J,J,J,S.c (C.ptr (m+9) 0 0)]++Jn 221) (J3 m n fr sc ⟨Z.exV r s,Z.exA r s,Z.exC r s,Z.A r s,Z.O,Z.F⟩ [bgX (Z.A r s)]) ?_ ?_
 ·conv=>whnf
  repeat' (first|refine zx ?_|refine f9 (d8 _ _ _) ?_|refine f5 ?_|refine o5 (d8 _ _ _) ?_|refine g8 (t:=1) (d8 _ _ _) ?_|refine x5 (d8 _ _ _) ?_|refine i7 (t:=1) (d8 _ _ _) ?_|refine zd ?_ ?_<;>intro h<;>try omega|fail)<;>conv=>whnf
  all_goals first
   |omega
   |exact ⟨idR (m+10),p8 (T:=[_]) (T':=[]) (H6 rfl rfl rfl rfl rfl rfl rfl rfl rfl rfl) rfl (by simp [d8]) ok1 ⟨⟨g9 om,rfl,rfl⟩,rfl,rfl,⟨g9 om,rfl,rfl⟩,trivial⟩⟩
 have hsg1:=aE5 (Z.A r s)
 have tu:=aA4 [bgX (Z.A r s)] (bi3 m n fr sc ⟨Z.exV r s,Z.exA r s,Z.exC r s,Z.A r s,Z.O,Z.F⟩ hm hn ⟨e1V,e1A,e1C,bp⟩) (by simp [okS,okC,okL,a0j]) rfl rfl
 refine u7 d7 ([S.c (C.ptr 0 0 0),c9 .i64 r,c9 .i64 s]++Jn 225) (J3 m n fr sc ⟨(Z.exch r s).V,(Z.exch r s).A,(Z.exch r s).C,(Z.exch r s).D,Z.O,Z.F⟩ []) ?_ ?_
 ·by_cases hng:Z.A r s<0
  ·have eZ:∀T,J3 m n fr sc (b4e ⟨Z.exV r s,Z.exA r s,Z.exC r s,Z.A r s,Z.O,Z.F⟩) T=J3 m n fr sc ⟨(Z.exch r s).V,(Z.exch r s).A,(Z.exch r s).C,(Z.exch r s).D,Z.O,Z.F⟩ T:=fun T=>a6l ⟨fun i hi=>(if_pos hng).symm,fun i hi j hj=>(if_pos hng).symm,fun j hj=>(if_pos hng).symm,(if_pos hng).symm,rfl,rfl⟩
   conv=>whnf
   repeat' (first|refine zx ?_|refine .inr ⟨_,_,tu,?_⟩|refine f9 (d8 _ _ _) ?_|refine f5 ?_|refine o5 (d8 _ _ _) ?_|refine g8 (t:=1) (d8 _ _ _) ?_|refine x5 (d8 _ _ _) ?_|refine i7 (t:=1) (d8 _ _ _) ?_|refine zd ?_ ?_<;>intro h<;>try omega|fail)<;>conv=>whnf
   all_goals first
    |omega
    |exact ⟨idR (m+9),p8 (T:=[]) (T':=[_]) (eZ _) rfl (by simp [d8]) zq ⟨⟨g9 om,rfl,rfl⟩,rfl,rfl,trivial⟩⟩
  ·have eZ:∀T,J3 m n fr sc ⟨Z.exV r s,Z.exA r s,Z.exC r s,Z.A r s,Z.O,Z.F⟩ T=J3 m n fr sc ⟨(Z.exch r s).V,(Z.exch r s).A,(Z.exch r s).C,(Z.exch r s).D,Z.O,Z.F⟩ T:=fun T=>a6l ⟨fun i hi=>(if_neg hng).symm,fun i hi j hj=>(if_neg hng).symm,fun j hj=>(if_neg hng).symm,(if_neg hng).symm,rfl,rfl⟩
   conv=>whnf
   repeat' (first|refine zx ?_|refine f9 (d8 _ _ _) ?_|refine f5 ?_|refine o5 (d8 _ _ _) ?_|refine g8 (t:=1) (d8 _ _ _) ?_|refine x5 (d8 _ _ _) ?_|refine i7 (t:=1) (d8 _ _ _) ?_|refine zd ?_ ?_<;>intro h<;>try omega|fail)<;>conv=>whnf
   all_goals first
    |omega
    |exact ⟨idR (m+9),p8 (T:=[]) (T':=[_]) (eZ _) rfl (by simp [d8]) zq ⟨⟨g9 om,rfl,rfl⟩,rfl,rfl,trivial⟩⟩
 have e0:J3 m n fr sc (Z.exch r s) []=G1 m n n fr sc (Z.exch r s).D (Z.exch r s).V (Z.exch r s).C (fun i=>if i=r then Z.F s else Z.O i) (fun j=>if j=s then Z.O r else Z.F j) (Z.exch r s).A []:=rfl
 refine p5 d7 _ ?_
 conv=>whnf
 repeat' (first|refine zx ?_|refine M5 eR hr ?_|refine M5 eS hs ?_|refine f9 (d8 _ _ _) ?_|refine f5 ?_|refine o5 (d8 _ _ _) ?_|refine g8 (t:=1) (d8 _ _ _) ?_|refine x5 (d8 _ _ _) ?_|refine i7 (t:=1) (d8 _ _ _) ?_|refine bl0 [9] ?_|refine zd ?_ ?_<;>intro h<;>try omega|fail)<;>conv=>whnf
 all_goals first
  |omega
  |(rw [e0];exact a54 (T:=[]) (H6 rfl rfl rfl rfl (a3y eR hr) (a3y eS hs) rfl rfl rfl rfl) rfl (by simp [d8]) trivial)
def aO8 (n:Int) (hn:0<n) (x:Rat) (ln:bl n<=1000) (lx:rl x<=1000):ec 277 [bgS (bz n),frS (fz x)] [] (bgS (bz (n / (Int.gcd n x.den:Int)*x.den))) []:=by
 have hd:=x.den_pos;have lq:=D5 x;have hg:0<(Int.gcd n x.den:Int):=by have:=Int.gcd_pos_of_ne_zero_left (x.den:Int) (a:=n) om;omega
 have lg:=a94 n x.den (n:=1000) ln om;have ld:bl (n / (Int.gcd n x.den:Int))<=1000:=lbR (a4e (b1r _ _)) ln;have g:=b62 n x.den om om;have e:=aH2 n (Int.gcd n x.den) hg (Int.gcd_dvd_left ..) om om;have m:=af9 (n / (Int.gcd n x.den:Int)) x.den om om;refine ac Tryz.func277 ?_;conv=>whnf
 repeat' (first|refine zx ?_|apply zD<;>intro<;>try omega)<;>conv=>whnf
 all_goals first|omega|exact m9 rz
def b2Q (n:Int) (x:Rat) (hd:(x.den:Int) ∣ n) (ln:bl n<=1000) (lx:rl x<=1000):ec 278 [bgS (bz n),frS (fz x)] [] (bgS (bz (n / x.den*x.num))) []:=by
 have hp:=x.den_pos;have lq:=D5 x;have lp:=E0 x;have ld:bl (n / (x.den:Int))<=1000:=lbR (a4e (b1r _ _)) ln;have e:=aH2 n x.den om hd om om;have m:=af9 (n / x.den) x.num om om;refine ac Tryz.func278 ?_;conv=>whnf
 repeat' (first|refine zx ?_|apply zD<;>intro<;>try omega)<;>conv=>whnf
 all_goals first|omega|exact m9 rz
def ay0 (n:Int) (hn:0<n) (c:Int) (ln:bl n<=1000) (lc:bl c<=1):ec 277 [bgS (bz n),frS (fz ((c:Int):Rat))] [] (bgS (bz n)) []:=by
 have h1:bl 1<=1:=p7 de de;have h:=aO8 n hn ((c:Int):Rat) ln (by rw [U9];omega);have e:n / (Int.gcd n (((c:Int):Rat).den:Int):Int)*(((c:Int):Rat).den:Int)=n:=by
  rw [an0];have:Int.gcd n ((1:Nat):Int)=1:=zq;rw [this];simp
 rw [e] at h;exact h
def b3l (x:Rat) (lx:rl x<=1000):ec 277 [bgS (bz 1),frS (fz x)] [] (bgS (bz x.den)) []:=by
 have h1:bl 1<=1:=p7 de de;have h:=aO8 1 de x om lx;have e:1 / (Int.gcd 1 (x.den:Int):Int)*(x.den:Int)=(x.den:Int):=by
  have:Int.gcd 1 (x.den:Int)=1:=zq;rw [this];simp
 rw [e] at h;exact h
def aP6 (n c:Int) (ln:bl n<=1000) (lc:bl c<=1):ec 278 [bgS (bz n),frS (fz ((c:Int):Rat))] [] (bgS (bz (n*c))) []:=by
 have h1:bl 1<=1:=p7 de de;have h:=b2Q n ((c:Int):Rat) (by rw [an0];exact ⟨n,zq⟩) ln (by rw [U9];omega);rw [an0,a78] at h;simpa using h
def b5D (x:Rat) (lx:rl x<=1000):ec 278 [bgS (bz x.den),frS (fz x)] [] (bgS (bz x.num)) []:=by
 have hp:=x.den_pos;have lq:=D5 x;have h:=b2Q (x.den:Int) x ⟨1,zq⟩ om lx;have e:(x.den:Int) / (x.den:Int)*x.num=x.num:=by rw [Int.ediv_self om];simp
 rw [e] at h;exact h
def br4 (m n:Nat) (fr:LB) (sc:LI) (Z:Zd) (hm:m<=100000) (hn:n<=1000):ec 279 [jT m n fr sc Z] [] (eI (leI (B3 Z.O (fun i=>decide (Z.V i<0)) m))) []:=by
 have l1:(U8 m Z.O).length=m:=m6 _ _;obtain ⟨p,hp⟩:∃p:Nat->Bool,p=fun i=>decide (Z.V i<0):=⟨_,rfl⟩
 rw [← hp];refine ac Tryz.func279 ?_;conv=>whnf
 repeat' (first|refine zx ?_|apply zD<;>intro h<;>try omega)<;>conv=>whnf
 refine j3 d7 (fun k=>([jT m n fr sc Z,J,J,eI (leI (B3 Z.O p k)),eI k]++Jn 42,[])) m tT [] trivial
  ⟨rfl,rfl,trivial,⟨rfl,e7 rfl,e7 rfl,trivial⟩⟩ ?_
 intro k hk _;by_cases hlt:k<m
 ·have hsg:=aE5 (Z.V k);have hpk:p k=decide (Z.V k<0):=by rw [hp]
  have ls:=T7 Z.O p k;have hM:∀b:Nat,(bif true then if 0 > (b:Int) then 0 else (b:Int) else if 0<(b:Int) then 0 else (b:Int))=(b:Int):=fun b=>by simp only [cond];split<;>omega
  cases hl:B3 Z.O p k with
  |none=>
   rw [hl] at ls;have hle:leI none=-1:=rfl;by_cases hd:p k=true
   ·have e1:(k:Int)=leI (B3 Z.O p (k+1)):=by rw [ls,hd];rfl
    rw [hpk] at hd;have hd:=lbK hd;conv=>whnf
    repeat' (first|refine zx ?_|refine a04 rfl hlt ?_|refine o9 rfl hlt ?_|apply zD<;>intro h<;>try omega)<;>conv=>whnf
    all_goals first|omega|exact ⟨hlt,trivial,[],rfl,rfl,trivial,⟨rfl,e7 e1,e7 om,trivial⟩⟩
   ·have e1:leI none=leI (B3 Z.O p (k+1)):=by rw [ls,eq_false_of_ne_true hd];rfl
    have hd:p k=false:=eq_false_of_ne_true hd;rw [hpk] at hd;have hd:=lbL hd;conv=>whnf
    repeat' (first|refine zx ?_|refine a04 rfl hlt ?_|refine o9 rfl hlt ?_|apply zD<;>intro h<;>try omega)<;>conv=>whnf
    all_goals first
     |omega
     |exact ⟨hlt,trivial,[],rfl,rfl,trivial,⟨rfl,e7 e1,e7 om,trivial⟩⟩
  |some b=>
   have hb:=(B9 hl).1;rw [hl] at ls;have hle:leI (some b)=b:=rfl;by_cases hd:p k=true
   ·have e0:B3 Z.O p (k+1)=if decide (Z.O k<Z.O b)=true then some k else some b:=by rw [ls,hd];rfl
    have e1:Z.O k<Z.O b->(k:Int)=leI (B3 Z.O p (k+1)):=fun h=>by rw [e0,if_pos (lbG h)];rfl
    have e2:¬Z.O k<Z.O b->(b:Int)=leI (B3 Z.O p (k+1)):=fun h=>by rw [e0,if_neg (by simp [h])];rfl
    rw [hpk] at hd;have hd:=lbK hd;rw [hle];conv=>whnf
    repeat' (first|refine zx ?_|refine a04 rfl hlt ?_|refine o9 rfl hlt ?_|refine o9 (i:=b) (hM b) om ?_|apply zD<;>intro h<;>try omega)<;>conv=>whnf
    all_goals first|omega|exact ⟨hlt,trivial,[],rfl,rfl,trivial,⟨rfl,e7 (e1 om),e7 om,trivial⟩⟩|exact ⟨hlt,trivial,[],rfl,rfl,trivial,⟨rfl,e7 (e2 om),e7 om,trivial⟩⟩
   ·have e1:leI (some b)=leI (B3 Z.O p (k+1)):=by rw [ls,eq_false_of_ne_true hd];rfl
    have hd:p k=false:=eq_false_of_ne_true hd;rw [hpk] at hd;have hd:=lbL hd;conv=>whnf
    repeat' (first|refine zx ?_|refine a04 rfl hlt ?_|refine o9 rfl hlt ?_|apply zD<;>intro h<;>try omega)<;>conv=>whnf
    all_goals first|omega|exact ⟨hlt,trivial,[],rfl,rfl,trivial,⟨rfl,e7 e1,e7 om,trivial⟩⟩
 ·have hke:k=m:=by omega
  subst hke;conv=>whnf
  repeat' (first|refine zx ?_|apply zD<;>intro h<;>try omega)<;>conv=>whnf
  all_goals first|omega|exact n8 rfl
def b66 (m n:Nat) (fr:LB) (sc:LI) (Z:Zd) (hm:m<=100000) (hn:n<=1000):ec 280 [jT m n fr sc Z] [] (eI (leI (B3 Z.F (fun i=>decide (0<Z.C i)) n))) []:=by
 have l1:(U8 n Z.F).length=n:=m6 _ _;obtain ⟨p,hp⟩:∃p:Nat->Bool,p=fun i=>decide (0<Z.C i):=⟨_,rfl⟩
 rw [← hp];refine ac Tryz.func280 ?_;conv=>whnf
 repeat' (first|refine zx ?_|apply zD<;>intro h<;>try omega)<;>conv=>whnf
 refine j3 d7 (fun k=>([jT m n fr sc Z,J,J,eI (leI (B3 Z.F p k)),eI k]++Jn 42,[])) n tT [] trivial
  ⟨rfl,rfl,trivial,⟨rfl,e7 rfl,e7 rfl,trivial⟩⟩ ?_
 intro k hk _;by_cases hlt:k<n
 ·have hsg:=b21 (Z.C k);have hpk:p k=decide (0<Z.C k):=by rw [hp]
  have ls:=T7 Z.F p k;have hM:∀b:Nat,(bif true then if 0 > (b:Int) then 0 else (b:Int) else if 0<(b:Int) then 0 else (b:Int))=(b:Int):=fun b=>by simp only [cond];split<;>omega
  cases hl:B3 Z.F p k with
  |none=>
   rw [hl] at ls;have hle:leI none=-1:=rfl;by_cases hd:p k=true
   ·have e1:(k:Int)=leI (B3 Z.F p (k+1)):=by rw [ls,hd];rfl
    rw [hpk] at hd;have hd:=lbK hd;conv=>whnf
    repeat' (first|refine zx ?_|refine a04 rfl hlt ?_|refine o9 rfl hlt ?_|apply zD<;>intro h<;>try omega)<;>conv=>whnf
    all_goals first|omega|exact ⟨hlt,trivial,[],rfl,rfl,trivial,⟨rfl,e7 e1,e7 om,trivial⟩⟩
   ·have e1:leI none=leI (B3 Z.F p (k+1)):=by rw [ls,eq_false_of_ne_true hd];rfl
    have hd:p k=false:=eq_false_of_ne_true hd;rw [hpk] at hd;have hd:=lbL hd;conv=>whnf
    repeat' (first|refine zx ?_|refine a04 rfl hlt ?_|refine o9 rfl hlt ?_|apply zD<;>intro h<;>try omega)<;>conv=>whnf
    all_goals first
     |omega
     |exact ⟨hlt,trivial,[],rfl,rfl,trivial,⟨rfl,e7 e1,e7 om,trivial⟩⟩
  |some b=>
   have hb:=(B9 hl).1;rw [hl] at ls;have hle:leI (some b)=b:=rfl;by_cases hd:p k=true
   ·have e0:B3 Z.F p (k+1)=if decide (Z.F k<Z.F b)=true then some k else some b:=by rw [ls,hd];rfl
    have e1:Z.F k<Z.F b->(k:Int)=leI (B3 Z.F p (k+1)):=fun h=>by rw [e0,if_pos (lbG h)];rfl
    have e2:¬Z.F k<Z.F b->(b:Int)=leI (B3 Z.F p (k+1)):=fun h=>by rw [e0,if_neg (by simp [h])];rfl
    rw [hpk] at hd;have hd:=lbK hd;rw [hle];conv=>whnf
    repeat' (first|refine zx ?_|refine a04 rfl hlt ?_|refine o9 rfl hlt ?_|refine o9 (i:=b) (hM b) om ?_|apply zD<;>intro h<;>try omega)<;>conv=>whnf
    all_goals first|omega|exact ⟨hlt,trivial,[],rfl,rfl,trivial,⟨rfl,e7 (e1 om),e7 om,trivial⟩⟩|exact ⟨hlt,trivial,[],rfl,rfl,trivial,⟨rfl,e7 (e2 om),e7 om,trivial⟩⟩
   ·have e1:leI (some b)=leI (B3 Z.F p (k+1)):=by rw [ls,eq_false_of_ne_true hd];rfl
    have hd:p k=false:=eq_false_of_ne_true hd;rw [hpk] at hd;have hd:=lbL hd;conv=>whnf
    repeat' (first|refine zx ?_|refine a04 rfl hlt ?_|refine o9 rfl hlt ?_|apply zD<;>intro h<;>try omega)<;>conv=>whnf
    all_goals first|omega|exact ⟨hlt,trivial,[],rfl,rfl,trivial,⟨rfl,e7 e1,e7 om,trivial⟩⟩
 ·have hke:k=n:=by omega
  subst hke;conv=>whnf
  repeat' (first|refine zx ?_|apply zD<;>intro h<;>try omega)<;>conv=>whnf
  all_goals first|omega|exact n8 rfl
def b6e (m n:Nat) (fr:LB) (sc:LI) (Z:Zd) (r:Nat) (hr:r<m) (hm:m<=100000) (hn:n<=1000):ec 281 [jT m n fr sc Z,eI r] [] (eI (leI (B3 Z.F (fun i=>decide (Z.A r i<0)) n))) []:=by
 have l1:(U8 n Z.F).length=n:=m6 _ _;obtain ⟨p,hp⟩:∃p:Nat->Bool,p=fun i=>decide (Z.A r i<0):=⟨_,rfl⟩
 rw [← hp];refine ac Tryz.func281 ?_;conv=>whnf
 repeat' (first|refine zx ?_|apply zD<;>intro h<;>try omega)<;>conv=>whnf
 refine j3 d7 (fun k=>([jT m n fr sc Z,eI r,J,J,J,eI (leI (B3 Z.F p k)),eI k]++Jn 45,[])) n tT [] trivial
  ⟨rfl,rfl,trivial,⟨rfl,rfl,e7 rfl,e7 rfl,trivial⟩⟩ ?_
 intro k hk _;by_cases hlt:k<n
 ·have hsg:=aE5 (Z.A r k);have hpk:p k=decide (Z.A r k<0):=by rw [hp]
  have ls:=T7 Z.F p k;have hM:∀b:Nat,(bif true then if 0 > (b:Int) then 0 else (b:Int) else if 0<(b:Int) then 0 else (b:Int))=(b:Int):=fun b=>by simp only [cond];split<;>omega
  cases hl:B3 Z.F p k with
  |none=>
   rw [hl] at ls;have hle:leI none=-1:=rfl;by_cases hd:p k=true
   ·have e1:(k:Int)=leI (B3 Z.F p (k+1)):=by rw [ls,hd];rfl
    rw [hpk] at hd;have hd:=lbK hd;conv=>whnf
    repeat' (first|refine zx ?_|refine a0Y rfl hr ?_|refine a04 rfl hlt ?_|refine o9 rfl hlt ?_|apply zD<;>intro h<;>try omega)<;>conv=>whnf
    all_goals first|omega|exact ⟨hlt,trivial,[],rfl,rfl,trivial,⟨rfl,rfl,e7 e1,e7 om,trivial⟩⟩
   ·have e1:leI none=leI (B3 Z.F p (k+1)):=by rw [ls,eq_false_of_ne_true hd];rfl
    have hd:p k=false:=eq_false_of_ne_true hd;rw [hpk] at hd;have hd:=lbL hd;conv=>whnf
    repeat' (first|refine zx ?_|refine a0Y rfl hr ?_|refine a04 rfl hlt ?_|refine o9 rfl hlt ?_|apply zD<;>intro h<;>try omega)<;>conv=>whnf
    all_goals first
     |omega
     |exact ⟨hlt,trivial,[],rfl,rfl,trivial,⟨rfl,rfl,e7 e1,e7 om,trivial⟩⟩
  |some b=>
   have hb:=(B9 hl).1;rw [hl] at ls;have hle:leI (some b)=b:=rfl;by_cases hd:p k=true
   ·have e0:B3 Z.F p (k+1)=if decide (Z.F k<Z.F b)=true then some k else some b:=by rw [ls,hd];rfl
    have e1:Z.F k<Z.F b->(k:Int)=leI (B3 Z.F p (k+1)):=fun h=>by rw [e0,if_pos (lbG h)];rfl
    have e2:¬Z.F k<Z.F b->(b:Int)=leI (B3 Z.F p (k+1)):=fun h=>by rw [e0,if_neg (by simp [h])];rfl
    rw [hpk] at hd;have hd:=lbK hd;rw [hle];conv=>whnf
    repeat' (first|refine zx ?_|refine a0Y rfl hr ?_|refine a04 rfl hlt ?_|refine o9 rfl hlt ?_|refine o9 (i:=b) (hM b) om ?_|apply zD<;>intro h<;>try omega)<;>conv=>whnf
    all_goals first|omega|exact ⟨hlt,trivial,[],rfl,rfl,trivial,⟨rfl,rfl,e7 (e1 om),e7 om,trivial⟩⟩|exact ⟨hlt,trivial,[],rfl,rfl,trivial,⟨rfl,rfl,e7 (e2 om),e7 om,trivial⟩⟩
   ·have e1:leI (some b)=leI (B3 Z.F p (k+1)):=by rw [ls,eq_false_of_ne_true hd];rfl
    have hd:p k=false:=eq_false_of_ne_true hd;rw [hpk] at hd;have hd:=lbL hd;conv=>whnf
    repeat' (first|refine zx ?_|refine a0Y rfl hr ?_|refine a04 rfl hlt ?_|refine o9 rfl hlt ?_|apply zD<;>intro h<;>try omega)<;>conv=>whnf
    all_goals first|omega|exact ⟨hlt,trivial,[],rfl,rfl,trivial,⟨rfl,rfl,e7 e1,e7 om,trivial⟩⟩
 ·have hke:k=n:=by omega
  subst hke;conv=>whnf
  repeat' (first|refine zx ?_|apply zD<;>intro h<;>try omega)<;>conv=>whnf
  all_goals first|omega|exact n8 rfl
def bk8 (m n:Nat) (fr:LB) (sc:LI) (Z:Zd) (s:Nat) (hs:s<n) (hm:m<=100000) (hn:n<=1000):ec 282 [jT m n fr sc Z,eI s] [] (eI (leI (B3 Z.O (fun i=>decide (0<Z.A i s)) m))) []:=by
 have l1:(U8 m Z.O).length=m:=m6 _ _;obtain ⟨p,hp⟩:∃p:Nat->Bool,p=fun i=>decide (0<Z.A i s):=⟨_,rfl⟩
 rw [← hp];refine ac Tryz.func282 ?_;conv=>whnf
 repeat' (first|refine zx ?_|apply zD<;>intro h<;>try omega)<;>conv=>whnf
 refine j3 d7 (fun k=>([jT m n fr sc Z,eI s,J,J,J,eI (leI (B3 Z.O p k)),eI k]++Jn 45,[])) m tT [] trivial
  ⟨rfl,rfl,trivial,⟨rfl,rfl,e7 rfl,e7 rfl,trivial⟩⟩ ?_
 intro k hk _;by_cases hlt:k<m
 ·have hsg:=b21 (Z.A k s);have hpk:p k=decide (0<Z.A k s):=by rw [hp]
  have ls:=T7 Z.O p k;have hM:∀b:Nat,(bif true then if 0 > (b:Int) then 0 else (b:Int) else if 0<(b:Int) then 0 else (b:Int))=(b:Int):=fun b=>by simp only [cond];split<;>omega
  cases hl:B3 Z.O p k with
  |none=>
   rw [hl] at ls;have hle:leI none=-1:=rfl;by_cases hd:p k=true
   ·have e1:(k:Int)=leI (B3 Z.O p (k+1)):=by rw [ls,hd];rfl
    rw [hpk] at hd;have hd:=lbK hd;conv=>whnf
    repeat' (first|refine zx ?_|refine a0Y rfl hlt ?_|refine a04 rfl hs ?_|refine o9 rfl hlt ?_|apply zD<;>intro h<;>try omega)<;>conv=>whnf
    all_goals first|omega|exact ⟨hlt,trivial,[],rfl,rfl,trivial,⟨rfl,rfl,e7 e1,e7 om,trivial⟩⟩
   ·have e1:leI none=leI (B3 Z.O p (k+1)):=by rw [ls,eq_false_of_ne_true hd];rfl
    have hd:p k=false:=eq_false_of_ne_true hd;rw [hpk] at hd;have hd:=lbL hd;conv=>whnf
    repeat' (first|refine zx ?_|refine a0Y rfl hlt ?_|refine a04 rfl hs ?_|refine o9 rfl hlt ?_|apply zD<;>intro h<;>try omega)<;>conv=>whnf
    all_goals first
     |omega
     |exact ⟨hlt,trivial,[],rfl,rfl,trivial,⟨rfl,rfl,e7 e1,e7 om,trivial⟩⟩
  |some b=>
   have hb:=(B9 hl).1;rw [hl] at ls;have hle:leI (some b)=b:=rfl;by_cases hd:p k=true
   ·have e0:B3 Z.O p (k+1)=if decide (Z.O k<Z.O b)=true then some k else some b:=by rw [ls,hd];rfl
    have e1:Z.O k<Z.O b->(k:Int)=leI (B3 Z.O p (k+1)):=fun h=>by rw [e0,if_pos (lbG h)];rfl
    have e2:¬Z.O k<Z.O b->(b:Int)=leI (B3 Z.O p (k+1)):=fun h=>by rw [e0,if_neg (by simp [h])];rfl
    rw [hpk] at hd;have hd:=lbK hd;rw [hle];conv=>whnf
    repeat' (first|refine zx ?_|refine a0Y rfl hlt ?_|refine a04 rfl hs ?_|refine o9 rfl hlt ?_|refine o9 (i:=b) (hM b) om ?_|apply zD<;>intro h<;>try omega)<;>conv=>whnf
    all_goals first|omega|exact ⟨hlt,trivial,[],rfl,rfl,trivial,⟨rfl,rfl,e7 (e1 om),e7 om,trivial⟩⟩|exact ⟨hlt,trivial,[],rfl,rfl,trivial,⟨rfl,rfl,e7 (e2 om),e7 om,trivial⟩⟩
   ·have e1:leI (some b)=leI (B3 Z.O p (k+1)):=by rw [ls,eq_false_of_ne_true hd];rfl
    have hd:p k=false:=eq_false_of_ne_true hd;rw [hpk] at hd;have hd:=lbL hd;conv=>whnf
    repeat' (first|refine zx ?_|refine a0Y rfl hlt ?_|refine a04 rfl hs ?_|refine o9 rfl hlt ?_|apply zD<;>intro h<;>try omega)<;>conv=>whnf
    all_goals first|omega|exact ⟨hlt,trivial,[],rfl,rfl,trivial,⟨rfl,rfl,e7 e1,e7 om,trivial⟩⟩
 ·have hke:k=m:=by omega
  subst hke;conv=>whnf
  repeat' (first|refine zx ?_|apply zD<;>intro h<;>try omega)<;>conv=>whnf
  all_goals first|omega|exact n8 rfl
structure bt6 where
 kind:Int
 value:Fr
 X:List Rat
 Y:List Rat
 R:List Rat
structure b8S (s:i8) (g:List (Int × Rat)) (o:bt6):Prop where
 k:o.kind=0∨o.kind=1∨o.kind=2
 found:o.kind=0->j8 s o.X=true∧o.value=fz (m7 g o.X)∧∀z,j8 s z=true->m7 g o.X<=m7 g z
 none:o.kind=1->∀z,j8 s z=false
 free:o.kind=2->j8 s o.X=true∧b6R s o.R∧m7 g o.R<0
 bx:∀v ∈ o.X,rl v<=100
 br:∀v ∈ o.R,rl v<=100
def bi8 {s:i8} {d:List Rat} (h:b6R (j5 s) d):b6R s d:=by
 have key:∀(k:Nat) (w:x4),s.rows[k]? =some w->((P2 w).kind=w.kind)∧m7 (P2 w).terms d=(((w.value.den:Int):Int):Rat)*m7 w.terms d∧(0:Rat)<(((w.value.den:Int):Int):Rat):=fun k w hw=>
  ⟨rfl,b2O d w.terms,by exact_mod_cast a0t w.value⟩
 refine ⟨h.len,h.pos,fun k w hw hk=>?_,fun k w hw hk=>?_⟩
 ·obtain ⟨k1,k2,k3⟩:=key k w hw;have:=h.up k (P2 w) (al2 hw) hk;rw [k2] at this;apply lb8;intro hn;have hp:0<m7 w.terms d:=zg;have:=lb1 k3 hp;grind
 ·obtain ⟨k1,k2,k3⟩:=key k w hw;have:=h.down k (P2 w) (al2 hw) hk;rw [k2] at this;apply lb8;intro hn;have hp:0< -(m7 w.terms d):=zg;have:=lb1 k3 hp;grind
def ba6 {s:i8} {g:List (Int × Rat)} (h:T8 s) (hg:z6 g):BdD (f8 (j5 s)).length (j5 s).n.toNat 25 (o6 (j5 s) g):=by
 have hn:=Q9 h.r;have:=h.n;obtain ⟨p1,p2⟩:=av0 (j5 s).n.toNat (by show s.n.toNat<10;omega);obtain ⟨b1,b2,b3⟩:=b1J ae9 (b7h h.i hg) T4 (a2w T4).1 p1 p2 (by rw [Nat.one_mul];exact p2) p2;exact ⟨b1,fun i hi j hj=>b2 i j hi hj,b3⟩
def a5Q {s:i8} {g:List (Int × Rat)} (h:T8 s) (hg:z6 g):∀v ∈ m8 (j5 s) g,rl v<=25:=by
 intro v hv;have hb:=ba6 h hg;obtain ⟨j,hj,rfl⟩:=a4q hv;have hp:R4 (f8 (j5 s)).length (j5 s).n.toNat (o6 (j5 s) g):=I0.p;rw [← ai5 hp hj];have key:∀k,k<=(f8 (j5 s)).length->rl (ptK (j5 s).n.toNat (o6 (j5 s) g).O (o6 (j5 s) g).V (fun _=>0) k j)<=25:=by
  intro k;induction k with
  |zero=>intro _;have:=rl0;show rl 0<=_;omega
  |succ k ih=>
   intro hk;rw [G8];simp only;split
   ·exact hb.v k om
   ·exact ih om
 exact key _ (lbQ _)
def b3G {s:i8} {g:List (Int × Rat)} {c:Nat} (h:T8 s) (hg:z6 g) (hc:c<(j5 s).n.toNat):∀v ∈ a4h (j5 s) g c,rl v<=25:=by
 intro v hv;have hb:=ba6 h hg;obtain ⟨j,hj,rfl⟩:=a4q hv;have hp:R4 (f8 (j5 s)).length (j5 s).n.toNat (o6 (j5 s) g):=I0.p;rw [← a7S hp hc hj];have key:∀k,k<=(f8 (j5 s)).length->rl (ptK (j5 s).n.toNat (o6 (j5 s) g).O (fun i=>-((o6 (j5 s) g).A i c)) (fun j=>if (o6 (j5 s) g).F c<(j5 s).n.toNat∧j=(o6 (j5 s) g).F c then 1 else 0) k j)<=25:=by
  intro k;induction k with
  |zero=>
   intro _;show rl (if _ then (1:Rat) else 0)<=_;have:=rl0;have:=rl1;split<;>omega
  |succ k ih=>
   intro hk;rw [G8];simp only;split
   ·rw [Q5];exact hb.a k om c hc
   ·exact ih om
 exact key _ (lbQ _)
def b60 {s:i8} {g:List (Int × Rat)} (h:T8 s) (hw:z6 g) (hg:j2 (-1) ((s.n.toNat:Nat):Int) g=true) (ho:F5 (j5 s) g=.best) (Y:List Rat):b8S s g ⟨0,fz (m7 g (m8 (j5 s) g)),m8 (j5 s) g,Y,[]⟩:=by
 obtain ⟨h1,h2⟩:=a0h (s:=j5 s) (by rw [a5q];exact h.r) hg ho;exact ⟨.inl rfl,fun _=>⟨(sc_holds s _).1 h1,rfl,fun z hz=>h2 z ((sc_holds s z).2 hz)⟩,(fun e=>absurd (show (0:Int)=1 from e) de),(fun e=>absurd (show (0:Int)=2 from e) de),fun v hv=>lbR (a5Q h hw v hv) de,(fun v hv=>by cases hv)⟩
def b7R {s:i8} {g:List (Int × Rat)} {r:Nat} (ho:F5 (j5 s) g=.row r):∀z,j8 s z=false:=fun z=>by
 cases hz:j8 s z with
 |false=>rfl
 |true=>have:=a7Z ho z;rw [(sc_holds s z).2 hz] at this;cases this
def b2g {s:i8} {g:List (Int × Rat)} {r:Nat} (g':List (Int × Rat)) (ho:F5 (j5 s) g'=.row r) (Y:List Rat):b8S s g ⟨1,C6,[],Y,[]⟩:=
 ⟨.inr (.inl rfl),(fun e=>absurd (show (1:Int)=0 from e) de),fun _=>b7R ho,(fun e=>absurd (show (1:Int)=2 from e) de),(fun v hv=>by cases hv),(fun v hv=>by cases hv)⟩
def b9z {s:i8} {g:List (Int × Rat)} {c:Nat} (h:T8 s) (hw:z6 g) (hg:j2 (-1) ((s.n.toNat:Nat):Int) g=true) (ho:F5 (j5 s) g=.col c) (ho0:F5 (j5 s) []=.best):b8S s g ⟨2,C6,m8 (j5 s) [],[],a4h (j5 s) g c⟩:=by
 obtain ⟨h1,h2⟩:=a0h (s:=j5 s) (g:=[]) (by rw [a5q];exact h.r) rfl ho0;obtain ⟨d1,d2⟩:=a7U (s:=j5 s) (by rw [a5q];exact h.r) hg ho;have hc:c<(j5 s).n.toNat:=(a3L ho).1;exact ⟨.inr (.inr rfl),(fun e=>absurd (show (2:Int)=0 from e) de),(fun e=>absurd (show (2:Int)=1 from e) de),fun _=>⟨(sc_holds s _).1 h1,bi8 d1,d2⟩,fun v hv=>lbR (a5Q h (fun t ht=>absurd ht zq) v hv) de,fun v hv=>lbR (b3G h hw hc v hv) de⟩
def a25 {f:Nat->Nat} {p q:Nat->Bool}:∀{m:Nat},(∀ i,i<m->p i=q i)->B3 f p m=B3 f q m
 |0,_=>rfl
 |m+1,h=>by
  rw [T7,T7,a25 (m:=m) fun i hi=>h i om,h m om]
structure bo0 (m n:Nat) (D0:Fd) (g0:Nat->Rat):Prop where
 hm:m<=100000
 hn:n<=1000
 f:V3 m n D0
 i:a4f m n D0 g0 D0
 d:∀D,M6 m n D0 D->(∃ q,a89 m n D0 D q)∧ZB m n 1000 (W9 m n D0 D)
def a4N (b:Nat):(bif true then if 0 > (b:Int) then 0 else (b:Int) else if 0<(b:Int) then 0 else (b:Int))=(b:Int):=by simp only [cond];split<;>omega
def b06 {m n:Nat} {fr:LB} {sc:LI} {D0 D:Fd} {g0:Nat->Rat} (h:bo0 m n D0 g0) (hD:M6 m n D0 D) (hn:C5 m n D=none) {r c:Int} (ho:(r,c)=a5Z (u9 m n D)):
 Fin (J3 m n fr sc (W9 m n D0 D0) []).length (.tup [eI r,eI c]) (J3 m n fr sc (W9 m n D0 D) []) (.tup [eI (a5Z (u9 m n (a3K m n D0))).1,eI (a5Z (u9 m n (a3K m n D0))).2]) (J3 m n fr sc (W9 m n D0 (a3K m n D0)) []):=by
 have e:=b5V h.i hD hn;rw [← e,←ho];exact a54 (T:=[]) rfl rfl (by simp [d8]) rz
def b1H (m n:Nat) (fr:List (Nat × Bool)) (sc:List Int) (D0:Fd) (g0:Nat->Rat) (h:bo0 m n D0 g0) (hfr:fr.length=m) (hsc:sc.length=m):
 d6 Tryz.prog 213 [.c (.ptr 0 0 0)] (J3 m n fr sc (W9 m n D0 D0) []) (.tup [c9 .i64 (a5Z (u9 m n (a3K m n D0))).1,c9 .i64 (a5Z (u9 m n (a3K m n D0))).2]) (J3 m n fr sc (W9 m n D0 (a3K m n D0)) []):=by
 have hm:=h.hm
 have hn:=h.hn
 (refine ac Tryz.func213 ?_;(conv=>whnf);repeat (refine zy ?_;conv=>whnf))
 repeat' (first|refine zx ?_|refine f9 (d8 _ _ _) ?_|refine f5 ?_|refine zd ?_ ?_<;>intro h<;>try omega|fail)<;>conv=>whnf
 refine p9 d7 (σ:=Fd) (fun D=>([S.c (C.ptr 0 0 0)]++Jn 56,J3 m n fr sc (W9 m n D0 D) [])) (fun D=>M6 m n D0 D) (fun D=>a5A m n D) D0 (idR (m+9)) a76 ?_ ?_
 ·exact p8 (T:=[]) (T':=[]) rfl rfl (by simp [d8]) zq ⟨⟨g9 om,rfl,rfl⟩,trivial⟩
 intro D hD
 have inv:a4f m n D0 g0 D:=by obtain ⟨k,hk⟩:=hD;exact W7 h.i hk
 obtain ⟨hden,hzb⟩:=h.d D hD
 obtain ⟨cd,cr⟩:=a6t hden
 obtain ⟨Z,hZ⟩:∃Z,Z=W9 m n D0 D:=⟨_,rfl⟩
 rw [← hZ] at cd cr hzb
 have eO:Z.O=D.O:=cr.o
 have eF:Z.F=D.F:=cr.f
 have l1:=br4 m n fr sc Z hm hn
 have l2:=b66 m n fr sc Z hm hn
 rw [a25 (q:=fun i=>decide (D.V i<0)) fun i hi=>decide_eq_decide.2 (ac6 cr.d (cr.v i hi)).1,eO] at l1
 rw [a25 (q:=fun j=>decide (0<D.G j)) fun j hj=>decide_eq_decide.2 (ac6 cr.d (cr.c j hj)).2,eF] at l2
 have l3:∀r,r<m->d6 Tryz.prog 281 [jT m n fr sc Z,c9 .i64 r] [] (c9 .i64 (leI (B3 D.F (fun j=>decide (D.A r j<0)) n))) []:=fun r hr=>by
  have l:=b6e m n fr sc Z r hr hm hn
  rwa [a25 (q:=fun j=>decide (D.A r j<0)) fun j hj=>decide_eq_decide.2 (ac6 cr.d (cr.a r hr j hj)).1,eF] at l
 have l4:∀s,s<n->d6 Tryz.prog 282 [jT m n fr sc Z,c9 .i64 s] [] (c9 .i64 (leI (B3 D.O (fun i=>decide (0<D.A i s)) m))) []:=fun s hs=>by
  have l:=bk8 m n fr sc Z s hs hm hn
  rwa [a25 (q:=fun i=>decide (0<D.A i s)) fun i hi=>decide_eq_decide.2 (ac6 cr.d (cr.a i hi s hs)).2,eO] at l
 have vd:∀X,VY (J3 m n fr sc Z X) (fun _=>True) (.ptr 0 0 0) (.ptr (b9J m n fr sc Z)):=fun X=>b4A hfr hsc fun _ _=>trivial
 have va:∀X,a1r (J3 m n fr sc Z X) (fun _=>True) [.c (.ptr 0 0 0)] [jT m n fr sc Z]:=fun X=>⟨vd X,trivial⟩
 have va2:∀X (r:Nat),a1r (J3 m n fr sc Z X) (fun _=>True) [.c (.ptr 0 0 0),c9 .i64 r] [jT m n fr sc Z,c9 .i64 r]:=fun X r=>⟨vd X,aN3,trivial⟩
 have fin0:∀(r c:Int),C5 m n D=none->(r,c)=a5Z (u9 m n D)->Fin (J3 m n fr sc (W9 m n D0 D0) []).length (.tup [c9 .i64 r,c9 .i64 c]) (J3 m n fr sc Z []) (.tup [c9 .i64 (a5Z (u9 m n (a3K m n D0))).1,c9 .i64 (a5Z (u9 m n (a3K m n D0))).2]) (J3 m n fr sc (W9 m n D0 (a3K m n D0)) []):=fun r c hn ho=>by
  have:=b06 (fr:=fr) (sc:=sc) h hD hn ho
  rwa [← hZ] at this
 have exc:∀r s:Nat,u9 m n D=.next r s->d6 Tryz.prog 283 [.c (.ptr 0 0 0),c9 .i64 r,c9 .i64 s] (J3 m n fr sc Z []) (.tup []) (J3 m n fr sc (W9 m n D0 (D.exch r s)) []):=fun r s hs=>by
  obtain ⟨q1,q2,q3⟩:=a3A hs
  have hnx:C5 m n D=some (D.exch r s):=by unfold C5;rw [hs]
  obtain ⟨hden',hzb'⟩:=h.d _ (a4k hD hnx)
  obtain ⟨c1,c2⟩:=b4I h.f inv.i q1 q2 (a4a q3) hden hden'
  rw [← hZ] at c1 c2
  have hzx:ZB m n 1000 (Z.exch r s):=⟨fun i hi=>by rw [c2.v i hi];exact hzb'.v i hi,fun i hi j hj=>by rw [c2.a i hi j hj];exact hzb'.a i hi j hj,fun j hj=>by rw [c2.c j hj];exact hzb'.c j hj,by rw [c2.d];exact hzb'.d⟩
  have hne:Z.A r s≠0:=fun e=>by
   have:=cr.a r q1 s q2
   rw [e] at this
   have hq:((Z.D:Int):Rat)≠0:=by intro e;have:Z.D=0:=by exact_mod_cast e
                                 have:=cr.d;omega
   rcases ai2.1 this.symm with k|k
   ·exact hq k
   ·exact a4a q3 k
  have ex:=aK6 m n fr sc Z r s hm hn q1 q2 cr.d hne hzb hzx c1
  rwa [a6l c2] at ex
 have go:∀(env:Env) (r s:Nat),u9 m n D=.next r s->X5 (idR (m+9)) (J3 m n fr sc (W9 m n D0 (D.exch r s)) []) env ([S.c (C.ptr 0 0 0)]++Jn 56)->
  ∃ρ x',Ent (J3 m n fr sc (W9 m n D0 D0) []).length ρ env (J3 m n fr sc (W9 m n D0 (D.exch r s)) []) ([S.c (C.ptr 0 0 0)]++Jn 56) (J3 m n fr sc (W9 m n D0 x') [])∧M6 m n D0 x'∧a5A m n x'<a5A m n D:=by
  intro env r s hs hE
  have hnx:C5 m n D=some (D.exch r s):=by unfold C5;rw [hs]
  exact ⟨idR (m+9),D.exch r s,p8 (T:=[]) (T':=[]) rfl rfl (by simp [d8]) zq hE,a4k hD hnx,aq6 (b6o inv.p inv.g) hnx⟩
 show a4U _ _ _ _ _ (J3 m n fr sc (W9 m n D0 D) []) _
 rw [← hZ]
 cases hR:B3 D.O (fun i=>decide (D.V i<0)) m with
 |none=>
  rw [hR,show leI none=-1 from rfl] at l1
  cases hS:B3 D.F (fun j=>decide (0<D.G j)) n with
  |none=>
   rw [hS,show leI none=-1 from rfl] at l2
   have hst:u9 m n D=.best:=by unfold u9;rw [hR,hS]
   conv=>whnf
   repeat' (first|refine zx ?_|refine .inl ⟨_,_,j9 l1 (va _) rfl,?_⟩|refine .inl ⟨_,_,j9 l2 (va _) rfl,?_⟩|refine f9 (d8 _ _ _) ?_|refine f5 ?_|refine zd ?_ ?_<;>intro h<;>try omega|fail)<;>conv=>whnf
   all_goals first
    |omega
    |exact fin0 _ _ (by unfold C5;rw [hst]) (by rw [hst];rfl)
  |some ss=>
   rw [hS,show leI (some ss)=ss from rfl] at l2
   have hss:=(B9 hS).1
   have l4:=l4 ss hss
   have eSS:0+(bif true then if 0 > (ss:Int) then 0 else (ss:Int) else if 0<(ss:Int) then 0 else (ss:Int)).toNat=ss:=by rw [a4N];omega
   cases hC:B3 D.O (fun i=>decide (0<D.A i ss)) m with
   |none=>
    rw [hC,show leI none=-1 from rfl] at l4
    have hst:u9 m n D=.col ss:=by unfold u9;rw [hR,hS];show U7 m D ss=_;unfold U7;rw [hC]
    conv=>whnf
    repeat' (first|refine zx ?_|refine .inl ⟨_,_,j9 l1 (va _) rfl,?_⟩|refine .inl ⟨_,_,j9 l2 (va _) rfl,?_⟩|refine .inl ⟨_,_,j9 l4 (va2 _ ss) rfl,?_⟩|refine f9 (d8 _ _ _) ?_|refine f5 ?_|refine zd ?_ ?_<;>intro h<;>try omega|fail)<;>conv=>whnf
    all_goals first
     |omega
     |exact fin0 _ _ (by unfold C5;rw [hst]) (by rw [hst];rfl)
   |some rq=>
    rw [hC,show leI (some rq)=rq from rfl] at l4
    have hst:u9 m n D=.next rq ss:=by unfold u9;rw [hR,hS];show U7 m D ss=_;unfold U7;rw [hC]
    have exr:=exc _ _ hst
    conv=>whnf
    repeat' (first|refine zx ?_|refine .inl ⟨_,_,j9 l1 (va _) rfl,?_⟩|refine .inl ⟨_,_,j9 l2 (va _) rfl,?_⟩|refine .inl ⟨_,_,j9 l4 (va2 _ ss) rfl,?_⟩|refine .inr ⟨_,_,exr,?_⟩|refine f9 (d8 _ _ _) ?_|refine f5 ?_|refine zd ?_ ?_<;>intro h<;>try omega|fail)<;>conv=>whnf
    all_goals first
     |omega
     |exact go _ _ _ hst ⟨⟨g9 om,rfl,rfl⟩,trivial⟩
 |some rr=>
  rw [hR,show leI (some rr)=rr from rfl] at l1
  have hrr:=(B9 hR).1
  have l3:=l3 rr hrr
  have eRR:0+(bif true then if 0 > (rr:Int) then 0 else (rr:Int) else if 0<(rr:Int) then 0 else (rr:Int)).toNat=rr:=by rw [a4N];omega
  cases hS:B3 D.F (fun j=>decide (0<D.G j)) n with
  |none=>
   rw [hS,show leI none=-1 from rfl] at l2
   cases hC:B3 D.F (fun j=>decide (D.A rr j<0)) n with
   |none=>
    rw [hC,show leI none=-1 from rfl] at l3
    have hst:u9 m n D=.row rr:=by unfold u9;rw [hR,hS];show U5 n D rr=_;unfold U5;rw [hC]
    conv=>whnf
    repeat' (first|refine zx ?_|refine .inl ⟨_,_,j9 l1 (va _) rfl,?_⟩|refine .inl ⟨_,_,j9 l2 (va _) rfl,?_⟩|refine .inl ⟨_,_,j9 l3 (va2 _ rr) rfl,?_⟩|refine f9 (d8 _ _ _) ?_|refine f5 ?_|refine zd ?_ ?_<;>intro h<;>try omega|fail)<;>conv=>whnf
    all_goals first
     |omega
     |exact fin0 _ _ (by unfold C5;rw [hst]) (by rw [hst];rfl)
   |some sq=>
    rw [hC,show leI (some sq)=sq from rfl] at l3
    have hst:u9 m n D=.next rr sq:=by unfold u9;rw [hR,hS];show U5 n D rr=_;unfold U5;rw [hC]
    have exr:=exc _ _ hst
    conv=>whnf
    repeat' (first|refine zx ?_|refine .inl ⟨_,_,j9 l1 (va _) rfl,?_⟩|refine .inl ⟨_,_,j9 l2 (va _) rfl,?_⟩|refine .inl ⟨_,_,j9 l3 (va2 _ rr) rfl,?_⟩|refine .inr ⟨_,_,exr,?_⟩|refine f9 (d8 _ _ _) ?_|refine f5 ?_|refine zd ?_ ?_<;>intro h<;>try omega|fail)<;>conv=>whnf
    all_goals first
     |omega
     |exact go _ _ _ hst ⟨⟨g9 om,rfl,rfl⟩,trivial⟩
  |some ss=>
   rw [hS,show leI (some ss)=ss from rfl] at l2
   have hss:=(B9 hS).1
   have l4:=l4 ss hss
   have eSS:0+(bif true then if 0 > (ss:Int) then 0 else (ss:Int) else if 0<(ss:Int) then 0 else (ss:Int)).toNat=ss:=by rw [a4N];omega
   have eOO:Z.O rr=D.O rr:=by rw [eO]
   have eFF:Z.F ss=D.F ss:=by rw [eF]
   by_cases hlt:D.O rr<D.F ss
   ·cases hC:B3 D.F (fun j=>decide (D.A rr j<0)) n with
    |none=>
     rw [hC,show leI none=-1 from rfl] at l3
     have hst:u9 m n D=.row rr:=by unfold u9;rw [hR,hS];show (if _ then U5 n D rr else _)=_;rw [if_pos hlt];unfold U5;rw [hC]
     conv=>whnf
     repeat' (first|refine zx ?_|refine qp a4N ?_|refine .inl ⟨_,_,j9 l1 (va _) rfl,?_⟩|refine .inl ⟨_,_,j9 l2 (va _) rfl,?_⟩|refine .inl ⟨_,_,j9 l3 (va2 _ rr) rfl,?_⟩|refine f9 (d8 _ _ _) ?_|refine f5 ?_|refine U4 (by rw [a4N];omega) (by rw [a4N];omega) ?_|refine M5 eRR hrr ?_|refine M5 eSS hss ?_|refine zd ?_ ?_<;>intro h<;>try omega|fail)<;>conv=>whnf
     all_goals first
      |omega
      |exact fin0 _ _ (by unfold C5;rw [hst]) (by rw [hst];rfl)
    |some sq=>
     rw [hC,show leI (some sq)=sq from rfl] at l3
     have hst:u9 m n D=.next rr sq:=by unfold u9;rw [hR,hS];show (if _ then U5 n D rr else _)=_;rw [if_pos hlt];unfold U5;rw [hC]
     have exr:=exc _ _ hst
     conv=>whnf
     repeat' (first|refine zx ?_|refine qp a4N ?_|refine .inl ⟨_,_,j9 l1 (va _) rfl,?_⟩|refine .inl ⟨_,_,j9 l2 (va _) rfl,?_⟩|refine .inl ⟨_,_,j9 l3 (va2 _ rr) rfl,?_⟩|refine .inr ⟨_,_,exr,?_⟩|refine f9 (d8 _ _ _) ?_|refine f5 ?_|refine U4 (by rw [a4N];omega) (by rw [a4N];omega) ?_|refine M5 eRR hrr ?_|refine M5 eSS hss ?_|refine zd ?_ ?_<;>intro h<;>try omega|fail)<;>conv=>whnf
     all_goals first
      |omega
      |exact go _ _ _ hst ⟨⟨g9 om,rfl,rfl⟩,trivial⟩
   ·cases hC:B3 D.O (fun i=>decide (0<D.A i ss)) m with
    |none=>
     rw [hC,show leI none=-1 from rfl] at l4
     have hst:u9 m n D=.col ss:=by unfold u9;rw [hR,hS];show (if _ then _ else U7 m D ss)=_;rw [if_neg hlt];unfold U7;rw [hC]
     conv=>whnf
     repeat' (first|refine zx ?_|refine qp a4N ?_|refine .inl ⟨_,_,j9 l1 (va _) rfl,?_⟩|refine .inl ⟨_,_,j9 l2 (va _) rfl,?_⟩|refine .inl ⟨_,_,j9 l4 (va2 _ ss) rfl,?_⟩|refine f9 (d8 _ _ _) ?_|refine f5 ?_|refine U4 (by rw [a4N];omega) (by rw [a4N];omega) ?_|refine M5 eRR hrr ?_|refine M5 eSS hss ?_|refine zd ?_ ?_<;>intro h<;>try omega|fail)<;>conv=>whnf
     all_goals first
      |omega
      |exact fin0 _ _ (by unfold C5;rw [hst]) (by rw [hst];rfl)
    |some rq=>
     rw [hC,show leI (some rq)=rq from rfl] at l4
     have hst:u9 m n D=.next rq ss:=by unfold u9;rw [hR,hS];show (if _ then _ else U7 m D ss)=_;rw [if_neg hlt];unfold U7;rw [hC]
     have exr:=exc _ _ hst
     conv=>whnf
     repeat' (first|refine zx ?_|refine qp a4N ?_|refine .inl ⟨_,_,j9 l1 (va _) rfl,?_⟩|refine .inl ⟨_,_,j9 l2 (va _) rfl,?_⟩|refine .inl ⟨_,_,j9 l4 (va2 _ ss) rfl,?_⟩|refine .inr ⟨_,_,exr,?_⟩|refine f9 (d8 _ _ _) ?_|refine f5 ?_|refine U4 (by rw [a4N];omega) (by rw [a4N];omega) ?_|refine M5 eRR hrr ?_|refine M5 eSS hss ?_|refine zd ?_ ?_<;>intro h<;>try omega|fail)<;>conv=>whnf
     all_goals first
      |omega
      |exact go _ _ _ hst ⟨⟨g9 om,rfl,rfl⟩,trivial⟩
def bh4 (b:Bool) (x:Int):(⟨(bz x).sg*sg1 b,(bz x).dl⟩:Bg)=bz (sg1 b*x):=by
 cases b with
 |false=>
  show Bg.mk (x.sign*1) (dg x.natAbs)=Bg.mk ((1*x).sign) (dg (1*x).natAbs);rw [a1l,am5]
 |true=>
  show Bg.mk (x.sign*-1) (dg x.natAbs)=Bg.mk ((-1*x).sign) (dg (-1*x).natAbs);rw [show (-1:Int)*x=-x from by omega,Int.sign_neg,a2W,Int.mul_neg,am5]
def ba2 (b:Bool) (x:Int):([C.t (ti ((bz x).sg*sg1 b)),C.t (x6 (bz x).dl)]:List C)=bgC (bz (sg1 b*x)):=by rw [← bh4]
def b2k (b:Bool) (x:Int):-1<=(bz x).sg*sg1 b∧(bz x).sg*sg1 b<=1:=by
 rw [a7N];have hb:sg1 b=1∨sg1 b=-1:=by cases b<;>simp [sg1]
 rcases C4 x with ⟨h,_⟩|⟨h,_⟩|⟨h,_⟩<;>rcases hb with hb|hb<;>rw [h,hb]<;>decide
def aJ9 (b:Bool) (x:Int):(O4 b ((x:Int):Rat)).num=sg1 b*x:=by
 cases b with
 |false=>show ((x:Int):Rat).num=1*x;rw [a78];omega
 |true=>
  show (-((x:Int):Rat)).num=-1*x;rw [af6,a78];omega
def b6n {n i j:Nat} {g:Nat->Int} {x:List C} {y:Int} (e:i=j) (h:j<n):y6 (y6 (zlB (zF n g)) ((zlB (zF n g)).rows.set i x)) (((zlB (zF n g)).rows.set i x).set i (bgC (bz y)))=zlB (zF n fun k=>if k=j then y else g k):=by
 rw [← a0w (g:=g) (y:=y) e h];unfold y6;simp only [List.set_set]
def aQ (w:x4) (b:Bool) (q:Nat):Nat->Int:=fun j=>(O4 b (J5 (scT (w.value.den:Int) w.terms) q j)).num
def b7W (w:x4) (b:Bool):aQ w b 0=fun _=>0:=by
 funext j;show (O4 b (0:Rat)).num=0;have:=aJ9 b 0;simpa using this
def b7A {d:Int} {l:List (Int × Rat)} {q:Nat} {t:Int × Rat} (h:l[q]? =some t):(scT d l)[q]? =some (t.1,((d:Int):Rat)*t.2):=by unfold scT;rw [lba,h];rfl
def b9p {w:x4} {b:Bool} {q:Nat} {t:Int × Rat} {c:Int} (h:w.terms[q]? =some t) (hc:t.2=((c:Int):Rat)):aQ w b (q+1)=fun j=>if j=t.1.toNat then sg1 b*((w.value.den:Int)*c) else aQ w b q j:=by
 funext j;unfold aQ;rw [G0 (b7A h)];simp only;by_cases hj:j=t.1.toNat
 ·rw [if_pos hj,if_pos hj,hc];have e:(((w.value.den:Int):Int):Rat)*((c:Int):Rat)=(((w.value.den:Int)*c:Int):Rat):=by push_cast;rfl
  rw [e,aJ9]
 ·rw [if_neg hj,if_neg hj]
def bl2 (w:x4) (b:Bool):aQ w b w.terms.length=fun j=>(O4 b (y5 (P2 w).terms j)).num:=by
 funext j;unfold aQ y5;show _=(O4 b (J5 (scT (w.value.den:Int) w.terms) (scT (w.value.den:Int) w.terms).length j)).num;rw [show (scT (w.value.den:Int) w.terms).length=w.terms.length by simp [scT]]
def b4P {m n q N n0:Nat} {fr:LB} {sc:LI} {D:Int} {V G:Nat->Int} {O F:Nat->Nat} {A:Nat->Nat->Int} {T T' H:Hp} {x x':Blk} {env env':Env} (hH:H=G1 m n q fr sc D V G O F A (T++x::T')) (hN:m+9+T.length+1=N) (h0:n0<=N) (hT:∀k ∈ T,okB N k) (hx:a2q (idR N) H x x') (hE:X5 (idR N) H env env'):
 Ent n0 (idR N) env H env' (G1 m n q fr sc D V G O F A (T++[x'])):=by
 have e1:G1 m n q fr sc D V G O F A (T++[x'])=G1 m n q fr sc D V G O F A T++[x']:=a3E;have e2:G1 m n q fr sc D V G O F A (T++x::T')=G1 m n q fr sc D V G O F A T++x::T':=a3E;refine b9q (by rw [e1,lbq,V7];show _+1=_;omega) h0 (fun i k' hk=>?_) hE;rw [e1] at hk;have hg:H[i]? =(G1 m n q fr sc D V G O F A T++x::T')[i]?:=by rw [hH,e2]
 obtain ⟨L,hL⟩:∃L,L=G1 m n q fr sc D V G O F A T:=⟨_,rfl⟩;have hLl:L.length=m+9+T.length:=by rw [hL,V7]
 rw [← hL] at hk hg;by_cases hi:i<L.length
 ·rw [lbb hi] at hk hg;exact ⟨k',hg.trans hk,a8H (a4d (m:=m) om hT k' (by rw [hL] at hk;exact lbm hk))⟩
 ·rw [lbc om] at hk hg;have h1:i - L.length<[x'].length:=(lbe.1 hk).1;have h1:i - L.length<1:=h1;have h2:i - L.length=0:=om;rw [h2] at hk hg;simp at hk;subst hk;exact ⟨x,hg,hx⟩
def b2J {ρ:List (Option Nat)} {H:Hp} {n N:Nat} (e:N=n):a2q ρ H (D4 84 2 (List.replicate N [B8 (.int .i64 0),B8 (.slice none 0 0)]) false) (zlB (zF n fun _=>0)):=by
 subst e;refine ⟨rfl,rfl,rfl,.inr (a0s ?_ ?_)⟩
 ·simp [D4,toC,C7]
 ·intro i x y hx hy;simp only [D4,lbk] at hx;split at hx
  ·rename_i hi;injection hx with hx;subst hx;have hy:(toC ((zF N fun _=>0).map U6))[i]? =some y:=hy;rw [toC,lba,lba,P5 hi] at hy;injection hy with hy;subst hy;exact rz
  ·cases hx
abbrev a9R (t:TypeId) (s:Nat):Blk:=⟨.dead,t,s,[],false,false⟩
abbrev bv7 (k n:Nat):Blk:={ mode:=.live,elem:=274,size:=12,rows:=[[C.own (k+13) 0 (k+1) true,.own (k+15) 0 (k+1) true,.own 3 0 n true,.t (ti (bz 1).sg),.t (x6 (bz 1).dl),.own (k+12) 0 (k+1) true,.own 5 0 0 true,.own (k+16) 0 (k+1) true,.own (k+17) 0 (k+1) true,.own (k+18) 0 (k+1) true,.t (ti (bz 1).sg),.t (x6 (bz 1).dl)]],box:=true }
abbrev bs4 (k n:Nat):Blk:={ mode:=.live,elem:=271,size:=1,rows:=[[C.own (k+10) 0 n true]],box:=false }
abbrev hdX (k n:Nat):Blk:={ mode:=.live,elem:=271,size:=1,rows:=hdR 9 k n++[[C.own (k+10) 0 n true]],box:=false }
abbrev b3R (k n:Nat) (fr:LB) (f:Nat × Bool) (sc:LI) (d v:Int) (a:Nat->Int) (V G:Nat->Int) (O F:Nat->Nat) (A:Nat->Nat->Int):Hp:=
 bv7 k n::a9R 84 2::a9R 271 1::zlB (zF n G)::a9R 3 1::Q0 0 F::a9R 3 1::a9R 3 1::a9R 84 2::((mZ k n A).map zlB++
  [bgX d,zlB (zF n a),bgX v,Q0 (k+1) O,zlB (zF k V++[v]),bs4 k n,hdX k n,x9 (frI (fr++[f])),x9 (S0 (fr++[f])),zlB (sc++[d])])
def l10 {a0 a1 a2 a3 a4 a5 a6 a7 a8 a9 b0 b1 b2 b3 b4 b5 b6 b7 b8 b9:Blk} (h0:a0=b0) (h1:a1=b1) (h2:a2=b2) (h3:a3=b3) (h4:a4=b4) (h5:a5=b5) (h6:a6=b6) (h7:a7=b7) (h8:a8=b8) (h9:a9=b9):
 ([a0,a1,a2,a3,a4,a5,a6,a7,a8,a9]:Hp)=[b0,b1,b2,b3,b4,b5,b6,b7,b8,b9]:=by
 subst h0 h1 h2 h3 h4 h5 h6 h7 h8 h9;rfl
def bk0 {N:Nat} {l:List C} (h:∀c ∈ l,match c with|.t _=>True|.own id _ _ _=>id<N|_=>False):∀c ∈ l,match c with|.t _=>True|.ptr id _ _=>id<N|.own id _ _ _=>id<N|.fn _ _=>False:=fun c hc=>by
 have:=h c hc;cases c<;>first|exact this|exact this.elim|trivial
def b85 {k n:Nat} {fr:LB} {f:Nat × Bool} {sc:LI} {d v:Int} {a V G:Nat->Int} {O F:Nat->Nat} {A:Nat->Nat->Int}:∀b ∈ b3R k n fr f sc d v a V G O F A,okB (k+19) b:=by
 intro b hb;simp only [lbz,lby] at hb;have ho:∀(b:Blk),(∀ r ∈ b.rows,∀c ∈ r,match c with|.t _=>True|.own id _ _ _=>id<k+19|_=>False)->okB (k+19) b:=fun b h r hr=>bk0 (h r hr)
 have hd0:∀(t:TypeId) (s:Nat),okB (k+19) (a9R t s):=fun t s r hr=>by cases hr
 rcases hb with rfl|rfl|rfl|rfl|rfl|rfl|rfl|rfl|rfl|hb|rfl|rfl|rfl|rfl|rfl|rfl|rfl|rfl|rfl|rfl|hb
 ·refine ho _ fun r hr c hc=>?_
  simp at hr;subst hr;simp at hc;rcases hc with rfl|rfl|rfl|rfl|rfl|rfl|rfl|rfl|rfl|rfl|rfl|rfl<;>first|trivial|(simp only;omega)
 ·exact hd0 _ _
 ·exact hd0 _ _
 ·exact u0 rfl
 ·exact hd0 _ _
 ·exact u0 rfl
 ·exact hd0 _ _
 ·exact hd0 _ _
 ·exact hd0 _ _
 ·obtain ⟨l,_,rfl⟩:=lbw.1 hb;exact u0 rfl
 ·exact a3S
 ·exact u0 rfl
 ·exact a3S
 ·exact u0 rfl
 ·exact u0 rfl
 ·refine ho _ fun r hr c hc=>?_
  simp at hr;subst hr;simp at hc;subst hc;show k+10<k+19;omega
 ·refine ho _ fun r hr c hc=>?_
  have hr:r ∈ hdR 9 k n++[[C.own (k+10) 0 n true]]:=hr;rcases lby.1 hr with hr|hr
  ·obtain ⟨i,hi,rfl⟩:=lbw.1 hr;have:=lbA.1 hi;simp at hc;subst hc;show i+9<k+19;omega
  ·simp at hr;subst hr;simp at hc;subst hc;show k+10<k+19;omega
 ·exact u0 rfl
 ·exact u0 rfl
 ·exact u0 rfl
 ·cases hb
def a6h {rows rows':List (List T)} {k:Nat} (h:rows.length=k):List.take k (toC rows)++toC rows'=toC (rows++rows'):=by
 rw [lbn (by simp [toC,h])];simp [toC]
def b8B (n k row:Nat) (w:x4) (b:Bool) (fr:LB) (hfr:fr.length=k) (sc:LI) (hsc:sc.length=k) (V G:Nat->Int) (F:Nat->Nat) (A:Nat->Nat->Int) (hn:n<=1000) (hk:k<=10000) (hrow:row<=100000)
 (hr:j2 (-1) n w.terms=true) (hl:w.terms.length<=1000) (hw:z6 w.terms) (hv:rl w.value<=100):
 ec 276 [.c (.ptr 0 0 0),eI n,eI row,as7 w,eI (sg1 b)] (G1 k n 0 fr sc 1 V G (fun i=>n+i) F A []) (.tup []) (b3R k n fr (row,b) sc w.value.den (sg1 b*w.value.num) (aQ w b w.terms.length) V G (fun i=>n+i) F A):=by
 have m1:(w.terms.map o7).length=w.terms.length:=zq;have hd:=a0t w.value;have ld:bl (w.value.den:Int)<=100:=lbR (D5 w.value) hv;have ln:bl w.value.num<=100:=lbR (E0 w.value) hv;have of1:=b3B 1 de de;have cv:=b3l w.value om;have tv1:=b5D w.value om
 (refine M9 d7 Tryz.func276 rfl de ?_;refine u3 d7 ?_;(conv=>whnf);repeat ((first|refine b0x ?_|refine zy ?_);conv=>whnf))
 repeat' (first|refine zz ?_|refine b0x ?_|refine f9 (d8 _ _ _) ?_|refine f5 ?_|apply zD<;>intro h<;>try omega|refine zy ?_|fail)<;>conv=>whnf
 refine u7 d7 ([sP 0 0 0,eI n,eI row,J,eI (sg1 b),J,J,J,S.c (C.t (T.ptr (p4 w))),J,S.c (C.ptr (k+9) 0 0)]++Jn 144) (G1 k n 0 fr sc 1 V G (fun i=>n+i) F A [bgX w.value.den]) ?_ ?_
 ·conv=>whnf
  repeat' (first|refine zx ?_|refine f9 (d8 _ _ _) ?_|refine f5 ?_|refine o5 (d8 _ _ _) ?_|refine x5 (d8 _ _ _) ?_|apply zD<;>intro h<;>try omega)<;>conv=>whnf
  all_goals exact ⟨idR (k+10),p8 (T:=[_]) (T':=[]) rfl rfl (by simp [d8]) ok1 ⟨⟨g9 om,rz⟩,rfl,rfl,rfl,l9 rfl,⟨g9 om,rz⟩,trivial⟩⟩
 refine u7 d7 ([sP 0 0 0,eI n,eI row,J,eI (sg1 b),J,J,J,S.c (C.t (T.ptr (p4 w))),J,S.c (C.ptr (k+9) 0 0)]++Jn 144) (G1 k n 0 fr sc 1 V G (fun i=>n+i) F A [bgX w.value.den]) ?_ ?_
 ·conv=>whnf
  repeat' (first|refine zx ?_|refine f9 (d8 _ _ _) ?_|refine f5 ?_|apply zD<;>intro h<;>try omega)<;>conv=>whnf
  refine j3 d7 (fun q=>([sP 0 0 0,eI n,eI row,J,eI (sg1 b),J,J,J,S.c (C.t (T.ptr (p4 w))),J,S.c (C.ptr (k+9) 0 0),eI q]++Jn 143,G1 k n 0 fr sc 1 V G (fun i=>n+i) F A [bgX w.value.den])) w.terms.length tT (idR (k+10)) trivial ?_ ?_
  ·exact p8 (T:=[_]) (T':=[]) rfl rfl (by simp [d8]) ok1 ⟨⟨g9 om,rz⟩,rfl,rfl,rfl,rfl,⟨g9 om,rz⟩,e7 rfl,trivial⟩
  intro q hq _;by_cases hlt:q<w.terms.length
  ·obtain ⟨t,ht⟩:∃t,w.terms[q]? =some t:=⟨_,lbf hlt⟩;obtain ⟨c,hc,hcb⟩:=hw t (lbm ht);have ci:=ay0 (w.value.den:Int) hd c om hcb;rw [← hc] at ci;conv=>whnf
   repeat' (first|refine zx ?_|refine i6 ht ?_|refine f9 (d8 _ _ _) ?_|refine f5 ?_|refine o5 (d8 _ _ _) ?_|refine x5 (d8 _ _ _) ?_|apply zD<;>intro h<;>try omega)<;>conv=>whnf
   all_goals first|omega|exact ⟨hlt,trivial,idR (k+10),p8 (T:=[_]) (T':=[]) rfl rfl (by simp [d8]) ok1 ⟨⟨g9 om,rz⟩,rfl,rfl,rfl,rfl,⟨g9 om,rz⟩,e7 om,trivial⟩⟩
  ·have hqe:q=w.terms.length:=by omega
   subst hqe;conv=>whnf
   repeat' (first|refine zx ?_|refine f9 (d8 _ _ _) ?_|refine f5 ?_|apply zD<;>intro h<;>try omega)<;>conv=>whnf
   all_goals first|omega|exact ⟨idR (k+10),p8 (T:=[_]) (T':=[]) rfl rfl (by simp [d8]) ok1 ⟨⟨g9 om,rz⟩,rfl,rfl,rfl,rfl,⟨g9 om,rz⟩,trivial⟩⟩
 refine u7 d7 ([sP 0 0 0,eI n,eI row,J,eI (sg1 b),J,J,J,S.c (C.t (T.ptr (p4 w))),J,S.c (C.ptr (k+9) 0 0),J,S.c (C.own (k+10) 0 n true)]++Jn 142) (G1 k n 0 fr sc 1 V G (fun i=>n+i) F A [bgX w.value.den,zlB (zF n (aQ w b 0))]) ?_ ?_
 ·conv=>whnf
  repeat' (first|refine zx ?_|refine a1g om om om de ?_|refine f9 (d8 _ _ _) ?_|refine f5 ?_|apply zD<;>intro h<;>try omega)<;>conv=>whnf
  all_goals first|omega|exact ⟨idR (k+11),b4P (T:=[_]) (T':=[]) rfl rfl (by simp [d8]) ok1 (by rw [b7W];exact b2J om) ⟨⟨g9 om,rz⟩,rfl,rfl,rfl,rfl,⟨g9 om,rz⟩,⟨g9 om,rfl,om,fun h=>h⟩,trivial⟩⟩
 refine u7 d7 ([sP 0 0 0,eI n,eI row,J,eI (sg1 b),J,J,J,S.c (C.t (T.ptr (p4 w))),J,S.c (C.ptr (k+9) 0 0),J,S.c (C.own (k+10) 0 n true)]++Jn 142) (G1 k n 0 fr sc 1 V G (fun i=>n+i) F A [bgX w.value.den,zlB (zF n (aQ w b w.terms.length))]) ?_ ?_
 ·conv=>whnf
  repeat' (first|refine zx ?_|refine f9 (d8 _ _ _) ?_|refine f5 ?_|apply zD<;>intro h<;>try omega)<;>conv=>whnf
  refine j3 d7 (fun q=>([sP 0 0 0,eI n,eI row,J,eI (sg1 b),J,J,J,S.c (C.t (T.ptr (p4 w))),J,S.c (C.ptr (k+9) 0 0),J,S.c (C.own (k+10) 0 n true),eI q]++Jn 141,G1 k n 0 fr sc 1 V G (fun i=>n+i) F A [bgX w.value.den,zlB (zF n (aQ w b q))])) w.terms.length tT (idR (k+11)) trivial ?_ ?_
  ·exact p8 (T:=[_,_]) (T':=[]) rfl rfl (by simp [d8]) (by intro z hz;simp at hz;rcases hz with rfl|rfl<;>first|exact a3S|exact u0 rfl) ⟨⟨g9 om,rfl,rfl⟩,rfl,rfl,rfl,rfl,⟨g9 om,rfl,rfl⟩,⟨g9 om,rfl,rfl,fun h=>h⟩,e7 rfl,trivial⟩
  intro q hq _;by_cases hlt:q<w.terms.length
  ·obtain ⟨t,ht⟩:∃t,w.terms[q]? =some t:=⟨_,lbf hlt⟩;obtain ⟨c,hc,hcb⟩:=hw t (lbm ht);obtain ⟨t0,t1,t2⟩:=v8 hr t (lbm ht);have ti:=aP6 (w.value.den:Int) c om hcb;rw [← hc] at ti;have eV:0+t.1.toNat=t.1.toNat:=om;have gp:(zF n (aQ w b q))[0+t.1.toNat]? =some (aQ w b q t.1.toNat):=by rw [eV,P5 om]
   have hsr:=b2k b ((w.value.den:Int)*c);conv=>whnf
   repeat' (first|refine zx ?_|refine qp ti ?_|refine i6 ht ?_|refine a1w gp ?_|refine aG8 (by show _<(toC _).length;simp [toC,C7];omega) ?_|refine f9 (d8 _ _ _) ?_|refine f5 ?_|refine o5 (d8 _ _ _) ?_|refine x5 (d8 _ _ _) ?_|refine g8 (t:=1) (d8 _ _ _) ?_|refine i7 (t:=1) (d8 _ _ _) ?_|refine bl0 [0,6] ?_|apply zD<;>intro h<;>try omega)<;>conv=>whnf
   all_goals first
    |omega
    |(refine ⟨hlt,trivial,idR (k+11),p8 (T:=[_,zlB (zF n (aQ w b (q+1)))]) (T':=[]) (H6 rfl rfl rfl rfl rfl rfl rfl rfl rfl (congrArg (fun z=>(mZ k n A).map zlB++[bgX w.value.den,z]) ?_)) rfl (by simp [d8]) (by intro z hz;simp at hz;rcases hz with rfl|rfl<;>first|exact a3S|exact u0 rfl) ⟨⟨g9 om,rfl,rfl⟩,rfl,rfl,rfl,rfl,⟨g9 om,rfl,rfl⟩,⟨g9 om,rfl,rfl,fun h=>h⟩,e7 om,trivial⟩⟩
      rw [ba2,b9p ht hc];exact b6n eV om)
  ·have hqe:q=w.terms.length:=by omega
   subst hqe;conv=>whnf
   repeat' (first|refine zx ?_|refine f9 (d8 _ _ _) ?_|refine f5 ?_|apply zD<;>intro h<;>try omega)<;>conv=>whnf
   all_goals first|omega|exact ⟨idR (k+11),p8 (T:=[_,_]) (T':=[]) rfl rfl (by simp [d8]) (by intro z hz;simp at hz;rcases hz with rfl|rfl<;>first|exact a3S|exact u0 rfl) ⟨⟨g9 om,rfl,rfl⟩,rfl,rfl,rfl,rfl,⟨g9 om,rfl,rfl⟩,⟨g9 om,rfl,rfl,fun h=>h⟩,trivial⟩⟩
 refine u7 d7 ([sP 0 0 0,eI n,eI row,J,eI (sg1 b),J,J,J,S.c (C.t (T.ptr (p4 w))),J,S.c (C.ptr (k+9) 0 0),J,S.c (C.own (k+10) 0 n true),J,S.c (C.ptr (k+11) 0 0)]++Jn 140) (G1 k n 0 fr sc 1 V G (fun i=>n+i) F A [bgX w.value.den,zlB (zF n (aQ w b w.terms.length)),bgX w.value.num]) ?_ ?_
 ·conv=>whnf
  repeat' (first|refine zx ?_|refine f9 (d8 _ _ _) ?_|refine f5 ?_|refine o5 (d8 _ _ _) ?_|refine x5 (d8 _ _ _) ?_|refine g8 (t:=1) (d8 _ _ _) ?_|refine i7 (t:=1) (d8 _ _ _) ?_|refine g8 (t:=2) (d8 _ _ _) ?_|refine i7 (t:=2) (d8 _ _ _) ?_|apply zD<;>intro h<;>try omega)<;>conv=>whnf
  all_goals first|omega|exact ⟨idR (k+12),p8 (T:=[_,_,_]) (T':=[]) rfl rfl (by simp [d8]) (by intro z hz;simp at hz;rcases hz with rfl|rfl|rfl<;>first|exact a3S|exact u0 rfl) ⟨⟨g9 om,rfl,rfl⟩,rfl,rfl,rfl,rfl,⟨g9 om,rfl,rfl⟩,⟨g9 om,rfl,rfl,fun h=>h⟩,⟨g9 om,rfl,rfl⟩,trivial⟩⟩
 have hsv:=b2k b w.value.num;refine u7 d7 ([sP 0 0 0,eI n,eI row,J,eI (sg1 b),J,J,J,J,J,S.c (C.ptr (k+9) 0 0),J,S.c (C.own (k+10) 0 n true),J,S.c (C.ptr (k+11) 0 0)]++Jn 140) (G1 k n 0 fr sc 1 V G (fun i=>n+i) F A [bgX w.value.den,zlB (zF n (aQ w b w.terms.length)),bgX (sg1 b*w.value.num)]) ?_ ?_
 ·conv=>whnf
  repeat' (first|refine zx ?_|refine f9 (d8 _ _ _) ?_|refine f5 ?_|refine o5 (d8 _ _ _) ?_|refine x5 (d8 _ _ _) ?_|refine g8 (t:=1) (d8 _ _ _) ?_|refine i7 (t:=1) (d8 _ _ _) ?_|refine g8 (t:=2) (d8 _ _ _) ?_|refine i7 (t:=2) (d8 _ _ _) ?_|apply zD<;>intro h<;>try omega)<;>conv=>whnf
  all_goals first|omega|exact ⟨idR (k+12),p8 (T:=[_,_,bgX (sg1 b*w.value.num)]) (T':=[]) (H6 rfl rfl rfl rfl rfl rfl rfl rfl rfl (congrArg (fun z=>(mZ k n A).map zlB++[bgX w.value.den,zlB (zF n (aQ w b w.terms.length)),{ bgX w.value.num with rows:=[z] }]) (ba2 b w.value.num))) rfl (by simp [d8]) (by intro z hz;simp at hz;rcases hz with rfl|rfl|rfl<;>first|exact a3S|exact u0 rfl) ⟨⟨g9 om,rfl,rfl⟩,rfl,rfl,rfl,⟨g9 om,rfl,rfl⟩,⟨g9 om,rfl,rfl,fun h=>h⟩,⟨g9 om,rfl,rfl⟩,trivial⟩⟩
 (refine u3 d7 ?_;conv=>whnf)
 repeat' (first|refine zx ?_|refine f9 (d8 _ _ _) ?_|refine f5 ?_|refine o5 (d8 _ _ _) ?_|refine x5 (d8 _ _ _) ?_|refine g8 (t:=1) (d8 _ _ _) ?_|refine i7 (t:=1) (d8 _ _ _) ?_|refine g8 (t:=2) (d8 _ _ _) ?_|refine i7 (t:=2) (d8 _ _ _) ?_|refine w6 (by simp [toC,m6,C7,y8,frI,S0,hfr,hsc]) (by simp [toC,m6,C7,y8,frI,S0,hfr,hsc];omega) ?_|refine g8 (t:=3) (d8 _ _ _) ?_|refine g8 (t:=4) (d8 _ _ _) ?_|refine g8 (t:=5) (d8 _ _ _) ?_|refine i7 (t:=5) (d8 _ _ _) ?_|refine a2D (lbQ 1) ?_|refine bl0 [0] ?_|apply zD<;>intro h<;>try omega)<;>conv=>whnf
 (refine u3 d7 ?_;conv=>whnf)
 repeat' (first|refine zx ?_|refine f9 (d8 _ _ _) ?_|refine f5 ?_|refine o5 (d8 _ _ _) ?_|refine x5 (d8 _ _ _) ?_|refine g8 (t:=1) (d8 _ _ _) ?_|refine i7 (t:=1) (d8 _ _ _) ?_|refine g8 (t:=2) (d8 _ _ _) ?_|refine i7 (t:=2) (d8 _ _ _) ?_|refine w6 (by simp [toC,m6,C7,y8,frI,S0,hfr,hsc]) (by simp [toC,m6,C7,y8,frI,S0,hfr,hsc];omega) ?_|refine g8 (t:=3) (d8 _ _ _) ?_|refine g8 (t:=4) (d8 _ _ _) ?_|refine g8 (t:=5) (d8 _ _ _) ?_|refine i7 (t:=5) (d8 _ _ _) ?_|refine a2D (lbQ 1) ?_|refine bl0 [0] ?_|apply zD<;>intro h<;>try omega)<;>conv=>whnf
 (refine u3 d7 ?_;conv=>whnf)
 repeat' (first|refine zx ?_|refine f9 (d8 _ _ _) ?_|refine f5 ?_|refine o5 (d8 _ _ _) ?_|refine x5 (d8 _ _ _) ?_|refine g8 (t:=1) (d8 _ _ _) ?_|refine i7 (t:=1) (d8 _ _ _) ?_|refine g8 (t:=2) (d8 _ _ _) ?_|refine i7 (t:=2) (d8 _ _ _) ?_|refine w6 (by simp [toC,m6,C7,y8,frI,S0,hfr,hsc]) (by simp [toC,m6,C7,y8,frI,S0,hfr,hsc];omega) ?_|refine g8 (t:=3) (d8 _ _ _) ?_|refine g8 (t:=4) (d8 _ _ _) ?_|refine g8 (t:=5) (d8 _ _ _) ?_|refine i7 (t:=5) (d8 _ _ _) ?_|refine a2D (lbQ 1) ?_|refine bl0 [0] ?_|apply zD<;>intro h<;>try omega)<;>conv=>whnf
 (refine u3 d7 ?_;conv=>whnf)
 repeat' (first|refine zx ?_|refine f9 (d8 _ _ _) ?_|refine f5 ?_|refine o5 (d8 _ _ _) ?_|refine x5 (d8 _ _ _) ?_|refine g8 (t:=1) (d8 _ _ _) ?_|refine i7 (t:=1) (d8 _ _ _) ?_|refine g8 (t:=2) (d8 _ _ _) ?_|refine i7 (t:=2) (d8 _ _ _) ?_|refine w6 (by simp [toC,m6,C7,y8,frI,S0,hfr,hsc]) (by simp [toC,m6,C7,y8,frI,S0,hfr,hsc];omega) ?_|refine g8 (t:=3) (d8 _ _ _) ?_|refine g8 (t:=4) (d8 _ _ _) ?_|refine g8 (t:=5) (d8 _ _ _) ?_|refine i7 (t:=5) (d8 _ _ _) ?_|refine a2D (lbQ 1) ?_|refine bl0 [0] ?_|apply zD<;>intro h<;>try omega)<;>conv=>whnf
 (refine u3 d7 ?_;conv=>whnf)
 repeat' (first|refine zx ?_|refine f9 (d8 _ _ _) ?_|refine f5 ?_|refine o5 (d8 _ _ _) ?_|refine x5 (d8 _ _ _) ?_|refine g8 (t:=1) (d8 _ _ _) ?_|refine i7 (t:=1) (d8 _ _ _) ?_|refine g8 (t:=2) (d8 _ _ _) ?_|refine i7 (t:=2) (d8 _ _ _) ?_|refine w6 (by simp [toC,m6,C7,y8,frI,S0,hfr,hsc]) (by simp [toC,m6,C7,y8,frI,S0,hfr,hsc];omega) ?_|refine g8 (t:=3) (d8 _ _ _) ?_|refine g8 (t:=4) (d8 _ _ _) ?_|refine g8 (t:=5) (d8 _ _ _) ?_|refine i7 (t:=5) (d8 _ _ _) ?_|refine a2D (lbQ 1) ?_|refine bl0 [0] ?_|apply zD<;>intro h<;>try omega)<;>conv=>whnf
 refine p5 d7 _ ?_;conv=>whnf
 repeat' (first|refine zx ?_|refine f9 (d8 _ _ _) ?_|refine f5 ?_|refine o5 (d8 _ _ _) ?_|refine x5 (d8 _ _ _) ?_|refine g8 (t:=1) (d8 _ _ _) ?_|refine i7 (t:=1) (d8 _ _ _) ?_|refine g8 (t:=2) (d8 _ _ _) ?_|refine i7 (t:=2) (d8 _ _ _) ?_|refine w6 (by simp [toC,m6,C7,y8,frI,S0,hfr,hsc]) (by simp [toC,m6,C7,y8,frI,S0,hfr,hsc];omega) ?_|refine g8 (t:=3) (d8 _ _ _) ?_|refine g8 (t:=4) (d8 _ _ _) ?_|refine g8 (t:=5) (d8 _ _ _) ?_|refine i7 (t:=5) (d8 _ _ _) ?_|refine a2D (lbQ 1) ?_|refine bl0 [0] ?_|apply zD<;>intro h<;>try omega)<;>conv=>whnf
 refine a6x (n:=k+19) (by simp [d8]) (by simp [d8]) b85 (fun i _=>?_) trivial;refine congrArg (fun H:Hp=>H[i]?) (H6 rfl rfl rfl rfl rfl rfl rfl rfl rfl (congrArg (fun z=>(mZ k n A).map zlB++z) (l10 rfl rfl rfl ?_ ?_ rfl ?_ ?_ ?_ ?_)))
 ·exact congrArg (fun z=>({ mode:=.live,elem:=3,size:=1,rows:=z,box:=false }:Blk)) (a3I (O:=fun i=>n+i) (x:=(n:Int)+k) zq)
 ·refine congrArg (fun z=>({ mode:=.live,elem:=84,size:=2,rows:=z,box:=false }:Blk)) ?_;exact (a6h (rows:=(zF k V).map U6) (rows':=[U6 (sg1 b*w.value.num)]) (by simp [C7])).trans zq
 ·refine congrArg (fun z=>({ mode:=.live,elem:=271,size:=1,rows:=z,box:=false }:Blk)) ?_;show List.take k (hdR 9 k n)++[[C.own (k+10) 0 n true]]=_;rw [lbn (by simp [y8])]
 ·refine congrArg (fun z=>({ mode:=.live,elem:=3,size:=1,rows:=z,box:=false }:Blk)) ?_;exact (a6h (rows:=(frI fr).map k6) (rows':=[k6 row]) (by simp [frI,hfr])).trans (by simp [frI])
 ·refine congrArg (fun z=>({ mode:=.live,elem:=3,size:=1,rows:=z,box:=false }:Blk)) ?_;exact (a6h (rows:=(S0 fr).map k6) (rows':=[k6 (sg1 b)]) (by simp [S0,hfr])).trans (by simp [S0])
 ·refine congrArg (fun z=>({ mode:=.live,elem:=84,size:=2,rows:=z,box:=false }:Blk)) ?_;exact (a6h (rows:=sc.map U6) (rows':=[U6 w.value.den]) (by simp [hsc])).trans zq
def fJ (k i:Nat):Nat:=if i=0 then 0 else if i=1 then k+13 else if i=2 then k+15 else if i=3 then 3 else if i=4 then k+12 else if i=5 then 5 else if i=6 then k+16 else if i=7 then k+17 else if i=8 then k+18 else if i<k+9 then i else k+10
def b63 {k i:Nat} (hi:i<k):fJ k (i+9)=i+9:=by
 unfold fJ;rw [if_neg om,if_neg om,if_neg om,if_neg om,if_neg om,if_neg om,if_neg om,if_neg om,if_neg om,if_pos om]
def bd1 {k:Nat}:fJ k (k+9)=k+10:=by
 unfold fJ;rw [if_neg om,if_neg om,if_neg om,if_neg om,if_neg om,if_neg om,if_neg om,if_neg om,if_neg om,if_neg om]
def bk7 {k i j:Nat} (hi:i<k+10) (hj:j<k+10) (h:fJ k i=fJ k j):i=j:=by
 have key:∀i,i<k+10->(i=0∧fJ k i=0)∨(i=1∧fJ k i=k+13)∨(i=2∧fJ k i=k+15)∨(i=3∧fJ k i=3)∨(i=4∧fJ k i=k+12)∨(i=5∧fJ k i=5)∨(i=6∧fJ k i=k+16)∨(i=7∧fJ k i=k+17)∨(i=8∧fJ k i=k+18)∨(9<=i∧i<k+9∧fJ k i=i)∨(i=k+9∧fJ k i=k+10):=by
  intro i hi;by_cases h0:i=0
  ·subst h0;exact .inl rz
  by_cases h1:i=1
  ·subst h1;exact .inr (.inl rz)
  by_cases h2:i=2
  ·subst h2;exact .inr (.inr (.inl rz))
  by_cases h3:i=3
  ·subst h3;exact .inr (.inr (.inr (.inl rz)))
  by_cases h4:i=4
  ·subst h4;exact .inr (.inr (.inr (.inr (.inl rz))))
  by_cases h5:i=5
  ·subst h5;exact .inr (.inr (.inr (.inr (.inr (.inl rz)))))
  by_cases h6:i=6
  ·subst h6;exact .inr (.inr (.inr (.inr (.inr (.inr (.inl rz))))))
  by_cases h7:i=7
  ·subst h7;exact .inr (.inr (.inr (.inr (.inr (.inr (.inr (.inl rz)))))))
  by_cases h8:i=8
  ·subst h8;exact .inr (.inr (.inr (.inr (.inr (.inr (.inr (.inr (.inl rz))))))))
  obtain ⟨t,rfl⟩:∃t,i=t+9:=⟨i - 9,om⟩;by_cases h9:t<k
  ·have:=b63 h9;omega
  ·have:t=k:=by omega
   subst this;have:=bd1 (k:=t);omega
 have a:=key i hi;have b:=key j hj;omega
def b7N {k:Nat} {V:Nat->Int}:zF (k+1) V=zF k V++[V k]:=by unfold zF;rw [a5R,lbB];rfl
def b6q {k n:Nat}:hdR 9 (k+1) n=hdR 9 k n++[[C.own (k+9) 0 n true]]:=by unfold hdR;rw [a5R,lbB];rfl
def aG1 {k n j:Nat} {A:Nat->Nat->Int} {L:Hp}:((mZ k n A).map zlB++L)[k+j]? =L[j]?:=by
 rw [lbc (by simp [d8])];simp [d8]
def aR1 {k n:Nat} {fr:LB} {f:Nat × Bool} {sc:LI} {d v:Int} {a V G:Nat->Int} {O F:Nat->Nat} {A:Nat->Nat->Int} {env env':Env} (hv:v=V k) (ha:a=A k)
 (hE:X5 (fR (k+10) (fJ k)) (b3R k n fr f sc d v a V G O F A) env env'):Ent 0 (fR (k+10) (fJ k)) env (b3R k n fr f sc d v a V G O F A) env' (G1 (k+1) n 0 (fr++[f]) (sc++[d]) 1 V G O F A []):=by
 subst hv ha;have lk:∀j,(b3R k n fr f sc d (V k) (A k) V G O F A)[k+j+9]? =([bgX d,zlB (zF n (A k)),bgX (V k),Q0 (k+1) O,zlB (zF k V++[V k]),bs4 k n,hdX k n,x9 (frI (fr++[f])),x9 (S0 (fr++[f])),zlB (sc++[d])]:Hp)[j]?:=fun j=>aG1
 have ff:∀i,i<k+10->(fR (k+10) (fJ k))[i]? =some (some (fJ k i)):=fun i hi=>t8 hi
 refine a8W (by simp [d8]) om (fun i hi=>om) (fun i j hi hj h=>bk7 hi hj h) ?_ hE;intro i k' hk;rcases i with _|_|_|_|_|_|_|_|_|i
 ·injection hk with hk;subst hk
  exact ⟨_,rfl,rfl,rfl,rfl,.inr ⟨⟨⟨by rw [ff _ om];rfl,rfl,rfl,fun h=>h⟩,⟨by rw [ff _ om];rfl,rfl,rfl,fun h=>h⟩,⟨by rw [ff _ om];rfl,rfl,rfl,fun h=>h⟩,rfl,rfl,⟨by rw [ff _ om];rfl,rfl,rfl,fun h=>h⟩,⟨by rw [ff _ om];rfl,rfl,rfl,fun h=>h⟩,⟨by rw [ff _ om];rfl,rfl,rfl,fun h=>h⟩,⟨by rw [ff _ om];rfl,rfl,rfl,fun h=>h⟩,⟨by rw [ff _ om];rfl,rfl,rfl,fun h=>h⟩,rz⟩,trivial⟩⟩
 ·injection hk with hk;subst hk
  exact ⟨_,lk 4,by rw [b7N];exact j0 (i5 _)⟩
 ·injection hk with hk;subst hk
  refine ⟨_,lk 6,rfl,rfl,rfl,.inr ?_⟩;show a6B _ _ (hdR 9 k n++[[C.own (k+10) 0 n true]]) (hdR 9 (k+1) n);rw [b6q];refine a0s (by simp [y8]) fun i x y hx hy=>?_
  by_cases hi:i<k
  ·rw [lbb (by simp [y8];exact hi),a80 hi] at hx hy;injection hx with hx;injection hy with hy
   subst hx hy;exact ⟨⟨by rw [ff _ om,b63 hi],rfl,rfl,fun h=>h⟩,trivial⟩
  ·have hl:i<(hdR 9 k n++[[C.own (k+10) 0 n true]]).length:=(lbe.1 hx).1;rw [lbq,y8] at hl;have hl:i<k+1:=hl;have:i=k:=om;subst this;rw [lbc (by simp [y8])] at hx hy;simp [y8] at hx hy;subst hx hy;exact ⟨⟨by rw [ff _ om,bd1],rfl,rfl,fun h=>h⟩,trivial⟩
 ·injection hk with hk;subst hk;exact ⟨_,rfl,j0 (i5 _)⟩
 ·injection hk with hk;subst hk;exact ⟨_,lk 3,j0 (i5 _)⟩
 ·injection hk with hk;subst hk;exact ⟨_,rfl,j0 (i5 _)⟩
 ·injection hk with hk;subst hk;exact ⟨_,lk 7,j0 (i5 _)⟩
 ·injection hk with hk;subst hk;exact ⟨_,lk 8,j0 (i5 _)⟩
 ·injection hk with hk;subst hk;exact ⟨_,lk 9,j0 (i5 _)⟩
 ·have hk:((mZ (k+1) n A).map zlB++[])[i]? =some k':=hk;have hi:i<k+1:=by have:=(lbe.1 hk).1;simpa [d8] using this
  rw [E3 (X9 hi)] at hk;injection hk with hk;subst hk
  by_cases hik:i<k
  ·rw [b63 hik];exact ⟨_,E3 (X9 hik),j0 (i5 _)⟩
  ·have:i=k:=by omega
   subst this;rw [bd1];exact ⟨_,lk 1,j0 (i5 _)⟩
def pJ1:Nat->Option Nat:=fun i=>if i=0 then some 1 else if i=3 then some 0 else none
def b6d (s:i8) (f:Nat × Bool):Int:=match s.rows[f.1]? with
 |none=>1
 |some w=>(w.value.den:Int)
def scL (s:i8) (l:LB):LI:=l.map (b6d s)
def ae1 (s:i8) (l:LB):(scL s l).length=l.length:=by simp [scL]
def aP1 {s:i8} {l:LB} {i:Nat} {b:Bool} {w:x4} (hw:s.rows[i]? =some w):scL s (l++[(i,b)])=scL s l++[(w.value.den:Int)]:=by
 unfold scL;rw [lbB];show _++[b6d s (i,b)]=_;unfold b6d;simp only [hw]
def V0 (s:i8) (g:List (Int × Rat)):Nat->Int:=fun i=>((j4 (j5 s) g).V i).num
def A0 (s:i8) (g:List (Int × Rat)):Nat->Nat->Int:=fun i j=>((j4 (j5 s) g).A i j).num
def C0 (g:List (Int × Rat)) (q:Nat):Nat->Int:=fun j=>(-(J5 g q j)).num
def b9u (g:List (Int × Rat)):C0 g 0=fun _=>0:=by
 funext j;show (-(0:Rat)).num=0
 decide
def b93 {g:List (Int × Rat)} {q:Nat} {t:Int × Rat} {c:Int} (h:g[q]? =some t) (hc:t.2=((c:Int):Rat)):C0 g (q+1)=fun j=>if j=t.1.toNat then -(1*c) else C0 g q j:=by
 funext j;unfold C0;rw [G0 h];simp only;by_cases hj:j=t.1.toNat
 ·rw [if_pos hj,if_pos hj,hc,af6,a78];omega
 ·rw [if_neg hj,if_neg hj]
def bb7 {s:i8} {g:List (Int × Rat)} {k:Nat} {b:Bool} {i:Nat} {w:x4} (h:(f8 (j5 s)).getD k (0,false)=(i,b)) (hw:s.rows[i]? =some w):sg1 b*w.value.num=V0 s g k:=by
 unfold V0;rw [← aE9 (g:=g) h (al2 hw),←aJ9];rfl
def ba8 {s:i8} {g:List (Int × Rat)} {k:Nat} {b:Bool} {i:Nat} {w:x4} (h:(f8 (j5 s)).getD k (0,false)=(i,b)) (hw:s.rows[i]? =some w):aQ w b w.terms.length=A0 s g k:=by
 rw [bl2];funext j;unfold A0;rw [← aN9 (g:=g) h (al2 hw)];rfl
end Go.Proofs.YtikokmdpigploaaGreat
