/- Part 12. -/
import Derived.Test.YtikokmdpigploaaGreatQk11
namespace Go.Proofs.YtikokmdpigploaaGreat
set_option linter.all false
set_option maxRecDepth 100000
set_option maxHeartbeats 8000000
open Go.RowKit
open St1 St2 St3 St4 St5 St6 St7 St8 StA StB StC
structure ExI (a b:Int) (s:Int × Int):Prop where
 e:s.1*b+s.2=(a.natAbs:Int)
 o:0<=s.1
 r:0<=s.2
def ExI.bd {a b:Int} {s:Int × Int} (h:ExI a b s) (hb:0<b):bl s.1<=bl a∧bl s.2<=bl a:=by
 have h1:=h.o;have h2:=h.r;have h3:=h.e;have h4:s.1*1<=s.1*b:=lbX om h1;exact ⟨a4I om,a4I om⟩
def ExI.fin {a b:Int} {s:Int × Int} (h:ExI a b s) (hb:0<b) (hd:b ∣ a) (hlt:s.2<b):a.sign*s.1=a / b:=by
 have h2:=h.r;have h3:=h.e;obtain ⟨k,rfl⟩:=hd;have e0:s.2=0:=by
  have hk:b ∣ ((b*k).natAbs:Int):=Int.dvd_natAbs.2 ⟨k,rfl⟩;obtain ⟨j,hj⟩:=hk;have:s.2=b*(j - s.1):=by rw [Int.mul_sub,←hj,←h3,a78 b s.1];omega
  apply a2R;intro hn;have hp:0<j - s.1:=by
   apply a2R;intro hc;have:b*(j - s.1)<=b*0:=lbX om om;omega
  have:b*1<=b*(j - s.1):=lbX om om;omega
 rw [aK5 _ (by omega:b≠0)];have e1:s.1*b=(b.natAbs:Int)*(k.natAbs:Int):=by rw [e0,a9N] at h3;rw [h3,a2F];push_cast;rfl
 have e2:s.1=(k.natAbs:Int):=by
  have hbn:(b.natAbs:Int)=b:=om;rw [hbn,a78] at e1;exact Int.eq_of_mul_eq_mul_left om e1
 rw [e2,Int.sign_mul,O8 hb,a1S];exact ar1 k
def bw6 {a o:Int}:(⟨(bz o).sg*(bz a).sg,(bz o).dl⟩:Bg)=bz (a.sign*o)∨a=0:=by
 by_cases h:a=0
 ·exact .inr h
 ·left
  rcases b1h h with h|h
  ·rw [a1Y h];show Bg.mk (o.sign*a.sign) (dg o.natAbs)=Bg.mk ((-1*o).sign) (dg (-1*o).natAbs);rw [a1Y h,show (-1:Int)*o=-o by omega,Int.sign_neg,a1T,show o.sign*-1=-o.sign by omega]
  ·rw [O8 h];show Bg.mk (o.sign*a.sign) (dg o.natAbs)=Bg.mk ((1*o).sign) (dg (1*o).natAbs);rw [O8 h,a1S,al9]
def bA4 (a:Int):(⟨(bz a).sg*(bz a).sg,(bz a).dl⟩:Bg)=bz (a.natAbs:Int):=by
 show Bg.mk (a.sign*a.sign) (dg a.natAbs)=Bg.mk (((a.natAbs:Nat):Int).sign) (dg ((a.natAbs:Nat):Int).natAbs);rcases a36 a 0 with h|h|h
 ·rw [a1Y h,O8 om];rfl
 ·subst h;rfl
 ·rw [O8 h,O8 om];rfl
def aL5 (a b:Int) (hb:0<b) (hd:b ∣ a) (la:bl a<=60000) (lb:bl b<=60000):ec 319 [bgS (bz a),bgS (bz b)] [] (bgS (bz (a / b))) []:=by
 have hsq:=bA4 a;have hs:=C8 a;have hsg:(bz a).sg=a.sign:=rfl;have hss:0<=(bz a).sg*(bz a).sg∧(bz a).sg*(bz a).sg<=1:=by
  rw [hsg];rcases hs with ⟨h,_⟩|⟨h,_⟩|⟨h,_⟩<;>rw [h]<;>decide
 (refine ac Tryz.func319 ?_;(conv=>whnf);repeat ((first|refine b0x ?_|refine zy ?_);conv=>whnf))
 repeat' (first|refine zx ?_|apply zD<;>intro h<;>try omega)<;>conv=>whnf
 all_goals try omega
 refine o9 d9 (σ:=Int × Int) (fun s=>([J,J,S.c (C.t (T.ptr [ti (bz a).sg,w7 (bz a).dl])),S.c (C.t (T.ptr [ti (bz b).sg,w7 (bz b).dl])),sP 0 0 0,sP 1 0 0,sP 2 0 0]++Jn 31,[a5R,bgX s.2,bgX s.1])) (ExI a b) (fun s=>s.2.natAbs) (0,(a.natAbs:Int)) [some 0,some 1,some 2]
  ⟨zq,zq,om⟩ ⟨rfl,rfl,⟨⟨rfl,rfl,rfl,.inl ⟨rfl,S6⟩⟩,⟨rfl,rfl,rfl,.inl ⟨?_,?_⟩⟩,⟨rfl,rfl,rfl,.inr rz⟩,trivial⟩,rz⟩ ?_
 ·show [[C.t (ti ((bz a).sg*(bz a).sg)),C.t (w7 (bz a).dl)]]=[bgC (bz (a.natAbs:Int))];rw [← hsq]
 ·exact e7 [[ti ((bz a).sg*(bz a).sg),w7 (bz a).dl]]
 rintro ⟨o,r⟩ hI;have hI:ExI a b (o,r):=hI;obtain ⟨bo,br⟩:=hI.bd hb;have bo:bl o<=bl a:=bo;have br:bl r<=bl a:=br;have h1:o*b+r=(a.natAbs:Int):=hI.e;have h2:0<=o:=hI.o;have h3:0<=r:=hI.r;have hso:-1<=(bz o).sg*(bz a).sg∧(bz o).sg*(bz a).sg<=1:=by
  rw [hsg,ab7];rcases hs with ⟨h,_⟩|⟨h,_⟩|⟨h,_⟩<;>rcases C8 o with ⟨h',_⟩|⟨h',_⟩|⟨h',_⟩<;>rw [h,h']<;>decide
 have cm:=a97 r b om om;by_cases hlt:r<b
 ·have hf:=hI.fin hb hd hlt;have hf:a.sign*o=a / b:=hf;rw [show M6 r b=-1 by unfold M6;rw [if_pos hlt]] at cm;conv=>whnf
  repeat' (first|refine zx ?_|refine ⟨_,a3n (show _<=(bz o).sg*(bz a).sg from by omega) (show (bz o).sg*(bz a).sg<=_ from by omega),?_⟩|apply zD<;>intro h<;>try omega)<;>conv=>whnf
  all_goals first|omega|skip
  refine n9 ?_;rcases bw6 (a:=a) (o:=o) with e|e
  ·rw [hf] at e;rw [← e];exact rz
  ·have:o=0:=by
    subst e;have:=lb1 h2 (show 0<=b by omega);have e0:o*b=0:=by simp at h1;omega
    rcases Int.mul_eq_zero.1 e0 with h|h<;>omega
   subst this e;rw [← hf];exact rz
 ·obtain ⟨q,q0,q1,gu⟩:=b5o r b hb om om;have hc:0<=M6 r b:=by unfold M6;rw [if_neg hlt];split<;>decide
  have bq:bl q<=bl a:=by
   have:q*1<=q*b:=lbX om om;have:=lb1 h2 (show 0<=b by omega);exact a4I om
  have lm:=E3 q b;have ad:=bE6 o q om om;have mu:=aj6 q b om om;have su:=bj2 r (q*b) om om;conv=>whnf
  repeat' (first|refine zx ?_|apply zD<;>intro h<;>try omega)<;>conv=>whnf
  all_goals first|omega|skip
  have hqb:0<q*b:=a9r q0 hb;exact ⟨[some 0,some 1,some 2],(o+q,r - q*b),⟨rfl,rfl,⟨⟨rfl,rfl,rfl,.inl ⟨rfl,S6⟩⟩,⟨rfl,rfl,rfl,.inl ⟨rfl,b8Y _⟩⟩,⟨rfl,rfl,rfl,.inl ⟨rfl,b8Y _⟩⟩,trivial⟩,rz⟩,⟨by show (o+q)*b+(r - q*b)=_;rw [Int.add_mul];omega,by show 0<=o+q;omega,by show 0<=r - q*b;omega⟩,by show (r - q*b).natAbs<r.natAbs;omega⟩
def bi6 (x y:Int):bl (x - y)<=max (bl x) (bl y)+1:=by
 have:=a7N x (-y);rw [U7] at this;rw [a9c];exact this
def bs8 (m n q:Nat) (fr:LB) (sc:LI) (D:Int) (V G:Nat->Int) (O F:Nat->Nat) (A:Nat->Nat->Int) (a p b c:Int) (hD:0<D) (hdv:D ∣ a*p - b*c) (la:bl a<=1000) (lp:bl p<=1000) (lb:bl b<=1000) (lc:bl c<=1000) (lD:bl D<=1000):
 ec 320 [.c (.ptr 0 0 0),bgS (bz a),bgS (bz p),bgS (bz b),bgS (bz c)] (G7 m n q fr sc D V G O F A []) (bgS (bz ((a*p - b*c) / D))) (G7 m n q fr sc D V G O F A []):=by
 have e1:=E3 a p;have e2:=E3 b c;have e3:=bi6 (a*p) (b*c);have m1:=aj6 a p om om;have m2:=aj6 b c om om;have s1:=bj2 (a*p) (b*c) om om;have ex:=aL5 (a*p - b*c) D hD hdv om om;refine ac Tryz.func320 ?_;conv=>whnf
 repeat' (first|refine zz ?_|refine qp m1 ?_|refine qp m2 ?_|refine qp s1 ?_|refine qp ex ?_|refine b0x ?_|refine g8 (e8 _ _ _) ?_|refine f8 ?_|refine o5 (e8 _ _ _) ?_|refine x7 (e8 _ _ _) ?_|apply zD<;>intro<;>try omega|refine zy ?_|fail)<;>conv=>whnf
 all_goals
  refine a5B (m:=m) (n:=n) (q:=q) (fr:=fr) (sc:=sc) (D:=D) (V:=V) (G:=G) (O:=O) (F:=F) (A:=A) (T:=[_]) rfl rfl (by simp [e8]) ?_;exact rz
def aO2 {m n q:Nat} {fr:LB} {sc:LI} {D:Int} {V G:Nat->Int} {O F:Nat->Nat} {A:Nat->Nat->Int} {a p b c:Int} (T:Hp) (hD:0<D) (hdv:D ∣ a*p - b*c) (la:bl a<=1000) (lp:bl p<=1000) (lb:bl b<=1000) (lc:bl c<=1000) (lD:bl D<=1000):
 ec 320 [.c (.ptr 0 0 0),bgS (bz a),bgS (bz p),bgS (bz b),bgS (bz c)] (G7 m n q fr sc D V G O F A T) (bgS (bz ((a*p - b*c) / D))) (G7 m n q fr sc D V G O F A T):=by
 have e:G7 m n q fr sc D V G O F A T=G7 m n q fr sc D V G O F A []++T:=a43 (T:=[]) (T':=T);rw [e];exact a3i (n:=m+9) T (bs8 m n q fr sc D V G O F A a p b c hD hdv la lp lb lc lD) W5 W5 (by simp [okS,okC,okL,c9,bgS,bgC,a0T]) (fun k hk=>⟨(a19 k hk).1,(a19 k hk).2,a4H (lbS _) zq k hk⟩) (fun k hk=>⟨(by rw [(a19 k hk).1];intro h;cases h),a4H (lbS _) zq k hk⟩) rfl rfl
def a12 {n i j:Nat} {g:Nat->Int} {y:Int} (e:i=j) (h:j<n):t4 (zlB (zF n g)) ((zlB (zF n g)).rows.set i (bgC (bz y)))=zlB (zF n fun k=>if k=j then y else g k):=by
 subst e;have:=b9w (row:=zF n g) (y:=y) (rfl:i=i);rw [bq7 h] at this;exact this
def b5k (Z:Zd):Zd:=⟨fun i=>-(Z.V i),fun i j=>-(Z.A i j),fun j=>-(Z.C j),-Z.D,Z.O,Z.F⟩
def br6 (m n:Nat) (fr:LB) (sc:LI) (Z:Zd) (hm:m<=100000) (hn:n<=1000) (hB:ZB m n 1000 Z):
 ec 321 [.c (.ptr 0 0 0)] (K2 m n fr sc Z []) (.tup []) (K2 m n fr sc (b5k Z) []):=by
 have nd:=a5F Z.D (by have:=hB.d;omega);refine ac Tryz.func321 ?_;conv=>whnf
 repeat' (first|refine zx ?_|refine g8 (e8 _ _ _) ?_|refine f8 ?_|refine bl0 [0] ?_|apply zD<;>intro<;>try omega)<;>conv=>whnf
 refine i7 d9 (fun i=>([sP 0 0 0,J,eI i]++Jn 85,G7 m n n fr sc (-Z.D) (tv Z.V i) Z.C Z.O Z.F (ta n Z.A i 0) [])) m tT (idR (m+9)) trivial ?_ ?_
 ·exact p4 (T:=[]) (T':=[]) (I9 rfl (by rw [ag7]) rfl rfl rfl rfl rfl rfl rfl (by rw [b9m];rfl)) rfl (by simp [e8]) zq ⟨⟨i6 om,rz⟩,d7 rfl,trivial⟩
 intro i hi _;by_cases hlt:i<m
 ·have ni:=a5F (Z.V i) (by have:=hB.v i hlt;omega);have eIq:0+(i:Int).toNat=i:=om;have gv:(zF m (tv Z.V i))[0+(i:Int).toNat]? =some (Z.V i):=by rw [eIq,Q2 hlt,b5L]
  conv=>whnf
  repeat' (first|refine zx ?_|refine g8 (e8 _ _ _) ?_|refine f8 ?_|refine a26 gv ?_|refine bl0 [0,1,2,3,4] ?_|apply zD<;>intro<;>try omega)<;>conv=>whnf
  all_goals try omega
  refine i7 d9 (fun j=>([sP 0 0 0,J,eI i,eI j]++Jn 84,G7 m n n fr sc (-Z.D) (tv Z.V (i+1)) Z.C Z.O Z.F (ta n Z.A i j) [])) n tT (idR (m+9)) trivial ?_ ?_
  ·exact p4 (T:=[]) (T':=[]) (I9 rfl ((a12 eIq hlt).trans (by rw [aQ4])) rfl rfl rfl rfl rfl rfl rfl rfl) rfl (by simp [e8]) zq ⟨⟨i6 om,rz⟩,rfl,d7 rfl,trivial⟩
  intro j hj _;have gA:(mZ m n (ta n Z.A i j))[i]? =some (zF n (tv (Z.A i) j)):=by rw [Z6 hlt,bk7]
  by_cases hjl:j<n
  ·have nj:=a5F (Z.A i j) (by have:=hB.a i hlt j hjl;omega);have eJ:0+(j:Int).toNat=j:=om;have gj:(zF n (tv (Z.A i) j))[0+(j:Int).toNat]? =some (Z.A i j):=by rw [eJ,Q2 hjl,b5L]
   have lA:i<(mZ m n (ta n Z.A i j)).length:=by rw [e8];exact hlt
   conv=>whnf
   repeat' (first|refine zx ?_|refine g8 (e8 _ _ _) ?_|refine f8 ?_|refine ae4 eIq hlt ?_|refine G6 gA ?_|refine a26 gj ?_|refine a2f lA (a12 eJ hjl) ?_|refine bl0 [0,1,2,3,4,5,6,7] ?_|apply zD<;>intro<;>try omega)<;>conv=>whnf
   all_goals first|omega|exact ⟨hjl,trivial,idR (m+9),p4 (T:=[]) (T':=[]) (I9 rfl rfl rfl rfl rfl rfl rfl rfl rfl (by rw [aQ4,b3J hlt (bf9 n Z.A i j)];rfl)) rfl (by simp [e8]) zq ⟨⟨i6 om,rz⟩,rfl,d7 om,trivial⟩⟩
  ·have hje:j=n:=by omega
   subst hje;conv=>whnf
   repeat' (first|refine zx ?_|refine g8 (e8 _ _ _) ?_|refine f8 ?_|apply zD<;>intro<;>try omega)<;>conv=>whnf
   all_goals first|omega|exact ⟨hlt,trivial,idR (m+9),p4 (T:=[]) (T':=[]) (I9 rfl rfl rfl rfl rfl rfl rfl rfl rfl (by rw [← bn7];rfl)) rfl (by simp [e8]) zq ⟨⟨i6 om,rz⟩,d7 om,trivial⟩⟩
 ·have hie:i=m:=by omega
  subst hie;conv=>whnf
  repeat' (first|refine zx ?_|refine g8 (e8 _ _ _) ?_|refine f8 ?_|apply zD<;>intro<;>try omega)<;>conv=>whnf
  all_goals try omega
  refine i7 d9 (fun j=>([sP 0 0 0,J,J,J,eI j]++Jn 83,G7 i n n fr sc (-Z.D) (tv Z.V i) (tv Z.C j) Z.O Z.F (ta n Z.A i 0) [])) n tT (idR (i+9)) trivial ?_ ?_
  ·exact p4 (T:=[]) (T':=[]) (I9 rfl rfl rfl (by rw [ag7]) rfl rfl rfl rfl rfl rfl) rfl (by simp [e8]) zq ⟨⟨i6 om,rz⟩,d7 rfl,trivial⟩
  intro j hj _;by_cases hjl:j<n
  ·have nj:=a5F (Z.C j) (by have:=hB.c j hjl;omega);have eJ:0+(j:Int).toNat=j:=om;have gj:(zF n (tv Z.C j))[0+(j:Int).toNat]? =some (Z.C j):=by rw [eJ,Q2 hjl,b5L]
   conv=>whnf
   repeat' (first|refine zx ?_|refine g8 (e8 _ _ _) ?_|refine f8 ?_|refine a26 gj ?_|refine bl0 [0,1,2,3,4] ?_|apply zD<;>intro<;>try omega)<;>conv=>whnf
   all_goals first|omega|exact ⟨hjl,trivial,idR (i+9),p4 (T:=[]) (T':=[]) (I9 rfl rfl rfl ((a12 eJ hjl).trans (by rw [aQ4])) rfl rfl rfl rfl rfl rfl) rfl (by simp [e8]) zq ⟨⟨i6 om,rz⟩,d7 om,trivial⟩⟩
  ·have hje:j=n:=by omega
   subst hje;have eA:mZ i j (ta j Z.A i 0)=mZ i j (b5k Z).A:=a8s fun a ha b hb=>bw9 ha hb
   have eV:zF i (tv Z.V i)=zF i (b5k Z).V:=a2U fun a ha=>b1b ha
   have eC:zF j (tv Z.C j)=zF j (b5k Z).C:=a2U fun a ha=>b1b ha
   have e0:G7 i j j fr sc (-Z.D) (tv Z.V i) (tv Z.C j) Z.O Z.F (ta j Z.A i 0) []=K2 i j fr sc (b5k Z) []:=I9 rfl (by rw [eV]) rfl (by rw [eC]) rfl rfl rfl rfl rfl (by rw [eA]);conv=>whnf
   repeat' (first|refine zx ?_|refine g8 (e8 _ _ _) ?_|refine f8 ?_|apply zD<;>intro<;>try omega)<;>conv=>whnf
   all_goals first|omega|(rw [← e0];exact a5B (T:=[]) rfl rfl (by simp [e8]) trivial)
def a4k {N:Nat} {z:Int}:okB N (bgX z):=t7 (rows:=[[ti (bz z).sg,w7 (bz z).dl]]) rfl
def ok1 {N:Nat} {z:Int}:∀k ∈ [bgX z],okB N k:=by intro k hk;simp at hk;subst hk;exact a4k
def ok2 {N:Nat} {z y:Int}:∀k ∈ [bgX z,bgX y],okB N k:=by intro k hk;simp at hk;rcases hk with rfl|rfl<;>exact a4k
def aO6 (m n:Nat) (fr:List (Nat × Bool)) (sc:List Int) (Z:Zd) (r s:Nat) (hm:m<=100000) (hn:n<=1000) (hr:r<m) (hs:s<n) (hd:0<Z.D) (hA:Z.A r s≠0) (hB:ZB m n 1000 Z) (hB':ZB m n 1000 (Z.exch r s)) (hdv:bt0 m n Z r s):
 d6 Tryz.prog 283 [.c (.ptr 0 0 0),c9 .i64 r,c9 .i64 s] (K2 m n fr sc Z []) (.tup []) (K2 m n fr sc (Z.exch r s) []):=by
 have eR:0+(r:Int).toNat=r:=om
 have eS:0+(s:Int).toNat=s:=om
 have bp:=hB.a r hr s hs
 have bd:=hB.d
 have gA:(mZ m n Z.A)[r]? =some (zF n (Z.A r)):=Z6 hr
 have e1V:∀i,i<m->bl (Z.exV r s i)<=1000:=fun i hi=>by
  have h:=hB'.v i hi
  have e:(Z.exch r s).V i=if Z.A r s<0 then -(Z.exV r s i) else Z.exV r s i:=rfl
  rw [e] at h
  split at h
  ·rwa [U7] at h
  ·exact h
 have e1A:∀i,i<m->∀j,j<n->bl (Z.exA r s i j)<=1000:=fun i hi j hj=>by
  have h:=hB'.a i hi j hj
  have e:(Z.exch r s).A i j=if Z.A r s<0 then -(Z.exA r s i j) else Z.exA r s i j:=rfl
  rw [e] at h
  split at h
  ·rwa [U7] at h
  ·exact h
 have e1C:∀j,j<n->bl (Z.exC r s j)<=1000:=fun j hj=>by
  have h:=hB'.c j hj
  have e:(Z.exch r s).C j=if Z.A r s<0 then -(Z.exC r s j) else Z.exC r s j:=rfl
  rw [e] at h
  split at h
  ·rwa [U7] at h
  ·exact h
 have bcs:=hB.c s hs
 have gAm:(mZ m n (AE Z r s m))[r]? =some (zF n (Z.A r)):=by rw [Z6 hr,be3]
 have lAm:r<(mZ m n (AE Z r s m)).length:=by rw [e8];exact hr
 (refine U1 d9 Tryz.func283 rfl de ?_;refine y4 d9 ?_;(conv=>whnf);repeat ((first|refine b0x ?_|refine zy ?_);conv=>whnf))
 repeat' (first|refine zx ?_|refine g8 (e8 _ _ _) ?_|refine f8 ?_|refine ae4 eR hr ?_|refine bk4 eS hs ?_|refine G6 gA ?_|refine o5 (e8 _ _ _) ?_|refine x7 (e8 _ _ _) ?_|refine zd ?_ ?_<;>intro h<;>try omega|fail)<;>conv=>whnf
 refine x9 d9 ([S.c (C.ptr 0 0 0),c9 .i64 r,c9 .i64 s,J,J,J,S.c (C.ptr (m+9) 0 0)]++Jn 221) (G7 m n n fr sc Z.D (VE Z r s m) Z.C Z.O Z.F (AE Z r s m) [bgX (Z.A r s)]) ?_ ?_
 ·conv=>whnf
  repeat' (first|refine zx ?_|refine g8 (e8 _ _ _) ?_|refine f8 ?_|refine zd ?_ ?_<;>intro h<;>try omega|fail)<;>conv=>whnf
  refine i7 d9 (fun i=>([S.c (C.ptr 0 0 0),c9 .i64 r,c9 .i64 s,J,J,J,S.c (C.ptr (m+9) 0 0),c9 .i64 i]++Jn 220,G7 m n n fr sc Z.D (VE Z r s i) Z.C Z.O Z.F (AE Z r s i) [bgX (Z.A r s)])) m (fun _=>True) (idR (m+10)) trivial ?_ ?_
  ·exact p4 (T:=[_]) (T':=[]) (I9 rfl (by rw [bg5]) rfl rfl rfl rfl rfl rfl rfl (by rw [be4];rfl)) rfl (by simp [e8]) ok1 ⟨⟨i6 om,rfl,rfl⟩,rfl,rfl,⟨i6 om,rfl,rfl⟩,d7 rfl,trivial⟩
  intro i hi _
  by_cases hlt:i<m
  ·by_cases hir:i=r
   ·subst hir
    conv=>whnf
    repeat' (first|refine zx ?_|refine g8 (e8 _ _ _) ?_|refine f8 ?_|refine zd ?_ ?_<;>intro h<;>try omega|fail)<;>conv=>whnf
    all_goals first
     |omega
     |exact ⟨hlt,trivial,idR (m+10),p4 (T:=[_]) (T':=[]) (I9 rfl (by rw [← bd3]) rfl rfl rfl rfl rfl rfl rfl (by rw [← bj1];rfl)) rfl (by simp [e8]) ok1 ⟨⟨i6 om,rfl,rfl⟩,rfl,rfl,⟨i6 om,rfl,rfl⟩,d7 om,trivial⟩⟩
   ·have gAi:(mZ m n (AE Z r s i))[i]? =some (zF n (Z.A i)):=by rw [Z6 hlt,bl8]
    have eIq:0+(i:Int).toNat=i:=om
    have gv:(zF m (VE Z r s i))[0+(i:Int).toNat]? =some (Z.V i):=by rw [eIq,Q2 hlt,bz7]
    have gvr:(zF m (VE Z r s i))[0+(r:Int).toNat]? =some (Z.V r):=by rw [eR,Q2 hr,bH9]
    have bi:=hB.v i hlt
    have br:=hB.v r hr
    have bis:=hB.a i hlt s hs
    have n1:=fun T=>aO2 (m:=m) (n:=n) (q:=n) (fr:=fr) (sc:=sc) (V:=VE Z r s i) (G:=Z.C) (O:=Z.O) (F:=Z.F) (A:=AE Z r s i) T hd (hdv.v i hlt hir) bi bp bis br bd
    conv=>whnf
    repeat' (first|refine zx ?_|refine .inr ⟨_,_,n1 _,?_⟩|refine g8 (e8 _ _ _) ?_|refine f8 ?_|refine ae4 eIq hlt ?_|refine bk4 eS hs ?_|refine a26 gv ?_|refine a26 gvr ?_|refine G6 gAi ?_|refine o5 (e8 _ _ _) ?_|refine i5 (t:=1) (e8 _ _ _) ?_|refine x7 (e8 _ _ _) ?_|refine i9 (t:=1) (e8 _ _ _) ?_|refine bl0 [0,1,2,3,4] ?_|refine zd ?_ ?_<;>intro h<;>try omega|fail)<;>conv=>whnf
    all_goals try omega
    refine i7 d9 (fun j=>([S.c (C.ptr 0 0 0),c9 .i64 r,c9 .i64 s,J,J,J,S.c (C.ptr (m+9) 0 0),c9 .i64 i,S.c (C.ptr (m+10) 0 0),c9 .i64 j]++Jn 218,G7 m n n fr sc Z.D (VE Z r s (i+1)) Z.C Z.O Z.F (AI Z r s i j) [bgX (Z.A r s),bgX (Z.A i s)])) n (fun _=>True) (idR (m+11)) trivial ?_ ?_
    ·exact p4 (T:=[_,_]) (T':=[]) (I9 rfl ((a12 eIq hlt).trans (by rw [← bd7 hir];rfl)) rfl rfl rfl rfl rfl rfl rfl (by rw [b9Q];rfl)) rfl (by simp [e8]) ok2 ⟨⟨i6 om,rfl,rfl⟩,rfl,rfl,⟨i6 om,rfl,rfl⟩,rfl,⟨i6 om,rfl,rfl⟩,d7 rfl,trivial⟩
    intro j hj _
    have gAi:(mZ m n (AI Z r s i j))[i]? =some (zF n (exr Z r s i j)):=by rw [Z6 hlt,b2R]
    have gAr:(mZ m n (AI Z r s i j))[r]? =some (zF n (Z.A r)):=by rw [Z6 hr,bF7 hir]
    have lA:i<(mZ m n (AI Z r s i j)).length:=by rw [e8];exact hlt
    by_cases hjl:j<n
    ·by_cases hjs:j=s
     ·subst hjs
      conv=>whnf
      repeat' (first|refine zx ?_|refine g8 (e8 _ _ _) ?_|refine f8 ?_|refine zd ?_ ?_<;>intro h<;>try omega|fail)<;>conv=>whnf
      all_goals first
       |omega
       |exact ⟨hjl,trivial,idR (m+11),p4 (T:=[_,_]) (T':=[]) (I9 rfl rfl rfl rfl rfl rfl rfl rfl rfl (by rw [← bc1];rfl)) rfl (by simp [e8]) ok2 ⟨⟨i6 om,rfl,rfl⟩,rfl,rfl,⟨i6 om,rfl,rfl⟩,rfl,⟨i6 om,rfl,rfl⟩,d7 om,trivial⟩⟩
     ·have eJ:0+(j:Int).toNat=j:=by omega
      have gi:(zF n (exr Z r s i j))[0+(j:Int).toNat]? =some (Z.A i j):=by
       rw [eJ,Q2 hjl];unfold exr;rw [if_neg om]
      have grj:(zF n (Z.A r))[0+(j:Int).toNat]? =some (Z.A r j):=by rw [eJ,Q2 hjl]
      have bij:=hB.a i hlt j hjl
      have brj:=hB.a r hr j hjl
      have n2:=fun T=>aO2 (m:=m) (n:=n) (q:=n) (fr:=fr) (sc:=sc) (V:=VE Z r s (i+1)) (G:=Z.C) (O:=Z.O) (F:=Z.F) (A:=AI Z r s i j) T hd (hdv.a i hlt hir j hjl hjs) bij bp bis brj bd
      have ex:(fun k=>if k=j then (Z.A i j*Z.A r s - Z.A i s*Z.A r j) / Z.D else exr Z r s i j k)=exr Z r s i (j+1):=b7t hjs
      conv=>whnf
      repeat' (first|refine zx ?_|refine .inr ⟨_,_,n2 _,?_⟩|refine g8 (e8 _ _ _) ?_|refine f8 ?_|refine ae4 eIq hlt ?_|refine ae4 eR hr ?_|refine a26 gi ?_|refine a26 grj ?_|refine G6 gAi ?_|refine G6 gAr ?_|refine o5 (e8 _ _ _) ?_|refine i5 (t:=1) (e8 _ _ _) ?_|refine a2f lA (a12 (g:=exr Z r s i j) eJ hjl) ?_|refine bl0 [0,1,2,3,4,5,6,7] ?_|refine zd ?_ ?_<;>intro h<;>try omega|fail)<;>conv=>whnf
      all_goals first
       |omega
       |exact ⟨hjl,trivial,idR (m+11),p4 (T:=[_,_]) (T':=[]) (I9 rfl rfl rfl rfl rfl rfl rfl rfl rfl (by rw [ex,b3J hlt bg6];rfl)) rfl (by simp [e8]) ok2 ⟨⟨i6 om,rfl,rfl⟩,rfl,rfl,⟨i6 om,rfl,rfl⟩,rfl,⟨i6 om,rfl,rfl⟩,d7 om,trivial⟩⟩
    ·have hje:j=n:=by omega
     subst hje
     have ng:=a5F (Z.A i s) om
     have gi:(zF j (exr Z r s i j))[0+(s:Int).toNat]? =some (Z.A i s):=by
      rw [eS,Q2 hs];unfold exr;rw [if_neg om]
     have eA:(mZ m j (AI Z r s i j)).set i (zF j fun k=>if k=s then -(Z.A i s) else exr Z r s i j k)=mZ m j (AE Z r s (i+1)):=by
      rw [b1s hlt]
      exact a8s fun k hk l hl=>by
       have:=bs3 (Z:=Z) (r:=r) (s:=s) (i:=i) (n:=j) hir (k:=k) hl
       rw [← this,b2R]
       split<;>rfl
     conv=>whnf
     repeat' (first|refine zx ?_|refine qp ng ?_|refine g8 (e8 _ _ _) ?_|refine f8 ?_|refine ae4 eIq hlt ?_|refine a26 gi ?_|refine G6 gAi ?_|refine o5 (e8 _ _ _) ?_|refine i5 (t:=1) (e8 _ _ _) ?_|refine a2f lA (a12 (g:=exr Z r s i j) eS hs) ?_|refine bl0 [0,1,2,3,4,5,6,7] ?_|refine zd ?_ ?_<;>intro h<;>try omega|fail)<;>conv=>whnf
     all_goals first
      |omega
      |exact ⟨hlt,trivial,idR (m+10),p4 (T:=[_]) (T':=[_]) (I9 rfl rfl rfl rfl rfl rfl rfl rfl rfl (by rw [eA];rfl)) rfl (by simp [e8]) ok1 ⟨⟨i6 om,rfl,rfl⟩,rfl,rfl,⟨i6 om,rfl,rfl⟩,d7 om,trivial⟩⟩
  ·have hie:i=m:=by omega
   subst hie
   conv=>whnf
   repeat' (first|refine zx ?_|refine g8 (e8 _ _ _) ?_|refine f8 ?_|refine o5 (e8 _ _ _) ?_|refine i5 (t:=1) (e8 _ _ _) ?_|refine x7 (e8 _ _ _) ?_|refine i9 (t:=1) (e8 _ _ _) ?_|refine zd ?_ ?_<;>intro h<;>try omega|fail)<;>conv=>whnf
   all_goals first
    |omega
    |exact ⟨idR (i+10),p4 (T:=[_]) (T':=[]) rfl rfl (by simp [e8]) ok1 ⟨⟨i6 om,rfl,rfl⟩,rfl,rfl,⟨i6 om,rfl,rfl⟩,trivial⟩⟩
 have gcs:(zF n Z.C)[0+(s:Int).toNat]? =some (Z.C s):=by rw [eS,Q2 hs]
 refine x9 d9 ([S.c (C.ptr 0 0 0),c9 .i64 r,c9 .i64 s,J,J,J,S.c (C.ptr (m+9) 0 0),J,J,J,S.c (C.ptr (m+10) 0 0)]++Jn 217) (G7 m n n fr sc Z.D (VE Z r s m) Z.C Z.O Z.F (AE Z r s m) [bgX (Z.A r s),bgX (Z.C s)]) ?_ ?_
 ·conv=>whnf
  repeat' (first|refine zx ?_|refine a26 gcs ?_|refine g8 (e8 _ _ _) ?_|refine f8 ?_|refine o5 (e8 _ _ _) ?_|refine i5 (t:=1) (e8 _ _ _) ?_|refine x7 (e8 _ _ _) ?_|refine i9 (t:=1) (e8 _ _ _) ?_|refine zd ?_ ?_<;>intro h<;>try omega|fail)<;>conv=>whnf
  all_goals exact ⟨idR (m+11),p4 (T:=[_,_]) (T':=[]) rfl rfl (by simp [e8]) ok2 ⟨⟨i6 om,rfl,rfl⟩,rfl,rfl,⟨i6 om,rfl,rfl⟩,⟨i6 om,rfl,rfl⟩,trivial⟩⟩
 refine x9 d9 ([S.c (C.ptr 0 0 0),c9 .i64 r,c9 .i64 s,J,J,J,S.c (C.ptr (m+9) 0 0),J,J,J,S.c (C.ptr (m+10) 0 0)]++Jn 217) (G7 m n n fr sc Z.D (VE Z r s m) (CE Z r s n) Z.O Z.F (AE Z r s m) [bgX (Z.A r s),bgX (Z.C s)]) ?_ ?_
 ·conv=>whnf
  repeat' (first|refine zx ?_|refine g8 (e8 _ _ _) ?_|refine f8 ?_|refine zd ?_ ?_<;>intro h<;>try omega|fail)<;>conv=>whnf
  refine i7 d9 (fun j=>([S.c (C.ptr 0 0 0),c9 .i64 r,c9 .i64 s,J,J,J,S.c (C.ptr (m+9) 0 0),J,J,J,S.c (C.ptr (m+10) 0 0),c9 .i64 j]++Jn 216,G7 m n n fr sc Z.D (VE Z r s m) (CE Z r s j) Z.O Z.F (AE Z r s m) [bgX (Z.A r s),bgX (Z.C s)])) n (fun _=>True) (idR (m+11)) trivial ?_ ?_
  ·exact p4 (T:=[_,_]) (T':=[]) (I9 rfl rfl rfl (by rw [bi5]) rfl rfl rfl rfl rfl rfl) rfl (by simp [e8]) ok2 ⟨⟨i6 om,rfl,rfl⟩,rfl,rfl,⟨i6 om,rfl,rfl⟩,⟨i6 om,rfl,rfl⟩,d7 rfl,trivial⟩
  intro j hj _
  by_cases hjl:j<n
  ·by_cases hjs:j=s
   ·subst hjs
    conv=>whnf
    repeat' (first|refine zx ?_|refine g8 (e8 _ _ _) ?_|refine f8 ?_|refine zd ?_ ?_<;>intro h<;>try omega|fail)<;>conv=>whnf
    all_goals first
     |omega
     |exact ⟨hjl,trivial,idR (m+11),p4 (T:=[_,_]) (T':=[]) (I9 rfl rfl rfl (by rw [← bb0]) rfl rfl rfl rfl rfl rfl) rfl (by simp [e8]) ok2 ⟨⟨i6 om,rfl,rfl⟩,rfl,rfl,⟨i6 om,rfl,rfl⟩,⟨i6 om,rfl,rfl⟩,d7 om,trivial⟩⟩
   ·have eJ:0+(j:Int).toNat=j:=by omega
    have gj:(zF n (CE Z r s j))[0+(j:Int).toNat]? =some (Z.C j):=by rw [eJ,Q2 hjl,bE8]
    have grj:(zF n (Z.A r))[0+(j:Int).toNat]? =some (Z.A r j):=by rw [eJ,Q2 hjl]
    have bj:=hB.c j hjl
    have brj:=hB.a r hr j hjl
    have n3:=fun T=>aO2 (m:=m) (n:=n) (q:=n) (fr:=fr) (sc:=sc) (V:=VE Z r s m) (G:=CE Z r s j) (O:=Z.O) (F:=Z.F) (A:=AE Z r s m) T hd (hdv.c j hjl hjs) bj bp bcs brj bd
    have ex:(fun k=>if k=j then (Z.C j*Z.A r s - Z.C s*Z.A r j) / Z.D else CE Z r s j k)=CE Z r s (j+1):=bf5 hjs
    conv=>whnf
    repeat' (first|refine zx ?_|refine .inr ⟨_,_,n3 _,?_⟩|refine g8 (e8 _ _ _) ?_|refine f8 ?_|refine ae4 eR hr ?_|refine a26 gj ?_|refine a26 grj ?_|refine G6 gAm ?_|refine o5 (e8 _ _ _) ?_|refine i5 (t:=1) (e8 _ _ _) ?_|refine bl0 [0,1,2,3,4] ?_|refine zd ?_ ?_<;>intro h<;>try omega|fail)<;>conv=>whnf
    all_goals first
     |omega
     |exact ⟨hjl,trivial,idR (m+11),p4 (T:=[_,_]) (T':=[]) (I9 rfl rfl rfl ((a12 eJ hjl).trans (by rw [ex])) rfl rfl rfl rfl rfl rfl) rfl (by simp [e8]) ok2 ⟨⟨i6 om,rfl,rfl⟩,rfl,rfl,⟨i6 om,rfl,rfl⟩,⟨i6 om,rfl,rfl⟩,d7 om,trivial⟩⟩
  ·have hje:j=n:=by omega
   subst hje
   conv=>whnf
   repeat' (first|refine zx ?_|refine g8 (e8 _ _ _) ?_|refine f8 ?_|refine o5 (e8 _ _ _) ?_|refine i5 (t:=1) (e8 _ _ _) ?_|refine x7 (e8 _ _ _) ?_|refine i9 (t:=1) (e8 _ _ _) ?_|refine zd ?_ ?_<;>intro h<;>try omega|fail)<;>conv=>whnf
   all_goals first
    |omega
    |exact ⟨idR (m+11),p4 (T:=[_,_]) (T':=[]) rfl rfl (by simp [e8]) ok2 ⟨⟨i6 om,rfl,rfl⟩,rfl,rfl,⟨i6 om,rfl,rfl⟩,⟨i6 om,rfl,rfl⟩,trivial⟩⟩
 have ng:=a5F (Z.C s) om
 have gce:(zF n (CE Z r s n))[0+(s:Int).toNat]? =some (Z.C s):=by rw [eS,Q2 hs,bF6]
 have eC:zF n (fun j=>if j=s then -(Z.C s) else CE Z r s n j)=zF n (Z.exC r s):=a2U fun j hj=>bu5 hj
 refine x9 d9 ([S.c (C.ptr 0 0 0),c9 .i64 r,c9 .i64 s,J,J,J,S.c (C.ptr (m+9) 0 0)]++Jn 221) (G7 m n n fr sc Z.D (VE Z r s m) (Z.exC r s) Z.O Z.F (AE Z r s m) [bgX (Z.A r s)]) ?_ ?_
 ·conv=>whnf
  repeat' (first|refine zx ?_|refine qp ng ?_|refine a26 gce ?_|refine g8 (e8 _ _ _) ?_|refine f8 ?_|refine o5 (e8 _ _ _) ?_|refine i5 (t:=1) (e8 _ _ _) ?_|refine x7 (e8 _ _ _) ?_|refine i9 (t:=1) (e8 _ _ _) ?_|refine bl0 [0,1,2,3,4] ?_|refine zd ?_ ?_<;>intro h<;>try omega|fail)<;>conv=>whnf
  all_goals exact ⟨idR (m+10),p4 (T:=[_]) (T':=[_]) (I9 rfl rfl rfl ((a12 eS hs).trans (by rw [eC])) rfl rfl rfl rfl rfl rfl) rfl (by simp [e8]) ok1 ⟨⟨i6 om,rfl,rfl⟩,rfl,rfl,⟨i6 om,rfl,rfl⟩,trivial⟩⟩
 have eA:(mZ m n (AE Z r s m)).set r (zF n fun k=>if k=s then Z.D else Z.A r k)=mZ m n (Z.exA r s):=by
  rw [b1s hr]
  exact a8s fun i hi j hj=>by
   have:=bv8 (Z:=Z) (r:=r) (s:=s) (j:=j) hi
   rw [← this,be3]
   split<;>rfl
 have gAs:(zF n (Z.A r))[0+(s:Int).toNat]? =some (Z.A r s):=by rw [eS,Q2 hs]
 have eV:zF m (VE Z r s m)=zF m (Z.exV r s):=a2U fun i hi=>bt9 hi
 refine x9 d9 ([S.c (C.ptr 0 0 0),c9 .i64 r,c9 .i64 s,J,J,J,S.c (C.ptr (m+9) 0 0)]++Jn 221) (G7 m n n fr sc Z.D (Z.exV r s) (Z.exC r s) Z.O Z.F (Z.exA r s) [bgX (Z.A r s)]) ?_ ?_
 ·conv=>whnf
  repeat' (first|refine zx ?_|refine ae4 eR hr ?_|refine a26 gAs ?_|refine G6 gAm ?_|refine a2f lAm (a12 (g:=Z.A r) eS hs) ?_|refine g8 (e8 _ _ _) ?_|refine f8 ?_|refine o5 (e8 _ _ _) ?_|refine i5 (t:=1) (e8 _ _ _) ?_|refine x7 (e8 _ _ _) ?_|refine i9 (t:=1) (e8 _ _ _) ?_|refine bl0 [0,1,2,3,4] ?_|refine zd ?_ ?_<;>intro h<;>try omega|fail)<;>conv=>whnf
  all_goals first
   |omega
   |exact ⟨idR (m+10),p4 (T:=[_]) (T':=[]) (I9 rfl (by rw [eV]) rfl rfl rfl rfl rfl rfl rfl (by rw [eA];rfl)) rfl (by simp [e8]) ok1 ⟨⟨i6 om,rfl,rfl⟩,rfl,rfl,⟨i6 om,rfl,rfl⟩,trivial⟩⟩
 refine x9 d9 ([S.c (C.ptr 0 0 0),c9 .i64 r,c9 .i64 s,J,J,J,S.c (C.ptr (m+9) 0 0)]++Jn 221) (K2 m n fr sc ⟨Z.exV r s,Z.exA r s,Z.exC r s,Z.A r s,Z.O,Z.F⟩ [bgX (Z.A r s)]) ?_ ?_
 ·conv=>whnf
  repeat' (first|refine zx ?_|refine g8 (e8 _ _ _) ?_|refine f8 ?_|refine o5 (e8 _ _ _) ?_|refine i5 (t:=1) (e8 _ _ _) ?_|refine x7 (e8 _ _ _) ?_|refine i9 (t:=1) (e8 _ _ _) ?_|refine zd ?_ ?_<;>intro h<;>try omega|fail)<;>conv=>whnf
  all_goals first
   |omega
   |exact ⟨idR (m+10),p4 (T:=[_]) (T':=[]) (I9 rfl rfl rfl rfl rfl rfl rfl rfl rfl rfl) rfl (by simp [e8]) ok1 ⟨⟨i6 om,rfl,rfl⟩,rfl,rfl,⟨i6 om,rfl,rfl⟩,trivial⟩⟩
 have hsg1:=aJ2 (Z.A r s)
 have tu:=aE4 [bgX (Z.A r s)] (br6 m n fr sc ⟨Z.exV r s,Z.exA r s,Z.exC r s,Z.A r s,Z.O,Z.F⟩ hm hn ⟨e1V,e1A,e1C,bp⟩) (by simp [okS,okC,okL,a0T]) rfl rfl
 refine x9 d9 ([S.c (C.ptr 0 0 0),c9 .i64 r,c9 .i64 s]++Jn 225) (K2 m n fr sc ⟨(Z.exch r s).V,(Z.exch r s).A,(Z.exch r s).C,(Z.exch r s).D,Z.O,Z.F⟩ []) ?_ ?_
 ·by_cases hng:Z.A r s<0
  ·have eZ:∀T,K2 m n fr sc (b5k ⟨Z.exV r s,Z.exA r s,Z.exC r s,Z.A r s,Z.O,Z.F⟩) T=K2 m n fr sc ⟨(Z.exch r s).V,(Z.exch r s).A,(Z.exch r s).C,(Z.exch r s).D,Z.O,Z.F⟩ T:=fun T=>a6M ⟨fun i hi=>(if_pos hng).symm,fun i hi j hj=>(if_pos hng).symm,fun j hj=>(if_pos hng).symm,(if_pos hng).symm,rfl,rfl⟩
   conv=>whnf
   repeat' (first|refine zx ?_|refine .inr ⟨_,_,tu,?_⟩|refine g8 (e8 _ _ _) ?_|refine f8 ?_|refine o5 (e8 _ _ _) ?_|refine i5 (t:=1) (e8 _ _ _) ?_|refine x7 (e8 _ _ _) ?_|refine i9 (t:=1) (e8 _ _ _) ?_|refine zd ?_ ?_<;>intro h<;>try omega|fail)<;>conv=>whnf
   all_goals first
    |omega
    |exact ⟨idR (m+9),p4 (T:=[]) (T':=[_]) (eZ _) rfl (by simp [e8]) zq ⟨⟨i6 om,rfl,rfl⟩,rfl,rfl,trivial⟩⟩
  ·have eZ:∀T,K2 m n fr sc ⟨Z.exV r s,Z.exA r s,Z.exC r s,Z.A r s,Z.O,Z.F⟩ T=K2 m n fr sc ⟨(Z.exch r s).V,(Z.exch r s).A,(Z.exch r s).C,(Z.exch r s).D,Z.O,Z.F⟩ T:=fun T=>a6M ⟨fun i hi=>(if_neg hng).symm,fun i hi j hj=>(if_neg hng).symm,fun j hj=>(if_neg hng).symm,(if_neg hng).symm,rfl,rfl⟩
   conv=>whnf
   repeat' (first|refine zx ?_|refine g8 (e8 _ _ _) ?_|refine f8 ?_|refine o5 (e8 _ _ _) ?_|refine i5 (t:=1) (e8 _ _ _) ?_|refine x7 (e8 _ _ _) ?_|refine i9 (t:=1) (e8 _ _ _) ?_|refine zd ?_ ?_<;>intro h<;>try omega|fail)<;>conv=>whnf
   all_goals first
    |omega
    |exact ⟨idR (m+9),p4 (T:=[]) (T':=[_]) (eZ _) rfl (by simp [e8]) zq ⟨⟨i6 om,rfl,rfl⟩,rfl,rfl,trivial⟩⟩
 have e0:K2 m n fr sc (Z.exch r s) []=G7 m n n fr sc (Z.exch r s).D (Z.exch r s).V (Z.exch r s).C (fun i=>if i=r then Z.F s else Z.O i) (fun j=>if j=s then Z.O r else Z.F j) (Z.exch r s).A []:=rfl
 refine p6 d9 _ ?_
 conv=>whnf
 repeat' (first|refine zx ?_|refine M7 eR hr ?_|refine M7 eS hs ?_|refine g8 (e8 _ _ _) ?_|refine f8 ?_|refine o5 (e8 _ _ _) ?_|refine i5 (t:=1) (e8 _ _ _) ?_|refine x7 (e8 _ _ _) ?_|refine i9 (t:=1) (e8 _ _ _) ?_|refine bl0 [9] ?_|refine zd ?_ ?_<;>intro h<;>try omega|fail)<;>conv=>whnf
 all_goals first
  |omega
  |(rw [e0];exact a5B (T:=[]) (I9 rfl rfl rfl rfl (a3Y eR hr) (a3Y eS hs) rfl rfl rfl rfl) rfl (by simp [e8]) trivial)
def aS7 (n:Int) (hn:0<n) (x:Rat) (ln:bl n<=1000) (lx:rl x<=1000):ec 277 [bgS (bz n),frS (fz x)] [] (bgS (bz (n / (Int.gcd n x.den:Int)*x.den))) []:=by
 have hd:=x.den_pos;have lq:=H6 x;have hg:0<(Int.gcd n x.den:Int):=by have:=Int.gcd_pos_of_ne_zero_left (x.den:Int) (a:=n) om;omega
 have lg:=a9I n x.den (n:=1000) ln om;have ld:bl (n / (Int.gcd n x.den:Int))<=1000:=lbT (a4I (b2e _ _)) ln;have g:=b7g n x.den om om;have e:=aL5 n (Int.gcd n x.den) hg (Int.gcd_dvd_left ..) om om;have m:=aj6 (n / (Int.gcd n x.den:Int)) x.den om om;refine ac Tryz.func277 ?_;conv=>whnf
 repeat' (first|refine zx ?_|apply zD<;>intro<;>try omega)<;>conv=>whnf
 all_goals first|omega|exact n9 rz
def b3O (n:Int) (x:Rat) (hd:(x.den:Int) ∣ n) (ln:bl n<=1000) (lx:rl x<=1000):ec 278 [bgS (bz n),frS (fz x)] [] (bgS (bz (n / x.den*x.num))) []:=by
 have hp:=x.den_pos;have lq:=H6 x;have lp:=G9 x;have ld:bl (n / (x.den:Int))<=1000:=lbT (a4I (b2e _ _)) ln;have e:=aL5 n x.den om hd om om;have m:=aj6 (n / x.den) x.num om om;refine ac Tryz.func278 ?_;conv=>whnf
 repeat' (first|refine zx ?_|apply zD<;>intro<;>try omega)<;>conv=>whnf
 all_goals first|omega|exact n9 rz
def aC1 (n:Int) (hn:0<n) (c:Int) (ln:bl n<=1000) (lc:bl c<=1):ec 277 [bgS (bz n),frS (fz ((c:Int):Rat))] [] (bgS (bz n)) []:=by
 have h1:bl 1<=1:=o7 de de;have h:=aS7 n hn ((c:Int):Rat) ln (by rw [a18];omega);have e:n / (Int.gcd n (((c:Int):Rat).den:Int):Int)*(((c:Int):Rat).den:Int)=n:=by
  rw [av1];have:Int.gcd n ((1:Nat):Int)=1:=zq;rw [this];simp
 rw [e] at h;exact h
def b4h (x:Rat) (lx:rl x<=1000):ec 277 [bgS (bz 1),frS (fz x)] [] (bgS (bz x.den)) []:=by
 have h1:bl 1<=1:=o7 de de;have h:=aS7 1 de x om lx;have e:1 / (Int.gcd 1 (x.den:Int):Int)*(x.den:Int)=(x.den:Int):=by
  have:Int.gcd 1 (x.den:Int)=1:=zq;rw [this];simp
 rw [e] at h;exact h
def aT4 (n c:Int) (ln:bl n<=1000) (lc:bl c<=1):ec 278 [bgS (bz n),frS (fz ((c:Int):Rat))] [] (bgS (bz (n*c))) []:=by
 have h1:bl 1<=1:=o7 de de;have h:=b3O n ((c:Int):Rat) (by rw [av1];exact ⟨n,zq⟩) ln (by rw [a18];omega);rw [av1,a7M] at h;simpa using h
def b6Q (x:Rat) (lx:rl x<=1000):ec 278 [bgS (bz x.den),frS (fz x)] [] (bgS (bz x.num)) []:=by
 have hp:=x.den_pos;have lq:=H6 x;have h:=b3O (x.den:Int) x ⟨1,zq⟩ om lx;have e:(x.den:Int) / (x.den:Int)*x.num=x.num:=by rw [Int.ediv_self om];simp
 rw [e] at h;exact h
def bB4 (m n:Nat) (fr:LB) (sc:LI) (Z:Zd) (hm:m<=100000) (hn:n<=1000):ec 279 [jT m n fr sc Z] [] (eI (leI (B5 Z.O (fun i=>decide (Z.V i<0)) m))) []:=by
 have l1:(X6 m Z.O).length=m:=l9 _ _;obtain ⟨p,hp⟩:∃p:Nat->Bool,p=fun i=>decide (Z.V i<0):=⟨_,rfl⟩
 rw [← hp];refine ac Tryz.func279 ?_;conv=>whnf
 repeat' (first|refine zx ?_|apply zD<;>intro h<;>try omega)<;>conv=>whnf
 refine i7 d9 (fun k=>([jT m n fr sc Z,J,J,eI (leI (B5 Z.O p k)),eI k]++Jn 42,[])) m tT [] trivial
  ⟨rfl,rfl,trivial,⟨rfl,d7 rfl,d7 rfl,trivial⟩⟩ ?_
 intro k hk _;by_cases hlt:k<m
 ·have hsg:=aJ2 (Z.V k);have hpk:p k=decide (Z.V k<0):=by rw [hp]
  have ls:=U2 Z.O p k;have hM:∀b:Nat,(bif true then if 0 > (b:Int) then 0 else (b:Int) else if 0<(b:Int) then 0 else (b:Int))=(b:Int):=fun b=>by simp only [cond];split<;>omega
  cases hl:B5 Z.O p k with
  |none=>
   rw [hl] at ls;have hle:leI none=-1:=rfl;by_cases hd:p k=true
   ·have e1:(k:Int)=leI (B5 Z.O p (k+1)):=by rw [ls,hd];rfl
    rw [hpk] at hd;have hd:=lbM hd;conv=>whnf
    repeat' (first|refine zx ?_|refine a0q rfl hlt ?_|refine s8 rfl hlt ?_|apply zD<;>intro h<;>try omega)<;>conv=>whnf
    all_goals first|omega|exact ⟨hlt,trivial,[],rfl,rfl,trivial,⟨rfl,d7 e1,d7 om,trivial⟩⟩
   ·have e1:leI none=leI (B5 Z.O p (k+1)):=by rw [ls,eq_false_of_ne_true hd];rfl
    have hd:p k=false:=eq_false_of_ne_true hd;rw [hpk] at hd;have hd:=lbN hd;conv=>whnf
    repeat' (first|refine zx ?_|refine a0q rfl hlt ?_|refine s8 rfl hlt ?_|apply zD<;>intro h<;>try omega)<;>conv=>whnf
    all_goals first
     |omega
     |exact ⟨hlt,trivial,[],rfl,rfl,trivial,⟨rfl,d7 e1,d7 om,trivial⟩⟩
  |some b=>
   have hb:=(C6 hl).1;rw [hl] at ls;have hle:leI (some b)=b:=rfl;by_cases hd:p k=true
   ·have e0:B5 Z.O p (k+1)=if decide (Z.O k<Z.O b)=true then some k else some b:=by rw [ls,hd];rfl
    have e1:Z.O k<Z.O b->(k:Int)=leI (B5 Z.O p (k+1)):=fun h=>by rw [e0,if_pos (lbI h)];rfl
    have e2:¬Z.O k<Z.O b->(b:Int)=leI (B5 Z.O p (k+1)):=fun h=>by rw [e0,if_neg (by simp [h])];rfl
    rw [hpk] at hd;have hd:=lbM hd;rw [hle];conv=>whnf
    repeat' (first|refine zx ?_|refine a0q rfl hlt ?_|refine s8 rfl hlt ?_|refine s8 (i:=b) (hM b) om ?_|apply zD<;>intro h<;>try omega)<;>conv=>whnf
    all_goals first|omega|exact ⟨hlt,trivial,[],rfl,rfl,trivial,⟨rfl,d7 (e1 om),d7 om,trivial⟩⟩|exact ⟨hlt,trivial,[],rfl,rfl,trivial,⟨rfl,d7 (e2 om),d7 om,trivial⟩⟩
   ·have e1:leI (some b)=leI (B5 Z.O p (k+1)):=by rw [ls,eq_false_of_ne_true hd];rfl
    have hd:p k=false:=eq_false_of_ne_true hd;rw [hpk] at hd;have hd:=lbN hd;conv=>whnf
    repeat' (first|refine zx ?_|refine a0q rfl hlt ?_|refine s8 rfl hlt ?_|apply zD<;>intro h<;>try omega)<;>conv=>whnf
    all_goals first|omega|exact ⟨hlt,trivial,[],rfl,rfl,trivial,⟨rfl,d7 e1,d7 om,trivial⟩⟩
 ·have hke:k=m:=by omega
  subst hke;conv=>whnf
  repeat' (first|refine zx ?_|apply zD<;>intro h<;>try omega)<;>conv=>whnf
  all_goals first|omega|exact o4 rfl
def b7n (m n:Nat) (fr:LB) (sc:LI) (Z:Zd) (hm:m<=100000) (hn:n<=1000):ec 280 [jT m n fr sc Z] [] (eI (leI (B5 Z.F (fun i=>decide (0<Z.C i)) n))) []:=by
 have l1:(X6 n Z.F).length=n:=l9 _ _;obtain ⟨p,hp⟩:∃p:Nat->Bool,p=fun i=>decide (0<Z.C i):=⟨_,rfl⟩
 rw [← hp];refine ac Tryz.func280 ?_;conv=>whnf
 repeat' (first|refine zx ?_|apply zD<;>intro h<;>try omega)<;>conv=>whnf
 refine i7 d9 (fun k=>([jT m n fr sc Z,J,J,eI (leI (B5 Z.F p k)),eI k]++Jn 42,[])) n tT [] trivial
  ⟨rfl,rfl,trivial,⟨rfl,d7 rfl,d7 rfl,trivial⟩⟩ ?_
 intro k hk _;by_cases hlt:k<n
 ·have hsg:=b35 (Z.C k);have hpk:p k=decide (0<Z.C k):=by rw [hp]
  have ls:=U2 Z.F p k;have hM:∀b:Nat,(bif true then if 0 > (b:Int) then 0 else (b:Int) else if 0<(b:Int) then 0 else (b:Int))=(b:Int):=fun b=>by simp only [cond];split<;>omega
  cases hl:B5 Z.F p k with
  |none=>
   rw [hl] at ls;have hle:leI none=-1:=rfl;by_cases hd:p k=true
   ·have e1:(k:Int)=leI (B5 Z.F p (k+1)):=by rw [ls,hd];rfl
    rw [hpk] at hd;have hd:=lbM hd;conv=>whnf
    repeat' (first|refine zx ?_|refine a0q rfl hlt ?_|refine s8 rfl hlt ?_|apply zD<;>intro h<;>try omega)<;>conv=>whnf
    all_goals first|omega|exact ⟨hlt,trivial,[],rfl,rfl,trivial,⟨rfl,d7 e1,d7 om,trivial⟩⟩
   ·have e1:leI none=leI (B5 Z.F p (k+1)):=by rw [ls,eq_false_of_ne_true hd];rfl
    have hd:p k=false:=eq_false_of_ne_true hd;rw [hpk] at hd;have hd:=lbN hd;conv=>whnf
    repeat' (first|refine zx ?_|refine a0q rfl hlt ?_|refine s8 rfl hlt ?_|apply zD<;>intro h<;>try omega)<;>conv=>whnf
    all_goals first
     |omega
     |exact ⟨hlt,trivial,[],rfl,rfl,trivial,⟨rfl,d7 e1,d7 om,trivial⟩⟩
  |some b=>
   have hb:=(C6 hl).1;rw [hl] at ls;have hle:leI (some b)=b:=rfl;by_cases hd:p k=true
   ·have e0:B5 Z.F p (k+1)=if decide (Z.F k<Z.F b)=true then some k else some b:=by rw [ls,hd];rfl
    have e1:Z.F k<Z.F b->(k:Int)=leI (B5 Z.F p (k+1)):=fun h=>by rw [e0,if_pos (lbI h)];rfl
    have e2:¬Z.F k<Z.F b->(b:Int)=leI (B5 Z.F p (k+1)):=fun h=>by rw [e0,if_neg (by simp [h])];rfl
    rw [hpk] at hd;have hd:=lbM hd;rw [hle];conv=>whnf
    repeat' (first|refine zx ?_|refine a0q rfl hlt ?_|refine s8 rfl hlt ?_|refine s8 (i:=b) (hM b) om ?_|apply zD<;>intro h<;>try omega)<;>conv=>whnf
    all_goals first|omega|exact ⟨hlt,trivial,[],rfl,rfl,trivial,⟨rfl,d7 (e1 om),d7 om,trivial⟩⟩|exact ⟨hlt,trivial,[],rfl,rfl,trivial,⟨rfl,d7 (e2 om),d7 om,trivial⟩⟩
   ·have e1:leI (some b)=leI (B5 Z.F p (k+1)):=by rw [ls,eq_false_of_ne_true hd];rfl
    have hd:p k=false:=eq_false_of_ne_true hd;rw [hpk] at hd;have hd:=lbN hd;conv=>whnf
    repeat' (first|refine zx ?_|refine a0q rfl hlt ?_|refine s8 rfl hlt ?_|apply zD<;>intro h<;>try omega)<;>conv=>whnf
    all_goals first|omega|exact ⟨hlt,trivial,[],rfl,rfl,trivial,⟨rfl,d7 e1,d7 om,trivial⟩⟩
 ·have hke:k=n:=by omega
  subst hke;conv=>whnf
  repeat' (first|refine zx ?_|apply zD<;>intro h<;>try omega)<;>conv=>whnf
  all_goals first|omega|exact o4 rfl
def b7z (m n:Nat) (fr:LB) (sc:LI) (Z:Zd) (r:Nat) (hr:r<m) (hm:m<=100000) (hn:n<=1000):ec 281 [jT m n fr sc Z,eI r] [] (eI (leI (B5 Z.F (fun i=>decide (Z.A r i<0)) n))) []:=by
 have l1:(X6 n Z.F).length=n:=l9 _ _;obtain ⟨p,hp⟩:∃p:Nat->Bool,p=fun i=>decide (Z.A r i<0):=⟨_,rfl⟩
 rw [← hp];refine ac Tryz.func281 ?_;conv=>whnf
 repeat' (first|refine zx ?_|apply zD<;>intro h<;>try omega)<;>conv=>whnf
 refine i7 d9 (fun k=>([jT m n fr sc Z,eI r,J,J,J,eI (leI (B5 Z.F p k)),eI k]++Jn 45,[])) n tT [] trivial
  ⟨rfl,rfl,trivial,⟨rfl,rfl,d7 rfl,d7 rfl,trivial⟩⟩ ?_
 intro k hk _;by_cases hlt:k<n
 ·have hsg:=aJ2 (Z.A r k);have hpk:p k=decide (Z.A r k<0):=by rw [hp]
  have ls:=U2 Z.F p k;have hM:∀b:Nat,(bif true then if 0 > (b:Int) then 0 else (b:Int) else if 0<(b:Int) then 0 else (b:Int))=(b:Int):=fun b=>by simp only [cond];split<;>omega
  cases hl:B5 Z.F p k with
  |none=>
   rw [hl] at ls;have hle:leI none=-1:=rfl;by_cases hd:p k=true
   ·have e1:(k:Int)=leI (B5 Z.F p (k+1)):=by rw [ls,hd];rfl
    rw [hpk] at hd;have hd:=lbM hd;conv=>whnf
    repeat' (first|refine zx ?_|refine a28 rfl hr ?_|refine a0q rfl hlt ?_|refine s8 rfl hlt ?_|apply zD<;>intro h<;>try omega)<;>conv=>whnf
    all_goals first|omega|exact ⟨hlt,trivial,[],rfl,rfl,trivial,⟨rfl,rfl,d7 e1,d7 om,trivial⟩⟩
   ·have e1:leI none=leI (B5 Z.F p (k+1)):=by rw [ls,eq_false_of_ne_true hd];rfl
    have hd:p k=false:=eq_false_of_ne_true hd;rw [hpk] at hd;have hd:=lbN hd;conv=>whnf
    repeat' (first|refine zx ?_|refine a28 rfl hr ?_|refine a0q rfl hlt ?_|refine s8 rfl hlt ?_|apply zD<;>intro h<;>try omega)<;>conv=>whnf
    all_goals first
     |omega
     |exact ⟨hlt,trivial,[],rfl,rfl,trivial,⟨rfl,rfl,d7 e1,d7 om,trivial⟩⟩
  |some b=>
   have hb:=(C6 hl).1;rw [hl] at ls;have hle:leI (some b)=b:=rfl;by_cases hd:p k=true
   ·have e0:B5 Z.F p (k+1)=if decide (Z.F k<Z.F b)=true then some k else some b:=by rw [ls,hd];rfl
    have e1:Z.F k<Z.F b->(k:Int)=leI (B5 Z.F p (k+1)):=fun h=>by rw [e0,if_pos (lbI h)];rfl
    have e2:¬Z.F k<Z.F b->(b:Int)=leI (B5 Z.F p (k+1)):=fun h=>by rw [e0,if_neg (by simp [h])];rfl
    rw [hpk] at hd;have hd:=lbM hd;rw [hle];conv=>whnf
    repeat' (first|refine zx ?_|refine a28 rfl hr ?_|refine a0q rfl hlt ?_|refine s8 rfl hlt ?_|refine s8 (i:=b) (hM b) om ?_|apply zD<;>intro h<;>try omega)<;>conv=>whnf
    all_goals first|omega|exact ⟨hlt,trivial,[],rfl,rfl,trivial,⟨rfl,rfl,d7 (e1 om),d7 om,trivial⟩⟩|exact ⟨hlt,trivial,[],rfl,rfl,trivial,⟨rfl,rfl,d7 (e2 om),d7 om,trivial⟩⟩
   ·have e1:leI (some b)=leI (B5 Z.F p (k+1)):=by rw [ls,eq_false_of_ne_true hd];rfl
    have hd:p k=false:=eq_false_of_ne_true hd;rw [hpk] at hd;have hd:=lbN hd;conv=>whnf
    repeat' (first|refine zx ?_|refine a28 rfl hr ?_|refine a0q rfl hlt ?_|refine s8 rfl hlt ?_|apply zD<;>intro h<;>try omega)<;>conv=>whnf
    all_goals first|omega|exact ⟨hlt,trivial,[],rfl,rfl,trivial,⟨rfl,rfl,d7 e1,d7 om,trivial⟩⟩
 ·have hke:k=n:=by omega
  subst hke;conv=>whnf
  repeat' (first|refine zx ?_|apply zD<;>intro h<;>try omega)<;>conv=>whnf
  all_goals first|omega|exact o4 rfl
def bu2 (m n:Nat) (fr:LB) (sc:LI) (Z:Zd) (s:Nat) (hs:s<n) (hm:m<=100000) (hn:n<=1000):ec 282 [jT m n fr sc Z,eI s] [] (eI (leI (B5 Z.O (fun i=>decide (0<Z.A i s)) m))) []:=by
 have l1:(X6 m Z.O).length=m:=l9 _ _;obtain ⟨p,hp⟩:∃p:Nat->Bool,p=fun i=>decide (0<Z.A i s):=⟨_,rfl⟩
 rw [← hp];refine ac Tryz.func282 ?_;conv=>whnf
 repeat' (first|refine zx ?_|apply zD<;>intro h<;>try omega)<;>conv=>whnf
 refine i7 d9 (fun k=>([jT m n fr sc Z,eI s,J,J,J,eI (leI (B5 Z.O p k)),eI k]++Jn 45,[])) m tT [] trivial
  ⟨rfl,rfl,trivial,⟨rfl,rfl,d7 rfl,d7 rfl,trivial⟩⟩ ?_
 intro k hk _;by_cases hlt:k<m
 ·have hsg:=b35 (Z.A k s);have hpk:p k=decide (0<Z.A k s):=by rw [hp]
  have ls:=U2 Z.O p k;have hM:∀b:Nat,(bif true then if 0 > (b:Int) then 0 else (b:Int) else if 0<(b:Int) then 0 else (b:Int))=(b:Int):=fun b=>by simp only [cond];split<;>omega
  cases hl:B5 Z.O p k with
  |none=>
   rw [hl] at ls;have hle:leI none=-1:=rfl;by_cases hd:p k=true
   ·have e1:(k:Int)=leI (B5 Z.O p (k+1)):=by rw [ls,hd];rfl
    rw [hpk] at hd;have hd:=lbM hd;conv=>whnf
    repeat' (first|refine zx ?_|refine a28 rfl hlt ?_|refine a0q rfl hs ?_|refine s8 rfl hlt ?_|apply zD<;>intro h<;>try omega)<;>conv=>whnf
    all_goals first|omega|exact ⟨hlt,trivial,[],rfl,rfl,trivial,⟨rfl,rfl,d7 e1,d7 om,trivial⟩⟩
   ·have e1:leI none=leI (B5 Z.O p (k+1)):=by rw [ls,eq_false_of_ne_true hd];rfl
    have hd:p k=false:=eq_false_of_ne_true hd;rw [hpk] at hd;have hd:=lbN hd;conv=>whnf
    repeat' (first|refine zx ?_|refine a28 rfl hlt ?_|refine a0q rfl hs ?_|refine s8 rfl hlt ?_|apply zD<;>intro h<;>try omega)<;>conv=>whnf
    all_goals first
     |omega
     |exact ⟨hlt,trivial,[],rfl,rfl,trivial,⟨rfl,rfl,d7 e1,d7 om,trivial⟩⟩
  |some b=>
   have hb:=(C6 hl).1;rw [hl] at ls;have hle:leI (some b)=b:=rfl;by_cases hd:p k=true
   ·have e0:B5 Z.O p (k+1)=if decide (Z.O k<Z.O b)=true then some k else some b:=by rw [ls,hd];rfl
    have e1:Z.O k<Z.O b->(k:Int)=leI (B5 Z.O p (k+1)):=fun h=>by rw [e0,if_pos (lbI h)];rfl
    have e2:¬Z.O k<Z.O b->(b:Int)=leI (B5 Z.O p (k+1)):=fun h=>by rw [e0,if_neg (by simp [h])];rfl
    rw [hpk] at hd;have hd:=lbM hd;rw [hle];conv=>whnf
    repeat' (first|refine zx ?_|refine a28 rfl hlt ?_|refine a0q rfl hs ?_|refine s8 rfl hlt ?_|refine s8 (i:=b) (hM b) om ?_|apply zD<;>intro h<;>try omega)<;>conv=>whnf
    all_goals first|omega|exact ⟨hlt,trivial,[],rfl,rfl,trivial,⟨rfl,rfl,d7 (e1 om),d7 om,trivial⟩⟩|exact ⟨hlt,trivial,[],rfl,rfl,trivial,⟨rfl,rfl,d7 (e2 om),d7 om,trivial⟩⟩
   ·have e1:leI (some b)=leI (B5 Z.O p (k+1)):=by rw [ls,eq_false_of_ne_true hd];rfl
    have hd:p k=false:=eq_false_of_ne_true hd;rw [hpk] at hd;have hd:=lbN hd;conv=>whnf
    repeat' (first|refine zx ?_|refine a28 rfl hlt ?_|refine a0q rfl hs ?_|refine s8 rfl hlt ?_|apply zD<;>intro h<;>try omega)<;>conv=>whnf
    all_goals first|omega|exact ⟨hlt,trivial,[],rfl,rfl,trivial,⟨rfl,rfl,d7 e1,d7 om,trivial⟩⟩
 ·have hke:k=m:=by omega
  subst hke;conv=>whnf
  repeat' (first|refine zx ?_|apply zD<;>intro h<;>try omega)<;>conv=>whnf
  all_goals first|omega|exact o4 rfl
structure bD8 where
 kind:Int
 value:Fr
 X:List Rat
 Y:List Rat
 R:List Rat
structure bD2 (s:j2) (g:List (Int × Rat)) (o:bD8):Prop where
 k:o.kind=0∨o.kind=1∨o.kind=2
 found:o.kind=0->m9 s o.X=true∧o.value=fz (n8 g o.X)∧∀z,m9 s z=true->n8 g o.X<=n8 g z
 none:o.kind=1->∀z,m9 s z=false
 free:o.kind=2->m9 s o.X=true∧b5f s o.R∧n8 g o.R<0
 bx:∀v ∈ o.X,rl v<=100
 br:∀v ∈ o.R,rl v<=100
def bs1 {s:j2} {d:List Rat} (h:b5f (j1 s) d):b5f s d:=by
 have key:∀(k:Nat) (w:z7),s.rows[k]? =some w->((P4 w).kind=w.kind)∧n8 (P4 w).terms d=(((w.value.den:Int):Int):Rat)*n8 w.terms d∧(0:Rat)<(((w.value.den:Int):Int):Rat):=fun k w hw=>
  ⟨rfl,b3M d w.terms,by exact_mod_cast a0Z w.value⟩
 refine ⟨h.len,h.pos,fun k w hw hk=>?_,fun k w hw hk=>?_⟩
 ·obtain ⟨k1,k2,k3⟩:=key k w hw;have:=h.up k (P4 w) (ao7 hw) hk;rw [k2] at this;apply a2R;intro hn;have hp:0<n8 w.terms d:=zg;have:=lb3 k3 hp;grind
 ·obtain ⟨k1,k2,k3⟩:=key k w hw;have:=h.down k (P4 w) (ao7 hw) hk;rw [k2] at this;apply a2R;intro hn;have hp:0< -(n8 w.terms d):=zg;have:=lb3 k3 hp;grind
def bj8 {s:j2} {g:List (Int × Rat)} (h:I8 s) (hg:z5 g):BdD (i8 (j1 s)).length (j1 s).n.toNat 25 (y8 (j1 s) g):=by
 have hn:=L3 h.r;have:=h.n;obtain ⟨p1,p2⟩:=ay8 (j1 s).n.toNat (by show s.n.toNat<10;omega);obtain ⟨b1,b2,b3⟩:=av0 a8O (b8A h.i hg) U0 (a34 U0).1 p1 p2 (by rw [Nat.one_mul];exact p2) p2;exact ⟨b1,fun i hi j hj=>b2 i j hi hj,b3⟩
def a6i {s:j2} {g:List (Int × Rat)} (h:I8 s) (hg:z5 g):∀v ∈ u9 (j1 s) g,rl v<=25:=by
 intro v hv;have hb:=bj8 h hg;obtain ⟨j,hj,rfl⟩:=a3h hv;have hp:X8 (i8 (j1 s)).length (j1 s).n.toNat (y8 (j1 s) g):=O3.p;rw [← a9p hp hj];have key:∀k,k<=(i8 (j1 s)).length->rl (ptK (j1 s).n.toNat (y8 (j1 s) g).O (y8 (j1 s) g).V (fun _=>0) k j)<=25:=by
  intro k;induction k with
  |zero=>intro _;have:=rl0;show rl 0<=_;omega
  |succ k ih=>
   intro hk;rw [G0];simp only;split
   ·exact hb.v k om
   ·exact ih om
 exact key _ (lbS _)
def b4J {s:j2} {g:List (Int × Rat)} {c:Nat} (h:I8 s) (hg:z5 g) (hc:c<(j1 s).n.toNat):∀v ∈ a1W (j1 s) g c,rl v<=25:=by
 intro v hv;have hb:=bj8 h hg;obtain ⟨j,hj,rfl⟩:=a3h hv;have hp:X8 (i8 (j1 s)).length (j1 s).n.toNat (y8 (j1 s) g):=O3.p;rw [← ag6 hp hc hj];have key:∀k,k<=(i8 (j1 s)).length->rl (ptK (j1 s).n.toNat (y8 (j1 s) g).O (fun i=>-((y8 (j1 s) g).A i c)) (fun j=>if (y8 (j1 s) g).F c<(j1 s).n.toNat∧j=(y8 (j1 s) g).F c then 1 else 0) k j)<=25:=by
  intro k;induction k with
  |zero=>
   intro _;show rl (if _ then (1:Rat) else 0)<=_;have:=rl0;have:=rl1;split<;>omega
  |succ k ih=>
   intro hk;rw [G0];simp only;split
   ·rw [U6];exact hb.a k om c hc
   ·exact ih om
 exact key _ (lbS _)
def b7e {s:j2} {g:List (Int × Rat)} (h:I8 s) (hw:z5 g) (hg:j9 (-1) ((s.n.toNat:Nat):Int) g=true) (ho:X7 (j1 s) g=.best) (Y:List Rat):bD2 s g ⟨0,fz (n8 g (u9 (j1 s) g)),u9 (j1 s) g,Y,[]⟩:=by
 obtain ⟨h1,h2⟩:=a1A (s:=j1 s) (by rw [a5T];exact h.r) hg ho;exact ⟨.inl rfl,fun _=>⟨(sc_holds s _).1 h1,rfl,fun z hz=>h2 z ((sc_holds s z).2 hz)⟩,(fun e=>absurd (show (0:Int)=1 from e) de),(fun e=>absurd (show (0:Int)=2 from e) de),fun v hv=>lbT (a6i h hw v hv) de,(fun v hv=>by cases hv)⟩
def b36 {s:j2} {g:List (Int × Rat)} {r:Nat} (ho:X7 (j1 s) g=.row r):∀z,m9 s z=false:=fun z=>by
 cases hz:m9 s z with
 |false=>rfl
 |true=>have:=aM2 ho z;rw [(sc_holds s z).2 hz] at this;cases this
def bg3 {s:j2} {g:List (Int × Rat)} {c:Nat} (h:I8 s) (hw:z5 g) (hg:j9 (-1) ((s.n.toNat:Nat):Int) g=true) (ho:X7 (j1 s) g=.col c) (ho0:X7 (j1 s) []=.best):bD2 s g ⟨2,M4,u9 (j1 s) [],[],a1W (j1 s) g c⟩:=by
 obtain ⟨h1,h2⟩:=a1A (s:=j1 s) (g:=[]) (by rw [a5T];exact h.r) rfl ho0;obtain ⟨d1,d2⟩:=ah1 (s:=j1 s) (by rw [a5T];exact h.r) hg ho;have hc:c<(j1 s).n.toNat:=(a4c ho).1;exact ⟨.inr (.inr rfl),(fun e=>absurd (show (2:Int)=0 from e) de),(fun e=>absurd (show (2:Int)=1 from e) de),fun _=>⟨(sc_holds s _).1 h1,bs1 d1,d2⟩,fun v hv=>lbT (a6i h (fun t ht=>absurd ht zq) v hv) de,fun v hv=>lbT (b4J h hw hc v hv) de⟩
def a2E {f:Nat->Nat} {p q:Nat->Bool}:∀{m:Nat},(∀ i,i<m->p i=q i)->B5 f p m=B5 f q m
 |0,_=>rfl
 |m+1,h=>by
  rw [U2,U2,a2E (m:=m) fun i hi=>h i om,h m om]
structure bx2 (m n:Nat) (D0:Fd) (g0:Nat->Rat):Prop where
 hm:m<=100000
 hn:n<=1000
 f:W0 m n D0
 i:a4J m n D0 g0 D0
 d:∀D,N0 m n D0 D->(∃ q,a8z m n D0 D q)∧ZB m n 1000 (Y2 m n D0 D)
def a5g (b:Nat):(bif true then if 0 > (b:Int) then 0 else (b:Int) else if 0<(b:Int) then 0 else (b:Int))=(b:Int):=by simp only [cond];split<;>omega
def b0Z {m n:Nat} {fr:LB} {sc:LI} {D0 D:Fd} {g0:Nat->Rat} (h:bx2 m n D0 g0) (hD:N0 m n D0 D) (hn:C9 m n D=none) {r c:Int} (ho:(r,c)=a6q (u7 m n D)):
 Fin (K2 m n fr sc (Y2 m n D0 D0) []).length (.tup [eI r,eI c]) (K2 m n fr sc (Y2 m n D0 D) []) (.tup [eI (a6q (u7 m n (a4a m n D0))).1,eI (a6q (u7 m n (a4a m n D0))).2]) (K2 m n fr sc (Y2 m n D0 (a4a m n D0)) []):=by
 have e:=b78 h.i hD hn;rw [← e,←ho];exact a5B (T:=[]) rfl rfl (by simp [e8]) rz
def b2F (m n:Nat) (fr:List (Nat × Bool)) (sc:List Int) (D0:Fd) (g0:Nat->Rat) (h:bx2 m n D0 g0) (hfr:fr.length=m) (hsc:sc.length=m):
 d6 Tryz.prog 213 [.c (.ptr 0 0 0)] (K2 m n fr sc (Y2 m n D0 D0) []) (.tup [c9 .i64 (a6q (u7 m n (a4a m n D0))).1,c9 .i64 (a6q (u7 m n (a4a m n D0))).2]) (K2 m n fr sc (Y2 m n D0 (a4a m n D0)) []):=by
 have hm:=h.hm
 have hn:=h.hn
 (refine ac Tryz.func213 ?_;(conv=>whnf);repeat (refine zy ?_;conv=>whnf))
 repeat' (first|refine zx ?_|refine g8 (e8 _ _ _) ?_|refine f8 ?_|refine zd ?_ ?_<;>intro h<;>try omega|fail)<;>conv=>whnf
 refine o9 d9 (σ:=Fd) (fun D=>([S.c (C.ptr 0 0 0)]++Jn 56,K2 m n fr sc (Y2 m n D0 D) [])) (fun D=>N0 m n D0 D) (fun D=>a65 m n D) D0 (idR (m+9)) a7A ?_ ?_
 ·exact p4 (T:=[]) (T':=[]) rfl rfl (by simp [e8]) zq ⟨⟨i6 om,rfl,rfl⟩,trivial⟩
 intro D hD
 have inv:a4J m n D0 g0 D:=by obtain ⟨k,hk⟩:=hD;exact a0t h.i hk
 obtain ⟨hden,hzb⟩:=h.d D hD
 obtain ⟨cd,cr⟩:=a6V hden
 obtain ⟨Z,hZ⟩:∃Z,Z=Y2 m n D0 D:=⟨_,rfl⟩
 rw [← hZ] at cd cr hzb
 have eO:Z.O=D.O:=cr.o
 have eF:Z.F=D.F:=cr.f
 have l1:=bB4 m n fr sc Z hm hn
 have l2:=b7n m n fr sc Z hm hn
 rw [a2E (q:=fun i=>decide (D.V i<0)) fun i hi=>decide_eq_decide.2 (ag0 cr.d (cr.v i hi)).1,eO] at l1
 rw [a2E (q:=fun j=>decide (0<D.G j)) fun j hj=>decide_eq_decide.2 (ag0 cr.d (cr.c j hj)).2,eF] at l2
 have l3:∀r,r<m->d6 Tryz.prog 281 [jT m n fr sc Z,c9 .i64 r] [] (c9 .i64 (leI (B5 D.F (fun j=>decide (D.A r j<0)) n))) []:=fun r hr=>by
  have l:=b7z m n fr sc Z r hr hm hn
  rwa [a2E (q:=fun j=>decide (D.A r j<0)) fun j hj=>decide_eq_decide.2 (ag0 cr.d (cr.a r hr j hj)).1,eF] at l
 have l4:∀s,s<n->d6 Tryz.prog 282 [jT m n fr sc Z,c9 .i64 s] [] (c9 .i64 (leI (B5 D.O (fun i=>decide (0<D.A i s)) m))) []:=fun s hs=>by
  have l:=bu2 m n fr sc Z s hs hm hn
  rwa [a2E (q:=fun i=>decide (0<D.A i s)) fun i hi=>decide_eq_decide.2 (ag0 cr.d (cr.a i hi s hs)).2,eO] at l
 have vd:∀X,VY (K2 m n fr sc Z X) (fun _=>True) (.ptr 0 0 0) (.ptr (bh4 m n fr sc Z)):=fun X=>b5E hfr hsc fun _ _=>trivial
 have va:∀X,a1p (K2 m n fr sc Z X) (fun _=>True) [.c (.ptr 0 0 0)] [jT m n fr sc Z]:=fun X=>⟨vd X,trivial⟩
 have va2:∀X (r:Nat),a1p (K2 m n fr sc Z X) (fun _=>True) [.c (.ptr 0 0 0),c9 .i64 r] [jT m n fr sc Z,c9 .i64 r]:=fun X r=>⟨vd X,av8,trivial⟩
 have fin0:∀(r c:Int),C9 m n D=none->(r,c)=a6q (u7 m n D)->Fin (K2 m n fr sc (Y2 m n D0 D0) []).length (.tup [c9 .i64 r,c9 .i64 c]) (K2 m n fr sc Z []) (.tup [c9 .i64 (a6q (u7 m n (a4a m n D0))).1,c9 .i64 (a6q (u7 m n (a4a m n D0))).2]) (K2 m n fr sc (Y2 m n D0 (a4a m n D0)) []):=fun r c hn ho=>by
  have:=b0Z (fr:=fr) (sc:=sc) h hD hn ho
  rwa [← hZ] at this
 have exc:∀r s:Nat,u7 m n D=.next r s->d6 Tryz.prog 283 [.c (.ptr 0 0 0),c9 .i64 r,c9 .i64 s] (K2 m n fr sc Z []) (.tup []) (K2 m n fr sc (Y2 m n D0 (D.exch r s)) []):=fun r s hs=>by
  obtain ⟨q1,q2,q3⟩:=a40 hs
  have hnx:C9 m n D=some (D.exch r s):=by unfold C9;rw [hs]
  obtain ⟨hden',hzb'⟩:=h.d _ (a4Q hD hnx)
  obtain ⟨c1,c2⟩:=b5O h.f inv.i q1 q2 (a4F q3) hden hden'
  rw [← hZ] at c1 c2
  have hzx:ZB m n 1000 (Z.exch r s):=⟨fun i hi=>by rw [c2.v i hi];exact hzb'.v i hi,fun i hi j hj=>by rw [c2.a i hi j hj];exact hzb'.a i hi j hj,fun j hj=>by rw [c2.c j hj];exact hzb'.c j hj,by rw [c2.d];exact hzb'.d⟩
  have hne:Z.A r s≠0:=fun e=>by
   have:=cr.a r q1 s q2
   rw [e] at this
   have hq:((Z.D:Int):Rat)≠0:=by intro e;have:Z.D=0:=by exact_mod_cast e
                                 have:=cr.d;omega
   rcases as0.1 this.symm with k|k
   ·exact hq k
   ·exact a4F q3 k
  have ex:=aO6 m n fr sc Z r s hm hn q1 q2 cr.d hne hzb hzx c1
  rwa [a6M c2] at ex
 have go:∀(env:Env) (r s:Nat),u7 m n D=.next r s->Z1 (idR (m+9)) (K2 m n fr sc (Y2 m n D0 (D.exch r s)) []) env ([S.c (C.ptr 0 0 0)]++Jn 56)->
  ∃ρ x',Ent (K2 m n fr sc (Y2 m n D0 D0) []).length ρ env (K2 m n fr sc (Y2 m n D0 (D.exch r s)) []) ([S.c (C.ptr 0 0 0)]++Jn 56) (K2 m n fr sc (Y2 m n D0 x') [])∧N0 m n D0 x'∧a65 m n x'<a65 m n D:=by
  intro env r s hs hE
  have hnx:C9 m n D=some (D.exch r s):=by unfold C9;rw [hs]
  exact ⟨idR (m+9),D.exch r s,p4 (T:=[]) (T':=[]) rfl rfl (by simp [e8]) zq hE,a4Q hD hnx,au8 (b7H inv.p inv.g) hnx⟩
 show a3g _ _ _ _ _ (K2 m n fr sc (Y2 m n D0 D) []) _
 rw [← hZ]
 cases hR:B5 D.O (fun i=>decide (D.V i<0)) m with
 |none=>
  rw [hR,show leI none=-1 from rfl] at l1
  cases hS:B5 D.F (fun j=>decide (0<D.G j)) n with
  |none=>
   rw [hS,show leI none=-1 from rfl] at l2
   have hst:u7 m n D=.best:=by unfold u7;rw [hR,hS]
   conv=>whnf
   repeat' (first|refine zx ?_|refine .inl ⟨_,_,j4 l1 (va _) rfl,?_⟩|refine .inl ⟨_,_,j4 l2 (va _) rfl,?_⟩|refine g8 (e8 _ _ _) ?_|refine f8 ?_|refine zd ?_ ?_<;>intro h<;>try omega|fail)<;>conv=>whnf
   all_goals first
    |omega
    |exact fin0 _ _ (by unfold C9;rw [hst]) (by rw [hst];rfl)
  |some ss=>
   rw [hS,show leI (some ss)=ss from rfl] at l2
   have hss:=(C6 hS).1
   have l4:=l4 ss hss
   have eSS:0+(bif true then if 0 > (ss:Int) then 0 else (ss:Int) else if 0<(ss:Int) then 0 else (ss:Int)).toNat=ss:=by rw [a5g];omega
   cases hC:B5 D.O (fun i=>decide (0<D.A i ss)) m with
   |none=>
    rw [hC,show leI none=-1 from rfl] at l4
    have hst:u7 m n D=.col ss:=by unfold u7;rw [hR,hS];show V6 m D ss=_;unfold V6;rw [hC]
    conv=>whnf
    repeat' (first|refine zx ?_|refine .inl ⟨_,_,j4 l1 (va _) rfl,?_⟩|refine .inl ⟨_,_,j4 l2 (va _) rfl,?_⟩|refine .inl ⟨_,_,j4 l4 (va2 _ ss) rfl,?_⟩|refine g8 (e8 _ _ _) ?_|refine f8 ?_|refine zd ?_ ?_<;>intro h<;>try omega|fail)<;>conv=>whnf
    all_goals first
     |omega
     |exact fin0 _ _ (by unfold C9;rw [hst]) (by rw [hst];rfl)
   |some rq=>
    rw [hC,show leI (some rq)=rq from rfl] at l4
    have hst:u7 m n D=.next rq ss:=by unfold u7;rw [hR,hS];show V6 m D ss=_;unfold V6;rw [hC]
    have exr:=exc _ _ hst
    conv=>whnf
    repeat' (first|refine zx ?_|refine .inl ⟨_,_,j4 l1 (va _) rfl,?_⟩|refine .inl ⟨_,_,j4 l2 (va _) rfl,?_⟩|refine .inl ⟨_,_,j4 l4 (va2 _ ss) rfl,?_⟩|refine .inr ⟨_,_,exr,?_⟩|refine g8 (e8 _ _ _) ?_|refine f8 ?_|refine zd ?_ ?_<;>intro h<;>try omega|fail)<;>conv=>whnf
    all_goals first
     |omega
     |exact go _ _ _ hst ⟨⟨i6 om,rfl,rfl⟩,trivial⟩
 |some rr=>
  rw [hR,show leI (some rr)=rr from rfl] at l1
  have hrr:=(C6 hR).1
  have l3:=l3 rr hrr
  have eRR:0+(bif true then if 0 > (rr:Int) then 0 else (rr:Int) else if 0<(rr:Int) then 0 else (rr:Int)).toNat=rr:=by rw [a5g];omega
  cases hS:B5 D.F (fun j=>decide (0<D.G j)) n with
  |none=>
   rw [hS,show leI none=-1 from rfl] at l2
   cases hC:B5 D.F (fun j=>decide (D.A rr j<0)) n with
   |none=>
    rw [hC,show leI none=-1 from rfl] at l3
    have hst:u7 m n D=.row rr:=by unfold u7;rw [hR,hS];show V3 n D rr=_;unfold V3;rw [hC]
    conv=>whnf
    repeat' (first|refine zx ?_|refine .inl ⟨_,_,j4 l1 (va _) rfl,?_⟩|refine .inl ⟨_,_,j4 l2 (va _) rfl,?_⟩|refine .inl ⟨_,_,j4 l3 (va2 _ rr) rfl,?_⟩|refine g8 (e8 _ _ _) ?_|refine f8 ?_|refine zd ?_ ?_<;>intro h<;>try omega|fail)<;>conv=>whnf
    all_goals first
     |omega
     |exact fin0 _ _ (by unfold C9;rw [hst]) (by rw [hst];rfl)
   |some sq=>
    rw [hC,show leI (some sq)=sq from rfl] at l3
    have hst:u7 m n D=.next rr sq:=by unfold u7;rw [hR,hS];show V3 n D rr=_;unfold V3;rw [hC]
    have exr:=exc _ _ hst
    conv=>whnf
    repeat' (first|refine zx ?_|refine .inl ⟨_,_,j4 l1 (va _) rfl,?_⟩|refine .inl ⟨_,_,j4 l2 (va _) rfl,?_⟩|refine .inl ⟨_,_,j4 l3 (va2 _ rr) rfl,?_⟩|refine .inr ⟨_,_,exr,?_⟩|refine g8 (e8 _ _ _) ?_|refine f8 ?_|refine zd ?_ ?_<;>intro h<;>try omega|fail)<;>conv=>whnf
    all_goals first
     |omega
     |exact go _ _ _ hst ⟨⟨i6 om,rfl,rfl⟩,trivial⟩
  |some ss=>
   rw [hS,show leI (some ss)=ss from rfl] at l2
   have hss:=(C6 hS).1
   have l4:=l4 ss hss
   have eSS:0+(bif true then if 0 > (ss:Int) then 0 else (ss:Int) else if 0<(ss:Int) then 0 else (ss:Int)).toNat=ss:=by rw [a5g];omega
   have eOO:Z.O rr=D.O rr:=by rw [eO]
   have eFF:Z.F ss=D.F ss:=by rw [eF]
   by_cases hlt:D.O rr<D.F ss
   ·cases hC:B5 D.F (fun j=>decide (D.A rr j<0)) n with
    |none=>
     rw [hC,show leI none=-1 from rfl] at l3
     have hst:u7 m n D=.row rr:=by unfold u7;rw [hR,hS];show (if _ then V3 n D rr else _)=_;rw [if_pos hlt];unfold V3;rw [hC]
     conv=>whnf
     repeat' (first|refine zx ?_|refine qp a5g ?_|refine .inl ⟨_,_,j4 l1 (va _) rfl,?_⟩|refine .inl ⟨_,_,j4 l2 (va _) rfl,?_⟩|refine .inl ⟨_,_,j4 l3 (va2 _ rr) rfl,?_⟩|refine g8 (e8 _ _ _) ?_|refine f8 ?_|refine U9 (by rw [a5g];omega) (by rw [a5g];omega) ?_|refine M7 eRR hrr ?_|refine M7 eSS hss ?_|refine zd ?_ ?_<;>intro h<;>try omega|fail)<;>conv=>whnf
     all_goals first
      |omega
      |exact fin0 _ _ (by unfold C9;rw [hst]) (by rw [hst];rfl)
    |some sq=>
     rw [hC,show leI (some sq)=sq from rfl] at l3
     have hst:u7 m n D=.next rr sq:=by unfold u7;rw [hR,hS];show (if _ then V3 n D rr else _)=_;rw [if_pos hlt];unfold V3;rw [hC]
     have exr:=exc _ _ hst
     conv=>whnf
     repeat' (first|refine zx ?_|refine qp a5g ?_|refine .inl ⟨_,_,j4 l1 (va _) rfl,?_⟩|refine .inl ⟨_,_,j4 l2 (va _) rfl,?_⟩|refine .inl ⟨_,_,j4 l3 (va2 _ rr) rfl,?_⟩|refine .inr ⟨_,_,exr,?_⟩|refine g8 (e8 _ _ _) ?_|refine f8 ?_|refine U9 (by rw [a5g];omega) (by rw [a5g];omega) ?_|refine M7 eRR hrr ?_|refine M7 eSS hss ?_|refine zd ?_ ?_<;>intro h<;>try omega|fail)<;>conv=>whnf
     all_goals first
      |omega
      |exact go _ _ _ hst ⟨⟨i6 om,rfl,rfl⟩,trivial⟩
   ·cases hC:B5 D.O (fun i=>decide (0<D.A i ss)) m with
    |none=>
     rw [hC,show leI none=-1 from rfl] at l4
     have hst:u7 m n D=.col ss:=by unfold u7;rw [hR,hS];show (if _ then _ else V6 m D ss)=_;rw [if_neg hlt];unfold V6;rw [hC]
     conv=>whnf
     repeat' (first|refine zx ?_|refine qp a5g ?_|refine .inl ⟨_,_,j4 l1 (va _) rfl,?_⟩|refine .inl ⟨_,_,j4 l2 (va _) rfl,?_⟩|refine .inl ⟨_,_,j4 l4 (va2 _ ss) rfl,?_⟩|refine g8 (e8 _ _ _) ?_|refine f8 ?_|refine U9 (by rw [a5g];omega) (by rw [a5g];omega) ?_|refine M7 eRR hrr ?_|refine M7 eSS hss ?_|refine zd ?_ ?_<;>intro h<;>try omega|fail)<;>conv=>whnf
     all_goals first
      |omega
      |exact fin0 _ _ (by unfold C9;rw [hst]) (by rw [hst];rfl)
    |some rq=>
     rw [hC,show leI (some rq)=rq from rfl] at l4
     have hst:u7 m n D=.next rq ss:=by unfold u7;rw [hR,hS];show (if _ then _ else V6 m D ss)=_;rw [if_neg hlt];unfold V6;rw [hC]
     have exr:=exc _ _ hst
     conv=>whnf
     repeat' (first|refine zx ?_|refine qp a5g ?_|refine .inl ⟨_,_,j4 l1 (va _) rfl,?_⟩|refine .inl ⟨_,_,j4 l2 (va _) rfl,?_⟩|refine .inl ⟨_,_,j4 l4 (va2 _ ss) rfl,?_⟩|refine .inr ⟨_,_,exr,?_⟩|refine g8 (e8 _ _ _) ?_|refine f8 ?_|refine U9 (by rw [a5g];omega) (by rw [a5g];omega) ?_|refine M7 eRR hrr ?_|refine M7 eSS hss ?_|refine zd ?_ ?_<;>intro h<;>try omega|fail)<;>conv=>whnf
     all_goals first
      |omega
      |exact go _ _ _ hst ⟨⟨i6 om,rfl,rfl⟩,trivial⟩
def bq4 (b:Bool) (x:Int):(⟨(bz x).sg*sg1 b,(bz x).dl⟩:Bg)=bz (sg1 b*x):=by
 cases b with
 |false=>
  show Bg.mk (x.sign*1) (dg x.natAbs)=Bg.mk ((1*x).sign) (dg (1*x).natAbs);rw [a1S,al9]
 |true=>
  show Bg.mk (x.sign*-1) (dg x.natAbs)=Bg.mk ((-1*x).sign) (dg (-1*x).natAbs);rw [show (-1:Int)*x=-x from by omega,Int.sign_neg,a1T,Int.mul_neg,al9]
def bj5 (b:Bool) (x:Int):([C.t (ti ((bz x).sg*sg1 b)),C.t (w7 (bz x).dl)]:List C)=bgC (bz (sg1 b*x)):=by rw [← bq4]
def b3m (b:Bool) (x:Int):-1<=(bz x).sg*sg1 b∧(bz x).sg*sg1 b<=1:=by
 rw [ab7];have hb:sg1 b=1∨sg1 b=-1:=by cases b<;>simp [sg1]
 rcases C8 x with ⟨h,_⟩|⟨h,_⟩|⟨h,_⟩<;>rcases hb with hb|hb<;>rw [h,hb]<;>decide
def aO1 (b:Bool) (x:Int):(S0 b ((x:Int):Rat)).num=sg1 b*x:=by
 cases b with
 |false=>show ((x:Int):Rat).num=1*x;rw [a7M];omega
 |true=>
  show (-((x:Int):Rat)).num=-1*x;rw [ak5,a7M];omega
def b7G {n i j:Nat} {g:Nat->Int} {x:List C} {y:Int} (e:i=j) (h:j<n):t4 (t4 (zlB (zF n g)) ((zlB (zF n g)).rows.set i x)) (((zlB (zF n g)).rows.set i x).set i (bgC (bz y)))=zlB (zF n fun k=>if k=j then y else g k):=by
 rw [← a12 (g:=g) (y:=y) e h];unfold t4;simp only [List.set_set]
def aQ (w:z7) (b:Bool) (q:Nat):Nat->Int:=fun j=>(S0 b (L0 (scT (w.value.den:Int) w.terms) q j)).num
def b9l (w:z7) (b:Bool):aQ w b 0=fun _=>0:=by
 funext j;show (S0 b (0:Rat)).num=0;have:=aO1 b 0;simpa using this
def b8Z {d:Int} {l:List (Int × Rat)} {q:Nat} {t:Int × Rat} (h:l[q]? =some t):(scT d l)[q]? =some (t.1,((d:Int):Rat)*t.2):=by unfold scT;rw [lba,h];rfl
def bf2 {w:z7} {b:Bool} {q:Nat} {t:Int × Rat} {c:Int} (h:w.terms[q]? =some t) (hc:t.2=((c:Int):Rat)):aQ w b (q+1)=fun j=>if j=t.1.toNat then sg1 b*((w.value.den:Int)*c) else aQ w b q j:=by
 funext j;unfold aQ;rw [I1 (b8Z h)];simp only;by_cases hj:j=t.1.toNat
 ·rw [if_pos hj,if_pos hj,hc];have e:(((w.value.den:Int):Int):Rat)*((c:Int):Rat)=(((w.value.den:Int)*c:Int):Rat):=by push_cast;rfl
  rw [e,aO1]
 ·rw [if_neg hj,if_neg hj]
def bu4 (w:z7) (b:Bool):aQ w b w.terms.length=fun j=>(S0 b (A7 (P4 w).terms j)).num:=by
 funext j;unfold aQ A7;show _=(S0 b (L0 (scT (w.value.den:Int) w.terms) (scT (w.value.den:Int) w.terms).length j)).num;rw [show (scT (w.value.den:Int) w.terms).length=w.terms.length by simp [scT]]
def b60 {m n q N n0:Nat} {fr:LB} {sc:LI} {D:Int} {V G:Nat->Int} {O F:Nat->Nat} {A:Nat->Nat->Int} {T T' H:Hp} {x x':Blk} {env env':Env} (hH:H=G7 m n q fr sc D V G O F A (T++x::T')) (hN:m+9+T.length+1=N) (h0:n0<=N) (hT:∀k ∈ T,okB N k) (hx:a30 (idR N) H x x') (hE:Z1 (idR N) H env env'):
 Ent n0 (idR N) env H env' (G7 m n q fr sc D V G O F A (T++[x'])):=by
 have e1:G7 m n q fr sc D V G O F A (T++[x'])=G7 m n q fr sc D V G O F A T++[x']:=a43;have e2:G7 m n q fr sc D V G O F A (T++x::T')=G7 m n q fr sc D V G O F A T++x::T':=a43;refine bf3 (by rw [e1,lbq,W5];show _+1=_;omega) h0 (fun i k' hk=>?_) hE;rw [e1] at hk;have hg:H[i]? =(G7 m n q fr sc D V G O F A T++x::T')[i]?:=by rw [hH,e2]
 obtain ⟨L,hL⟩:∃L,L=G7 m n q fr sc D V G O F A T:=⟨_,rfl⟩;have hLl:L.length=m+9+T.length:=by rw [hL,W5]
 rw [← hL] at hk hg;by_cases hi:i<L.length
 ·rw [lbb hi] at hk hg;exact ⟨k',hg.trans hk,a98 (a4H (m:=m) om hT k' (by rw [hL] at hk;exact lbm hk))⟩
 ·rw [lbc om] at hk hg;have h1:i - L.length<[x'].length:=(lbe.1 hk).1;have h1:i - L.length<1:=h1;have h2:i - L.length=0:=om;rw [h2] at hk hg;simp at hk;subst hk;exact ⟨x,hg,hx⟩
def b3H {ρ:List (Option Nat)} {H:Hp} {n N:Nat} (e:N=n):a30 ρ H (F5 84 2 (List.replicate N [B6 (.int .i64 0),B6 (.slice none 0 0)]) false) (zlB (zF n fun _=>0)):=by
 subst e;refine ⟨rfl,rfl,rfl,.inr (a1O ?_ ?_)⟩
 ·simp [F5,toC,D3]
 ·intro i x y hx hy;simp only [F5,lbk] at hx;split at hx
  ·rename_i hi;injection hx with hx;subst hx;have hy:(toC ((zF N fun _=>0).map V5))[i]? =some y:=hy;rw [toC,lba,lba,Q2 hi] at hy;injection hy with hy;subst hy;exact rz
  ·cases hx
abbrev ad2 (t:TypeId) (s:Nat):Blk:=⟨.dead,t,s,[],false,false⟩
abbrev bF8 (k n:Nat):Blk:={ mode:=.live,elem:=274,size:=12,rows:=[[C.own (k+13) 0 (k+1) true,.own (k+15) 0 (k+1) true,.own 3 0 n true,.t (ti (bz 1).sg),.t (w7 (bz 1).dl),.own (k+12) 0 (k+1) true,.own 5 0 0 true,.own (k+16) 0 (k+1) true,.own (k+17) 0 (k+1) true,.own (k+18) 0 (k+1) true,.t (ti (bz 1).sg),.t (w7 (bz 1).dl)]],box:=true }
abbrev bC4 (k n:Nat):Blk:={ mode:=.live,elem:=271,size:=1,rows:=[[C.own (k+10) 0 n true]],box:=false }
abbrev hdX (k n:Nat):Blk:={ mode:=.live,elem:=271,size:=1,rows:=hdR 9 k n++[[C.own (k+10) 0 n true]],box:=false }
abbrev b4T (k n:Nat) (fr:LB) (f:Nat × Bool) (sc:LI) (d v:Int) (a:Nat->Int) (V G:Nat->Int) (O F:Nat->Nat) (A:Nat->Nat->Int):Hp:=
 bF8 k n::ad2 84 2::ad2 271 1::zlB (zF n G)::ad2 3 1::R3 0 F::ad2 3 1::ad2 3 1::ad2 84 2::((mZ k n A).map zlB++
  [bgX d,zlB (zF n a),bgX v,R3 (k+1) O,zlB (zF k V++[v]),bC4 k n,hdX k n,o8 (frI (fr++[f])),o8 (T3 (fr++[f])),zlB (sc++[d])])
def l10 {a0 a1 a2 a3 a4 a5 a6 a7 a8 a9 b0 b1 b2 b3 b4 b5 b6 b7 b8 b9:Blk} (h0:a0=b0) (h1:a1=b1) (h2:a2=b2) (h3:a3=b3) (h4:a4=b4) (h5:a5=b5) (h6:a6=b6) (h7:a7=b7) (h8:a8=b8) (h9:a9=b9):
 ([a0,a1,a2,a3,a4,a5,a6,a7,a8,a9]:Hp)=[b0,b1,b2,b3,b4,b5,b6,b7,b8,b9]:=by
 subst h0 h1 h2 h3 h4 h5 h6 h7 h8 h9;rfl
def bt3 {N:Nat} {l:List C} (h:∀c ∈ l,match c with|.t _=>True|.own id _ _ _=>id<N|_=>False):∀c ∈ l,match c with|.t _=>True|.ptr id _ _=>id<N|.own id _ _ _=>id<N|.fn _ _=>False:=fun c hc=>by
 have:=h c hc;cases c<;>first|exact this|exact this.elim|trivial
def b9v {k n:Nat} {fr:LB} {f:Nat × Bool} {sc:LI} {d v:Int} {a V G:Nat->Int} {O F:Nat->Nat} {A:Nat->Nat->Int}:∀b ∈ b4T k n fr f sc d v a V G O F A,okB (k+19) b:=by
 intro b hb;simp only [lbB,lbA] at hb;have ho:∀(b:Blk),(∀ r ∈ b.rows,∀c ∈ r,match c with|.t _=>True|.own id _ _ _=>id<k+19|_=>False)->okB (k+19) b:=fun b h r hr=>bt3 (h r hr)
 have hd0:∀(t:TypeId) (s:Nat),okB (k+19) (ad2 t s):=fun t s r hr=>by cases hr
 rcases hb with rfl|rfl|rfl|rfl|rfl|rfl|rfl|rfl|rfl|hb|rfl|rfl|rfl|rfl|rfl|rfl|rfl|rfl|rfl|rfl|hb
 ·refine ho _ fun r hr c hc=>?_
  simp at hr;subst hr;simp at hc;rcases hc with rfl|rfl|rfl|rfl|rfl|rfl|rfl|rfl|rfl|rfl|rfl|rfl<;>first|trivial|(simp only;omega)
 ·exact hd0 _ _
 ·exact hd0 _ _
 ·exact t7 rfl
 ·exact hd0 _ _
 ·exact t7 rfl
 ·exact hd0 _ _
 ·exact hd0 _ _
 ·exact hd0 _ _
 ·obtain ⟨l,_,rfl⟩:=lby.1 hb;exact t7 rfl
 ·exact a4k
 ·exact t7 rfl
 ·exact a4k
 ·exact t7 rfl
 ·exact t7 rfl
 ·refine ho _ fun r hr c hc=>?_
  simp at hr;subst hr;simp at hc;subst hc;show k+10<k+19;omega
 ·refine ho _ fun r hr c hc=>?_
  have hr:r ∈ hdR 9 k n++[[C.own (k+10) 0 n true]]:=hr;rcases lbA.1 hr with hr|hr
  ·obtain ⟨i,hi,rfl⟩:=lby.1 hr;have:=lbC.1 hi;simp at hc;subst hc;show i+9<k+19;omega
  ·simp at hr;subst hr;simp at hc;subst hc;show k+10<k+19;omega
 ·exact t7 rfl
 ·exact t7 rfl
 ·exact t7 rfl
 ·cases hb
def a6I {rows rows':List (List T)} {k:Nat} (h:rows.length=k):List.take k (toC rows)++toC rows'=toC (rows++rows'):=by
 rw [lbn (by simp [toC,h])];simp [toC]
def b9X (n k row:Nat) (w:z7) (b:Bool) (fr:LB) (hfr:fr.length=k) (sc:LI) (hsc:sc.length=k) (V G:Nat->Int) (F:Nat->Nat) (A:Nat->Nat->Int) (hn:n<=1000) (hk:k<=10000) (hrow:row<=100000)
 (hr:j9 (-1) n w.terms=true) (hl:w.terms.length<=1000) (hw:z5 w.terms) (hv:rl w.value<=100):
 ec 276 [.c (.ptr 0 0 0),eI n,eI row,aw9 w,eI (sg1 b)] (G7 k n 0 fr sc 1 V G (fun i=>n+i) F A []) (.tup []) (b4T k n fr (row,b) sc w.value.den (sg1 b*w.value.num) (aQ w b w.terms.length) V G (fun i=>n+i) F A):=by
 have m1:(w.terms.map k6).length=w.terms.length:=zq;have hd:=a0Z w.value;have ld:bl (w.value.den:Int)<=100:=lbT (H6 w.value) hv;have ln:bl w.value.num<=100:=lbT (G9 w.value) hv;have of1:=b4A 1 de de;have cv:=b4h w.value om;have tv1:=b6Q w.value om
 (refine U1 d9 Tryz.func276 rfl de ?_;refine y4 d9 ?_;(conv=>whnf);repeat ((first|refine b0x ?_|refine zy ?_);conv=>whnf))
 repeat' (first|refine zz ?_|refine b0x ?_|refine g8 (e8 _ _ _) ?_|refine f8 ?_|apply zD<;>intro h<;>try omega|refine zy ?_|fail)<;>conv=>whnf
 refine x9 d9 ([sP 0 0 0,eI n,eI row,J,eI (sg1 b),J,J,J,S.c (C.t (T.ptr (w5 w))),J,S.c (C.ptr (k+9) 0 0)]++Jn 144) (G7 k n 0 fr sc 1 V G (fun i=>n+i) F A [bgX w.value.den]) ?_ ?_
 ·conv=>whnf
  repeat' (first|refine zx ?_|refine g8 (e8 _ _ _) ?_|refine f8 ?_|refine o5 (e8 _ _ _) ?_|refine x7 (e8 _ _ _) ?_|apply zD<;>intro h<;>try omega)<;>conv=>whnf
  all_goals exact ⟨idR (k+10),p4 (T:=[_]) (T':=[]) rfl rfl (by simp [e8]) ok1 ⟨⟨i6 om,rz⟩,rfl,rfl,rfl,k8 rfl,⟨i6 om,rz⟩,trivial⟩⟩
 refine x9 d9 ([sP 0 0 0,eI n,eI row,J,eI (sg1 b),J,J,J,S.c (C.t (T.ptr (w5 w))),J,S.c (C.ptr (k+9) 0 0)]++Jn 144) (G7 k n 0 fr sc 1 V G (fun i=>n+i) F A [bgX w.value.den]) ?_ ?_
 ·conv=>whnf
  repeat' (first|refine zx ?_|refine g8 (e8 _ _ _) ?_|refine f8 ?_|apply zD<;>intro h<;>try omega)<;>conv=>whnf
  refine i7 d9 (fun q=>([sP 0 0 0,eI n,eI row,J,eI (sg1 b),J,J,J,S.c (C.t (T.ptr (w5 w))),J,S.c (C.ptr (k+9) 0 0),eI q]++Jn 143,G7 k n 0 fr sc 1 V G (fun i=>n+i) F A [bgX w.value.den])) w.terms.length tT (idR (k+10)) trivial ?_ ?_
  ·exact p4 (T:=[_]) (T':=[]) rfl rfl (by simp [e8]) ok1 ⟨⟨i6 om,rz⟩,rfl,rfl,rfl,rfl,⟨i6 om,rz⟩,d7 rfl,trivial⟩
  intro q hq _;by_cases hlt:q<w.terms.length
  ·obtain ⟨t,ht⟩:∃t,w.terms[q]? =some t:=⟨_,lbf hlt⟩;obtain ⟨c,hc,hcb⟩:=hw t (lbm ht);have ci:=aC1 (w.value.den:Int) hd c om hcb;rw [← hc] at ci;conv=>whnf
   repeat' (first|refine zx ?_|refine f7 ht ?_|refine g8 (e8 _ _ _) ?_|refine f8 ?_|refine o5 (e8 _ _ _) ?_|refine x7 (e8 _ _ _) ?_|apply zD<;>intro h<;>try omega)<;>conv=>whnf
   all_goals first|omega|exact ⟨hlt,trivial,idR (k+10),p4 (T:=[_]) (T':=[]) rfl rfl (by simp [e8]) ok1 ⟨⟨i6 om,rz⟩,rfl,rfl,rfl,rfl,⟨i6 om,rz⟩,d7 om,trivial⟩⟩
  ·have hqe:q=w.terms.length:=by omega
   subst hqe;conv=>whnf
   repeat' (first|refine zx ?_|refine g8 (e8 _ _ _) ?_|refine f8 ?_|apply zD<;>intro h<;>try omega)<;>conv=>whnf
   all_goals first|omega|exact ⟨idR (k+10),p4 (T:=[_]) (T':=[]) rfl rfl (by simp [e8]) ok1 ⟨⟨i6 om,rz⟩,rfl,rfl,rfl,rfl,⟨i6 om,rz⟩,trivial⟩⟩
 refine x9 d9 ([sP 0 0 0,eI n,eI row,J,eI (sg1 b),J,J,J,S.c (C.t (T.ptr (w5 w))),J,S.c (C.ptr (k+9) 0 0),J,S.c (C.own (k+10) 0 n true)]++Jn 142) (G7 k n 0 fr sc 1 V G (fun i=>n+i) F A [bgX w.value.den,zlB (zF n (aQ w b 0))]) ?_ ?_
 ·conv=>whnf
  repeat' (first|refine zx ?_|refine a0x om om om de ?_|refine g8 (e8 _ _ _) ?_|refine f8 ?_|apply zD<;>intro h<;>try omega)<;>conv=>whnf
  all_goals first|omega|exact ⟨idR (k+11),b60 (T:=[_]) (T':=[]) rfl rfl (by simp [e8]) ok1 (by rw [b9l];exact b3H om) ⟨⟨i6 om,rz⟩,rfl,rfl,rfl,rfl,⟨i6 om,rz⟩,⟨i6 om,rfl,om,fun h=>h⟩,trivial⟩⟩
 refine x9 d9 ([sP 0 0 0,eI n,eI row,J,eI (sg1 b),J,J,J,S.c (C.t (T.ptr (w5 w))),J,S.c (C.ptr (k+9) 0 0),J,S.c (C.own (k+10) 0 n true)]++Jn 142) (G7 k n 0 fr sc 1 V G (fun i=>n+i) F A [bgX w.value.den,zlB (zF n (aQ w b w.terms.length))]) ?_ ?_
 ·conv=>whnf
  repeat' (first|refine zx ?_|refine g8 (e8 _ _ _) ?_|refine f8 ?_|apply zD<;>intro h<;>try omega)<;>conv=>whnf
  refine i7 d9 (fun q=>([sP 0 0 0,eI n,eI row,J,eI (sg1 b),J,J,J,S.c (C.t (T.ptr (w5 w))),J,S.c (C.ptr (k+9) 0 0),J,S.c (C.own (k+10) 0 n true),eI q]++Jn 141,G7 k n 0 fr sc 1 V G (fun i=>n+i) F A [bgX w.value.den,zlB (zF n (aQ w b q))])) w.terms.length tT (idR (k+11)) trivial ?_ ?_
  ·exact p4 (T:=[_,_]) (T':=[]) rfl rfl (by simp [e8]) (by intro z hz;simp at hz;rcases hz with rfl|rfl<;>first|exact a4k|exact t7 rfl) ⟨⟨i6 om,rfl,rfl⟩,rfl,rfl,rfl,rfl,⟨i6 om,rfl,rfl⟩,⟨i6 om,rfl,rfl,fun h=>h⟩,d7 rfl,trivial⟩
  intro q hq _;by_cases hlt:q<w.terms.length
  ·obtain ⟨t,ht⟩:∃t,w.terms[q]? =some t:=⟨_,lbf hlt⟩;obtain ⟨c,hc,hcb⟩:=hw t (lbm ht);obtain ⟨t0,t1,t2⟩:=E7 hr t (lbm ht);have ti:=aT4 (w.value.den:Int) c om hcb;rw [← hc] at ti;have eV:0+t.1.toNat=t.1.toNat:=om;have gp:(zF n (aQ w b q))[0+t.1.toNat]? =some (aQ w b q t.1.toNat):=by rw [eV,Q2 om]
   have hsr:=b3m b ((w.value.den:Int)*c);conv=>whnf
   repeat' (first|refine zx ?_|refine qp ti ?_|refine f7 ht ?_|refine a26 gp ?_|refine aL1 (by show _<(toC _).length;simp [toC,D3];omega) ?_|refine g8 (e8 _ _ _) ?_|refine f8 ?_|refine o5 (e8 _ _ _) ?_|refine x7 (e8 _ _ _) ?_|refine i5 (t:=1) (e8 _ _ _) ?_|refine i9 (t:=1) (e8 _ _ _) ?_|refine bl0 [0,6] ?_|apply zD<;>intro h<;>try omega)<;>conv=>whnf
   all_goals first
    |omega
    |(refine ⟨hlt,trivial,idR (k+11),p4 (T:=[_,zlB (zF n (aQ w b (q+1)))]) (T':=[]) (I9 rfl rfl rfl rfl rfl rfl rfl rfl rfl (congrArg (fun z=>(mZ k n A).map zlB++[bgX w.value.den,z]) ?_)) rfl (by simp [e8]) (by intro z hz;simp at hz;rcases hz with rfl|rfl<;>first|exact a4k|exact t7 rfl) ⟨⟨i6 om,rfl,rfl⟩,rfl,rfl,rfl,rfl,⟨i6 om,rfl,rfl⟩,⟨i6 om,rfl,rfl,fun h=>h⟩,d7 om,trivial⟩⟩
      rw [bj5,bf2 ht hc];exact b7G eV om)
  ·have hqe:q=w.terms.length:=by omega
   subst hqe;conv=>whnf
   repeat' (first|refine zx ?_|refine g8 (e8 _ _ _) ?_|refine f8 ?_|apply zD<;>intro h<;>try omega)<;>conv=>whnf
   all_goals first|omega|exact ⟨idR (k+11),p4 (T:=[_,_]) (T':=[]) rfl rfl (by simp [e8]) (by intro z hz;simp at hz;rcases hz with rfl|rfl<;>first|exact a4k|exact t7 rfl) ⟨⟨i6 om,rfl,rfl⟩,rfl,rfl,rfl,rfl,⟨i6 om,rfl,rfl⟩,⟨i6 om,rfl,rfl,fun h=>h⟩,trivial⟩⟩
 refine x9 d9 ([sP 0 0 0,eI n,eI row,J,eI (sg1 b),J,J,J,S.c (C.t (T.ptr (w5 w))),J,S.c (C.ptr (k+9) 0 0),J,S.c (C.own (k+10) 0 n true),J,S.c (C.ptr (k+11) 0 0)]++Jn 140) (G7 k n 0 fr sc 1 V G (fun i=>n+i) F A [bgX w.value.den,zlB (zF n (aQ w b w.terms.length)),bgX w.value.num]) ?_ ?_
 ·conv=>whnf
  repeat' (first|refine zx ?_|refine g8 (e8 _ _ _) ?_|refine f8 ?_|refine o5 (e8 _ _ _) ?_|refine x7 (e8 _ _ _) ?_|refine i5 (t:=1) (e8 _ _ _) ?_|refine i9 (t:=1) (e8 _ _ _) ?_|refine i5 (t:=2) (e8 _ _ _) ?_|refine i9 (t:=2) (e8 _ _ _) ?_|apply zD<;>intro h<;>try omega)<;>conv=>whnf
  all_goals first|omega|exact ⟨idR (k+12),p4 (T:=[_,_,_]) (T':=[]) rfl rfl (by simp [e8]) (by intro z hz;simp at hz;rcases hz with rfl|rfl|rfl<;>first|exact a4k|exact t7 rfl) ⟨⟨i6 om,rfl,rfl⟩,rfl,rfl,rfl,rfl,⟨i6 om,rfl,rfl⟩,⟨i6 om,rfl,rfl,fun h=>h⟩,⟨i6 om,rfl,rfl⟩,trivial⟩⟩
 have hsv:=b3m b w.value.num;refine x9 d9 ([sP 0 0 0,eI n,eI row,J,eI (sg1 b),J,J,J,J,J,S.c (C.ptr (k+9) 0 0),J,S.c (C.own (k+10) 0 n true),J,S.c (C.ptr (k+11) 0 0)]++Jn 140) (G7 k n 0 fr sc 1 V G (fun i=>n+i) F A [bgX w.value.den,zlB (zF n (aQ w b w.terms.length)),bgX (sg1 b*w.value.num)]) ?_ ?_
 ·conv=>whnf
  repeat' (first|refine zx ?_|refine g8 (e8 _ _ _) ?_|refine f8 ?_|refine o5 (e8 _ _ _) ?_|refine x7 (e8 _ _ _) ?_|refine i5 (t:=1) (e8 _ _ _) ?_|refine i9 (t:=1) (e8 _ _ _) ?_|refine i5 (t:=2) (e8 _ _ _) ?_|refine i9 (t:=2) (e8 _ _ _) ?_|apply zD<;>intro h<;>try omega)<;>conv=>whnf
  all_goals first|omega|exact ⟨idR (k+12),p4 (T:=[_,_,bgX (sg1 b*w.value.num)]) (T':=[]) (I9 rfl rfl rfl rfl rfl rfl rfl rfl rfl (congrArg (fun z=>(mZ k n A).map zlB++[bgX w.value.den,zlB (zF n (aQ w b w.terms.length)),{ bgX w.value.num with rows:=[z] }]) (bj5 b w.value.num))) rfl (by simp [e8]) (by intro z hz;simp at hz;rcases hz with rfl|rfl|rfl<;>first|exact a4k|exact t7 rfl) ⟨⟨i6 om,rfl,rfl⟩,rfl,rfl,rfl,⟨i6 om,rfl,rfl⟩,⟨i6 om,rfl,rfl,fun h=>h⟩,⟨i6 om,rfl,rfl⟩,trivial⟩⟩
 (refine y4 d9 ?_;conv=>whnf)
 repeat' (first|refine zx ?_|refine g8 (e8 _ _ _) ?_|refine f8 ?_|refine o5 (e8 _ _ _) ?_|refine x7 (e8 _ _ _) ?_|refine i5 (t:=1) (e8 _ _ _) ?_|refine i9 (t:=1) (e8 _ _ _) ?_|refine i5 (t:=2) (e8 _ _ _) ?_|refine i9 (t:=2) (e8 _ _ _) ?_|refine o6 (by simp [toC,l9,D3,z9,frI,T3,hfr,hsc]) (by simp [toC,l9,D3,z9,frI,T3,hfr,hsc];omega) ?_|refine i5 (t:=3) (e8 _ _ _) ?_|refine i5 (t:=4) (e8 _ _ _) ?_|refine i5 (t:=5) (e8 _ _ _) ?_|refine i9 (t:=5) (e8 _ _ _) ?_|refine a3c (lbS 1) ?_|refine bl0 [0] ?_|apply zD<;>intro h<;>try omega)<;>conv=>whnf
 (refine y4 d9 ?_;conv=>whnf)
 repeat' (first|refine zx ?_|refine g8 (e8 _ _ _) ?_|refine f8 ?_|refine o5 (e8 _ _ _) ?_|refine x7 (e8 _ _ _) ?_|refine i5 (t:=1) (e8 _ _ _) ?_|refine i9 (t:=1) (e8 _ _ _) ?_|refine i5 (t:=2) (e8 _ _ _) ?_|refine i9 (t:=2) (e8 _ _ _) ?_|refine o6 (by simp [toC,l9,D3,z9,frI,T3,hfr,hsc]) (by simp [toC,l9,D3,z9,frI,T3,hfr,hsc];omega) ?_|refine i5 (t:=3) (e8 _ _ _) ?_|refine i5 (t:=4) (e8 _ _ _) ?_|refine i5 (t:=5) (e8 _ _ _) ?_|refine i9 (t:=5) (e8 _ _ _) ?_|refine a3c (lbS 1) ?_|refine bl0 [0] ?_|apply zD<;>intro h<;>try omega)<;>conv=>whnf
 (refine y4 d9 ?_;conv=>whnf)
 repeat' (first|refine zx ?_|refine g8 (e8 _ _ _) ?_|refine f8 ?_|refine o5 (e8 _ _ _) ?_|refine x7 (e8 _ _ _) ?_|refine i5 (t:=1) (e8 _ _ _) ?_|refine i9 (t:=1) (e8 _ _ _) ?_|refine i5 (t:=2) (e8 _ _ _) ?_|refine i9 (t:=2) (e8 _ _ _) ?_|refine o6 (by simp [toC,l9,D3,z9,frI,T3,hfr,hsc]) (by simp [toC,l9,D3,z9,frI,T3,hfr,hsc];omega) ?_|refine i5 (t:=3) (e8 _ _ _) ?_|refine i5 (t:=4) (e8 _ _ _) ?_|refine i5 (t:=5) (e8 _ _ _) ?_|refine i9 (t:=5) (e8 _ _ _) ?_|refine a3c (lbS 1) ?_|refine bl0 [0] ?_|apply zD<;>intro h<;>try omega)<;>conv=>whnf
 (refine y4 d9 ?_;conv=>whnf)
 repeat' (first|refine zx ?_|refine g8 (e8 _ _ _) ?_|refine f8 ?_|refine o5 (e8 _ _ _) ?_|refine x7 (e8 _ _ _) ?_|refine i5 (t:=1) (e8 _ _ _) ?_|refine i9 (t:=1) (e8 _ _ _) ?_|refine i5 (t:=2) (e8 _ _ _) ?_|refine i9 (t:=2) (e8 _ _ _) ?_|refine o6 (by simp [toC,l9,D3,z9,frI,T3,hfr,hsc]) (by simp [toC,l9,D3,z9,frI,T3,hfr,hsc];omega) ?_|refine i5 (t:=3) (e8 _ _ _) ?_|refine i5 (t:=4) (e8 _ _ _) ?_|refine i5 (t:=5) (e8 _ _ _) ?_|refine i9 (t:=5) (e8 _ _ _) ?_|refine a3c (lbS 1) ?_|refine bl0 [0] ?_|apply zD<;>intro h<;>try omega)<;>conv=>whnf
 (refine y4 d9 ?_;conv=>whnf)
 repeat' (first|refine zx ?_|refine g8 (e8 _ _ _) ?_|refine f8 ?_|refine o5 (e8 _ _ _) ?_|refine x7 (e8 _ _ _) ?_|refine i5 (t:=1) (e8 _ _ _) ?_|refine i9 (t:=1) (e8 _ _ _) ?_|refine i5 (t:=2) (e8 _ _ _) ?_|refine i9 (t:=2) (e8 _ _ _) ?_|refine o6 (by simp [toC,l9,D3,z9,frI,T3,hfr,hsc]) (by simp [toC,l9,D3,z9,frI,T3,hfr,hsc];omega) ?_|refine i5 (t:=3) (e8 _ _ _) ?_|refine i5 (t:=4) (e8 _ _ _) ?_|refine i5 (t:=5) (e8 _ _ _) ?_|refine i9 (t:=5) (e8 _ _ _) ?_|refine a3c (lbS 1) ?_|refine bl0 [0] ?_|apply zD<;>intro h<;>try omega)<;>conv=>whnf
 refine p6 d9 _ ?_;conv=>whnf
 repeat' (first|refine zx ?_|refine g8 (e8 _ _ _) ?_|refine f8 ?_|refine o5 (e8 _ _ _) ?_|refine x7 (e8 _ _ _) ?_|refine i5 (t:=1) (e8 _ _ _) ?_|refine i9 (t:=1) (e8 _ _ _) ?_|refine i5 (t:=2) (e8 _ _ _) ?_|refine i9 (t:=2) (e8 _ _ _) ?_|refine o6 (by simp [toC,l9,D3,z9,frI,T3,hfr,hsc]) (by simp [toC,l9,D3,z9,frI,T3,hfr,hsc];omega) ?_|refine i5 (t:=3) (e8 _ _ _) ?_|refine i5 (t:=4) (e8 _ _ _) ?_|refine i5 (t:=5) (e8 _ _ _) ?_|refine i9 (t:=5) (e8 _ _ _) ?_|refine a3c (lbS 1) ?_|refine bl0 [0] ?_|apply zD<;>intro h<;>try omega)<;>conv=>whnf
 refine a6Z (n:=k+19) (by simp [e8]) (by simp [e8]) b9v (fun i _=>?_) trivial;refine congrArg (fun H:Hp=>H[i]?) (I9 rfl rfl rfl rfl rfl rfl rfl rfl rfl (congrArg (fun z=>(mZ k n A).map zlB++z) (l10 rfl rfl rfl ?_ ?_ rfl ?_ ?_ ?_ ?_)))
 ·exact congrArg (fun z=>({ mode:=.live,elem:=3,size:=1,rows:=z,box:=false }:Blk)) (a48 (O:=fun i=>n+i) (x:=(n:Int)+k) zq)
 ·refine congrArg (fun z=>({ mode:=.live,elem:=84,size:=2,rows:=z,box:=false }:Blk)) ?_;exact (a6I (rows:=(zF k V).map V5) (rows':=[V5 (sg1 b*w.value.num)]) (by simp [D3])).trans zq
 ·refine congrArg (fun z=>({ mode:=.live,elem:=271,size:=1,rows:=z,box:=false }:Blk)) ?_;show List.take k (hdR 9 k n)++[[C.own (k+10) 0 n true]]=_;rw [lbn (by simp [z9])]
 ·refine congrArg (fun z=>({ mode:=.live,elem:=3,size:=1,rows:=z,box:=false }:Blk)) ?_;exact (a6I (rows:=(frI fr).map j0) (rows':=[j0 row]) (by simp [frI,hfr])).trans (by simp [frI])
 ·refine congrArg (fun z=>({ mode:=.live,elem:=3,size:=1,rows:=z,box:=false }:Blk)) ?_;exact (a6I (rows:=(T3 fr).map j0) (rows':=[j0 (sg1 b)]) (by simp [T3,hfr])).trans (by simp [T3])
 ·refine congrArg (fun z=>({ mode:=.live,elem:=84,size:=2,rows:=z,box:=false }:Blk)) ?_;exact (a6I (rows:=sc.map V5) (rows':=[V5 w.value.den]) (by simp [hsc])).trans zq
def fJ (k i:Nat):Nat:=if i=0 then 0 else if i=1 then k+13 else if i=2 then k+15 else if i=3 then 3 else if i=4 then k+12 else if i=5 then 5 else if i=6 then k+16 else if i=7 then k+17 else if i=8 then k+18 else if i<k+9 then i else k+10
def b7h {k i:Nat} (hi:i<k):fJ k (i+9)=i+9:=by
 unfold fJ;rw [if_neg om,if_neg om,if_neg om,if_neg om,if_neg om,if_neg om,if_neg om,if_neg om,if_neg om,if_pos om]
def bm6 {k:Nat}:fJ k (k+9)=k+10:=by
 unfold fJ;rw [if_neg om,if_neg om,if_neg om,if_neg om,if_neg om,if_neg om,if_neg om,if_neg om,if_neg om,if_neg om]
def bu0 {k i j:Nat} (hi:i<k+10) (hj:j<k+10) (h:fJ k i=fJ k j):i=j:=by
 have key:∀i,i<k+10->(i=0∧fJ k i=0)∨(i=1∧fJ k i=k+13)∨(i=2∧fJ k i=k+15)∨(i=3∧fJ k i=3)∨(i=4∧fJ k i=k+12)∨(i=5∧fJ k i=5)∨(i=6∧fJ k i=k+16)∨(i=7∧fJ k i=k+17)∨(i=8∧fJ k i=k+18)∨(9<=i∧i<k+9∧fJ k i=i)∨(i=k+9∧fJ k i=k+10):=by
  intro i hi;by_cases h0:i=0
  ·subst h0;exact .inl rz
  by_cases h1:i=1
  ·subst h1;exact .inr (.inl rz)
  by_cases h2:i=2
  ·subst h2;exact .inr (.inr (.inl rz))
  by_cases h3:i=3
  ·subst h3;exact .inr (.inr (.inr (.inl rz)))
  by_cases h4:i=4
  ·subst h4;exact .inr (.inr (.inr (.inr (.inl rz))))
  by_cases h5:i=5
  ·subst h5;exact .inr (.inr (.inr (.inr (.inr (.inl rz)))))
  by_cases h6:i=6
  ·subst h6;exact .inr (.inr (.inr (.inr (.inr (.inr (.inl rz))))))
  by_cases h7:i=7
  ·subst h7;exact .inr (.inr (.inr (.inr (.inr (.inr (.inr (.inl rz)))))))
  by_cases h8:i=8
  ·subst h8;exact .inr (.inr (.inr (.inr (.inr (.inr (.inr (.inr (.inl rz))))))))
  obtain ⟨t,rfl⟩:∃t,i=t+9:=⟨i - 9,om⟩;by_cases h9:t<k
  ·have:=b7h h9;omega
  ·have:t=k:=by omega
   subst this;have:=bm6 (k:=t);omega
 have a:=key i hi;have b:=key j hj;omega
def b9c {k:Nat} {V:Nat->Int}:zF (k+1) V=zF k V++[V k]:=by unfold zF;rw [a3D,lbD];rfl
def b7K {k n:Nat}:hdR 9 (k+1) n=hdR 9 k n++[[C.own (k+9) 0 n true]]:=by unfold hdR;rw [a3D,lbD];rfl
def aK6 {k n j:Nat} {A:Nat->Nat->Int} {L:Hp}:((mZ k n A).map zlB++L)[k+j]? =L[j]?:=by
 rw [lbc (by simp [e8])];simp [e8]
def aV1 {k n:Nat} {fr:LB} {f:Nat × Bool} {sc:LI} {d v:Int} {a V G:Nat->Int} {O F:Nat->Nat} {A:Nat->Nat->Int} {env env':Env} (hv:v=V k) (ha:a=A k)
 (hE:Z1 (fR (k+10) (fJ k)) (b4T k n fr f sc d v a V G O F A) env env'):Ent 0 (fR (k+10) (fJ k)) env (b4T k n fr f sc d v a V G O F A) env' (G7 (k+1) n 0 (fr++[f]) (sc++[d]) 1 V G O F A []):=by
 subst hv ha;have lk:∀j,(b4T k n fr f sc d (V k) (A k) V G O F A)[k+j+9]? =([bgX d,zlB (zF n (A k)),bgX (V k),R3 (k+1) O,zlB (zF k V++[V k]),bC4 k n,hdX k n,o8 (frI (fr++[f])),o8 (T3 (fr++[f])),zlB (sc++[d])]:Hp)[j]?:=fun j=>aK6
 have ff:∀i,i<k+10->(fR (k+10) (fJ k))[i]? =some (some (fJ k i)):=fun i hi=>x3 hi
 refine a9A (by simp [e8]) om (fun i hi=>om) (fun i j hi hj h=>bu0 hi hj h) ?_ hE;intro i k' hk;rcases i with _|_|_|_|_|_|_|_|_|i
 ·injection hk with hk;subst hk
  exact ⟨_,rfl,rfl,rfl,rfl,.inr ⟨⟨⟨by rw [ff _ om];rfl,rfl,rfl,fun h=>h⟩,⟨by rw [ff _ om];rfl,rfl,rfl,fun h=>h⟩,⟨by rw [ff _ om];rfl,rfl,rfl,fun h=>h⟩,rfl,rfl,⟨by rw [ff _ om];rfl,rfl,rfl,fun h=>h⟩,⟨by rw [ff _ om];rfl,rfl,rfl,fun h=>h⟩,⟨by rw [ff _ om];rfl,rfl,rfl,fun h=>h⟩,⟨by rw [ff _ om];rfl,rfl,rfl,fun h=>h⟩,⟨by rw [ff _ om];rfl,rfl,rfl,fun h=>h⟩,rz⟩,trivial⟩⟩
 ·injection hk with hk;subst hk
  exact ⟨_,lk 4,by rw [b9c];exact f5 (e7 _)⟩
 ·injection hk with hk;subst hk
  refine ⟨_,lk 6,rfl,rfl,rfl,.inr ?_⟩;show a4o _ _ (hdR 9 k n++[[C.own (k+10) 0 n true]]) (hdR 9 (k+1) n);rw [b7K];refine a1O (by simp [z9]) fun i x y hx hy=>?_
  by_cases hi:i<k
  ·rw [lbb (by simp [z9];exact hi),a8j hi] at hx hy;injection hx with hx;injection hy with hy
   subst hx hy;exact ⟨⟨by rw [ff _ om,b7h hi],rfl,rfl,fun h=>h⟩,trivial⟩
  ·have hl:i<(hdR 9 k n++[[C.own (k+10) 0 n true]]).length:=(lbe.1 hx).1;rw [lbq,z9] at hl;have hl:i<k+1:=hl;have:i=k:=om;subst this;rw [lbc (by simp [z9])] at hx hy;simp [z9] at hx hy;subst hx hy;exact ⟨⟨by rw [ff _ om,bm6],rfl,rfl,fun h=>h⟩,trivial⟩
 ·injection hk with hk;subst hk;exact ⟨_,rfl,f5 (e7 _)⟩
 ·injection hk with hk;subst hk;exact ⟨_,lk 3,f5 (e7 _)⟩
 ·injection hk with hk;subst hk;exact ⟨_,rfl,f5 (e7 _)⟩
 ·injection hk with hk;subst hk;exact ⟨_,lk 7,f5 (e7 _)⟩
 ·injection hk with hk;subst hk;exact ⟨_,lk 8,f5 (e7 _)⟩
 ·injection hk with hk;subst hk;exact ⟨_,lk 9,f5 (e7 _)⟩
 ·have hk:((mZ (k+1) n A).map zlB++[])[i]? =some k':=hk;have hi:i<k+1:=by have:=(lbe.1 hk).1;simpa [e8] using this
  rw [E9 (Z6 hi)] at hk;injection hk with hk;subst hk
  by_cases hik:i<k
  ·rw [b7h hik];exact ⟨_,E9 (Z6 hik),f5 (e7 _)⟩
  ·have:i=k:=by omega
   subst this;rw [bm6];exact ⟨_,lk 1,f5 (e7 _)⟩
def pJ1:Nat->Option Nat:=fun i=>if i=0 then some 1 else if i=3 then some 0 else none
def b7y (s:j2) (f:Nat × Bool):Int:=match s.rows[f.1]? with
 |none=>1
 |some w=>(w.value.den:Int)
def scL (s:j2) (l:LB):LI:=l.map (b7y s)
def ah5 (s:j2) (l:LB):(scL s l).length=l.length:=by simp [scL]
def aT0 {s:j2} {l:LB} {i:Nat} {b:Bool} {w:z7} (hw:s.rows[i]? =some w):scL s (l++[(i,b)])=scL s l++[(w.value.den:Int)]:=by
 unfold scL;rw [lbD];show _++[b7y s (i,b)]=_;unfold b7y;simp only [hw]
def V0 (s:j2) (g:List (Int × Rat)):Nat->Int:=fun i=>((j5 (j1 s) g).V i).num
def A0 (s:j2) (g:List (Int × Rat)):Nat->Nat->Int:=fun i j=>((j5 (j1 s) g).A i j).num
def C0 (g:List (Int × Rat)) (q:Nat):Nat->Int:=fun j=>(-(L0 g q j)).num
def bf8 (g:List (Int × Rat)):C0 g 0=fun _=>0:=by
 funext j;show (-(0:Rat)).num=0
 decide
def bd1 {g:List (Int × Rat)} {q:Nat} {t:Int × Rat} {c:Int} (h:g[q]? =some t) (hc:t.2=((c:Int):Rat)):C0 g (q+1)=fun j=>if j=t.1.toNat then -(1*c) else C0 g q j:=by
 funext j;unfold C0;rw [I1 h];simp only;by_cases hj:j=t.1.toNat
 ·rw [if_pos hj,if_pos hj,hc,ak5,a7M];omega
 ·rw [if_neg hj,if_neg hj]
def bl3 {s:j2} {g:List (Int × Rat)} {k:Nat} {b:Bool} {i:Nat} {w:z7} (h:(i8 (j1 s)).getD k (0,false)=(i,b)) (hw:s.rows[i]? =some w):sg1 b*w.value.num=V0 s g k:=by
 unfold V0;rw [← aJ5 (g:=g) h (ao7 hw),←aO1];rfl
def bk0 {s:j2} {g:List (Int × Rat)} {k:Nat} {b:Bool} {i:Nat} {w:z7} (h:(i8 (j1 s)).getD k (0,false)=(i,b)) (hw:s.rows[i]? =some w):aQ w b w.terms.length=A0 s g k:=by
 rw [bu4];funext j;unfold A0;rw [← aR9 (g:=g) h (ao7 hw)];rfl
end Go.Proofs.YtikokmdpigploaaGreat
