/- Part 7. -/
import Derived.Test.YtikokmdpigploaaGreatKl3
namespace Go.Proofs.YtikokmdpigploaaGreat
set_option linter.all false
set_option maxRecDepth 100000
set_option maxHeartbeats 8000000
open Go.RowKit
open St1 St2 St3 St4 St5 St6 St7 St8 StA StB StC
def a5e {α:Type} {l:List α} {k:Nat} {x:α} (h:l[k]? =some x):l.take (k+1)=l.take k++[x]:=by
 rw [lbG,h];rfl
theorem bz7 (a b:Bg) (ha:a.dl.length<=1000000) (hb:b.dl.length<=1000000):e8 Tryz.prog 303 [bgS a,bgS b] [] (m9 (decide (a.sg=b.sg/\a.dl=b.dl))) []:=by
 have l1:(a.dl.map j4).length=a.dl.length:=by simp
 have l2:(b.dl.map j4).length=b.dl.length:=by simp
 by_cases h0:¬(a.sg=b.sg/\a.dl.length=b.dl.length)
 ·(refine ac Tryz.func303 ?_;(conv=>whnf);repeat ((first|refine b0x ?_|refine zy ?_);conv=>whnf))
  repeat' (first|refine zx ?_|refine zd ?_ ?_<;>intro h<;>try omega|fail)<;>conv=>whnf
  all_goals first
   |omega
   |(refine j1 (lbJ ?_).symm;rintro ⟨h1,h2⟩;rw [h2] at h0;exact h0 ⟨h1,rfl⟩)
 have h0:a.sg=b.sg/\a.dl.length=b.dl.length:=Decidable.not_not.1 h0
 (refine ac Tryz.func303 ?_;(conv=>whnf);repeat ((first|refine b0x ?_|refine zy ?_);conv=>whnf))
 repeat' (first|refine zx ?_|refine zd ?_ ?_<;>intro h<;>try omega|fail)<;>conv=>whnf
 all_goals try omega
 refine k5 g8 (fun k=>([J,J,S.c (C.t (T.ptr [ti a.sg,v6 a.dl])),S.c (C.t (T.ptr [ti b.sg,v6 b.dl])),J,e7 .i64 k]++Jn 32,[])) a.dl.length (fun k=>a.dl.take k=b.dl.take k) [] rfl
  ⟨rfl,rfl,trivial,⟨rfl,rfl,rfl,trivial⟩⟩ ?_
 intro k hk hI
 by_cases hlt:k<a.dl.length
 ·obtain ⟨x,hx⟩:∃x,a.dl[k]? =some x:=⟨_,lbf hlt⟩
  obtain ⟨y,hy⟩:∃y,b.dl[k]? =some y:=⟨_,lbf (by omega)⟩
  conv=>whnf
  repeat' (first|refine zx ?_|refine j6 hx ?_|refine j6 hy ?_|refine zd ?_ ?_<;>intro h<;>try omega|fail)<;>conv=>whnf
  ·have hne:x≠y:=‹x≠y›
   refine j1 (lbJ ?_).symm
   rintro ⟨_,hq⟩;rw [hq,hy] at hx;injection hx with hx;exact hne hx.symm
  ·have hxy:x=y:=by omega
   refine ⟨hlt,?_,[],rfl,rfl,trivial,⟨rfl,rfl,rfl,trivial⟩⟩
   rw [a5e hx,a5e hy,hI,hxy]
  all_goals omega
 ·rw [lbn (by omega),lbn (by omega)] at hI
  conv=>whnf
  repeat' (first|refine zx ?_|refine zd ?_ ?_<;>intro h<;>try omega|fail)<;>conv=>whnf
  all_goals first
   |omega
   |exact j1 (lbH ⟨h0.1,hI⟩).symm
def bJ0:a0M .or .i64 0 0 0:=by show (0:Int)=_;decide +kernel
def bI2:a0M .or .i64 0 1 1:=by show (1:Int)=_;decide +kernel
def bM3:a0M .or .i64 1 0 1:=by show (1:Int)=_;decide +kernel
def bM1:a0M .or .i64 1 1 1:=by show (1:Int)=_;decide +kernel
def bK2:a0M .or .i64 0 (-1) (-1):=by show (-1:Int)=_;decide +kernel
def bK0:a0M .or .i64 (-1) 0 (-1):=by show (-1:Int)=_;decide +kernel
def bM6:a0M .or .i64 (-1) (-1) (-1):=by show (-1:Int)=_;decide +kernel
def bC2 (s t:Int) (m n:Nat) (hs:Sg s m) (ht:Sg t n) (lm:(dg m).length<=200000) (ln:(dg n).length<=200000):
 ec 301 [bgS ⟨s,dg m⟩,bgS ⟨t,dg n⟩] [] (.tup [bgS (bz (s*m+t*n)),eI 0]) []:=by
 have r1:=bq2 s m hs om;have r2:=bq2 t n ht om;have ad:=bf2 m n om om;have c:=b4Z m n om om;have ls:=a5q m n;have fin:∀(z:Int) (H1:Hp),z=s*m+t*n->Fin 0 (.tup [bgS (bz z),eI 0]) H1 (.tup [bgS (bz (s*m+t*n)),eI 0]) []:=fun z H1 h=>a7X (by rw [h])
 rcases hs with ⟨rfl,rfl⟩|⟨rfl,h1⟩|⟨rfl,h1⟩<;>rcases ht with ⟨rfl,rfl⟩|⟨rfl,h2⟩|⟨rfl,h2⟩
 case inl.inl=>
  have sg:=P4 (0) _ om (M4 ls om);refine ac Tryz.func301 ?_;conv=>whnf
  repeat' (first|refine zx ?_|refine ⟨_,bJ0,?_⟩|apply zD<;>intro h<;>try omega)<;>conv=>whnf
  all_goals first|omega|(exfalso;simp_all;done)|exact fin _ _ om
 case inl.inr.inl=>
  have sg:=P4 (1) _ om (M4 ls om);refine ac Tryz.func301 ?_;conv=>whnf
  repeat' (first|refine zx ?_|refine ⟨_,bI2,?_⟩|apply zD<;>intro h<;>try omega)<;>conv=>whnf
  all_goals first|omega|(exfalso;simp_all;done)|exact fin _ _ om
 case inl.inr.inr=>
  have sg:=P4 (-1) _ om (M4 ls om);refine ac Tryz.func301 ?_;conv=>whnf
  repeat' (first|refine zx ?_|refine ⟨_,bK2,?_⟩|apply zD<;>intro h<;>try omega)<;>conv=>whnf
  all_goals first|omega|(exfalso;simp_all;done)|exact fin _ _ om
 case inr.inl.inl=>
  have sg:=P4 (1) _ om (M4 ls om);refine ac Tryz.func301 ?_;conv=>whnf
  repeat' (first|refine zx ?_|refine ⟨_,bM3,?_⟩|apply zD<;>intro h<;>try omega)<;>conv=>whnf
  all_goals first|omega|(exfalso;simp_all;done)|exact fin _ _ om
 case inr.inr.inl=>
  have sg:=P4 (-1) _ om (M4 ls om);refine ac Tryz.func301 ?_;conv=>whnf
  repeat' (first|refine zx ?_|refine ⟨_,bK0,?_⟩|apply zD<;>intro h<;>try omega)<;>conv=>whnf
  all_goals first|omega|(exfalso;simp_all;done)|exact fin _ _ om
 case inr.inl.inr.inl=>
  have sg:=P4 (1) _ om (M4 ls om);refine ac Tryz.func301 ?_;conv=>whnf
  repeat' (first|refine zx ?_|refine ⟨_,bM1,?_⟩|apply zD<;>intro h<;>try omega)<;>conv=>whnf
  all_goals first|omega|(exfalso;simp_all;done)|exact fin _ _ om
 case inr.inr.inr.inr=>
  have sg:=P4 (-1) _ om (M4 ls om);refine ac Tryz.func301 ?_;conv=>whnf
  repeat' (first|refine zx ?_|refine ⟨_,bM6,?_⟩|apply zD<;>intro h<;>try omega)<;>conv=>whnf
  all_goals first|omega|(exfalso;simp_all;done)|exact fin _ _ om
 case inr.inl.inr.inr=>
  rcases H6 m n with hmn|hmn
  ·rw [lbH hmn] at c;have l3:=t8 (a5A n m);refine ac Tryz.func301 ?_;conv=>whnf
   repeat' (first|refine zx ?_|refine qp (a9D n m om om) ?_|refine qp (P4 (-1) (n - m) om om) ?_|apply zD<;>intro h<;>try omega)<;>conv=>whnf
   all_goals first|omega|(exfalso;simp_all;done)|exact fin _ _ om
  ·rw [lbJ (Nat.not_lt.2 hmn)] at c;have l3:=t8 (a5A m n);refine ac Tryz.func301 ?_;conv=>whnf
   repeat' (first|refine zx ?_|refine qp (a9D m n om om) ?_|refine qp (P4 (1) (m - n) om om) ?_|apply zD<;>intro h<;>try omega)<;>conv=>whnf
   all_goals first|omega|(exfalso;simp_all;done)|exact fin _ _ om
 case inr.inr.inr.inl=>
  rcases H6 m n with hmn|hmn
  ·rw [lbH hmn] at c;have l3:=t8 (a5A n m);refine ac Tryz.func301 ?_;conv=>whnf
   repeat' (first|refine zx ?_|refine qp (a9D n m om om) ?_|refine qp (P4 (1) (n - m) om om) ?_|apply zD<;>intro h<;>try omega)<;>conv=>whnf
   all_goals first|omega|(exfalso;simp_all;done)|exact fin _ _ om
  ·rw [lbJ (Nat.not_lt.2 hmn)] at c;have l3:=t8 (a5A m n);refine ac Tryz.func301 ?_;conv=>whnf
   repeat' (first|refine zx ?_|refine qp (a9D m n om om) ?_|refine qp (P4 (-1) (m - n) om om) ?_|apply zD<;>intro h<;>try omega)<;>conv=>whnf
   all_goals first|omega|(exfalso;simp_all;done)|exact fin _ _ om
def b8K (x y:Int) (lx:bl x<=200000) (ly:bl y<=200000):ec 301 [bgS (bz x),bgS (bz y)] [] (.tup [bgS (bz (x+y)),eI 0]) []:=by
 have h:=bC2 _ _ _ _ (a7R x) (a7R y) lx ly;rw [sgm,sgm] at h;exact h
def bs9 (x y:Int) (lx:bl x<=200000) (ly:bl y<=200000):ec 318 [bgS (bz x),bgS (bz y)] [] (.tup [bgS (bz (x - y)),eI 0]) []:=by
 have r:=a1U y om;have n:=a5Z y om;have a:=b8K x (-y) lx (by rw [Y4];exact ly);rw [← ab9] at a;refine ac Tryz.func318 ?_;conv=>whnf
 repeat' (first|refine zx ?_|refine bl0 [6] ?_|refine bl0 [1] ?_|apply zD<;>intro<;>try omega)<;>conv=>whnf
 all_goals first|(exfalso;simp_all;done)|exact a7X rfl
def bG1 (s t:Int) (m n:Nat) (hs:Sg s m) (ht:Sg t n) (lm:(dg m).length<=200000) (ln:(dg n).length<=200000):
 ec 240 [bgS ⟨s,dg m⟩,bgS ⟨t,dg n⟩] [] (.tup [bgS (bz ((s*t)*(m*n:Nat))),eI 0]) []:=by
 have r1:=bq2 s m hs om;have r2:=bq2 t n ht om;have mu:=b0J m n om om;have ls:=a5l m n;have hst:-1<=s*t/\s*t<=1/\(s*t=1\/s*t=-1\/m*n=0):=by
  rcases hs with ⟨rfl,rfl⟩|⟨rfl,h1⟩|⟨rfl,h1⟩<;>rcases ht with ⟨rfl,rfl⟩|⟨rfl,h2⟩|⟨rfl,h2⟩<;>simp
 obtain ⟨q1,q2,q3⟩:=hst;have sg:=P4 (s*t) (m*n) q3 om;refine ac Tryz.func240 ?_;conv=>whnf
 repeat' (first|refine zx ?_|refine ⟨_,I0 (y:=s*t) rfl om om,?_⟩|apply zD<;>intro<;>try omega)<;>conv=>whnf
 all_goals first|(exfalso;simp_all;done)|exact a7X rfl
def a9r (x y:Int) (lx:bl x<=200000) (ly:bl y<=200000):ec 240 [bgS (bz x),bgS (bz y)] [] (.tup [bgS (bz (x*y)),eI 0]) []:=by
 have h:=bG1 _ _ _ _ (a7R x) (a7R y) lx ly;have e:(x.sign*y.sign)*((x.natAbs*y.natAbs:Nat):Int)=x*y:=by
  rw [a3R];have h1:=sgm x;have h2:=sgm y;grind
 rw [e] at h;exact h
def bb8 {x y:Int} (h:(bz x).sg=(bz y).sg/\(bz x).dl=(bz y).dl):x=y:=by
 have:bz x=bz y:=by
  obtain ⟨h1,h2⟩:=h;cases hx:bz x with
  |mk a b=>
   cases hy:bz y with
   |mk c d=>rw [hx,hy] at h1 h2;simp only at h1 h2;rw [h1,h2]
 rw [← a68 x,←a68 y,this]
def aE9 (x y:Int) (lx:bl x<=300000) (ly:bl y<=300000):ec 241 [bgS (bz x),bgS (bz y)] [] (eI (P6 x y)) []:=by
 have r1:=a1U x lx;have r2:=a1U y ly;have hsx:(bz x).sg=x.sign:=rfl;have hsy:(bz y).sg=y.sign:=rfl;have sx:=G4 x;have sy:=G4 y;have sm:=bz7 (bz x) (bz y) (show bl x<=1000000 by omega) (show bl y<=1000000 by omega);by_cases he:x=y
 ·subst he;have sm:ec 303 [bgS (bz x),bgS (bz x)] [] (m9 true) []:=by rw [show decide ((bz x).sg=(bz x).sg/\(bz x).dl=(bz x).dl)=true from lbH rz] at sm;exact sm
  have e0:P6 x x=0:=by unfold P6;rw [iB om,iB om]
  rw [e0];refine ac Tryz.func241 ?_;conv=>whnf
  repeat' (first|refine zx ?_|apply zD<;>intro h<;>try omega)<;>conv=>whnf
  all_goals first|(exfalso;simp_all;done)|exact p9 rfl
 rw [lbJ (fun h=>he (bb8 h))] at sm;have ls:=b4Z x.natAbs y.natAbs lx ly;rcases b37 he with hlt|hgt
 ·have e1:P6 x y=-1:=by unfold P6;rw [iA hlt]
  rw [e1];by_cases hl:x.natAbs<y.natAbs
  ·rw [lbH hl] at ls;refine ac Tryz.func241 ?_;conv=>whnf
   repeat' (first|refine zx ?_|apply zD<;>intro h<;>try omega)<;>conv=>whnf
   all_goals first|omega|(exfalso;simp_all;done)|exact p9 rfl
  ·rw [lbJ hl] at ls;refine ac Tryz.func241 ?_;conv=>whnf
   repeat' (first|refine zx ?_|apply zD<;>intro h<;>try omega)<;>conv=>whnf
   all_goals first|omega|(exfalso;simp_all;done)|exact p9 rfl
 ·have e1:P6 x y=1:=by unfold P6;rw [iB om,iA om]
  rw [e1];by_cases hl:x.natAbs<y.natAbs
  ·rw [lbH hl] at ls;refine ac Tryz.func241 ?_;conv=>whnf
   repeat' (first|refine zx ?_|apply zD<;>intro h<;>try omega)<;>conv=>whnf
   all_goals first|omega|(exfalso;simp_all;done)|exact p9 rfl
  ·rw [lbJ hl] at ls;refine ac Tryz.func241 ?_;conv=>whnf
   repeat' (first|refine zx ?_|apply zD<;>intro h<;>try omega)<;>conv=>whnf
   all_goals first|omega|(exfalso;simp_all;done)|exact p9 rfl
def a50 (l:LI) (k:Nat):Int:=val (l.drop (l.length - k))
def b5q (l:LI):a50 l 0=0:=by unfold a50;rw [Nat.sub_zero,List.drop_length];rfl
def b5I {l:LI} {k:Nat} (h:k<l.length):∃x,l[l.length - 1 - k]? =some x/\a50 l (k+1)=x+1048576*a50 l k:=by
 refine ⟨l[l.length - 1 - k],lbf om,?_⟩;unfold a50;rw [show l.length - (k+1)=l.length - 1 - k by omega,a3P (lbf om),show l.length - 1 - k+1=l.length - k by omega]
def b0Z {l:LI} (h:Okd l) {k:Nat} (hk:k<=l.length):0<=a50 l k/\a50 l k<pw k:=by
 refine ⟨B7 (h.drop _),?_⟩;have:=Z8 (h.drop (l.length - k));rw [a3K,show l.length - (l.length - k)=k by omega] at this;exact this
def aw7 {l:LI} (h:Okd l) {k:Nat} (hk:k<=l.length):pw (l.length - k)*a50 l k<=val l/\val l<pw (l.length - k)*(a50 l k+1):=by
 have e:=a45 l (l.length - k) om;have h1:=B7 (h.take (l.length - k));have h2:=Z8 (h.take (l.length - k));rw [lbs,show min (l.length - k) l.length=l.length - k by omega] at h2;have e2:val l=val (l.take (l.length - k))+pw (l.length - k)*a50 l k:=e;rw [aB2];omega
def b9F:pw 3=1152921504606846976:=rfl
def a2V {l:LI} (h:Okd l) {k:Nat} (hk:k<=l.length) (h3:k<=3):0<=a50 l k/\a50 l k<1152921504606846976:=by
 have h1:=b0Z h hk;have h2:=a1c h3;rw [b9F] at h2;omega
def b4K (l:LI) (n:Nat) (hl:l.length<=1000000) (hok:Okd l) (hn:n<=l.length) (h3:n<=3):ec 337 [j7 l,eI n] [] (eI (a50 l n)) []:=by
 have m1:(l.map j4).length=l.length:=zq;refine ac Tryz.func337 ?_;conv=>whnf
 repeat' (first|refine zx ?_|apply zD<;>intro<;>try omega)<;>conv=>whnf
 refine k5 g8 (fun k=>([j7 l,eI n,J,J,J,eI (a50 l k),eI k]++Jn 17,[])) n tT [] trivial
  ⟨rfl,rfl,trivial,⟨rfl,rfl,g9 (b5q l).symm,rz⟩⟩ ?_
 intro k hk _;by_cases hlt:k<n
 ·obtain ⟨x,hx,e⟩:=b5I (l:=l) (k:=k) om;have hs:=a2V hok (k:=k) om om;have hs2:=a2V hok (k:=k+1) om om;have hxr:=hok.get hx;have ix:((l.length:Int) - 1) - (k:Int)=((l.length - 1 - k:Nat):Int):=om;have ix2:(((l.map j4).length:Int) - 1) - (k:Int)=((l.length - 1 - k:Nat):Int):=om;generalize a50 l k=tk at *;conv=>whnf
  repeat' (first|refine zx ?_|refine N4 ix hx ?_|refine N4 ix2 hx ?_|apply zD<;>intro<;>try omega)<;>conv=>whnf
  all_goals first|omega|exact ⟨hlt,trivial,[],rfl,rfl,trivial,⟨rfl,rfl,g9 om,rz⟩⟩
 ·have hke:k=n:=by omega
  subst hke;conv=>whnf
  repeat' (first|refine zx ?_|apply zD<;>intro<;>try omega)<;>conv=>whnf
  all_goals first|omega|exact p9 rfl
def b9v {a b n m low:Nat} {A T d Q:Int} (hb:0<b) (hab:b<=a)
 (hm:m=min 2 (dg b).length) (hlow:low=(dg b).length - m) (hn:n=if (dg a).length - min 3 (dg a).length<low then (dg a).length - low else min 3 (dg a).length)
 (hA:A=a50 (dg a) n) (hT:T=a50 (dg b) m) (hd:d=if 0<low then T+1 else T) (hQ:Q=max 1 (A / d)):
 n<=(dg a).length/\n<=3/\low<=(dg a).length - n/\1<=d/\0<Q/\Q<1152921504606846976/\pw ((dg a).length - n - low)*Q*(b:Int)<=a:=by
 have hla:=t8 hab;have hoa:Okd (dg a):=(Y3 a).1;have hob:Okd (dg b):=(Y3 b).1;have hlb:0<(dg b).length:=by
  have:dg b≠[]:=fun h=>by have:=O4.1 h;omega
  exact a7H.2 this
 have hnl:n<=(dg a).length:=by rw [hn];split<;>omega
 have hn3:n<=3:=by rw [hn];split<;>omega
 have hz:low<=(dg a).length - n:=by rw [hn];split<;>omega
 obtain ⟨A0,A1⟩:=a2V hoa hnl hn3;obtain ⟨T0,T1⟩:=b0Z hob (k:=m) om;obtain ⟨sa,sa2⟩:=aw7 hoa hnl;obtain ⟨sb,sb2⟩:=aw7 hob (k:=m) om;rw [v3] at sa sa2 sb sb2;rw [← hA] at A0 A1 sa sa2;rw [← hT] at T0 T1 sb sb2;rw [← hlow] at sb sb2;have hpl:=N8 low;have hbd:(b:Int)<=pw low*d:=by
  rw [hd];split
  ·omega
  ·have h0:low=0:=by omega
   rw [h0,aO6] at sb sb2 ⊢;omega
 have hd1:1<=d:=by
  apply Y9;intro h;have:pw low*d<=pw low*0:=lbW om om;omega
 have hq0:0<=A / d:=aB3 A0 om;have hqA:A / d<=A:=Int.ediv_le_self _ A0;refine ⟨hnl,hn3,hz,hd1,om,om,?_⟩;by_cases h1:1<=A / d
 ·have hQ2:Q=A / d:=by omega
  have hmul:Q*d<=A:=by rw [hQ2];exact Int.ediv_mul_le A om
  have e1:pw ((dg a).length - n)=pw ((dg a).length - n - low)*pw low:=by rw [← a65];congr 1;omega
  have hp:=N8 ((dg a).length - n - low);have s1:pw ((dg a).length - n - low)*Q*(b:Int)<=pw ((dg a).length - n - low)*Q*(pw low*d):=lbW hbd (lb0 om om);have s2:pw ((dg a).length - n - low)*Q*(pw low*d)=pw ((dg a).length - n)*(Q*d):=by rw [e1];grind
  have s3:pw ((dg a).length - n)*(Q*d)<=pw ((dg a).length - n)*A:=lbW hmul (by have:=N8 ((dg a).length - n);omega);omega
 ·have hQ2:Q=1:=by omega
  have hAd:A<d:=by
   apply Y9;intro h;have:1<=A / d:=by rw [Int.le_ediv_iff_mul_le om];omega
   omega
  have hz0:(dg a).length - n - low=0:=by
   apply Y9;intro hne;have hn2:n=3:=by rw [hn] at hne ⊢;split at hne<;>rename_i hc<;>simp only [hc,if_true,if_false] at * <;>omega
   have htop:=al9 (n:=a) om;have hm2:=a1c (show m<=2 by omega);have e2:pw ((dg a).length - 1)=pw ((dg a).length - 3)*pw 2:=by rw [← a65];congr 1;omega
   rw [hn2] at sa2;have hAge:pw 2<=A:=by
    apply Y9;intro h;have:pw ((dg a).length - 3)*(A+1)<=pw ((dg a).length - 3)*pw 2:=lbW om (by have:=N8 ((dg a).length - 3);omega);omega
   have:d<=pw 2:=by rw [hd];split<;>omega
   omega
  rw [hz0,aO6,hQ2];omega
def bc7 (k:Nat) (l:LI):val (List.replicate k 0++l)=pw k*val l:=by
 rw [O6,a7g,aP8];omega
def b90 {k:Nat} {Q:Int} (h:0<Q):bz (pw k*Q)=⟨1,List.replicate k 0++dg Q.natAbs⟩:=by
 have hp:=N8 k;have hpos:0<pw k*Q:=ab0 hp h;have hr:M7 ⟨1,List.replicate k 0++dg Q.natAbs⟩=true:=by
  have hc:=Y3 Q.natAbs;have hne:dg Q.natAbs≠[]:=fun e=>by have:=O4.1 e;omega
  have hl:=a7H.2 hne;unfold M7;have ho:Okd (List.replicate k 0++dg Q.natAbs):=(Okd.zeros k).append hc.1;rw [aN7.2 ho];simp only [lbq,aP8];rw [iB om];obtain ⟨x,hx⟩:∃x,(dg Q.natAbs)[(dg Q.natAbs).length - 1]? =some x:=⟨_,lbf om⟩;have hx2:(List.replicate k 0++dg Q.natAbs)[k+(dg Q.natAbs).length - 1]? =some x:=by
   rw [lbc zo,aP8,show k+(dg Q.natAbs).length - 1 - k=(dg Q.natAbs).length - 1 by omega,hx]
  rw [a2S hx2];have:=hc.2 x hx;simp [this]
 have e:bv ⟨1,List.replicate k 0++dg Q.natAbs⟩=pw k*Q:=by
  show 1*val (List.replicate k 0++dg Q.natAbs)=_;rw [bc7,v3];have:((Q.natAbs:Nat):Int)=Q:=om;rw [this];omega
 rw [← e];exact (bt6 hr).symm
def U3 (c:P5):Bool:=
 decide (0<=c.since) && decide (c.since<=c.till) && decide (c.till<=100000) && idx c.scale 30 && btw c.grams 0 1099511627776 && btw c.permille 0 1000 && btw c.drift 0 10000000
def O0 (c:P5) (day:Int):Bool:=U3 c && btw day c.since c.till
def aS8 (cs:List P5) (i:Nat):Int:=((cs[i]?).map (·.since)).getD 0
def a5K (cs:List P5) (o:Option Nat) (c:P5):Bool:=match o with
 |none=>true
 |some b=>decide (aS8 cs b<=c.since)
def H3 (cs:List P5) (scale day:Int):Nat->Option Nat
 |0=>none
 |k+1=>match cs[k]? with
  |none=>H3 cs scale day k
  |some c=>if decide (c.scale=scale) && O0 c day && a5K cs (H3 cs scale day k) c then some k else H3 cs scale day k
def Q8 {cs:List P5} {scale day:Int}:∀{k b:Nat},H3 cs scale day k=some b->b<k/\∃c,cs[b]? =some c/\c.scale=scale/\O0 c day=true
 |0,b,h=>by simp [H3] at h
 |k+1,b,h=>by
  unfold H3 at h;split at h
  ·obtain ⟨h1,h2⟩:=Q8 h;exact ⟨om,h2⟩
  ·rename_i c hc;split at h
   ·rename_i hcc;injection h with h;subst h;simp only [lbN,lbI] at hcc;exact ⟨om,c,hc,hcc.1.1,hcc.1.2⟩
   ·obtain ⟨h1,h2⟩:=Q8 h;exact ⟨om,h2⟩
def a2J (rs:List J1) (scale day:Int):Bool:=rs.any fun r=>decide (r.scale=scale) && decide (r.since<=day)
def a3n (c:P5) (reading day:Int):Rat:=Rat.divInt (c.permille*reading) 1000+((c.grams+c.drift*(day - c.since):Int):Rat)
def aM9 (x y:Rat):Rat:=if x<y then y else x
def b6B:P5:=⟨0,0,0,0,0,0⟩
def a2d (cs:List P5) (i:Nat):P5:=(cs[i]?).getD b6B
def R4 (cs:List P5) (rs:List J1) (scale reading day:Int):Option (Rat × Rat):=
 match H3 cs scale day cs.length with
 |none=>none
 |some i=>if a2J rs scale day then none else if btw reading 0 1099511627776 then
   some (aM9 ((reading:Rat) - a3n (a2d cs i) reading day) ((0:Int):Rat),(reading:Rat)+a3n (a2d cs i) reading day) else none
def bQ6 (l:List Rat):Rat:=l.foldl (·+·) ((0:Int):Rat)
def hz (H:List (List Rat)):List (List Fr):=H.map (·.map fz)
structure bQ3 (e:Ev) (H:List (List Rat)):Prop where
 len:H.length=e.moves.length
 wid:∀l ∈ H,(l.length:Int)=e.mats
def hAt (H:List (List Rat)) (k m:Nat):Rat:=(H.getD k []).getD m 0
def b2V (x:C6) (v:Nat->Rat) (f:Nat->Nat->Rat):Nat->Nat->Rat:=fun p m=>if x.src=(p:Int) then f p m - v m else if x.dst=(p:Int) then f p m+v m else f p m
def stk (e:Ev) (H:List (List Rat)):Nat->Nat->Nat->Rat
 |0=>fun _ _=>((0:Int):Rat)
 |k+1=>match e.moves[k]? with
  |none=>stk e H k
  |some x=>b2V x (hAt H k) (stk e H k)
def b42:rl ((0:Int):Rat)=1:=by rw [a0G];rfl
def p5 (f:Nat->Rat):Nat->Rat
 |0=>((0:Int):Rat)
 |n+1=>p5 f n+f n
def a1R:((0:Int):Rat)=0:=rfl
def p4 {f g:Nat->Rat}:∀{n:Nat},(∀ m,m<n->f m=g m)->p5 f n=p5 g n
 |0,_=>rfl
 |n+1,h=>by simp only [p5];rw [p4 fun m hm=>h m om,h n om]
def getD_some {l:List Rat} {m:Nat} (h:m<l.length):l[m]? =some (l.getD m 0):=by rw [lbl,lbf h];rfl
def bP1 (xs ys:LI) (k:Nat):Prop:=xs.take k=ys.take k
def a1n {α:Type} {p:Nat->α->Bool} {l:List α}:∀{k:Nat} {x:Int},x ∈ B6 p k l↔∃i m,l[i]? =some m/\p (k+i) m=true/\x=((k+i:Nat):Int):=by
 induction l with
 |nil=>intro k x;simp [B6]
 |cons a r ih=>
  intro k x;have step:x ∈ B6 p (k+1) r↔∃i m,(a::r)[i+1]? =some m/\p (k+(i+1)) m=true/\x=((k+(i+1):Nat):Int):=by
   rw [ih];constructor
   ·rintro ⟨i,m,h1,h2,h3⟩;exact ⟨i,m,by simpa using h1,by rw [show k+(i+1)=k+1+i from by omega];exact h2,by rw [h3];omega⟩
   ·rintro ⟨i,m,h1,h2,h3⟩;exact ⟨i,m,by simpa using h1,by rw [show k+1+i=k+(i+1) from by omega];exact h2,by rw [h3];omega⟩
  unfold B6;by_cases hp:p k a=true
  ·rw [iA hp,lbA,step];constructor
   ·rintro (rfl|⟨i,m,h⟩)
    ·exact ⟨0,a,rfl,hp,rfl⟩
    ·exact ⟨i+1,m,h⟩
   ·rintro ⟨i,m,h1,h2,h3⟩;cases i with
    |zero=>left;simpa using h3
    |succ i=>right;exact ⟨i,m,h1,h2,h3⟩
  ·rw [iB hp,step];constructor
   ·rintro ⟨i,m,h⟩;exact ⟨i+1,m,h⟩
   ·rintro ⟨i,m,h1,h2,h3⟩;cases i with
    |zero=>simp at h1;subst h1;exact absurd h2 hp
    |succ i=>exact ⟨i,m,h1,h2,h3⟩
def aj0 {α:Type} (p:Nat->α->Bool) (l:List α):∀k,(B6 p k l).Pairwise (·<·):=by
 induction l with
 |nil=>intro k;simp [B6]
 |cons a r ih=>
  intro k;unfold B6;split
  ·rw [aw5];refine ⟨fun x hx=>?_,ih (k+1)⟩;obtain ⟨i,m,_,_,rfl⟩:=a1n.1 hx;omega
  ·exact ih (k+1)
def Asc (l:LI) (n:Int):Prop:=(∀ (i:Nat) (x:Int),l[i]? =some x->0<=x/\x<n)/\∀(i:Nat) (x y:Int),l[i]? =some x->l[i+1]? =some y->x<y
def Asc.of_sorted {l:LI} {n:Int} (h1:l.Pairwise (·<·)) (h2:∀x ∈ l,0<=x/\x<n):Asc l n:=by
 refine ⟨fun i x hx=>h2 x (lbm hx),fun i x y hx hy=>?_⟩;obtain ⟨hi,rfl⟩:=lbe.1 hx;obtain ⟨hj,rfl⟩:=lbe.1 hy;exact b38.1 h1 i (i+1) hi hj om
def aS4 {α:Type} (p:Nat->α->Bool) (l:List α):Asc (B6 p 0 l) l.length:=by
 refine Asc.of_sorted (aj0 p l 0) (fun x hx=>?_);obtain ⟨i,m,hm,_,rfl⟩:=a1n.1 hx;have:=(lbe.1 hm).1;omega
def bf1 (n:Int):Asc [] n:=⟨fun i x h=>by simp at h,fun i x y h=>by simp at h⟩
def aH9 (e:Ev) (hh mat lo hi:Int):Asc (J2 e hh mat lo hi) e.moves.length:=by
 unfold J2;split
 ·exact aS4 _ _
 ·exact bf1 _
def b9y {e:Ev} {G:List (List Rat)} {k:Nat} {x:C6} (hx:e.moves[k]? =some x):stk e G (k+1)=b2V x (hAt G k) (stk e G k):=by
 conv=>lhs;unfold stk
 rw [hx]
def ba9 {e:Ev} {G:List (List Rat)} {k:Nat} (hx:e.moves[k]? =none):stk e G (k+1)=stk e G k:=by
 conv=>lhs;unfold stk
 rw [hx]
def b2L {e:Ev} {x:C6} (h:O5 e x=true) (ha:x.all=true):N9 e x.src≠0:=by
 unfold O5 at h;simp only [lbN,lbI] at h;have:=h.1.1.2;rw [ha] at this;simpa using this
def Q3 (e:Ev) (x:C6):Option (Rat × Rat):=if x.scale=-1 then none else R4 e.certs e.recalls x.scale x.reading x.day
structure a1M where
 mv:Int
 kind:Int
 grams:Int
structure W9 where
 mv:Int
 kind:Int
structure k8 where
 ev:Ev
 finds:List a1M
 cleans:List W9
def a2n (e:Ev) (mv kind:Int):Int:=if mv<0\/(e.moves.length:Int)<=mv then 4 else if kind<0\/8<=kind then 1 else 0
def R7 (e:Ev):List a1M->Int
 |[]=>0
 |f::r=>if a2n e f.mv f.kind≠0 then a2n e f.mv f.kind else if f.grams<1\/1099511627776<f.grams then 3 else R7 e r
def S6 (e:Ev):List W9->Int
 |[]=>0
 |c::r=>if a2n e c.mv c.kind≠0 then a2n e c.mv c.kind else S6 e r
def t9 (t:k8):Int:=
 if I1 t.ev≠0 then I1 t.ev else if 20<t.finds.length\/50<t.cleans.length then 6
 else if R7 t.ev t.finds≠0 then R7 t.ev t.finds else S6 t.ev t.cleans
def y3 (l:List a1M) (kind:Int) (i:Nat):LI:=(l.filter fun f=>decide (f.kind=kind) && decide (f.mv=(i:Int))).map (·.grams)
def E5 (l:List W9) (kind:Int) (i:Nat):Nat:=(l.filter fun c=>decide (c.kind=kind) && decide (c.mv=(i:Int))).length
def col (z:List Rat):List (List Rat):=z.map fun v=>[v]
def be1 (z:List Rat) (k:Nat):hAt (col z) k 0=z.getD k 0:=by
 unfold hAt col;cases h:z[k]?<;>simp [lbl,h]
def a5s (e:Ev) (z:List Rat) (k p:Nat):Rat:=stk e (col z) k p 0
def bB1 (iv:Option (Rat × Rat)) (v:Rat):Bool:=match iv with
 |none=>true
 |some (_,hi)=>decide (v<=hi)
structure bH8 (e:Ev) (x:C6) (v f:Rat):Prop where
 pos:0<=v
 most:N9 e x.src≠0->v<=f
 all:x.all=true->v=f
structure b9U (t:k8) (kind:Int) (i:Nat) (x:C6) (v:Rat):Prop where
 cap:bB1 (Q3 t.ev x) v=true
 fin:∀g ∈ y3 t.finds kind i,(g:Rat)<=v
 cln:0<E5 t.cleans kind i->v=0
structure bI5 (t:k8) (kind:Int) (z:List Rat):Prop where
 tr:t9 t=0
 k0:0<=kind
 k1:kind<8
 len:z.length=t.ev.moves.length
 step:∀i x,t.ev.moves[i]? =some x->bH8 t.ev x (z.getD i 0) (a5s t.ev z i x.src.toNat)/\b9U t kind i x (z.getD i 0)
def F3 {t:k8} (h:t9 t=0):I1 t.ev=0/\t.finds.length<=20/\t.cleans.length<=50/\R7 t.ev t.finds=0/\S6 t.ev t.cleans=0:=by
 unfold t9 at h;by_cases h1:I1 t.ev≠0
 ·rw [iA h1] at h;exact absurd h h1
 rw [iB h1] at h;by_cases h2:20<t.finds.length\/50<t.cleans.length
 ·rw [iA h2] at h;cases h
 rw [iB h2] at h;by_cases h3:R7 t.ev t.finds≠0
 ·rw [iA h3] at h;exact absurd h h3
 rw [iB h3] at h;exact ⟨by simpa using h1,om,om,by simpa using h3,h⟩
def b5j {t:k8} (h1:I1 t.ev=0) (h2:t.finds.length<=20) (h3:t.cleans.length<=50) (h4:R7 t.ev t.finds=0) (h5:S6 t.ev t.cleans=0):t9 t=0:=by
 unfold t9;rw [iB (by simp [h1]),iB om,iB (by simp [h4]),h5]
def a0L {e:Ev}:∀{l:List a1M},R7 e l=0->∀f ∈ l,0<=f.mv/\f.mv<e.moves.length/\0<=f.kind/\f.kind<8/\1<=f.grams/\f.grams<=1099511627776
 |[],_,f,hf=>by cases hf
 |g::r,h,f,hf=>by
  unfold R7 at h;by_cases h1:a2n e g.mv g.kind≠0
  ·rw [iA h1] at h;exact absurd h h1
  rw [iB h1] at h;by_cases h2:g.grams<1\/1099511627776<g.grams
  ·rw [iA h2] at h;cases h
  rw [iB h2] at h;rcases lbA.1 hf with rfl|hf
  ·unfold a2n at h1;by_cases h3:f.mv<0\/(e.moves.length:Int)<=f.mv
   ·rw [iA h3] at h1;exact absurd de h1
   rw [iB h3] at h1;by_cases h4:f.kind<0\/8<=f.kind
   ·rw [iA h4] at h1;exact absurd de h1
   omega
  ·exact a0L h f hf
def a8F (l:List a1M) (f:a1M) (kind:Int) (i:Nat):y3 (l++[f]) kind i=y3 l kind i++(if f.kind=kind/\f.mv=(i:Int) then [f.grams] else []):=by
 unfold y3;rw [a5O,lbC];by_cases h:f.kind=kind/\f.mv=(i:Int)
 ·rw [iA h];simp [h.1,h.2]
 ·rw [iB h];have:(decide (f.kind=kind) && decide (f.mv=(i:Int)))=false:=by
   rw [← lbQ];simp only [lbN,lbI];exact h
  simp [this]
def a1T (l:List W9) (c:W9) (kind:Int) (i:Nat):E5 (l++[c]) kind i=E5 l kind i+(if c.kind=kind/\c.mv=(i:Int) then 1 else 0):=by
 unfold E5;rw [a5O,lbq];by_cases h:c.kind=kind/\c.mv=(i:Int)
 ·rw [iA h];simp [h.1,h.2]
 ·rw [iB h];have:(decide (c.kind=kind) && decide (c.mv=(i:Int)))=false:=by
   rw [← lbQ];simp only [lbN,lbI];exact h
  simp [this]
def a1W (t:k8):k8:={ t with finds:=[] }
def b5Z {t:k8} (h:t9 t=0):t9 (a1W t)=0:=by
 obtain ⟨q1,q2,q3,q4,q5⟩:=F3 h;exact b5j q1 (by simp [a1W]) q3 rfl q5
def b5s {e:Ev} {z:List Rat} {k:Nat} {x:C6} (hx:e.moves[k]? =some x) (p:Nat):a5s e z (k+1) p=if x.src=(p:Int) then a5s e z k p - z.getD k 0 else if x.dst=(p:Int) then a5s e z k p+z.getD k 0 else a5s e z k p:=by
 unfold a5s;rw [b9y hx];unfold b2V;rw [be1]
def b8O {e:Ev} {z:List Rat} {k:Nat} (hx:e.moves[k]? =none) (p:Nat):a5s e z (k+1) p=a5s e z k p:=by
 unfold a5s;rw [ba9 hx]
def a4d {f:Nat->Rat}:∀{n:Nat},(∀ p,p<n->0<=f p)->0<=p5 f n
 |0,_=>lb3
 |n+1,h=>by
  have h1:=a4d (n:=n) fun p hp=>h p om
  have h2:=h n om;simp only [p5];grind
section
structure Fd where
 V:Nat->Rat
 A:Nat->Nat->Rat
 G:Nat->Rat
 O:Nat->Nat
 F:Nat->Nat
namespace Fd
set_option linter.all false
def pRow (D:Fd) (r s j:Nat):Rat:=if j=s then 1 / D.A r s else D.A r j / D.A r s
def exch (D:Fd) (r s:Nat):Fd where
 V:=fun i=>if i=r then D.V r / D.A r s else D.V i - D.A i s*(D.V r / D.A r s)
 A:=fun i j=>if i=r then D.pRow r s j else if j=s then 0 - D.A i s*D.pRow r s s else D.A i j - D.A i s*D.pRow r s j
 G:=fun j=>if j=s then 0 - D.G s*D.pRow r s s else D.G j - D.G s*D.pRow r s j
 O:=fun i=>if i=r then D.F s else D.O i
 F:=fun j=>if j=s then D.O r else D.F j
end Fd
def H4 {f:Nat->Rat} {s:Nat}:∀{n:Nat},s<n->p5 f n=p5 (fun j=>if j=s then 0 else f j) n+f s
 |0,h=>om
 |n+1,h=>by
  simp only [p5];by_cases hs:s=n
  ·subst hs;rw [iA rfl,p4 (n:=s) (f:=fun j=>if j=s then 0 else f j) (g:=f) fun m hm=>by rw [iB om]];grind
  ·rw [iB (show ¬n=s by omega),H4 (f:=f) (s:=s) (n:=n) om];grind
def K0 {f:Nat->Rat} (k:Rat):∀n:Nat,p5 (fun j=>k*f j) n=k*p5 f n
 |0=>by simp only [p5,a1R];grind
 |n+1=>by simp only [p5];rw [K0 k n];grind
def a2t {f g:Nat->Rat}:∀n:Nat,p5 (fun j=>f j+g j) n=p5 f n+p5 g n
 |0=>by simp only [p5,a1R];grind
 |n+1=>by simp only [p5];rw [a2t n];grind
def D5 {f:Nat->Rat}:∀{n:Nat},(∀ j,j<n->f j=0)->p5 f n=0
 |0,_=>by simp only [p5,a1R]
 |n+1,h=>by simp only [p5];rw [D5 fun j hj=>h j om,h n om];grind
def aj2 {f:Nat->Rat}:∀{n:Nat},(∀ j,j<n->f j<=0)->p5 f n<=0
 |0,_=>by simp only [p5,a1R];grind
 |n+1,h=>by
  simp only [p5];have h1:=aj2 (f:=f) (n:=n) fun j hj=>h j om
  have h2:=h n om;grind
def bq5 {f:Nat->Rat} {n s:Nat} (h:∀j,j<n->f j<=0) (hs:s<n) (h0:f s<0):p5 f n<0:=by
 rw [H4 hs];have:=aj2 (f:=fun j=>if j=s then 0 else f j) (n:=n) fun j hj=>by split;grind;exact h j hj
 grind
def bn4 {f:Nat->Rat} {n s:Nat} (h:∀j,j<n->0<=f j) (hs:s<n) (h0:0<f s):0<p5 f n:=by
 rw [H4 hs];have:=a4d (f:=fun j=>if j=s then 0 else f j) (n:=n) fun j hj=>by
  by_cases hj2:j=s
  ·simp only [hj2,if_true];grind
  ·simp only [iB hj2];exact h j hj
 grind
def Ids (m n:Nat) (D:Fd) (y:Nat->Rat) (c:Rat):Prop:=∀i,i<m->y (D.O i)=c*D.V i - p5 (fun j=>D.A i j*y (D.F j)) n
def am4 {D:Fd} {r s n:Nat} {y:Nat->Rat} (hs:s<n) (f:Nat->Rat) (f':Nat->Rat) (k:Rat) (hf:∀j,j≠s->f' j=f j - k*D.pRow r s j):
 p5 (fun j=>f' j*y ((D.exch r s).F j)) n=p5 (fun j=>if j=s then 0 else f j*y (D.F j)) n - k*p5 (fun j=>if j=s then 0 else D.pRow r s j*y (D.F j)) n+f' s*y (D.O r):=by
 rw [H4 hs];have h1:(D.exch r s).F s=D.O r:=by show (if s=s then D.O r else D.F s)=_;rw [iA rfl]
 rw [h1];have h2:p5 (fun j=>if j=s then 0 else f' j*y ((D.exch r s).F j)) n=p5 (fun j=>(if j=s then 0 else f j*y (D.F j))+(-k)*(if j=s then 0 else D.pRow r s j*y (D.F j))) n:=p4 fun j hj=>by
  by_cases h:j=s
  ·rw [iA h,iA h,iA h];grind
  ·rw [iB h,iB h,iB h,hf j h];have:(D.exch r s).F j=D.F j:=by show (if j=s then D.O r else D.F j)=_;rw [iB h]
   rw [this];grind
 rw [h2,a2t,K0];grind
def aA5 {D:Fd} {r s n:Nat} {y:Nat->Rat} {c:Rat} (hs:s<n) (hp:D.A r s≠0):
 y (D.O r)=c*D.V r - p5 (fun j=>D.A r j*y (D.F j)) n↔y (D.F s)=c*(D.V r / D.A r s) - p5 (fun j=>if j=s then 0 else D.pRow r s j*y (D.F j)) n - 1 / D.A r s*y (D.O r):=by
 have e1:p5 (fun j=>D.A r j*y (D.F j)) n=D.A r s*p5 (fun j=>if j=s then 0 else D.pRow r s j*y (D.F j)) n+D.A r s*y (D.F s):=by
  rw [H4 hs,←K0]
  congr 1
  refine p4 fun j hj=>?_
  by_cases h:j=s
  ·simp only [iA h];grind
  ·simp only [iB h];unfold Fd.pRow;rw [iB h];grind
 rw [e1];generalize p5 (fun j=>if j=s then 0 else D.pRow r s j*y (D.F j)) n=R;generalize y (D.F s)=a;generalize y (D.O r)=b;generalize D.V r=v;generalize D.A r s=p at *;constructor
 ·intro h;rw [h];grind
 ·intro h;rw [h];grind
def as1 {m n:Nat} {D:Fd} {r s:Nat} {y:Nat->Rat} {c:Rat} (hr:r<m) (hs:s<n) (hp:D.A r s≠0):Ids m n D y c↔Ids m n (D.exch r s) y c:=by
 have hO:(D.exch r s).O r=D.F s:=by show (if r=r then D.F s else D.O r)=_;rw [iA rfl]
 have hV:(D.exch r s).V r=D.V r / D.A r s:=by show (if r=r then _ else _)=_;rw [iA rfl]
 have hA:∀j,(D.exch r s).A r j=D.pRow r s j:=fun j=>by show (if r=r then _ else _)=_;rw [iA rfl]
 have hps:D.pRow r s s=1 / D.A r s:=by unfold Fd.pRow;rw [iA rfl]
 have rowr:(y ((D.exch r s).O r)=c*(D.exch r s).V r - p5 (fun j=>(D.exch r s).A r j*y ((D.exch r s).F j)) n)↔y (D.O r)=c*D.V r - p5 (fun j=>D.A r j*y (D.F j)) n:=by
  rw [aA5 hs hp,hO,hV];have h:=am4 (D:=D) (r:=r) (y:=y) hs (fun _=>0) ((D.exch r s).A r) (-1) (fun j hj=>by rw [hA];grind);rw [h,hA,hps,D5 (f:=fun j=>if j=s then 0 else 0*y (D.F j)) (fun j _=>by split<;>grind)];constructor
  ·intro h;rw [h];grind
  ·intro h;rw [h];grind
 have rowi:∀i,i≠r->y (D.O r)=c*D.V r - p5 (fun j=>D.A r j*y (D.F j)) n->
  ((y ((D.exch r s).O i)=c*(D.exch r s).V i - p5 (fun j=>(D.exch r s).A i j*y ((D.exch r s).F j)) n)↔y (D.O i)=c*D.V i - p5 (fun j=>D.A i j*y (D.F j)) n):=fun i hi h0=>by
  rw [aA5 hs hp] at h0;have h1:(D.exch r s).O i=D.O i:=by show (if i=r then _ else _)=_;rw [iB hi]
  have h2:(D.exch r s).V i=D.V i - D.A i s*(D.V r / D.A r s):=by show (if i=r then _ else _)=_;rw [iB hi]
  have h3:∀j,j≠s->(D.exch r s).A i j=D.A i j - D.A i s*D.pRow r s j:=fun j hj=>by show (if i=r then _ else _)=_;rw [iB hi,iB hj]
  have h4:(D.exch r s).A i s=0 - D.A i s*D.pRow r s s:=by show (if i=r then _ else _)=_;rw [iB hi,iA rfl]
  rw [h1,h2,am4 hs (D.A i) ((D.exch r s).A i) (D.A i s) h3,h4,hps,H4 (f:=fun j=>D.A i j*y (D.F j)) hs,h0];constructor
  ·intro h;rw [h];grind
  ·intro h;rw [h];grind
 constructor
 ·intro h i hi;by_cases hir:i=r
  ·subst hir;exact rowr.2 (h i hi)
  ·exact (rowi i hir (h r hr)).2 (h i hi)
 ·intro h i hi;have h0:=rowr.1 (h r hr);by_cases hir:i=r
  ·subst hir;exact h0
  ·exact (rowi i hir h0).1 (h i hi)
def a14 (n:Nat) (D:Fd) (g0:Nat->Rat) (m:Nat) (z:Rat):Prop:=∀y c,Ids m n D y c->p5 (fun j=>g0 j*y j) n=c*z+p5 (fun j=>D.G j*y (D.F j)) n
def aJ0 {m n:Nat} {D:Fd} {r s:Nat} {g0:Nat->Rat} {z:Rat} (hr:r<m) (hs:s<n) (hp:D.A r s≠0) (h:a14 n D g0 m z):a14 n (D.exch r s) g0 m (z+D.G s*(D.V r / D.A r s)):=by
 intro y c hy;have hy:=(as1 hr hs hp).2 hy;rw [h y c hy];have h0:=(aA5 hs hp).1 (hy r hr);have hps:D.pRow r s s=1 / D.A r s:=by unfold Fd.pRow;rw [iA rfl]
 have h3:∀j,j≠s->(D.exch r s).G j=D.G j - D.G s*D.pRow r s j:=fun j hj=>by show (if j=s then _ else _)=_;rw [iB hj]
 have h4:(D.exch r s).G s=0 - D.G s*D.pRow r s s:=by show (if s=s then _ else _)=_;rw [iA rfl]
 rw [am4 hs D.G (D.exch r s).G (D.G s) h3,h4,hps,H4 (f:=fun j=>D.G j*y (D.F j)) hs,h0];grind
end
def ai2 (i:Nat):Rat:=if i % 2=0 then 1 else -1
def b5g (i:Nat):ai2 (i+1)=-(ai2 i):=by
 unfold ai2;by_cases h:i % 2=0
 ·rw [iA h,iB om]
 ·rw [iB h,iA om];grind
def E9 (i:Nat) (M:Nat->Nat->Rat):Nat->Nat->Rat:=fun r c=>M (if r<i then r else r+1) (c+1)
def M6:Nat->(Nat->Nat->Rat)->Rat
 |0,_=>1
 |n+1,M=>p5 (fun i=>ai2 i*M i 0*M6 n (E9 i M)) (n+1)
def T5 (n:Nat) (M:Nat->Nat->Rat):M6 (n+1) M=p5 (fun i=>ai2 i*M i 0*M6 n (E9 i M)) (n+1):=rfl
def a3d:∀{n:Nat} {M N:Nat->Nat->Rat},(∀ i j,i<n->j<n->M i j=N i j)->M6 n M=M6 n N
 |0,_,_,_=>rfl
 |n+1,M,N,h=>by
  rw [T5,T5];refine p4 fun i hi=>?_
  rw [h i 0 hi om,a3d (n:=n) (M:=E9 i M) (N:=E9 i N) fun r c hr hc=>?_];unfold E9;split
  ·exact h _ _ om om
  ·exact h _ _ om om
def J3 (M:Nat->Nat->Rat) (r:Nat) (v:Nat->Rat):Nat->Nat->Rat:=fun i=>if i=r then v else M i
def ab1 {M:Nat->Nat->Rat} {r:Nat}:J3 M r (M r)=M:=by
 funext i;unfold J3;by_cases h:i=r
 ·rw [iA h,h]
 ·rw [iB h]
def an1 {M:Nat->Nat->Rat} {r:Nat} {v:Nat->Rat}:E9 r (J3 M r v)=E9 r M:=by
 funext a c;unfold E9 J3;by_cases h:a<r
 ·rw [iA h,iB om]
 ·rw [iB h,iB om]
def aw0 {M:Nat->Nat->Rat} {i r:Nat} {v:Nat->Rat} (h:i<r):E9 i (J3 M r v)=J3 (E9 i M) (r - 1) (fun c=>v (c+1)):=by
 funext a c;unfold E9 J3;by_cases ha:a<i
 ·simp only [iA ha];rw [iB om,iB om]
 ·simp only [iB ha];by_cases h2:a+1=r
  ·rw [iA h2,iA om]
  ·rw [iB h2,iB om]
def as5 {M:Nat->Nat->Rat} {i r:Nat} {v:Nat->Rat} (h:r<i):E9 i (J3 M r v)=J3 (E9 i M) r (fun c=>v (c+1)):=by
 funext a c;unfold E9 J3;by_cases ha:a<i
 ·simp only [iA ha];by_cases h2:a=r
  ·rw [iA h2,iA h2]
  ·rw [iB h2,iB h2]
 ·simp only [iB ha];rw [iB om,iB om]
def a7d:∀{n:Nat} {M:Nat->Nat->Rat} {r:Nat} {a b:Rat} {v w:Nat->Rat},r<n->M6 n (J3 M r fun c=>a*v c+b*w c)=a*M6 n (J3 M r v)+b*M6 n (J3 M r w)
 |0,_,_,_,_,_,_,h=>om
 |n+1,M,r,a,b,v,w,h=>by
  rw [T5,T5,T5,←K0,←K0,←a2t];refine p4 fun i hi=>?_
  by_cases e:i=r
  ·subst e;rw [an1,an1,an1];unfold J3;simp only [if_true];grind
  ·have e2:∀u:Nat->Rat,J3 M r u i 0=M i 0:=fun u=>by unfold J3;rw [iB e]
   rw [e2,e2,e2];by_cases h2:i<r
   ·rw [aw0 h2,aw0 h2,aw0 h2,a7d (n:=n) (M:=E9 i M) (r:=r - 1) (a:=a) (b:=b) (v:=fun c=>v (c+1)) (w:=fun c=>w (c+1)) om];grind
   ·rw [as5 om,as5 om,as5 om,a7d (n:=n) (M:=E9 i M) (r:=r) (a:=a) (b:=b) (v:=fun c=>v (c+1)) (w:=fun c=>w (c+1)) om];grind
def b5d {f:Nat->Rat} {r:Nat}:∀{n:Nat},r+1<n->(∀ i,i<n->i≠r->i≠r+1->f i=0)->p5 f n=f r+f (r+1)
 |0,h,_=>om
 |n+1,h,h0=>by
  show p5 f n+f n=_;by_cases e:n=r+1
  ·subst e;show p5 f r+f r+f (r+1)=_;rw [D5 fun j hj=>h0 j om om om];grind
  ·rw [b5d (r:=r) om (fun i hi=>h0 i om),h0 n om om e];grind
def a7j:∀{n:Nat} {M:Nat->Nat->Rat} {r:Nat},r+1<n->M r=M (r+1)->M6 n M=0
 |0,_,_,h,_=>om
 |n+1,M,r,h,he=>by
  rw [T5,b5d h fun i hi h1 h2=>?_]
  ·have em:E9 r M=E9 (r+1) M:=by
    funext a c;unfold E9;by_cases h1:a<r
    ·rw [iA h1,iA om]
    ·rw [iB h1];by_cases h2:a<r+1
     ·have:a=r:=by omega
      subst this;rw [iA h2,he]
     ·rw [iB h2]
   rw [em,he,b5g];grind
  ·by_cases hlt:i<r
   ·rw [a7j (n:=n) (M:=E9 i M) (r:=r - 1) om (by
     funext c;unfold E9;rw [iB om,iB om,show r - 1+1=r by omega,he])]
    grind
   ·rw [a7j (n:=n) (M:=E9 i M) (r:=r) om (by
     funext c;unfold E9;rw [iA om,iA om,he])]
    grind
def a7s {M:Nat->Nat->Rat} {r s:Nat} {v w:Nat->Rat} (h:r≠s):J3 (J3 M r v) s w=J3 (J3 M s w) r v:=by
 funext i;unfold J3;by_cases h1:i=r
 ·subst h1;rw [iB h,iA rfl,iA rfl]
 ·rw [iB h1];by_cases h2:i=s
  ·simp only [iA h2,iB h1]
  ·simp only [iB h2,iB h1]
def a1O {M:Nat->Nat->Rat} {r:Nat} {v:Nat->Rat}:J3 M r v r=v:=by unfold J3;rw [iA rfl]
def a10 {M:Nat->Nat->Rat} {r i:Nat} {v:Nat->Rat} (h:i≠r):J3 M r v i=M i:=by unfold J3;rw [iB h]
def aY0 {n:Nat} {M:Nat->Nat->Rat} {r:Nat} (v w:Nat->Rat) (h:r<n):M6 n (J3 M r fun c=>v c+w c)=M6 n (J3 M r v)+M6 n (J3 M r w):=by
 have:=a7d (M:=M) (a:=1) (b:=1) (v:=v) (w:=w) h;have e:(fun c=>(1:Rat)*v c+1*w c)=fun c=>v c+w c:=by funext c;grind
 rw [e] at this;grind
def b7r {n:Nat} {M:Nat->Nat->Rat} {r:Nat} (h:r+1<n) (v w:Nat->Rat):M6 n (J3 (J3 M r v) (r+1) w)=-(M6 n (J3 (J3 M r w) (r+1) v)):=by
 have key:M6 n (J3 (J3 M r fun c=>v c+w c) (r+1) fun c=>v c+w c)=0:=a7j h (by rw [a1O,a10 om,a1O]);rw [aY0 v w h,a7s (show r≠r+1 by omega),a7s (show r≠r+1 by omega),aY0 v w om,aY0 v w om] at key;have z1:M6 n (J3 (J3 M (r+1) v) r v)=0:=a7j h (by rw [a1O,a10 om,a1O]);have z2:M6 n (J3 (J3 M (r+1) w) r w)=0:=a7j h (by rw [a1O,a10 om,a1O]);rw [z1,z2] at key;rw [a7s (show r≠r+1 by omega),a7s (show r≠r+1 by omega)];grind
def b3J:∀(d:Nat) {n:Nat} {M:Nat->Nat->Rat} {r s:Nat},s=r+1+d->s<n->M r=M s->M6 n M=0
 |0,n,M,r,s,hs,hn,he=>by subst hs;exact a7j hn he
 |d+1,n,M,r,s,hs,hn,he=>by
  obtain ⟨q,rfl⟩:∃q,s=q+1:=⟨s - 1,om⟩;have e1:M=J3 (J3 M q (M q)) (q+1) (M (q+1)):=by rw [ab1,ab1]
  rw [e1,b7r hn];have:=b3J d (n:=n) (M:=J3 (J3 M q (M (q+1))) (q+1) (M q)) (r:=r) (s:=q) om om (by
   rw [a10 om,a10 om,a10 om,a1O,he])
  rw [this];grind
def b7S {n:Nat} {M:Nat->Nat->Rat} {r s:Nat} (hr:r<n) (hs:s<n) (h:r≠s) (he:M r=M s):M6 n M=0:=by
 by_cases hlt:r<s
 ·exact b3J (s - r - 1) om hs he
 ·exact b3J (r - s - 1) (r:=s) (s:=r) om hr he.symm
def b4j {n:Nat} {M:Nat->Nat->Rat} {r:Nat} (hr:r<n) (c:Nat->Rat) (v:Nat->Nat->Rat):∀k,M6 n (J3 M r fun l=>p5 (fun i=>c i*v i l) k)=p5 (fun i=>c i*M6 n (J3 M r (v i))) k
 |0=>by
  have:=a7d (M:=M) (a:=0) (b:=0) (v:=fun _=>0) (w:=fun _=>0) hr;have e:(fun l:Nat=>p5 (fun i=>c i*v i l) 0)=fun _=>(0:Rat)*0+0*0:=by funext l;show (0:Rat)=_;grind
  rw [e,this];show _=(0:Rat);grind
 |k+1=>by
  have ih:=b4j (M:=M) hr c v k;have:=a7d (M:=M) (a:=1) (b:=c k) (v:=fun l=>p5 (fun i=>c i*v i l) k) (w:=v k) hr;have e:(fun l=>p5 (fun i=>c i*v i l) (k+1))=fun l=>(1:Rat)*p5 (fun i=>c i*v i l) k+c k*v k l:=by funext l;show p5 _ k+_=_;grind
  rw [e,this,ih];show _=p5 _ k+_;grind
def av7 {n:Nat} {M:Nat->Nat->Rat} {c:Nat->Rat} {u:Nat->Rat} (hu:∀l,l<n->u l=p5 (fun k=>c k*M k l) n) {j:Nat} (hj:j<n):M6 n (J3 M j u)=c j*M6 n M:=by
 have e:M6 n (J3 M j u)=M6 n (J3 M j fun l=>p5 (fun k=>c k*M k l) n):=a3d fun a b ha hb=>by
  unfold J3;split
  ·exact hu b hb
  ·rfl
 rw [e,b4j hj,H4 hj,ab1,D5 fun k hk=>?_]
 ·grind
 ·by_cases h:k=j
  ·rw [iA h]
  ·rw [iB h,b7S (r:=k) (s:=j) hk hj h (by rw [a10 h,a1O])];grind
def b3y (i:Nat):∃z:Int,ai2 i=((z:Int):Rat)/\z.natAbs=1:=by
 unfold ai2;split
 ·exact ⟨1,rz⟩
 ·exact ⟨-1,rz⟩
def a4U:Nat->(Nat->Nat)->Nat
 |0,_=>1
 |n+1,B=>(n+1)*(B 0*a4U n fun c=>B (c+1))
def b0A {f:Nat->Rat} {B:Nat}:∀{n:Nat},(∀ i,i<n->∃z:Int,f i=((z:Int):Rat)/\z.natAbs<=B)->∃z:Int,p5 f n=((z:Int):Rat)/\z.natAbs<=n*B
 |0,_=>⟨0,rfl,zq⟩
 |n+1,h=>by
  obtain ⟨a,ha,ha2⟩:=b0A (n:=n) fun i hi=>h i om
  obtain ⟨b,hb,hb2⟩:=h n om;refine ⟨a+b,by show p5 f n+f n=_;rw [ha,hb];push_cast;rfl,?_⟩;have:=Int.natAbs_add_le a b;rw [lbV];omega
def a7e:∀{n:Nat} {M:Nat->Nat->Rat} {B:Nat->Nat},(∀ i j,i<n->j<n->∃z:Int,M i j=((z:Int):Rat)/\z.natAbs<=B j)->∃z:Int,M6 n M=((z:Int):Rat)/\z.natAbs<=a4U n B
 |0,_,_,_=>⟨1,rfl,by simp [a4U]⟩
 |n+1,M,B,h=>by
  rw [T5];refine b0A fun i hi=>?_
  obtain ⟨a,ha,ha2⟩:=b3y i;obtain ⟨b,hb,hb2⟩:=h i 0 hi om;obtain ⟨c,hc,hc2⟩:=a7e (n:=n) (M:=E9 i M) (B:=fun c=>B (c+1)) fun r c hr hc=>by
   unfold E9;split
   ·exact h _ _ om om
   ·exact h _ _ om om
  refine ⟨a*b*c,by rw [ha,hb,hc];push_cast;rfl,?_⟩;rw [a3r,a3r,ha2,Nat.one_mul];exact lbT hb2 hc2
def a3l {f:Nat->Rat}:∀n:Nat,p5 f (n+1)=f 0+p5 (fun l=>f (l+1)) n
 |0=>by simp only [p5];grind
 |n+1=>by
  have ih:=a3l (f:=f) n;have e:p5 f (n+1+1)=p5 f (n+1)+f (n+1):=rfl;rw [e,ih];simp only [p5];grind
def a5V:Nat->Nat->Rat:=fun i j=>if i=j then 1 else 0
def b4B:∀n,M6 n a5V=1
 |0=>rfl
 |n+1=>by
  rw [T5,a3l (f:=fun i=>ai2 i*a5V i 0*M6 n (E9 i a5V)),D5 fun i hi=>?_]
  ·have e:E9 0 a5V=a5V:=by
    funext a c;unfold E9 a5V;simp
   rw [e,b4B n];have:ai2 0=1:=rfl;have h2:a5V 0 0=1:=rfl;rw [this,h2];grind
  ·have:a5V (i+1) 0=0:=by unfold a5V;rw [iB om]
   rw [this];grind
def aC2 (f:Nat->Nat) (w:Nat):Nat->Option Nat
 |0=>none
 |k+1=>match aC2 f w k with
  |some i=>some i
  |none=>if f k=w then some k else none
def a7m {f:Nat->Nat} {w:Nat}:∀{k i:Nat},aC2 f w k=some i->i<k/\f i=w
 |0,i,h=>by cases h
 |k+1,i,h=>by
  unfold aC2 at h;split at h
  ·rename_i i' hi;injection h with h;subst h;have:=a7m hi;exact ⟨om,this.2⟩
  ·split at h
   ·injection h with h;subst h;exact ⟨om,by assumption⟩
   ·cases h
def ab4 {f:Nat->Nat} {w:Nat}:∀{k:Nat},aC2 f w k=none->∀i,i<k->f i≠w
 |0,_,i,hi=>om
 |k+1,h,i,hi=>by
  unfold aC2 at h;split at h
  ·cases h
  ·rename_i hn;split at h
   ·cases h
   ·by_cases hik:i=k
    ·subst hik;assumption
    ·exact ab4 hn i om
structure Z0 (m n:Nat) (D:Fd):Prop where
 oi:∀i i',i<m->i'<m->D.O i=D.O i'->i=i'
 fi:∀j j',j<n->j'<n->D.F j=D.F j'->j=j'
 of:∀i j,i<m->j<n->D.O i≠D.F j
 all:∀w,w<n+m->(∃ i,i<m/\D.O i=w)\/(∃ j,j<n/\D.F j=w)
 ob:∀i,i<m->D.O i<n+m
 fb:∀j,j<n->D.F j<n+m
def aa7 {D:Fd} {r s i:Nat}:(D.exch r s).O i=if i=r then D.F s else D.O i:=rfl
def a31 {D:Fd} {r s j:Nat}:(D.exch r s).F j=if j=s then D.O r else D.F j:=rfl
def aG3 {m n:Nat} {D:Fd} {r s:Nat} (hr:r<m) (hs:s<n) (h:Z0 m n D):Z0 m n (D.exch r s) where
 oi:=fun i i' hi hi' he=>by
  rw [aa7,aa7] at he;by_cases h1:i=r<;>by_cases h2:i'=r
  ·omega
  ·rw [iA h1,iB h2] at he;exact absurd he.symm (h.of i' s hi' hs)
  ·rw [iB h1,iA h2] at he;exact absurd he (h.of i s hi hs)
  ·rw [iB h1,iB h2] at he;exact h.oi i i' hi hi' he
 fi:=fun j j' hj hj' he=>by
  rw [a31,a31] at he;by_cases h1:j=s<;>by_cases h2:j'=s
  ·omega
  ·rw [iA h1,iB h2] at he;exact absurd he (h.of r j' hr hj')
  ·rw [iB h1,iA h2] at he;exact absurd he.symm (h.of r j hr hj)
  ·rw [iB h1,iB h2] at he;exact h.fi j j' hj hj' he
 of:=fun i j hi hj he=>by
  rw [aa7,a31] at he;by_cases h1:i=r<;>by_cases h2:j=s
  ·rw [iA h1,iA h2] at he;exact h.of r s hr hs he.symm
  ·rw [iA h1,iB h2] at he;exact h2 (h.fi s j hs hj he).symm
  ·rw [iB h1,iA h2] at he;exact h1 (h.oi i r hi hr he)
  ·rw [iB h1,iB h2] at he;exact h.of i j hi hj he
 all:=fun w hw=>by
  rcases h.all w hw with ⟨i,hi,he⟩|⟨j,hj,he⟩
  ·by_cases h1:i=r
   ·exact .inr ⟨s,hs,by rw [a31,iA rfl,←h1];exact he⟩
   ·exact .inl ⟨i,hi,by rw [aa7,iB h1];exact he⟩
  ·by_cases h1:j=s
   ·exact .inl ⟨r,hr,by rw [aa7,iA rfl,←h1];exact he⟩
   ·exact .inr ⟨j,hj,by rw [a31,iB h1];exact he⟩
 ob:=fun i hi=>by rw [aa7];split;exact h.fb s hs;exact h.ob i hi
 fb:=fun j hj=>by rw [a31];split;exact h.ob r hr;exact h.fb j hj
def Q6 (m n:Nat) (D:Fd) (c:Rat) (t:Nat->Rat) (w:Nat):Rat:=match aC2 D.F w n with
 |some j=>t j
 |none=>match aC2 D.O w m with
  |some i=>c*D.V i - p5 (fun j=>D.A i j*t j) n
  |none=>0
def a1q {m n:Nat} {D:Fd} (h:Z0 m n D) {c:Rat} {t:Nat->Rat} {j:Nat} (hj:j<n):Q6 m n D c t (D.F j)=t j:=by
 unfold Q6;cases hi:aC2 D.F (D.F j) n with
 |none=>exact absurd rfl (ab4 hi j hj)
 |some i=>obtain ⟨h1,h2⟩:=a7m hi;rw [h.fi i j h1 hj h2]
def a5L {m n:Nat} {D:Fd} (h:Z0 m n D) {c:Rat} {t:Nat->Rat} {i:Nat} (hi:i<m):Q6 m n D c t (D.O i)=c*D.V i - p5 (fun j=>D.A i j*t j) n:=by
 unfold Q6;cases hj:aC2 D.F (D.O i) n with
 |some j=>obtain ⟨h1,h2⟩:=a7m hj;exact absurd h2.symm (h.of i j hi h1)
 |none=>
  cases hk:aC2 D.O (D.O i) m with
  |none=>exact absurd rfl (ab4 hk i hi)
  |some k=>obtain ⟨h1,h2⟩:=a7m hk;rw [h.oi k i h1 hi h2]
def a0i {m n:Nat} {D:Fd} (h:Z0 m n D) (c:Rat) (t:Nat->Rat):Ids m n D (Q6 m n D c t) c:=fun i hi=>by
 rw [a5L h hi]
 congr 1
 exact p4 fun j hj=>by rw [a1q h hj]
def E8 (f:Nat->Nat) (p:Nat->Bool):Nat->Option Nat
 |0=>none
 |k+1=>match E8 f p k with
  |none=>if p k then some k else none
  |some a=>if p k && decide (f k<f a) then some k else some a
def a23 {f:Nat->Nat} {p:Nat->Bool}:∀{k:Nat},E8 f p k=none->∀i,i<k->p i=false
 |0,_,i,hi=>om
 |k+1,h,i,hi=>by
  unfold E8 at h;split at h
  ·rename_i hn;split at h
   ·cases h
   ·rename_i hp;by_cases hik:i=k
    ·subst hik;simpa using hp
    ·exact a23 hn i om
  ·split at h<;>cases h
def G1 {f:Nat->Nat} {p:Nat->Bool}:∀{k a:Nat},E8 f p k=some a->a<k/\p a=true/\∀i,i<k->p i=true->f a<=f i
 |0,a,h=>by cases h
 |k+1,a,h=>by
  unfold E8 at h;split at h
  ·rename_i hn;split at h
   ·rename_i hp;injection h with h;subst h
    refine ⟨om,hp,fun i hi hpi=>?_⟩;by_cases hik:i=k
    ·subst hik;omega
    ·rw [a23 hn i om] at hpi;cases hpi
   ·cases h
  ·rename_i b hb;obtain ⟨h1,h2,h3⟩:=G1 hb;split at h
   ·rename_i hc;injection h with h;subst h
    simp only [lbN,lbI] at hc;refine ⟨om,hc.1,fun i hi hpi=>?_⟩;by_cases hik:i=k
    ·subst hik;omega
    ·have:=h3 i om hpi;omega
   ·rename_i hc;injection h with h;subst h
    refine ⟨om,h2,fun i hi hpi=>?_⟩;by_cases hik:i=k
    ·subst hik;have:¬(f i<f b):=fun h=>hc (by simp [hpi,h])
     omega
    ·exact h3 i om hpi
inductive b8A where
 |best
 |row (r:Nat)
 |col (s:Nat)
 |next (r s:Nat)
def Y6 (n:Nat) (D:Fd) (r:Nat):b8A:=match E8 D.F (fun j=>decide (D.A r j<0)) n with
 |none=>.row r
 |some s=>.next r s
def Y8 (m:Nat) (D:Fd) (s:Nat):b8A:=match E8 D.O (fun i=>decide (0<D.A i s)) m with
 |none=>.col s
 |some r=>.next r s
def B4 (m n:Nat) (D:Fd):b8A:=match E8 D.O (fun i=>decide (D.V i<0)) m,E8 D.F (fun j=>decide (0<D.G j)) n with
 |none,none=>.best
 |some r,none=>Y6 n D r
 |none,some s=>Y8 m D s
 |some r,some s=>if D.O r<D.F s then Y6 n D r else Y8 m D s
structure aJ2 (m n:Nat) (D:Fd) (r s:Nat):Prop where
 v:D.V r<0
 a:D.A r s<0
 f:∀j,j<n->D.F j<D.F s->0<=D.A r j
 o:∀i,i<m->D.O i<D.O r->0<=D.V i
 g:∀j,j<n->D.F j<D.O r->D.G j<=0
structure aL7 (m n:Nat) (D:Fd) (r s:Nat):Prop where
 g:0<D.G s
 a:0<D.A r s
 o:∀i,i<m->D.O i<D.O r->D.A i s<=0
 f:∀j,j<n->D.F j<D.F s->D.G j<=0
 v:∀i,i<m->D.O i<D.F s->0<=D.V i
def b0Y {m n:Nat} {D:Fd} {r r' s:Nat} (hr:E8 D.O (fun i=>decide (D.V i<0)) m=some r) (hg:∀j,j<n->D.F j<D.O r->D.G j<=0) (h:Y6 n D r=.next r' s):r'<m/\s<n/\aJ2 m n D r' s:=by
 obtain ⟨a1,a2,a3⟩:=G1 hr;unfold Y6 at h;split at h
 ·cases h
 ·rename_i s' hs';injection h with h1 h2;subst h1;subst h2
  obtain ⟨b1,b2,b3⟩:=G1 hs';refine ⟨a1,b1,lbL a2,lbL b2,fun j hj hlt=>?_,fun i hi hlt=>?_,hg⟩
  ·exact lb4.1 fun h=>by have:=b3 j hj (lbH h);omega
  ·exact lb4.1 fun h=>by have:=a3 i hi (lbH h);omega
def b1Q {m n:Nat} {D:Fd} {s s' r:Nat} (hs:E8 D.F (fun j=>decide (0<D.G j)) n=some s) (hv:∀i,i<m->D.O i<D.F s->0<=D.V i) (h:Y8 m D s=.next r s'):r<m/\s'<n/\aL7 m n D r s':=by
 obtain ⟨a1,a2,a3⟩:=G1 hs;unfold Y8 at h;split at h
 ·cases h
 ·rename_i r' hr';injection h with h1 h2;subst h1;subst h2
  obtain ⟨b1,b2,b3⟩:=G1 hr';refine ⟨b1,a1,lbL a2,lbL b2,fun i hi hlt=>?_,fun j hj hlt=>?_,hv⟩
  ·exact lb4.1 fun h=>by have:=b3 i hi (lbH h);omega
  ·exact lb4.1 fun h=>by have:=a3 j hj (lbH h);omega
def a4t {m n:Nat} {D:Fd} {r s:Nat} (h:B4 m n D=.next r s):r<m/\s<n/\(aJ2 m n D r s\/aL7 m n D r s):=by
 unfold B4 at h;cases hr:E8 D.O (fun i=>decide (D.V i<0)) m with
 |none=>
  have hv:∀i,i<m->0<=D.V i:=fun i hi=>lb4.1 (lbM (a23 hr i hi))
  cases hs:E8 D.F (fun j=>decide (0<D.G j)) n with
  |none=>rw [hr,hs] at h;cases h
  |some s'=>
   rw [hr,hs] at h;obtain ⟨q1,q2,q3⟩:=b1Q hs (fun i hi _=>hv i hi) h;exact ⟨q1,q2,.inr q3⟩
 |some r'=>
  obtain ⟨a1,a2,a3⟩:=G1 hr;cases hs:E8 D.F (fun j=>decide (0<D.G j)) n with
  |none=>
   rw [hr,hs] at h;obtain ⟨q1,q2,q3⟩:=b0Y (n:=n) hr (fun j hj _=>lb4.1 (lbM (a23 hs j hj))) h;exact ⟨q1,q2,.inl q3⟩
  |some s'=>
   rw [hr,hs] at h;obtain ⟨b1,b2,b3⟩:=G1 hs;simp only at h;split at h
   ·rename_i hlt;obtain ⟨q1,q2,q3⟩:=b0Y (n:=n) hr (fun j hj hj2=>lb4.1 fun h=>by have:=b3 j hj (lbH h);omega) h;exact ⟨q1,q2,.inl q3⟩
   ·rename_i hlt;obtain ⟨q1,q2,q3⟩:=b1Q hs (fun i hi hi2=>lb4.1 fun h=>by have:=a3 i hi (lbH h);omega) h;exact ⟨q1,q2,.inr q3⟩
def a55 {m n:Nat} {D:Fd} {r s:Nat} (h:aJ2 m n D r s\/aL7 m n D r s):D.A r s≠0:=by
 rcases h with h|h
 ·have:=h.a;intro h0;rw [h0] at this;exact absurd this zg
 ·have:=h.a;intro h0;rw [h0] at this;exact absurd this zg
def b7v {m n:Nat} {D D':Fd} {g0:Nat->Rat} {z z':Rat} (hP:Z0 m n D) (hP':Z0 m n D') (hI:∀y c,Ids m n D y c↔Ids m n D' y c) (hG:a14 n D g0 m z) (hG':a14 n D' g0 m z')
 {r s r' s' q:Nat} (hr:r<m) (hs:s<n) (hr':r'<m) (hs':s'<n) (h:aJ2 m n D r s\/aL7 m n D r s) (h':aJ2 m n D' r' s'\/aL7 m n D' r' s') (hq:D.F s=q) (hq':D'.O r'=q)
 (hrq:D.O r<q) (hsq:D'.F s'<q) (hst:∀w,q<w->((∃ j,j<n/\D.F j=w)↔∃j,j<n/\D'.F j=w)):False:=by
 have hfree:∀j,j<n->q<D.F j->∃k,k<n/\D'.F k=D.F j:=fun j hj hlt=>(hst _ hlt).1 ⟨j,hj,rfl⟩
 obtain ⟨c,y,hc,hy,ypos,yq,yfree,hobj⟩:∃(c:Rat) (y:Nat->Rat),(c=0\/c=1)/\Ids m n D' y c/\(∀ w,w<n+m->w<q->0<=y w)/\y q<0/\(∀ j,j<n->q<D.F j->y (D.F j)=0)/\
  ((c=0/\0<p5 (fun j=>g0 j*y j) n)\/(c=1/\p5 (fun j=>g0 j*y j) n=z'/\∀j,j<n->D'.F j<q->D'.G j<=0)):=by
  rcases h' with h'|h'
  ·refine ⟨1,Q6 m n D' 1 (fun _=>0),.inr rfl,a0i hP' 1 _,fun w hw hwq=>?_,?_,fun j hj hlt=>?_,.inr ⟨rfl,?_,fun j hj hlt=>h'.g j hj (by rw [hq'];exact hlt)⟩⟩
   ·rcases hP'.all w hw with ⟨i,hi,rfl⟩|⟨j,hj,rfl⟩
    ·rw [a5L hP' hi,D5 fun j _=>by grind];have:=h'.o i hi (by rw [hq'];exact hwq);grind
    ·rw [a1q hP' hj];grind
   ·rw [← hq',a5L hP' hr',D5 fun j _=>by grind];have:=h'.v;grind
   ·obtain ⟨k,hk,he⟩:=hfree j hj hlt;rw [← he,a1q hP' hk]
   ·rw [hG' _ 1 (a0i hP' 1 _),D5 fun j hj=>by rw [a1q hP' hj];grind];grind
  ·refine ⟨0,Q6 m n D' 0 (fun j=>if j=s' then 1 else 0),.inl rfl,a0i hP' 0 _,fun w hw hwq=>?_,?_,fun j hj hlt=>?_,.inl ⟨rfl,?_⟩⟩
   ·have hone:∀i,p5 (fun j=>D'.A i j*(if j=s' then 1 else 0)) n=D'.A i s':=fun i=>by
     rw [H4 hs',D5 fun j _=>by by_cases hj:j=s'<;>simp [hj]];simp;grind
    rcases hP'.all w hw with ⟨i,hi,rfl⟩|⟨j,hj,rfl⟩
    ·rw [a5L hP' hi,hone];have:=h'.o i hi (by rw [hq'];exact hwq);grind
    ·rw [a1q hP' hj];split<;>grind
   ·have hone:p5 (fun j=>D'.A r' j*(if j=s' then 1 else 0)) n=D'.A r' s':=by
     rw [H4 hs',D5 fun j _=>by by_cases hj:j=s'<;>simp [hj]];simp;grind
    rw [← hq',a5L hP' hr',hone];have:=h'.a;grind
   ·obtain ⟨k,hk,he⟩:=hfree j hj hlt;rw [← he,a1q hP' hk,iB];intro hks;rw [hks] at he;omega
   ·rw [hG' _ 0 (a0i hP' 0 _)];have:p5 (fun j=>D'.G j*Q6 m n D' 0 (fun j=>if j=s' then 1 else 0) (D'.F j)) n=D'.G s':=by
     rw [p4 (g:=fun j=>D'.G j*(if j=s' then 1 else 0)) fun j hj=>by rw [a1q hP' hj],H4 hs',D5 fun j _=>by by_cases hj:j=s'<;>simp [hj]];simp;grind
    rw [this];have:=h'.g;grind
 have hy2:=(hI y c).2 hy;have hF:∀j,j<n->(D.F j<q/\0<=y (D.F j))\/(j=s/\y (D.F j)<0)\/y (D.F j)=0:=fun j hj=>by
  rcases aV8 (D.F j) q with hlt|heq|hgt
  ·exact .inl ⟨hlt,ypos _ (hP.fb j hj) hlt⟩
  ·refine .inr (.inl ⟨hP.fi j s hj hs om,by rw [heq];exact yq⟩)
  ·exact .inr (.inr (yfree j hj hgt))
 rcases h with h|h
 · -- by its row
   have hid:=hy2 r hr;have h1:0<p5 (fun j=>D.A r j*y (D.F j)) n:=bn4 (s:=s) (fun j hj=>by
    rcases hF j hj with ⟨a,b⟩|⟨rfl,b⟩|b
    ·exact lb1 (h.f j hj (by rw [hq];exact a)) b
    ·have:=h.a;exact Rat.le_of_lt (by have:=lb2 (a:=-D.A r j) (b:=-y (D.F j)) zg zg;grind)
    ·rw [b];grind) hs (by
    have:=h.a;have hyq:y (D.F s)<0:=by rw [hq];exact yq
    have:=lb2 (a:=-D.A r s) (b:=-y (D.F s)) zg zg;grind)
   have h2:0<=y (D.O r):=ypos _ (hP.ob r hr) hrq;have h3:=h.v;rcases hc with rfl|rfl
   ·grind
   ·grind
 · -- by its goal
   have h1:p5 (fun j=>D.G j*y (D.F j)) n<0:=bq5 (s:=s) (fun j hj=>by
    rcases hF j hj with ⟨a,b⟩|⟨rfl,b⟩|b
    ·have:=h.f j hj (by rw [hq];exact a);have:=lb1 (a:=-D.G j) (b:=y (D.F j)) zg b;grind
    ·have:=h.g;have:=lb2 (a:=D.G j) (b:=-y (D.F j)) zg zg;grind
    ·rw [b];grind) hs (by
    have:=h.g;have hyq:y (D.F s)<0:=by rw [hq];exact yq
    have:=lb2 (a:=D.G s) (b:=-y (D.F s)) zg zg;grind)
   have hg:=hG y c hy2;rcases hobj with ⟨rfl,ho⟩|⟨rfl,ho,hneg⟩
   ·grind
   · -- the basic point of the first dictionary
     have k1:=hG (Q6 m n D 1 (fun _=>0)) 1 (a0i hP 1 _);rw [D5 (f:=fun j=>D.G j*Q6 m n D 1 (fun _=>0) (D.F j)) fun j hj=>by rw [a1q hP hj];grind] at k1;have k2:=hG' (Q6 m n D 1 (fun _=>0)) 1 ((hI _ 1).1 (a0i hP 1 _));have k3:p5 (fun j=>D'.G j*Q6 m n D 1 (fun _=>0) (D'.F j)) n<=0:=aj2 fun j hj=>by
      have hv:∀w,w<n+m->w<q->0<=Q6 m n D 1 (fun _=>0) w:=fun w hw hwq=>by
       rcases hP.all w hw with ⟨i,hi,rfl⟩|⟨k,hk,rfl⟩
       ·rw [a5L hP hi,D5 fun j _=>by grind];have:=h.v i hi (by rw [hq];exact hwq);grind
       ·rw [a1q hP hk];grind
      rcases aV8 (D'.F j) q with hlt|heq|hgt
      ·have a1:=hneg j hj hlt;have a2:=hv _ (hP'.fb j hj) hlt;have:=lb1 (a:=-D'.G j) zg a2;grind
      ·exact absurd (hq'.trans heq.symm) (hP'.of r' j hr' hj)
      ·obtain ⟨k,hk,he⟩:=(hst _ hgt).2 ⟨j,hj,rfl⟩;rw [← he,a1q hP hk];grind
     grind
def G7 (m n:Nat) (D:Fd):Option Fd:=match B4 m n D with
 |.next r s=>some (D.exch r s)
 |_=>none
def a8o {m n:Nat} {D D':Fd} (h:G7 m n D=some D'):∃r s,B4 m n D=.next r s/\D'=D.exch r s:=by
 unfold G7 at h;split at h
 ·rename_i r s hs;injection h with h;exact ⟨r,s,hs,h.symm⟩
 ·cases h
def ay3 {P:Nat->Nat->Prop}:∀N:Nat,(∀ w,w<N->∃T,∀k,T<=k->¬P k w)->∃T,∀w,w<N->∀k,T<=k->¬P k w
 |0,_=>⟨0,fun w hw=>om⟩
 |N+1,h=>by
  obtain ⟨T,hT⟩:=ay3 (P:=P) N fun w hw=>h w om
  obtain ⟨T',hT'⟩:=h N om;refine ⟨max T T',fun w hw k hk=>?_⟩;by_cases hwn:w=N
  ·subst hwn;exact hT' k om
  ·exact hT w om k om
def az8 {p:Nat->Prop}:∀N:Nat,(∃ w,w<N/\p w)->∃q,q<N/\p q/\∀w,q<w->w<N->¬p w
 |0,⟨w,hw,_⟩=>om
 |N+1,⟨w,hw,hp⟩=>by
  by_cases h:p N
  ·exact ⟨N,om,h,fun w h1 h2=>om⟩
  ·have hwN:w≠N:=fun e=>h (e ▸ hp)
   obtain ⟨q,h1,h2,h3⟩:=az8 N ⟨w,om,hp⟩;refine ⟨q,om,h2,fun w h4 h5=>?_⟩;by_cases hw2:w=N
   ·subst hw2;exact h
   ·exact h3 w h4 om
def a4Y (p:Nat->Prop) (h:∃n,p n):∃n,p n/\∀m,p m->n<=m:=by
 obtain ⟨n,hn⟩:=h;induction n using Nat.strongRecOn with
 |_ n ih=>
  by_cases hex:∃m,m<n/\p m
  ·obtain ⟨m,hm,hp⟩:=hex;exact ih m hm hp
  ·exact ⟨n,hn,fun m hm=>aV6 fun h=>hex ⟨m,h,hm⟩⟩
def bv6 {m n:Nat} {f:Nat->Fd} {g0:Nat->Rat} (hP0:Z0 m n (f 0)) (hG0:∃z,a14 n (f 0) g0 m z) (hf:∀k,G7 m n (f k)=some (f (k+1))):False:=by
 have hstep:∀k,∃rs:Nat × Nat,rs.1<m/\rs.2<n/\(aJ2 m n (f k) rs.1 rs.2\/aL7 m n (f k) rs.1 rs.2)/\f (k+1)=(f k).exch rs.1 rs.2:=fun k=>by
  obtain ⟨r,s,h1,h2⟩:=a8o (hf k);obtain ⟨a,b,c⟩:=a4t h1;exact ⟨(r,s),a,b,c,h2⟩
 obtain ⟨W,hW⟩:=Classical.axiomOfChoice hstep;have hP:∀k,Z0 m n (f k):=fun k=>by
  induction k with
  |zero=>exact hP0
  |succ k ih=>obtain ⟨a,b,_,d⟩:=hW k;rw [d];exact aG3 a b ih
 have hI:∀k y c,Ids m n (f 0) y c↔Ids m n (f k) y c:=fun k=>by
  induction k with
  |zero=>exact fun _ _=>Iff.rfl
  |succ k ih=>obtain ⟨a,b,c',d⟩:=hW k;rw [d];exact fun y c=>(ih y c).trans (as1 a b (a55 c'))
 have hG:∀k,∃z,a14 n (f k) g0 m z:=fun k=>by
  induction k with
  |zero=>exact hG0
  |succ k ih=>obtain ⟨a,b,c',d⟩:=hW k;obtain ⟨z,hz⟩:=ih;rw [d];exact ⟨_,aJ0 a b (a55 c') hz⟩
 let E:Nat->Nat:=fun k=>(f k).F (W k).2
 let L:Nat->Nat:=fun k=>(f k).O (W k).1
 have hE:∀k,E k<n+m:=fun k=>(hP k).fb _ (hW k).2.1
 have hL:∀k,L k<n+m:=fun k=>(hP k).ob _ (hW k).1
 have hEL:∀k,L k≠E k:=fun k=>(hP k).of _ _ (hW k).1 (hW k).2.1
 let fre:Nat->Nat->Prop:=fun k w=>∃j,j<n/\(f k).F j=w
 have hfre:∀k w,w≠E k->w≠L k->(fre (k+1) w↔fre k w):=fun k w h1 h2=>by
  obtain ⟨a,b,_,d⟩:=hW k;show (∃ j,j<n/\(f (k+1)).F j=w)↔∃j,j<n/\(f k).F j=w;rw [d];constructor
  ·rintro ⟨j,hj,he⟩;rw [a31] at he;by_cases hjs:j=(W k).2
   ·rw [iA hjs] at he;exact absurd he.symm h2
   ·rw [iB hjs] at he;exact ⟨j,hj,he⟩
  ·rintro ⟨j,hj,he⟩;have hjs:j≠(W k).2:=fun h=>h1 (by rw [← he,h])
   exact ⟨j,hj,by rw [a31,iB hjs];exact he⟩
 have hin:∀k,fre k (E k):=fun k=>⟨_,(hW k).2.1,rfl⟩
 have hout:∀k,¬fre k (L k):=fun k=>by rintro ⟨j,hj,he⟩;exact (hP k).of _ _ (hW k).1 hj he.symm
 have hin2:∀k,fre (k+1) (L k):=fun k=>by
  obtain ⟨a,b,_,d⟩:=hW k;show ∃j,j<n/\(f (k+1)).F j=L k;rw [d];exact ⟨_,b,by rw [a31,iA rfl]⟩
 have hout2:∀k,¬fre (k+1) (E k):=fun k=>by
  obtain ⟨a,b,_,d⟩:=hW k;show ¬∃j,j<n/\(f (k+1)).F j=E k;rw [d];rintro ⟨j,hj,he⟩;rw [a31] at he;by_cases hjs:j=(W k).2
  ·rw [iA hjs] at he;exact hEL k he
  ·rw [iB hjs] at he;exact hjs ((hP k).fi _ _ hj b he)
 let mv:Nat->Nat->Prop:=fun k w=>E k=w\/L k=w
 obtain ⟨q,hqN,hio,hmax⟩:=az8 (p:=fun w=>∀T,∃k,T<=k/\mv k w) (n+m) (Y9 fun hno=>by
  have h1:∀w,w<n+m->∃T,∀k,T<=k->¬mv k w:=fun w hw=>Y9 fun h=>hno ⟨w,hw,fun T=>Y9 fun h'=>h ⟨T,fun k hk hm=>h' ⟨k,hk,hm⟩⟩⟩
  obtain ⟨T,hT⟩:=ay3 (P:=mv) _ h1;exact hT _ (hE T) T (lbR _) (.inl rfl))
 obtain ⟨T,hT⟩:∃T,∀w,q<w->∀k,T<=k->¬mv k w:=by
  obtain ⟨T,hT⟩:=ay3 (P:=fun k w=>q<w/\mv k w) (n+m) fun w hw=>by
   by_cases hqw:q<w
   ·have:=hmax w hqw hw;obtain ⟨T,hT⟩:=Classical.not_forall.1 this;exact ⟨T,fun k hk ⟨_,hm⟩=>hT ⟨k,hk,hm⟩⟩
   ·exact ⟨0,fun k _ ⟨h,_⟩=>hqw h⟩
  refine ⟨T,fun w hqw k hk hm=>?_⟩;have hw:w<n+m:=by rcases hm with hm|hm<;>rw [← hm];exact hE k;exact hL k
  exact hT w hw k hk ⟨hqw,hm⟩
 have hEq:∀k,T<=k->E k<=q:=fun k hk=>aV6 fun h=>hT _ h k hk (.inl rfl)
 have hLq:∀k,T<=k->L k<=q:=fun k hk=>aV6 fun h=>hT _ h k hk (.inr rfl)
 have hconst:∀w,q<w->∀d,fre (T+d) w↔fre T w:=fun w hw d=>by
  induction d with
  |zero=>exact Iff.rfl
  |succ d ih=>
   have h1:=hEq (T+d) om;have h2:=hLq (T+d) om;exact (hfre (T+d) w om om).trans ih
 have hsame:∀w,q<w->∀t u,T<=t->T<=u->(fre t w↔fre u w):=fun w hw t u ht hu=>by
  have h1:=hconst w hw (t - T);have h2:=hconst w hw (u - T);rw [show T+(t - T)=t by omega] at h1;rw [show T+(u - T)=u by omega] at h2;exact h1.trans h2.symm
 have hnext:∀k1,T<=k1->mv k1 q->∃k2,T<=k2/\mv k2 q/\(fre k2 q↔fre (k1+1) q):=fun k1 h1 _=>by
  obtain ⟨k2,⟨h2,h3⟩,hleast⟩:=a4Y (fun k=>k1+1<=k/\mv k q) (hio (k1+1));refine ⟨k2,om,h3,?_⟩;have key:∀d,k1+1+d<=k2->(fre (k1+1+d) q↔fre (k1+1) q):=fun d=>by
   induction d with
   |zero=>exact fun _=>Iff.rfl
   |succ d ih=>
    intro hd;have hnm:¬mv (k1+1+d) q:=fun h=>by have:=hleast (k1+1+d) ⟨om,h⟩;omega
    exact (hfre (k1+1+d) q (fun h=>hnm (.inl h.symm)) (fun h=>hnm (.inr h.symm))).trans (ih om)
  have:=key (k2 - (k1+1)) om;rwa [show k1+1+(k2 - (k1+1))=k2 by omega] at this
 have hboth:∃t u,T<=t/\T<=u/\E t=q/\L u=q:=by
  obtain ⟨k1,h1,hm1⟩:=hio T;obtain ⟨k2,h2,hm2,hs⟩:=hnext k1 h1 hm1;rcases hm1 with hm1|hm1
  ·rcases hm2 with hm2|hm2
   ·have a:=hin k2;rw [hm2] at a;have b:=hout2 k1;rw [hm1] at b;exact absurd (hs.1 a) b
   ·exact ⟨k1,k2,h1,h2,hm1,hm2⟩
  ·rcases hm2 with hm2|hm2
   ·exact ⟨k2,k1,h2,h1,hm2,hm1⟩
   ·have a:=hout k2;rw [hm2] at a;have b:=hin2 k1;rw [hm1] at b;exact absurd (hs.2 b) a
 obtain ⟨t,u,ht,hu,het,hlu⟩:=hboth;obtain ⟨z,hz⟩:=hG t;obtain ⟨z',hz'⟩:=hG u;obtain ⟨a1,a2,a3,_⟩:=hW t;obtain ⟨b1,b2,b3,_⟩:=hW u;have hl:L t<q:=by have:=hLq t ht;have:=hEL t;omega
 have he:E u<q:=by have:=hEq u hu;have:=hEL u;omega
 exact b7v (hP t) (hP u) (fun y c=>(hI t y c).symm.trans (hI u y c)) hz hz' a1 a2 b1 b2 a3 b3 het hlu hl he (fun w hw=>hsame w hw t u ht hu)
def itS (m n:Nat):Nat->Fd->Option Fd
 |0,D=>some D
 |k+1,D=>match G7 m n D with
  |none=>none
  |some D'=>itS m n k D'
def a1d {m n:Nat}:∀(k:Nat) (D:Fd),itS m n (k+1) D=(itS m n k D).bind (G7 m n)
 |0,D=>by
  show (match G7 m n D with|none=>none|some D'=>some D')=G7 m n D;cases G7 m n D<;>rfl
 |k+1,D=>by
  show (match G7 m n D with|none=>none|some D'=>itS m n (k+1) D')=(match G7 m n D with|none=>none|some D'=>itS m n k D').bind (G7 m n);cases G7 m n D with
  |none=>rfl
  |some D'=>exact a1d k D'
def b8N {m n:Nat} {D:Fd} {g0:Nat->Rat} (hP:Z0 m n D) (hG:∃z,a14 n D g0 m z):∃k,itS m n k D=none:=Y9 fun h=>by
 have h1:∀k,∃D',itS m n k D=some D':=fun k=>by
  cases hk:itS m n k D with
  |none=>exact absurd ⟨k,hk⟩ h
  |some D'=>exact ⟨D',rfl⟩
 obtain ⟨f,hf⟩:=Classical.axiomOfChoice h1;have hf:∀k,itS m n k D=some (f k):=hf;have h0:f 0=D:=by have:=hf 0;injection this with this;exact this.symm
 refine bv6 (f:=f) (g0:=g0) (by rw [h0];exact hP) (by rw [h0];exact hG) fun k=>?_
 have h2:=a1d (m:=m) (n:=n) k D;rw [hf k,hf (k+1)] at h2;exact h2.symm
noncomputable def a6w (m n:Nat) (D:Fd):Nat:=Classical.epsilon fun k=>itS m n k D=none/\∀j,itS m n j D=none->k<=j
def az9 {m n:Nat} {D D':Fd} (h:∃k,itS m n k D=none) (hn:G7 m n D=some D'):a6w m n D'<a6w m n D:=by
 have hD:=aV2 (a4Y _ h);have h':∃k,itS m n k D'=none:=by
  obtain ⟨k,hk⟩:=h;cases k with
  |zero=>cases hk
  |succ k=>
   have hk:(match G7 m n D with|none=>none|some D'=>itS m n k D')=none:=hk;rw [hn] at hk;exact ⟨k,hk⟩
 have hD':=aV2 (a4Y _ h');have e:a6w m n D=Classical.epsilon fun k=>itS m n k D=none/\∀j,itS m n j D=none->k<=j:=rfl
 have e':a6w m n D'=Classical.epsilon fun k=>itS m n k D'=none/\∀j,itS m n j D'=none->k<=j:=rfl
 rw [← e] at hD;rw [← e'] at hD';obtain ⟨a1,a2⟩:=hD;obtain ⟨b1,b2⟩:=hD';generalize a6w m n D=k at a1 a2;cases k with
 |zero=>cases a1
 |succ k=>
  have a1:(match G7 m n D with|none=>none|some D'=>itS m n k D')=none:=a1;rw [hn] at a1;have:=b2 k a1;omega
structure EqI where
 co:Nat->Int
 rhs:Int
def ac1 (k:Nat) (e:EqI) (u:Nat->Rat):Prop:=p5 (fun l=>((e.co l:Int):Rat)*u l) (k+1)=((e.rhs:Int):Rat)
def bn8 {f g:Nat->Rat} (a b:Rat) (n:Nat):p5 (fun j=>a*f j - b*g j) n=a*p5 f n - b*p5 g n:=by
 rw [← K0 a,←K0 b];have:p5 (fun j=>a*f j - b*g j) n=p5 (fun j=>a*f j+(-1)*(b*g j)) n:=p4 fun j _=>zg
 rw [this,a2t,K0 (-1)];grind
def av0 (k:Nat) (e0 e:EqI):EqI:=⟨fun l=>e0.co (k+1)*e.co l - e.co (k+1)*e0.co l,e0.co (k+1)*e.rhs - e.co (k+1)*e0.rhs⟩
def b1N {k:Nat} {e0 e:EqI} {u:Nat->Rat}:p5 (fun l=>(((av0 k e0 e).co l:Int):Rat)*u l) (k+1)=
 ((e0.co (k+1):Int):Rat)*p5 (fun l=>((e.co l:Int):Rat)*u l) (k+1) - ((e.co (k+1):Int):Rat)*p5 (fun l=>((e0.co l:Int):Rat)*u l) (k+1):=by
 rw [← bn8];refine p4 fun l _=>?_
 unfold av0;simp only;rw [Rat.intCast_sub,aV7,aV7];grind
def b0E {k:Nat} {e0 e:EqI}:(((av0 k e0 e).rhs:Int):Rat)=((e0.co (k+1):Int):Rat)*((e.rhs:Int):Rat) - ((e.co (k+1):Int):Rat)*((e0.rhs:Int):Rat):=by
 unfold av0;simp only;rw [Rat.intCast_sub,aV7,aV7]
def bo4 {k:Nat} {e0 e:EqI} {s:Nat} (h0:(∀ l,l<=k+1->bl (e0.co l)<=s)/\bl e0.rhs<=s) (h:(∀ l,l<=k+1->bl (e.co l)<=s)/\bl e.rhs<=s):(∀ l,l<=k->bl ((av0 k e0 e).co l)<=2*s+1)/\bl (av0 k e0 e).rhs<=2*s+1:=by
 have key:∀a b c d:Int,bl a<=s->bl b<=s->bl c<=s->bl d<=s->bl (a*b - c*d)<=2*s+1:=fun a b c d ha hb hc hd=>by
  have h1:=I2 a b;have h2:=I2 c d;have h3:=a8p (a*b) (-(c*d));rw [Y4,←ab9] at h3;omega
 exact ⟨fun l hl=>key _ _ _ _ (h0.1 _ om) (h.1 _ om) (h.1 _ om) (h0.1 _ om),key _ _ _ _ (h0.1 _ om) h.2 (h.1 _ om) h0.2⟩
def a8t:∀(k s:Nat) (E:List EqI) (u:Nat->Rat),(∀ e ∈ E,(∀ l,l<=k->bl (e.co l)<=s)/\bl e.rhs<=s)->(∀ e ∈ E,ac1 k e u)->(∀ u',(∀ e ∈ E,ac1 k e u')->u' 0=u 0)->rl (u 0)<=2 ^ k*(s+1)
 |0,s,E,u,hb,hu,hq=>by
  by_cases hex:∃e ∈ E,e.co 0≠0
  ·obtain ⟨e,he,hc⟩:=hex;have h1:((0:Int):Rat)+((e.co 0:Int):Rat)*u 0=((e.rhs:Int):Rat):=hu e he;have hne:((e.co 0:Int):Rat)≠0:=fun h=>hc (by exact_mod_cast h)
   have h2:u 0=Rat.divInt e.rhs (e.co 0):=by
    rw [a80,←h1];have:((0:Int):Rat)=0:=rfl;rw [this];grind
   rw [h2];have h3:=(hb e he).1 0 (lbR _);have h4:=(hb e he).2;have:=X4 (p:=e.rhs) (q:=e.co 0) hc;omega
  ·have hz:∀e ∈ E,e.co 0=0:=fun e he=>Y9 fun h=>hex ⟨e,he,h⟩
   have:=hq (fun _=>u 0+1) fun e he=>by
    have h1:((0:Int):Rat)+((e.co 0:Int):Rat)*u 0=((e.rhs:Int):Rat):=hu e he;show ((0:Int):Rat)+((e.co 0:Int):Rat)*(u 0+1)=((e.rhs:Int):Rat);rw [← h1,hz e he];have:((0:Int):Rat)=0:=rfl;rw [this];grind
   grind
 |k+1,s,E,u,hb,hu,hq=>by
  have hlast:∀(e:EqI) (v:Nat->Rat),p5 (fun l=>((e.co l:Int):Rat)*v l) (k+1+1)=p5 (fun l=>((e.co l:Int):Rat)*v l) (k+1)+((e.co (k+1):Int):Rat)*v (k+1):=fun e v=>rfl
  by_cases hex:∃e ∈ E,e.co (k+1)≠0
  ·obtain ⟨e0,he0,hc⟩:=hex;have hne:((e0.co (k+1):Int):Rat)≠0:=fun h=>hc (by exact_mod_cast h)
   have ih:=a8t k (2*s+1) (E.map (av0 k e0)) u (fun e he=>by
    obtain ⟨e1,he1,rfl⟩:=lbx.1 he;exact bo4 (hb e0 he0) (hb e1 he1)) (fun e he=>by
    obtain ⟨e1,he1,rfl⟩:=lbx.1 he;have a1:p5 _ (k+1+1)=_:=hu e0 he0;have a2:p5 _ (k+1+1)=_:=hu e1 he1;rw [hlast] at a1 a2;unfold ac1;rw [b1N,b0E,←a1,←a2];grind) (fun u' hu'=>by
    have hnew:=hq (fun l=>if l=k+1 then (((e0.rhs:Int):Rat) - p5 (fun l=>((e0.co l:Int):Rat)*u' l) (k+1)) / ((e0.co (k+1):Int):Rat) else u' l) fun e he=>by
     have b1:=hu' _ (lbx.2 ⟨e,he,rfl⟩);unfold ac1 at b1 ⊢;rw [b1N,b0E] at b1;rw [hlast,p4 (g:=fun l=>((e.co l:Int):Rat)*u' l) fun l hl=>by rw [iB om],iA rfl];generalize p5 (fun l=>((e.co l:Int):Rat)*u' l) (k+1)=X at *;generalize p5 (fun l=>((e0.co l:Int):Rat)*u' l) (k+1)=Y at *;generalize ((e0.co (k+1):Int):Rat)=c at *;generalize ((e.co (k+1):Int):Rat)=d at *;generalize ((e.rhs:Int):Rat)=r at *;generalize ((e0.rhs:Int):Rat)=r0 at *;have h1:c*(X+d*((r0 - Y) / c))=c*r:=by
      have:c*((r0 - Y) / c)=r0 - Y:=zg;have h2:c*(X+d*((r0 - Y) / c))=c*X+d*(c*((r0 - Y) / c)):=zg;rw [h2,this];grind
     grind
    rw [iB om] at hnew;exact hnew)
   have e1:2 ^ (k+1)*(s+1)=2 ^ k*(2*s+1+1):=by rw [Nat.pow_succ,Nat.mul_assoc,show 2*(s+1)=2*s+1+1 by omega]
   rw [e1];exact ih
  ·have hz:∀e ∈ E,e.co (k+1)=0:=fun e he=>Y9 fun h=>hex ⟨e,he,h⟩
   have hiff:∀e ∈ E,∀v,ac1 (k+1) e v↔ac1 k e v:=fun e he v=>by
    unfold ac1;rw [hlast,hz e he];have:((0:Int):Rat)=0:=rfl;rw [this];constructor
    ·intro h;rw [← h];grind
    ·intro h;rw [← h];grind
   have ih:=a8t k s E u (fun e he=>⟨fun l hl=>(hb e he).1 l om,(hb e he).2⟩) (fun e he=>(hiff e he u).1 (hu e he)) fun u' hu'=>hq u' fun e he=>(hiff e he u').2 (hu' e he)
   have:2 ^ k<=2 ^ (k+1):=a82 de om;exact lbS ih (lbU _ this)
structure a9H (m n s:Nat) (D:Fd):Prop where
 o:∀i,i<m->D.O i=n+i
 f:∀j,j<n->D.F j=j
 w:∀i,i<m->∃(q v:Int) (a:Nat->Int),q≠0/\bl q<=s/\bl v<=s/\(∀ j,j<n->bl (a j)<=s)/\((q:Int):Rat)*D.V i=((v:Int):Rat)/\∀j,j<n->((q:Int):Rat)*D.A i j=((a j:Int):Rat)
def a7k (x:Int):bl (-x)=bl x:=by unfold bl;rw [a2h]
def b75 (x y:Int):bl (x - y)<=max (bl x) (bl y)+1:=by
 have:=a8p x (-y);rw [a7k] at this;rw [ab9];exact this
def aK3 {f:Nat->Rat}:∀n:Nat,p5 f (n+1)=f 0+p5 (fun l=>f (l+1)) n
 |0=>by simp only [p5];grind
 |n+1=>by
  have ih:=aK3 (f:=f) n;have e:p5 f (n+1+1)=p5 f (n+1)+f (n+1):=rfl;rw [e,ih];simp only [p5];grind
def b5T (q0:Int) (b:Nat->Int) (r:Int):EqI:=⟨fun l=>match l with|0=>q0|l+1=>b l,r⟩
def ar6 {n:Nat} {q0 r:Int} {b:Nat->Int} {u:Nat->Rat}:ac1 n (b5T q0 b r) u↔((q0:Int):Rat)*u 0+p5 (fun l=>((b l:Int):Rat)*u (l+1)) n=((r:Int):Rat):=by
 unfold ac1 b5T;simp only;rw [aK3]
def a5w {n v:Nat} {u:Nat->Rat} (hv:v<n):p5 (fun l=>(((if l=v then (1:Int) else 0):Int):Rat)*u l) n=u v:=by
 rw [H4 hv,D5 fun j hj=>?_]
 ·simp only [if_true];have:((1:Int):Rat)=1:=rfl;rw [this];grind
 ·by_cases h:j=v
  ·simp only [h,if_true]
  ·simp only [iB h];have:((0:Int):Rat)=0:=rfl;rw [this];grind
def bs3 {s:Nat} (hs:1<=s) (b:Prop) [Decidable b]:bl (if b then (1:Int) else 0)<=s:=by
 split
 ·exact lbS (w5 de de) hs
 ·exact lbS (w5 de de) hs
def a6I {m n s:Nat} {D0 D:Fd} (h0:a9H m n s D0) (hs:1<=s) (hP:Z0 m n D) (hI:∀y c,Ids m n D0 y c↔Ids m n D y c) {c:Int} {t:Nat->Int} (hc:c=0\/c=1) (ht:∀j,t j=0\/t j=1)
 {q r:Int} {b:Nat->Int} {φ:Rat} (hq:q≠0) (hqs:bl q<=s) (hr:bl r<=s) (hb:∀l,l<n->bl (b l)<=s)
 (hφ:((q:Int):Rat)*φ=((r:Int):Rat)*((c:Int):Rat)+p5 (fun l=>((b l:Int):Rat)*Q6 m n D ((c:Int):Rat) (fun j=>((t j:Int):Rat)) l) n):rl φ<=2 ^ n*(s+2):=by
 obtain ⟨y,hy⟩:∃y,y=Q6 m n D ((c:Int):Rat) (fun j=>((t j:Int):Rat)):=⟨_,rfl⟩;rw [← hy] at hφ;have hyD:Ids m n D y ((c:Int):Rat):=by rw [hy];exact a0i hP _ _
 have hy0:=(hI y _).2 hyD;have hyF:∀j,j<n->y (D.F j)=((t j:Int):Rat):=fun j hj=>by rw [hy];exact a1q hP hj
 have eqs:∀j,j<n->∃e:EqI,(∀ l,l<=n->bl (e.co l)<=s+1)/\bl e.rhs<=s+1/\
  ∀(y' u':Nat->Rat),(∀ l,l<n->u' (l+1)=y' l)->Ids m n D0 y' ((c:Int):Rat)->(ac1 n e u'↔y' (D.F j)=((t j:Int):Rat)):=by
  intro j hj;have htb:bl (t j)<=1:=by rcases ht j with h|h<;>rw [h]<;>exact w5 de de
  by_cases hv:D.F j<n
  ·refine ⟨b5T 0 (fun l=>if l=D.F j then 1 else 0) (t j),fun l hl=>?_,lbS htb om,fun y' u' hu hy'=>?_⟩
   ·cases l with
    |zero=>exact lbS (w5 (x:=0) de de) om
    |succ l=>exact bs3 om _
   ·rw [ar6];rw [p4 (g:=fun l=>(((if l=D.F j then (1:Int) else 0):Int):Rat)*y' l) fun l hl=>by rw [hu l hl],a5w hv];have:((0:Int):Rat)=0:=rfl;rw [this];constructor<;>intro h<;>grind
  ·have hb1:=hP.fb j hj;obtain ⟨i,hi⟩:∃i,D.F j=n+i:=⟨D.F j - n,om⟩;have him:i<m:=om;obtain ⟨qi,vi,ai,q1,q2,q3,q4,q5,q6⟩:=h0.w i him;have hrhs:bl (vi*c - qi*t j)<=s+1:=by
    have h1:bl (vi*c)<=s:=by rcases hc with h|h<;>rw [h]<;>simp<;>first|exact q3|exact lbS (w5 (x:=0) de de) hs
    have h2:bl (qi*t j)<=s:=by rcases ht j with h|h<;>rw [h]<;>simp<;>first|exact q2|exact lbS (w5 (x:=0) de de) hs
    have:=b75 (vi*c) (qi*t j);omega
   refine ⟨b5T 0 ai (vi*c - qi*t j),fun l hl=>?_,hrhs,fun y' u' hu hy'=>?_⟩
   ·cases l with
    |zero=>exact lbS (w5 (x:=0) de de) om
    |succ l=>exact lbS (q4 l om) om
   ·rw [ar6,hi];have hid:=hy' i him;rw [h0.o i him] at hid;have hsum:p5 (fun l=>((ai l:Int):Rat)*u' (l+1)) n=((qi:Int):Rat)*p5 (fun j=>D0.A i j*y' (D0.F j)) n:=by
     rw [← K0];refine p4 fun l hl=>?_
     rw [hu l hl,h0.f l hl,←q6 l hl];grind
    rw [hsum];have e0:((0:Int):Rat)=0:=rfl;have e1:((vi*c - qi*t j:Int):Rat)=((vi:Int):Rat)*((c:Int):Rat) - ((qi:Int):Rat)*((t j:Int):Rat):=by push_cast;rfl
    rw [e0,e1,←q5];have hqn:((qi:Int):Rat)≠0:=by intro h;exact q1 (by exact_mod_cast h)
    constructor
    ·intro h;have:((qi:Int):Rat)*(y' (n+i) - ((t j:Int):Rat))=0:=by rw [hid];grind
     have:=(ay7.1 this).resolve_left hqn;grind
    ·intro h;rw [← h,hid];grind
 obtain ⟨E,hE⟩:∃E:Nat->EqI,∀j,(hj:j<n)->E j=Classical.choose (eqs j hj):=⟨fun j=>if hj:j<n then Classical.choose (eqs j hj) else ⟨fun _=>0,0⟩,fun j hj=>by simp [hj]⟩;have hEs:∀j,j<n->(∀ l,l<=n->bl ((E j).co l)<=s+1)/\bl (E j).rhs<=s+1/\
  ∀(y' u':Nat->Rat),(∀ l,l<n->u' (l+1)=y' l)->Ids m n D0 y' ((c:Int):Rat)->(ac1 n (E j) u'↔y' (D.F j)=((t j:Int):Rat)):=fun j hj=>by
  rw [hE j hj];exact a8f (eqs j hj)
 let e0:EqI:=b5T q (fun l=>0 - b l) (r*c)
 have he0:∀(y' u':Nat->Rat),(∀ l,l<n->u' (l+1)=y' l)->(ac1 n e0 u'↔((q:Int):Rat)*u' 0=((r:Int):Rat)*((c:Int):Rat)+p5 (fun l=>((b l:Int):Rat)*y' l) n):=by
  intro y' u' hu;show ac1 n (b5T q (fun l=>0 - b l) (r*c)) u'↔_;rw [ar6];have e1:p5 (fun l=>(((0 - b l:Int)):Rat)*u' (l+1)) n=0 - p5 (fun l=>((b l:Int):Rat)*y' l) n:=by
   have:p5 (fun l=>(((0 - b l:Int)):Rat)*u' (l+1)) n=p5 (fun l=>(-1:Rat)*(((b l:Int):Rat)*y' l)) n:=p4 fun l hl=>by
    rw [hu l hl];push_cast;grind
   rw [this,K0];grind
  rw [e1];have e2:((r*c:Int):Rat)=((r:Int):Rat)*((c:Int):Rat):=by push_cast;rfl
  rw [e2];constructor<;>intro h<;>grind
 let u:Nat->Rat:=fun l=>match l with|0=>φ|l+1=>y l
 have hu:∀l,l<n->u (l+1)=y l:=fun l _=>rfl
 have key:=a8t n (s+1) (e0::(List.range n).map E) u (fun e he=>?_) (fun e he=>?_) (fun u' hu'=>?_)
 ·exact key
 ·rcases lbA.1 he with rfl|he
  ·refine ⟨fun l hl=>?_,?_⟩
   ·cases l with
    |zero=>exact lbS hqs om
    |succ l=>
     show bl (0 - b l)<=s+1;have:=hb l om;have h1:=b75 0 (b l);have h2:=w5 (x:=0) de de;omega
   ·show bl (r*c)<=s+1;rcases hc with h|h<;>rw [h]<;>simp
    ·exact lbS (w5 (x:=0) de de) om
    ·omega
  ·obtain ⟨j,hj,rfl⟩:=lbx.1 he;have:=hEs j (lbB.1 hj);exact ⟨this.1,this.2.1⟩
 ·rcases lbA.1 he with rfl|he
  ·exact (he0 y u hu).2 hφ
  ·obtain ⟨j,hj,rfl⟩:=lbx.1 he;have hj:=lbB.1 hj;exact ((hEs j hj).2.2 y u hu hy0).2 (hyF j hj)
 ·let y':Nat->Rat:=fun w=>if w<n then u' (w+1) else ((c:Int):Rat)*D0.V (w - n) - p5 (fun j=>D0.A (w - n) j*u' (j+1)) n
  have huy:∀l,l<n->u' (l+1)=y' l:=fun l hl=>by show _=if l<n then _ else _;rw [iA hl]
  have hy':Ids m n D0 y' ((c:Int):Rat):=by
   intro i hi;rw [h0.o i hi];show (if n+i<n then _ else _)=_;rw [iB om,show n+i - n=i by omega]
   congr 1
   refine p4 fun j hj=>?_
   rw [h0.f j hj,huy j hj]
  have hyD':=(hI y' _).1 hy';have hF':∀j,j<n->y' (D.F j)=((t j:Int):Rat):=fun j hj=>((hEs j hj).2.2 y' u' huy hy').1 (hu' _ (List.mem_cons_of_mem _ (lbx.2 ⟨j,lbB.2 hj,rfl⟩)))
  have same:∀w,w<n+m->y' w=y w:=by
   intro w hw;rcases hP.all w hw with ⟨i,hi,rfl⟩|⟨j,hj,rfl⟩
   ·rw [hyD' i hi,hyD i hi]
    congr 1
    exact p4 fun j hj=>by rw [hF' j hj,hyF j hj]
   ·rw [hF' j hj,hyF j hj]
  have h1:=(he0 y' u' huy).1 (hu' e0 (at3));have h2:p5 (fun l=>((b l:Int):Rat)*y' l) n=p5 (fun l=>((b l:Int):Rat)*y l) n:=p4 fun l hl=>by rw [same l om]
  rw [h2,←hφ] at h1;have hqn:((q:Int):Rat)≠0:=by intro h;exact hq (by exact_mod_cast h)
  show u' 0=φ;have h3:((q:Int):Rat)*(u' 0 - φ)=0:=zg;have:=(ay7.1 h3).resolve_left hqn;grind
def aM0 {m n s:Nat} {D0 D:Fd} (h0:a9H m n s D0) (hs:1<=s) (hP:Z0 m n D) (hI:∀y c,Ids m n D0 y c↔Ids m n D y c) {c:Int} {t:Nat->Int} (hc:c=0\/c=1) (ht:∀j,t j=0\/t j=1) {w:Nat} (hw:w<n+m):
 rl (Q6 m n D ((c:Int):Rat) (fun j=>((t j:Int):Rat)) w)<=2 ^ n*(s+2):=by
 by_cases hv:w<n
 ·refine a6I h0 hs hP hI hc ht (q:=1) (r:=0) (b:=fun l=>if l=w then 1 else 0) de (lbS (w5 de de) hs) (lbS (w5 de de) hs) (fun l hl=>bs3 hs _) ?_;rw [a5w hv];have e0:((0:Int):Rat)=0:=rfl;have e1:((1:Int):Rat)=1:=rfl;rw [e0,e1];grind
 ·obtain ⟨i,rfl⟩:∃i,w=n+i:=⟨w - n,om⟩;have him:i<m:=om;obtain ⟨qi,vi,ai,q1,q2,q3,q4,q5,q6⟩:=h0.w i him;have hy0:=(hI _ _).2 (a0i hP ((c:Int):Rat) (fun j=>((t j:Int):Rat))) i him;rw [h0.o i him] at hy0;refine a6I h0 (lbS hs (lbR _)) hP hI hc ht (q:=qi) (r:=vi) (b:=fun l=>0 - ai l) q1 q2 q3 (fun l hl=>?_) ?_
  ·rw [show (0:Int) - ai l=-(ai l) by omega,a7k];exact q4 l hl
  ·rw [hy0,←q5];have e1:p5 (fun l=>(((0 - ai l:Int)):Rat)*Q6 m n D ((c:Int):Rat) (fun j=>((t j:Int):Rat)) l) n=0 - ((qi:Int):Rat)*p5 (fun j=>D0.A i j*Q6 m n D ((c:Int):Rat) (fun j=>((t j:Int):Rat)) (D0.F j)) n:=by
    have:p5 (fun l=>(((0 - ai l:Int)):Rat)*Q6 m n D ((c:Int):Rat) (fun j=>((t j:Int):Rat)) l) n=p5 (fun l=>(0 - ((qi:Int):Rat))*(D0.A i l*Q6 m n D ((c:Int):Rat) (fun j=>((t j:Int):Rat)) (D0.F l))) n:=p4 fun l hl=>by
     rw [h0.f l hl];have:=q6 l hl;have e:((0 - ai l:Int):Rat)=0 - ((ai l:Int):Rat):=by push_cast;rfl
     rw [e,←this];grind
    rw [this,K0];grind
   rw [e1];grind
def bn5 {m n s:Nat} {D0 D:Fd} (h0:a9H m n s D0) (hs:1<=s) (hP:Z0 m n D) (hI:∀y c,Ids m n D0 y c↔Ids m n D y c) {i:Nat} (hi:i<m):rl (D.V i)<=2 ^ n*(s+2):=by
 have:=aM0 h0 hs hP hI (c:=1) (t:=fun _=>0) (.inr rfl) (fun _=>.inl rfl) (hP.ob i hi);rw [a5L hP hi] at this;have e:p5 (fun j=>D.A i j*(((fun _=>(0:Int)) j:Int):Rat)) n=0:=D5 fun j hj=>by
  show D.A i j*((0:Int):Rat)=0;have e0:((0:Int):Rat)=0:=rfl;rw [e0];grind
 rw [e] at this;have e2:((1:Int):Rat)*D.V i - 0=D.V i:=by have e1:((1:Int):Rat)=1:=rfl;rw [e1];grind
 rw [e2] at this;exact this
def bf9 {m n s:Nat} {D0 D:Fd} (h0:a9H m n s D0) (hs:1<=s) (hP:Z0 m n D) (hI:∀y c,Ids m n D0 y c↔Ids m n D y c) {i j:Nat} (hi:i<m) (hj:j<n):rl (D.A i j)<=2 ^ n*(s+2):=by
 have:=aM0 h0 hs hP hI (c:=0) (t:=fun l=>if l=j then 1 else 0) (.inl rfl) (fun l=>by by_cases h:l=j;exact .inr (iA h);exact .inl (iB h)) (hP.ob i hi);rw [a5L hP hi] at this;have e:p5 (fun l=>D.A i l*(((if l=j then (1:Int) else 0):Int):Rat)) n=D.A i j:=by
  rw [p4 (g:=fun l=>(((if l=j then (1:Int) else 0):Int):Rat)*D.A i l) fun l hl=>by grind,a5w (u:=fun l=>D.A i l) hj]
 rw [e] at this;have e2:((0:Int):Rat)*D.V i - D.A i j=-(D.A i j):=by have e1:((0:Int):Rat)=0:=rfl;rw [e1];grind
 rw [e2,a39] at this;exact this
def be4 {m n s:Nat} {D0 D:Fd} (h0:a9H m n s D0) (hs:1<=s) (hP:Z0 m n D) (hI:∀y c,Ids m n D0 y c↔Ids m n D y c) {g0:Nat->Rat} {z:Rat} (hG:a14 n D g0 m z) {q:Int} {b:Nat->Int} (hq:q≠0) (hqs:bl q<=s) (hb:∀l,l<n->bl (b l)<=s) (hg:∀l,l<n->((q:Int):Rat)*g0 l=((b l:Int):Rat)) {j:Nat} (hj:j<n):rl (D.G j)<=2 ^ n*(s+2):=by
 have h1:=hG _ _ (a0i hP ((0:Int):Rat) (fun l=>(((if l=j then (1:Int) else 0):Int):Rat)));have e:p5 (fun l=>D.G l*Q6 m n D ((0:Int):Rat) (fun l=>(((if l=j then (1:Int) else 0):Int):Rat)) (D.F l)) n=D.G j:=by
  rw [p4 (g:=fun l=>(((if l=j then (1:Int) else 0):Int):Rat)*D.G l) fun l hl=>by rw [a1q hP hl];grind,a5w (u:=fun l=>D.G l) hj]
 rw [e] at h1;refine a6I h0 hs hP hI (c:=0) (t:=fun l=>if l=j then 1 else 0) (.inl rfl) (fun l=>by by_cases h:l=j;exact .inr (iA h);exact .inl (iB h)) (q:=q) (r:=0) (b:=b) hq hqs (lbS (w5 de de) hs) hb ?_;have e0:((0:Int):Rat)=0:=rfl;have h2:D.G j=p5 (fun l=>g0 l*Q6 m n D ((0:Int):Rat) (fun l=>(((if l=j then (1:Int) else 0):Int):Rat)) l) n:=by
  rw [h1];simp only [e0];grind
 rw [h2,←K0];have h3:p5 (fun l=>((b l:Int):Rat)*Q6 m n D ((0:Int):Rat) (fun l=>(((if l=j then (1:Int) else 0):Int):Rat)) l) n=p5 (fun l=>((q:Int):Rat)*(g0 l*Q6 m n D ((0:Int):Rat) (fun l=>(((if l=j then (1:Int) else 0):Int):Rat)) l)) n:=p4 fun l hl=>by rw [← hg l hl];grind
 rw [h3];grind
def b6d (m n:Nat) (y:Nat->Rat):Prop:=∀w,w<n+m->0<=y w
def b6T {m n:Nat} {D:Fd} {g0:Nat->Rat} {z:Rat} (hP:Z0 m n D) (hG:a14 n D g0 m z) (hv:∀i,i<m->0<=D.V i) (hg:∀j,j<n->D.G j<=0):
 (∃ y,Ids m n D y 1/\b6d m n y/\p5 (fun j=>g0 j*y j) n=z/\y=Q6 m n D 1 (fun _=>0))/\∀y,Ids m n D y 1->b6d m n y->p5 (fun j=>g0 j*y j) n<=z:=by
 refine ⟨⟨_,a0i hP 1 (fun _=>0),fun w hw=>?_,?_,rfl⟩,fun y hy hp=>?_⟩
 ·rcases hP.all w hw with ⟨i,hi,rfl⟩|⟨j,hj,rfl⟩
  ·rw [a5L hP hi,D5 fun j hj=>by grind];have:=hv i hi;grind
  ·rw [a1q hP hj];grind
 ·rw [hG _ _ (a0i hP 1 (fun _=>0)),D5 fun j hj=>by rw [a1q hP hj];grind];grind
 ·rw [hG _ _ hy];have:p5 (fun j=>D.G j*y (D.F j)) n<=0:=aj2 fun j hj=>by
   have h1:=hg j hj;have h2:=hp (D.F j) (hP.fb j hj);have:=lb1 (show 0<=-(D.G j) by grind) h2;grind
  grind
def bh3 {m n:Nat} {D:Fd} (hP:Z0 m n D) {r:Nat} (hr:r<m) (hv:D.V r<0) (ha:∀j,j<n->0<=D.A r j):∀y,Ids m n D y 1->¬b6d m n y:=by
 intro y hy hp;have h1:=hy r hr;have h2:=hp (D.O r) (hP.ob r hr);have h3:0<=p5 (fun j=>D.A r j*y (D.F j)) n:=a4d fun j hj=>lb1 (ha j hj) (hp _ (hP.fb j hj))
 grind
def bh8 {m n:Nat} {D:Fd} {g0:Nat->Rat} {z:Rat} (hP:Z0 m n D) (hG:a14 n D g0 m z) {s:Nat} (hs:s<n) (hg:0<D.G s) (ha:∀i,i<m->D.A i s<=0):
 ∃y,Ids m n D y 0/\b6d m n y/\0<p5 (fun j=>g0 j*y j) n/\y=Q6 m n D 0 (fun j=>if j=s then 1 else 0):=by
 have hsum:∀f:Nat->Rat,p5 (fun j=>f j*(if j=s then (1:Rat) else 0)) n=f s:=fun f=>by
  rw [H4 hs,D5 fun j hj=>by by_cases h:j=s;simp only [h,if_true];simp only [iB h];grind];simp only [if_true];grind
 refine ⟨_,a0i hP 0 _,fun w hw=>?_,?_,rfl⟩
 ·rcases hP.all w hw with ⟨i,hi,rfl⟩|⟨j,hj,rfl⟩
  ·rw [a5L hP hi,hsum];have:=ha i hi;grind
  ·rw [a1q hP hj];split<;>grind
 ·rw [hG _ _ (a0i hP 0 _),p4 (g:=fun j=>D.G j*(if j=s then (1:Rat) else 0)) fun j hj=>by rw [a1q hP hj],hsum];grind
structure C5 where
 terms:List (Int × Rat)
 kind:Int
 value:Rat
structure m8 where
 n:Int
 rows:List C5
def n8 (l:List (Int × Rat)) (z:List Rat):Rat:=l.foldl (fun a t=>a+t.2*z.getD t.1.toNat 0) ((0:Int):Rat)
def K8 (l:List (Int × Rat)) (t:Int × Rat) (z:List Rat):n8 (l++[t]) z=n8 l z+t.2*z.getD t.1.toNat 0:=by unfold n8;rw [List.foldl_append];rfl
def n7:Int->Int->List (Int × Rat)->Bool
 |_,_,[]=>true
 |last,n,t::r=>decide (last<t.1) && decide (t.1<n) && decide (t.2≠0) && n7 t.1 n r
def A6 (n:Int) (w:C5):Bool:=n7 (-1) n w.terms && decide (0<=w.kind) && decide (w.kind<3)
def q9 (s:m8):Bool:=decide (0<=s.n) && decide (s.n<=1500) && decide (s.rows.length<=6000) && s.rows.all (A6 s.n)
def a0j (w:C5) (z:List Rat):Bool:=!((decide (n8 w.terms z<w.value) && decide (w.kind≠1)) || (decide (w.value<n8 w.terms z) && decide (w.kind≠0)))
def k6 (s:m8) (z:List Rat):Bool:=q9 s && decide ((z.length:Int)=s.n) && z.all (fun v=>decide (0<=v)) && s.rows.all (fun w=>a0j w z)
def s7 (e:Ev) (p:Int):Nat->List (Int × Rat)
 |0=>[]
 |k+1=>match e.moves[k]? with
  |none=>s7 e p k
  |some y=>if y.dst=p then s7 e p k++[((k:Int),((1:Int):Rat))] else if y.src=p then s7 e p k++[((k:Int),((-1:Int):Rat))] else s7 e p k
def C2 (e:Ev) (i:Nat) (x:C6):C5:=⟨s7 e x.src i++[((i:Int),((-1:Int):Rat))],if x.all then 2 else 0,((0:Int):Rat)⟩
def E1 (i:Nat) (kind:Int) (v:Rat):C5:=⟨[((i:Int),((1:Int):Rat))],kind,v⟩
def a0a (iv:Option (Rat × Rat)) (i:Nat):List C5:=match iv with
 |none=>[]
 |some (_,hi)=>[E1 i 1 hi]
def N2 (t:k8) (kind:Int) (i:Nat) (x:C6):List C5:=
 (if N9 t.ev x.src=0 then [] else [C2 t.ev i x])++a0a (Q3 t.ev x) i++(y3 t.finds kind i).map (fun g:Int=>E1 i 0 (g:Rat))++List.replicate (E5 t.cleans kind i) (E1 i 2 ((0:Int):Rat))
def v7 (t:k8) (kind:Int):Nat->List C5
 |0=>[]
 |k+1=>match t.ev.moves[k]? with
  |none=>v7 t kind k
  |some x=>v7 t kind k++N2 t kind k x
def p6 (t:k8) (kind:Int):m8:=⟨t.ev.moves.length,v7 t kind t.ev.moves.length⟩
def ap5 {e:Ev} (h0:I1 e=0) (z:List Rat) (p:Nat):∀k,n8 (s7 e p k) z=a5s e z k p
 |0=>rfl
 |k+1=>by
  have ih:=ap5 h0 z p k;unfold s7;cases hx:e.moves[k]? with
  |none=>rw [b8O hx];exact ih
  |some y=>
   have hm:=R9 h0 (lbm hx);have hne:y.src≠y.dst:=by unfold O5 at hm;simp only [lbN,lbI] at hm;exact hm.1.1.1.1.1.2
   rw [b5s hx];simp only;by_cases c1:y.dst=(p:Int)
   ·rw [iA c1,iB om,iA c1,K8,ih];simp only [lbY];have:((1:Int):Rat)=1:=rfl;rw [this];grind
   ·rw [iB c1];by_cases c2:y.src=(p:Int)
    ·rw [iA c2,iA c2,K8,ih];simp only [lbY];have:((-1:Int):Rat)=-1:=rfl;rw [this];grind
    ·rw [iB c2,iB c2,iB c1];exact ih
def a4B {w:C5} {z:List Rat}:a0j w z=true↔(n8 w.terms z<w.value->w.kind=1)/\(w.value<n8 w.terms z->w.kind=0):=by
 unfold a0j;simp only [a6P,a2f,lbP,lbK,Classical.not_not];constructor
 ·rintro ⟨h1,h2⟩;exact ⟨fun h=>h1.resolve_left (fun h'=>h' h),fun h=>h2.resolve_left (fun h'=>h' h)⟩
 ·rintro ⟨h1,h2⟩;refine ⟨?_,?_⟩
  ·by_cases h:n8 w.terms z<w.value
   ·exact .inr (h1 h)
   ·exact .inl h
  ·by_cases h:w.value<n8 w.terms z
   ·exact .inr (h2 h)
   ·exact .inl h
def aV9 (i:Nat) (kind:Int) (v:Rat) (z:List Rat):n8 (E1 i kind v).terms z=z.getD i 0:=by
 show ((0:Int):Rat)+((1:Int):Rat)*z.getD ((i:Int)).toNat 0=_;rw [lbY];have h0:((0:Int):Rat)=0:=rfl;have h1:((1:Int):Rat)=1:=rfl;rw [h0,h1];grind
def b6C {i:Nat} {v:Rat} {z:List Rat}:a0j (E1 i 1 v) z=true↔z.getD i 0<=v:=by
 rw [a4B,aV9];show (_->(1:Int)=1)/\(v<z.getD i 0->(1:Int)=0)↔_;constructor
 ·rintro ⟨_,h⟩;exact lb4.1 fun h'=>absurd (h h') de
 ·intro h;exact ⟨fun _=>rfl,fun h'=>absurd h' (lb4.2 h)⟩
def aJ9 {i:Nat} {v:Rat} {z:List Rat}:a0j (E1 i 0 v) z=true↔v<=z.getD i 0:=by
 rw [a4B,aV9];show (z.getD i 0<v->(0:Int)=1)/\(_->(0:Int)=0)↔_;constructor
 ·rintro ⟨h,_⟩;exact lb4.1 fun h'=>absurd (h h') de
 ·intro h;exact ⟨fun h'=>absurd h' (lb4.2 h),fun _=>rfl⟩
def a48 {i:Nat} {v:Rat} {z:List Rat}:a0j (E1 i 2 v) z=true↔z.getD i 0=v:=by
 rw [a4B,aV9];show (z.getD i 0<v->(2:Int)=1)/\(v<z.getD i 0->(2:Int)=0)↔_;constructor
 ·rintro ⟨h,h2⟩;have q1:¬z.getD i 0<v:=fun h'=>absurd (h h') de
  have q2:¬v<z.getD i 0:=fun h'=>absurd (h2 h') de
  grind
 ·intro h;exact ⟨fun h'=>by grind,fun h'=>by grind⟩
theorem stock_holds {e:Ev} (h0:I1 e=0) {i:Nat} {x:C6} (hx:e.moves[i]? =some x) {z:List Rat}:a0j (C2 e i x) z=true↔z.getD i 0<=a5s e z i x.src.toNat/\(x.all=true->z.getD i 0=a5s e z i x.src.toNat):=by
 have hm:=R9 h0 (lbm hx);have ms:=a1t hm;have hv:n8 (C2 e i x).terms z=a5s e z i x.src.toNat - z.getD i 0:=by
  unfold C2;simp only;rw [K8,show s7 e x.src i=s7 e ((x.src.toNat:Nat):Int) i by rw [show ((x.src.toNat:Nat):Int)=x.src by omega],ap5 h0];simp only [lbY];have:((-1:Int):Rat)=-1:=rfl;rw [this];grind
 have hz:(C2 e i x).value=0:=rfl;have hk:(C2 e i x).kind=if x.all then 2 else 0:=rfl
 rw [a4B,hv,hz,hk];cases hal:x.all with
 |true=>
  simp only [if_true];constructor
  ·rintro ⟨h,h2⟩;have q1:¬a5s e z i x.src.toNat - z.getD i 0<0:=fun h'=>absurd (h h') de
   have q2:¬0<a5s e z i x.src.toNat - z.getD i 0:=fun h'=>absurd (h2 h') de
   exact ⟨by grind,fun _=>by grind⟩
  ·rintro ⟨h,h2⟩;have h2:=h2 trivial;exact ⟨fun h'=>by grind,fun h'=>by grind⟩
 |false=>
  simp only [a7N,if_false];constructor
  ·rintro ⟨h,h2⟩;have q1:¬a5s e z i x.src.toNat - z.getD i 0<0:=fun h'=>absurd (h h') de
   exact ⟨by grind,fun h=>(by cases h)⟩
  ·rintro ⟨h,_⟩;exact ⟨fun h'=>by grind,fun _=>trivial⟩
theorem move_holds {t:k8} {kind:Int} (h0:I1 t.ev=0) {i:Nat} {x:C6} (hx:t.ev.moves[i]? =some x) {z:List Rat} (hz:0<=z.getD i 0):
 (N2 t kind i x).all (fun w=>a0j w z)=true↔bH8 t.ev x (z.getD i 0) (a5s t.ev z i x.src.toNat)/\b9U t kind i x (z.getD i 0):=by
 have hmo:=R9 h0 (lbm hx);unfold N2;simp only [a0n,lbN,List.all_map];have e1:(if N9 t.ev x.src=0 then ([]:List C5) else [C2 t.ev i x]).all (fun w=>a0j w z)=true↔(N9 t.ev x.src≠0->z.getD i 0<=a5s t.ev z i x.src.toNat/\(x.all=true->z.getD i 0=a5s t.ev z i x.src.toNat)):=by
  by_cases hb:N9 t.ev x.src=0
  ·rw [iA hb];exact ⟨fun _ h=>absurd hb h,fun _=>rfl⟩
  ·rw [iB hb];simp only [aO7,List.all_nil,Bool.and_true];rw [stock_holds h0 hx];exact ⟨fun h _=>h,fun h=>h hb⟩
 have e2:(a0a (Q3 t.ev x) i).all (fun w=>a0j w z)=true↔bB1 (Q3 t.ev x) (z.getD i 0)=true:=by
  cases hiv:Q3 t.ev x with
  |none=>exact ⟨fun _=>rfl,fun _=>rfl⟩
  |some p=>
   obtain ⟨lo,hi⟩:=p;simp only [a0a,bB1,aO7,List.all_nil,Bool.and_true,lbI];exact b6C
 have e3:(y3 t.finds kind i).all ((fun w=>a0j w z) ∘ fun g:Int=>E1 i 0 (g:Rat))=true↔∀g ∈ y3 t.finds kind i,(g:Rat)<=z.getD i 0:=by
  rw [lbv];exact ⟨fun h g hg=>aJ9.1 (h g hg),fun h g hg=>aJ9.2 (h g hg)⟩
 have e4:(List.replicate (E5 t.cleans kind i) (E1 i 2 ((0:Int):Rat))).all (fun w=>a0j w z)=true↔(0<E5 t.cleans kind i->z.getD i 0=0):=by
  rw [lbv];constructor
  ·intro h hc;exact a48.1 (h _ (a8Z.2 ⟨om,rfl⟩))
  ·intro h w hw;obtain ⟨h1,rfl⟩:=a8Z.1 hw;exact a48.2 (h om)
 rw [e1,e2,e3,e4];constructor
 ·rintro ⟨⟨⟨q1,q2⟩,q3⟩,q4⟩;exact ⟨⟨hz,fun h=>(q1 h).1,fun h=>(q1 (b2L hmo h)).2 h⟩,⟨q2,q3,q4⟩⟩
 ·rintro ⟨p1,p2⟩;exact ⟨⟨⟨fun h=>⟨p1.most h,p1.all⟩,p2.cap⟩,p2.fin⟩,p2.cln⟩
def a06 {t:k8} {kind:Int} {q:C5->Bool}:∀n,n<=t.ev.moves.length->((v7 t kind n).all q=true↔∀i x,i<n->t.ev.moves[i]? =some x->(N2 t kind i x).all q=true)
 |0,_=>⟨fun _ i x h=>om,fun _=>rfl⟩
 |n+1,h=>by
  obtain ⟨y,hy⟩:∃y,t.ev.moves[n]? =some y:=⟨_,lbf om⟩;unfold v7;rw [hy];simp only [a0n,lbN];rw [a06 n om];constructor
  ·rintro ⟨h1,h2⟩ i x hi hx;rcases H6 i n with h3|h3
   ·exact h1 i x h3 hx
   ·obtain rfl:i=n:=by omega
    rw [hy] at hx;injection hx with hx;subst hx;exact h2
  ·intro h1;exact ⟨fun i x hi hx=>h1 i x om hx,h1 n y om hy⟩
def a5k {last n i:Int} {c:Rat} (h1:last<i) (h2:i<n) (h3:c≠0):n7 last n [(i,c)]=true:=by
 unfold n7;simp [h1,h2,h3,n7]
def a6D {n:Int} {c:Rat} {i:Int} (h2:i<n) (h3:c≠0):∀{l:List (Int × Rat)} {last:Int},n7 last n l=true->last<i->(∀ t ∈ l,t.1<i)->n7 last n (l++[(i,c)])=true
 |[],last,_,h,_=>a5k h h2 h3
 |t::r,last,h,h1,ht=>by
  unfold n7 at h;simp only [lbN,lbI] at h;show n7 last n (t::(r++[(i,c)]))=true;unfold n7;simp only [lbN,lbI];exact ⟨h.1,a6D h2 h3 h.2 (ht t zq) fun u hu=>ht u (by simp [hu])⟩
def a5G:((1:Int):Rat)≠0:=by decide
def ag2:((-1:Int):Rat)≠0:=by decide
def a7V {e:Ev} {p:Int} {n:Int}:∀k:Nat,(k:Int)<=n->n7 (-1) n (s7 e p k)=true/\∀t ∈ s7 e p k,t.1<(k:Int)
 |0,_=>⟨rfl,fun t ht=>by cases ht⟩
 |k+1,h=>by
  obtain ⟨h1,h2⟩:=a7V (e:=e) (p:=p) (n:=n) k om;have h3:∀c:Rat,c≠0->n7 (-1) n (s7 e p k++[((k:Int),c)])=true/\∀t ∈ s7 e p k++[((k:Int),c)],t.1<((k+1:Nat):Int):=fun c hc=>
   ⟨a6D om hc h1 om h2,fun t ht=>by
     rcases lbz.1 ht with ht|ht
     ·have:=h2 t ht;omega
     ·simp at ht;subst ht;simp;omega⟩
  unfold s7;cases hx:e.moves[k]? with
  |none=>exact ⟨h1,fun t ht=>by have:=h2 t ht;omega⟩
  |some y=>
   simp only;split
   ·exact h3 _ a5G
   ·split
    ·exact h3 _ ag2
    ·exact ⟨h1,fun t ht=>by have:=h2 t ht;omega⟩
def b2e {t:k8} {kind:Int} {i:Nat} {x:C6} {n:Int} (hi:(i:Int)<n):(N2 t kind i x).all (A6 n)=true:=by
 have ho:∀(k:Int) (v:Rat),0<=k->k<3->A6 n (E1 i k v)=true:=fun k v h1 h2=>by
  unfold A6 E1;simp only [lbN,lbI];exact ⟨⟨a5k om hi a5G,h1⟩,h2⟩
 unfold N2;simp only [a0n,lbN,lbv];refine ⟨⟨⟨fun w hw=>?_,fun w hw=>?_⟩,fun w hw=>?_⟩,fun w hw=>?_⟩
 ·by_cases hb:N9 t.ev x.src=0
  ·rw [iA hb] at hw;cases hw
  ·rw [iB hb] at hw;simp at hw;subst hw;obtain ⟨h1,h2⟩:=a7V (e:=t.ev) (p:=x.src) (n:=n) i om;unfold A6 C2;simp only [lbN,lbI];refine ⟨⟨a6D hi ag2 h1 om h2,?_⟩,?_⟩<;>split<;>decide
 ·cases hiv:Q3 t.ev x with
  |none=>rw [hiv] at hw;cases hw
  |some p=>
   obtain ⟨lo,hi⟩:=p;rw [hiv] at hw;simp [a0a] at hw;subst hw;exact ho 1 hi de de
 ·obtain ⟨g,_,rfl⟩:=lbx.1 hw;exact ho 0 _ de de
 ·obtain ⟨_,rfl⟩:=a8Z.1 hw;exact ho 2 _ de de
def aX3 {t:k8} {kind:Int} {i:Nat} {x:C6}:(N2 t kind i x).length<=2+t.finds.length+t.cleans.length:=by
 unfold N2;have h1:(a0a (Q3 t.ev x) i).length<=1:=by unfold a0a;split<;>simp
 have h2:(y3 t.finds kind i).length<=t.finds.length:=by unfold y3;rw [lbr];exact lbt _ _
 have h3:E5 t.cleans kind i<=t.cleans.length:=lbt _ _;have h4:(if N9 t.ev x.src=0 then ([]:List C5) else [C2 t.ev i x]).length<=1:=by split<;>simp
 simp only [lbq,lbr,aP8];omega
def O1 {t:k8} {kind:Int}:∀n,(v7 t kind n).length<=n*(2+t.finds.length+t.cleans.length)
 |0=>by simp [v7]
 |n+1=>by
  have ih:=O1 (t:=t) (kind:=kind) n;unfold v7;rw [lbV];cases hx:t.ev.moves[n]? with
  |none=>simp only;omega
  |some x=>
   have:=aX3 (t:=t) (kind:=kind) (i:=n) (x:=x);simp only [lbq];omega
def a2A {t:k8} {kind:Int} (hm:t.ev.moves.length<=14) (hf:t.finds.length<=20) (hc:t.cleans.length<=50):q9 (p6 t kind)=true:=by
 unfold q9 p6;have h1:=O1 (t:=t) (kind:=kind) t.ev.moves.length;have h2:t.ev.moves.length*(2+t.finds.length+t.cleans.length)<=14*72:=lbT hm om;simp only [lbN,lbI];refine ⟨⟨⟨om,om⟩,om⟩,?_⟩;rw [a06 _ (lbR _)];intro i x hi hx;exact b2e om
theorem sys_holds {t:k8} {kind:Int} {z:List Rat} (ht:t9 t=0) (k0:0<=kind) (k1:kind<8) (hm:t.ev.moves.length<=14):k6 (p6 t kind) z=true↔bI5 t kind z:=by
 obtain ⟨q1,q2,q3,q4,q5⟩:=F3 ht;unfold k6;rw [a2A hm q2 q3];simp only [K9,lbN,lbI];constructor
 ·rintro ⟨⟨h1,h2⟩,h3⟩;have hl:z.length=t.ev.moves.length:=by have:(z.length:Int)=t.ev.moves.length:=h1;omega
  refine ⟨ht,k0,k1,hl,fun i x hx=>?_⟩;have hi:i<t.ev.moves.length:=(lbe.1 hx).1;have hz:0<=z.getD i 0:=lbL (lbv.1 h2 _ (lbm (getD_some om)));exact (move_holds q1 hx hz).1 ((a06 _ (lbR _)).1 h3 i x hi hx)
 ·intro h;refine ⟨⟨?_,?_⟩,?_⟩
  ·show (z.length:Int)=t.ev.moves.length;rw [h.len]
  ·rw [lbv];intro v hv;obtain ⟨i,hi,rfl⟩:=a0r hv;obtain ⟨x,hx⟩:∃x,t.ev.moves[i]? =some x:=⟨_,lbf (by rw [← h.len];exact hi)⟩;have:=(h.step i x hx).1.pos;rw [lbl,lbf hi] at this;exact lbH this
  ·show (v7 t kind t.ev.moves.length).all _=true;rw [a06 _ (lbR _)];intro i x hi hx;obtain ⟨a,b⟩:=h.step i x hx;exact (move_holds q1 hx a.pos).2 ⟨a,b⟩
def S1 (l:List (Int × Rat)):Nat->Nat->Rat
 |0=>fun _=>0
 |k+1=>match l[k]? with
  |none=>S1 l k
  |some t=>fun j=>if j=t.1.toNat then t.2 else S1 l k j
def L7 (l:List (Int × Rat)):Nat->Rat:=S1 l l.length
def Q0 {l:List (Int × Rat)} {k:Nat} {t:Int × Rat} (h:l[k]? =some t):S1 l (k+1)=fun j=>if j=t.1.toNat then t.2 else S1 l k j:=by rw [S1,h]
def ad3 {l:List (Int × Rat)} {v:Nat}:∀k,(∀ i t,i<k->l[i]? =some t->t.1.toNat≠v)->S1 l k v=0
 |0,_=>rfl
 |k+1,h=>by
  have ih:=ad3 (l:=l) (v:=v) k fun i t hi ht=>h i t om ht
  cases hk:l[k]? with
  |none=>rw [S1,hk];exact ih
  |some t=>
   rw [Q0 hk];simp only;rw [iB (fun e=>h k t om hk e.symm),ih]
def L0:∀{last n:Int} {l:List (Int × Rat)},n7 last n l=true->∀t ∈ l,last<t.1/\t.1<n/\t.2≠0
 |_,_,[],_,t,ht=>by cases ht
 |last,n,a::r,h,t,ht=>by
  unfold n7 at h;simp only [lbN,lbI] at h;rcases lbA.1 ht with rfl|ht
  ·exact ⟨h.1.1.1,h.1.1.2,h.1.2⟩
  ·have:=L0 h.2 t ht;exact ⟨om,this.2⟩
def a8A:∀{last n:Int} {l:List (Int × Rat)},n7 last n l=true->∀(i j:Nat) (t u:Int × Rat),i<j->l[i]? =some t->l[j]? =some u->t.1<u.1
 |_,_,[],_,i,j,t,u,_,ht,_=>by simp at ht
 |last,n,a::r,h,i,j,t,u,hij,ht,hu=>by
  unfold n7 at h;simp only [lbN,lbI] at h;cases j with
  |zero=>omega
  |succ j=>
   simp only [List.getElem?_cons_succ] at hu;cases i with
   |zero=>
    simp only [List.getElem?_cons_zero] at ht;injection ht with ht;subst ht
    exact (L0 h.2 u (lbm hu)).1
   |succ i=>
    simp only [List.getElem?_cons_succ] at ht;exact a8A h.2 i j t u om ht hu
def K7 {α:Type} {l:List α} {k:Nat} {x:α} (h:l[k]? =some x):l.take (k+1)=l.take k++[x]:=by rw [lbG,h];rfl
def b1j {n:Nat} {l:List (Int × Rat)} (h:n7 (-1) (n:Int) l=true) (z:List Rat):∀k,k<=l.length->n8 (l.take k) z=p5 (fun j=>S1 l k j*z.getD j 0) n
 |0,_=>by
  rw [a81,D5 fun j hj=>by show (0:Rat)*_=0;grind]
  rfl
 |k+1,hk=>by
  have ih:=b1j h z k om;obtain ⟨t,ht⟩:∃t,l[k]? =some t:=⟨_,lbf om⟩;have hm:=L0 h t (lbm ht);have hv:t.1.toNat<n:=om;have h0:S1 l k t.1.toNat=0:=ad3 k fun i u hi hu=>by
   have:=a8A h i k u t hi hu ht;have h2:=L0 h u (lbm hu);omega
  rw [K7 ht,K8,ih,Q0 ht];rw [H4 (f:=fun j=>(if j=t.1.toNat then t.2 else S1 l k j)*z.getD j 0) hv,H4 (f:=fun j=>S1 l k j*z.getD j 0) hv];simp only [if_true,h0];rw [p4 (f:=fun j=>if j=t.1.toNat then 0 else (if j=t.1.toNat then t.2 else S1 l k j)*z.getD j 0) (g:=fun j=>if j=t.1.toNat then 0 else S1 l k j*z.getD j 0) fun j hj=>by
   by_cases hj:j=t.1.toNat
   ·rw [iA hj,iA hj]
   ·rw [iB hj,iB hj,iB hj]]
  grind
def Z4 {n:Nat} {l:List (Int × Rat)} (h:n7 (-1) (n:Int) l=true) (z:List Rat):n8 l z=p5 (fun j=>L7 l j*z.getD j 0) n:=by
 have:=b1j h z l.length (lbR _);rw [W6] at this;exact this
def J4 (s:m8):Nat->LB
 |0=>[]
 |k+1=>match s.rows[k]? with
  |none=>J4 s k
  |some w=>J4 s k++(if w.kind≠0 then [(k,false)] else [])++(if w.kind≠1 then [(k,true)] else [])
def j0 (s:m8):LB:=J4 s s.rows.length
def Y1 (b:Bool) (x:Rat):Rat:=if b then -x else x
def a3I (s:m8) (f:Nat × Bool):Rat:=match s.rows[f.1]? with
 |none=>0
 |some w=>Y1 f.2 w.value
def a3u (s:m8) (f:Nat × Bool) (j:Nat):Rat:=match s.rows[f.1]? with
 |none=>0
 |some w=>Y1 f.2 (L7 w.terms j)
def k9 (s:m8) (g:List (Int × Rat)):Fd where
 V:=fun i=>a3I s ((j0 s).getD i (0,false))
 A:=fun i j=>a3u s ((j0 s).getD i (0,false)) j
 G:=fun j=>-(L7 g j)
 O:=fun i=>s.n.toNat+i
 F:=fun j=>j
def aJ1 {s:m8} {f:Nat × Bool}:∀k,f ∈ J4 s k↔f.1<k/\∃w,s.rows[f.1]? =some w/\(f.2=false->w.kind≠0)/\(f.2=true->w.kind≠1)
 |0=>by simp [J4]
 |k+1=>by
  have ih:=aJ1 (s:=s) (f:=f) k;unfold J4;cases hw:s.rows[k]? with
  |none=>
   simp only;rw [ih];constructor
   ·rintro ⟨h1,h2⟩;exact ⟨om,h2⟩
   ·rintro ⟨h1,w,h2,h3⟩;refine ⟨?_,w,h2,h3⟩;by_cases he:f.1=k
    ·rw [he,hw] at h2;cases h2
    ·omega
  |some w=>
   simp only;rw [lbz,lbz,ih];obtain ⟨a,b⟩:=f;simp only;constructor
   ·rintro ((⟨h1,h2⟩|h)|h)
    ·exact ⟨om,h2⟩
    ·split at h
     ·rename_i hk;simp at h;obtain ⟨rfl,rfl⟩:=h;exact ⟨om,w,hw,fun _=>hk,fun h=>by cases h⟩
     ·simp at h
    ·split at h
     ·rename_i hk;simp at h;obtain ⟨rfl,rfl⟩:=h;exact ⟨om,w,hw,fun h=>(by cases h),fun _=>hk⟩
     ·simp at h
   ·rintro ⟨h1,w',h2,h3,h4⟩;by_cases he:a=k
    ·subst he;rw [hw] at h2;injection h2 with h2;subst h2
     cases b with
     |false=>rw [iA (h3 rfl)];simp
     |true=>rw [iA (h4 rfl)];simp
    ·exact .inl (.inl ⟨om,w',h2,h3,h4⟩)
def X5 {s:m8} {f:Nat × Bool}:f ∈ j0 s↔∃w,s.rows[f.1]? =some w/\(f.2=false->w.kind≠0)/\(f.2=true->w.kind≠1):=by
 unfold j0;rw [aJ1];constructor
 ·rintro ⟨_,h⟩;exact h
 ·rintro ⟨w,h⟩;exact ⟨(lbe.1 h.1).1,w,h⟩
def b2D {s:m8} {g:List (Int × Rat)}:Z0 (j0 s).length s.n.toNat (k9 s g) where
 oi:=fun i i' _ _ h=>by have:s.n.toNat+i=s.n.toNat+i':=h;omega
 fi:=fun j j' _ _ h=>h
 of:=fun i j _ hj h=>by have:s.n.toNat+i=j:=h;omega
 all:=fun w hw=>by
  by_cases h:w<s.n.toNat
  ·exact .inr ⟨w,h,rfl⟩
  ·exact .inl ⟨w - s.n.toNat,om,by show s.n.toNat+(w - s.n.toNat)=w;omega⟩
 ob:=fun i hi=>by show s.n.toNat+i<_;omega
 fb:=fun j hj=>by show j<_;omega
def b1R {s:m8} {g:List (Int × Rat)}:a14 s.n.toNat (k9 s g) (fun j=>-(L7 g j)) (j0 s).length 0:=by
 intro y c _;have:c*(0:Rat)=0:=zg;rw [this];have e:p5 (fun j=>(k9 s g).G j*y ((k9 s g).F j)) s.n.toNat=p5 (fun j=>-(L7 g j)*y j) s.n.toNat:=rfl;rw [e];grind
def a88 (s:m8) (g:List (Int × Rat)) (z:List Rat) (w:Nat):Rat:=if w<s.n.toNat then z.getD w 0 else (k9 s g).V (w - s.n.toNat) - p5 (fun j=>(k9 s g).A (w - s.n.toNat) j*z.getD j 0) s.n.toNat
def b58 {s:m8} {g:List (Int × Rat)} (z:List Rat):Ids (j0 s).length s.n.toNat (k9 s g) (a88 s g z) 1:=by
 intro i hi;show a88 s g z (s.n.toNat+i)=_;unfold a88;rw [iB om,show s.n.toNat+i - s.n.toNat=i by omega];have:(1:Rat)*(k9 s g).V i=(k9 s g).V i:=zg;rw [this]
 congr 1
 refine p4 fun j hj=>?_
 show _=(k9 s g).A i j*(if j<s.n.toNat then z.getD j 0 else _);rw [iA hj]
def aL0 {s:m8} {g:List (Int × Rat)} (hr:q9 s=true) {z:List Rat} {i:Nat} {f:Nat × Bool} {w:C5} (hf:(j0 s)[i]? =some f) (hw:s.rows[f.1]? =some w):a88 s g z (s.n.toNat+i)=Y1 f.2 (w.value - n8 w.terms z):=by
 unfold a88;rw [iB om,show s.n.toNat+i - s.n.toNat=i by omega];have hfd:(j0 s).getD i (0,false)=f:=by rw [lbl,hf];rfl
 show a3I s ((j0 s).getD i (0,false)) - p5 (fun j=>a3u s ((j0 s).getD i (0,false)) j*z.getD j 0) s.n.toNat=_;rw [hfd];have hrow:A6 s.n w=true:=by
  unfold q9 at hr;simp only [lbN,lbI,lbv] at hr;exact hr.2 w (lbm hw)
 have hn:(s.n.toNat:Int)=s.n:=by
  unfold q9 at hr;simp only [lbN,lbI] at hr;omega
 unfold A6 at hrow;simp only [lbN,lbI] at hrow;have hrt:=hrow.1.1;rw [← hn] at hrt;have e1:a3I s f=Y1 f.2 w.value:=by unfold a3I;rw [hw]
 have e2:∀j,a3u s f j=Y1 f.2 (L7 w.terms j):=fun j=>by unfold a3u;rw [hw]
 rw [e1,Z4 hrt z];cases hb:f.2 with
 |false=>
  rw [p4 (g:=fun j=>L7 w.terms j*z.getD j 0) fun j hj=>by rw [e2 j,hb];rfl]
  rfl
 |true=>
  rw [p4 (g:=fun j=>(-1:Rat)*(L7 w.terms j*z.getD j 0)) fun j hj=>by rw [e2 j,hb];show -(L7 w.terms j)*_=_;grind,K0];show -w.value - _=-(w.value - _);grind
theorem first_holds {s:m8} {g:List (Int × Rat)} (hr:q9 s=true) {z:List Rat} (hl:(z.length:Int)=s.n):k6 s z=true↔b6d (j0 s).length s.n.toNat (a88 s g z):=by
 have hn:z.length=s.n.toNat:=om;unfold k6;rw [hr,lbH hl];simp only [K9,lbN,lbv,lbI];constructor
 ·rintro ⟨h1,h2⟩ w hw;by_cases hv:w<s.n.toNat
  ·unfold a88;rw [iA hv,lbl,lbf om];exact h1 _ (lbE _)
  ·obtain ⟨i,rfl⟩:∃i,w=s.n.toNat+i:=⟨w - s.n.toNat,om⟩;have hi:i<(j0 s).length:=om;obtain ⟨f,hf⟩:∃f,(j0 s)[i]? =some f:=⟨_,lbf hi⟩;obtain ⟨x,hx,hk1,hk2⟩:=X5.1 (lbm hf);rw [aL0 hr hf hx];have hb:=h2 x (lbm hx);unfold a0j at hb;simp only [a6P,a2f,lbP,lbK] at hb;cases hfb:f.2 with
   |false=>
    have:=hk1 hfb;show 0<=x.value - n8 x.terms z;rcases hb.2 with h|h
    ·grind
    ·exact absurd this h
   |true=>
    have:=hk2 hfb;show 0<=-(x.value - n8 x.terms z);rcases hb.1 with h|h
    ·grind
    ·exact absurd this h
 ·intro hp;refine ⟨fun v hv=>?_,fun x hx=>?_⟩
  ·obtain ⟨j,hj,rfl⟩:=a0r hv;have:=hp j om;unfold a88 at this;rw [iA om,lbl,lbf hj] at this;exact this
  ·obtain ⟨k,hk,hkx⟩:=a0r hx;have hxk:s.rows[k]? =some x:=by rw [lbf hk,hkx]
   have side:∀b:Bool,(b=false->x.kind≠0)->(b=true->x.kind≠1)->0<=Y1 b (x.value - n8 x.terms z):=by
    intro b h1 h2;have hm:((k,b):Nat × Bool) ∈ j0 s:=X5.2 ⟨x,hxk,h1,h2⟩;obtain ⟨i,hi,hif⟩:=a0r hm;have hf:(j0 s)[i]? =some (k,b):=by rw [lbf hi,hif]
    have:=hp (s.n.toNat+i) om;rw [aL0 hr hf hxk] at this;exact this
   unfold a0j;simp only [a6P,a2f,lbP,lbK];constructor
   ·by_cases h:x.kind≠1
    ·left
     have:=side true (fun h=>by cases h) (fun _=>h);have h2:0<=-(x.value - n8 x.terms z):=this;grind
    ·right;exact h
   ·by_cases h:x.kind≠0
    ·left
     have:=side false (fun _=>h) (fun h=>by cases h);have h2:0<=x.value - n8 x.terms z:=this;grind
    ·right;exact h
def aj9 (x:Rat):((x.den:Int):Rat)*x=((x.num:Int):Rat):=by
 have hq:((x.den:Int):Rat)≠0:=by
  intro h;have:(x.den:Int)=0:=by exact_mod_cast h
  have:=x.den_pos;omega
 have h1:x=((x.num:Int):Rat) / ((x.den:Int):Rat):=by rw [← a80,Rat.num_divInt_den]
 have h2:((x.den:Int):Rat)*(((x.num:Int):Rat) / ((x.den:Int):Rat))=((x.num:Int):Rat):=by
  rw [ad8,ap3,a9X,Rat.inv_mul_cancel _ hq,Rat.mul_one]
 rw [← h1] at h2;exact h2
def b5r (B:Nat) (w:C5):Prop:=(∀ t ∈ w.terms,∃c:Int,t.2=((c:Int):Rat)/\bl c<=1)/\rl w.value<=B
def a2Z {l:List (Int × Rat)} (h:∀t ∈ l,∃c:Int,t.2=((c:Int):Rat)/\bl c<=1):∀(k j:Nat),∃c:Int,S1 l k j=((c:Int):Rat)/\bl c<=1
 |0,j=>⟨0,rfl,w5 de de⟩
 |k+1,j=>by
  cases hk:l[k]? with
  |none=>rw [S1,hk];exact a2Z h k j
  |some t=>
   rw [Q0 hk];simp only;split
   ·exact h t (lbm hk)
   ·exact a2Z h k j
def bq8 {b:Bool} {x:Rat} {c:Int} (h:x=((c:Int):Rat)):∃c':Int,Y1 b x=((c':Int):Rat)/\bl c'=bl c:=by
 cases b with
 |false=>exact ⟨c,h,rfl⟩
 |true=>exact ⟨-c,by show -x=_;rw [h];push_cast;rfl,a7k c⟩
def b5U {s:m8} {g:List (Int × Rat)} {B:Nat} (hI:∀w ∈ s.rows,b5r B w):a9H (j0 s).length s.n.toNat (B+2) (k9 s g) where
 o:=fun i _=>rfl
 f:=fun j _=>rfl
 w:=fun i hi=>by
  obtain ⟨f,hf⟩:∃f,(j0 s)[i]? =some f:=⟨_,lbf hi⟩;obtain ⟨x,hx,_⟩:=X5.1 (lbm hf);obtain ⟨h1,h2⟩:=hI x (lbm hx);have hfd:(j0 s).getD i (0,false)=f:=by rw [lbl,hf];rfl
  have eV:(k9 s g).V i=Y1 f.2 x.value:=by show a3I s ((j0 s).getD i (0,false))=_;rw [hfd];unfold a3I;rw [hx]
  have eA:∀j,(k9 s g).A i j=Y1 f.2 (L7 x.terms j):=fun j=>by show a3u s ((j0 s).getD i (0,false)) j=_;rw [hfd];unfold a3u;rw [hx]
  have hc:∀j,∃c:Int,(k9 s g).A i j=((c:Int):Rat)/\bl c<=1:=fun j=>by
   obtain ⟨c,hc,hb⟩:=a2Z h1 x.terms.length j;obtain ⟨c',hc',hb'⟩:=bq8 (b:=f.2) (x:=L7 x.terms j) hc;exact ⟨c',by rw [eA,hc'],om⟩
  refine ⟨(x.value.den:Int),if f.2 then -x.value.num else x.value.num,fun j=>(x.value.den:Int)*Classical.choose (hc j),?_,?_,?_,fun j hj=>?_,?_,fun j hj=>?_⟩
  ·have:=x.value.den_pos;omega
  ·have:=J9 x.value;omega
  ·have:=K6 x.value;split
   ·rw [a7k];omega
   ·omega
  ·have hb:=(a8f (hc j)).2;have h3:=I2 (x.value.den:Int) (Classical.choose (hc j));have h4:=J9 x.value;have e5:bl ((x.value.den:Int)*Classical.choose (hc j))<=B+2:=om;exact e5
  ·rw [eV];cases hb:f.2 with
   |false=>exact aj9 x.value
   |true=>
    show _*(-x.value)=((-x.value.num:Int):Rat);have:=aj9 x.value;have e:((-x.value.num:Int):Rat)=-((x.value.num:Int):Rat):=by push_cast;rfl
    rw [e,←this];grind
  ·have hs:=(a8f (hc j)).1;conv=>lhs;rw [hs]
   push_cast;rfl
instance:Inhabited Fd:=⟨⟨fun _=>0,fun _ _=>0,fun _=>0,fun _=>0,fun _=>0⟩⟩
structure a5b (m n:Nat) (D0:Fd) (g0:Nat->Rat) (D:Fd):Prop where
 p:Z0 m n D
 i:∀y c,Ids m n D0 y c↔Ids m n D y c
 g:∃z,a14 n D g0 m z
def b9p {m n r s:Nat} {D0 D:Fd} {g0:Nat->Rat} (h:a5b m n D0 g0 D) (hs:B4 m n D=.next r s):a5b m n D0 g0 (D.exch r s):=by
 obtain ⟨hr,hsn,hb⟩:=a4t hs;have hp:=a55 hb;obtain ⟨z,hz⟩:=h.g;exact ⟨aG3 hr hsn h.p,fun y c=>(h.i y c).trans (as1 hr hsn hp),_,aJ0 hr hsn hp hz⟩
def O8 (m n:Nat) (D0 D:Fd):Prop:=∃k,itS m n k D0=some D
def a8e {m n:Nat} {D0:Fd}:O8 m n D0 D0:=⟨0,rfl⟩
def a5g {m n:Nat} {D0 D D':Fd} (h:O8 m n D0 D) (hn:G7 m n D=some D'):O8 m n D0 D':=by
 obtain ⟨k,hk⟩:=h;exact ⟨k+1,by rw [a1d,hk];exact hn⟩
def a0c {m n:Nat} {D0:Fd} {g0:Nat->Rat} (h0:a5b m n D0 g0 D0):∀{k:Nat} {D:Fd},itS m n k D0=some D->a5b m n D0 g0 D
 |0,D,h=>by injection h with h;subst h;exact h0
 |k+1,D,h=>by
  rw [a1d] at h;cases hk:itS m n k D0 with
  |none=>rw [hk] at h;cases h
  |some D1=>
   rw [hk] at h;have h:G7 m n D1=some D:=h;obtain ⟨r,s,hs,rfl⟩:=a8o h;exact b9p (a0c h0 hk) hs
def ar7 {m n:Nat} {D0:Fd} {k:Nat} (h:itS m n k D0=none):∀j,itS m n (k+j) D0=none
 |0=>h
 |j+1=>by rw [show k+(j+1)=(k+j)+1 by omega,a1d,ar7 h j];rfl
def b2Y {m n:Nat} {D0 D D':Fd} (h:O8 m n D0 D) (hn:G7 m n D=none) (h':O8 m n D0 D') (hn':G7 m n D'=none):D=D':=by
 obtain ⟨k,hk⟩:=h;obtain ⟨l,hl⟩:=h';have a1:itS m n (k+1) D0=none:=by rw [a1d,hk];exact hn
 have a2:itS m n (l+1) D0=none:=by rw [a1d,hl];exact hn'
 have hkl:k=l:=by
  rcases aV8 k l with h|h|h
  ·have:=ar7 a1 (l - (k+1));rw [show k+1+(l - (k+1))=l by omega,hl] at this;cases this
  ·exact h
  ·have:=ar7 a2 (k - (l+1));rw [show l+1+(k - (l+1))=k by omega,hk] at this;cases this
 subst hkl;rw [hk] at hl;injection hl
def bC3 {m n:Nat} {D0:Fd} {g0:Nat->Rat} (h0:a5b m n D0 g0 D0):∃D,O8 m n D0 D/\G7 m n D=none:=by
 obtain ⟨k,hk,hmin⟩:=a4Y (fun k=>itS m n k D0=none) (b8N h0.p h0.g);cases k with
 |zero=>cases hk
 |succ k=>
  cases hk':itS m n k D0 with
  |none=>have:=hmin k hk';omega
  |some D=>
   rw [a1d,hk'] at hk;exact ⟨D,⟨k,hk'⟩,hk⟩
noncomputable def a4J (m n:Nat) (D0:Fd):Fd:=Classical.epsilon fun D=>O8 m n D0 D/\G7 m n D=none
def a3o {m n:Nat} {D0:Fd} {g0:Nat->Rat} (h0:a5b m n D0 g0 D0):O8 m n D0 (a4J m n D0)/\G7 m n (a4J m n D0)=none:=aV2 (bC3 h0)
def b88 {m n:Nat} {D0 D:Fd} {g0:Nat->Rat} (h0:a5b m n D0 g0 D0) (h:O8 m n D0 D) (hn:G7 m n D=none):D=a4J m n D0:=b2Y h hn (a3o h0).1 (a3o h0).2
def br1 {m n:Nat} {D0:Fd} {g0:Nat->Rat} (h0:a5b m n D0 g0 D0):a5b m n D0 g0 (a4J m n D0):=by
 obtain ⟨k,hk⟩:=(a3o h0).1;exact a0c h0 hk
def b5H {m n:Nat} {D:Fd} (h:B4 m n D=.best):(∀ i,i<m->0<=D.V i)/\∀j,j<n->D.G j<=0:=by
 unfold B4 at h;split at h
 ·rename_i h1 h2;refine ⟨fun i hi=>?_,fun j hj=>?_⟩
  ·have:=a23 h1 i hi;simp at this;grind
  ·have:=a23 h2 j hj;simp at this;grind
 ·unfold Y6 at h;split at h<;>cases h
 ·unfold Y8 at h;split at h<;>cases h
 ·split at h
  ·unfold Y6 at h;split at h<;>cases h
  ·unfold Y8 at h;split at h<;>cases h
def aM2 {n r r':Nat} {D:Fd} (h:Y6 n D r=.row r'):r'=r/\∀j,j<n->0<=D.A r j:=by
 unfold Y6 at h;split at h
 ·rename_i h1;injection h with h;exact ⟨h.symm,fun j hj=>by have:=a23 h1 j hj;simp at this;grind⟩
 ·cases h
def aG8 {m s s':Nat} {D:Fd} (h:Y8 m D s=.col s'):s'=s/\∀i,i<m->D.A i s<=0:=by
 unfold Y8 at h;split at h
 ·rename_i h1;injection h with h;exact ⟨h.symm,fun i hi=>by have:=a23 h1 i hi;simp at this;grind⟩
 ·cases h
def a9G {m n r:Nat} {D:Fd} (h:B4 m n D=.row r):r<m/\D.V r<0/\∀j,j<n->0<=D.A r j:=by
 unfold B4 at h;split at h
 ·cases h
 ·rename_i r0 h1 h2;obtain ⟨rfl,h4⟩:=aM2 h;have h3:=G1 h1;exact ⟨h3.1,by simpa using h3.2.1,h4⟩
 ·unfold Y8 at h;split at h<;>cases h
 ·rename_i r0 s0 h1 h2;split at h
  ·obtain ⟨rfl,h4⟩:=aM2 h;have h3:=G1 h1;exact ⟨h3.1,by simpa using h3.2.1,h4⟩
  ·unfold Y8 at h;split at h<;>cases h
def a6V {m n s:Nat} {D:Fd} (h:B4 m n D=.col s):s<n/\0<D.G s/\∀i,i<m->D.A i s<=0:=by
 unfold B4 at h;split at h
 ·cases h
 ·unfold Y6 at h;split at h<;>cases h
 ·rename_i s0 h1 h2;obtain ⟨rfl,h4⟩:=aG8 h;have h3:=G1 h2;exact ⟨h3.1,by simpa using h3.2.1,h4⟩
 ·rename_i r0 s0 h1 h2;split at h
  ·unfold Y6 at h;split at h<;>cases h
  ·obtain ⟨rfl,h4⟩:=aG8 h;have h3:=G1 h2;exact ⟨h3.1,by simpa using h3.2.1,h4⟩
def b7T {m n:Nat} {D:Fd} (h:G7 m n D=none):B4 m n D=.best\/(∃ r,B4 m n D=.row r)\/∃s,B4 m n D=.col s:=by
 unfold G7 at h;cases hs:B4 m n D with
 |best=>exact .inl rfl
 |row r=>exact .inr (.inl ⟨r,rfl⟩)
 |col s=>exact .inr (.inr ⟨s,rfl⟩)
 |next r s=>rw [hs] at h;cases h
def zOf (n:Nat) (y:Nat->Rat):List Rat:=(List.range n).map y
def ak9 {n:Nat} {y:Nat->Rat}:(zOf n y).length=n:=by simp [zOf]
def aq3 {n:Nat} {y:Nat->Rat} {j:Nat} (h:j<n):(zOf n y).getD j 0=y j:=by simp [zOf,lbl,h]
def a9d {n:Nat} {y:Nat->Rat} {v:Rat} (h:v ∈ zOf n y):∃j,j<n/\v=y j:=by
 obtain ⟨j,hj,rfl⟩:=lbx.1 h;exact ⟨j,lbB.1 hj,rfl⟩
def b1K {n:Nat} {l:List (Int × Rat)} (h:n7 (-1) (n:Int) l=true) (y:Nat->Rat):n8 l (zOf n y)=p5 (fun j=>L7 l j*y j) n:=by
 rw [Z4 h];exact p4 fun j hj=>by rw [aq3 hj]
def V4 {s:m8} (hr:q9 s=true):((s.n.toNat:Nat):Int)=s.n:=by
 unfold q9 at hr;simp only [lbN,lbI] at hr;omega
def a1f {s:m8} (hr:q9 s=true) {i:Nat} {w:C5} (hw:s.rows[i]? =some w):n7 (-1) ((s.n.toNat:Nat):Int) w.terms=true/\0<=w.kind/\w.kind<3:=by
 rw [V4 hr];unfold q9 at hr;simp only [lbN,lbv] at hr;have:=hr.2 w (lbm hw);unfold A6 at this;simp only [lbN,lbI] at this;exact ⟨this.1.1,this.1.2,this.2⟩
def bi2 {s:m8} {g:List (Int × Rat)} (hr:q9 s=true) {y:Nat->Rat} {c:Rat} (hy:Ids (j0 s).length s.n.toNat (k9 s g) y c) {i k:Nat} {b:Bool} {w:C5}
 (hf:(j0 s)[i]? =some (k,b)) (hw:s.rows[k]? =some w):y (s.n.toNat+i)=Y1 b (c*w.value - n8 w.terms (zOf s.n.toNat y)):=by
 have hi:i<(j0 s).length:=(lbe.1 hf).1;have h1:y (s.n.toNat+i)=c*(k9 s g).V i - p5 (fun j=>(k9 s g).A i j*y j) s.n.toNat:=hy i hi;have hd:(j0 s).getD i (0,false)=(k,b):=by rw [lbl,hf];rfl
 have hV:(k9 s g).V i=Y1 b w.value:=by show a3I s ((j0 s).getD i (0,false))=_;rw [hd];unfold a3I;simp only [hw]
 have hA:∀j,(k9 s g).A i j=Y1 b (L7 w.terms j):=fun j=>by show a3u s ((j0 s).getD i (0,false)) j=_;rw [hd];unfold a3u;simp only [hw]
 rw [h1,hV,b1K (a1f hr hw).1];cases b with
 |false=>rw [p4 (g:=fun j=>L7 w.terms j*y j) fun j hj=>by rw [hA j];rfl];rfl
 |true=>
  rw [p4 (g:=fun j=>(-1:Rat)*(L7 w.terms j*y j)) fun j hj=>by rw [hA j];show -(L7 w.terms j)*_=_;grind,K0];show c*-w.value - _=-(c*w.value - _);grind
noncomputable def F5 (s:m8) (g:List (Int × Rat)):Fd:=a4J (j0 s).length s.n.toNat (k9 s g)
noncomputable def H9 (s:m8) (g:List (Int × Rat)):b8A:=B4 (j0 s).length s.n.toNat (F5 s g)
def U0 {s:m8} {g:List (Int × Rat)}:a5b (j0 s).length s.n.toNat (k9 s g) (fun j=>-(L7 g j)) (k9 s g):=⟨b2D,fun _ _=>Iff.rfl,0,b1R⟩
def U7 {s:m8} {g:List (Int × Rat)}:a5b (j0 s).length s.n.toNat (k9 s g) (fun j=>-(L7 g j)) (F5 s g):=br1 U0
def a4v (s:m8) (g:List (Int × Rat)):H9 s g=.best\/(∃ r,H9 s g=.row r)\/∃c,H9 s g=.col c:=b7T (a3o U0).2
noncomputable def s8 (s:m8) (g:List (Int × Rat)):List Rat:=zOf s.n.toNat (Q6 (j0 s).length s.n.toNat (F5 s g) 1 (fun _=>0))
noncomputable def a6p (s:m8) (g:List (Int × Rat)) (c:Nat):List Rat:=zOf s.n.toNat (Q6 (j0 s).length s.n.toNat (F5 s g) 0 (fun j=>if j=c then 1 else 0))
def b7k {s:m8} {g:List (Int × Rat)} {y:Nat->Rat} (hy:Ids (j0 s).length s.n.toNat (k9 s g) y 1):∀w,w<s.n.toNat+(j0 s).length->a88 s g (zOf s.n.toNat y) w=y w:=by
 intro w hw;unfold a88;split
 ·rename_i h;exact aq3 h
 ·have h1:y (s.n.toNat+(w - s.n.toNat))=1*(k9 s g).V (w - s.n.toNat) - p5 (fun j=>(k9 s g).A (w - s.n.toNat) j*y j) s.n.toNat:=hy (w - s.n.toNat) om;rw [show s.n.toNat+(w - s.n.toNat)=w by omega] at h1;rw [h1,p4 (g:=fun j=>(k9 s g).A (w - s.n.toNat) j*y j) fun j hj=>by rw [aq3 hj]];grind
def b5w {s:m8} {g:List (Int × Rat)} (hr:q9 s=true) {y:Nat->Rat} (hy:Ids (j0 s).length s.n.toNat (k9 s g) y 1) (hp:b6d (j0 s).length s.n.toNat y):k6 s (zOf s.n.toNat y)=true:=by
 refine (first_holds (g:=g) hr (by rw [ak9];exact V4 hr)).2 fun w hw=>?_
 rw [b7k hy w hw];exact hp w hw
def a0V {s:m8} {z:List Rat} (h:k6 s z=true):q9 s=true/\(z.length:Int)=s.n:=by
 unfold k6 at h;simp only [lbN,lbI] at h;exact ⟨h.1.1.1,h.1.1.2⟩
def b08 {s:m8} {g:List (Int × Rat)} (hg:n7 (-1) ((s.n.toNat:Nat):Int) g=true) (z:List Rat):p5 (fun j=>-(L7 g j)*a88 s g z j) s.n.toNat=-(n8 g z):=by
 rw [Z4 hg z,p4 (g:=fun j=>(-1:Rat)*(L7 g j*z.getD j 0)) fun j hj=>by
  have:a88 s g z j=z.getD j 0:=by unfold a88;rw [iA hj]
  rw [this];grind,K0]
 grind
def Z9 {s:m8} {g:List (Int × Rat)} (hr:q9 s=true) (hg:n7 (-1) ((s.n.toNat:Nat):Int) g=true) (h:H9 s g=.best):
 k6 s (s8 s g)=true/\∀z,k6 s z=true->n8 g (s8 s g)<=n8 g z:=by
 obtain ⟨hv,hgj⟩:=b5H h;have hi:=U7 (s:=s) (g:=g);obtain ⟨v,hv'⟩:=hi.g;obtain ⟨⟨y,h1,h2,h3,h4⟩,h5⟩:=b6T hi.p hv' hv hgj;have h1':=(hi.i y 1).2 h1;have e:s8 s g=zOf s.n.toNat y:=by unfold s8;rw [h4]
 rw [e];refine ⟨b5w hr h1' h2,fun z hz=>?_⟩;have hx:=h5 (a88 s g z) ((hi.i _ 1).1 (b58 z)) ((first_holds hr (a0V hz).2).1 hz);rw [b08 hg z] at hx;have h6:p5 (fun j=>-(L7 g j)*y j) s.n.toNat=-(n8 g (zOf s.n.toNat y)):=by
  rw [← b08 hg];exact p4 fun j hj=>by rw [b7k h1' j om]
 rw [h6] at h3;grind
def a5a {s:m8} {g:List (Int × Rat)} {r:Nat} (h:H9 s g=.row r):∀z,k6 s z=false:=by
 intro z;cases hz:k6 s z with
 |false=>rfl
 |true=>
  obtain ⟨hr1,hv,ha⟩:=a9G h;have hi:=U7 (s:=s) (g:=g);exact absurd ((first_holds (a0V hz).1 (a0V hz).2).1 hz) (bh3 hi.p hr1 hv ha (a88 s g z) ((hi.i _ 1).1 (b58 z)))
structure b9h (s:m8) (d:List Rat):Prop where
 len:d.length=s.n.toNat
 pos:∀v ∈ d,0<=v
 up:∀(k:Nat) (w:C5),s.rows[k]? =some w->w.kind≠0->n8 w.terms d<=0
 down:∀(k:Nat) (w:C5),s.rows[k]? =some w->w.kind≠1->0<=n8 w.terms d
def a77 {s:m8} {g:List (Int × Rat)} {c:Nat} (hr:q9 s=true) (hg:n7 (-1) ((s.n.toNat:Nat):Int) g=true) (h:H9 s g=.col c):b9h s (a6p s g c)/\n8 g (a6p s g c)<0:=by
 obtain ⟨hc,hgc,ha⟩:=a6V h;have hi:=U7 (s:=s) (g:=g);obtain ⟨v,hv⟩:=hi.g;obtain ⟨y,h1,h2,h3,h4⟩:=bh8 hi.p hv hc hgc ha;have h1':=(hi.i y 0).2 h1;have e:a6p s g c=zOf s.n.toNat y:=by unfold a6p;rw [h4]
 rw [e];have side:∀(k:Nat) (w:C5) (b:Bool),s.rows[k]? =some w->(b=false->w.kind≠0)->(b=true->w.kind≠1)->0<=Y1 b (-(n8 w.terms (zOf s.n.toNat y))):=by
  intro k w b hw hb1 hb2;have hm:((k,b):Nat × Bool) ∈ j0 s:=X5.2 ⟨w,hw,hb1,hb2⟩;obtain ⟨i,hil,hif⟩:=a0r hm;have hf:(j0 s)[i]? =some (k,b):=by rw [lbf hil,hif]
  have:=bi2 hr h1' hf hw;have hp:=h2 (s.n.toNat+i) om;rw [this] at hp;have e2:(0:Rat)*w.value - n8 w.terms (zOf s.n.toNat y)=-(n8 w.terms (zOf s.n.toNat y)):=zg;rw [e2] at hp;exact hp
 refine ⟨⟨ak9,fun v hv=>?_,fun k w hw hk=>?_,fun k w hw hk=>?_⟩,?_⟩
 ·obtain ⟨j,hj,rfl⟩:=a9d hv;exact h2 j om
 ·have:0<=-(n8 w.terms (zOf s.n.toNat y)):=side k w false hw (fun _=>hk) (fun h=>by cases h);grind
 ·have:0<=-(-(n8 w.terms (zOf s.n.toNat y))):=side k w true hw (fun h=>by cases h) (fun _=>hk);grind
 ·rw [b1K hg,p4 (g:=fun j=>(-1:Rat)*(-(L7 g j)*y j)) fun j hj=>by grind,K0];grind
def aa5 (x d:List Rat):List Rat:=List.zipWith (·+·) x d
def au1 {x d:List Rat} {n:Nat} (hx:x.length=n) (hd:d.length=n):(aa5 x d).length=n:=by simp [aa5,hx,hd]
def aM3 {x d:List Rat} {n j:Nat} (hx:x.length=n) (hd:d.length=n) (hj:j<n):(aa5 x d).getD j 0=x.getD j 0+d.getD j 0:=by
 simp only [aa5,lbl,List.getElem?_zipWith];rw [lbf (show j<x.length by omega),lbf (show j<d.length by omega)]
 rfl
def a4y {x d:List Rat} {n:Nat} {l:List (Int × Rat)} (hx:x.length=n) (hd:d.length=n) (h:n7 (-1) (n:Int) l=true):n8 l (aa5 x d)=n8 l x+n8 l d:=by
 rw [Z4 h,Z4 h,Z4 h,←a2t];exact p4 fun j hj=>by rw [aM3 hx hd hj];grind
def ad7 {s:m8} {z:List Rat} (h:k6 s z=true):∀v ∈ z,0<=v:=by
 unfold k6 at h;simp only [lbN,lbI,lbv] at h;exact h.1.2
def b9j {w:C5} {z:List Rat}:a0j w z=true↔(w.kind≠1->w.value<=n8 w.terms z)/\(w.kind≠0->n8 w.terms z<=w.value):=by
 unfold a0j;simp only [a6P,a2f,lbP,lbK,lb4];constructor
 ·rintro ⟨h1,h2⟩;exact ⟨fun h=>h1.elim id fun h'=>absurd h h',fun h=>h2.elim id fun h'=>absurd h h'⟩
 ·rintro ⟨h1,h2⟩;refine ⟨?_,?_⟩
  ·by_cases h:w.kind≠1
   ·exact .inl (h1 h)
   ·exact .inr h
  ·by_cases h:w.kind≠0
   ·exact .inl (h2 h)
   ·exact .inr h
def X7 {s:m8} {z:List Rat}:k6 s z=true↔q9 s=true/\(z.length:Int)=s.n/\(∀ v ∈ z,0<=v)/\∀w ∈ s.rows,(w.kind≠1->w.value<=n8 w.terms z)/\(w.kind≠0->n8 w.terms z<=w.value):=by
 unfold k6;simp only [lbN,lbI,lbv,b9j];constructor
 ·rintro ⟨⟨⟨h1,h2⟩,h3⟩,h4⟩;exact ⟨h1,h2,h3,h4⟩
 ·rintro ⟨h1,h2,h3,h4⟩;exact ⟨⟨⟨h1,h2⟩,h3⟩,h4⟩
def ac0 {s:m8} {x d:List Rat} (hx:k6 s x=true) (hd:b9h s d):k6 s (aa5 x d)=true:=by
 obtain ⟨h1,h2,h3,h4⟩:=X7.1 hx;have hn:=V4 h1;have hxl:x.length=s.n.toNat:=om;refine X7.2 ⟨h1,by rw [au1 hxl hd.len];exact hn,fun v hv=>?_,fun w hw=>?_⟩
 ·obtain ⟨j,hj,rfl⟩:=a0r hv;rw [au1 hxl hd.len] at hj;have h5:0<=x[j]:=h3 _ (lbE _);have h6:0<=d[j]'(by rw [hd.len];exact hj):=hd.pos _ (lbE _);simp only [aa5,List.getElem_zipWith];grind
 ·obtain ⟨k,hk,hkw⟩:=a0r hw;have hkw':s.rows[k]? =some w:=by rw [lbf hk,hkw]
  have h7:=a4y hxl hd.len (a1f h1 hkw').1;obtain ⟨h8,h9⟩:=h4 w hw;rw [h7];exact ⟨fun h=>by have:=h8 h;have:=hd.down k w hkw' h;grind,fun h=>by have:=h9 h;have:=hd.up k w hkw' h;grind⟩
theorem zk {p:Prop} (h:p:=by decide +kernel):p:=h
def bg7 {s:m8} (hr:q9 s=true) {c:Nat}:H9 s []≠.col c:=fun h=>by
 have:=(a77 hr rfl h).2;have h2:n8 [] (a6p s [] c)=((0:Int):Rat):=rfl;rw [h2] at this;exact absurd this zk
section
def uV (n:Nat) (D0:Fd) (w:Nat):Nat->Rat
 |0=>if w<n then 0 else D0.V (w - n)
 |l+1=>if w<n then (if w=l then 1 else 0) else -(D0.A (w - n) l)
def uG (g0:Nat->Rat):Nat->Rat
 |0=>0
 |l+1=>g0 l
structure Z5 (m n:Nat) (D:Fd):Prop where
 o:∀i,i<m->D.O i=n+i
 f:∀j,j<n->D.F j=j
def muF (n:Nat) (D0 D:Fd):Nat->Nat->Rat
 |0=>a5V 0
 |j+1=>uV n D0 (D.F j)
def b96 {m n:Nat} {D0:Fd} (h0:Z5 m n D0) (l:Nat) (hl:l<n+1):Ids m n D0 (fun w=>uV n D0 w l) (a5V 0 l):=by
 intro i hi;rw [h0.o i hi];rw [p4 (g:=fun j=>D0.A i j*uV n D0 j l) fun j hj=>by rw [h0.f j hj]];cases l with
 |zero=>
  rw [D5 fun j hj=>by show D0.A i j*(if j<n then (0:Rat) else _)=0;rw [iA hj];grind];show (if n+i<n then (0:Rat) else D0.V (n+i - n))=a5V 0 0*D0.V i - 0;rw [iB om,show n+i - n=i by omega];have:a5V 0 0=1:=rfl;rw [this];grind
 |succ l=>
  rw [p4 (g:=fun j=>if j=l then D0.A i l else 0) fun j hj=>by
   show D0.A i j*(if j<n then (if j=l then (1:Rat) else 0) else _)=_;rw [iA hj];by_cases h:j=l
   ·subst h;rw [iA rfl,iA rfl];grind
   ·rw [iB h,iB h];grind]
  rw [H4 (s:=l) om,iA rfl,D5 fun j hj=>by
   by_cases h:j=l
   ·rw [iA h]
   ·rw [iB h,iB h]]
  show (if n+i<n then _ else -(D0.A (n+i - n) l))=a5V 0 (l+1)*D0.V i - _;rw [iB om,show n+i - n=i by omega];have:a5V 0 (l+1)=0:=rfl;rw [this];grind
section
variable {m n:Nat} {D0 D:Fd}
def coV (D:Fd) (i:Nat):Nat->Rat
 |0=>D.V i
 |j+1=>-(D.A i j)
def coG (z:Rat) (D:Fd):Nat->Rat
 |0=>z
 |j+1=>D.G j
def b5a (h0:Z5 m n D0) (hI:∀y c,Ids m n D0 y c↔Ids m n D y c) {i:Nat} (hi:i<m):∀l,l<n+1->uV n D0 (D.O i) l=p5 (fun k=>coV D i k*muF n D0 D k l) (n+1):=by
 intro l hl;have h:=(hI _ _).1 (b96 h0 l hl) i hi;rw [h,a3l];show _=D.V i*a5V 0 l+p5 (fun j=>-(D.A i j)*uV n D0 (D.F j) l) n;rw [p4 (f:=fun j=>-(D.A i j)*uV n D0 (D.F j) l) (g:=fun j=>(-1:Rat)*(D.A i j*uV n D0 (D.F j) l)) fun j hj=>by grind,K0];grind
def bd6 (h0:Z5 m n D0) (hI:∀y c,Ids m n D0 y c↔Ids m n D y c) {g0:Nat->Rat} {z:Rat} (hg:a14 n D g0 m z):∀l,l<n+1->uG g0 l=p5 (fun k=>coG z D k*muF n D0 D k l) (n+1):=by
 intro l hl;have h:=hg _ _ ((hI _ _).1 (b96 h0 l hl));rw [a3l];show _=z*a5V 0 l+p5 (fun j=>D.G j*uV n D0 (D.F j) l) n;have e:p5 (fun j=>g0 j*uV n D0 j l) n=uG g0 l:=by
  cases l with
  |zero=>rw [D5 fun j hj=>by show g0 j*(if j<n then (0:Rat) else _)=0;rw [iA hj];grind];rfl
  |succ l=>
   rw [p4 (g:=fun j=>if j=l then g0 l else 0) fun j hj=>by
    show g0 j*(if j<n then (if j=l then (1:Rat) else 0) else _)=_;rw [iA hj];by_cases h:j=l
    ·subst h;rw [iA rfl,iA rfl];grind
    ·rw [iB h,iB h];grind]
   rw [H4 (s:=l) om,iA rfl,D5 fun j hj=>by
    by_cases h:j=l
    ·rw [iA h]
    ·rw [iB h,iB h]]
   show _=g0 l;grind
 rw [← e,h];grind
def b7O (h0:Z5 m n D0) (hI:∀y c,Ids m n D0 y c↔Ids m n D y c) {i:Nat} (hi:i<m):M6 (n+1) (J3 (muF n D0 D) 0 (uV n D0 (D.O i)))=D.V i*M6 (n+1) (muF n D0 D):=av7 (b5a h0 hI hi) (j:=0) om
def b3T (h0:Z5 m n D0) (hI:∀y c,Ids m n D0 y c↔Ids m n D y c) {i j:Nat} (hi:i<m) (hj:j<n):M6 (n+1) (J3 (muF n D0 D) (j+1) (uV n D0 (D.O i)))=-(D.A i j)*M6 (n+1) (muF n D0 D):=av7 (b5a h0 hI hi) (j:=j+1) om
def b7l (h0:Z5 m n D0) (hI:∀y c,Ids m n D0 y c↔Ids m n D y c) {g0:Nat->Rat} {z:Rat} (hg:a14 n D g0 m z) {j:Nat} (hj:j<n):M6 (n+1) (J3 (muF n D0 D) (j+1) (uG g0))=D.G j*M6 (n+1) (muF n D0 D):=av7 (bd6 h0 hI hg) (j:=j+1) om
def aH7 (h0:Z5 m n D0):M6 (n+1) (muF n D0 D0)=1:=by
 rw [← b4B (n+1)];refine a3d fun i j hi hj=>?_
 cases i with
 |zero=>rfl
 |succ i=>
  show uV n D0 (D0.F i) j=_;rw [h0.f i om];cases j with
  |zero=>show (if i<n then (0:Rat) else _)=_;rw [iA om];rfl
  |succ j=>
   show (if i<n then (if i=j then (1:Rat) else 0) else _)=_;rw [iA om];unfold a5V;by_cases h:i=j
   ·rw [iA h,iA om]
   ·rw [iB h,iB om]
def aZ7 (h0:Z5 m n D0) (hI:∀y c,Ids m n D0 y c↔Ids m n D y c) {r s:Nat} (hr:r<m) (hs:s<n):M6 (n+1) (muF n D0 (D.exch r s))=-(D.A r s)*M6 (n+1) (muF n D0 D):=by
 rw [← b3T h0 hI hr hs];refine a3d fun i j hi hj=>?_
 cases i with
 |zero=>rfl
 |succ i=>
  show uV n D0 ((D.exch r s).F i) j=J3 (muF n D0 D) (s+1) (uV n D0 (D.O r)) (i+1) j;rw [a31];by_cases h:i=s
  ·subst h;rw [iA rfl,a1O]
  ·rw [iB h,a10 om];rfl
end
def b2Z {m n:Nat} {D0:Fd} {g0:Nat->Rat} (h0:Z5 m n D0) (hv:a5b m n D0 g0 D0):∀{k:Nat} {D:Fd},itS m n k D0=some D->M6 (n+1) (muF n D0 D)≠0
 |0,D,h=>by injection h with h;subst h;rw [aH7 h0];decide
 |k+1,D,h=>by
  rw [a1d] at h;cases hk:itS m n k D0 with
  |none=>rw [hk] at h;cases h
  |some D1=>
   rw [hk] at h;have h:G7 m n D1=some D:=h;obtain ⟨r,s,hs,rfl⟩:=a8o h;obtain ⟨h1,h2,h3⟩:=a4t hs;have hp:=a55 h3;rw [aZ7 h0 (a0c hv hk).i h1 h2];intro e;rcases ay7.1 e with e|e
   ·exact hp zg
   ·exact b2Z h0 hv hk e
def be9 (K:Rat) (M:Nat->Nat->Rat):Nat->Nat->Rat:=fun i j=>if j=0 then K*M i 0 else M i j
def bq4 (n:Nat) (K:Rat) (M:Nat->Nat->Rat):M6 (n+1) (be9 K M)=K*M6 (n+1) M:=by
 rw [T5,T5,←K0];refine p4 fun i hi=>?_
 have e:E9 i (be9 K M)=E9 i M:=by
  funext a c;unfold E9 be9;rw [iB om]
 rw [e];show ai2 i*(if (0:Nat)=0 then K*M i 0 else _)*_=_;rw [iA rfl];grind
def aP1 {n:Nat} {M:Nat->Nat->Rat} {r:Nat} (hr:r<n) (h:∀c,c<n->M r c=0):M6 n M=0:=by
 have e:M6 n M=M6 n (J3 M r fun c=>(0:Rat)*0+0*0):=a3d fun i j hi hj=>by
  unfold J3;by_cases hir:i=r
  ·subst hir;rw [iA rfl,h j hj];grind
  ·rw [iB hir]
 rw [e,a7d (v:=fun _=>0) (w:=fun _=>0) hr];grind
def b49 {n:Nat} {M:Nat->Nat->Rat} (h1:M 0 0=1) (h0:∀c,c<n->M 0 (c+1)=0):M6 (n+1) M=M6 n (E9 0 M):=by
 rw [T5,a3l (f:=fun i=>ai2 i*M i 0*M6 n (E9 i M)),D5 fun i hi=>?_]
 ·have:ai2 0=1:=rfl;rw [this,h1];grind
 ·rw [aP1 (n:=n) (M:=E9 (i+1) M) (r:=0) om fun c hc=>by
   unfold E9;rw [iA om];exact h0 c hc]
  grind
structure aE1 (m n K BV BA BG:Nat) (D0:Fd) (g0:Nat->Rat):Prop where
 k:0<K
 v:∀i,i<m->∃z:Int,(K:Rat)*D0.V i=((z:Int):Rat)/\z.natAbs<=BV
 a:∀i j,i<m->j<n->∃z:Int,D0.A i j=((z:Int):Rat)/\z.natAbs<=BA
 g:∀j,j<n->∃z:Int,g0 j=((z:Int):Rat)/\z.natAbs<=BG
 a1:1<=BA
 ag:BA<=BG
def aa6 {m n K BV BA BG:Nat} {D0:Fd} {g0:Nat->Rat} (h:aE1 m n K BV BA BG D0 g0) {w l:Nat} (hw:w<n+m) (hl:l<n):∃z:Int,uV n D0 w (l+1)=((z:Int):Rat)/\z.natAbs<=BA:=by
 have:=h.a1;show ∃z:Int,(if w<n then (if w=l then (1:Rat) else 0) else -(D0.A (w - n) l))=_/\_;by_cases h1:w<n
 ·rw [iA h1];by_cases h2:w=l
  ·rw [iA h2];exact ⟨1,rfl,by simpa using this⟩
  ·rw [iB h2];exact ⟨0,rfl,zq⟩
 ·rw [iB h1];obtain ⟨z,hz,hb⟩:=h.a (w - n) l om hl;exact ⟨-z,by rw [hz];push_cast;rfl,by rw [a2h];exact hb⟩
def bm4 {m n K BV BA BG:Nat} {D0:Fd} {g0:Nat->Rat} (h:aE1 m n K BV BA BG D0 g0) {w:Nat} (hw:w<n+m):∃z:Int,(K:Rat)*uV n D0 w 0=((z:Int):Rat)/\z.natAbs<=BV:=by
 show ∃z:Int,(K:Rat)*(if w<n then (0:Rat) else D0.V (w - n))=_/\_;by_cases h1:w<n
 ·rw [iA h1];exact ⟨0,by show _=(0:Rat);grind,zq⟩
 ·rw [iB h1];exact h.v _ om
def aP7 {m n K BV BA BG:Nat} {D0 D:Fd} {g0:Nat->Rat} (h:aE1 m n K BV BA BG D0 g0) (hf:∀j,j<n->D.F j<n+m):∃z:Int,M6 (n+1) (muF n D0 D)=((z:Int):Rat)/\z.natAbs<=a4U n fun _=>BA:=by
 rw [b49 (M:=muF n D0 D) rfl fun c hc=>rfl];refine a7e fun i j hi hj=>?_
 unfold E9;rw [iB om];exact aa6 h (hf i hi) hj
def a4i {m n K BV BA BG:Nat} {D0 D:Fd} {g0:Nat->Rat} (h:aE1 m n K BV BA BG D0 g0) (hf:∀j,j<n->D.F j<n+m) {B:Nat} {u:Nat->Rat} (hB:BA<=B) (hu:∀l,l<n->∃z:Int,u (l+1)=((z:Int):Rat)/\z.natAbs<=B) (j:Nat):∃z:Int,M6 (n+1) (J3 (muF n D0 D) (j+1) u)=((z:Int):Rat)/\z.natAbs<=a4U n fun _=>B:=by
 rw [b49 (M:=J3 (muF n D0 D) (j+1) u) (by rw [a10 om];rfl) fun c hc=>by rw [a10 om];rfl];refine a7e fun i k hi hk=>?_
 have em:E9 0 (J3 (muF n D0 D) (j+1) u) i k=J3 (muF n D0 D) (j+1) u (i+1) (k+1):=by unfold E9;rw [iB om]
 rw [em];by_cases e:i+1=j+1
 ·rw [e,a1O];exact hu k hk
 ·rw [a10 e];obtain ⟨z,hz,hb⟩:=aa6 h (hf i hi) hk;exact ⟨z,hz,om⟩
def ao2 {m n K BV BA BG:Nat} {D0 D:Fd} {g0:Nat->Rat} (h:aE1 m n K BV BA BG D0 g0) (hf:∀j,j<n->D.F j<n+m) {w:Nat} (hw:w<n+m):∃z:Int,(K:Rat)*M6 (n+1) (J3 (muF n D0 D) 0 (uV n D0 w))=((z:Int):Rat)/\z.natAbs<=a4U (n+1) fun c=>if c=0 then BV else BA:=by
 rw [← bq4];refine a7e fun i j hi hj=>?_
 have key:∀w,w<n+m->∃z:Int,(if j=0 then (K:Rat)*uV n D0 w 0 else uV n D0 w j)=((z:Int):Rat)/\z.natAbs<=if j=0 then BV else BA:=fun w hw=>by
  by_cases h1:j=0
  ·rw [iA h1,iA h1];exact bm4 h hw
  ·rw [iB h1,iB h1];obtain ⟨l,rfl⟩:∃l,j=l+1:=⟨j - 1,om⟩;exact aa6 h hw om
 unfold be9 J3;cases i with
 |zero=>simp only [if_true];exact key w hw
 |succ i=>
  simp only [iB (show i+1≠0 by omega)];exact key (D.F i) (hf i om)
def al7 {x:Rat} {p q:Int} (hq:q≠0) (h:((q:Int):Rat)*x=((p:Int):Rat)):rl x<=max (bl p) (bl q):=by
 have hqn:((q:Int):Rat)≠0:=by intro e;exact hq (by exact_mod_cast e)
 have e:x=Rat.divInt p q:=by
  rw [a80,←h];rw [ap3,ad8,a9X,b1V _ hqn];grind
 rw [e];exact X4 hq
def a2N {z:Int} {X k:Nat} (h:z.natAbs<=X) (hX:(X:Int)<pw k):bl z<=k:=P9 om
def aA1 {m n K BV BA BG b:Nat} {D0 D:Fd} {g0:Nat->Rat} (h0:Z5 m n D0) (h:aE1 m n K BV BA BG D0 g0) (hv:a5b m n D0 g0 D0) (hD:O8 m n D0 D)
 (b1:((a4U (n+1) fun c=>if c=0 then BV else BA:Nat):Int)<pw b) (b2:((a4U n fun _=>BG:Nat):Int)<pw b) (b3:((K*a4U n fun _=>BA:Nat):Int)<pw b) (b4:((a4U n fun _=>BA:Nat):Int)<pw b):
 (∀ i,i<m->rl (D.V i)<=b)/\(∀ i j,i<m->j<n->rl (D.A i j)<=b)/\∀j,j<n->rl (D.G j)<=b:=by
 obtain ⟨k,hk⟩:=hD;have hi:=a0c hv hk;have hn:=b2Z h0 hv hk;obtain ⟨d,hd,hdb⟩:=aP7 h (D:=D) hi.p.fb;rw [hd] at hn;have hd0:d≠0:=fun e=>hn (by rw [e];rfl)
 refine ⟨fun i him=>?_,fun i j him hj=>?_,fun j hj=>?_⟩
 ·obtain ⟨p,hp,hpb⟩:=ao2 h (D:=D) hi.p.fb (hi.p.ob i him);rw [b7O h0 hi.i him,hd] at hp;have hK:=h.k;have e:=al7 (x:=D.V i) (p:=p) (q:=(K:Int)*d) (by
   intro e;rcases Int.mul_eq_zero.1 e with e|e
   ·omega
   ·exact hd0 e) (by rw [← hp];push_cast;grind)
  have q1:=a2N hpb b1;have q2:bl ((K:Int)*d)<=b:=a2N (X:=K*a4U n fun _=>BA) (by rw [a3r];exact lbT zq hdb) b3;omega
 ·obtain ⟨p,hp,hpb⟩:=a4i h (D:=D) hi.p.fb (lbR _) (u:=uV n D0 (D.O i)) (fun l hl=>aa6 h (hi.p.ob i him) hl) j;rw [b3T h0 hi.i him hj,hd] at hp;have e:=al7 (x:=-(D.A i j)) (p:=p) (q:=d) hd0 (by rw [← hp];grind);rw [a39] at e;have q1:=a2N hpb b4;have q2:=a2N hdb b4;omega
 ·obtain ⟨z,hz⟩:=hi.g;obtain ⟨p,hp,hpb⟩:=a4i h (D:=D) hi.p.fb h.ag (u:=uG g0) (fun l hl=>h.g l hl) j;rw [b7l h0 hi.i hz hj,hd] at hp;have e:=al7 (x:=D.G j) (p:=p) (q:=d) hd0 (by rw [← hp];grind);have q1:=a2N hpb b2;have q2:=a2N hdb b4;omega
end
section
def Whole (x:Rat):Prop:=∃z:Int,x=((z:Int):Rat)
structure a9f (m n:Nat) (D0 D:Fd) (q:Int):Prop where
 pos:0<q
 det:M6 (n+1) (muF n D0 D)=((q:Int):Rat)\/M6 (n+1) (muF n D0 D)=-((q:Int):Rat)
 v:∀i,i<m->Whole ((q:Rat)*D.V i)
 a:∀i j,i<m->j<n->Whole ((q:Rat)*D.A i j)
 g:∀j,j<n->Whole ((q:Rat)*D.G j)
def aM1 {x:Rat} (h:Whole x):Whole (-x):=by
 obtain ⟨z,rfl⟩:=h;exact ⟨-z,by push_cast;rfl⟩
def a56 {d q:Int} {x:Rat} (hq:q=d\/q=-d) (h:Whole (x*((d:Int):Rat))):Whole ((q:Rat)*x):=by
 rcases hq with e|e
 ·subst e;rwa [ap3] at h
 ·subst e;have:=aM1 h;have e2:(((-d:Int):Int):Rat)*x=-(x*((d:Int):Rat)):=by push_cast;grind
  rw [e2];exact this
def bG2 {m n BV BA BG:Nat} {D0 D:Fd} {g0:Nat->Rat} (h0:Z5 m n D0) (h:aE1 m n 1 BV BA BG D0 g0) (hv:a5b m n D0 g0 D0) (hD:O8 m n D0 D):∃q:Int,a9f m n D0 D q:=by
 obtain ⟨k,hk⟩:=hD;have hi:=a0c hv hk;have hn:=b2Z h0 hv hk;obtain ⟨d,hd,hdb⟩:=aP7 h (D:=D) hi.p.fb;have hn2:=hn;rw [hd] at hn2;have hd0:d≠0:=fun e=>hn2 (by rw [e];rfl)
 have key:∀q:Int,(q=d\/q=-d)->(∀ i,i<m->Whole ((q:Rat)*D.V i))/\(∀ i j,i<m->j<n->Whole ((q:Rat)*D.A i j))/\(∀ j,j<n->Whole ((q:Rat)*D.G j)):=by
  intro q hq;refine ⟨fun i him=>a56 hq ?_,fun i j him hj=>a56 hq ?_,fun j hj=>a56 hq ?_⟩
  ·obtain ⟨p,hp,_⟩:=ao2 h (D:=D) hi.p.fb (hi.p.ob i him);rw [b7O h0 hi.i him,hd] at hp;exact ⟨p,by rw [← hp];push_cast;grind⟩
  ·obtain ⟨p,hp,_⟩:=a4i h (D:=D) hi.p.fb (lbR _) (u:=uV n D0 (D.O i)) (fun l hl=>aa6 h (hi.p.ob i him) hl) j;rw [b3T h0 hi.i him hj,hd] at hp;have:=aM1 (x:=-(D.A i j)*((d:Int):Rat)) ⟨p,hp⟩;have e:D.A i j*((d:Int):Rat)=-(-(D.A i j)*((d:Int):Rat)):=zg;rw [e];exact this
  ·obtain ⟨z,hz⟩:=hi.g;obtain ⟨p,hp,_⟩:=a4i h (D:=D) hi.p.fb h.ag (u:=uG g0) (fun l hl=>h.g l hl) j;rw [b7l h0 hi.i hz hj,hd] at hp;exact ⟨p,hp⟩
 rcases b37 hd0 with hneg|hpos
 ·obtain ⟨k1,k2,k3⟩:=key (-d) (.inr rfl);exact ⟨-d,om,.inr (by rw [hd];push_cast;grind),k1,k2,k3⟩
 ·obtain ⟨k1,k2,k3⟩:=key d (.inl rfl);exact ⟨d,hpos,.inl hd,k1,k2,k3⟩
section
variable {D:Fd} {r s:Nat} {q:Rat}
def af3 {a b:Rat} (h:b≠0):a / b*b=a:=by rw [ad8,a9X,Rat.inv_mul_cancel _ h];grind
def bE9 (h:D.A r s≠0):(q*D.A r s)*(D.exch r s).V r=q*D.V r:=by
 show (q*D.A r s)*(if r=r then D.V r / D.A r s else _)=_;rw [iA rfl];have:=af3 (a:=D.V r) h;grind
def bI4 (h:D.A r s≠0) {i:Nat} (hi:i≠r):(q*D.V i)*(q*D.A r s) - (q*D.A i s)*(q*D.V r)=q*((q*D.A r s)*(D.exch r s).V i):=by
 show _=q*((q*D.A r s)*(if i=r then _ else D.V i - D.A i s*(D.V r / D.A r s)));rw [iB hi];have:=af3 (a:=D.V r) h;generalize D.V r / D.A r s=c at this;rw [← this];grind
def bc8 (h:D.A r s≠0):(q*D.A r s)*(D.exch r s).A r s=q:=by
 show (q*D.A r s)*(if r=r then (if s=s then 1 / D.A r s else _) else _)=_;rw [iA rfl,iA rfl];have:=af3 (a:=1) h;grind
def bl2 (h:D.A r s≠0) {j:Nat} (hj:j≠s):(q*D.A r s)*(D.exch r s).A r j=q*D.A r j:=by
 show (q*D.A r s)*(if r=r then (if j=s then _ else D.A r j / D.A r s) else _)=_;rw [iA rfl,iB hj];have:=af3 (a:=D.A r j) h;grind
def bb3 (h:D.A r s≠0) {i:Nat} (hi:i≠r):(q*D.A r s)*(D.exch r s).A i s=-(q*D.A i s):=by
 show (q*D.A r s)*(if i=r then _ else if s=s then 0 - D.A i s*(if s=s then 1 / D.A r s else _) else _)=_;rw [iB hi,iA rfl,iA rfl];have:=af3 (a:=1) h;generalize 1 / D.A r s=c at this;have e:q*D.A r s*(0 - D.A i s*c)=-(q*D.A i s*(c*D.A r s)):=zg;rw [e,this];grind
def bL8 (h:D.A r s≠0) {i j:Nat} (hi:i≠r) (hj:j≠s):(q*D.A i j)*(q*D.A r s) - (q*D.A i s)*(q*D.A r j)=q*((q*D.A r s)*(D.exch r s).A i j):=by
 show _=q*((q*D.A r s)*(if i=r then _ else if j=s then _ else D.A i j - D.A i s*(if j=s then _ else D.A r j / D.A r s)));rw [iB hi,iB hj,iB hj];have:=af3 (a:=D.A r j) h;generalize D.A r j / D.A r s=c at this;rw [← this];grind
def bx3 (h:D.A r s≠0):(q*D.A r s)*(D.exch r s).G s=-(q*D.G s):=by
 show (q*D.A r s)*(if s=s then 0 - D.G s*(if s=s then 1 / D.A r s else _) else _)=_;rw [iA rfl,iA rfl];have:=af3 (a:=1) h;generalize 1 / D.A r s=c at this;have e:q*D.A r s*(0 - D.G s*c)=-(q*D.G s*(c*D.A r s)):=zg;rw [e,this];grind
def bN3 (h:D.A r s≠0) {j:Nat} (hj:j≠s):(q*D.G j)*(q*D.A r s) - (q*D.G s)*(q*D.A r j)=q*((q*D.A r s)*(D.exch r s).G j):=by
 show _=q*((q*D.A r s)*(if j=s then _ else D.G j - D.G s*(if j=s then _ else D.A r j / D.A r s)));rw [iB hj,iB hj];have:=af3 (a:=D.A r j) h;generalize D.A r j / D.A r s=c at this;rw [← this];grind
end
def b9d {m n:Nat} {D0 D:Fd} {q q':Int} {r s:Nat} (h0:Z5 m n D0) (hI:∀y c,Ids m n D0 y c↔Ids m n D y c) (hr:r<m) (hs:s<n) (h:a9f m n D0 D q) (h':a9f m n D0 (D.exch r s) q'):
 ((q:Int):Rat)*D.A r s=((q':Int):Rat)\/((q:Int):Rat)*D.A r s=-((q':Int):Rat):=by
 have e:=aZ7 h0 hI hr hs;rcases h.det with a|a<;>rcases h'.det with b|b<;>rw [a,b] at e
 ·right;grind
 ·left;grind
 ·left;grind
 ·right;grind
end
section
structure Zd where
 V:Nat->Int
 A:Nat->Nat->Int
 C:Nat->Int
 D:Int
 O:Nat->Nat
 F:Nat->Nat
namespace Zd
set_option linter.all false
def nx (Z:Zd) (a p b c:Int):Int:=(a*p - b*c) / Z.D
def exV (Z:Zd) (r s:Nat):Nat->Int:=fun i=>if i=r then Z.V r else Z.nx (Z.V i) (Z.A r s) (Z.A i s) (Z.V r)
def exA (Z:Zd) (r s:Nat):Nat->Nat->Int:=fun i j=>if i=r then (if j=s then Z.D else Z.A r j) else if j=s then -(Z.A i s) else Z.nx (Z.A i j) (Z.A r s) (Z.A i s) (Z.A r j)
def exC (Z:Zd) (r s:Nat):Nat->Int:=fun j=>if j=s then -(Z.C s) else Z.nx (Z.C j) (Z.A r s) (Z.C s) (Z.A r j)
def exch (Z:Zd) (r s:Nat):Zd where
 V:=fun i=>if Z.A r s<0 then -(Z.exV r s i) else Z.exV r s i
 A:=fun i j=>if Z.A r s<0 then -(Z.exA r s i j) else Z.exA r s i j
 C:=fun j=>if Z.A r s<0 then -(Z.exC r s j) else Z.exC r s j
 D:=if Z.A r s<0 then -(Z.A r s) else Z.A r s
 O:=fun i=>if i=r then Z.F s else Z.O i
 F:=fun j=>if j=s then Z.O r else Z.F j
end Zd
structure aZ1 (m n:Nat) (Z:Zd) (D:Fd):Prop where
 d:0<Z.D
 v:∀i,i<m->((Z.V i:Int):Rat)=((Z.D:Int):Rat)*D.V i
 a:∀i,i<m->∀j,j<n->((Z.A i j:Int):Rat)=((Z.D:Int):Rat)*D.A i j
 c:∀j,j<n->((Z.C j:Int):Rat)=((Z.D:Int):Rat)*D.G j
 o:Z.O=D.O
 f:Z.F=D.F
structure bC7 (m n:Nat) (Z:Zd) (r s:Nat):Prop where
 v:∀i,i<m->i≠r->Z.D ∣ Z.V i*Z.A r s - Z.A i s*Z.V r
 a:∀i,i<m->i≠r->∀j,j<n->j≠s->Z.D ∣ Z.A i j*Z.A r s - Z.A i s*Z.A r j
 c:∀j,j<n->j≠s->Z.D ∣ Z.C j*Z.A r s - Z.C s*Z.A r j
def bp6 {x d e y:Int} (hd:0<d) (h:x=d*(e*y)):d ∣ x/\x / d=e*y:=by
 subst h;exact ⟨⟨_,rfl⟩,aN6 _ om⟩
def b6X {m n r s:Nat} {Z:Zd} {D0 D:Fd} {q:Int} (h0:Z5 m n D0) (hI:∀y c,Ids m n D0 y c↔Ids m n D y c) (hr:r<m) (hs:s<n) (hp:D.A r s≠0)
 (h:aZ1 m n Z D) (hd:a9f m n D0 D Z.D) (hd':a9f m n D0 (D.exch r s) q):bC7 m n Z r s/\aZ1 m n (Z.exch r s) (D.exch r s)/\(Z.exch r s).D=q:=by
 have hz0:=h.d
 have hars:=h.a r hr s hs
 have hq:=hd'.pos
 obtain ⟨e,he,hA⟩:∃e:Int,(e=1\/e=-1)/\Z.A r s=e*q:=by
  rcases b9d h0 hI hr hs hd hd' with k|k
  ·rw [← hars] at k
   exact ⟨1,.inl rfl,by have:Z.A r s=q:=by exact_mod_cast k
                        omega⟩
  ·rw [← hars] at k
   exact ⟨-1,.inr rfl,by have e2:((Z.A r s:Int):Rat)=(((-q:Int):Int):Rat):=by rw [k];push_cast;rfl
                         have:Z.A r s=-q:=by exact_mod_cast e2
                         omega⟩
 have hAq:((Z.D:Int):Rat)*D.A r s=((e:Int):Rat)*((q:Int):Rat):=by rw [← hars,hA];push_cast;rfl
 have he2:e*e=1:=by rcases he with rfl|rfl<;>rfl
 have hsg:∀x:Int,(if Z.A r s<0 then -(e*x) else e*x)=x:=by
  intro x
  rcases he with rfl|rfl
  ·rw [iB (by rw [hA];omega)];omega
  ·rw [iA (by rw [hA];omega)];omega
 have hsg2:∀x y:Int,x=e*y->(if Z.A r s<0 then -x else x)=y:=fun x y hx=>by rw [hx];exact hsg y
 have hD:(if Z.A r s<0 then -(Z.A r s) else Z.A r s)=q:=hsg2 _ _ hA
 have ent:∀(a b c:Int) (x:Rat),(Whole (((q:Int):Rat)*x))->((a:Int):Rat)*(((Z.D:Int):Rat)*D.A r s) - ((b:Int):Rat)*((c:Int):Rat)=((Z.D:Int):Rat)*((((Z.D:Int):Rat)*D.A r s)*x)->
  Z.D ∣ a*Z.A r s - b*c/\(((if Z.A r s<0 then -(Z.nx a (Z.A r s) b c) else Z.nx a (Z.A r s) b c):Int):Rat)=((q:Int):Rat)*x:=by
  intro a b c x hw hx
  obtain ⟨z,hz⟩:=hw
  have e1:a*Z.A r s - b*c=Z.D*(e*z):=by
   have:(((a*Z.A r s - b*c:Int):Int):Rat)=((Z.D*(e*z):Int):Rat):=by
    push_cast
    rw [← hz,hars,hx,hAq];grind
   exact_mod_cast this
  obtain ⟨d1,d2⟩:=bp6 hz0 e1
  refine ⟨d1,?_⟩
  rw [hsg2 (Z.nx a (Z.A r s) b c) z d2,hz]
 have sam:∀(a:Int) (x:Rat),((a:Int):Rat)=(((Z.D:Int):Rat)*D.A r s)*x->(((if Z.A r s<0 then -a else a):Int):Rat)=((q:Int):Rat)*x:=by
  intro a x hx
  have:(((e*(if Z.A r s<0 then -a else a):Int)):Rat)=((e:Int):Rat)*(((q:Int):Rat)*x):=by
   have e1:e*(if Z.A r s<0 then -a else a)=a:=by
    rcases he with rfl|rfl
    ·rw [iB (by rw [hA];omega)];omega
    ·rw [iA (by rw [hA];omega)];omega
   rw [e1,hx,hAq];grind
  rcases he with rfl|rfl
  ·push_cast at this;simpa using this
  ·push_cast at this;grind
 have kv:∀i,i<m->i≠r->_:=fun i hi hir=>ent (Z.V i) (Z.A i s) (Z.V r) ((D.exch r s).V i) (hd'.v i hi) (by rw [h.v i hi,h.a i hi s hs,h.v r hr];exact bI4 hp hir)
 have ka:∀i,i<m->i≠r->∀j,j<n->j≠s->_:=fun i hi hir j hj hjs=>ent (Z.A i j) (Z.A i s) (Z.A r j) ((D.exch r s).A i j) (hd'.a i j hi hj) (by rw [h.a i hi j hj,h.a i hi s hs,h.a r hr j hj];exact bL8 hp hir hjs)
 have kc:∀j,j<n->j≠s->_:=fun j hj hjs=>ent (Z.C j) (Z.C s) (Z.A r j) ((D.exch r s).G j) (hd'.g j hj) (by rw [h.c j hj,h.c s hs,h.a r hr j hj];exact bN3 hp hjs)
 refine ⟨⟨fun i hi hir=>(kv i hi hir).1,fun i hi hir j hj hjs=>(ka i hi hir j hj hjs).1,fun j hj hjs=>(kc j hj hjs).1⟩,⟨?_,?_,?_,?_,?_,?_⟩,hD⟩
 ·show 0<(if Z.A r s<0 then -(Z.A r s) else Z.A r s);omega
 ·intro i hi
  show (((if Z.A r s<0 then -(Z.exV r s i) else Z.exV r s i):Int):Rat)=(((if Z.A r s<0 then -(Z.A r s) else Z.A r s):Int):Rat)*_
  rw [hD]
  by_cases hir:i=r
  ·subst hir
   unfold Zd.exV
   rw [iA rfl]
   exact sam _ _ (by rw [h.v i hi];exact (bE9 hp).symm)
  ·unfold Zd.exV
   rw [iB hir]
   exact (kv i hi hir).2
 ·intro i hi j hj
  show (((if Z.A r s<0 then -(Z.exA r s i j) else Z.exA r s i j):Int):Rat)=(((if Z.A r s<0 then -(Z.A r s) else Z.A r s):Int):Rat)*_
  rw [hD]
  unfold Zd.exA
  by_cases hir:i=r
  ·subst hir
   rw [iA rfl]
   by_cases hjs:j=s
   ·subst hjs;rw [iA rfl];exact sam _ _ (bc8 hp).symm
   ·rw [iB hjs];exact sam _ _ (by rw [h.a i hi j hj];exact (bl2 hp hjs).symm)
  ·rw [iB hir]
   by_cases hjs:j=s
   ·subst hjs;rw [iA rfl];exact sam _ _ (by push_cast;rw [h.a i hi j hj];exact (bb3 hp hir).symm)
   ·rw [iB hjs];exact (ka i hi hir j hj hjs).2
 ·intro j hj
  show (((if Z.A r s<0 then -(Z.exC r s j) else Z.exC r s j):Int):Rat)=(((if Z.A r s<0 then -(Z.A r s) else Z.A r s):Int):Rat)*_
  rw [hD]
  unfold Zd.exC
  by_cases hjs:j=s
  ·subst hjs;rw [iA rfl];exact sam _ _ (by push_cast;rw [h.c j hj];exact (bx3 hp).symm)
  ·rw [iB hjs];exact (kc j hj hjs).2
 ·funext i;show (if i=r then Z.F s else Z.O i)=(if i=r then D.F s else D.O i);rw [h.o,h.f]
 ·funext j;show (if j=s then Z.O r else Z.F j)=(if j=s then D.O r else D.F j);rw [h.o,h.f]
noncomputable def b3b (m n:Nat) (D0 D:Fd):Int:=Classical.epsilon fun q=>a9f m n D0 D q
noncomputable def a0f (m n:Nat) (D0 D:Fd):Zd where
 V:=fun i=>(((b3b m n D0 D:Int):Rat)*D.V i).num
 A:=fun i j=>(((b3b m n D0 D:Int):Rat)*D.A i j).num
 C:=fun j=>(((b3b m n D0 D:Int):Rat)*D.G j).num
 D:=b3b m n D0 D
 O:=D.O
 F:=D.F
def ac8 {x:Rat} (h:Whole x):((x.num:Int):Rat)=x:=by
 obtain ⟨z,rfl⟩:=h;rw [a85]
def a7r {m n:Nat} {D0 D:Fd} (h:∃q,a9f m n D0 D q):a9f m n D0 D (a0f m n D0 D).D/\aZ1 m n (a0f m n D0 D) D:=by
 have hd:a9f m n D0 D (b3b m n D0 D):=aV2 h
 exact ⟨hd,hd.pos,fun i hi=>ac8 (hd.v i hi),fun i hi j hj=>ac8 (hd.a i j hi hj),fun j hj=>ac8 (hd.g j hj),rfl,rfl⟩
structure b9f (m n:Nat) (Z Z':Zd):Prop where
 v:∀i,i<m->Z.V i=Z'.V i
 a:∀i,i<m->∀j,j<n->Z.A i j=Z'.A i j
 c:∀j,j<n->Z.C j=Z'.C j
 d:Z.D=Z'.D
 o:Z.O=Z'.O
 f:Z.F=Z'.F
def b7e {m n:Nat} {Z Z':Zd} {D:Fd} (h:aZ1 m n Z D) (h':aZ1 m n Z' D) (hd:Z.D=Z'.D):b9f m n Z Z':=
 ⟨fun i hi=>by have a:=h.v i hi;have b:=h'.v i hi;rw [hd,←b] at a;exact_mod_cast a,
  fun i hi j hj=>by have a:=h.a i hi j hj;have b:=h'.a i hi j hj;rw [hd,←b] at a;exact_mod_cast a,
  fun j hj=>by have a:=h.c j hj;have b:=h'.c j hj;rw [hd,←b] at a;exact_mod_cast a,hd,h.o.trans h'.o.symm,h.f.trans h'.f.symm⟩
def b6N {m n r s:Nat} {D0 D:Fd} (h0:Z5 m n D0) (hI:∀y c,Ids m n D0 y c↔Ids m n D y c) (hr:r<m) (hs:s<n) (hp:D.A r s≠0) (h:∃q,a9f m n D0 D q) (h':∃q,a9f m n D0 (D.exch r s) q):
 bC7 m n (a0f m n D0 D) r s/\b9f m n ((a0f m n D0 D).exch r s) (a0f m n D0 (D.exch r s)):=by
 obtain ⟨a1,a2⟩:=a7r h;obtain ⟨b1,b2⟩:=a7r h';obtain ⟨c1,c2,c3⟩:=b6X h0 hI hr hs hp a2 a1 b1;exact ⟨c1,b7e c2 b2 c3⟩
def aj3 {q:Int} {z:Int} {x:Rat} (hq:0<q) (h:((z:Int):Rat)=((q:Int):Rat)*x):(z<0↔x<0)/\(0<z↔0<x):=by
 have hq':(0:Rat)<((q:Int):Rat):=by exact_mod_cast hq
 have k1:x<0->z<0:=fun hx=>by
  have:((q:Int):Rat)*(-x) > 0:=lb2 hq' zg;have:((z:Int):Rat)<((0:Int):Rat):=by rw [h];show _<(0:Rat);grind
  exact_mod_cast this
 have k2:0<x->0<z:=fun hx=>by
  have:((q:Int):Rat)*x > 0:=lb2 hq' hx;have:((0:Int):Rat)<((z:Int):Rat):=by rw [h];show (0:Rat)<_;grind
  exact_mod_cast this
 have k3:x=0->z=0:=fun hx=>by
  have:((z:Int):Rat)=((0:Int):Rat):=by rw [h,hx];show _=(0:Rat);grind
  exact_mod_cast this
 have tri:x<0\/x=0\/0<x:=zg;rcases tri with hx|hx|hx
 ·have:=k1 hx;constructor<;>constructor<;>intro _<;>first|assumption|omega|grind
 ·have:=k3 hx;constructor<;>constructor<;>intro _<;>first|omega|grind
 ·have:=k2 hx;constructor<;>constructor<;>intro _<;>first|assumption|omega|grind
end
section
open Go.RowKit
section
variable {α β:Type}
def aj6 {l:List α}:∀{i:Nat} {x:α} {k:α->Prop},l[i]? =some x->k x->a4G i l k:=by
 induction l with
 |nil=>intro i x k h;simp at h
 |cons a r ih=>
  intro i x k h hk;cases i with
  |zero=>simp at h;subst h;exact hk
  |succ i=>exact ih (by simpa using h) hk
def aU3 {v:α} {l:List α} {i:Nat} {k:List α->Prop} (h:k (l.set i v)):a7x i v l k:=Q7.2 h
def a4V {r l:List α} {k:List α->Prop} (h:k (l++r)):at4 l r k:=a4s.2 h
def G2 {l:List α} {k:List α->Prop} (h:k l):at4 l [] k:=a4V (by rw [Z3];exact h)
def b3R {l:List α} {n:Nat} {k:Nat->Prop} (h:k (l.length+n)):ai9 l n k:=a21.2 (by rw [aJ8];exact h)
def a6L {f:β->α} {M:List β} {N n:Nat} {k:Nat->Prop} (h:M.length=N) (hk:k (N+n)):ai9 (M.map f) n k:=b3R (by simpa [h] using hk)
def i9 {f:β->α} {M:List β} {T:List α} {N n:Nat} {k:Nat->Prop} (h:M.length=N) (hk:ai9 T n fun m=>k (N+m)):ai9 (M.map f++T) n k:=by
 refine b3R ?_;have:=(a21 (k:=fun m=>k (N+m))).1 hk;simpa [h,a3p,aJ8 n] using this
def i7 {f:β->α} {M:List β} {T r:List α} {k:List α->Prop} (h:at4 T r fun q=>k (M.map f++q)):at4 (M.map f++T) r k:=by
 refine a4V ?_;rw [lbD];exact (a4s (k:=fun q=>k (M.map f++q))).1 h
def b0w {f:β->α} {M:List β} {i:Nat} {x:β} {k:α->Prop} (h:M[i]? =some x) (hk:k (f x)):a4G i (M.map f) k:=aj6 (by rw [lba,h];rfl) hk
def J6 {f:β->α} {M:List β} {T:List α} {i:Nat} {x:β} {k:α->Prop} (h:M[i]? =some x) (hk:k (f x)):a4G i (M.map f++T) k:=
 aj6 (by rw [lbb (by simpa using (lbe.1 h).1),lba,h];rfl) hk
def j2 {f:β->α} {M:List β} {T:List α} {N t:Nat} {k:α->Prop} (h:M.length=N) (hk:a4G t T k):a4G (N+t) (M.map f++T) k:=by
 obtain ⟨x,h1,h2⟩:=T9 hk;exact aj6 (by rw [lbc (by simp [h])];simpa [h] using h1) h2
def s9 {f:β->α} {M:List β} {T:List α} {N:Nat} {k:α->Prop} (h:M.length=N) (hk:a4G 0 T k):a4G N (M.map f++T) k:=j2 (t:=0) h hk
def a2B {f:β->α} {M:List β} {T:List α} {i:Nat} {v:α} {x:β} {k:List α->Prop} (hi:i<M.length) (hv:v=f x) (h:k ((M.set i x).map f++T)):a7x i v (M.map f++T) k:=
 aU3 (by rw [b4s _ _ (by simpa using hi),hv,←a5X];exact h)
def j9 {f:β->α} {M:List β} {T:List α} {N t:Nat} {v:α} {k:List α->Prop} (h:M.length=N) (hk:a7x t v T fun q=>k (M.map f++q)):a7x (N+t) v (M.map f++T) k:=by
 refine aU3 ?_;rw [List.set_append_right _ _ (by simp [h])];simpa [h] using (Q7 (k:=fun q=>k (M.map f++q))).1 hk
def C4 {f:β->α} {M:List β} {T:List α} {N:Nat} {v:α} {k:List α->Prop} (h:M.length=N) (hk:a7x 0 v T fun q=>k (M.map f++q)):a7x N v (M.map f++T) k:=j9 (t:=0) h hk
end
def idR (n:Nat):List (Option Nat):=(List.range n).map some
def aY8 (n:Nat):(idR n).length=n:=by simp [idR]
def j5 {n i:Nat} (h:i<n):(idR n)[i]? =some (some i):=by simp [idR,h]
def b59 {n i j:Nat} (h:(idR n)[i]? =some (some j)):i=j:=by
 obtain ⟨h1,h2⟩:=lbe.1 h;simp [idR] at h2;exact h2
def a7w {n:Nat}:∀{m:Nat},m<=n->a33 (idR n) m=true
 |0,_=>rfl
 |m+1,h=>by
  unfold a33;rw [j5 om,a7w om];simp
def b06:∀{r:List (Option Nat)} {H:Hp} {n:Nat},(∀ j:Nat,r[j]?≠some (some n))->a5P n r H=false
 |[],H,n,_=>by cases H<;>rfl
 |x::r,[],n,_=>by cases x<;>rfl
 |x::r,k::H,n,h=>by
  unfold a5P;rw [b06 (r:=r) (H:=H) (n:=n) (fun j=>by simpa using h (j+1)),Bool.or_false];split
  ·rfl
  ·rename_i m _;have:m≠n:=by rintro rfl;exact h 0 rfl
   cases hb:Nat.beq m n with
   |false=>rfl
   |true=>exact absurd (a1m hb) this
  ·rfl
def a1w:∀{r:List (Option Nat)} {H:Hp},(∀ i j n:Nat,r[i]? =some (some n)->r[j]? =some (some n)->i=j)->Y2 r H=true
 |[],H,_=>by cases H<;>rfl
 |x::r,[],_=>by cases x<;>rfl
 |none::r,k::H,h=>a1w (r:=r) fun i j n h1 h2=>by have:=h (i+1) (j+1) n (by simpa using h1) (by simpa using h2);omega
 |some n::r,k::H,h=>by
  unfold Y2;rw [a1w (r:=r) (H:=H) fun i j n h1 h2=>by have:=h (i+1) (j+1) n (by simpa using h1) (by simpa using h2);omega];rw [b06 (r:=r) (n:=n) (fun j hj=>by have:=h 0 (j+1) n rfl (by simpa using hj);omega)];cases k.mode<;>rfl
def a9J {n:Nat} {H:Hp}:Y2 (idR n) H=true:=a1w fun i j n h1 h2=>by rw [b59 h1,b59 h2]
def a3L {ρ:List (Option Nat)} {H:Hp}:∀{r:List (Option Nat)} {H':Hp},r.length=H'.length->(∀ (i:Nat) (k':Blk),H'[i]? =some k'->∃(j:Nat) (k:Blk),r[i]? =some (some j)/\H[j]? =some k/\a3g ρ H k k')->a4p ρ H r H'
 |[],[],_,_=>trivial
 |[],_::_,h,_=>by simp at h
 |_::_,[],h,_=>by simp at h
 |x::r,k'::H',hl,h=>by
  obtain ⟨j,k,h1,h2,h3⟩:=h 0 k' rfl;simp at h1;subst h1;refine ⟨?_,a3L (by simpa using hl) fun i k1 hk=>by simpa using h (i+1) k1 (by simpa using hk)⟩;simp only [h2];exact h3
def aF6 {n:Nat} {H:Hp}:∀{l:List C},(∀ c ∈ l,match c with|.t _=>True|.ptr id _ _=>id<n|.own id _ _ _=>id<n|.fn _ _=>False)->a54 (idR n) H l l
 |[],_=>trivial
 |c::r,h=>by
  refine ⟨?_,aF6 fun c hc=>h c (by simp [hc])⟩;have h0:=h c zq;cases c with
  |t x=>exact a1E x
  |ptr id r o=>exact ⟨j5 h0,rz⟩
  |own id lo len app=>exact ⟨j5 h0,rfl,rfl,fun h=>h⟩
  |fn f caps=>exact h0.elim
def okB (n:Nat) (k:Blk):Prop:=∀r ∈ k.rows,∀c ∈ r,match c with|.t _=>True|.ptr id _ _=>id<n|.own id _ _ _=>id<n|.fn _ _=>False
def A7 {n:Nat} {k:Blk} {rows:List (List T)} (h:k.rows=toC rows):okB n k:=by
 intro r hr c hc;rw [h] at hr;obtain ⟨r0,_,rfl⟩:=lbx.1 hr;obtain ⟨t,_,rfl⟩:=lbx.1 hc;trivial
def aK4 {n:Nat} {H:Hp}:∀{l:List (List C)},(∀ r ∈ l,∀c ∈ r,match c with|.t _=>True|.ptr id _ _=>id<n|.own id _ _ _=>id<n|.fn _ _=>False)->a4R (idR n) H l l
 |[],_=>trivial
 |r::l,h=>⟨aF6 (h r zq),aK4 fun r hr=>h r (by simp [hr])⟩
def a9N {n:Nat} {H:Hp} {k:Blk} (h:okB n k):a3g (idR n) H k k:=⟨by unfold a3X;cases k.mode<;>simp,rfl,rfl,.inr (aK4 h)⟩
def bo1 {n0 n:Nat} {env env':Env} {H H':Hp} (hn:H'.length=n) (h0:n0<=n) (hB:∀(i:Nat) (k':Blk),H'[i]? =some k'->∃k:Blk,H[i]? =some k/\a3g (idR n) H k k') (hE:a0p (idR n) H env env'):Ent n0 (idR n) env H env' H':=
 ⟨a7w h0,a9J,a3L (by rw [aY8,hn]) fun i k' hk=>by
   have hi:i<n:=by rw [← hn];exact (lbe.1 hk).1
   obtain ⟨k,h1,h2⟩:=hB i k' hk;exact ⟨i,k,j5 hi,h1,h2⟩,hE⟩
def a2a {ρ:List (Option Nat)} {H:Hp}:∀{xs ys:List (List C)},xs.length=ys.length->(∀ (i:Nat) (x y:List C),xs[i]? =some x->ys[i]? =some y->a54 ρ H x y)->a4R ρ H xs ys
 |[],[],_,_=>trivial
 |[],_::_,h,_=>by simp at h
 |_::_,[],h,_=>by simp at h
 |x::xs,y::ys,h,hh=>⟨hh 0 x y rfl rfl,a2a (by simpa using h) fun i a b ha hb=>hh (i+1) a b (by simpa using ha) (by simpa using hb)⟩
def a7c {n0 n:Nat} {env env':Env} {H H':Hp} (hn:H'.length=n) (h0:n0<=n) (hok:∀k ∈ H',okB n k) (hH:∀i,i<n->H[i]? =H'[i]?) (hE:a0p (idR n) H env env'):Ent n0 (idR n) env H env' H':=
 ⟨a7w h0,a9J,a3L (by rw [aY8,hn]) fun i k' hk=>by
   have hi:i<n:=by rw [← hn];exact (lbe.1 hk).1
   exact ⟨i,k',j5 hi,by rw [hH i hi];exact hk,a9N (hok k' (lbm hk))⟩,hE⟩
def b2J {n0 n:Nat} {env env':Env} {H' T:Hp} (hn:H'.length=n) (h0:n0<=n) (hok:∀k ∈ H',okB n k) (hE:a0p (idR n) (H'++T) env env'):Ent n0 (idR n) env (H'++T) env' H':=
 a7c hn h0 hok (fun i hi=>by rw [lbb om]) hE
def a7u {n0 n:Nat} {r s:S} {H H':Hp} (hn:H'.length=n) (h0:n0<=n) (hok:∀k ∈ H',okB n k) (hH:∀i,i<n->H[i]? =H'[i]?) (hE:a9b (idR n) H r s):Fin n0 r H s H':=
 ⟨idR n,a7w h0,a9J,a3L (by rw [aY8,hn]) fun i k' hk=>by
   have hi:i<n:=by rw [← hn];exact (lbe.1 hk).1
   exact ⟨i,k',j5 hi,by rw [hH i hi];exact hk,a9N (hok k' (lbm hk))⟩,hE⟩
def a5u {n i:Nat} (h:i<n):(List.range n).getD i 0=i:=by simp [h]
mutual
def am7 {n:Nat}:∀c:C,okC n c=true->a0q (List.range n) c=c
 |.t x,_=>by simp [a0q]
 |.ptr id r o,h=>by simp only [a0q];rw [a5u (by simpa [okC] using h)]
 |.own id lo len app,h=>by simp only [a0q];rw [a5u (by simpa [okC] using h)]
 |.fn f caps,h=>by simp only [a0q];rw [a4L caps (by simpa [okC] using h)]
def a4L {n:Nat}:∀l:List C,okL n l=true->a1K (List.range n) l=l
 |[],_=>by simp [a1K]
 |c::r,h=>by
  simp only [okL,lbN] at h;simp only [a1K];rw [am7 c h.1,a4L r h.2]
end
def b3t {n:Nat} {s:S} (h:okS n s=true):a5W (List.range n) s=s:=by
 cases s with
 |junk=>rfl
 |c x=>simp only [a5W];rw [am7 x h]
 |agg cs=>simp only [a5W];rw [a4L cs h]
 |tup ss=>simp [okS] at h
def b2r {n:Nat}:∀{l:List C},(∀ c ∈ l,match c with|.t _=>True|.ptr id _ _=>id<n|.own id _ _ _=>id<n|.fn _ _=>False)->okL n l=true
 |[],_=>by simp [okL]
 |c::r,h=>by
  simp only [okL,lbN];refine ⟨?_,b2r fun c hc=>h c (by simp [hc])⟩;have h0:=h c zq;cases c with
  |t x=>simp [okC]
  |ptr id r o=>simp only [okC];exact a19 ▸ h0
  |own id lo len app=>simp only [okC];exact a19 ▸ h0
  |fn f caps=>exact h0.elim
def am8 {n:Nat} {k:Blk} (h:okB n k):aQ6 (List.range n) k k:=by
 refine ⟨rfl,rfl,rfl,rfl,?_⟩;unfold a8l;rw [lbp (g:=id) fun r hr=>a4L r (b2r (h r hr))];simp
def aZ3 {σ:List Nat} {l:List C} (h:l.all C.isT=true):a1K σ l=l:=by
 rw [S5];conv=>rhs;rw [← List.map_id l]
 exact lbp fun c hc=>au2 (lbv.1 h c hc)
def a3H {P:Program} {g:FuncId} {args:List S} {Hs Hs':Hp} {r:S} {n:Nat} (T:Hp) (h:e8 P g args Hs r Hs') (hn:Hs.length=n) (hn':Hs'.length=n) (hok:args.all (okS n)=true)
 (hin:∀k ∈ Hs,k.mode=.live/\k.app=false/\okB n k) (hout:∀k ∈ Hs',k.mode≠.old/\okB n k) (hr:ay8 r=true) (hr':r.isT=true):e8 P g args (Hs++T) r (Hs'++T):=by
 have e0:Hs'.length - Hs.length=0:=om;have ex:∀m,a4x (List.range n) m (Hs'.length - Hs.length)=List.range n:=fun m=>by rw [e0];simp [a4x]
 have hargs:args=args.map (a5W (List.range n)):=by
  conv=>lhs;rw [← List.map_id args]
  exact lbp fun s hs=>(b3t (lbv.1 hok s hs)).symm
 refine V3 (List.range n) h hargs (by simpa using hok) (by simp [hn]) List.nodup_range ?_ (fun k hk=>(hout k hk).1) om hr ?_ zo ?_ ?_
 ·intro i k hk;have hi:i<n:=by rw [← hn];exact (lbe.1 hk).1
  obtain ⟨h1,h2,h3⟩:=hin k (lbm hk);refine ⟨h1,h2,fun r hr=>by rw [List.length_range];exact b2r (h3 r hr),k,?_,am8 h3⟩;rw [a5u hi,lbb om,hk]
 ·rw [ex];cases r with
  |junk=>rfl
  |c x=>simp only [a5W];rw [au2 hr']
  |agg cs=>
   simp only [a5W];rw [aZ3 hr']
  |tup ss=>
   simp only [a5W]
   congr 1
   conv=>lhs;rw [← List.map_id ss]
   refine lbp fun s hs=>?_
   have h1:=lbv.1 hr' s hs;cases s with
   |junk=>rfl
   |c x=>simp only [id];rw [au2 h1]
   |agg cs=>
    simp only [id];rw [aZ3 h1]
   |tup ss=>rfl
 ·intro i k hk;have hi:i<n:=by rw [← hn'];exact (lbe.1 hk).1
  obtain ⟨h1,h3⟩:=hout k (lbm hk);rw [ex];exact ⟨k,by rw [a5u hi,lbb om,hk],am8 h3⟩
 ·intro j hj hnj;have:n<=j:=by
   rcases H6 j n with h|h
   ·exact absurd (lbB.2 h) hnj
   ·exact h
  rw [lbc om,lbc om,hn,hn']
end
def O3 {P : Program} {τ : Tab} (hτ : G5 P τ) {f : FuncId} {fn : Func} {c : Code} {args : List S} {H : Hp} {s : S} {H' : Hp} (hf : P.funcs[f]? = some fn) (hb : fn.body = some c) (hn : fn.name ≠ "runtime.NumGoroutine")
    (h:Awp P H.length c (args++List.replicate (fn.ntmps - args.length) .junk) H fun x env' H1=>match x with
      |.exit _=>False
      |_=>a9q τ fn env' H1 fun r=>Fin H.length r H1 s H'):e8 P f args H s H':=by
  refine ⟨⟨fn,hf,by rw [hb];rfl,hn⟩,fun w ι M vals hl hr hH hM hF=>?_⟩;refine calls_of_wp hf hb ?_;have hi:=Sim.init hl hr hH hM hF (fn.ntmps - args.length);have:=h.out w ι M H _ w rfl hM hi;have e:vals.toArray.size=args.length:=by simpa using hl
  rw [e];refine wp_mono this ?_;rintro e a' w' ⟨x,env',H1,rfl,hq,ι',M',hd,hsz,he,hH',hM',hF',hst⟩;have key:(a9q τ fn env' H1 fun r=>Fin H.length r H1 s H')->a'.defers=[]/\∃v,(results fn a'.tmps).run P w'=.ok v w'/\∃v',Ending.returned v=.returned v'/\K4 w ι M H s H' v' w':=by
   intro hq;refine ⟨hd,?_⟩;obtain ⟨l,hk,vs,h1,h2,h3⟩:=a8K hτ he hH' fn.results.toList hq;have hrun:∃v,(results fn a'.tmps).run P w'=.ok v w'/\v=(if h:vs.length=1 then vs[0] else .tuple vs.toArray):=by
    refine ⟨_,?_,rfl⟩;unfold results;rw [Array.mapM_eq_mapM_toList,Sem.run_bind,Sem.run_map];refine (congrArg (fun r=>Result.andThen (Result.andThen r _) _) h1).trans ?_;simp
   obtain ⟨v,hv1,rfl⟩:=hrun;refine ⟨_,hv1,_,rfl,?_⟩;have hsr:∃r,RS w' ι' M' r (if h:vs.length=1 then vs[0] else .tuple vs.toArray)/\Fin H.length r H1 s H':=by
    match l,hk,h2,h3 with
    |[s1],hk,h2,h3=>
     refine ⟨s1,?_,hk⟩;rw [dif_pos (by simpa using h2)];have:=h3 0 s1 rfl;rw [lbl,lbf (by simp at h2;omega)] at this;exact this
    |[],hk,h2,h3=>
     refine ⟨_,?_,hk⟩;rw [dif_neg (by simp at h2;simp [h2])];exact .tup vs h2 h3
    |s1::s2::r,hk,h2,h3=>
     refine ⟨_,?_,hk⟩;rw [dif_neg (by simp at h2;omega)];exact .tup vs h2 h3
   obtain ⟨r,h4,ρ,f1,f2,f3,f4⟩:=hsr;obtain ⟨g1,g2,g3⟩:=a4p.all f1 f2 f3 rfl hM hH' hst;exact ⟨V5 ρ ι',_,f4.rs hH' h4,g1,fun b hb=>hM' b hb.1,g2,g3⟩
  cases x with
  |normal=>exact key hq
  |ret=>exact key hq
  |exit id=>exact hq.elim
def w8 {P:Program} {τ:Tab} (hτ:G5 P τ) {n0:Nat} {x y:Code} {env:Env} {H:Hp} {Q:AX->Env->Hp->Prop}
 (h:a5M P τ n0 x env H fun a env' H'=>match a with
   |.normal=>Awp P n0 y env' H' Q
   |a=>Q a env' H'):Awp P n0 (.seq x y) env H Q:=by
 refine ⟨fun w0 ι0 M0 H0 a w hn hM hs=>?_⟩;refine wp_seq (wp_mono ((t4 hτ x h).out w0 ι0 M0 H0 a w hn hM hs) ?_);rintro e a' w' ⟨x,env',H',rfl,hq,hs'⟩;cases x with
 |normal=>exact hq.out w0 ι0 M0 H0 a' w' hn hM hs'
 |exit id=>exact ⟨_,env',H',rfl,hq,hs'⟩
 |ret=>exact ⟨_,env',H',rfl,hq,hs'⟩
def a9a {P:Program} {n0:Nat} {x y:Code} {env:Env} {H:Hp} {Q:AX->Env->Hp->Prop}
 (h:Awp P n0 x env H fun a env' H'=>match a with
   |.normal=>Awp P n0 y env' H' Q
   |a=>Q a env' H'):Awp P n0 (.seq x y) env H Q:=by
 refine ⟨fun w0 ι0 M0 H0 a w hn hM hs=>?_⟩;refine wp_seq (wp_mono (h.out w0 ι0 M0 H0 a w hn hM hs) ?_);rintro e a' w' ⟨x,env',H',rfl,hq,hs'⟩;cases x with
 |normal=>exact hq.out w0 ι0 M0 H0 a' w' hn hM hs'
 |exit id=>exact ⟨_,env',H',rfl,hq,hs'⟩
 |ret=>exact ⟨_,env',H',rfl,hq,hs'⟩
def a8w {P:Program} {n0 id:Nat} {c:Code} {env:Env} {H:Hp} {Q:AX->Env->Hp->Prop} (h:Awp P n0 c env H (bH5 id Q)):Awp P n0 (.block id c) env H Q:=by
 refine ⟨fun w0 ι0 M0 H0 a w hn hM hs=>?_⟩;refine wp_block (wp_mono (h.out w0 ι0 M0 H0 a w hn hM hs) ?_);rintro e a' w' ⟨x,env',H',rfl,hq,hs'⟩;cases x with
 |normal=>exact ⟨_,env',H',rfl,hq,hs'⟩
 |exit j=>
  have hq:cond (Nat.beq j id) (Q .normal env' H') (Q (.exit j) env' H'):=hq;show if j=id then _ else _
  by_cases hj:j=id
  ·subst hj;rw [iA rfl];simp only [at7,cond_true] at hq;exact ⟨_,env',H',rfl,hq,hs'⟩
  ·rw [iB hj];have:Nat.beq j id=false:=by
    cases hb:Nat.beq j id with
    |false=>rfl
    |true=>exact absurd (a1m hb) hj
   simp only [this,cond_false] at hq;exact ⟨_,env',H',rfl,hq,hs'⟩
 |ret=>exact ⟨_,env',H',rfl,hq,hs'⟩
def b3Z {P:Program} {n0:Nat} {c:Code} {env env':Env} {H H':Hp} {Q:AX->Env->Hp->Prop} (ρ:List (Option Nat)) (he:Ent n0 ρ env H env' H') (h:Awp P n0 c env' H' Q):Awp P n0 c env H Q:=
 ⟨fun w0 ι0 M0 H0 a w hn hM hs=>h.out w0 ι0 M0 H0 a w hn hM (he.sim hn hM hs)⟩
def B3 {P:Program} {τ:Tab} (hτ:G5 P τ) {n0:Nat} {x y:Code} {env:Env} {H:Hp} {Q:AX->Env->Hp->Prop} (E2:Env) (H2:Hp)
 (h:a5M P τ n0 x env H fun a env' H'=>match a with
   |.normal=>∃ρ,Ent n0 ρ env' H' E2 H2
   |a=>Q a env' H') (h2:Awp P n0 y E2 H2 Q):Awp P n0 (.seq x y) env H Q:=by
 refine ⟨fun w0 ι0 M0 H0 a w hn hM hs=>?_⟩;refine wp_seq (wp_mono ((t4 hτ x h).out w0 ι0 M0 H0 a w hn hM hs) ?_);rintro e a' w' ⟨x,env',H',rfl,hq,hs'⟩;cases x with
 |normal=>obtain ⟨ρ,he⟩:=hq;exact h2.out w0 ι0 M0 H0 a' w' hn hM (he.sim hn hM hs')
 |exit id=>exact ⟨_,env',H',rfl,hq,hs'⟩
 |ret=>exact ⟨_,env',H',rfl,hq,hs'⟩
def ar1 {P:Program} {n0:Nat} {c:Code} {env:Env} {H:Hp} {Q:AX->Env->Hp->Prop} (E:Nat->Env × Hp) (n:Nat) (I:Nat->Prop) (ρ0:List (Option Nat))
 (hI:I 0) (h0:Ent n0 ρ0 env H (E 0).1 (E 0).2)
 (round:∀k,k<=n->I k->Awp P n0 c (E k).1 (E k).2 fun a env' H'=>match a with
   |.normal=>k<n/\I (k+1)/\∃ρ,Ent n0 ρ env' H' (E (k+1)).1 (E (k+1)).2
   |a=>Q a env' H'):Awp P n0 (.loop c) env H Q:=by
 refine a9I (σ:={ k:Nat // k<=n/\I k }) (fun k=>E k.1) (fun k=>n - k.1) ⟨0,G6 _,hI⟩ ρ0 h0 ?_;rintro ⟨k,hk,hi⟩;refine (round k hk hi).mono ?_;intro a env' H' h;cases a with
 |normal=>
  obtain ⟨h1,h2,ρ,h3⟩:=h;exact ⟨ρ,⟨k+1,h1,h2⟩,h3,by show n - (k+1)<n - k;omega⟩
 |exit id=>exact h
 |ret=>exact h
inductive VY (H:Hp) (p:Nat->Prop):C->T->Prop
 |vc {x:C} {y:T} (h:VC H p x y):VY H p x y
 |own {id lo len:Nat} {app:Bool} {size:Nat} {k:Blk} {rows:List (List T)} (hp:p id) (hk:H[id]? =some k) (hd:¬k.mode.gone) (hs:k.size=size) (hl:rows.length=len)
   (hw:∀r ∈ rows,r.length=size) (g:Nat->Nat->C) (hc:∀i j c,at2 rows i j=some c->at2 k.rows (lo+i) j=some (g i j))
   (hx:∀i j c,at2 rows i j=some c->VY H p (g i j) c):VY H p (.own id lo len app) (.sl size .any rows)
 |ptr {id r o:Nat} {k:Blk} {row:List C} {cells:List T} (hp:p id) (hk:H[id]? =some k) (hd:¬k.mode.gone) (hr:k.rows[r]? =some row)
   (g:Nat->C) (hc:∀j c,cells[j]? =some c->row[o+j]? =some (g j)) (hx:∀j c,cells[j]? =some c->VY H p (g j) c):VY H p (.ptr id r o) (.ptr cells)
 |fn {f:Fn} {caps:List C} {caps':List T} (hl:caps.length=caps'.length) (g:Nat->C) (hc:∀j c,caps'[j]? =some c->caps[j]? =some (g j))
   (hx:∀j c,caps'[j]? =some c->VY H p (g j) c):VY H p (.fn f caps) (.fn f caps')
def VYL (H:Hp) (p:Nat->Prop):List C->List T->Prop
 |[],[]=>True
 |x::r,y::r'=>VY H p x y/\VYL H p r r'
 |_,_=>False
def VYL.get {H:Hp} {p:Nat->Prop}:∀{xs:List C} {ys:List T},VYL H p xs ys->xs.length=ys.length/\∀(j:Nat) (c:T),ys[j]? =some c->∃x,xs[j]? =some x/\VY H p x c
 |[],[],_=>⟨rfl,zq⟩
 |x::xs,y::ys,h=>by
  obtain ⟨h1,h2⟩:=VYL.get h.2;refine ⟨by simp [h1],fun j c hc=>?_⟩;cases j with
  |zero=>simp at hc;subst hc;exact ⟨x,rfl,h.1⟩
  |succ j=>simpa using h2 j c (by simpa using hc)
 |[],_::_,h=>h.elim
 |_::_,[],h=>h.elim
def aE2 {H:Hp} {p:Nat->Prop} {x:T}:VY H p (.t x) x:=.vc (a8i (a1E x))
def ac9 {H:Hp} {p:Nat->Prop} {id r o:Nat} {k:Blk} {row:List C} {cells:List T} (hp:p id) (hk:H[id]? =some k) (hd:¬k.mode.gone) (hr:k.rows[r]? =some row) (h:VYL H p (row.drop o) cells):VY H p (.ptr id r o) (.ptr cells):=by
 obtain ⟨h1,h2⟩:=h.get;refine .ptr hp hk hd hr (fun j=>(row.drop o).getD j (.t (.ptr []))) (fun j c hc=>?_) (fun j c hc=>?_)
 ·obtain ⟨x,hx,_⟩:=h2 j c hc;rw [lbj] at hx;rw [lbl,lbj,hx];rfl
 ·obtain ⟨x,hx,hv⟩:=h2 j c hc;rw [lbl,hx];exact hv
def b4t {H:Hp} {p:Nat->Prop} {f:Fn} {caps:List C} {caps':List T} (h:VYL H p caps caps'):VY H p (.fn f caps) (.fn f caps'):=by
 obtain ⟨h1,h2⟩:=h.get;refine .fn h1 (fun j=>caps.getD j (.t (.ptr []))) (fun j c hc=>?_) (fun j c hc=>?_)
 ·obtain ⟨x,hx,_⟩:=h2 j c hc;rw [lbl,hx];rfl
 ·obtain ⟨x,hx,hv⟩:=h2 j c hc;rw [lbl,hx];exact hv
def b2W {H:Hp} {p:Nat->Prop} {id len size:Nat} {app:Bool} {k:Blk} {rows:List (List T)} (hp:p id) (hk:H[id]? =some k) (hd:¬k.mode.gone) (hs:k.size=size) (hl:rows.length=len)
 (hw:∀r ∈ rows,r.length=size) (h:∀(i:Nat) (r:List T),rows[i]? =some r->∃row,k.rows[i]? =some row/\VYL H p row r):VY H p (.own id 0 len app) (.sl size .any rows):=by
 have key:∀i j c,at2 rows i j=some c->∃x,at2 k.rows i j=some x/\VY H p x c:=fun i j c hc=>by
  obtain ⟨r,h1,h2⟩:=J0 hc;obtain ⟨row,h3,h4⟩:=h i r h1;obtain ⟨x,h5,h6⟩:=h4.get.2 j c h2;exact ⟨x,G3 h3 h5,h6⟩
 refine .own hp hk hd hs hl hw (fun i j=>(at2 k.rows i j).getD (.t (.ptr []))) (fun i j c hc=>?_) (fun i j c hc=>?_)
 ·obtain ⟨x,hx,_⟩:=key i j c hc;rw [U8,hx];rfl
 ·obtain ⟨x,hx,hv⟩:=key i j c hc;rw [hx];exact hv
def VY.rt {H:Hp} {p:Nat->Prop} {w:World} {ι:Io} {M M':Ms} (hH:v4 w ι M H) (hM:∀b,M' b->M b) (hp:∀id k b cap size,p id->H[id]? =some k->¬k.mode.gone->ι id=some (.blk b cap size)->¬M' b)
 {x:C} {y:T} (h:VY H p x y):∀{v:Value},RC w ι M x v->RT w M' y v:=by
 induction h with
 |vc h=>intro v hr;exact VC.rt hH hM hp _ _ _ h hr
 |@own id lo len app size k rows hpi hk hd hs hl hw g hc hx ih=>
  intro v hr;cases hr with
  |@own _ _ _ _ b cap sz A cap' hi q1 q2 q3 q4 q5=>
   subst hl;have hbr:=hH.blk id k hk (fun e=>hd (by rw [e];trivial)) _ hi;obtain ⟨r1,r2,r3,r4,r5,cur,r6,r7,r8⟩:=hbr;have hnm:=hp id k b cap sz hpi hk hd hi;have hse:sz=size:=by rw [← hs,r1]
   subst hse;have hat:∀(i j:Nat) (c:T),at2 rows i j=some c->∃u,cur[(lo+i)*sz+j]? =some u/\RT w M' c u:=fun i j c hij=>by
    obtain ⟨u,t1,t2⟩:=r8 _ _ _ (hc i j c hij);exact ⟨u,t1,ih i j c hij t2⟩
   refine .sl (b:=b) (off:=lo*sz) (fun i j=>cur.getD ((lo+i)*sz+j) undef) hw q3 q4 zi zi (fun hne=>q2 (a7H.2 hne)) ?_ ?_
   ·intro i j c hc';obtain ⟨u,s1,s2⟩:=hat i j c hc';refine ⟨?_,hnm⟩;have e:lo*sz+(i*sz+j)=(lo+i)*sz+j:=by rw [X0,a3p]
    simp only [World.cell?];rw [r6,e];simp [s1]
   ·intro i j c hc';obtain ⟨u,s1,s2⟩:=hat i j c hc';have:cur.getD ((lo+i)*sz+j) undef=u:=by simp [s1]
    rw [this];exact s2
  |nil hi=>
   have hr0:rows=[]:=lbF hl;subst hr0;exact .sl (b:=0) (off:=0) (fun _ _=>undef) zq zq (by unfold maxLen;omega) zq zq zq (by simp [at2]) (by simp [at2])
 |@ptr id r o k row cells hpi hk hd hrow g hc hx ih=>
  intro v hr;cases hr with
  |@ptr _ _ _ b cap size hi=>
   have hb:=(hH.blk id k hk (fun e=>hd (by rw [e];trivial)) _ hi).row hrow;have hnm:=hp id k b cap size hpi hk hd hi;refine .ptr (fun j=>(w.cell? ⟨b,r*size+o+j,none⟩).getD undef) (fun j c hj=>?_) (fun j c hj=>?_)
   ·obtain ⟨u,h1,h2⟩:=hb _ _ (hc j c hj);rw [a3p,h1];exact ⟨rfl,hnm⟩
   ·obtain ⟨u,h1,h2⟩:=hb _ _ (hc j c hj);rw [a3p,h1];exact ih j c hj h2
 |@fn f caps caps' hl g hc hx ih=>
  intro v hr;cases hr with
  |fn vs hl' hr=>
   exact .fn vs om fun j c hj=>ih j c hj (hr j _ (hc j c hj))
def VYS (H:Hp) (p:Nat->Prop) (s s':S):Prop:=
 match s' with
 |.junk=>True
 |.c y=>match s,y with
  |.c x,.t y=>VY H p x y
  |_,_=>False
 |.agg ys=>match s with
  |.agg xs=>∃ts,ys=ts.map C.t/\VYL H p xs ts
  |_=>False
 |.tup _=>False
def VYS.rs {H:Hp} {p:Nat->Prop} {w:World} {ι ι':Io} {M M':Ms} (hH:v4 w ι M H) (hM:∀b,M' b->M b) (hp:∀id k b cap size,p id->H[id]? =some k->¬k.mode.gone->ι id=some (.blk b cap size)->¬M' b)
 {x y:S} {v:Value} (h:VYS H p x y) (hr:RS w ι M x v):RS w ι' M' y v:=by
 cases y with
 |junk=>exact .junk
 |c y=>
  cases x with
  |c x=>
   cases y with
   |t y=>
    cases hr with
    |c hr=>exact .c (.t (VY.rt hH hM hp h hr))
   |_=>exact False.elim h
  |_=>exact False.elim h
 |agg ys=>
  cases x with
  |agg xs=>
   obtain ⟨ts,rfl,h⟩:=h;obtain ⟨h1,h2⟩:=h.get;cases hr with
   |agg vs hl hr=>
    refine .agg vs zo fun j c hj=>?_
    rw [lba] at hj;cases hj':ts[j]? with
    |none=>rw [hj'] at hj;cases hj
    |some c'=>
     rw [hj'] at hj;injection hj with hj;subst hj;obtain ⟨x,hx,hv⟩:=h2 j c' hj';exact .t (VY.rt hH hM hp hv (hr j x hx))
  |_=>exact False.elim h
 |tup _=>exact False.elim h
def a0N (H:Hp) (p:Nat->Prop):List S->List S->Prop
 |[],[]=>True
 |s::r,s'::r'=>VYS H p s s'/\a0N H p r r'
 |_,_=>False
def a0N.get {H:Hp} {p:Nat->Prop}:∀{l l':List S},a0N H p l l'->l.length=l'.length/\∀(j:Nat) (s':S),l'[j]? =some s'->∃s,l[j]? =some s/\VYS H p s s'
 |[],[],_=>⟨rfl,zq⟩
 |s::r,s'::r',h=>by
  obtain ⟨h1,h2⟩:=a0N.get h.2;refine ⟨by simp [h1],fun j t ht=>?_⟩;cases j with
  |zero=>simp at ht;subst ht;exact ⟨s,rfl,h.1⟩
  |succ j=>simpa using h2 j t (by simpa using ht)
 |[],_::_,h=>h.elim
 |_::_,[],h=>h.elim
def m6 {P:Program} {g:FuncId} {args args':List S} {H:Hp} {r:S} (h:e8 P g args' [] r []) (ha:a0N H tT args args') (hr:r.flat=true):a0k P g args H r []:=by
 refine ⟨h.1,fun w ι M vals hl hv hH hM hf=>?_⟩;obtain ⟨hlen,hget⟩:=a0N.get ha;have:=h.2 w (fun _=>none) (fun _=>False) vals om (fun j s hj=>by
  obtain ⟨x,hx,hs⟩:=hget j s hj;exact hs.rs hH (fun _ h=>h.elim) (fun _ _ _ _ _ _ _ _ _ h=>h) (hv j x hx))
  .none (fun _ h=>h.elim) (fun _ _=>rfl)
 refine Calls.mono this ?_;rintro e w' ⟨v,rfl,ι',M',h1,h2,h3,h4,h5⟩;exact ⟨v,rfl,O7.of_none (h1.flat hr) ⟨h5.os,h5.tape,h5.output,h5.size,fun b hb=>h5.keep b hb zC⟩⟩
def b29 {w0:World} {ι0:Io} {M0:Ms} {a:Act} {w:World} {env env':Env} {H:Hp} (hM0:MB w0 M0) (h:a0N H tT env env') (hs:Sim w0 ι0 M0 [] a w env H):Sim w0 ι0 M0 [] a w env' []:=by
 obtain ⟨ι,M,hd,hsz,he,hH,hM,hF,hst⟩:=hs;obtain ⟨hel,heg⟩:=h.get;obtain ⟨q1,q2,q3⟩:=a4p.all (ρ:=[]) (H:=H) (H':=[]) (n0:=0) rfl rfl trivial rfl hM0 hH hst;refine ⟨V5 [] ι,_,hd,om,fun t s' ht=>?_,q1,fun b hb=>hM b hb.1,q2,q3⟩;obtain ⟨s,r1,r2⟩:=heg t s' ht;refine r2.rs hH (fun b hb=>hb.1) ?_ (he t s r1);intro id k b cap size _ hk hd hi hb;exact hb.2 ⟨id,k,cap,size,rfl,hk,hd,hi⟩
def b7s {P:Program} {τ:Tab} (hτ:G5 P τ) {x y:Code} {env:Env} {H:Hp} {Q:AX->Env->Hp->Prop} (E2:Env)
 (h:a5M P τ 0 x env H fun a env' H'=>match a with
   |.normal=>a0N H' tT env' E2
   |a=>Q a env' H') (h2:Awp P 0 y E2 [] Q):Awp P 0 (.seq x y) env H Q:=by
 refine ⟨fun w0 ι0 M0 H0 a w hn hM hs=>?_⟩;obtain rfl:H0=[]:=lbF hn;refine wp_seq (wp_mono ((t4 hτ x h).out w0 ι0 M0 [] a w hn hM hs) ?_);rintro e a' w' ⟨x,env',H',rfl,hq,hs'⟩;cases x with
 |normal=>exact h2.out w0 ι0 M0 [] a' w' hn hM (b29 hM hq hs')
 |exit id=>exact ⟨_,env',H',rfl,hq,hs'⟩
 |ret=>exact ⟨_,env',H',rfl,hq,hs'⟩
def a5C (i n:Int):ec 266 [eI i,eI n] [] (m9 (idx i n)) []:=by
 refine ac Tryz.func266 ?_;conv=>whnf
 repeat' (first|refine zx ?_|apply zD<;>intro<;>try omega)<;>conv=>whnf
 all_goals (refine j1 ?_;simp only [idx];simp;omega)
def a4o (n lo hi:Int):ec 146 [eI n,eI lo,eI hi] [] (m9 (btw n lo hi)) []:=by
 refine ac Tryz.func146 ?_;conv=>whnf
 repeat' (first|refine zx ?_|apply zD<;>intro<;>try omega)<;>conv=>whnf
 all_goals (refine j1 ?_;simp only [btw];simp;omega)
def b4I (p:Int × Int):List T:=[ti p.1,ti p.2]
def aH0 (e:Ev):List (Int × Int):=[(e.mats,6),(e.hhs,100),(e.scs,30),(e.places.length,100),(e.moves.length,200),(e.certs.length,100),(e.recalls.length,30),(e.purities.length,200)]
def aG1 (e:Ev):a3q e=(aH0 e).any fun p=>decide (p.2<p.1):=by
 rw [Bool.eq_iff_iff];simp [a3q,aH0];omega
set_option maxRecDepth 100000 in
def bC6 (e:Ev) (hs:e.Sized):e8 Tryz.prog 192 [evS e] [] (m9 (a3q e)) []:=by
 (refine ac Tryz.func192 ?_;(conv=>whnf);repeat (refine zy ?_;conv=>whnf))
 have hl:(aH0 e).length=8:=rfl
 refine k5 g8 (fun k=>(Jn 34++[S.c (C.t (T.sl 2 .full ((aH0 e).map b4I))),e7 .i64 8,e7 .i64 k]++Jn 9,[])) 8 (fun k=>((aH0 e).take k).any (fun p=>decide (p.2<p.1))=false) [] rfl
  ⟨rfl,rfl,trivial,⟨m7 (by simp [aH0,b4I]),rfl,rfl,trivial⟩⟩ ?_
 intro k hk hI
 conv=>whnf
 repeat' (first|refine zx ?_|refine zd ?_ ?_<;>intro h<;>try omega|fail)<;>conv=>whnf
 ·have hlt:k<8:=by omega
  refine j6 (lbf (hl ▸ hlt)) ?_
  conv=>whnf
  repeat' (first|refine zx ?_|refine zd ?_ ?_<;>intro h<;>try omega|fail)<;>conv=>whnf
  ·refine j1 ?_
   rw [aG1,a5d (lbf (hl ▸ hlt))]
   simpa using ‹_ > _›
  ·refine ⟨hlt,?_,[],rfl,rfl,trivial,⟨rfl,rfl,rfl,trivial⟩⟩
   rw [a1S (lbf (hl ▸ hlt)),hI]
   have h:=‹¬ _ > _›
   simp;omega
 ·refine j1 ?_
  rw [aG1,←hI,lbn om]
def b6I (e:Ev) (hs:e.Sized):e8 Tryz.prog 193 [evS e] [] (m9 (e.places.all (a0C e))) []:=by
 have l1:=hs.s1
 have l2:(e.places.map a0l.row).length=e.places.length:=zq
 (refine ac Tryz.func193 ?_;(conv=>whnf);repeat (refine zy ?_;conv=>whnf))
 refine k5 g8 (fun k=>([J,S.c (C.ptr 0 0 0),J,J,J,J,S.c (C.t (a7v e.places)),e7 .i64 e.places.length,e7 .i64 k]++Jn 36,[evB e])) e.places.length (fun k=>(e.places.take k).all (a0C e)=true) [some 0] rfl
  ⟨rfl,rfl,⟨⟨rfl,rfl,rfl,.inl ⟨rfl,E6 e⟩⟩,trivial⟩,⟨⟨rfl,rfl,rfl⟩,m7 rfl,g9 zq,g9 rfl,trivial⟩⟩ ?_
 intro k hk hI
 conv=>whnf
 repeat' (first|refine zx ?_|refine zd ?_ ?_<;>intro h<;>try omega|fail)<;>conv=>whnf
 ·have hlt:k<e.places.length:=by omega
  obtain ⟨x,hx⟩:∃x,e.places[k]? =some x:=⟨_,lbf hlt⟩
  refine j6 hx ?_
  conv=>whnf
  repeat' (first|refine zx ?_|refine qp (a5C _ _) ?_|refine zd ?_ ?_<;>intro h<;>try omega|fail)<;>conv=>whnf
  all_goals first
   |(refine ⟨hlt,?_,[some 0],rfl,rfl,⟨⟨rfl,rfl,rfl,.inl ⟨rfl,E6 e⟩⟩,trivial⟩,⟨⟨rfl,rfl,rfl⟩,rfl,rfl,rfl,trivial⟩⟩;rw [D3 hx,hI];simp_all [a0C];done)
   |(refine j1 ?_;rw [G9 hx];simp_all [a0C];done)
 ·refine j1 ?_
  rw [← hI,lbn om]
def a7p {e:Ev} {i:Int} (h:idx i e.places.length=true):0<=i/\∃x,e.places[i.toNat]? =some x/\N9 e i=x.kind:=by
 have h':=aO9.1 h;have hlt:i.toNat<e.places.length:=om;refine ⟨h'.1,_,lbf hlt,?_⟩;unfold N9;rw [lbf hlt];rfl
def bw3 (e:Ev) (m:C6) (hs:e.Sized):ec 194 [evS e,b5c m] [] (m9 (O5 e m)) []:=by
 have l1:=hs.s1;have l2:(e.places.map a0l.row).length=e.places.length:=zq;by_cases h1:idx m.src e.places.length=true
 ·obtain ⟨hs0,x,hx,kx⟩:=a7p h1;by_cases h2:idx m.dst e.places.length=true
  ·obtain ⟨hd0,y,hy,ky⟩:=a7p h2;refine ac Tryz.func194 ?_;conv=>whnf
   rw [← l2] at h1 h2
   repeat' (first|refine zx ?_|refine qp (a5C _ _) ?_|refine qp (a4o _ _ _) ?_|refine K3 hs0 hx ?_|refine K3 hd0 hy ?_|apply zD<;>intro<;>try omega)<;>conv=>whnf
   all_goals (refine j1 ?_;simp_all [O5];done)
  ·refine ac Tryz.func194 ?_;conv=>whnf
   rw [← l2] at h1 h2
   repeat' (first|refine zx ?_|refine qp (a5C _ _) ?_|apply zD<;>intro<;>try omega)<;>conv=>whnf
   all_goals first|(exfalso;simp_all;done)|(refine j1 ?_;simp_all [O5];done)
 ·refine ac Tryz.func194 ?_;conv=>whnf
  rw [← l2] at h1
  repeat' (first|refine zx ?_|refine qp (a5C _ _) ?_|apply zD<;>intro<;>try omega)<;>conv=>whnf
  all_goals first|(exfalso;simp_all;done)|(refine j1 ?_;simp_all [O5];done)
def bF9 (e:Ev) (hs:e.Sized):e8 Tryz.prog 195 [evS e] [] (m9 (a0K e)) []:=by
 have l1:=hs.s3
 have l2:(e.certs.map P5.row).length=e.certs.length:=zq
 have l3:=hs.s4
 have l4:(e.recalls.map J1.row).length=e.recalls.length:=zq
 have l5:=hs.s5
 have l6:(e.purities.map a2j.row).length=e.purities.length:=zq
 have l7:=hs.s2
 have l8:(e.moves.map C6.row).length=e.moves.length:=zq
 (refine ac Tryz.func195 ?_;(conv=>whnf);repeat (refine zy ?_;conv=>whnf))
 refine k5 g8 (fun k=>([J,S.c (C.ptr 0 0 0),J,J,J,J,J,J,J,J,J,S.c (C.t (a1y e.certs)),e7 .i64 e.certs.length,e7 .i64 k]++Jn 107,[evB e])) e.certs.length (fun k=>(e.certs.take k).all (a4X e)=true) [some 0] rfl
  ⟨rfl,rfl,⟨⟨rfl,rfl,rfl,.inl ⟨rfl,E6 e⟩⟩,trivial⟩,⟨⟨rfl,rfl,rfl⟩,m7 rfl,g9 zq,g9 rfl,trivial⟩⟩ ?_
 intro k hk hI
 conv=>whnf
 repeat' (first|refine zx ?_|refine zd ?_ ?_<;>intro h<;>try omega|fail)<;>conv=>whnf
 ·have hlt:k<e.certs.length:=by omega
  obtain ⟨x,hx⟩:∃x,e.certs[k]? =some x:=⟨_,lbf hlt⟩
  refine j6 hx ?_
  conv=>whnf
  repeat' (first|refine zx ?_|refine qp (a5C _ _) ?_|refine qp (a4o _ _ _) ?_|refine zd ?_ ?_<;>intro h<;>try omega|fail)<;>conv=>whnf
  all_goals first
   |(refine ⟨hlt,?_,[some 0],rfl,rfl,⟨⟨rfl,rfl,rfl,.inl ⟨rfl,E6 e⟩⟩,trivial⟩,⟨⟨rfl,rfl,rfl⟩,rfl,rfl,rfl,trivial⟩⟩;rw [D3 hx,hI];simp_all [a4X];done)
   |(refine j1 ?_;rw [a0K,G9 hx];rfl;simp_all [a4X];(try omega);done)
 ·have hc:e.certs.all (a4X e)=true:=by rw [← hI,lbn om]
  clear hI h hk
  refine k5 g8 (fun k=>([J,S.c (C.ptr 0 0 0)]++Jn 60++[S.c (C.t (Q9 e.recalls)),e7 .i64 e.recalls.length,e7 .i64 k]++Jn 56,[evB e])) e.recalls.length (fun k=>(e.recalls.take k).all (a17 e)=true) [some 0] rfl
   ⟨rfl,rfl,⟨⟨rfl,rfl,rfl,.inl ⟨rfl,E6 e⟩⟩,trivial⟩,⟨⟨rfl,rfl,rfl⟩,m7 rfl,g9 zq,g9 rfl,trivial⟩⟩ ?_
  intro k hk hI
  conv=>whnf
  repeat' (first|refine zx ?_|refine zd ?_ ?_<;>intro h<;>try omega|fail)<;>conv=>whnf
  ·have hlt:k<e.recalls.length:=by omega
   obtain ⟨x,hx⟩:∃x,e.recalls[k]? =some x:=⟨_,lbf hlt⟩
   refine j6 hx ?_
   conv=>whnf
   repeat' (first|refine zx ?_|refine qp (a5C _ _) ?_|refine qp (a4o _ _ _) ?_|refine zd ?_ ?_<;>intro h<;>try omega|fail)<;>conv=>whnf
   all_goals first
    |(refine ⟨hlt,?_,[some 0],rfl,rfl,⟨⟨rfl,rfl,rfl,.inl ⟨rfl,E6 e⟩⟩,trivial⟩,⟨⟨rfl,rfl,rfl⟩,rfl,rfl,rfl,trivial⟩⟩;rw [D3 hx,hI];simp_all [a17];done)
    |(refine j1 ?_;rw [a0K,hc,G9 hx];rfl;simp_all [a17];done)
  ·have hr:e.recalls.all (a17 e)=true:=by rw [← hI,lbn om]
   clear hI h hk
   refine k5 g8 (fun k=>([J,S.c (C.ptr 0 0 0)]++Jn 80++[S.c (C.t (a2H e.purities)),e7 .i64 e.purities.length,e7 .i64 k]++Jn 36,[evB e])) e.purities.length (fun k=>(e.purities.take k).all (a12 e)=true) [some 0] rfl
    ⟨rfl,rfl,⟨⟨rfl,rfl,rfl,.inl ⟨rfl,E6 e⟩⟩,trivial⟩,⟨⟨rfl,rfl,rfl⟩,m7 rfl,g9 zq,g9 rfl,trivial⟩⟩ ?_
   intro k hk hI
   conv=>whnf
   repeat' (first|refine zx ?_|refine zd ?_ ?_<;>intro h<;>try omega|fail)<;>conv=>whnf
   ·have hlt:k<e.purities.length:=by omega
    obtain ⟨x,hx⟩:∃x,e.purities[k]? =some x:=⟨_,lbf hlt⟩
    refine j6 hx ?_
    conv=>whnf
    repeat' (first|refine zx ?_|refine qp (a5C _ _) ?_|refine qp (a4o _ _ _) ?_|refine zd ?_ ?_<;>intro h<;>try omega|fail)<;>conv=>whnf
    all_goals first
     |(refine ⟨hlt,?_,[some 0],rfl,rfl,⟨⟨rfl,rfl,rfl,.inl ⟨rfl,E6 e⟩⟩,trivial⟩,⟨⟨rfl,rfl,rfl⟩,rfl,rfl,rfl,trivial⟩⟩;rw [D3 hx,hI];simp_all [a12];done)
     |(refine j1 ?_;rw [a0K,hc,hr,G9 hx];rfl;simp_all [a12];(try omega);done)
   ·have hp:e.purities.all (a12 e)=true:=by rw [← hI,lbn om]
    refine j1 ?_
    rw [a0K,hc,hr,hp];rfl
def a4a (e:Ev):Nat->Int
 |0=>0
 |k+1=>((e.moves[k]?).map (·.day)).getD 0
def a2O {e:Ev} {k:Nat} {m:C6} (h:e.moves[k]? =some m):a4a e (k+1)=m.day:=by simp [a4a,h]
def a1Y {α:Type} {l:List α} {k:Nat} {x:α} (h:l[k]? =some x):l.drop k=x::l.drop (k+1):=by
 obtain ⟨h1,h2⟩:=lbe.1 h;rw [a3k h1,h2]
def b4O (e:Ev) (hs:e.Sized):e8 Tryz.prog 123 [evS e] [] (e7 .i64 (I1 e)) []:=by
 have l7:=hs.s2
 have l8:(e.moves.map C6.row).length=e.moves.length:=zq
 (refine ac Tryz.func123 ?_;(conv=>whnf);repeat (refine zy ?_;conv=>whnf))
 repeat' (first|refine zx ?_|refine qp (bC6 _ hs) ?_|refine qp (b6I _ hs) ?_|refine zd ?_ ?_<;>intro h<;>try omega|fail)<;>conv=>whnf
 case refine_2.refine_2.refine_2.refine_2.refine_1 hf h1 h2 h3=>
  have h4:=h
  clear h
  have hpre:¬(e.mats<1\/e.hhs<0\/e.scs<0\/e.places.all (a0C e)=false):=by
   rintro (h|h|h|h)
   ·omega
   ·omega
   ·omega
   ·rw [h4] at h;cases h
  have hck:I1 e=if E4 e 0 e.moves≠0 then E4 e 0 e.moves else if a0K e then 0 else 1:=by
   unfold I1;rw [iB (by simp [hf]),iB hpre]
  refine k5 g8 (fun k=>([J,S.c (C.ptr 0 0 0),J,e7 .i64 (a4a e k)]++Jn 25++[S.c (C.t (a5i e.moves)),e7 .i64 e.moves.length,e7 .i64 k]++Jn 22,[evB e])) e.moves.length (fun k=>E4 e 0 e.moves=E4 e (a4a e k) (e.moves.drop k)) [some 0] rfl
   ⟨rfl,rfl,⟨⟨rfl,rfl,rfl,.inl ⟨rfl,E6 e⟩⟩,trivial⟩,⟨⟨rfl,rfl,rfl⟩,g9 rfl,m7 rfl,g9 zq,g9 rfl,trivial⟩⟩ ?_
  intro k hk hI
  conv=>whnf
  repeat' (first|refine zx ?_|refine zd ?_ ?_<;>intro h<;>try omega|fail)<;>conv=>whnf
  ·have hlt:k<e.moves.length:=by omega
   obtain ⟨x,hx⟩:∃x,e.moves[k]? =some x:=⟨_,lbf hlt⟩
   rw [a1Y hx,E4] at hI
   refine j6 hx ?_
   conv=>whnf
   repeat' (first|refine zx ?_|refine qp (bw3 _ x hs) ?_|refine zd ?_ ?_<;>intro h<;>try omega|fail)<;>conv=>whnf
   all_goals first
    |(refine ⟨hlt,?_,[some 0],rfl,rfl,⟨⟨rfl,rfl,rfl,.inl ⟨rfl,E6 e⟩⟩,trivial⟩,⟨⟨rfl,rfl,rfl⟩,?_,rfl,rfl,rfl,trivial⟩⟩
      ·rw [a2O hx,hI,iB om,iA (by assumption)]
      ·rw [a2O hx];exact rfl)
    |(have e1:E4 e 0 e.moves=17:=by rw [hI,iA om]
      refine p9 ?_;rw [hck,e1];rfl)
    |(have e1:E4 e 0 e.moves=1:=by rw [hI,iB om,iB (by simp_all)]
      refine p9 ?_;rw [hck,e1];rfl)
  ·rw [b31 om,E4] at hI
   repeat' (first|refine zx ?_|refine qp (bF9 _ hs) ?_|refine zd ?_ ?_<;>intro h<;>try omega|fail)<;>conv=>whnf
   all_goals (refine p9 ?_;rw [hck,hI];simp_all)
 all_goals (refine p9 ?_;unfold I1;simp_all;try omega)
def aT9 {x y:Rat}:a8x x y<0↔x<y:=by unfold a8x;split<;>(try split)<;>simp_all
def b8Z (x y:Rat):-1<=a8x x y/\a8x x y<=1:=by unfold a8x;split<;>(try split)<;>omega
def bu8 (x y:Rat) (lx:rl x<=60000) (ly:rl y<=60000):ec 258 [frS (fz x),frS (fz y)] [] (.tup [frS (fz (aM9 x y)),eI 0]) []:=by
 have e:ec 313 [frS (fz x),frS (fz y),eI 1] [] (.tup [frS (fz (aM9 x y)),eI 0]) []:=by
  have r1:=P1 x om;have r2:=P1 y om;have x1:=K6 x;have x2:=J9 x;have y1:=K6 y;have y2:=J9 y;have c:=aA6 x y lx ly;have hr:=b8Z x y;have s1:=as6 x.num om;have s2:=as6 x.den om;have s3:=as6 y.num om;have s4:=as6 y.den om;refine ac Tryz.func313 ?_;conv=>whnf
  repeat' (first|refine zx ?_|apply zD<;>intro h<;>try omega)<;>conv=>whnf
  ·have h:a8x x y<0:=by omega
   refine a0H (f:=fz y) ?_;unfold aM9;rw [iA (aT9.1 h)]
  ·have h:¬a8x x y<0:=by omega
   refine a0H (f:=fz x) ?_;unfold aM9;rw [iB (fun h'=>h (aT9.2 h'))]
 refine ac Tryz.func258 ?_;conv=>whnf
 repeat' (first|refine zx ?_|apply zD<;>intro h<;>try omega)<;>conv=>whnf
 all_goals exact a0H rfl
def a6i (n m:Int):ec 312 [eI n,eI m] [] (m9 (btw n 0 m)) []:=by
 refine ac Tryz.func312 ?_;conv=>whnf
 repeat' (first|refine zx ?_|apply zD<;>intro<;>try omega)<;>conv=>whnf
 all_goals (refine j1 ?_;unfold btw;simp;omega)
abbrev b0j (c:P5):S:=.agg (c.row.map .t)
def aI3 (n:Int):btw n 0 29=idx n 30:=b4d n 30
def b0F (c:P5):ec 331 [b0j c] [] (m9 (U3 c)) []:=by
 have w1:=a6i c.scale 29;have w2:=a6i c.grams 1099511627776;have w3:=a6i c.permille 1000;have w4:=a6i c.drift 10000000;rw [aI3] at w1;unfold U3;cases h1:idx c.scale 30<;>cases h2:btw c.grams 0 1099511627776<;>cases h3:btw c.permille 0 1000<;>cases h4:btw c.drift 0 10000000<;>rw [h1] at w1<;>rw [h2] at w2<;>rw [h3] at w3<;>rw [h4] at w4<;>
 ·refine ac Tryz.func331 ?_;conv=>whnf
  repeat' (first|refine zx ?_|apply zD<;>intro<;>try omega)<;>conv=>whnf
  all_goals (refine j1 ?_;simp;try omega)
def b0D (c:P5) (day:Int):ec 309 [b0j c,eI day] [] (m9 (O0 c day)) []:=by
 have w1:=b0F c;unfold O0;cases h1:U3 c<;>rw [h1] at w1<;>
 ·refine ac Tryz.func309 ?_;conv=>whnf
  repeat' (first|refine zx ?_|apply zD<;>intro<;>try omega)<;>conv=>whnf
  all_goals (refine j1 ?_;simp [btw];try omega)
def b1M {cs:List P5} {k:Nat} {c:P5} (h:cs[k]? =some c):aS8 cs k=c.since:=by unfold aS8;rw [h];rfl
abbrev bl7 (n:Int):T:=.ptr [ti n]
def b4A {a b:Bool} {ρ:List (Option Nat)} {H:Hp} (h:a=b):a7B ρ H (m9 a) (m9 b):=by subst h;exact rfl
def aa0 (o:Option Nat):Nat:=o.getD 0
def bu9 (cs:List P5) (scale day:Int) (hl:cs.length<=1000000):
 ec 255 [.c (.t (a1y cs)),eI scale,eI day] [] (.tup [eI (aa0 (H3 cs scale day cs.length)),m9 (H3 cs scale day cs.length).isSome]) []:=by
 have l1:(cs.map P5.row).length=cs.length:=zq;refine ac Tryz.func255 ?_;conv=>whnf
 repeat' (first|refine zx ?_|apply zD<;>intro<;>try omega)<;>conv=>whnf
 refine k5 g8 (fun k=>([S.c (C.t (a1y cs)),eI scale,eI day,J,J,J,J,J,eI (aa0 (H3 cs scale day k)),m9 (H3 cs scale day k).isSome,J,J,S.c (C.t (a1y cs)),eI cs.length,eI k]++Jn 31,[])) cs.length tT [] trivial
  ⟨rfl,rfl,trivial,⟨m7 rfl,rfl,rfl,rfl,rfl,m7 rfl,g9 zq,rz⟩⟩ ?_
 intro k hk _;by_cases hlt:k<cs.length
 ·obtain ⟨c,hc⟩:∃c,cs[k]? =some c:=⟨_,lbf hlt⟩;have cv:=b0D c day;have hst:H3 cs scale day (k+1)=if decide (c.scale=scale) && O0 c day && a5K cs (H3 cs scale day k) c then some k else H3 cs scale day k:=by
   conv=>lhs;unfold H3
   rw [hc]
  cases hcv:O0 c day with
  |false=>
   rw [hcv] at cv hst;simp only [aT7,a2i,a7N,if_false] at hst;rw [← hst];conv=>whnf
   repeat' (first|refine zx ?_|refine j6 hc ?_|apply zD<;>intro<;>try omega)<;>conv=>whnf
   all_goals first
    |omega
    |exact ⟨hlt,trivial,[],rz⟩
  |true=>
   rw [hcv] at cv hst;cases hf:H3 cs scale day k with
   |none=>
    rw [hf] at hst;conv=>whnf
    repeat' (first|refine zx ?_|refine j6 hc ?_|apply zD<;>intro<;>try omega)<;>conv=>whnf
    ·exact ⟨hlt,trivial,[],rfl,rfl,trivial,⟨rfl,rfl,rfl,g9 (by rw [hst];simp [*,a5K,aa0]),b4A (by rw [hst];simp [*,a5K]),rz⟩⟩
    ·exact ⟨hlt,trivial,[],rfl,rfl,trivial,⟨rfl,rfl,rfl,g9 (by rw [hst];simp [*,a5K,aa0]),b4A (by rw [hst];simp [*,a5K]),rz⟩⟩
   |some b=>
    rw [hf] at hst;obtain ⟨hb,cb,hcb,_⟩:=Q8 hf;have hsb:=b1M hcb;conv=>whnf
    repeat' (first|refine zx ?_|refine j6 hc ?_|refine j6 hcb ?_|apply zD<;>intro<;>try omega)<;>conv=>whnf
    all_goals first|exact ⟨hlt,trivial,[],rfl,rfl,trivial,⟨rfl,rfl,rfl,g9 (by rw [hst];simp [*,a5K,aa0]),b4A (by rw [hst];simp [*,a5K]),rz⟩⟩|(exfalso;simp_all;done)
 ·have hke:k=cs.length:=by omega
  subst hke;conv=>whnf
  repeat' (first|refine zx ?_|apply zD<;>intro<;>try omega)<;>conv=>whnf
  all_goals first|omega|exact p7 rz
def aS9 (r:J1) (scale day:Int):ec 311 (.agg (r.row.map .t)::[bl7 scale,bl7 day].map fun x=>.c (.t x)) [] (m9 (decide (r.scale=scale) && decide (r.since<=day))) []:=by
 refine ac Tryz.func311 ?_;conv=>whnf
 repeat' (first|refine zx ?_|apply zD<;>intro<;>try omega)<;>conv=>whnf
 all_goals (refine j1 ?_;simp [*];try omega)
abbrev bA3 (r:J1):S:=.agg (r.row.map .t)
def N6 {α:Type} (q:α->Bool):List α->Nat->Int
 |[],_=>-1
 |x::r,k=>if q x then k else N6 q r (k+1)
def a3f {α:Type} (q:α->Bool):∀(l:List α) (k:Nat),decide (0<=N6 q l k)=l.any q
 |[],k=>by simp [N6]
 |x::r,k=>by
  unfold N6;rw [List.any_cons];cases h:q x with
  |true=>simp
  |false=>simpa using a3f q r (k+1)
def b2B (rs:List J1) (hl:rs.length<=1000000) (g:FuncId) (caps:List T) (q:J1->Bool) (hg:∀r ∈ rs,ec g (bA3 r::caps.map fun x=>.c (.t x)) [] (m9 (q r)) []):
 ec 332 [.c (.t (Q9 rs)),.c (.t (.fn (.func g) caps))] [] (eI (N6 q rs 0)) []:=by
 have l1:(rs.map J1.row).length=rs.length:=zq;refine ac Tryz.func332 ?_;conv=>whnf
 repeat' (first|refine zx ?_|apply zD<;>intro<;>try omega)<;>conv=>whnf
 refine k5 g8 (fun k=>([S.c (C.t (Q9 rs)),S.c (C.t (T.fn (.func g) caps)),J,J,J,J,J,eI rs.length,eI k]++Jn 10,[])) rs.length (fun k=>N6 q (rs.drop k) k=N6 q rs 0) [] rfl
  ⟨rfl,rfl,trivial,⟨m7 rfl,m7 rfl,g9 zq,rz⟩⟩ ?_
 intro k hk hI;by_cases hlt:k<rs.length
 ·obtain ⟨r,hr⟩:∃r,rs[k]? =some r:=⟨_,lbf hlt⟩;have hd:rs.drop k=r::rs.drop (k+1):=by
   rw [a3k hlt];rw [lbf hlt] at hr;injection hr with hr;rw [hr]
  have hgr:=hg r (lbm hr);have ha:(bA3 r::caps.map fun x=>S.c (C.t x)).all S.isT=true:=by simp [S.isT,C.isT,J1.row]
  rw [hd] at hI;have hI:(if q r then (k:Int) else N6 q (rs.drop (k+1)) (k+1))=N6 q rs 0:=hI;cases hq:q r with
  |true=>
   rw [hq] at hgr hI;conv=>whnf
   repeat' (first|refine zx ?_|refine .inl ⟨_,_,I4 hgr ha rfl,?_⟩|refine j6 hr ?_|apply zD<;>intro<;>try omega)<;>conv=>whnf
   all_goals first
    |omega
    |exact p9 hI
  |false=>
   rw [hq] at hgr hI;conv=>whnf
   repeat' (first|refine zx ?_|refine .inl ⟨_,_,I4 hgr ha rfl,?_⟩|refine j6 hr ?_|apply zD<;>intro<;>try omega)<;>conv=>whnf
   all_goals first|omega|exact ⟨hlt,by simpa using hI,[],rz⟩
 ·have hke:k=rs.length:=by omega
  subst hke;rw [lbo (lbR _)] at hI;conv=>whnf
  repeat' (first|refine zx ?_|apply zD<;>intro<;>try omega)<;>conv=>whnf
  all_goals first|omega|exact p9 hI
def aD1 (rs:List J1) (hl:rs.length<=1000000) (g:FuncId) (caps:List T) (q:J1->Bool) (hg:∀r ∈ rs,ec g (bA3 r::caps.map fun x=>.c (.t x)) [] (m9 (q r)) []):
 ec 310 [.c (.t (Q9 rs)),.c (.t (.fn (.func g) caps))] [] (m9 (rs.any q)) []:=by
 have ix:=b2B rs hl g caps q hg;refine ac Tryz.func310 ?_;conv=>whnf
 repeat' (first|refine zx ?_|apply zD<;>intro<;>try omega)<;>conv=>whnf
 all_goals (refine j1 ?_;rw [← a3f q rs 0];simp;omega)
def b35 (rs:List J1) (hl:rs.length<=1000000) (scale day:Int):ec 256 [.c (.t (Q9 rs)),eI scale,eI day] [] (m9 (a2J rs scale day)) []:=by
 have ct:=aD1 rs hl 311 [bl7 scale,bl7 day] _ (fun r _=>aS9 r scale day)
 (refine ac Tryz.func256 ?_;(conv=>whnf);repeat ((first|refine b0x ?_|refine zy ?_);conv=>whnf))
 repeat' (first|refine zx ?_|apply zD<;>intro<;>try omega)<;>conv=>whnf
 all_goals (refine j1 ?_;symm;assumption)
def a4S {c:P5} {day:Int} (h:O0 c day=true):0<=c.since/\c.since<=day/\day<=c.till/\c.till<=100000/\0<=c.grams/\c.grams<=1099511627776/\0<=c.permille/\c.permille<=1000/\0<=c.drift/\c.drift<=10000000:=by
 unfold O0 U3 btw at h;simp only [lbN,lbI] at h;omega
abbrev a0z:Fr:=⟨⟨0,[]⟩,⟨0,[]⟩⟩
def b84 {f f':Fr} {b b':Bool} {H1:Hp} (h:f=f') (h2:b=b'):Fin 0 (.tup [frS f,m9 b]) H1 (.tup [frS f',m9 b']) []:=by
 subst h h2;exact p7 rz
structure b9t (c:P5) (reading day:Int):Prop where
 p0:0<=c.permille*reading
 p1:c.permille*reading<=1000*1099511627776
 d0:0<=c.drift*(day - c.since)
 d1:c.drift*(day - c.since)<=10000000*100000
def b9t.of {c:P5} {reading day:Int} (h:O0 c day=true) (hr:btw reading 0 1099511627776=true):b9t c reading day:=by
 have hc:=a4S h;rw [a0d] at hr;exact ⟨lb0 om om,a5E om om om om,lb0 om om,a5E om om om om⟩
def b2m {c:P5} {reading day:Int} (h:O0 c day=true) (hr:btw reading 0 1099511627776=true):rl (a3n c reading day)<=9:=by
 have i:=b9t.of h hr;have hc:=a4S h;obtain ⟨p0,p1,d0,d1⟩:=i;unfold a3n;have h1:=a40 (Rat.divInt (c.permille*reading) 1000) ((c.grams+c.drift*(day - c.since):Int):Rat);have h2:rl (Rat.divInt (c.permille*reading) 1000)<=4:=lbS (X4 de) (by have:=T4 (x:=c.permille*reading) om om;have:=T4 (x:=1000) de de;omega);have h3:rl ((c.grams+c.drift*(day - c.since):Int):Rat)<=4:=by rw [a0G];have:=T4 (x:=c.grams+c.drift*(day - c.since)) om om;omega
 omega
def bc1 (c:P5) (reading day:Int) (h:O0 c day=true):ec 257 [b0j c,eI reading,eI day] []
 (.tup [frS (if btw reading 0 1099511627776 then fz (a3n c reading day) else a0z),m9 (btw reading 0 1099511627776)]) []:=by
 have cv:=b0D c day;have wi:=a6i reading 1099511627776;rw [h] at cv;have hc:=a4S h;cases hr:btw reading 0 1099511627776 with
 |false=>
  rw [hr] at wi;refine ac Tryz.func257 ?_;conv=>whnf
  repeat' (first|refine zx ?_|apply zD<;>intro h<;>try omega)<;>conv=>whnf
  all_goals first
   |(exfalso;simp_all;done)
   |exact p7 rz
 |true=>
  rw [hr] at wi;obtain ⟨p0,p1,d0,d1⟩:=b9t.of h hr;rw [a0d] at hr;have fo:=bL9 (c.permille*reading) 1000 de om om de de;have fi:=U1 (c.grams+c.drift*(day - c.since)) om om;have h2:rl (Rat.divInt (c.permille*reading) 1000)<=4:=lbS (X4 de) (by have:=T4 (x:=c.permille*reading) om om;have:=T4 (x:=1000) de de;omega);have h3:rl ((c.grams+c.drift*(day - c.since):Int):Rat)<=4:=by rw [a0G];have:=T4 (x:=c.grams+c.drift*(day - c.since)) om om;omega
  have ad:=a8E (Rat.divInt (c.permille*reading) 1000) ((c.grams+c.drift*(day - c.since):Int):Rat) om om;refine ac Tryz.func257 ?_;conv=>whnf
  repeat' (first|refine zx ?_|refine bl0 [7] ?_|refine bl0 [15] ?_|apply zD<;>intro h<;>try omega)<;>conv=>whnf
  all_goals first|(exfalso;simp_all;done)|exact b84 rfl rfl
abbrev ivL (o:Option (Rat × Rat)):List S:=match o with
 |some (lo,hi)=>[frS (fz lo),frS (fz hi),m9 true]
 |none=>[frS a0z,frS a0z,m9 false]
def bf3 {x y:Rat} {n:Nat} (h1:rl x<=n) (h2:rl y<=n):rl (aM9 x y)<=n:=by unfold aM9;split<;>assumption
def b0n {cs:List P5} {rs:List J1} {scale reading day:Int} {lo hi:Rat} (h:R4 cs rs scale reading day=some (lo,hi)):rl lo<=20/\rl hi<=20:=by
 unfold R4 at h;split at h
 ·cases h
 ·rename_i i hi;obtain ⟨hb,c,hc,_,hcv⟩:=Q8 hi;have e:a2d cs i=c:=by unfold a2d;rw [hc];rfl
  rw [e] at h;split at h
  ·cases h
  ·split at h
   ·rename_i hr;injection h with h;injection h with h1 h2;have l1:=b2m hcv hr;rw [a0d] at hr;have l2:rl (reading:Rat)<=4:=by rw [a0G];have:=T4 (x:=reading) om om;omega
    have l3:=a40 (reading:Rat) (a3n c reading day);have l4:=aT3 (reading:Rat) (a3n c reading day);refine ⟨?_,by rw [← h2];omega⟩;rw [← h1];exact bf3 om (by rw [b42];omega)
   ·cases h
def b3o (cs:List P5) (rs:List J1) (hl:cs.length<=1000000) (hl2:rs.length<=1000000) (scale reading day:Int):
 ec 184 [.c (.t (a1y cs)),.c (.t (Q9 rs)),eI scale,eI reading,eI day] [] (.tup (ivL (R4 cs rs scale reading day))) []:=by
 have f:=bu9 cs scale day hl;have r:=b35 rs hl2 scale day;unfold R4;cases hf:H3 cs scale day cs.length with
 |none=>
  rw [hf] at f;refine ac Tryz.func184 ?_;conv=>whnf
  repeat' (first|refine zx ?_|refine bl0 [1] ?_|refine bl0 [6] ?_|apply zD<;>intro<;>try omega)<;>conv=>whnf
  all_goals first
   |(exfalso;simp_all;done)
   |exact p7 rz
 |some i=>
  rw [hf] at f;obtain ⟨hb,c,hc,_,hcv⟩:=Q8 hf;have e:a2d cs i=c:=by unfold a2d;rw [hc];rfl
  have er:=bc1 c reading day hcv;simp only [e];cases hrec:a2J rs scale day with
  |true=>
   rw [hrec] at r;refine ac Tryz.func184 ?_;conv=>whnf
   repeat' (first|refine zx ?_|refine bl0 [1] ?_|refine bl0 [6] ?_|apply zD<;>intro<;>try omega)<;>conv=>whnf
   all_goals first
    |(exfalso;simp_all;done)
    |exact p7 rz
  |false=>
   rw [hrec] at r;cases hr:btw reading 0 1099511627776 with
   |false=>
    rw [hr] at er;refine ac Tryz.func184 ?_;conv=>whnf
    repeat' (first|refine zx ?_|refine j6 hc ?_|refine bl0 [1] ?_|refine bl0 [9] ?_|apply zD<;>intro<;>try omega)<;>conv=>whnf
    all_goals first
     |exact p7 rz
     |(exfalso;simp_all;done)
   |true=>
    have l1:=b2m hcv hr;rw [hr] at er;rw [a0d] at hr;have l2:rl (reading:Rat)<=4:=by rw [a0G];have:=T4 (x:=reading) om om;omega
    have fi:=U1 reading om om;have f0:=U1 0 om om;have sb:=b9c (reading:Rat) (a3n c reading day) om om;have ad:=a8E (reading:Rat) (a3n c reading day) om om;have l4:=aT3 (reading:Rat) (a3n c reading day);have mx:=bu8 ((reading:Rat) - a3n c reading day) ((0:Int):Rat) om (by rw [b42];omega);refine ac Tryz.func184 ?_;conv=>whnf
    repeat' (first|refine zx ?_|refine j6 hc ?_|refine bl0 [1] ?_|refine bl0 [9] ?_|refine bl0 [5] ?_|apply zD<;>intro<;>try omega)<;>conv=>whnf
    all_goals first|exact p7 rz|(exfalso;simp_all;done)
def B2 (f:Fr):List T:=[ti f.p.sg,v6 f.p.dl,ti f.q.sg,v6 f.q.dl]
abbrev U4 (l:List Fr):T:=.sl 4 .any (l.map B2)
abbrev H5 (l:List Fr):S:=.c (.t (U4 l))
def b8D (l:List Rat) {k:Nat} {x:Rat} (h:l[k]? =some x):(l.map fz)[k]? =some (fz x):=by rw [lba,h];rfl
def bL5 {f f':Fr} {H1:Hp} (h:f=f'):Fin 0 (frS f) H1 (frS f') []:=by subst h;exact p7 rz
abbrev frB (f:Fr):Blk:={ mode:=.live,elem:=86,size:=4,rows:=[frC f],box:=true }
def a47 (f:Fr):L4 [frC f]:=by
 intro r hr c hc;simp at hr;subst hr;simp [frC] at hc;rcases hc with rfl|rfl|rfl|rfl<;>rfl
def be7 {x:Rat}:sgR x<0↔x<0:=by unfold sgR;split<;>(try split)<;>simp_all
def bk8 {x y:Rat}:a8x x y<=0↔x<=y:=by
 unfold a8x;split
 ·simp;grind
 ·split
  ·simp;grind
  ·simp;grind
def b8t {x y:Rat}:a8x x y > 0↔y<x:=by
 have:=bk8 (x:=x) (y:=y);constructor
 ·intro h;have h2:¬x<=y:=fun h'=>by have:=this.2 h';omega
  grind
 ·intro h;have h2:¬a8x x y<=0:=fun h'=>by have:=this.1 h';grind
  omega
def a1M.row (f:a1M):List T:=[ti f.mv,ti f.kind,ti f.grams]
def W9.row (c:W9):List T:=[ti c.mv,ti c.kind]
abbrev av5 (l:List a1M):T:=.sl 3 .any (l.map a1M.row)
abbrev a9m (l:List W9):T:=.sl 2 .any (l.map W9.row)
def trT (t:k8):List T:=[ti t.ev.mats,ti t.ev.hhs,ti t.ev.scs,a7v t.ev.places,a5i t.ev.moves,a1y t.ev.certs,Q9 t.ev.recalls,a2H t.ev.purities,av5 t.finds,a9m t.cleans]
def trC (t:k8):List C:=[.t (ti t.ev.mats),.t (ti t.ev.hhs),.t (ti t.ev.scs),.t (a7v t.ev.places),.t (a5i t.ev.moves),.t (a1y t.ev.certs),.t (Q9 t.ev.recalls),.t (a2H t.ev.purities),.t (av5 t.finds),.t (a9m t.cleans)]
abbrev trS (t:k8):S:=.agg (trC t)
structure k8.Sized (t:k8):Prop where
 ev:t.ev.Sized
 f:t.finds.length<=1000000
 c:t.cleans.length<=1000000
def b1f {x:Rat}:sgR x=0↔x=0:=by unfold sgR;split<;>(try split)<;>simp_all<;>grind
def b7a (e:Ev) (mv kind:Int):ec 124 [evS e,eI mv,eI kind] [] (eI (a2n e mv kind)) []:=by
 have l2:(e.moves.map C6.row).length=e.moves.length:=zq;refine ac Tryz.func124 ?_;conv=>whnf
 repeat' (first|refine zx ?_|apply zD<;>intro<;>try omega)<;>conv=>whnf
 all_goals (refine p9 ?_;unfold a2n;(repeat' split)<;>first|rfl|omega)
def aq2 (t:k8) (hs:t.Sized):ec 58 [trS t] [] (eI (t9 t)) []:=by
 have l1:=hs.f;have l2:=hs.c;have ck:=b4O t.ev hs.ev;have m1:(t.finds.map a1M.row).length=t.finds.length:=zq;have m2:(t.cleans.map W9.row).length=t.cleans.length:=zq;by_cases h0:I1 t.ev≠0
 ·have e1:t9 t=I1 t.ev:=by unfold t9;rw [iA h0]
  rw [e1]
  (refine ac Tryz.func58 ?_;(conv=>whnf);repeat ((first|refine b0x ?_|refine zy ?_);conv=>whnf))
  repeat' (first|refine zx ?_|apply zD<;>intro<;>try omega)<;>conv=>whnf
  all_goals first|omega|exact p9 rfl
 have h0:I1 t.ev=0:=om;rw [h0] at ck;by_cases h1:20<t.finds.length\/50<t.cleans.length
 ·have e1:t9 t=6:=by unfold t9;rw [iB om,iA h1]
  rw [e1]
  (refine ac Tryz.func58 ?_;(conv=>whnf);repeat ((first|refine b0x ?_|refine zy ?_);conv=>whnf))
  repeat' (first|refine zx ?_|apply zD<;>intro<;>try omega)<;>conv=>whnf
  all_goals first|omega|exact p9 rfl
 have e1:t9 t=if R7 t.ev t.finds≠0 then R7 t.ev t.finds else S6 t.ev t.cleans:=by unfold t9;rw [iB om,iB h1]
 rw [e1]
 (refine ac Tryz.func58 ?_;(conv=>whnf);repeat ((first|refine b0x ?_|refine zy ?_);conv=>whnf))
 repeat' (first|refine zx ?_|apply zD<;>intro<;>try omega)<;>conv=>whnf
 all_goals try omega
 refine k5 g8 (fun k=>([J,S.c (C.t (T.ptr (trT t)))]++Jn 25++[S.c (C.t (av5 t.finds)),eI t.finds.length,eI k]++Jn 40,[])) t.finds.length (fun k=>R7 t.ev t.finds=R7 t.ev (t.finds.drop k)) [] rfl
  ⟨rfl,rfl,trivial,⟨rfl,rfl,g9 zq,rz⟩⟩ ?_
 intro k hk hI;by_cases hlt:k<t.finds.length
 ·obtain ⟨f,hf⟩:∃f,t.finds[k]? =some f:=⟨_,lbf hlt⟩;have mk:=b7a t.ev f.mv f.kind;rw [a1Y hf,R7] at hI;by_cases hm:a2n t.ev f.mv f.kind≠0
  ·rw [iA hm] at hI;rw [hI,iA hm];conv=>whnf
   repeat' (first|refine zx ?_|refine j6 hf ?_|apply zD<;>intro<;>try omega)<;>conv=>whnf
   all_goals first|omega|exact p9 rfl
  ·rw [iB hm] at hI;by_cases hg:f.grams<1\/1099511627776<f.grams
   ·rw [iA hg] at hI;rw [hI];conv=>whnf
    repeat' (first|refine zx ?_|refine j6 hf ?_|apply zD<;>intro<;>try omega)<;>conv=>whnf
    all_goals first|omega|exact p9 rfl
   ·rw [iB hg] at hI;conv=>whnf
    repeat' (first|refine zx ?_|refine j6 hf ?_|apply zD<;>intro<;>try omega)<;>conv=>whnf
    all_goals first|omega|exact ⟨hlt,hI,[],rz⟩
 ·rw [lbo om] at hI;have hI:R7 t.ev t.finds=0:=hI;rw [hI,iB om];conv=>whnf
  repeat' (first|refine zx ?_|apply zD<;>intro<;>try omega)<;>conv=>whnf
  all_goals try omega
  refine k5 g8 (fun k=>([J,S.c (C.t (T.ptr (trT t)))]++Jn 51++[S.c (C.t (a9m t.cleans)),eI t.cleans.length,eI k]++Jn 14,[])) t.cleans.length (fun k=>S6 t.ev t.cleans=S6 t.ev (t.cleans.drop k)) [] rfl
   ⟨rfl,rfl,trivial,⟨rfl,rfl,g9 zq,rz⟩⟩ ?_
  intro j hj hJ;by_cases hjt:j<t.cleans.length
  ·obtain ⟨c,hc⟩:∃c,t.cleans[j]? =some c:=⟨_,lbf hjt⟩;have mk:=b7a t.ev c.mv c.kind;rw [a1Y hc,S6] at hJ;by_cases hm:a2n t.ev c.mv c.kind≠0
   ·rw [iA hm] at hJ;rw [hJ];conv=>whnf
    repeat' (first|refine zx ?_|refine j6 hc ?_|apply zD<;>intro<;>try omega)<;>conv=>whnf
    all_goals first|omega|exact p9 rfl
   ·rw [iB hm] at hJ;conv=>whnf
    repeat' (first|refine zx ?_|refine j6 hc ?_|apply zD<;>intro<;>try omega)<;>conv=>whnf
    all_goals first|omega|exact ⟨hjt,hJ,[],rz⟩
  ·rw [lbo om] at hJ;have hJ:S6 t.ev t.cleans=0:=hJ;rw [hJ];conv=>whnf
   repeat' (first|refine zx ?_|apply zD<;>intro<;>try omega)<;>conv=>whnf
   all_goals first|omega|exact p9 rfl
def bN4 (e:Ev) {i:Nat} {x:C6} (h0:I1 e=0) (hx:e.moves[i]? =some x):ec 116 [evS e,eI i] [] (m9 (decide (N9 e x.src=0))) []:=by
 have hm:=R9 h0 (lbm hx);have ms:=a1t hm;obtain ⟨s,hsn⟩:∃s:Nat,x.src=s:=⟨x.src.toNat,om⟩;obtain ⟨pl,hpl⟩:∃pl,e.places[s]? =some pl:=⟨_,lbf om⟩;have hkd:N9 e x.src=pl.kind:=by rw [hsn];exact aM4 hpl
 rw [hkd];refine ac Tryz.func116 ?_;conv=>whnf
 repeat' (first|refine zx ?_|refine j6 hx ?_|refine N4 hsn hpl ?_|apply zD<;>intro<;>try omega)<;>conv=>whnf
 all_goals (refine j1 ?_;simp [*])
def B8 (x:Int × Rat):List T:=ti x.1::B2 (fz x.2)
abbrev aU4 (l:List (Int × Rat)):T:=.sl 5 .any (l.map B8)
def v5 (w:C5):List T:=aU4 w.terms::ti w.kind::B2 (fz w.value)
def bP2 (w:C5):List C:=.t (aU4 w.terms)::.t (ti w.kind)::frC (fz w.value)
abbrev aS0 (w:C5):S:=.agg (bP2 w)
abbrev a04 (l:List C5):T:=.sl 6 .any (l.map v5)
abbrev U9 (s:m8):S:=.agg [.t (ti s.n),.t (a04 s.rows)]
abbrev zR:Rat:=((0:Int):Rat)
def a16 {e:Ev} (h:I1 e=0):1<=e.mats/\e.mats<=6/\e.places.length<=100/\e.moves.length<=200:=by
 obtain ⟨h1,h2,_⟩:=a34 h;unfold a3q at h1;simp only [a2f,lbK] at h1;omega
abbrev s6 (l:List (Int × Rat)):S:=.c (.t (aU4 l))
def a4I (l:List (Int × Rat)):Nat->Int
 |0=>-1
 |k+1=>((l[k]?).map (·.1)).getD 0
def Z6 {l:List (Int × Rat)} {k:Nat} {t:Int × Rat} (h:l[k]? =some t):a4I l (k+1)=t.1:=by simp [a4I,h]
def a0e (l:List (Int × Rat)) (n:Int) (hl:l.length<=1000000) (hB:∀t ∈ l,rl t.2<=200):ec 153 [s6 l,eI n] [] (m9 (decide (0<=n) && n7 (-1) n l)) []:=by
 have m1:(l.map B8).length=l.length:=zq;by_cases h0:n<0
 ·rw [lbJ om,a2i];refine ac Tryz.func153 ?_;conv=>whnf
  repeat' (first|refine zx ?_|apply zD<;>intro h<;>try omega)<;>conv=>whnf
  all_goals first|omega|exact j1 rfl
 rw [lbH om,K9];refine ac Tryz.func153 ?_;conv=>whnf
 repeat' (first|refine zx ?_|apply zD<;>intro h<;>try omega)<;>conv=>whnf
 all_goals try omega
 refine k5 g8 (fun k=>([J,eI n,J,J,J,eI (a4I l k),J,J,J,J,s6 l,eI l.length,eI k]++Jn 22,[])) l.length (fun k=>n7 (-1) n l=n7 (a4I l k) n (l.drop k)) [] rfl
  ⟨rfl,rfl,trivial,⟨rfl,rfl,rfl,g9 zq,rz⟩⟩ ?_
 intro k hk hI;by_cases hlt:k<l.length
 ·obtain ⟨t,ht⟩:∃t,l[k]? =some t:=⟨_,lbf hlt⟩;obtain ⟨v,c⟩:=t;have bc:=hB _ (lbm ht);simp only at bc;have sg:=a2q c om;have sz:=b1f (x:=c);rw [a1Y ht,n7] at hI;simp only at hI;by_cases hok:a4I l k<v/\v<n/\c≠0
  ·rw [lbH hok.1,lbH hok.2.1,lbH hok.2.2] at hI;simp only [K9] at hI;have hne:sgR c≠0:=fun h=>hok.2.2 (sz.1 h)
   obtain ⟨q1,q2,_⟩:=hok;conv=>whnf
   repeat' (first|refine zx ?_|refine j6 ht ?_|apply zD<;>intro h<;>try omega)<;>conv=>whnf
   all_goals first|omega|exact ⟨hlt,by rw [Z6 ht];exact hI,[],rfl,rfl,trivial,⟨rfl,g9 (by rw [Z6 ht]),rz⟩⟩
  ·have hF:n7 (-1) n l=false:=by
    rw [hI];rw [← lbQ];simp only [lbN,lbI];exact fun h=>hok ⟨h.1.1.1,h.1.1.2,h.1.2⟩
   rw [hF];have hor:v<=a4I l k\/n<=v\/sgR c=0:=by
    by_cases q1:a4I l k<v
    ·by_cases q2:v<n
     ·refine .inr (.inr (sz.2 ?_));by_cases q3:c=0
      ·exact q3
      ·exact absurd ⟨q1,q2,q3⟩ hok
     ·exact .inr (.inl om)
    ·exact .inl om
   clear hI hok;conv=>whnf
   repeat' (first|refine zx ?_|refine j6 ht ?_|apply zD<;>intro h<;>try omega)<;>conv=>whnf
   all_goals first|omega|exact j1 rfl
 ·rw [lbo om] at hI;have hI:n7 (-1) n l=true:=hI;rw [hI];conv=>whnf
  repeat' (first|refine zx ?_|apply zD<;>intro h<;>try omega)<;>conv=>whnf
  all_goals first|omega|exact j1 rfl
structure b23 (s:m8):Prop where
 n0:s.rows.length<=1000000
 t:∀w ∈ s.rows,w.terms.length<=100/\(∀ t ∈ w.terms,rl t.2<=200)/\rl w.value<=200
def a8T (s:m8) (hb:b23 s):ec 206 [U9 s] [] (m9 (q9 s)) []:=by
 have m1:(s.rows.map v5).length=s.rows.length:=zq;have l1:=hb.n0;by_cases h0:¬(0<=s.n/\s.n<=1500/\s.rows.length<=6000)
 ·have e1:q9 s=false:=by
   unfold q9;rw [← lbQ];simp only [lbN,lbI];exact fun h=>h0 ⟨h.1.1.1,h.1.1.2,h.1.2⟩
  rw [e1]
  (refine ac Tryz.func206 ?_;(conv=>whnf);repeat ((first|refine b0x ?_|refine zy ?_);conv=>whnf))
  repeat' (first|refine zx ?_|apply zD<;>intro h<;>try omega)<;>conv=>whnf
  all_goals first|omega|exact j1 rfl
 obtain ⟨c1,c2,c3⟩:=Decidable.not_not.1 h0;have e1:q9 s=s.rows.all (A6 s.n):=by
  unfold q9;rw [lbH c1,lbH c2,lbH c3];rfl
 rw [e1];clear h0
 (refine ac Tryz.func206 ?_;(conv=>whnf);repeat ((first|refine b0x ?_|refine zy ?_);conv=>whnf))
 repeat' (first|refine zx ?_|apply zD<;>intro h<;>try omega)<;>conv=>whnf
 all_goals try omega
 refine k5 g8 (fun k=>([J,S.c (C.t (T.ptr [ti s.n,a04 s.rows]))]++Jn 18++[S.c (C.t (a04 s.rows)),eI s.rows.length,eI k]++Jn 26,[])) s.rows.length (fun k=>(s.rows.take k).all (A6 s.n)=true) [] rfl
  ⟨rfl,rfl,trivial,⟨rfl,rfl,g9 zq,rz⟩⟩ ?_
 intro k hk hI;by_cases hlt:k<s.rows.length
 ·obtain ⟨w,hw⟩:∃w,s.rows[k]? =some w:=⟨_,lbf hlt⟩;obtain ⟨b1,b2,b3⟩:=hb.t w (lbm hw);have rt:=a0e w.terms s.n om b2;rw [lbH c1,K9] at rt;have rv:=P1 w.value om;cases hrt:n7 (-1) s.n w.terms with
  |false=>
   rw [hrt] at rt;have hF:A6 s.n w=false:=by unfold A6;rw [hrt];rfl
   rw [G9 hw hF];conv=>whnf
   repeat' (first|refine zx ?_|refine j6 hw ?_|apply zD<;>intro h<;>try omega)<;>conv=>whnf
   all_goals first
    |omega
    |(exfalso;simp_all;done)
    |exact j1 rfl
  |true=>
   rw [hrt] at rt;by_cases hk3:0<=w.kind/\w.kind<3
   ·have hT:A6 s.n w=true:=by unfold A6;rw [hrt,lbH hk3.1,lbH hk3.2];rfl
    conv=>whnf
    repeat' (first|refine zx ?_|refine j6 hw ?_|apply zD<;>intro h<;>try omega)<;>conv=>whnf
    all_goals first|omega|(exfalso;simp_all;done)|exact ⟨hlt,by rw [D3 hw,hI,hT];rfl,[],rz⟩
   ·have hF:A6 s.n w=false:=by
     unfold A6;rw [← lbQ];simp only [lbN,lbI];exact fun h=>hk3 ⟨h.1.2,h.2⟩
    rw [G9 hw hF];conv=>whnf
    repeat' (first|refine zx ?_|refine j6 hw ?_|apply zD<;>intro h<;>try omega)<;>conv=>whnf
    all_goals first|omega|(exfalso;simp_all;done)|exact j1 rfl
 ·rw [lbn om] at hI;rw [hI];conv=>whnf
  repeat' (first|refine zx ?_|apply zD<;>intro h<;>try omega)<;>conv=>whnf
  all_goals first|omega|exact j1 rfl
def b6z (rs:List Fr) (hl:rs.length<=1000000) (g:FuncId) (caps:List T) (q:Fr->Bool) (hg:∀r ∈ rs,ec g (frS r::caps.map fun x=>.c (.t x)) [] (m9 (q r)) []):
 ec 316 [.c (.t (U4 rs)),.c (.t (.fn (.func g) caps))] [] (eI (N6 q rs 0)) []:=by
 have l1:(rs.map B2).length=rs.length:=zq;refine ac Tryz.func316 ?_;conv=>whnf
 repeat' (first|refine zx ?_|apply zD<;>intro<;>try omega)<;>conv=>whnf
 refine k5 g8 (fun k=>([S.c (C.t (U4 rs)),S.c (C.t (T.fn (.func g) caps)),J,J,J,J,J,eI rs.length,eI k]++Jn 10,[])) rs.length (fun k=>N6 q (rs.drop k) k=N6 q rs 0) [] rfl
  ⟨rfl,rfl,trivial,⟨m7 rfl,m7 rfl,g9 zq,rz⟩⟩ ?_
 intro k hk hI;by_cases hlt:k<rs.length
 ·obtain ⟨r,hr⟩:∃r,rs[k]? =some r:=⟨_,lbf hlt⟩;have hd:rs.drop k=r::rs.drop (k+1):=by
   rw [a3k hlt];rw [lbf hlt] at hr;injection hr with hr;rw [hr]
  have hgr:=hg r (lbm hr);have ha:(frS r::caps.map fun x=>S.c (C.t x)).all S.isT=true:=by simp [S.isT,C.isT,B2]
  rw [hd] at hI;have hI:(if q r then (k:Int) else N6 q (rs.drop (k+1)) (k+1))=N6 q rs 0:=hI;cases hq:q r with
  |true=>
   rw [hq] at hgr hI;conv=>whnf
   repeat' (first|refine zx ?_|refine .inl ⟨_,_,I4 hgr ha rfl,?_⟩|refine j6 hr ?_|apply zD<;>intro<;>try omega)<;>conv=>whnf
   all_goals first
    |omega
    |exact p9 hI
  |false=>
   rw [hq] at hgr hI;conv=>whnf
   repeat' (first|refine zx ?_|refine .inl ⟨_,_,I4 hgr ha rfl,?_⟩|refine j6 hr ?_|apply zD<;>intro<;>try omega)<;>conv=>whnf
   all_goals first|omega|exact ⟨hlt,by simpa using hI,[],rz⟩
 ·have hke:k=rs.length:=by omega
  subst hke;rw [lbo (lbR _)] at hI;conv=>whnf
  repeat' (first|refine zx ?_|apply zD<;>intro<;>try omega)<;>conv=>whnf
  all_goals first|omega|exact p9 hI
def aY1 (rs:List Fr) (hl:rs.length<=1000000) (g:FuncId) (caps:List T) (q:Fr->Bool) (hg:∀r ∈ rs,ec g (frS r::caps.map fun x=>.c (.t x)) [] (m9 (q r)) []):
 ec 268 [.c (.t (U4 rs)),.c (.t (.fn (.func g) caps))] [] (m9 (rs.any q)) []:=by
 have ix:=b6z rs hl g caps q hg;refine ac Tryz.func268 ?_;conv=>whnf
 repeat' (first|refine zx ?_|apply zD<;>intro<;>try omega)<;>conv=>whnf
 all_goals (refine j1 ?_;rw [← a3f q rs 0];simp;omega)
def b72 (f:Fr) (lp:f.p.dl.length<=200000) (lq:f.q.dl.length<=200000):ec 269 (frS f::[].map fun x=>.c (.t x)) [] (m9 (!V8 f)) []:=by
 have r:=b13 f lp lq;refine ac Tryz.func269 ?_;conv=>whnf
 repeat' (first|refine zx ?_|apply zD<;>intro<;>try omega)<;>conv=>whnf
 all_goals (refine j1 ?_;simp [*])
def b4y (z:List Fr) (hl:z.length<=1000000) (hd:∀f ∈ z,f.p.dl.length<=200000/\f.q.dl.length<=200000):ec 207 [H5 z] [] (m9 (z.all V8)) []:=by
 have ct:=aY1 z hl 269 [] _ (fun f hf=>b72 f (hd f hf).1 (hd f hf).2);have e:(z.any fun f=>!V8 f)=!(z.all V8):=by rw [List.not_all_eq_any_not]
 rw [e] at ct;cases hz:z.all V8<;>rw [hz] at ct<;>
 ·refine ac Tryz.func207 ?_;conv=>whnf
  repeat' (first|refine zx ?_|apply zD<;>intro<;>try omega)<;>conv=>whnf
  all_goals exact j1 rfl
def ab6 {n:Int}:∀{l:List (Int × Rat)} {last:Int},n7 last n l=true->∀t ∈ l,last<t.1/\t.1<n
 |[],_,_,t,ht=>by cases ht
 |u::r,last,h,t,ht=>by
  unfold n7 at h;simp only [lbN,lbI] at h;rcases lbA.1 ht with rfl|ht
  ·exact ⟨h.1.1.1,h.1.1.2⟩
  ·have:=ab6 h.2 t ht;omega
def aZ8 {f:Nat->Nat->Rat} (m:Nat):∀n:Nat,p5 (fun i=>p5 (f i) m) n=p5 (fun j=>p5 (fun i=>f i j) n) m
 |0=>by
  show p5 _ 0=_;rw [D5 (f:=fun j=>p5 (fun i=>f i j) 0) (n:=m) fun j hj=>by simp only [p5,a1R]];simp only [p5,a1R]
 |n+1=>by
  simp only [p5];rw [aZ8 m n,←a2t]
def b6D {n a:Nat} (ha:a<n) (v:Rat) (c:Nat->Rat):p5 (fun i=>(if a=i then v else 0)*c i) n=v*c a:=by
 rw [H4 ha,D5 fun j hj=>by
  by_cases h:j=a
  ·rw [iA h]
  ·rw [iB h,iB (fun e=>h e.symm)];grind]
 rw [iA rfl];grind
def Y5 (s:m8) (i:Nat):C5:=s.rows.getD i ⟨[],2,0⟩
def b2y {s:m8} {i:Nat} {w:C5} (h:s.rows[i]? =some w):Y5 s i=w:=by unfold Y5;rw [lbl,h];rfl
def aT1 (s:m8) (k:Nat):Nat × Bool:=(j0 s).getD k (0,false)
def chg (s:m8) (w:Nat) (p:Rat) (i:Nat):Rat:=if s.n.toNat<=w/\(aT1 s (w - s.n.toNat)).1=i then -(Y1 (aT1 s (w - s.n.toNat)).2 p) else 0
def b2T (s:m8) (y:Nat->Rat) (l:Nat):Rat:=p5 (fun i=>y i*L7 (Y5 s i).terms l) s.rows.length
def b6t (s:m8) (y:Nat->Rat):Rat:=p5 (fun i=>y i*(Y5 s i).value) s.rows.length
def bK1 (s:m8) (y:Nat->Rat):Prop:=∀(i:Nat) (w:C5),s.rows[i]? =some w->(w.kind=0->0<=y i)/\(w.kind=1->y i<=0)
def a3J (s:m8) (E:Fd) (i:Nat):Rat:=p5 (fun j=>chg s (E.F j) (-(E.G j)) i) s.n.toNat
def ag3 (s:m8) (E:Fd) (r i:Nat):Rat:=chg s (E.O r) 1 i+p5 (fun j=>chg s (E.F j) (E.A r j) i) s.n.toNat
def b7h {s:m8} {f:Nat->Nat->Rat} {c:Nat->Rat} {n R:Nat}:p5 (fun i=>p5 (fun j=>f j i) n*c i) R=p5 (fun j=>p5 (fun i=>f j i*c i) R) n:=by
 rw [← aZ8];refine p4 fun i hi=>?_
 rw [p4 (f:=fun j=>f j i*c i) (g:=fun j=>c i*f j i) fun j hj=>by grind,K0];grind
structure bN2 (s:m8) (g:Nat->Rat) (y:Nat->Rat) (v:Rat):Prop where
 sign:bK1 s y
 mix:∀l,l<s.n.toNat->b2T s y l<=g l
 val:b6t s y=v
def aF4 {s:m8} {g:List (Int × Rat)} {c y:Nat->Rat} {v:Rat} (h:bN2 s c y v) {z:List Rat} (hz:k6 s z=true):v<=p5 (fun l=>c l*z.getD l 0) s.n.toNat:=by
 obtain ⟨hr,hl,hp,hw⟩:=X7.1 hz;have hn:=V4 hr;have h0:∀l,l<s.n.toNat->0<=z.getD l 0:=fun l hl'=>by
  rw [lbl,lbf om];exact hp _ (lbE _)
 have h1:p5 (fun l=>b2T s y l*z.getD l 0) s.n.toNat<=p5 (fun l=>c l*z.getD l 0) s.n.toNat:=by
  have:=a4d (f:=fun l=>(c l - b2T s y l)*z.getD l 0) (n:=s.n.toNat) fun l hl'=>lb1 (by have:=h.mix l hl';grind) (h0 l hl')
  rw [p4 (g:=fun l=>c l*z.getD l 0+(-1:Rat)*(b2T s y l*z.getD l 0)) fun l hl'=>by grind,a2t,K0] at this;grind
 have h2:p5 (fun l=>b2T s y l*z.getD l 0) s.n.toNat=p5 (fun i=>y i*n8 (Y5 s i).terms z) s.rows.length:=by
  unfold b2T;rw [b7h (s:=s) (f:=fun i l=>y i*L7 (Y5 s i).terms l)];refine p4 fun i hi=>?_
  have hx:s.rows[i]? =some (Y5 s i):=by unfold Y5;rw [lbl,lbf hi];rfl
  rw [Z4 (a1f hr hx).1 z,←K0];exact p4 fun l hl=>zg
 have h3:0<=p5 (fun i=>y i*(n8 (Y5 s i).terms z - (Y5 s i).value)) s.rows.length:=a4d fun i hi=>by
  have hx:s.rows[i]? =some (Y5 s i):=by unfold Y5;rw [lbl,lbf hi];rfl
  obtain ⟨_,k1,k2⟩:=a1f hr hx;obtain ⟨s1,s2⟩:=h.sign i _ hx;obtain ⟨b1,b2⟩:=hw _ (lbm hx);by_cases e0:(Y5 s i).kind=0
  ·have:=b1 om;exact lb1 (s1 e0) zg
  ·by_cases e1:(Y5 s i).kind=1
   ·have:=b2 e0;have:=lb1 (show 0<=-(y i) by have:=s2 e1;grind) (show 0<=-(n8 (Y5 s i).terms z - (Y5 s i).value) by grind);grind
   ·have a1:=b1 e1;have a2:=b2 e0;have:n8 (Y5 s i).terms z - (Y5 s i).value=0:=zg;rw [this];grind
 rw [p4 (g:=fun i=>y i*n8 (Y5 s i).terms z+(-1:Rat)*(y i*(Y5 s i).value)) fun i hi=>by grind,a2t,K0] at h3;have h4:=h.val;unfold b6t at h4;grind
def rF (n:Nat) (g:Nat->Rat):List Fr:=(List.range n).map fun j=>fz (g j)
def mF (m n:Nat) (A:Nat->Nat->Rat):List (List Fr):=(List.range m).map fun i=>rF n (A i)
def O9 (n:Nat) (g:Nat->Rat):(rF n g).length=n:=by simp [rF]
def i8 (m n:Nat) (A:Nat->Nat->Rat):(mF m n A).length=m:=by simp [mF]
def L3 {n:Nat} {g:Nat->Rat} {j:Nat} (h:j<n):(rF n g)[j]? =some (fz (g j)):=by simp [rF,h]
def Y0 {m n:Nat} {A:Nat->Nat->Rat} {i:Nat} (h:i<m):(mF m n A)[i]? =some (rF n (A i)):=by simp [mF,h]
def a0J {n:Nat} {g:Nat->Rat} {s:Nat} {v:Rat} (h:s<n):(rF n g).set s (fz v)=rF n (fun j=>if j=s then v else g j):=by
 apply a0R;intro j;by_cases hj:j<n
 ·rw [L3 hj,lbg,O9];by_cases hjm:s=j
  ·subst hjm;simp [h]
  ·rw [iB hjm,L3 hj,iB om]
 ·rw [lbd (by simp [O9];omega),lbd (by simp [O9];omega)]
def F6 {n:Nat} {g h:Nat->Rat} (e:∀j,j<n->g j=h j):rF n g=rF n h:=lbp fun j hj=>by rw [e j (lbB.1 hj)]
def b1z {m n:Nat} {A B:Nat->Nat->Rat} (e:∀i,i<m->∀j,j<n->A i j=B i j):mF m n A=mF m n B:=lbp fun i hi=>F6 (e i (lbB.1 hi))
def b77 {m n:Nat} {A:Nat->Nat->Rat} {r:Nat} {g:Nat->Rat} (h:r<m):(mF m n A).set r (rF n g)=mF m n (fun i=>if i=r then g else A i):=by
 apply a0R;intro j;by_cases hj:j<m
 ·rw [Y0 hj,lbg,i8];by_cases hjm:r=j
  ·subst hjm;simp [h]
  ·rw [iB hjm,Y0 hj,iB om]
 ·rw [lbd (by simp [i8];omega),lbd (by simp [i8];omega)]
abbrev flB (l:List Fr):Blk:={ mode:=.live,elem:=86,size:=4,rows:=toC (l.map B2),box:=false }
def Q4 {row:List Fr} {i n:Nat} {y:Fr} (h:n=i):D4 (flB row) ((toC (row.map B2)).set n (frC y))=flB (row.set i y):=by
 subst h;unfold D4;simp [toC,a5X,B2]
def a01 (b m n:Nat) (V:Nat->Rat):List (List C):=(List.range m).map fun i=>frC (fz (V i))++[C.own (i+b) 0 n true]
def Z2 (m:Nat) (O:Nat->Nat):List (List T):=(List.range m).map fun i=>[ti (O i)]
def a1p (l:LB):List (List T):=l.map fun f=>[ti f.1,tb f.2]
def I9 (b m n:Nat) (V:Nat->Rat):(a01 b m n V).length=m:=by simp [a01]
def n9 (m:Nat) (O:Nat->Nat):(Z2 m O).length=m:=by simp [Z2]
def a4b {b m n:Nat} {V:Nat->Rat} {i:Nat} (h:i<m):(a01 b m n V)[i]? =some (frC (fz (V i))++[C.own (i+b) 0 n true]):=by simp [a01,h]
def a8O {m:Nat} {O:Nat->Nat} {i:Nat} (h:i<m):(Z2 m O)[i]? =some [ti (O i)]:=by simp [Z2,h]
def b5k {b m n:Nat} {V:Nat->Rat} {r:Nat} {v:Rat} (h:r<m):(a01 b m n V).set r (frC (fz v)++[C.own (r+b) 0 n true])=a01 b m n (fun i=>if i=r then v else V i):=by
 apply a0R;intro j;by_cases hj:j<m
 ·rw [a4b hj,lbg,I9];by_cases hjm:r=j
  ·subst hjm;simp [h]
  ·rw [iB hjm,a4b hj,iB om]
 ·rw [lbd (by simp [I9];omega),lbd (by simp [I9];omega)]
def b9E {m:Nat} {O:Nat->Nat} {r v:Nat} (h:r<m):(Z2 m O).set r [ti v]=Z2 m (fun i=>if i=r then v else O i):=by
 apply a0R;intro j;by_cases hj:j<m
 ·rw [a8O hj,lbg,n9];by_cases hjm:r=j
  ·subst hjm;simp [h]
  ·rw [iB hjm,a8O hj,iB om]
 ·rw [lbd (by simp [n9];omega),lbd (by simp [n9];omega)]
abbrev b3M (m n k:Nat):Blk:={ mode:=.live,elem:=285,size:=6,rows:=[[C.t (ti n),.own 1 0 m true,.own 2 0 n true,.own 3 0 m true,.own 4 0 n true,.own 5 0 k true]],box:=true }
abbrev a1X (b m n:Nat) (V:Nat->Rat):Blk:={ mode:=.live,elem:=288,size:=5,rows:=a01 b m n V,box:=false }
abbrev T7 (m:Nat) (O:Nat->Nat):Blk:={ mode:=.live,elem:=3,size:=1,rows:=toC (Z2 m O),box:=false }
abbrev a2L (l:LB):Blk:={ mode:=.live,elem:=306,size:=2,rows:=toC (a1p l),box:=false }
abbrev a1i (m n:Nat) (fr:LB) (D:Fd):Hp:=
 b3M m n fr.length::a1X 6 m n D.V::flB (rF n D.G)::T7 m D.O::T7 n D.F::a2L fr::(mF m n D.A).map flB
def a4g {m n:Nat} {fr:LB} {D:Fd}:(a1i m n fr D).length=m+6:=by simp [i8]
def aw2 {b m n N:Nat} {V:Nat->Rat} (h:m+b<=N):okB N (a1X b m n V):=by
 intro r hr c hc;obtain ⟨i,hi,rfl⟩:=lbx.1 hr;have:=lbB.1 hi;simp [frC] at hc;rcases hc with rfl|rfl|rfl|rfl|rfl<;>first|trivial|(simp only;omega)
def b54 {m n k N:Nat} (h:6<=N):okB N (b3M m n k):=by
 intro r hr c hc;simp at hr;subst hr;simp at hc;rcases hc with rfl|rfl|rfl|rfl|rfl|rfl<;>first|trivial|(simp only;omega)
def a9h {m n:Nat} {fr:LB} {D:Fd}:∀k ∈ a1i m n fr D,okB (m+6) k:=by
 intro k hk;simp only [lbA] at hk;rcases hk with rfl|rfl|rfl|rfl|rfl|rfl|hk
 ·exact b54 om
 ·exact aw2 (lbR _)
 ·exact A7 rfl
 ·exact A7 rfl
 ·exact A7 rfl
 ·exact A7 rfl
 ·obtain ⟨l,_,rfl⟩:=lbx.1 hk;exact A7 rfl
def b4x (x:Rat):(fz x).p.sg=0↔x=0:=by
 show x.num.sign=0↔_;rw [b3w,Rat.num_eq_zero]
def rl0:rl 0<=1:=by
 have h0:=w5 (x:=0) de de;have h1:=w5 (x:=1) de de;show max (bl 0) (bl 1)<=1;omega
def rl1:rl 1<=1:=by
 have h1:=w5 (x:=1) de de;show max (bl 1) (bl 1)<=1;omega
def bD2 (x y:Rat) (hy:y≠0) (lx:rl x<=60000) (ly:rl y<=60000):ec 336 [frS (fz x),frS (fz y)] [] (.tup [frS (fz (x / y)),eI 0]) []:=by
 have r1:=P1 x om;have r2:=P1 y om;have x1:=K6 x;have x2:=J9 x;have y1:=K6 y;have y2:=J9 y;have hn:y.num≠0:=fun h=>hy (Rat.num_eq_zero.1 h)
 have hs:y.num.sign≠0:=fun h=>hn (b3w.1 h)
 have hsg:=b4x y;have l1:=I2 x.num y.den;have l3:=I2 x.den y.num;have t1:=a2u x.num y.den om om;have t3:=a2u x.den y.num om om;have n:=aO5 (x.num*y.den) (x.den*y.num) (Int.mul_ne_zero (b2N x) hn) om om;rw [← bd9] at n;refine ac Tryz.func336 ?_;conv=>whnf
 repeat' (first|refine zx ?_|apply zD<;>intro h<;>try omega)<;>conv=>whnf
 all_goals first|(exfalso;simp_all;done)|exact a0H rfl
def a8v (x:Rat) (lx:rl x<=60000):ec 291 [frS (fz x)] [] (frS (fz (-x))) []:=by
 have r1:=P1 x om;have x1:=K6 x;have x2:=J9 x;have n:=aa9 x.num om;have s:=as6 x.den om;have e:fz (-x)=⟨bz (-x.num),bz x.den⟩:=rfl;rw [e];refine ac Tryz.func291 ?_;conv=>whnf
 repeat' (first|refine zx ?_|apply zD<;>intro<;>try omega)<;>conv=>whnf
 all_goals first|(exfalso;simp_all;done)|exact p7 rz
def au8 (x:Rat):ec 324 [frS (fz x)] [] (m9 (decide (x=0))) []:=by
 have h:=b4x x;refine ac Tryz.func324 ?_;conv=>whnf
 repeat' (first|refine zx ?_|apply zD<;>intro h<;>try omega)<;>conv=>whnf
 all_goals (refine j1 ?_;simp_all)
def b3p (a b c:Rat) (la:rl a<=60000) (lb:rl b<=30000) (lc:rl c<=30000):ec 325 [frS (fz a),frS (fz b),frS (fz c)] [] (frS (fz (a - b*c))) []:=by
 have z1:=au8 b;have z2:=au8 c;have m:=b3k b c om om;have lm:=aW5 b c;have s:=b9c a (b*c) la om;by_cases hb:b=0
 ·have e:a - b*c=a:=by rw [hb];grind
  rw [e];refine ac Tryz.func325 ?_;conv=>whnf
  repeat' (first|refine zx ?_|apply zD<;>intro<;>try omega)<;>conv=>whnf
  all_goals first|(exfalso;simp_all;done)|exact p7 rz
 ·by_cases hc:c=0
  ·have e:a - b*c=a:=by rw [hc];grind
   rw [e];refine ac Tryz.func325 ?_;conv=>whnf
   repeat' (first|refine zx ?_|apply zD<;>intro<;>try omega)<;>conv=>whnf
   all_goals first|(exfalso;simp_all;done)|exact p7 rz
  ·refine ac Tryz.func325 ?_;conv=>whnf
   repeat' (first|refine zx ?_|apply zD<;>intro<;>try omega)<;>conv=>whnf
   all_goals first|(exfalso;simp_all;done)|exact p7 rz
def b2c (a b:Rat) (hb:b≠0) (la:rl a<=60000) (lb:rl b<=60000):ec 323 [frS (fz a),frS (fz b)] [] (frS (fz (a / b))) []:=by
 have d:=bD2 a b hb la lb;refine ac Tryz.func323 ?_;conv=>whnf
 repeat' (first|refine zx ?_|apply zD<;>intro<;>try omega)<;>conv=>whnf
 all_goals exact p7 rz
def tkF (a row:Nat->Rat) (s k:Nat):Nat->Rat:=fun j=>if j<k/\j≠s then a j - a s*row j else a j
def tkA (a row:Nat->Rat) (s:Nat):Nat->Rat:=fun j=>if j=s then 0 - a s*row s else a j - a s*row j
def pZ (k n:Nat):List Fr:=(List.range n).map fun j=>if j<k then fz 0 else a0z
def aw8 (k n:Nat):(pZ k n).length=n:=by simp [pZ]
def a6K {k n j:Nat} (h:j<n):(pZ k n)[j]? =some (if j<k then fz 0 else a0z):=by simp [pZ,h]
def b6G {k n:Nat} (h:k<n):(pZ k n).set k (fz 0)=pZ (k+1) n:=by
 apply a0R;intro j;by_cases hj:j<n
 ·rw [a6K hj,lbg,aw8];by_cases hjk:k=j
  ·subst hjk;simp [h]
  ·rw [iB hjk,a6K hj];have:(j<k+1)↔(j<k):=om;simp only [this]
 ·rw [lbd (by simp [aw8];omega),lbd (by simp [aw8];omega)]
def aQ4 (n:Nat):pZ n n=rF n (fun _=>0):=lbp fun j hj=>by rw [iA (lbB.1 hj)]
def bi5 (n:Nat) (hn:n<=1000):ec 289 [eI n] [] (.c (.own 0 0 n true)) [flB (rF n fun _=>0)]:=by
 have i0:=U1 0 de de;have hnn:(n:Int).toNat=n:=om;refine ac Tryz.func289 ?_;conv=>whnf
 repeat' (first|refine zx ?_|refine a2m om om om de ?_|apply zD<;>intro h<;>try omega)<;>conv=>whnf
 refine k5 g8 (fun k=>([eI n,J,J,S.c (C.own 0 0 n true),J,J,J,J,eI n,eI k]++Jn 8,[flB (pZ k n)])) n tT [some 0] trivial
  ⟨rfl,rfl,⟨⟨rfl,rfl,rfl,.inr (a2a ?_ ?_)⟩,trivial⟩,⟨m7 rfl,⟨rfl,rfl,om,fun h=>h⟩,g9 om,g9 rfl,trivial⟩⟩ ?_
 ·simp [F8,toC,aw8]
 ·intro i x y hx hy;simp only [F8,lbk] at hx;split at hx
  ·rename_i hi;injection hx with hx;subst hx;have hy:(toC ((pZ 0 n).map B2))[i]? =some y:=hy;rw [toC,lba,lba,a6K om,iB om] at hy;injection hy with hy;subst hy;exact rz
  ·cases hx
 intro k hk _;by_cases hlt:k<n
 ·obtain ⟨pf,hpf⟩:∃pf,(pZ k n)[k]? =some pf:=⟨_,a6K hlt⟩;have gp:(pZ k n)[0+(k:Int).toNat]? =some pf:=by rw [U8,show (k:Int).toNat=k by omega];exact hpf
  have eM:0+(k:Int).toNat=k:=om;conv=>whnf
  repeat' (first|refine zx ?_|refine w9 gp ?_|apply zD<;>intro h<;>try omega)<;>conv=>whnf
  all_goals first
   |omega
   |(refine ⟨hlt,trivial,[some 0],rfl,rfl,⟨i6 (rows:=(pZ (k+1) n).map B2) rfl rfl rfl ?_ rfl,trivial⟩,⟨rfl,⟨rfl,rfl,rfl,fun h=>h⟩,rfl,g9 om,trivial⟩⟩
     have e:=Q4 (row:=pZ k n) (y:=fz 0) eM;rw [b6G hlt] at e;exact congrArg Blk.rows e)
 ·have hke:k=n:=by omega
  subst hke;conv=>whnf
  repeat' (first|refine zx ?_|apply zD<;>intro h<;>try omega)<;>conv=>whnf
  all_goals first|omega|exact ⟨[some 0],rfl,rfl,⟨i6 (rows:=(rF k fun _=>0).map B2) rfl rfl rfl (by rw [← aQ4]) rfl,trivial⟩,⟨rfl,rfl,rfl,fun h=>h⟩⟩
def b9r (a row:Nat->Rat) (s:Nat):tkF a row s 0=a:=by funext j;unfold tkF;rw [iB om]
def bH1 (a row:Nat->Rat) (s k:Nat):tkF a row s k k=a k:=by unfold tkF;rw [iB om]
def bL6 (a row:Nat->Rat) (s k:Nat):tkF a row s k s=a s:=by unfold tkF;rw [iB om]
def b74 {a row:Nat->Rat} {s k:Nat} (h:k≠s):(fun j=>if j=k then a k - a s*row k else tkF a row s k j)=tkF a row s (k+1):=by
 funext j;by_cases hj:j=k
 ·subst hj;rw [iA rfl];unfold tkF;rw [iA ⟨om,h⟩]
 ·rw [iB hj];unfold tkF;have:(j<k/\j≠s)↔(j<k+1/\j≠s):=om;simp only [this]
def b9i {a row:Nat->Rat} {s:Nat}:tkF a row s s=tkF a row s (s+1):=by
 funext j;unfold tkF;have:(j<s/\j≠s)↔(j<s+1/\j≠s):=om;simp only [this]
def bd5 {a row:Nat->Rat} {s n:Nat}:rF n (fun j=>if j=s then 0 - a s*row s else tkF a row s n j)=rF n (tkA a row s):=F6 fun j hj=>by
 unfold tkA tkF;by_cases h:j=s
 ·rw [iA h,iA h]
 ·rw [iB h,iB h,iA ⟨hj,h⟩]
abbrev frX (x:Rat):Blk:={ mode:=.live,elem:=86,size:=4,rows:=[frC (fz x)],box:=true }
def bF1 {ρ:List (Option Nat)} {H:Hp} (x:Rat):a3g ρ H (frX x) (frX x):=⟨rfl,rfl,rfl,.inl ⟨rfl,j3 [B2 (fz x)]⟩⟩
def bB4 (n s:Nat) (a row:Nat->Rat) (hn:n<=1000) (hs:s<n) (ha:∀j,j<n->rl (a j)<=30000) (hr:∀j,j<n->rl (row j)<=30000):
 ec 326 [.c (.own 0 0 n true),.c (.own 1 0 n true),eI s] [flB (rF n a),flB (rF n row)] (.tup []) [flB (rF n (tkA a row s)),flB (rF n row)]:=by
 have i0:=U1 0 de de;have ls:=ha s hs;have eS:0+(s:Int).toNat=s:=om;have gs:(rF n a)[0+(s:Int).toNat]? =some (fz (a s)):=by rw [eS,L3 hs]
 refine ac Tryz.func326 ?_;conv=>whnf
 repeat' (first|refine zx ?_|refine w9 gs ?_|apply zD<;>intro h<;>try omega)<;>conv=>whnf
 refine k5 g8 (fun k=>([S.c (C.own 0 0 n true),S.c (C.own 1 0 n true),eI s,J,J,J,sP 2 0 0,J,J,J,J,J,J,eI n,eI k]++Jn 29,[flB (rF n (tkF a row s k)),flB (rF n row),frX (a s)])) n tT [some 0,some 1,some 2] trivial
  ⟨rfl,rfl,⟨i6 (rows:=(rF n a).map B2) rfl rfl rfl rfl (by rw [b9r]),i6 rfl rfl rfl rfl rfl,bF1 _,trivial⟩,⟨⟨rfl,rfl,rfl,fun h=>h⟩,⟨rfl,rfl,rfl,fun h=>h⟩,rfl,rz,g9 rfl,g9 rfl,trivial⟩⟩ ?_
 intro k hk _;by_cases hlt:k<n
 ·have eM:0+(k:Int).toNat=k:=by omega
  have lk:=ha k hlt;have lr:=hr k hlt;have g1:(rF n (tkF a row s k))[0+(k:Int).toNat]? =some (fz (a k)):=by rw [eM,L3 hlt,bH1]
  have g2:(rF n row)[0+(k:Int).toNat]? =some (fz (row k)):=by rw [eM,L3 hlt]
  have le:=b3p (a k) (a s) (row k) om om om;by_cases hks:k=s
  ·subst hks;conv=>whnf
   repeat' (first|refine zx ?_|refine w9 g1 ?_|refine w9 g2 ?_|apply zD<;>intro h<;>try omega)<;>conv=>whnf
   all_goals first|omega|exact ⟨hlt,trivial,[some 0,some 1,some 2],rfl,rfl,⟨i6 (rows:=(rF n (tkF a row k k)).map B2) rfl rfl rfl rfl (by rw [b9i]),i6 rfl rfl rfl rfl rfl,bF1 _,trivial⟩,⟨⟨rfl,rfl,rfl,fun h=>h⟩,⟨rfl,rfl,rfl,fun h=>h⟩,rfl,rz,g9 rfl,g9 rfl,trivial⟩⟩
  ·conv=>whnf
   repeat' (first|refine zx ?_|refine w9 g1 ?_|refine w9 g2 ?_|apply zD<;>intro h<;>try omega)<;>conv=>whnf
   all_goals first
    |omega
    |(refine ⟨hlt,trivial,[some 0,some 1,some 2],rfl,rfl,⟨i6 (rows:=(rF n (tkF a row s (k+1))).map B2) rfl rfl rfl ?_ rfl,i6 rfl rfl rfl rfl rfl,bF1 _,trivial⟩,⟨⟨rfl,rfl,rfl,fun h=>h⟩,⟨rfl,rfl,rfl,fun h=>h⟩,rfl,rz,g9 rfl,g9 rfl,trivial⟩⟩
      have e:=Q4 (row:=rF n (tkF a row s k)) (y:=fz (a k - a s*row k)) eM;rw [a0J hlt,b74 hks] at e;exact congrArg Blk.rows e)
 ·have hke:k=n:=by omega
  subst hke;have g2:(rF k row)[0+(s:Int).toNat]? =some (fz (row s)):=by rw [eS,L3 hs]
  have lr:=hr s hs;have le:=b3p 0 (a s) (row s) (by have:=rl0;omega) om om;have le:ec 325 [frS (fz ((0:Int):Rat)),frS (fz (a s)),frS (fz (row s))] [] (frS (fz (0 - a s*row s))) []:=le;conv=>whnf
  have g1:(rF k (tkF a row s k))[0+(s:Int).toNat]? =some (fz (a s)):=by rw [eS,L3 hs,bL6]
  repeat' (first|refine zx ?_|refine w9 g2 ?_|refine w9 g1 ?_|apply zD<;>intro h<;>try omega)<;>conv=>whnf
  all_goals first
   |omega
   |(refine ⟨[some 0,some 1],rfl,rfl,⟨i6 (rows:=(rF k (tkA a row s)).map B2) rfl rfl rfl ?_ rfl,i6 rfl rfl rfl rfl rfl,trivial⟩,trivial⟩
     have e:=Q4 (row:=rF k (tkF a row s k)) (y:=fz (0 - a s*row s)) eS;rw [a0J hs,bd5] at e;exact congrArg Blk.rows e)
def leI:Option Nat->Int
 |none=>-1
 |some a=>a
def X9 (f:Nat->Nat) (p:Nat->Bool) (k:Nat):E8 f p (k+1)=match E8 f p k with
 |none=>if p k then some k else none
 |some a=>if p k && decide (f k<f a) then some k else some a:=rfl
def t6 {m:Nat} {f:Nat->Nat} {n:Int} {i:Nat} {K:List T->Prop} (e:n=i) (h:i<m) (k:K [ti (f i)]):∃row,0<=n/\(Z2 m f)[n.toNat]? =some row/\K row:=by
 subst e;exact ⟨_,om,by rw [show (i:Int).toNat=i by omega,a8O h],k⟩
abbrev a8B (m:Nat) (f:Nat->Nat):S:=.c (.t (.sl 1 .any (Z2 m f)))
def a7q (m:Nat) (hm:m<=100000) (f:Nat->Nat) (p:Nat->Bool) (g:FuncId) (caps:List T) (hg:∀i:Nat,i<m->ec g (eI i::caps.map fun x=>.c (.t x)) [] (m9 (p i)) []):
 ec 292 [a8B m f,.c (.t (.fn (.func g) caps))] [] (eI (leI (E8 f p m))) []:=by
 have m1:(Z2 m f).length=m:=n9 m f;refine ac Tryz.func292 ?_;conv=>whnf
 repeat' (first|refine zx ?_|apply zD<;>intro<;>try omega)<;>conv=>whnf
 refine k5 g8 (fun k=>([a8B m f,S.c (C.t (T.fn (.func g) caps)),J,J,J,eI (leI (E8 f p k)),J,J,a8B m f,eI m,eI k]++Jn 22,[])) m tT [] trivial
  ⟨rfl,rfl,trivial,⟨m7 rfl,m7 rfl,g9 rfl,m7 rfl,g9 om,g9 rfl,trivial⟩⟩ ?_
 intro k hk _;by_cases hlt:k<m
 ·have hgr:=hg k hlt;have ha:(eI (k:Int)::caps.map fun x=>S.c (C.t x)).all S.isT=true:=by simp [S.isT,C.isT,e7]
  cases hp:p k with
  |false=>
   rw [hp] at hgr;have e1:leI (E8 f p k)=leI (E8 f p (k+1)):=by
    rw [X9,hp];cases E8 f p k<;>rfl
   conv=>whnf
   repeat' (first|refine zx ?_|refine .inl ⟨_,_,I4 hgr ha rfl,?_⟩|refine t6 rfl hlt ?_|apply zD<;>intro<;>try omega)<;>conv=>whnf
   all_goals first
    |omega
    |exact ⟨hlt,trivial,[],rfl,rfl,trivial,⟨rfl,rfl,g9 e1,rfl,rfl,g9 rfl,trivial⟩⟩
  |true=>
   rw [hp] at hgr;cases hl:E8 f p k with
   |none=>
    have hle:leI none=-1:=rfl;have e1:(k:Int)=leI (E8 f p (k+1)):=by rw [X9,hl,hp];rfl
    conv=>whnf
    repeat' (first|refine zx ?_|refine .inl ⟨_,_,I4 hgr ha rfl,?_⟩|refine t6 rfl hlt ?_|apply zD<;>intro<;>try omega)<;>conv=>whnf
    all_goals first
     |omega
     |exact ⟨hlt,trivial,[],rfl,rfl,trivial,⟨rfl,rfl,g9 e1,rfl,rfl,g9 rfl,trivial⟩⟩
   |some b=>
    have hb:=(G1 hl).1;have hle:leI (some b)=b:=rfl;by_cases hc:f k<f b
    ·have e1:(k:Int)=leI (E8 f p (k+1)):=by rw [X9,hl,hp];simp [hc,leI]
     conv=>whnf
     repeat' (first|refine zx ?_|refine .inl ⟨_,_,I4 hgr ha rfl,?_⟩|refine t6 rfl hlt ?_|refine t6 (i:=b) hle om ?_|apply zD<;>intro<;>try omega)<;>conv=>whnf
     all_goals first|omega|exact ⟨hlt,trivial,[],rfl,rfl,trivial,⟨rfl,rfl,g9 e1,rfl,rfl,g9 rfl,trivial⟩⟩
    ·have e1:leI (some b)=leI (E8 f p (k+1)):=by rw [X9,hl,hp];simp [hc,leI]
     conv=>whnf
     repeat' (first|refine zx ?_|refine .inl ⟨_,_,I4 hgr ha rfl,?_⟩|refine t6 rfl hlt ?_|refine t6 (i:=b) hle om ?_|apply zD<;>intro<;>try omega)<;>conv=>whnf
     all_goals first|omega|exact ⟨hlt,trivial,[],rfl,rfl,trivial,⟨rfl,rfl,g9 e1,rfl,rfl,g9 rfl,trivial⟩⟩
 ·have hke:k=m:=by omega
  subst hke;conv=>whnf
  repeat' (first|refine zx ?_|apply zD<;>intro<;>try omega)<;>conv=>whnf
  all_goals first|omega|exact p9 rfl
def af9 (m n:Nat) (D:Fd):List (List T):=(List.range m).map fun i=>B2 (fz (D.V i))++[T.sl 4 .any ((rF n (D.A i)).map B2)]
def bq7 (m n:Nat) (fr:LB) (D:Fd):List T:=[ti n,.sl 5 .any (af9 m n D),.sl 4 .any ((rF n D.G).map B2),.sl 1 .any (Z2 m D.O),.sl 1 .any (Z2 n D.F),.sl 2 .any (a1p fr)]
def ac4 {m n:Nat} {D:Fd} {i:Nat} (h:i<m):(af9 m n D)[i]? =some (B2 (fz (D.V i))++[T.sl 4 .any ((rF n (D.A i)).map B2)]):=by simp [af9,h]
def a79 (m n:Nat) (D:Fd):(af9 m n D).length=m:=by simp [af9]
def a28 {m n:Nat} {D:Fd} {x:Int} {i:Nat} {K:List T->Prop} (e:x=i) (h:i<m) (k:K (B2 (fz (D.V i))++[T.sl 4 .any ((rF n (D.A i)).map B2)])):∃row,0<=x/\(af9 m n D)[x.toNat]? =some row/\K row:=by
 subst e;exact ⟨_,om,by rw [show (i:Int).toNat=i by omega,ac4 h],k⟩
def a5x {n:Nat} {g:Nat->Rat} {x:Int} {j:Nat} {K:List T->Prop} (e:x=j) (h:j<n) (k:K (B2 (fz (g j)))):∃row,0<=x/\((rF n g).map B2)[x.toNat]? =some row/\K row:=by
 subst e;exact ⟨_,om,by rw [show (j:Int).toNat=j by omega,lba,L3 h];rfl,k⟩
def b7i (x:Rat):(fz x).p.sg<0↔x<0:=by
 show x.num.sign<0↔_;rw [a9w];unfold sgR;split<;>(try split)<;>simp_all
def b7j (x:Rat):(fz x).p.sg > 0↔0<x:=by
 show x.num.sign > 0↔_;rw [a9w];unfold sgR;split
 ·constructor
  ·intro h;omega
  ·intro h;grind
 ·split<;>simp_all
abbrev a8k (m n:Nat) (fr:LB) (D:Fd):T:=.ptr [.ptr (bq7 m n fr D)]
def b6p (m n:Nat) (fr:LB) (D:Fd) (i:Nat) (hi:i<m):
 ec 293 (eI i::[a8k m n fr D].map fun x=>.c (.t x)) [] (m9 (decide (D.V i<0))) []:=by
 have h:=b7i (D.V i);refine ac Tryz.func293 ?_;conv=>whnf
 repeat' (first|refine zx ?_|refine a28 rfl hi ?_|apply zD<;>intro h<;>try omega)<;>conv=>whnf
 all_goals (refine j1 ?_;simp_all)
def b60 (m n:Nat) (fr:LB) (D:Fd) (j:Nat) (hj:j<n):
 ec 294 (eI j::[a8k m n fr D].map fun x=>.c (.t x)) [] (m9 (decide (0<D.G j))) []:=by
 have h:=b7j (D.G j);refine ac Tryz.func294 ?_;conv=>whnf
 repeat' (first|refine zx ?_|refine a5x rfl hj ?_|apply zD<;>intro h<;>try omega)<;>conv=>whnf
 all_goals (refine j1 ?_;simp_all)
def aI1 (m n:Nat) (fr:LB) (D:Fd) (r j:Nat) (hr:r<m) (hj:j<n):
 ec 295 (eI j::[a8k m n fr D,T.ptr [ti r]].map fun x=>.c (.t x)) [] (m9 (decide (D.A r j<0))) []:=by
 have h:=b7i (D.A r j);refine ac Tryz.func295 ?_;conv=>whnf
 repeat' (first|refine zx ?_|refine a28 rfl hr ?_|refine a5x rfl hj ?_|apply zD<;>intro h<;>try omega)<;>conv=>whnf
 all_goals (refine j1 ?_;simp_all)
def aH4 (m n:Nat) (fr:LB) (D:Fd) (i s:Nat) (hi:i<m) (hs:s<n):
 ec 296 (eI i::[a8k m n fr D,T.ptr [ti s]].map fun x=>.c (.t x)) [] (m9 (decide (0<D.A i s))) []:=by
 have h:=b7j (D.A i s);refine ac Tryz.func296 ?_;conv=>whnf
 repeat' (first|refine zx ?_|refine a28 rfl hi ?_|refine a5x rfl hs ?_|apply zD<;>intro h<;>try omega)<;>conv=>whnf
 all_goals (refine j1 ?_;simp_all)
def b3Y {H:Hp} {ia ir n s:Nat} {a row:Nat->Rat} (hne:ia≠ir) (ga:H[ia]? =some (flB (rF n a))) (gr:H[ir]? =some (flB (rF n row))) (hn:n<=1000) (hs:s<n) (ha:∀j,j<n->rl (a j)<=30000) (hr:∀j,j<n->rl (row j)<=30000):
 ec 326 [.c (.own ia 0 n true),.c (.own ir 0 n true),eI s] H (.tup []) (H.set ia (flB (rF n (tkA a row s)))):=by
 have la:ia<H.length:=(lbe.1 ga).1;refine V3 [ia,ir] (bB4 n s a row hn hs ha hr) rfl rfl rfl (by simp;exact hne) ?_ ?_ zq rfl rfl zq ?_ ?_
 ·intro i k hk
  match i,hk with
  |0,hk=>injection hk with hk;subst hk;exact ⟨rfl,rfl,a5z _,_,ga,E0 rfl⟩
  |1,hk=>injection hk with hk;subst hk;exact ⟨rfl,rfl,a5z _,_,gr,E0 rfl⟩
 ·intro k hk;simp at hk;rcases hk with rfl|rfl<;>(intro h;cases h)
 ·intro i k hk
  match i,hk with
  |0,hk=>
   injection hk with hk;subst hk
   refine ⟨_,?_,E0 rfl⟩;show (H.set ia _)[ia]? =_;rw [lbg,iA rfl,iA la]
  |1,hk=>
   injection hk with hk;subst hk
   refine ⟨_,?_,E0 rfl⟩;show (H.set ia _)[ir]? =_;rw [lbg,iB hne];exact gr
 ·intro j hj hjn;simp at hjn;rw [lbg,iB (fun h=>hjn.1 h.symm)]
def a3T {b m n i r:Nat} {V:Nat->Rat} {K:List C->Prop} (e:i=r) (h:r<m) (k:K (frC (fz (V r))++[C.own (r+b) 0 n true])):∃row,(a01 b m n V)[i]? =some row/\K row:=by
 subst e;exact ⟨_,a4b h,k⟩
def aR6 {rows:List (List C)} {i:Nat} {x:List C} {K:List C->Prop} (h:i<rows.length) (k:K x):∃row,(rows.set i x)[i]? =some row/\K row:=⟨x,List.getElem?_set_self h,k⟩
def bp9 {rows:List (List C)} {i j:Nat} {x:List C} {K:List C->Prop} (h:i≠j) (k:∃row,rows[j]? =some row/\K row):∃row,(rows.set i x)[j]? =some row/\K row:=by
 rw [List.getElem?_set_ne h];exact k
def a6o (a:Nat->Rat) (p:Rat) (s k:Nat):Nat->Rat:=fun j=>if j<k/\j≠s then a j / p else a j
def A1 (D:Fd) (r s k:Nat):Nat->Nat->Rat:=fun i=>if i=r then a6o (D.A r) (D.A r s) s k else D.A i
def bL4 {D:Fd} {r s k:Nat}:A1 D r s k r k=D.A r k:=by unfold A1 a6o;rw [iA rfl,iB om]
def bP7 {D:Fd} {r s k:Nat}:A1 D r s k r s=D.A r s:=by unfold A1 a6o;rw [iA rfl,iB om]
def bq6 {D:Fd} {r s k:Nat} (h:k≠s):(fun i=>if i=r then (fun j=>if j=k then D.A r k / D.A r s else A1 D r s k r j) else A1 D r s k i)=A1 D r s (k+1):=by
 funext i j;by_cases hi:i=r
 ·subst hi;simp only [if_true];unfold A1 a6o;simp only [if_true];by_cases hj:j=k
  ·subst hj;rw [iA rfl,iA ⟨om,h⟩]
  ·rw [iB hj];have:(j<k/\j≠s)↔(j<k+1/\j≠s):=om;simp only [this]
 ·rw [iB hi];unfold A1;rw [iB hi,iB hi]
def bc0 {D:Fd} {r s:Nat}:A1 D r s s=A1 D r s (s+1):=by
 funext i j;unfold A1 a6o;have:(j<s/\j≠s)↔(j<s+1/\j≠s):=om;split
 ·simp only [this]
 ·rfl
def bg8 {D:Fd} {r s k:Nat} (h:D.A r k=0):A1 D r s k=A1 D r s (k+1):=by
 funext i j;unfold A1 a6o;split
 ·show (if j<k/\j≠s then D.A r j / D.A r s else D.A r j)=if j<k+1/\j≠s then D.A r j / D.A r s else D.A r j
  by_cases hj:j=k
  ·subst hj;rw [iB (show ¬(j<j/\j≠s) by omega)];split
   ·rw [h];grind
   ·rfl
  ·have:(j<k/\j≠s)↔(j<k+1/\j≠s):=by omega
   simp only [this]
 ·rfl
def b4V {m n r:Nat} {A B:Nat->Nat->Rat} {g:Nat->Rat} (h:r<m) (e:(fun i=>if i=r then g else A i)=B):(mF m n A).set r (rF n g)=mF m n B:=by rw [b77 h,e]
def V1 (D:Fd) (r s:Nat):Nat->Rat:=fun i=>if i=r then D.V r / D.A r s else D.V i
def V2 (D:Fd) (r s k:Nat):Nat->Rat:=fun i=>if i=r then D.V r / D.A r s else if i<k then D.V i - D.A i s*(D.V r / D.A r s) else D.V i
def A2 (D:Fd) (r s k:Nat):Nat->Nat->Rat:=fun i=>if i=r then D.pRow r s else if i<k then tkA (D.A i) (D.pRow r s) s else D.A i
def b0t {a row:Nat->Rat} {s:Nat} (h:a s=0):tkA a row s=a:=by
 funext j;unfold tkA;by_cases hj:j=s
 ·rw [iA hj,hj,h];grind
 ·rw [iB hj,h];grind
def P8 {m i r:Nat} {f:Nat->Nat} {K:List C->Prop} (e:i=r) (h:r<m) (k:K [C.t (ti (f r))]):∃row,(toC (Z2 m f))[i]? =some row/\K row:=by
 subst e;exact ⟨_,by simp [toC,a8O h],k⟩
def I7 {α β:Type} {f:β->α} {M:List β} {T:List α} {i:Nat} {x:β} (h:M[i]? =some x):(M.map f++T)[i]? =some (f x):=by
 rw [lbb (by simpa using (lbe.1 h).1),lba,h];rfl
def b7b {α β:Type} {f:β->α} {M:List β} {T:List α} {i:Nat} {x:β} (h:i<M.length):(M.map f++T).set i (f x)=(M.set i x).map f++T:=by
 rw [b4s _ _ (by simpa using h),←a5X]
def bc3 {m n:Nat} {D:Fd} {r s:Nat} (hr:r<m) (hs:s<n):(mF m n (A1 D r s n)).set r ((rF n (A1 D r s n r)).set s (fz (((1:Int):Rat) / D.A r s)))=mF m n (A2 D r s 0):=by
 rw [a0J hs,b77 hr];refine b1z fun i hi j hj=>?_
 unfold A2;by_cases hir:i=r
 ·rw [iA hir,iA hir];unfold Fd.pRow A1 a6o;rw [iA rfl];by_cases hjs:j=s
  ·rw [iA hjs,iA hjs];rfl
  ·rw [iB hjs,iB hjs,iA ⟨hj,hjs⟩]
 ·rw [iB hir,iB hir,iB om];unfold A1;rw [iB hir]
def be8 {D:Fd} {r s:Nat}:V2 D r s 0=V1 D r s:=by
 funext i;unfold V2 V1;split
 ·rfl
 ·rw [iB om]
def bK4 {D:Fd} {r s k:Nat}:V2 D r s k r=D.V r / D.A r s:=by unfold V2;rw [iA rfl]
def b99 {D:Fd} {r s k:Nat} (h:k≠r):V2 D r s k k=D.V k:=by unfold V2;rw [iB h,iB om]
def bO6 {D:Fd} {r s k:Nat}:A2 D r s k r=D.pRow r s:=by unfold A2;rw [iA rfl]
def bs2 {D:Fd} {r s k:Nat} (h:k≠r):A2 D r s k k=D.A k:=by unfold A2;rw [iB h,iB om]
def b4D {D:Fd} {r s k:Nat} (h:k≠r):(fun i=>if i=k then D.V k - D.A k s*(D.V r / D.A r s) else V2 D r s k i)=V2 D r s (k+1):=by
 funext i;by_cases hi:i=k
 ·subst hi;rw [iA rfl];unfold V2;rw [iB h,iA om]
 ·rw [iB hi];unfold V2;have:(i<k)↔(i<k+1):=om;simp only [this]
def b4c {D:Fd} {r s k:Nat} (h:k≠r):(fun i=>if i=k then tkA (D.A k) (D.pRow r s) s else A2 D r s k i)=A2 D r s (k+1):=by
 funext i;by_cases hi:i=k
 ·subst hi;rw [iA rfl];unfold A2;rw [iB h,iA om]
 ·rw [iB hi];unfold A2;have:(i<k)↔(i<k+1):=om;simp only [this]
def bd0 {D:Fd} {r s:Nat}:V2 D r s r=V2 D r s (r+1):=by
 funext i;unfold V2;by_cases h:i=r
 ·rw [iA h,iA h]
 ·have:(i<r)↔(i<r+1):=by omega
  simp only [this]
def bm7 {D:Fd} {r s:Nat}:A2 D r s r=A2 D r s (r+1):=by
 funext i;unfold A2;by_cases h:i=r
 ·rw [iA h,iA h]
 ·have:(i<r)↔(i<r+1):=by omega
  simp only [this]
def be5 {D:Fd} {r s k:Nat} (h:k≠r) (hz:D.A k s=0):V2 D r s k=V2 D r s (k+1):=by
 rw [← b4D h,hz];funext i;by_cases hi:i=k
 ·subst hi;rw [iA rfl,b99 h];grind
 ·rw [iB hi]
def br4 {D:Fd} {r s k:Nat} (h:k≠r) (hz:D.A k s=0):A2 D r s k=A2 D r s (k+1):=by
 rw [← b4c h,b0t hz];funext i;by_cases hi:i=k
 ·subst hi;rw [iA rfl,bs2 h]
 ·rw [iB hi]
def by9 {D:Fd} {r s m i:Nat} (h:i<m):V2 D r s m i=(D.exch r s).V i:=by
 unfold V2 Fd.exch;simp only;split
 ·rfl
 ·first|rfl|rw [iA h]
def bw1 {D:Fd} {r s m i j:Nat} (h:i<m):A2 D r s m i j=(D.exch r s).A i j:=by
 unfold A2 Fd.exch;simp only;split
 ·rfl
 ·first|rfl|(rw [iA h];rfl)
abbrev P7 (m n:Nat) (fr:LB) (V:Nat->Rat) (G:Nat->Rat) (O F:Nat->Nat) (A:Nat->Nat->Rat) (T:Hp):Hp:=
 b3M m n fr.length::a1X 6 m n V::flB (rF n G)::T7 m O::T7 n F::a2L fr::((mF m n A).map flB++T)
structure BdD (m n B:Nat) (D:Fd):Prop where
 v:∀i,i<m->rl (D.V i)<=B
 a:∀i,i<m->∀j,j<n->rl (D.A i j)<=B
 g:∀j,j<n->rl (D.G j)<=B
def b3x {b m n r i:Nat} {V:Nat->Rat} {x:List C} {v:Rat} (e:i=r) (h:r<m) (hx:x=frC (fz v)++[C.own (r+b) 0 n true]):(a01 b m n V).set i x=a01 b m n (fun i=>if i=r then v else V i):=by
 subst e hx;exact b5k h
def b1J {m n:Nat} {fr:LB} {V G:Nat->Rat} {O F:Nat->Nat} {A:Nat->Nat->Rat} {T T':Hp}:P7 m n fr V G O F A (T++T')=P7 m n fr V G O F A T++T':=by
 show b3M m n fr.length::a1X 6 m n V::flB (rF n G)::T7 m O::T7 n F::a2L fr::((mF m n A).map flB++(T++T'))=b3M m n fr.length::a1X 6 m n V::flB (rF n G)::T7 m O::T7 n F::a2L fr::(((mF m n A).map flB++T)++T');rw [lbD]
def a8R {m n:Nat} {fr:LB} {V G:Nat->Rat} {O F:Nat->Nat} {A:Nat->Nat->Rat} {T:Hp}:(P7 m n fr V G O F A T).length=m+6+T.length:=by simp [i8];omega
def b4N {m n N:Nat} {fr:LB} {V G:Nat->Rat} {O F:Nat->Nat} {A:Nat->Nat->Rat} {T:Hp} (h:m+6<=N) (hT:∀k ∈ T,okB N k):∀k ∈ P7 m n fr V G O F A T,okB N k:=by
 intro k hk;simp only [lbA,lbz] at hk;rcases hk with rfl|rfl|rfl|rfl|rfl|rfl|hk|hk
 ·exact b54 om
 ·exact aw2 h
 ·exact A7 rfl
 ·exact A7 rfl
 ·exact A7 rfl
 ·exact A7 rfl
 ·obtain ⟨l,_,rfl⟩:=lbx.1 hk;exact A7 rfl
 ·exact hT k hk
def a0t {n0 N m n:Nat} {fr:LB} {V G:Nat->Rat} {O F:Nat->Nat} {A:Nat->Nat->Rat} {T T' H:Hp} {env env':Env} (hH:H=P7 m n fr V G O F A (T++T')) (hN:m+6+T.length=N) (h0:n0<=N) (hT:∀k ∈ T,okB N k)
 (hE:a0p (idR N) H env env'):Ent n0 (idR N) env H env' (P7 m n fr V G O F A T):=by
 refine a7c (by rw [a8R];exact hN) h0 (b4N om hT) (fun i hi=>?_) hE;rw [hH,b1J,lbb (by rw [a8R];omega)]
def aq5 {n0 N m n:Nat} {fr:LB} {V G:Nat->Rat} {O F:Nat->Nat} {A:Nat->Nat->Rat} {T H:Hp} {r s:S} (hH:H=P7 m n fr V G O F A T) (hN:m+6=N) (h0:n0<=N) (hE:a9b (idR N) H r s):
 Fin n0 r H s (P7 m n fr V G O F A []):=by
 refine a7u (by rw [a8R];exact hN) h0 (b4N om zq) (fun i hi=>?_) hE;have e:P7 m n fr V G O F A T=P7 m n fr V G O F A []++T:=b1J (T:=[]) (T':=T);rw [hH,e,lbb (by rw [a8R];simp;omega)]
def a2k {b0 b1 b2 b3 b4 b5 c0 c1 c2 c3 c4 c5:Blk} {L L':Hp} (h0:b0=c0) (h1:b1=c1) (h2:b2=c2) (h3:b3=c3) (h4:b4=c4) (h5:b5=c5) (h6:L=L'):b0::b1::b2::b3::b4::b5::L=c0::c1::c2::c3::c4::c5::L':=by
 subst h0 h1 h2 h3 h4 h5 h6;rfl
def aG0 {b m n r i:Nat} {V V':Nat->Rat} {x:List C} {v:Rat} (e:i=r) (h:r<m) (hx:x=frC (fz v)++[C.own (r+b) 0 n true]) (hV:(fun i=>if i=r then v else V i)=V'):D4 (a1X b m n V) ((a1X b m n V).rows.set i x)=a1X b m n V':=by
 have:=b3x (V:=V) e h hx;subst hV;unfold D4;simp only [this]
def a4r {m r i v:Nat} {O:Nat->Nat} (e:i=r) (h:r<m):D4 (T7 m O) ((T7 m O).rows.set i [C.t (ti v)])=T7 m (fun i=>if i=r then v else O i):=by
 subst e;have:(toC (Z2 m O)).set i [C.t (ti v)]=toC (Z2 m (fun j=>if j=i then v else O j)):=by
  rw [← b9E h];simp [toC,a5X]
 unfold D4;simp only [this]
def aV5 {N:Nat} {x:Rat}:okB N (frX x):=A7 (rows:=[B2 (fz x)]) rfl
theorem zV {p:Prop} (h:p:=by simp [i8]):p:=h
def b3m (m n:Nat) (fr:LB) (D:Fd) (r s:Nat) (hm:m<=100000) (hn:n<=1000) (hr:r<m) (hs:s<n) (hp:D.A r s≠0) (hB:BdD m n 30000 D) (hB':BdD m n 30000 (D.exch r s)):
 ec 297 [.c (.ptr 0 0 0),eI r,eI s] (a1i m n fr D) (.tup []) (a1i m n fr (D.exch r s)):=by
 have eR:0+(r:Int).toNat=r:=om;have eS:0+(s:Int).toNat=s:=om;have gA:(mF m n D.A)[r]? =some (rF n (D.A r)):=Y0 hr;have gs:(rF n (D.A r))[0+(s:Int).toNat]? =some (fz (D.A r s)):=by rw [eS,L3 hs]
 have bp:=hB.a r hr s hs;have ov:=b2c (D.V r) (D.A r s) hp (by have:=hB.v r hr;omega) om;refine ac Tryz.func297 ?_;conv=>whnf
 repeat' (first|refine zx ?_|refine qp I9 ?_|refine a6L (i8 _ _ _) ?_|refine G2 ?_|refine a4V ?_|refine a3T eR hr ?_|refine b0w gA ?_|refine J6 gA ?_|refine s9 (i8 _ _ _) ?_|refine C4 (i8 _ _ _) ?_|refine w9 gs ?_|refine aR6 (by show _<(a01 _ _ _ _).length;rw [I9];omega) ?_|apply zD<;>intro<;>try omega)<;>conv=>whnf
 refine k5 g8 (fun k=>([sP 0 0 0,eI r,eI s,J,J,J,S.c (C.ptr 1 r 0),S.c (C.ptr (m+6) 0 0)]++Jn 29++[eI n,eI k]++Jn 144,P7 m n fr (V1 D r s) D.G D.O D.F (A1 D r s k) [frX (D.A r s)])) n tT (idR (m+7)) trivial ?_ ?_
 ·refine a0t (T':=[]) ?_ rfl zV (by intro k hk;simp at hk;subst hk;exact aV5) ?_
  ·refine a2k rfl (aG0 eR hr rfl rfl) rfl rfl rfl rfl ?_;have:A1 D r s 0=D.A:=by funext i j;unfold A1 a6o;split<;>simp_all
   rw [this];rfl
  ·exact ⟨⟨j5 om,rz⟩,rfl,rfl,⟨j5 om,eR,rfl⟩,⟨j5 om,rz⟩,g9 om,g9 rfl,trivial⟩
 intro k hk _;have gA1:(mF m n (A1 D r s k))[r]? =some (rF n (A1 D r s k r)):=Y0 hr;have lA:r<(mF m n (A1 D r s k)).length:=by rw [i8];exact hr
 by_cases hlt:k<n
 ·have eK:0+(k:Int).toNat=k:=by omega
  have gk:(rF n (A1 D r s k r))[0+(k:Int).toNat]? =some (fz (D.A r k)):=by rw [eK,L3 hlt,bL4]
  have bk:=hB.a r hr k hlt;have ze:=au8 (D.A r k);have ovk:=b2c (D.A r k) (D.A r s) hp om om;by_cases hks:k=s
  ·subst hks;conv=>whnf
   repeat' (first|refine zx ?_|refine i9 (i8 _ _ _) ?_|refine G2 ?_|refine i7 ?_|refine a3T rfl hr ?_|refine J6 gA1 ?_|refine s9 (i8 _ _ _) ?_|refine w9 gk ?_|apply zD<;>intro<;>try omega)<;>conv=>whnf
   all_goals first|omega|exact ⟨hlt,trivial,idR (m+7),a0t (T':=[]) (a2k rfl rfl rfl rfl rfl rfl (by rw [← bc0];rfl)) rfl zV (by intro k hk;simp at hk;subst hk;exact aV5) ⟨⟨j5 om,rz⟩,rfl,rfl,⟨j5 om,rz⟩,⟨j5 om,rz⟩,rfl,g9 om,trivial⟩⟩
  ·by_cases hz:D.A r k=0
   ·rw [lbH hz] at ze;conv=>whnf
    repeat' (first|refine zx ?_|refine i9 (i8 _ _ _) ?_|refine G2 ?_|refine i7 ?_|refine a3T rfl hr ?_|refine J6 gA1 ?_|refine s9 (i8 _ _ _) ?_|refine w9 gk ?_|apply zD<;>intro<;>try omega)<;>conv=>whnf
    all_goals first|omega|exact ⟨hlt,trivial,idR (m+7),a0t (T':=[]) (a2k rfl rfl rfl rfl rfl rfl (by rw [← bg8 hz];rfl)) rfl zV (by intro k hk;simp at hk;subst hk;exact aV5) ⟨⟨j5 om,rz⟩,rfl,rfl,⟨j5 om,rz⟩,⟨j5 om,rz⟩,rfl,g9 om,trivial⟩⟩
   ·rw [lbJ hz] at ze;conv=>whnf
    repeat' (first|refine zx ?_|refine i9 (i8 _ _ _) ?_|refine G2 ?_|refine i7 ?_|refine a3T rfl hr ?_|refine J6 gA1 ?_|refine s9 (i8 _ _ _) ?_|refine w9 gk ?_|refine a2B lA (Q4 (y:=fz (D.A r k / D.A r s)) eK) ?_|apply zD<;>intro<;>try omega)<;>conv=>whnf
    all_goals first|omega|exact ⟨hlt,trivial,idR (m+7),a0t (T':=[]) (a2k rfl rfl rfl rfl rfl rfl (by rw [a0J hlt,b4V hr (bq6 hks)];rfl)) rfl zV (by intro k hk;simp at hk;subst hk;exact aV5) ⟨⟨j5 om,rz⟩,rfl,rfl,⟨j5 om,rz⟩,⟨j5 om,rz⟩,rfl,g9 om,trivial⟩⟩
 ·have hke:k=n:=by omega
  subst hke;have gs1:(rF k (A1 D r s k r))[0+(s:Int).toNat]? =some (fz (D.A r s)):=by rw [eS,L3 hs,bP7]
  have i1:=U1 1 de de;have ov1:=b2c ((1:Int):Rat) (D.A r s) hp (by have:=rl1;show rl 1<=_;omega) om;conv=>whnf
  repeat' (first|refine zx ?_|refine i9 (i8 _ _ _) ?_|refine G2 ?_|refine i7 ?_|refine a3T rfl hr ?_|refine J6 gA1 ?_|refine s9 (i8 _ _ _) ?_|refine w9 gs1 ?_|refine a2B lA (Q4 (y:=fz (((1:Int):Rat) / D.A r s)) eS) ?_|apply zD<;>intro<;>try omega)<;>conv=>whnf
  all_goals try omega
  refine k5 g8 (fun q=>([sP 0 0 0,eI r,eI s,J,J,J,S.c (C.ptr 1 r 0)]++Jn 77++[eI m,eI q]++Jn 97,P7 m k fr (V2 D r s q) D.G D.O D.F (A2 D r s q) [])) m tT (idR (m+6)) trivial ?_ ?_
  ·refine a0t (T:=[]) (T':=[frX (D.A r s)]) (a2k rfl (by rw [be8]) rfl rfl rfl rfl (by rw [bc3 hr hs];rfl)) rfl zV zq ⟨⟨j5 om,rz⟩,rfl,rfl,⟨j5 om,rz⟩,g9 om,g9 rfl,trivial⟩
  have eP:∀j,(D.exch r s).A r j=D.pRow r s j:=fun j=>by show (if r=r then _ else _)=_;rw [iA rfl]
  have har:∀j,j<k->rl (D.pRow r s j)<=30000:=fun j hj=>by rw [← eP];exact hB'.a r hr j hj
  intro q hq _;have gAr:(mF m k (A2 D r s q))[r]? =some (rF k (D.pRow r s)):=by rw [Y0 hr,bO6]
  by_cases hqm:q<m
  ·have eQ:0+(q:Int).toNat=q:=by omega
   have lQ:q<(mF m k (A2 D r s q)).length:=by rw [i8];exact hqm
   have ze:=au8 (D.A q s);by_cases hqr:q=r
   ·subst hqr;conv=>whnf
    repeat' (first|refine zx ?_|refine i9 (i8 _ _ _) ?_|refine G2 ?_|refine i7 ?_|apply zD<;>intro<;>try omega)<;>conv=>whnf
    all_goals first|omega|exact ⟨hqm,trivial,idR (m+6),a0t (T:=[]) (T':=[]) (a2k rfl (by rw [← bd0]) rfl rfl rfl rfl (by rw [← bm7];rfl)) rfl zV zq ⟨⟨j5 om,rz⟩,rfl,rfl,⟨j5 om,rz⟩,rfl,g9 om,trivial⟩⟩
   ·have gAq:(mF m k (A2 D r s q))[q]? =some (rF k (D.A q)):=by rw [Y0 hqm,bs2 hqr]
    have gqs:(rF k (D.A q))[0+(s:Int).toNat]? =some (fz (D.A q s)):=by rw [eS,L3 hs]
    by_cases hz:D.A q s=0
    ·rw [lbH hz] at ze;conv=>whnf
     repeat' (first|refine zx ?_|refine i9 (i8 _ _ _) ?_|refine G2 ?_|refine i7 ?_|refine a3T eQ hqm ?_|refine J6 gAq ?_|refine w9 gqs ?_|apply zD<;>intro<;>try omega)<;>conv=>whnf
     all_goals first|omega|exact ⟨hqm,trivial,idR (m+6),a0t (T:=[]) (T':=[]) (a2k rfl (by rw [← be5 hqr hz]) rfl rfl rfl rfl (by rw [← br4 hqr hz];rfl)) rfl zV zq ⟨⟨j5 om,rz⟩,rfl,rfl,⟨j5 om,rz⟩,rfl,g9 om,trivial⟩⟩
    ·rw [lbJ hz] at ze;have b1:=hB.v q hqm;have b2:=hB.a q hqm s hs;have b3:=hB'.v r hr;have haq:∀j,j<k->rl (D.A q j)<=30000:=hB.a q hqm;have le:=b3p (V2 D r s q q) (D.A q s) (V2 D r s q r) (by rw [b99 hqr];omega) om (by rw [bK4];have e:(D.exch r s).V r=D.V r / D.A r s:=(by show (if r=r then _ else _)=_;rw [iA rfl]);rw [← e];omega);conv=>whnf
     repeat' (first|refine zx ?_|refine qp I9 ?_|refine i9 (i8 _ _ _) ?_|refine G2 ?_|refine i7 ?_|refine a3T eQ hqm ?_|refine a3T rfl hr ?_|refine J6 gAq ?_|refine w9 gqs ?_|refine aR6 (by show _<(a01 _ _ _ _).length;rw [I9];omega) ?_|refine bp9 om (a3T rfl hr ?_)|refine .inr ⟨_,_,b3Y (ia:=q+6) (ir:=r+6) om (I7 gAq) (I7 gAr) hn hs haq har,?_⟩|apply zD<;>intro<;>try omega)<;>conv=>whnf
     all_goals first|omega|exact ⟨hqm,trivial,idR (m+6),a0t (T:=[]) (T':=[]) (a2k rfl (aG0 (v:=V2 D r s q q - D.A q s*V2 D r s q r) eQ hqm rfl (by rw [b99 hqr,bK4];exact b4D hqr)) rfl rfl rfl rfl (by rw [b7b lQ,b4V hqm (b4c hqr)];rfl)) rfl zV zq ⟨⟨j5 om,rz⟩,rfl,rfl,⟨j5 om,rz⟩,rfl,g9 om,trivial⟩⟩
  ·have hqe:q=m:=by omega
   subst hqe;have ggs:(rF k D.G)[0+(s:Int).toNat]? =some (fz (D.G s)):=by rw [eS,L3 hs]
   have ze:=au8 (D.G s);have eL:a1X 6 q k (V2 D r s q)=a1X 6 q k (D.exch r s).V:=by
    have:a01 6 q k (V2 D r s q)=a01 6 q k (D.exch r s).V:=lbp fun i hi=>by rw [by9 (lbB.1 hi)]
    unfold a1X;rw [this]
   have eA:mF q k (A2 D r s q)=mF q k (D.exch r s).A:=b1z fun i hi j _=>bw1 hi
   have eO:Z2 q (fun i=>if i=r then D.F s else D.O i)=Z2 q (D.exch r s).O:=rfl;have eF:Z2 k (fun j=>if j=s then D.O r else D.F j)=Z2 k (D.exch r s).F:=rfl;have e0:a1i q k fr (D.exch r s)=P7 q k fr (D.exch r s).V (D.exch r s).G (D.exch r s).O (D.exch r s).F (D.exch r s).A []:=by
    show _::_::_::_::_::_::_=_::_::_::_::_::_::(_++[]);rw [Z3]
   by_cases hz:D.G s=0
   ·have eG:(D.exch r s).G=D.G:=by have:=b0t (row:=D.pRow r s) hz;exact this
    rw [lbH hz] at ze;conv=>whnf
    repeat' (first|refine zx ?_|refine i9 (i8 _ _ _) ?_|refine G2 ?_|refine i7 ?_|refine w9 ggs ?_|refine P8 eR hr ?_|refine P8 eS hs ?_|refine bl0 [9] ?_|apply zD<;>intro<;>try omega)<;>conv=>whnf
    all_goals first|omega|(rw [e0];exact aq5 (T:=[]) (a2k rfl eL (by rw [eG]) (a4r eR hr) (a4r eS hs) rfl (by rw [eA])) rfl zV trivial)
   ·have eG:(D.exch r s).G=tkA D.G (D.pRow r s) s:=rfl;rw [lbJ hz] at ze;conv=>whnf
    repeat' (first|refine zx ?_|refine i9 (i8 _ _ _) ?_|refine G2 ?_|refine i7 ?_|refine w9 ggs ?_|refine a3T rfl hr ?_|refine P8 eR hr ?_|refine P8 eS hs ?_|refine bl0 [9] ?_|refine .inr ⟨_,_,b3Y (ia:=2) (ir:=r+6) om rfl (I7 gAr) hn hs hB.g har,?_⟩|apply zD<;>intro<;>try omega)<;>conv=>whnf
    all_goals first|omega|(rw [e0];exact aq5 (T:=[]) (a2k rfl eL (by rw [eG]) (a4r eR hr) (a4r eS hs) rfl (by rw [eA])) rfl zV trivial)
def aR9 {H:Hp} {p:Nat->Prop} {ys:List C} {us:List T} (h2:VYL H p ys us):∀{ts:List T},VYL H p (ts.map C.t++ys) (ts++us)
 |[]=>h2
 |t::r=>⟨aE2,aR9 h2⟩
def ba7 {m n:Nat} {fr:LB} {D:Fd} {X:Hp}:VY (P7 m n fr D.V D.G D.O D.F D.A X) tT (.own 1 0 m true) (.sl 5 .any (af9 m n D)):=by
 refine b2W (k:=a1X 6 m n D.V) trivial rfl (fun h=>h) rfl (a79 m n D) ?_ ?_
 ·intro r hr;obtain ⟨i,_,rfl⟩:=lbx.1 hr
  rfl
 ·intro i r hi;have him:i<m:=by have:=(lbe.1 hi).1;rwa [a79] at this
  rw [ac4 him] at hi;injection hi with hi;subst hi;refine ⟨_,a4b him,?_⟩;show VYL _ _ ((B2 (fz (D.V i))).map C.t++[C.own (i+6) 0 n true]) _;have hv:VY (P7 m n fr D.V D.G D.O D.F D.A X) tT (C.own (i+6) 0 n true) (T.sl 4 .any ((rF n (D.A i)).map B2)):=
   .vc (w6 (k:=flB (rF n (D.A i))) trivial (I7 (Y0 him)) (fun h=>h) rfl rfl (by simp [O9]))
  exact aR9 (ys:=[C.own (i+6) 0 n true]) (us:=[T.sl 4 .any ((rF n (D.A i)).map B2)]) (show _/\True from ⟨hv,trivial⟩)
def bD4 {m n:Nat} {fr:LB} {D:Fd} {X:Hp}:VY (P7 m n fr D.V D.G D.O D.F D.A X) tT (.ptr 0 0 0) (.ptr (bq7 m n fr D)):=by
 refine ac9 (k:=b3M m n fr.length) trivial rfl (fun h=>h) rfl ⟨aE2,ba7,?_,?_,?_,?_,trivial⟩
 ·exact .vc (w6 (k:=flB (rF n D.G)) trivial rfl (fun h=>h) rfl rfl (by simp [O9]))
 ·exact .vc (w6 (k:=T7 m D.O) trivial rfl (fun h=>h) rfl rfl (by simp [n9]))
 ·exact .vc (w6 (k:=T7 n D.F) trivial rfl (fun h=>h) rfl rfl (by simp [n9]))
 ·exact .vc (w6 (k:=a2L fr) trivial rfl (fun h=>h) rfl rfl (by simp [a1p]))
abbrev bxD:Blk:={ mode:=.live,elem:=233,size:=1,rows:=[[.ptr 0 0 0]],box:=true }
abbrev bxI (i:Int):Blk:={ mode:=.live,elem:=3,size:=1,rows:=[[.t (ti i)]],box:=true }
def aU5 {m n:Nat} {fr:LB} {D:Fd} {X:Hp}:VY (P7 m n fr D.V D.G D.O D.F D.A (bxD::X)) tT (.ptr (m+6) 0 0) (a8k m n fr D):=by
 refine ac9 (k:=bxD) trivial ?_ (fun h=>h) rfl ⟨bD4,trivial⟩;show (((mF m n D.A).map flB)++bxD::X)[m]? =_;rw [lbc zV];simp [i8]
def b7M {m n t:Nat} {fr:LB} {D:Fd} {X:Hp} {i:Int} (h:X[t]? =some (bxI i)):VY (P7 m n fr D.V D.G D.O D.F D.A X) tT (.ptr (m+6+t) 0 0) (.ptr [ti i]):=by
 refine ac9 (k:=bxI i) trivial ?_ (fun h=>h) rfl ⟨aE2,trivial⟩;show (P7 m n fr D.V D.G D.O D.F D.A X)[m+6+t]? =_;rw [show m+6+t=m+t+6 by omega];show (((mF m n D.A).map flB)++X)[m+t]? =_;rw [lbc zV];simpa [i8] using h
def bH3 {m n:Nat} {fr:LB} {D:Fd} {X:Hp}:VYS (P7 m n fr D.V D.G D.O D.F D.A X) tT (.c (.own 3 0 m true)) (a8B m D.O):=.vc (w6 (k:=T7 m D.O) trivial rfl (fun h=>h) rfl rfl (by simp [n9]))
def bI9 {m n:Nat} {fr:LB} {D:Fd} {X:Hp}:VYS (P7 m n fr D.V D.G D.O D.F D.A X) tT (.c (.own 4 0 n true)) (a8B n D.F):=.vc (w6 (k:=T7 n D.F) trivial rfl (fun h=>h) rfl rfl (by simp [n9]))
def am1 {m n:Nat} {fr:LB} {D:Fd} {r s:Nat} (X:Hp) (h:ec 297 [.c (.ptr 0 0 0),eI r,eI s] (a1i m n fr D) (.tup []) (a1i m n fr (D.exch r s))):
 ec 297 [.c (.ptr 0 0 0),eI r,eI s] (P7 m n fr D.V D.G D.O D.F D.A X) (.tup []) (P7 m n fr (D.exch r s).V (D.exch r s).G (D.exch r s).O (D.exch r s).F (D.exch r s).A X):=by
 have hl:∀{D:Fd},∀k ∈ a1i m n fr D,k.mode=.live/\k.app=false:=by
  intro D k hk;simp only [lbA] at hk;rcases hk with rfl|rfl|rfl|rfl|rfl|rfl|hk
  ·exact rz
  ·exact rz
  ·exact rz
  ·exact rz
  ·exact rz
  ·exact rz
  ·obtain ⟨l,_,rfl⟩:=lbx.1 hk;exact rz
 exact a3H (n:=m+6) X h a4g a4g (by simp [okS,okC,e7,a19]) (fun k hk=>⟨(hl k hk).1,(hl k hk).2,a9h k hk⟩) (fun k hk=>⟨(by rw [(hl k hk).1];intro h;cases h),a9h k hk⟩) rfl rfl
def a6U:b8A->Int × Int
 |.best=>(-1,-1)
 |.row r=>(r,-1)
 |.col s=>(-1,s)
 |.next r s=>(r,s)
def b8H {N:Nat} (h:0<N):okB N bxD:=by
 intro r hr c hc;simp at hr;subst hr;simp at hc;subst hc;exact h
def b80 (m n:Nat) (fr:LB) (D0:Fd) (g0:Nat->Rat) (hm:m<=100000) (hn:n<=1000) (h0:a5b m n D0 g0 D0) (hB:∀D,O8 m n D0 D->BdD m n 30000 D):
 ec 219 [.c (.ptr 0 0 0)] (a1i m n fr D0) (.tup [eI (a6U (B4 m n (a4J m n D0))).1,eI (a6U (B4 m n (a4J m n D0))).2]) (a1i m n fr (a4J m n D0)):=by
 refine ac Tryz.func219 ?_;conv=>whnf
 repeat' (first|refine zx ?_|refine a6L (i8 _ _ _) ?_|refine a4V ?_|apply zD<;>intro<;>try omega)<;>conv=>whnf
 refine v8 g8 (σ:=Fd) (fun D=>([J,S.c (C.ptr (m+6) 0 0)]++Jn 69,P7 m n fr D.V D.G D.O D.F D.A [bxD])) (fun D=>O8 m n D0 D) (fun D=>a6w m n D) D0 (idR (m+7)) a8e ?_ ?_
 ·refine a0t (T':=[]) (a2k rfl rfl rfl rfl rfl rfl (by rw [Z3,Z3];rfl)) rfl zV (by intro k hk;simp at hk;subst hk;exact b8H om) ⟨⟨j5 om,rz⟩,trivial⟩
 intro D hD;have bd:=hB D hD;have inv:a5b m n D0 g0 D:=by obtain ⟨k,hk⟩:=hD;exact a0c h0 hk
 have l1:=a7q m hm D.O (fun i=>decide (D.V i<0)) 293 [a8k m n fr D] (fun i hi=>b6p m n fr D i hi);have l2:=a7q n om D.F (fun j=>decide (0<D.G j)) 294 [a8k m n fr D] (fun j hj=>b60 m n fr D j hj);have va1:∀X,a0N (P7 m n fr D.V D.G D.O D.F D.A (bxD::X)) tT [.c (.own 3 0 m true),.c (.fn (.func 293) [.ptr (m+6) 0 0])] [a8B m D.O,.c (.t (.fn (.func 293) [a8k m n fr D]))]:=
  fun X=>⟨bH3,b4t (show _/\True from ⟨aU5,trivial⟩),trivial⟩
 have va2:∀X,a0N (P7 m n fr D.V D.G D.O D.F D.A (bxD::X)) tT [.c (.own 4 0 n true),.c (.fn (.func 294) [.ptr (m+6) 0 0])] [a8B n D.F,.c (.t (.fn (.func 294) [a8k m n fr D]))]:=
  fun X=>⟨bI9,b4t (show _/\True from ⟨aU5,trivial⟩),trivial⟩
 have va3:∀X (r:Nat),a0N (P7 m n fr D.V D.G D.O D.F D.A (bxD::bxI r::X)) tT [.c (.own 4 0 n true),.c (.fn (.func 295) [.ptr (m+6) 0 0,.ptr (m+7) 0 0])] [a8B n D.F,.c (.t (.fn (.func 295) [a8k m n fr D,.ptr [ti r]]))]:=
  fun X r=>⟨bI9,b4t (show _/\_/\True from ⟨aU5,b7M (t:=1) rfl,trivial⟩),trivial⟩
 have va4:∀X (x:Int) (s:Nat),a0N (P7 m n fr D.V D.G D.O D.F D.A (bxD::bxI x::bxI s::X)) tT [.c (.own 3 0 m true),.c (.fn (.func 296) [.ptr (m+6) 0 0,.ptr (m+8) 0 0])] [a8B m D.O,.c (.t (.fn (.func 296) [a8k m n fr D,.ptr [ti s]]))]:=
  fun X x s=>⟨bH3,b4t (show _/\_/\True from ⟨aU5,b7M (t:=2) rfl,trivial⟩),trivial⟩
 have fin0:∀(X:Hp) (r c:Int),G7 m n D=none->(r,c)=a6U (B4 m n D)->Fin (a1i m n fr D0).length (.tup [eI r,eI c]) (P7 m n fr D.V D.G D.O D.F D.A X) (.tup [eI (a6U (B4 m n (a4J m n D0))).1,eI (a6U (B4 m n (a4J m n D0))).2]) (a1i m n fr (a4J m n D0)):=by
  intro X r c hn ho;have e:=b88 h0 hD hn;rw [← e,←ho];have e0:a1i m n fr D=P7 m n fr D.V D.G D.O D.F D.A []:=by
   show _::_::_::_::_::_::_=_::_::_::_::_::_::(_++[]);rw [Z3]
  rw [e0];exact aq5 (N:=m+6) rfl rfl zV rz
 have go:∀(X:Hp) (env:Env) (r s:Nat),B4 m n D=.next r s->a0p (idR (m+7)) (P7 m n fr (D.exch r s).V (D.exch r s).G (D.exch r s).O (D.exch r s).F (D.exch r s).A (bxD::X)) env ([J,S.c (C.ptr (m+6) 0 0)]++Jn 69)->
  ∃ρ x',Ent (a1i m n fr D0).length ρ env (P7 m n fr (D.exch r s).V (D.exch r s).G (D.exch r s).O (D.exch r s).F (D.exch r s).A (bxD::X)) ([J,S.c (C.ptr (m+6) 0 0)]++Jn 69) (P7 m n fr x'.V x'.G x'.O x'.F x'.A [bxD])/\O8 m n D0 x'/\a6w m n x'<a6w m n D:=by
  intro X env r s hs hE;have hnx:G7 m n D=some (D.exch r s):=by unfold G7;rw [hs]
  exact ⟨idR (m+7),D.exch r s,a0t (T:=[bxD]) (T':=X) rfl rfl zV (by intro k hk;simp at hk;subst hk;exact b8H om) hE,a5g hD hnx,az9 (b8N inv.p inv.g) hnx⟩
 have exc:∀r s:Nat,B4 m n D=.next r s->ec 297 [.c (.ptr 0 0 0),eI r,eI s] (a1i m n fr D) (.tup []) (a1i m n fr (D.exch r s)):=fun r s hs=>by
  obtain ⟨q1,q2,q3⟩:=a4t hs;exact b3m m n fr D r s hm hn q1 q2 (a55 q3) bd (hB _ (a5g hD (by unfold G7;rw [hs])))
 cases hR:E8 D.O (fun i=>decide (D.V i<0)) m with
 |none=>
  rw [hR,show leI none=-1 from rfl] at l1;cases hS:E8 D.F (fun j=>decide (0<D.G j)) n with
  |none=>
   rw [hS,show leI none=-1 from rfl] at l2;have hst:B4 m n D=.best:=by unfold B4;rw [hR,hS]
   conv=>whnf
   repeat' (first|refine zx ?_|refine .inl ⟨_,_,m6 l1 (va1 _) rfl,?_⟩|refine .inl ⟨_,_,m6 l2 (va2 _) rfl,?_⟩|refine i9 (i8 _ _ _) ?_|refine i7 ?_|refine s9 (i8 _ _ _) ?_|refine j2 (t:=1) (i8 _ _ _) ?_|refine j2 (t:=2) (i8 _ _ _) ?_|refine j9 (t:=1) (i8 _ _ _) ?_|refine j9 (t:=2) (i8 _ _ _) ?_|apply zD<;>intro<;>try omega)<;>conv=>whnf
   all_goals first
    |omega
    |exact fin0 _ _ _ (by unfold G7;rw [hst]) (by rw [hst];rfl)
  |some ss=>
   rw [hS,show leI (some ss)=ss from rfl] at l2;have hss:=(G1 hS).1;have l4:=a7q m hm D.O (fun i=>decide (0<D.A i ss)) 296 [a8k m n fr D,T.ptr [ti ss]] (fun i hi=>aH4 m n fr D i ss hi hss);cases hC:E8 D.O (fun i=>decide (0<D.A i ss)) m with
   |none=>
    rw [hC,show leI none=-1 from rfl] at l4;have hst:B4 m n D=.col ss:=by unfold B4;rw [hR,hS];show Y8 m D ss=_;unfold Y8;rw [hC]
    conv=>whnf
    repeat' (first|refine zx ?_|refine .inl ⟨_,_,m6 l1 (va1 _) rfl,?_⟩|refine .inl ⟨_,_,m6 l2 (va2 _) rfl,?_⟩|refine .inl ⟨_,_,m6 l4 (va4 _ _ ss) rfl,?_⟩|refine i9 (i8 _ _ _) ?_|refine i7 ?_|refine s9 (i8 _ _ _) ?_|refine j2 (t:=1) (i8 _ _ _) ?_|refine j2 (t:=2) (i8 _ _ _) ?_|refine j9 (t:=1) (i8 _ _ _) ?_|refine j9 (t:=2) (i8 _ _ _) ?_|apply zD<;>intro<;>try omega)<;>conv=>whnf
    all_goals first
     |omega
     |exact fin0 _ _ _ (by unfold G7;rw [hst]) (by rw [hst];rfl)
   |some rq=>
    rw [hC,show leI (some rq)=rq from rfl] at l4;have hst:B4 m n D=.next rq ss:=by unfold B4;rw [hR,hS];show Y8 m D ss=_;unfold Y8;rw [hC]
    have exr:=exc _ _ hst;conv=>whnf
    repeat' (first|refine zx ?_|refine .inl ⟨_,_,m6 l1 (va1 _) rfl,?_⟩|refine .inl ⟨_,_,m6 l2 (va2 _) rfl,?_⟩|refine .inl ⟨_,_,m6 l4 (va4 _ _ ss) rfl,?_⟩|refine .inr ⟨_,_,am1 _ exr,?_⟩|refine i9 (i8 _ _ _) ?_|refine i7 ?_|refine s9 (i8 _ _ _) ?_|refine j2 (t:=1) (i8 _ _ _) ?_|refine j2 (t:=2) (i8 _ _ _) ?_|refine j9 (t:=1) (i8 _ _ _) ?_|refine j9 (t:=2) (i8 _ _ _) ?_|apply zD<;>intro<;>try omega)<;>conv=>whnf
    all_goals first
     |omega
     |exact go _ _ _ _ hst ⟨⟨j5 om,rz⟩,trivial⟩
 |some rr=>
  rw [hR,show leI (some rr)=rr from rfl] at l1;cases hS:E8 D.F (fun j=>decide (0<D.G j)) n with
  |none=>
   rw [hS,show leI none=-1 from rfl] at l2;have hrr:=(G1 hR).1;have l3:=a7q n om D.F (fun j=>decide (D.A rr j<0)) 295 [a8k m n fr D,T.ptr [ti rr]] (fun j hj=>aI1 m n fr D rr j hrr hj);cases hC:E8 D.F (fun j=>decide (D.A rr j<0)) n with
   |none=>
    rw [hC,show leI none=-1 from rfl] at l3;have hst:B4 m n D=.row rr:=by unfold B4;rw [hR,hS];show Y6 n D rr=_;unfold Y6;rw [hC]
    conv=>whnf
    repeat' (first|refine zx ?_|refine .inl ⟨_,_,m6 l1 (va1 _) rfl,?_⟩|refine .inl ⟨_,_,m6 l2 (va2 _) rfl,?_⟩|refine .inl ⟨_,_,m6 l3 (va3 _ rr) rfl,?_⟩|refine i9 (i8 _ _ _) ?_|refine i7 ?_|refine s9 (i8 _ _ _) ?_|refine j2 (t:=1) (i8 _ _ _) ?_|refine j2 (t:=2) (i8 _ _ _) ?_|refine j9 (t:=1) (i8 _ _ _) ?_|refine j9 (t:=2) (i8 _ _ _) ?_|apply zD<;>intro<;>try omega)<;>conv=>whnf
    all_goals first
     |omega
     |exact fin0 _ _ _ (by unfold G7;rw [hst]) (by rw [hst];rfl)
   |some sq=>
    rw [hC,show leI (some sq)=sq from rfl] at l3;have hst:B4 m n D=.next rr sq:=by unfold B4;rw [hR,hS];show Y6 n D rr=_;unfold Y6;rw [hC]
    have exr:=exc _ _ hst;conv=>whnf
    repeat' (first|refine zx ?_|refine .inl ⟨_,_,m6 l1 (va1 _) rfl,?_⟩|refine .inl ⟨_,_,m6 l2 (va2 _) rfl,?_⟩|refine .inl ⟨_,_,m6 l3 (va3 _ rr) rfl,?_⟩|refine .inr ⟨_,_,am1 _ exr,?_⟩|refine i9 (i8 _ _ _) ?_|refine i7 ?_|refine s9 (i8 _ _ _) ?_|refine j2 (t:=1) (i8 _ _ _) ?_|refine j2 (t:=2) (i8 _ _ _) ?_|refine j9 (t:=1) (i8 _ _ _) ?_|refine j9 (t:=2) (i8 _ _ _) ?_|apply zD<;>intro<;>try omega)<;>conv=>whnf
    all_goals first
     |omega
     |exact go _ _ _ _ hst ⟨⟨j5 om,rz⟩,trivial⟩
  |some ss=>
   rw [hS,show leI (some ss)=ss from rfl] at l2;have hrr:=(G1 hR).1;have hss:=(G1 hS).1;by_cases hlt:D.O rr<D.F ss
   ·skip
    have l3:=a7q n om D.F (fun j=>decide (D.A rr j<0)) 295 [a8k m n fr D,T.ptr [ti rr]] (fun j hj=>aI1 m n fr D rr j hrr hj);cases hC:E8 D.F (fun j=>decide (D.A rr j<0)) n with
    |none=>
     rw [hC,show leI none=-1 from rfl] at l3;have hst:B4 m n D=.row rr:=by unfold B4 Y6;rw [hR,hS];simp only [iA hlt];rw [hC]
     conv=>whnf
     repeat' (first|refine zx ?_|refine .inl ⟨_,_,m6 l1 (va1 _) rfl,?_⟩|refine .inl ⟨_,_,m6 l2 (va2 _) rfl,?_⟩|refine .inl ⟨_,_,m6 l3 (va3 _ rr) rfl,?_⟩|refine i9 (i8 _ _ _) ?_|refine i7 ?_|refine s9 (i8 _ _ _) ?_|refine j2 (t:=1) (i8 _ _ _) ?_|refine j2 (t:=2) (i8 _ _ _) ?_|refine j9 (t:=1) (i8 _ _ _) ?_|refine j9 (t:=2) (i8 _ _ _) ?_|refine P8 (r:=rr) om hrr ?_|refine P8 (r:=ss) om hss ?_|apply zD<;>intro<;>try omega)<;>conv=>whnf
     all_goals first
      |omega
      |exact fin0 _ _ _ (by unfold G7;rw [hst]) (by rw [hst];rfl)
    |some sq=>
     rw [hC,show leI (some sq)=sq from rfl] at l3;have hst:B4 m n D=.next rr sq:=by unfold B4 Y6;rw [hR,hS];simp only [iA hlt];rw [hC]
     have exr:=exc _ _ hst;conv=>whnf
     repeat' (first|refine zx ?_|refine .inl ⟨_,_,m6 l1 (va1 _) rfl,?_⟩|refine .inl ⟨_,_,m6 l2 (va2 _) rfl,?_⟩|refine .inl ⟨_,_,m6 l3 (va3 _ rr) rfl,?_⟩|refine .inr ⟨_,_,am1 _ exr,?_⟩|refine i9 (i8 _ _ _) ?_|refine i7 ?_|refine s9 (i8 _ _ _) ?_|refine j2 (t:=1) (i8 _ _ _) ?_|refine j2 (t:=2) (i8 _ _ _) ?_|refine j9 (t:=1) (i8 _ _ _) ?_|refine j9 (t:=2) (i8 _ _ _) ?_|refine P8 (r:=rr) om hrr ?_|refine P8 (r:=ss) om hss ?_|apply zD<;>intro<;>try omega)<;>conv=>whnf
     all_goals first|omega|exact go _ _ _ _ hst ⟨⟨j5 om,rz⟩,trivial⟩
   ·skip
    have l4:=a7q m hm D.O (fun i=>decide (0<D.A i ss)) 296 [a8k m n fr D,T.ptr [ti ss]] (fun i hi=>aH4 m n fr D i ss hi hss);cases hC:E8 D.O (fun i=>decide (0<D.A i ss)) m with
    |none=>
     rw [hC,show leI none=-1 from rfl] at l4;have hst:B4 m n D=.col ss:=by unfold B4 Y8;rw [hR,hS];simp only [iB hlt];rw [hC]
     conv=>whnf
     repeat' (first|refine zx ?_|refine .inl ⟨_,_,m6 l1 (va1 _) rfl,?_⟩|refine .inl ⟨_,_,m6 l2 (va2 _) rfl,?_⟩|refine .inl ⟨_,_,m6 l4 (va4 _ _ ss) rfl,?_⟩|refine i9 (i8 _ _ _) ?_|refine i7 ?_|refine s9 (i8 _ _ _) ?_|refine j2 (t:=1) (i8 _ _ _) ?_|refine j2 (t:=2) (i8 _ _ _) ?_|refine j9 (t:=1) (i8 _ _ _) ?_|refine j9 (t:=2) (i8 _ _ _) ?_|refine P8 (r:=rr) om hrr ?_|refine P8 (r:=ss) om hss ?_|apply zD<;>intro<;>try omega)<;>conv=>whnf
     all_goals first
      |omega
      |exact fin0 _ _ _ (by unfold G7;rw [hst]) (by rw [hst];rfl)
    |some rq=>
     rw [hC,show leI (some rq)=rq from rfl] at l4;have hst:B4 m n D=.next rq ss:=by unfold B4 Y8;rw [hR,hS];simp only [iB hlt];rw [hC]
     have exr:=exc _ _ hst;conv=>whnf
     repeat' (first|refine zx ?_|refine .inl ⟨_,_,m6 l1 (va1 _) rfl,?_⟩|refine .inl ⟨_,_,m6 l2 (va2 _) rfl,?_⟩|refine .inl ⟨_,_,m6 l4 (va4 _ _ ss) rfl,?_⟩|refine .inr ⟨_,_,am1 _ exr,?_⟩|refine i9 (i8 _ _ _) ?_|refine i7 ?_|refine s9 (i8 _ _ _) ?_|refine j2 (t:=1) (i8 _ _ _) ?_|refine j2 (t:=2) (i8 _ _ _) ?_|refine j9 (t:=1) (i8 _ _ _) ?_|refine j9 (t:=2) (i8 _ _ _) ?_|refine P8 (r:=rr) om hrr ?_|refine P8 (r:=ss) om hss ?_|apply zD<;>intro<;>try omega)<;>conv=>whnf
     all_goals first|omega|exact go _ _ _ _ hst ⟨⟨j5 om,rz⟩,trivial⟩
end Go.Proofs.YtikokmdpigploaaGreat
