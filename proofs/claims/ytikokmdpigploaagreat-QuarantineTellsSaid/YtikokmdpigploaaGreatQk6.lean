/- Part 6. -/
import Derived.Test.YtikokmdpigploaaGreatQk5
namespace Go.Proofs.YtikokmdpigploaaGreat
set_option linter.all false
set_option maxRecDepth 100000
set_option maxHeartbeats 8000000
open Go.RowKit
open St1 St2 St3 St4 St5 St6 St7 St8 StA StB StC
def bl (z:Int):Nat:=(dg z.natAbs).length
def a4Y (m n:Nat):(dg (m+n)).length<=max (dg m).length (dg n).length+1:=by
 refine N2 ?_;have h1:=Q4 m;have h2:=Q4 n;have h3:=a0W (Nat.le_max_left (dg m).length (dg n).length);have h4:=a0W (Nat.le_max_right (dg m).length (dg n).length);rw [J2];omega
def a4U (m n:Nat):(dg (m*n)).length<=(dg m).length+(dg n).length:=by
 refine N2 ?_;have h1:=Q4 m;have h2:=Q4 n;rw [a5K];have h3:(m:Int)*n<=m*(pw (dg n).length):=lbX om om;have h4:(m:Int)*pw (dg n).length<pw (dg m).length*pw (dg n).length:=Int.mul_lt_mul_of_pos_right h1 (K6 _);have h5:((m*n:Nat):Int)=m*n:=zq;omega
def U7 (x:Int):bl (-x)=bl x:=by unfold bl;rw [a1T]
def a7N (x y:Int):bl (x+y)<=max (bl x) (bl y)+1:=lbT (p7 (Int.natAbs_add_le x y)) (a4Y _ _)
def E3 (x y:Int):bl (x*y)<=bl x+bl y:=by unfold bl;rw [a2F];exact a4U _ _
def a4I {x y:Int} (h:x.natAbs<=y.natAbs):bl x<=bl y:=p7 h
def S2 {x:Int} (h0:-9223372036854775808<=x) (h1:x<=9223372036854775807):bl x<=4:=N2 (by simp only [pw];omega)
def o7 {x:Int} (h0:-1048575<=x) (h1:x<=1048575):bl x<=1:=N2 (by simp only [pw];omega)
def a9I (x y:Int) {n:Nat} (lx:bl x<=n) (ly:bl y<=n):bl (Int.gcd x y)<=n:=by
 by_cases h:x=0
 ·subst h;unfold bl at *;rw [Int.gcd_zero_left];simpa using ly
 ·refine lbT (p7 ?_) lx;simp only [aL4];exact Int.gcd_le_natAbs_left y h
def rl (x:Rat):Nat:=max (bl x.num) (bl x.den)
def G9 (x:Rat):bl x.num<=rl x:=Nat.le_max_left _ _
def H6 (x:Rat):bl x.den<=rl x:=Nat.le_max_right _ _
def N1 {p q:Int} (hq:q≠0):rl (Rat.divInt p q)<=max (bl p) (bl q):=by
 unfold rl;rw [Rat.num_divInt,Rat.den_divInt,if_neg hq];have h1:bl (q.sign*p / (q.gcd p:Nat))<=bl p:=a4I (by
  refine lbT (b2e _ _) ?_;rw [a2F];have:q.sign.natAbs=1:=by
   rcases a36 q 0 with h|h|h
   ·rw [a1Y h];rfl
   ·exact absurd h hq
   ·rw [O8 h];rfl
  rw [this,Nat.one_mul];exact lbS _)
 have h2:bl ((q.natAbs / q.gcd p:Nat):Int)<=bl q:=a4I (by simp only [aL4];exact Nat.div_le_self _ _);omega
def ah8 (x y:Rat):x+y=Rat.divInt (x.num*y.den+y.num*x.den) (x.den*y.den):=by rw [Rat.add_def',←Rat.divInt_ofNat,a3J]
def aK4 (x y:Rat):x*y=Rat.divInt (x.num*y.num) (x.den*y.den):=by rw [Rat.mul_def',←Rat.divInt_ofNat,a3J]
def b9q (x y:Rat):x / y=Rat.divInt (x.num*y.den) (x.den*y.num):=by
 rw [a6b,Rat.inv_def];conv=>lhs;rw [← Rat.num_divInt_den x]
 rw [Rat.divInt_mul_divInt]
def b1S (x:Rat):(x.den:Int)≠0:=by have:=x.den_pos;omega
def ai8 (x y:Rat):(x.den:Int)*y.den≠0:=Int.mul_ne_zero (b1S x) (b1S y)
def a3A (x y:Rat):rl (x+y)<=rl x+rl y+1:=by
 rw [ah8];have h1:=a7N (x.num*y.den) (y.num*x.den);have h2:=E3 x.num y.den;have h3:=E3 y.num x.den;have h4:=E3 x.den y.den;have:=N1 (p:=x.num*y.den+y.num*x.den) (ai8 x y);unfold rl at *;omega
def U6 (x:Rat):rl (-x)=rl x:=by unfold rl;rw [ak5,Rat.neg_den,U7]
def aM9 (x y:Rat):rl (x - y)<=rl x+rl y+1:=by rw [b2I];have:=a3A x (-y);rw [U6] at this;exact this
def a52 (x y:Rat):rl (x*y)<=rl x+rl y:=by
 rw [aK4];have h2:=E3 x.num y.num;have h4:=E3 x.den y.den;have:=N1 (p:=x.num*y.num) (ai8 x y);unfold rl at *;omega
def a18 (n:Int):rl (n:Rat)=max (bl n) 1:=by unfold rl;rw [a7M,av1];rfl
def a5d (x y:Rat):Int:=if x<y then -1 else if y<x then 1 else 0
def b8w {x:Rat}:x.num<0↔x<0:=by rw [Rat.lt_iff];simp
def b71 {x:Rat}:0<x.num↔0<x:=by rw [Rat.lt_iff];simp
def sgR (x:Rat):Int:=if x<0 then -1 else if 0<x then 1 else 0
def a8Q (x:Rat):x.num.sign=sgR x:=by
 unfold sgR;by_cases h:x<0
 ·rw [if_pos h,a1Y (b8w.2 h)]
 ·rw [if_neg h];by_cases h2:0<x
  ·rw [if_pos h2,O8 (b71.2 h2)]
  ·rw [if_neg h2];have h3:¬x.num<0:=fun e=>h (b8w.1 e)
   have h4:¬0<x.num:=fun e=>h2 (b71.1 e)
   rw [show x.num=0 by omega];rfl
set_option maxHeartbeats 1000000
def b81 (m n:Nat) (lm:(dg m).length<=300000) (ln:(dg n).length<=300000):
 ec 260 [j3 (dg m),j3 (dg n)] [] (j3 (dg (m+n))) []:=by
 have h:=bA9 (dg m) (dg n) (v5 m) (v5 n) om om;rw [p9,p9,show ((m:Int)+n).toNat=m+n by omega] at h;exact h
def ak7 (m n:Nat) (lm:(dg m).length<=300000) (h:n<=m):
 ec 261 [j3 (dg m),j3 (dg n)] [] (j3 (dg (m - n))) []:=by
 have h:=by9 (dg m) (dg n) (v5 m) (v5 n) om (p7 h) (by rw [p9,p9];omega);rw [p9,p9,show ((m:Int) - n).toNat=m - n by omega] at h;exact h
def bq2 (m n:Nat) (lm:(dg m).length<=300000) (ln:(dg n).length<=300000):
 ec 264 [j3 (dg m),j3 (dg n)] [] (j3 (dg (m*n))) []:=by
 have h:=bk5 (dg m) (dg n) (v5 m) (v5 n) om om;rw [p9,p9,show ((m:Int)*n).toNat=m*n by rw [← a3J];rfl] at h;exact h
def bp7 (m n:Nat) (lm:(dg m).length<=300000) (ln:(dg n).length<=300000):
 ec 189 [j3 (dg m),j3 (dg n)] [] (eI (M6 m n)) []:=by
 have h:=a3M (dg m) (dg n) (U5 m) (U5 n) om om;rw [p9,p9] at h;exact h
def A6 (s:Int) (k:Nat) (h:s=1∨s=-1∨k=0) (lk:(dg k).length<=700000):
 ec 191 [eI s,j3 (dg k)] [] (bgS (bz (s*k))) []:=by
 have e:=b0K s (dg k) om;rw [b1e (v5 k) (by rw [p9];omega),p9] at e;exact e
def Sg (s:Int) (m:Nat):Prop:=(s=0∧m=0)∨(s=1∧0<m)∨(s=-1∧0<m)
def a7g (x:Int):Sg x.sign x.natAbs:=by
 rcases C8 x with ⟨e,h1⟩|⟨e,h1⟩|⟨e,h1⟩
 ·exact .inl ⟨e,om⟩
 ·exact .inr (.inl ⟨e,om⟩)
 ·exact .inr (.inr ⟨e,om⟩)
def a8h {s:Int} {m:Nat} (h:Sg s m):bz (s*m)=⟨s,dg m⟩:=by
 rcases h with ⟨rfl,rfl⟩|⟨rfl,h⟩|⟨rfl,h⟩
 ·rfl
 ·unfold bz;rw [a1S,O8 om];rfl
 ·unfold bz;rw [a1Y om];congr 2;omega
def a2D (s:Int) (m:Nat) (h:Sg s m) (lm:(dg m).length<=300000):ec 181 [bgS ⟨s,dg m⟩] [] (j8 true) []:=by
 have:=a41 ⟨s,dg m⟩ (show (dg m).length<=1000000 by omega);rw [← a8h h,a0K,a8h h] at this;exact this
def a7m {b b':Bg} {e:Int} {H1:Hp} (h:b=b'):Fin 0 (.tup [bgS b,eI e]) H1 (.tup [bgS b',eI e]) []:=by
 subst h;exact n9 rz
def J4 {a b c d:Nat} (h:a<=max b c+1) (h2:max b c+1<=d):a<=d:=lbT h h2
def bo7 (s t:Int) (m n:Nat) (hs:Sg s m) (ht:Sg t n) (lm:(dg m).length<=200000) (ln:(dg n).length<=200000):
 ec 186 [bgS ⟨s,dg m⟩,bgS ⟨t,dg n⟩] [] (.tup [bgS (bz (s*m+t*n)),eI 0]) []:=by
 have r1:=a2D s m hs om;have r2:=a2D t n ht om;have ad:=b81 m n om om;have c:=bp7 m n om om;have ls:=a4Y m n;have fin:∀(z:Int) (H1:Hp),z=s*m+t*n->Fin 0 (.tup [bgS (if true then bz z else ⟨0,[]⟩),eI 0]) H1 (.tup [bgS (bz (s*m+t*n)),eI 0]) []:=fun z H1 h=>a7m (by rw [h];rfl)
 rcases hs with ⟨rfl,rfl⟩|⟨rfl,h1⟩|⟨rfl,h1⟩<;>rcases ht with ⟨rfl,rfl⟩|⟨rfl,h2⟩|⟨rfl,h2⟩
 case inl.inl=>
  have sg:=A6 (0) _ om (J4 ls om);have co:=a4r (0) (0);refine ac Tryz.func186 ?_;conv=>whnf
  repeat' (first|refine zx ?_|refine qp (K9 true _) ?_|refine ⟨_,E5 (y:=0) rfl de de,?_⟩|apply zD<;>intro h<;>try omega)<;>conv=>whnf
  all_goals first|omega|exact fin _ _ om
 case inl.inr.inl=>
  have sg:=A6 (1) _ om (J4 ls om);have co:=a4r (0) (1);refine ac Tryz.func186 ?_;conv=>whnf
  repeat' (first|refine zx ?_|refine qp (K9 true _) ?_|refine ⟨_,E5 (y:=0) rfl de de,?_⟩|apply zD<;>intro h<;>try omega)<;>conv=>whnf
  all_goals first|omega|exact fin _ _ om
 case inl.inr.inr=>
  have sg:=A6 (-1) _ om (J4 ls om);have co:=a4r (0) (-1);refine ac Tryz.func186 ?_;conv=>whnf
  repeat' (first|refine zx ?_|refine qp (K9 true _) ?_|refine ⟨_,E5 (y:=0) rfl de de,?_⟩|apply zD<;>intro h<;>try omega)<;>conv=>whnf
  all_goals first|omega|exact fin _ _ om
 case inr.inl.inl=>
  have sg:=A6 (1) _ om (J4 ls om);have co:=a4r (1) (0);refine ac Tryz.func186 ?_;conv=>whnf
  repeat' (first|refine zx ?_|refine qp (K9 true _) ?_|refine ⟨_,E5 (y:=0) rfl de de,?_⟩|apply zD<;>intro h<;>try omega)<;>conv=>whnf
  all_goals first|omega|exact fin _ _ om
 case inr.inr.inl=>
  have sg:=A6 (-1) _ om (J4 ls om);have co:=a4r (-1) (0);refine ac Tryz.func186 ?_;conv=>whnf
  repeat' (first|refine zx ?_|refine qp (K9 true _) ?_|refine ⟨_,E5 (y:=0) rfl de de,?_⟩|apply zD<;>intro h<;>try omega)<;>conv=>whnf
  all_goals first|omega|exact fin _ _ om
 case inr.inl.inr.inl=>
  have sg:=A6 (1) _ om (J4 ls om);have co:=a4r (1) (1);refine ac Tryz.func186 ?_;conv=>whnf
  repeat' (first|refine zx ?_|refine qp (K9 true _) ?_|refine ⟨_,E5 (y:=1) rfl de de,?_⟩|apply zD<;>intro h<;>try omega)<;>conv=>whnf
  all_goals first|omega|exact fin _ _ om
 case inr.inr.inr.inr=>
  have sg:=A6 (-1) _ om (J4 ls om);have co:=a4r (-1) (-1);refine ac Tryz.func186 ?_;conv=>whnf
  repeat' (first|refine zx ?_|refine qp (K9 true _) ?_|refine ⟨_,E5 (y:=1) rfl de de,?_⟩|apply zD<;>intro h<;>try omega)<;>conv=>whnf
  all_goals first|omega|exact fin _ _ om
 case inr.inl.inr.inr=>
  rcases F8 m n with hmn|hmn
  ·rw [a4i om] at c;have l3:=p7 (a4z n m);refine ac Tryz.func186 ?_;conv=>whnf
   repeat' (first|refine zx ?_|refine qp (ak7 n m om om) ?_|refine qp (A6 (-1) (n - m) om om) ?_|refine qp (K9 true _) ?_|refine ⟨_,E5 (y:=-1) rfl de de,?_⟩|apply zD<;>intro h<;>try omega)<;>conv=>whnf
   all_goals first|omega|exact fin _ _ om
  ·have hc:0<=M6 m n:=by unfold M6;split<;>(try split)<;>omega
   have l3:=p7 (a4z m n);refine ac Tryz.func186 ?_;conv=>whnf
   repeat' (first|refine zx ?_|refine qp (ak7 m n om om) ?_|refine qp (A6 (1) (m - n) om om) ?_|refine qp (K9 true _) ?_|refine ⟨_,E5 (y:=-1) rfl de de,?_⟩|apply zD<;>intro h<;>try omega)<;>conv=>whnf
   all_goals first|omega|exact fin _ _ om
 case inr.inr.inr.inl=>
  rcases F8 m n with hmn|hmn
  ·rw [a4i om] at c;have l3:=p7 (a4z n m);refine ac Tryz.func186 ?_;conv=>whnf
   repeat' (first|refine zx ?_|refine qp (ak7 n m om om) ?_|refine qp (A6 (1) (n - m) om om) ?_|refine qp (K9 true _) ?_|refine ⟨_,E5 (y:=-1) rfl de de,?_⟩|apply zD<;>intro h<;>try omega)<;>conv=>whnf
   all_goals first|omega|exact fin _ _ om
  ·have hc:0<=M6 m n:=by unfold M6;split<;>(try split)<;>omega
   have l3:=p7 (a4z m n);refine ac Tryz.func186 ?_;conv=>whnf
   repeat' (first|refine zx ?_|refine qp (ak7 m n om om) ?_|refine qp (A6 (-1) (m - n) om om) ?_|refine qp (K9 true _) ?_|refine ⟨_,E5 (y:=-1) rfl de de,?_⟩|apply zD<;>intro h<;>try omega)<;>conv=>whnf
   all_goals first|omega|exact fin _ _ om
def sgm (x:Int):x.sign*x.natAbs=x:=ar1 x
def a6n (x:Int) (lx:bl x<=300000):ec 181 [bgS (bz x)] [] (j8 true) []:=a2D _ _ (a7g x) lx
def bp3 (x y:Int) (lx:bl x<=200000) (ly:bl y<=200000):ec 186 [bgS (bz x),bgS (bz y)] [] (.tup [bgS (bz (x+y)),eI 0]) []:=by
 have h:=bo7 _ _ _ _ (a7g x) (a7g y) lx ly;rw [sgm,sgm] at h;exact h
def a9G (x:Int) (lx:bl x<=300000):ec 185 [bgS (bz x)] [] (bgS (bz (-x))) []:=by
 have h:=br5 (bz x) (show bl x<=1000000 by omega);unfold b4i at h;rw [a0K,a5k] at h;exact h
abbrev bg2 (s:Int) (l:LI):S:=.agg [.t (ti s),.t (w7 l)]
def bu9 (s t:Int) (m n:Nat) (hs:Sg s m) (ht:Sg t n) (lm:(dg m).length<=200000) (ln:(dg n).length<=200000):
 ec 190 [bgS ⟨s,dg m⟩,bgS ⟨t,dg n⟩] [] (.tup [bgS (bz ((s*t)*(m*n:Nat))),eI 0]) []:=by
 have r1:=a2D s m hs om;have r2:=a2D t n ht om;have mu:=bq2 m n om om;have ls:=a4U m n;have hst:-1<=s*t∧s*t<=1∧(s*t=1∨s*t=-1∨m*n=0):=by
  rcases hs with ⟨rfl,rfl⟩|⟨rfl,h1⟩|⟨rfl,h1⟩<;>rcases ht with ⟨rfl,rfl⟩|⟨rfl,h2⟩|⟨rfl,h2⟩<;>simp
 obtain ⟨q1,q2,q3⟩:=hst;have sg:=A6 (s*t) (m*n) q3 om;have ck:=K9 true (bz ((s*t)*(m*n:Nat)));refine ac Tryz.func190 ?_;conv=>whnf
 repeat' (first|refine zx ?_|refine ⟨_,E5 (y:=s*t) rfl om om,?_⟩|apply zD<;>intro<;>try omega)<;>conv=>whnf
 all_goals first|(exfalso;simp_all;done)|exact a7m rfl
def br9 (x y:Int) (lx:bl x<=200000) (ly:bl y<=200000):ec 190 [bgS (bz x),bgS (bz y)] [] (.tup [bgS (bz (x*y)),eI 0]) []:=by
 have h:=bu9 _ _ _ _ (a7g x) (a7g y) lx ly;have e:(x.sign*y.sign)*((x.natAbs*y.natAbs:Nat):Int)=x*y:=by
  rw [a3J];have h1:=sgm x;have h2:=sgm y;grind
 rw [e] at h;exact h
def b1D (x y:Int) (lx:bl x<=300000) (ly:bl y<=300000):ec 120 [bgS (bz x),bgS (bz y)] [] (eI (M6 x y)) []:=by
 have h:=b2J (bz x) (bz y) (show bl x<=1000000 by omega) (show bl y<=1000000 by omega);unfold b4O at h;rw [a0K,a0K,a5k,a5k] at h;exact h
def b3e {b b' c c':Bg} {e:Int} {H1:Hp} (h:b=b') (h2:c=c'):Fin 0 (.tup [bgS b,bgS c,eI e]) H1 (.tup [bgS b',bgS c',eI e]) []:=by
 subst h h2;exact n9 rz
def bx7 (s:Int) (m n:Nat) (hs:Sg s m) (hn:0<n) (lm:(dg m).length<=200000) (ln:(dg n).length<=200000):
 ec 262 [bgS ⟨s,dg m⟩,bgS ⟨1,dg n⟩] [] (.tup [bgS (bz (s*m / n)),bgS (bz (s*m % n)),eI 0]) []:=by
 show ec 262 [bg2 s (dg m),bg2 1 (dg n)] [] _ [];have r1:=a2D s m hs om;have r2:=a2D 1 n (.inr (.inl ⟨rfl,hn⟩)) om;have dv:=bj9 m n hn om om;have lq:=p7 (Nat.div_le_self m n);have hr:=a8T m hn;have lr:=p7 (at3 hr);have lr2:((dg (m % n)).map j0).length=(dg (m % n)).length:=zq;have hz:(dg (m % n)).length=0↔m % n=0:=by rw [a0I,L1]
 have hm:=b3E m n;have fin:∀(a b:Int) (H1:Hp),a=s*m / n->b=s*m % n->Fin 0 (.tup [bgS (bz a),bgS (bz b),eI 0]) H1 (.tup [bgS (bz (s*m / n)),bgS (bz (s*m % n)),eI 0]) []:=fun a b H1 h1 h2=>b3e (by rw [h1]) (by rw [h2])
 rcases hs with ⟨rfl,rfl⟩|⟨rfl,h1⟩|⟨rfl,h1⟩
 ·have s1:=A6 0 (0 / n) zq om;have s2:=A6 0 (0 % n) zq om;refine ac Tryz.func262 ?_;conv=>whnf
  repeat' (first|refine zx ?_|refine ⟨_,E5 (y:=0) rfl de de,?_⟩|apply zD<;>intro h<;>try omega)<;>conv=>whnf
  all_goals first|omega|exact fin _ _ _ (by first|rfl|simp) (by first|rfl|simp)
 ·have s1:=A6 1 (m / n) zq om;have s2:=A6 1 (m % n) zq om;refine ac Tryz.func262 ?_;conv=>whnf
  repeat' (first|refine zx ?_|refine ⟨_,E5 (y:=1) rfl de de,?_⟩|apply zD<;>intro h<;>try omega)<;>conv=>whnf
  all_goals first|omega|exact fin _ _ _ (by first|rfl|simp) (by first|rfl|simp)
 ·by_cases h0:m % n=0
  ·have hz0:=hz.2 h0;have s1:=A6 (-1) (m / n) zq om;have s2:=A6 (-1) (m % n) zq om;have e1:-1*((m / n:Nat):Int)=-1*(m:Int) / n:=by
    have e:(m:Int)=n*(m / n:Nat):=by rw [← a3J];congr 1;omega
    rw [e,show -1*((n:Int)*(m / n:Nat))=n*(-1*(m / n:Nat)) by grind,aK5 _ om]
   have e2:-1*((m % n:Nat):Int)=-1*(m:Int) % n:=by
    have e:(m:Int)=n*(m / n:Nat):=by rw [← a3J];congr 1;omega
    rw [h0,e,show -1*((n:Int)*(m / n:Nat))=n*(-1*(m / n:Nat)) by grind,Int.mul_emod_right];simp
   refine ac Tryz.func262 ?_;conv=>whnf
   repeat' (first|refine zx ?_|refine ⟨_,E5 (y:=-1) rfl de de,?_⟩|apply zD<;>intro h<;>try omega)<;>conv=>whnf
   all_goals first|omega|exact fin _ _ _ e1 e2
  ·have hz0:(dg (m % n)).length≠0:=fun h=>h0 (hz.1 h)
   have one:dg 1=[1]:=rfl;have ad:=b81 (m / n) 1 om (by simp [one]);have sb:=ak7 n (m % n) om om;have l1:=a4Y (m / n) 1;have l2:=p7 (a4z n (m % n));have s1:=A6 (-1) (m / n+1) zq (by rw [one] at l1;simp at l1;omega);have s2:=A6 1 (n - m % n) zq om;have key:(-1*(m:Int))=(n - m % n:Nat)+n*(-1*((m / n+1:Nat):Int)):=by
    have e:(m:Int)=n*(m / n:Nat)+(m % n:Nat):=by rw [← a3J];omega
    have e2:((n - m % n:Nat):Int)=n - (m % n:Nat):=om;have e3:((m / n+1:Nat):Int)=(m / n:Nat)+1:=om;rw [e2,e3];grind
   have e1:-1*((m / n+1:Nat):Int)=-1*(m:Int) / n:=by
    rw [key,Int.add_mul_ediv_left _ _ om,Int.ediv_eq_zero_of_lt om om];simp
   have e2:1*((n - m % n:Nat):Int)=-1*(m:Int) % n:=by
    rw [key,Int.add_mul_emod_self_left,au9 om om];simp
   refine ac Tryz.func262 ?_;conv=>whnf
   repeat' (first|refine zx ?_|refine .inl ⟨_,_,a1k ad ⟨ay0,a1X (aY4 rfl),trivial⟩ rfl,?_⟩|refine ⟨_,E5 (y:=-1) rfl de de,?_⟩|apply zD<;>intro h<;>try omega)<;>conv=>whnf
   all_goals first|omega|exact fin _ _ _ e1 e2
def aI6 (x y:Int) (hy:0<y) (lx:bl x<=200000) (ly:bl y<=200000):ec 262 [bgS (bz x),bgS (bz y)] [] (.tup [bgS (bz (x / y)),bgS (bz (x % y)),eI 0]) []:=by
 have h:=bx7 _ _ y.natAbs (a7g x) om lx ly;rw [sgm,show (y.natAbs:Int)=y by omega] at h;unfold bz at *;rw [O8 hy];exact h
abbrev a5R:Blk:={ mode:=.live,elem:=84,size:=2,rows:=[[B6 (.int .i64 0),B6 (.slice none 0 0)]],box:=true }
def S6:J9 [[B6 (.int .i64 0),B6 (.slice none 0 0)]]:=by
 intro r hr c hc;simp at hr;subst hr;simp at hc;rcases hc with rfl|rfl<;>rfl
structure bd9 (x y:Int) (X Y:Nat):Prop where
 g:Nat.gcd X Y=Nat.gcd x.natAbs y.natAbs
 lx:(dg X).length<=200000
 ly:(dg Y).length<=200000
def b2l (x y:Int) (lx:bl x<=200000) (ly:bl y<=200000):ec 182 [bgS (bz x),bgS (bz y)] [] (.tup [bgS (bz (Int.gcd x y)),eI 0]) []:=by
 have r1:=a6n x om;have r2:=a6n y om;have cl:=ag2 (bz x).dl (show bl x<=1000000 by omega);refine ac Tryz.func182 ?_;conv=>whnf
 repeat' (first|refine zx ?_|apply zD<;>intro<;>try omega)<;>conv=>whnf
 all_goals first|(exfalso;simp_all;done)|skip
 refine o9 d9 (σ:=Nat × Nat) (fun|(X,Y)=>([J,J,J,J,sP 0 0 0,J,j3 (dg X),j3 (dg Y)]++Jn 36,[a5R])) (fun s=>bd9 x y s.1 s.2) (fun s=>s.2) (x.natAbs,y.natAbs) [some 2]
  ⟨rfl,lx,ly⟩ ⟨rfl,rfl,⟨⟨rfl,rfl,rfl,.inl ⟨rfl,S6⟩⟩,trivial⟩,rz⟩ ?_
 rintro ⟨X,Y⟩ hI;have hI:bd9 x y X Y:=hI;obtain ⟨g1,g2,g3⟩:=hI;have l2:((dg Y).map j0).length=(dg Y).length:=zq;conv=>whnf
 by_cases hY:0<Y
 ·have hp:(dg Y).length≠0:=by rw [Ne,a0I,L1];omega
  have dv:=bj9 X Y hY om om
  repeat' (first|refine zx ?_|apply zD<;>intro<;>try omega)<;>conv=>whnf
  all_goals first|omega|skip
  exact ⟨[some 0],(Y,X % Y),⟨rfl,rfl,⟨⟨rfl,rfl,rfl,.inl ⟨rfl,S6⟩⟩,trivial⟩,rz⟩,⟨by rw [← g1,Nat.gcd_comm Y,←Nat.gcd_rec,Nat.gcd_comm],g3,lbT (p7 (at3 (a8T X hY))) g3⟩,a8T X hY⟩
 ·have hY:Y=0:=by omega
  subst hY;have hp:(dg 0).length=0:=rfl;have c2:=ag2 (dg X) om;have s1:=A6 1 X zq om;have ck:=K9 true (bz (1*X))
  repeat' (first|refine zx ?_|apply zD<;>intro<;>try omega)<;>conv=>whnf
  all_goals first|omega|skip
  refine a7m ?_;rw [a1S,show X=Int.gcd x y by rw [Int.gcd,←g1,Nat.gcd_zero_right]]
  rfl
def a2l {x y:Int} (h:x % 18446744073709551616=y):J8 .u64 x y:=by
 unfold J8;simp only [IntKind.wrap,IntKind.bits,IntKind.signed];simp;omega
def b3o (a:Int):a0m .and .u64 a 1048575 (a % 1048576):=(aN2 (a:=a) 20 de).symm
def b8D (a:Int):b39 .u64 a 20 (a / 1048576):=by
 show a / 1048576=a.fdiv 1048576;exact (Int.fdiv_eq_ediv_of_nonneg _ de).symm
structure OfI (n:Int) (acc:LI) (u:Nat):Prop where
 eq:acc++dg u=dg n.natAbs
def OfI.len {n:Int} {acc:LI} {u:Nat} (h:OfI n acc u) (h0:-9223372036854775808<=n) (h1:n<=9223372036854775807):acc.length<=4:=by
 have h2:(dg n.natAbs).length<=4:=N2 (by simp only [pw];omega);have h3:=congrArg List.length h.eq;simp at h3;omega
def OfI.step {n:Int} {acc:LI} {u:Nat} (h:OfI n acc u) (hu:0<u):OfI n (acc++[(u:Int) % 1048576]) (u / 1048576):=by
 refine ⟨?_⟩;rw [← h.eq,a7Y hu];simp
def OfI.le {n:Int} {acc:LI} {u:Nat} (h:OfI n acc u):u<=n.natAbs:=by
 have h1:=congrArg val h.eq;rw [L4,p9,p9] at h1;have h2:Okd acc:=fun x hx=>v5 n.natAbs x (by rw [← h.eq];simp [hx])
 have h3:=v7 h2;have h4:=K6 acc.length;have h5:=lbY (a:=1) (b:=pw acc.length) (c:=(u:Int)) om om;omega
def a2P {xs:LI} {x:Int}:(toC (xs.map j0)).take xs.length++toC [[ti x]]=toC ((xs++[x]).map j0):=b9O (f:=j0)
def b3C (n:Int) (h0:-9223372036854775808<=n) (h1:n<=9223372036854775807):ec 122 [eI n] [] (bgS (bz n)) []:=by
 by_cases hn:n<0
 ·refine ac Tryz.func122 ?_;conv=>whnf
  repeat' (first|refine zx ?_|refine ⟨_,a2l (y:=n+18446744073709551616) om,?_⟩|refine ⟨_,a2l (y:=(n.natAbs:Int)) om,?_⟩|apply zD<;>intro h<;>try omega)<;>conv=>whnf
  refine o9 d9 (σ:=LI × Nat) (fun|(acc,u)=>([J,J,sP 0 0 0,eI (-1),c9 .u64 u,a1U 1 acc]++Jn 19,[a5R,o8 acc])) (fun s=>OfI n s.1 s.2) (fun s=>s.2) ([],n.natAbs) [some 0,none]
   ⟨rfl⟩ ⟨rfl,rfl,⟨⟨rfl,rfl,rfl,.inl ⟨rfl,S6⟩⟩,rz⟩,⟨rz,rfl,d7 om,rz⟩⟩ ?_
  rintro ⟨acc,u⟩ hI;have hI:OfI n acc u:=hI;have hl:=hI.len h0 h1;have hu:=hI.le;conv=>whnf
  repeat' (first|refine zx ?_|refine ⟨_,b3o _,?_⟩|refine ⟨de,_,b8D _,?_⟩|refine o6 zt zu ?_|refine ⟨_,a2l om,?_⟩|apply zD<;>intro h<;>try omega)<;>conv=>whnf
  ·refine ⟨[some 0,some 2],(acc++[(u:Int) % 1048576],u / 1048576),⟨rfl,rfl,⟨⟨rfl,rfl,rfl,.inl ⟨rfl,S6⟩⟩,d8 rfl rfl rfl a2P rfl,trivial⟩,⟨rz,rfl,d7 zq,q9 rfl zt,trivial⟩⟩,hI.step om,by show u / 1048576<u;omega⟩
  ·have h0u:u=0:=by omega
   subst h0u;have e:acc=dg n.natAbs:=by have:=hI.eq;rw [a0b,Y7] at this;exact this
   have sg:=A6 (-1) n.natAbs om (by rw [← e];omega);rw [← e,show (-1)*(n.natAbs:Int)=n by omega] at sg;refine .inr ⟨_,_,z6 [1] sg ⟨ay0,a1X (s6 zq rfl zi rfl rfl zq),trivial⟩ rfl,?_⟩;conv=>whnf
   exact n9 rz
 ·refine ac Tryz.func122 ?_;conv=>whnf
  repeat' (first|refine zx ?_|refine ⟨_,a2l (y:=(n.natAbs:Int)) om,?_⟩|apply zD<;>intro h<;>try omega)<;>conv=>whnf
  refine o9 d9 (σ:=LI × Nat) (fun|(acc,u)=>([J,J,sP 0 0 0,eI 1,c9 .u64 u,a1U 1 acc]++Jn 19,[a5R,o8 acc])) (fun s=>OfI n s.1 s.2) (fun s=>s.2) ([],n.natAbs) [some 0,none]
   ⟨rfl⟩ ⟨rfl,rfl,⟨⟨rfl,rfl,rfl,.inl ⟨rfl,S6⟩⟩,rz⟩,⟨rz,rfl,d7 om,rz⟩⟩ ?_
  rintro ⟨acc,u⟩ hI;have hI:OfI n acc u:=hI;have hl:=hI.len h0 h1;have hu:=hI.le;conv=>whnf
  repeat' (first|refine zx ?_|refine ⟨_,b3o _,?_⟩|refine ⟨de,_,b8D _,?_⟩|refine o6 zt zu ?_|refine ⟨_,a2l om,?_⟩|apply zD<;>intro h<;>try omega)<;>conv=>whnf
  ·refine ⟨[some 0,some 2],(acc++[(u:Int) % 1048576],u / 1048576),⟨rfl,rfl,⟨⟨rfl,rfl,rfl,.inl ⟨rfl,S6⟩⟩,d8 rfl rfl rfl a2P rfl,trivial⟩,⟨rz,rfl,d7 zq,q9 rfl zt,trivial⟩⟩,hI.step om,by show u / 1048576<u;omega⟩
  ·have h0u:u=0:=by omega
   subst h0u;have e:acc=dg n.natAbs:=by have:=hI.eq;rw [a0b,Y7] at this;exact this
   have sg:=A6 (1) n.natAbs om (by rw [← e];omega);rw [← e,show (1)*(n.natAbs:Int)=n by omega] at sg;refine .inr ⟨_,_,z6 [1] sg ⟨ay0,a1X (s6 zq rfl zi rfl rfl zq),trivial⟩ rfl,?_⟩;conv=>whnf
   exact n9 rz
def aO9 (i:Nat):pw i=((2 ^ (20*i):Nat):Int):=by
 unfold pw;rw [show (1048576:Int)=((2 ^ 20:Nat):Int) by decide,←Int.natCast_pow,←Nat.pow_mul]
def bG6 {d:Int} {i:Nat} {b:Int} (hi:i<=3) (h:0<=d) (h2:d*pw i<18446744073709551616) (hb:b=20*i):J8 .u64 (d*2 ^ min b.toNat (IntKind.bits .u64)) (d*pw i):=by
 have e:min b.toNat (IntKind.bits .u64)=20*i:=by show min b.toNat 64=_;omega
 have hp:=K6 i;have h3:0<=d*pw i:=lb1 h om;rw [e,show (2:Int) ^ (20*i)=pw i by rw [aO9];simp];exact aZ7 h3 h2
def oru {u d:Int} {i:Nat} (hu:0<=u) (hu2:u<pw i) (h:0<=d) (h2:u+d*pw i<18446744073709551616):a0m .or .u64 u (d*pw i) (u+d*pw i):=by
 obtain ⟨U,rfl⟩:=a6s hu;obtain ⟨D,rfl⟩:=a6s h;have hp:=K6 i;have e2:(U:Int)+D*pw i=((U+2 ^ (20*i)*D:Nat):Int):=by rw [aO9];simp [a78]
 have e3:(D:Int)*pw i=((2 ^ (20*i)*D:Nat):Int):=by rw [aO9];simp [a78]
 rw [e2] at h2;have hU:U<2 ^ (20*i):=by rw [aO9] at hu2;omega
 have k1:(BitVec.ofInt (IntKind.bits .u64) (U:Int) ||| BitVec.ofInt (IntKind.bits .u64) ((2 ^ (20*i)*D:Nat):Int)).toNat=U+2 ^ (20*i)*D:=by
  show (BitVec.ofInt 64 _ ||| BitVec.ofInt 64 _).toNat=_;rw [BitVec.toNat_or,BitVec.toNat_ofInt,BitVec.toNat_ofInt];rw [au9 om om,au9 om om,lbZ,lbZ,Nat.or_comm,←Nat.two_pow_add_eq_or_of_lt hU,aG4]
 rw [e2,e3];unfold a0m;simp only;rw [k1];exact (ar8 om h2).symm
structure b2M (n:Nat) (k:Nat) (u:Int):Prop where
 eq:u=val ((dg n).take k)
 le:k<=(dg n).length
 lt:k=4->u<9*1152921504606846976
def b2M.rng {n k:Nat} {u:Int} (h:b2M n k u):0<=u∧u<pw k:=by
 have h1:=v7 ((v5 n).take k);have h2:=W3 ((v5 n).take k);rw [lbs,a32 h.le,←h.eq] at h2;rw [← h.eq] at h1;exact ⟨h1,h2⟩
def b2M.step {n k:Nat} {u:Int} (h:b2M n k u) (hk:k<(dg n).length) (hd:k=3->dat (dg n) k<=8):b2M n (k+1) (u+dat (dg n) k*pw k):=by
 have hr:=h.rng;refine ⟨by rw [u5,h.eq,a78],hk,fun h4=>?_⟩;have:k=3:=om;subst this;have:=hd rfl;simp only [pw] at hr ⊢;omega
def bt2 {k:Nat} (h:k<=3):pw k<=1152921504606846976:=by
 have:=a0W h;simp only [pw] at this ⊢;omega
def bq3 {k:Nat} (h:k<=2):pw k<=1099511627776:=by
 have:=a0W h;simp only [pw] at this ⊢;omega
def aO4 {a a':Int} {b b':Bool} {k:IntKind} {H1:Hp} (h:a=a') (h2:b=b'):Fin 0 (.tup [c9 k a,j8 b]) H1 (.tup [c9 k a',j8 b']) []:=by
 subst h h2;exact n9 rz
def b2v {x:Int} (h1:9223372036854775808<=x) (h2:x<18446744073709551616):J8 .i64 x (x - 18446744073709551616):=by
 unfold J8;simp only [IntKind.wrap,IntKind.bits,IntKind.signed];simp;omega
abbrev aa4 (x:Int):Prop:=-9223372036854775808<=x∧x<=9223372036854775807
def bn0 (x:Int) (lx:bl x<=200000):ec 254 [bgS (bz x)] [] (.tup [eI (if aa4 x then x else 0),j8 (decide (aa4 x))]) []:=by
 have r1:=a6n x om;have l1:((bz x).dl.map j0).length=(dg x.natAbs).length:=by simp [bz]
 have l2:(bz x).dl=dg x.natAbs:=rfl;have hlast:∀k:Nat,k<(dg x.natAbs).length->pw k<=x.natAbs:=fun k hk=>Int.le_trans (a0W om) (ai6 (by
  rcases a5l x.natAbs with h|h
  ·rw [h,a0b] at hk;simp at hk
  ·exact h))
 refine ac Tryz.func254 ?_;conv=>whnf
 repeat' (first|refine zx ?_|apply zD<;>intro h<;>try omega)<;>conv=>whnf
 ·have hl:4<(dg x.natAbs).length:=by omega
  have:=hlast 4 hl;simp only [pw] at this;have hn:¬aa4 x:=by unfold aa4;omega
  exact aO4 (by rw [if_neg hn]) (by simp [hn])
 ·refine o9 d9 (σ:=Nat × Int) (fun|(k,u)=>([J,sP 0 0 0,J,J,c9 .u64 u]++Jn 12++[j3 (dg x.natAbs),eI (dg x.natAbs).length,eI k]++Jn 39,[bgB (bz x)])) (fun s=>b2M x.natAbs s.1 s.2) (fun s=>(dg x.natAbs).length - s.1) (0,0) [some 0]
   ⟨by simp [val],om,om⟩ ⟨rfl,rfl,⟨⟨rfl,rfl,rfl,.inl ⟨rfl,a66 _⟩⟩,trivial⟩,⟨rz,rfl,k8 rfl,d7 om,rz⟩⟩ ?_
  rintro ⟨k,u⟩ hI;have hI:b2M x.natAbs k u:=hI;have hr:=hI.rng;have hle:=hI.le;have hd:=(v5 x.natAbs).dat k;have hp:=K6 k;have hp3:k<=3->pw k<=1152921504606846976:=bt2;have hdm:0<=dat (dg x.natAbs) k*pw k:=lb1 hd.1 om;have l3:((dg x.natAbs).map j0).length=(dg x.natAbs).length:=zq;have hp2:k<=2->pw k<=1099511627776:=bq3;have hA:k<=3->(k=3->dat (dg x.natAbs) k<=8)->u+dat (dg x.natAbs) k*pw k<18446744073709551616:=fun h3 h8=>by
   by_cases hk:k=3
   ·have:=lbY (c:=pw k) (h8 hk) om;have:=hp3 h3;omega
   ·have:=lbY (c:=pw k) (show dat (dg x.natAbs) k<=1048575 by omega) om;have:=hp2 om;omega
  have hE:k=(dg x.natAbs).length->u=x.natAbs:=fun h=>by
   have:=hI.eq;rw [h,lbn (lbS _),p9] at this;exact this
  have hs:=C8 x;have hsg:(bz x).sg=x.sign:=rfl;conv=>whnf
  repeat' (first|refine zx ?_|refine f7 (w6 om) ?_|refine ⟨_,aZ7 om om,?_⟩|refine ⟨om,_,bG6 (i:=k) om om om om,?_⟩|refine ⟨_,oru om om om om,?_⟩|refine ⟨_,a2l (y:=18446744073709551616 - u) om,?_⟩|refine ⟨_,b2v om om,?_⟩|apply zD<;>intro h<;>try omega)<;>conv=>whnf
  ·have hk:k=3:=by omega
   have h8:9<=dat (dg x.natAbs) k:=om;have h1:=u5 (dg x.natAbs) k;have h4:val (dg x.natAbs)=val ((dg x.natAbs).take (k+1)):=by rw [lbn om]
   rw [p9] at h4;have h5:=v7 ((v5 x.natAbs).take k);have h6:=lbX (a:=9) (b:=dat (dg x.natAbs) k) (c:=pw k) h8 om;have h7:pw k=1152921504606846976:=by rw [hk];rfl
   have hn:¬aa4 x:=by unfold aa4;omega
   exact aO4 (by rw [if_neg hn]) (by simp [hn])
  ·have hst:=hI.step om om;exact ⟨[some 0],(k+1,u+dat (dg x.natAbs) k*pw k),⟨rfl,rfl,⟨⟨rfl,rfl,rfl,.inl ⟨rfl,a66 _⟩⟩,trivial⟩,⟨rz,rfl,rfl,rfl,d7 om,trivial⟩⟩,hst,by show (dg x.natAbs).length - (k+1)<(dg x.natAbs).length - k;omega⟩
  ·have hst:=hI.step om om;exact ⟨[some 0],(k+1,u+dat (dg x.natAbs) k*pw k),⟨rfl,rfl,⟨⟨rfl,rfl,rfl,.inl ⟨rfl,a66 _⟩⟩,trivial⟩,⟨rz,rfl,rfl,rfl,d7 om,trivial⟩⟩,hst,by show (dg x.natAbs).length - (k+1)<(dg x.natAbs).length - k;omega⟩
  all_goals
   have hu:=hE om;first
    |(have hn:aa4 x:=by unfold aa4;omega
      exact aO4 (by rw [if_pos hn];omega) (by simp [hn]))
    |(have hn:¬aa4 x:=by unfold aa4;omega
      exact aO4 (by rw [if_neg hn]) (by simp [hn]))
def a7C (l:LI) (hl:l.length<=1000000):ec 329 [j3 l] [] (j3 (K3 l)) []:=by
 have l2:(l.map j0).length=l.length:=zq;refine ac Tryz.func329 ?_;conv=>whnf
 repeat' (first|refine zx ?_|apply zD<;>intro h<;>try omega)<;>conv=>whnf
 refine o9 d9 (σ:=Nat) (fun n=>([j3 l,J,J,eI n]++Jn 19,[])) (fun n=>n<=l.length∧∀j x,n<=j->l[j]? =some x->x=0) (fun n=>n) l.length []
  ⟨lbS _,fun j x hj hx=>by rw [lbd hj] at hx;cases hx⟩ ⟨rfl,rfl,trivial,⟨k8 rfl,d7 zq,trivial⟩⟩ ?_
 rintro n ⟨hn,hz⟩;have hn:n<=l.length:=hn;conv=>whnf
 repeat' (first|refine zz ?_|refine a4d.own ?_|refine x5 om (a2w om hn) ?_|refine a63 om om om ?_|refine o6 zt zu ?_|apply zD<;>intro h<;>try omega|refine zy ?_|fail)<;>conv=>whnf
 ·have h0:dat l (n - 1)=0:=by assumption
  have h1:0<n:=om;refine ⟨[],n - 1,⟨rfl,rfl,trivial,⟨rfl,d7 om,trivial⟩⟩,⟨om,fun j x hj hxj=>?_⟩,by show n - 1<n;omega⟩;by_cases hj2:j=n - 1
  ·subst hj2;rw [w6 om] at hxj;injection hxj with hx;rw [← hx];exact h0
  ·exact hz j x om hxj
 all_goals
  have e:l.take n=K3 l:=a4O hz (fun x h0 hx=>by
   first|omega|(rw [w6 om] at hx;injection hx with hx;rw [← hx];assumption)) hn
  rw [← e];refine I4 rfl zi rfl ?_ ?_
  ·simp [toC,F5,aA6]
  ·simp [toC]
def bo6 (s:Int) (l:LI) (hl:l.length<=1000000):ec 300 [eI s,j3 l] [] (bgS (sgn s l)) []:=by
 refine ac Tryz.func300 ?_;conv=>whnf
 repeat' (first|refine zx ?_|refine qp (a7C l hl) ?_|apply zD<;>intro<;>try omega)<;>conv=>whnf
 ·have h0:(K3 l).length=0:=by simp at *;assumption
  unfold sgn;rw [if_pos h0];exact n9 rz
 ·have h0:¬(K3 l).length=0:=by simp at *;assumption
  unfold sgn;rw [if_neg h0];exact n9 rz
def M3 (s:Int) (k:Nat) (h:s=1∨s=-1∨k=0) (lk:(dg k).length<=700000):
 ec 300 [eI s,j3 (dg k)] [] (bgS (bz (s*k))) []:=by
 have e:=bo6 s (dg k) om;rw [b1e (v5 k) (by rw [p9];omega),p9] at e;exact e
def a6O (l:LI) (i:Nat) (hl:l.length<=1000000):ec 330 [j3 l,eI i] [] (eI (dat l i)) []:=by
 have l2:(l.map j0).length=l.length:=zq;refine ac Tryz.func330 ?_;conv=>whnf
 repeat' (first|refine zx ?_|refine f7 (w6 om) ?_|apply zD<;>intro<;>try omega)<;>conv=>whnf
 all_goals first|exact o4 rfl|exact o4 (T7 om).symm
def a6v (l:LI) (i:Nat):val (l.drop i)=dat l i+1048576*val (l.drop (i+1)):=by
 by_cases h:i<l.length
 ·exact a8C h
 ·rw [lbo om,lbo om,T7 om];rfl
def av3 (l:LI) (i:Nat):val l=val (l.take i)+pw i*val (l.drop i):=by
 by_cases h:i<=l.length
 ·exact a3K l i h
 ·rw [lbo om,lbn om];simp [val]
def a8x {l:LI} (h:Okd l) (i:Nat):0<=val (l.take i)∧val (l.take i)<pw i:=by
 refine ⟨v7 (h.take i),?_⟩;have h1:=W3 (h.take i);have h2:=a0W (i:=(l.take i).length) (j:=i) zo;omega
def aY6 {a b:LI} (ha:Okd a) (hb:Okd b) {i:Nat} (h:val (a.drop (i+1))=val (b.drop (i+1))) (hd:dat a i<dat b i):val a<val b:=by
 rw [av3 a i,av3 b i,a6v a i,a6v b i,h];have h1:=a8x ha i;have h2:=a8x hb i;have hp:=K6 i;have h3:=lbX (a:=dat a i+1048576*val (b.drop (i+1))+1) (b:=dat b i+1048576*val (b.drop (i+1))) (c:=pw i) om om;rw [ao6 _ _ (1:Int)] at h3;omega
def a76 (l:LI):val (l.drop 0)=val l:=by rw [a8y]
structure aw1 (a b:LI) (i:Nat) (out:LI) (c:Int):Prop where
 len:out.length=i
 ok:Okd out
 le:i<=a.length
 c0:0<=c
 c1:c<=1
 eq:val out - pw i*c=val (a.take i) - val (b.take i)
def aw1.init (a b:LI):aw1 a b 0 [] 0:=⟨rfl,.nil,J0 _,de,de,by simp [val]⟩
def aw1.step {a b out:LI} {i:Nat} {c n c':Int} (h:aw1 a b i out c) (ha:Okd a) (hb:Okd b) (hi:i<a.length) (hn:n=dat a i - dat b i - c+1048576*c') (h0:0<=n∧n<1048576) (hc:0<=c'∧c'<=1):
 aw1 a b (i+1) (out++[n]) c':=by
 refine ⟨by simp [h.len],h.ok.append (Okd.cons h0 .nil),hi,hc.1,hc.2,?_⟩;rw [L4,h.len,u5,u5,J2];have:=h.eq;simp only [val];rw [hn];grind
def aw1.fin {a b out:LI} {c:Int} (h:aw1 a b a.length out c) (ha:Okd a) (hb:Okd b) (hl:b.length<=a.length) (hv:val b<=val a):K3 out=dg (val a - val b).toNat:=by
 have h1:=h.eq;rw [lbn (lbS _),lbn hl] at h1;have h2:=W3 h.ok;rw [h.len] at h2;have hc:c=0:=by
  have:=h.c0;have:=h.c1;rcases a6m 0 c with h3|h3
  ·have:c=1:=by omega
   subst this;omega
  ·omega
 subst hc;rw [N7 h.ok]
 congr 2
 simp at h1;exact h1
structure bc3 (a b:LI) (i k:Nat) (out:LI) (c:Int):Prop where
 out:(an4 a b i k out c∧k<=b.length)∨(k=b.length+1∧c=0∧a5t a b (i+1) out)
def b97 {l:LI} {i:Nat}:l.set i (dat l i)=l:=by
 by_cases h:i<l.length
 ·apply a05;intro j;by_cases hj:i=j
  ·subst hj;rw [List.getElem?_set_self h];unfold dat;rw [lbl,lbf h];rfl
  ·rw [List.getElem?_set_ne hj]
 ·rw [List.set_eq_of_length_le om]
def bc3.exit {a b out:LI} {i k:Nat} {c:Int} (h:bc3 a b i k out c) (ha:Okd a) (hb:Okd b) (hi:i<a.length) (hk:b.length<=k) (hc:c<=0):a5t a b (i+1) out:=by
 rcases h.out with ⟨h1,h2⟩|⟨h1,h2,h3⟩
 ·have hk:k=b.length:=by omega
  subst hk;have hc:c=0:=by have:=h1.c0;omega
  subst hc;have:=h1.done ha hb hi;rw [a9N,b97] at this;exact this
 ·exact h3
def b72 {r d:Nat} {x:Int} (hx:0<=x∧x<1048576):K3 (x::dg r)=dg (r*1048576+x.toNat):=by
 rw [N7 (Okd.cons hx (v5 r))]
 congr 1
 simp only [val,p9];omega
def b8v (a b:LI) (ha:Okd a) (hb:Okd b) (la:a.length<=1000000) (lb:b.length<=1000000):ec 304 [j3 a,j3 b] [] (j8 (decide (val a<val b))) []:=by
 have l1:(a.map j0).length=a.length:=zq;have l2:(b.map j0).length=b.length:=zq;refine ac Tryz.func304 ?_;conv=>whnf
 repeat' (first|refine zx ?_|refine ⟨_,E5 (y:=((max a.length b.length:Nat):Int) - 1) (by simp only [cond];split<;>omega) om om,?_⟩|apply zD<;>intro h<;>try omega)<;>conv=>whnf
 refine o9 d9 (σ:=Nat) (fun k=>([j3 a,j3 b,J,J,J,eI ((k:Int) - 1)]++Jn 24,[])) (fun k=>k<=1000000∧val (a.drop k)=val (b.drop k)) (fun k=>k) (max a.length b.length) []
  ⟨om,by rw [lbo om,lbo om]⟩ ⟨rfl,rfl,trivial,⟨k8 rfl,k8 rfl,rz⟩⟩ ?_
 rintro k ⟨hk,hd⟩;have hk:k<=1000000:=hk;have hd:val (a.drop k)=val (b.drop k):=hd;by_cases h0:0<k
 ·obtain ⟨i,rfl⟩:∃i,k=i+1:=⟨k - 1,om⟩;have d1:=a6O a i la;have d2:=a6O b i lb;have ei:(((i+1:Nat):Int) - 1)=i:=om;rw [ei];conv=>whnf
  repeat' (first|refine zx ?_|apply zD<;>intro h<;>try omega)<;>conv=>whnf
  ·have h:=aY6 ha hb hd (by assumption);exact g9 (by simp [h])
  ·have h:=aY6 hb ha hd.symm om;exact g9 zo
  ·have he:dat a i=dat b i:=by omega
   refine ⟨[],i,rz,⟨om,?_⟩,by show i<i+1;omega⟩;rw [a6v a i,a6v b i,he,hd]
 ·obtain rfl:k=0:=by omega
  rw [a76,a76] at hd;conv=>whnf
  repeat' (first|refine zx ?_|apply zD<;>intro h<;>try omega)<;>conv=>whnf
  all_goals first|omega|exact g9 zo
def b44 (a b:LI) (ha:Okd a) (hb:Okd b) (la:a.length<=400000) (lb:b.length<=a.length) (hv:val b<=val a):
 ec 328 [j3 a,j3 b] [] (j3 (dg (val a - val b).toNat)) []:=by
 have l1:(a.map j0).length=a.length:=zq;have l2:(b.map j0).length=b.length:=zq;refine ac Tryz.func328 ?_;conv=>whnf
 repeat' (first|refine zx ?_|apply zD<;>intro h<;>try omega)<;>conv=>whnf
 refine o9 d9 (σ:=Nat × LI × Int) (fun|(k,out,c)=>([j3 a,j3 b,J,J,J,a1U 0 out,eI c,eI k]++Jn 27,[o8 out])) (fun x=>aw1 a b x.1 x.2.1 x.2.2) (fun x=>a.length - x.1) (0,[],0) [none]
  (aw1.init a b) ⟨rfl,rfl,rz,⟨k8 rfl,k8 rfl,rz⟩⟩ ?_
 rintro ⟨k,out,c⟩ hI;have hI:aw1 a b k out c:=hI;have hlen:=hI.len;have hle:=hI.le;have hc0:=hI.c0;have hc1:=hI.c1;have hda:=ha.dat k;have hdb:=hb.dat k;have d2:=a6O b k om;conv=>whnf
 repeat' (first|refine zx ?_|refine f7 (w6 om) ?_|refine o6 zt zu ?_|apply zD<;>intro h<;>try omega)<;>conv=>whnf
 ·have hst:=hI.step ha hb (n:=dat a k - dat b k - c+1048576) (c':=1) om om om om;refine ⟨[some 1],(k+1,out++[dat a k - dat b k - c+1048576],1),⟨rfl,rfl,⟨d8 rfl rfl rfl a2P rfl,trivial⟩,⟨rfl,rfl,q9 rfl zt,rfl,d7 om,trivial⟩⟩,hst,?_⟩;show a.length - (k+1)<a.length - k;omega
 ·have hst:=hI.step ha hb (n:=dat a k - dat b k - c) (c':=0) om om om om;refine ⟨[some 1],(k+1,out++[dat a k - dat b k - c],0),⟨rfl,rfl,⟨d8 rfl rfl rfl a2P rfl,trivial⟩,⟨rfl,rfl,q9 rfl zt,rfl,d7 om,trivial⟩⟩,hst,?_⟩;show a.length - (k+1)<a.length - k;omega
 ·have hk:k=a.length:=by omega
  subst hk;have hf:=hI.fin ha hb lb hv;have t:=a7C out om;rw [hf] at t;refine .inr ⟨_,_,z6 [0] t ⟨a1X (s6 zq rfl zi rfl rfl zq),trivial⟩ rfl,?_⟩;conv=>whnf
  exact as7 rfl
def bl2 {a:Int} (h:0<=a):a.tmod 1048576=a % 1048576:=a5A h
def b3x (a b:LI) (ha:Okd a) (hb:Okd b) (la:a.length<=400000) (lb:b.length<=400000):
 ec 302 [j3 a,j3 b] [] (j3 (dg (val a*val b).toNat)) []:=by
 have l1:(a.map j0).length=a.length:=zq;have l2:(b.map j0).length=b.length:=zq;refine ac Tryz.func302 ?_;conv=>whnf
 repeat' (first|refine zx ?_|refine a0x om om om de ?_|apply zD<;>intro h<;>try omega)<;>conv=>whnf
 refine o9 d9 (σ:=Nat × LI) (fun|(i,out)=>([j3 a,j3 b,J,J,J,a1U 0 out,eI i]++Jn 53,[o8 out])) (fun x=>a5t a b x.1 x.2) (fun x=>a.length - x.1) (0,List.replicate (a.length+b.length) 0) [some 0]
  (a5t.init a b) ⟨rfl,rfl,⟨d8 rfl rfl rfl ?_ rfl,trivial⟩,⟨k8 rfl,k8 rfl,q9 rfl zo,rz⟩⟩ ?_
 ·show List.replicate _ _=_;rw [show ((((a.map j0).length:Nat):Int)+((b.map j0).length:Nat)).toNat=a.length+b.length by omega];simp [toC,j0,B6]
 rintro ⟨i,out⟩ hI;have hI:a5t a b i out:=hI;have hlen:=hI.len;have hle:=hI.le;conv=>whnf
 repeat' (first|refine zx ?_|apply zD<;>intro h<;>try omega)<;>conv=>whnf
 ·have hi:i<a.length:=by omega
  refine o9 d9 (σ:=Nat × LI × Int) (fun|(k,out,c)=>([j3 a,j3 b,J,J,J,a1U 0 out,eI i,eI c,eI k]++Jn 51,[o8 out])) (fun x=>bc3 a b i x.1 x.2.1 x.2.2) (fun x=>b.length+1 - x.1) (0,out,0) [some 0]
   ⟨.inl ⟨hI.start,J0 _⟩⟩ ⟨rfl,rfl,⟨d8 rfl rfl rfl rfl rfl,trivial⟩,⟨k8 rfl,k8 rfl,q9 rfl rfl,rz⟩⟩ ?_
  rintro ⟨k,out,c⟩ hT;have hT:bc3 a b i k out c:=hT;have hdb:=hb.dat k;have hda:=ha.dat i;have hm:=a4B (ha.dat i) (hb.dat k);have d2:=a6O b k om;have e1:((i:Int)+k).toNat=i+k:=om;rcases hT.out with ⟨hK,hkb⟩|⟨hk1,hc,hM⟩
  ·have hlen:=hK.len;have hc0:=hK.c0;have hc1:=hK.c1;have hdo:=hK.ok.dat (i+k);have hz:k=b.length->dat out (i+k)=0∧dat b k=0:=fun h=>⟨hK.zero _ om,T7 om⟩
   have hzm:k=b.length->dat a i*dat b k=0:=fun h=>by rw [(hz h).2,Int.mul_zero]
   conv=>whnf
   repeat' (first|refine zx ?_|refine f7 (w6 om) ?_|refine U9 om (by show _<((out.length:Nat):Int);omega) ?_|refine p8 (R9 e1 om) ?_|refine ⟨de,_,b7C om om de,?_⟩|refine ak3 de ?_|apply zD<;>intro h<;>try omega)<;>conv=>whnf
   all_goals have hn:0<=dat out (i+k)+dat a i*dat b k+c:=om
   ·have hst:=hK.step ha hb hi om;refine ⟨[some 0],(k+1,out.set (i+k) ((dat out (i+k)+dat a i*dat b k+c) % 1048576),(dat out (i+k)+dat a i*dat b k+c) / 1048576),⟨rfl,rfl,⟨d8 rfl rfl rfl ?_ rfl,trivial⟩,⟨rfl,rfl,q9 rfl zq,rz⟩⟩,⟨.inl ⟨hst,om⟩⟩,?_⟩
    ·rw [← bl2 hn];exact O6 om
    ·show b.length+1 - (k+1)<b.length+1 - k;omega
   ·have hkb2:k=b.length:=by omega
    obtain ⟨z1,z2⟩:=hz hkb2;have z3:=hzm hkb2;have en:dat out (i+k)+dat a i*dat b k+c=c:=om;have hdone:=hK;rw [hkb2] at hdone;have hdone:=hdone.done ha hb hi;rw [← hkb2] at hdone;refine ⟨[some 0],(k+1,out.set (i+k) ((dat out (i+k)+dat a i*dat b k+c) % 1048576),(dat out (i+k)+dat a i*dat b k+c) / 1048576),⟨rfl,rfl,⟨d8 rfl rfl rfl ?_ rfl,trivial⟩,⟨rfl,rfl,q9 rfl zq,rz⟩⟩,⟨.inr ⟨by show k+1=b.length+1;omega,by show (dat out (i+k)+dat a i*dat b k+c) / 1048576=0;omega,?_⟩⟩,?_⟩
    ·rw [← bl2 hn];exact O6 om
    ·have e2:(dat out (i+k)+dat a i*dat b k+c) % 1048576=dat out (i+k)+c:=by omega
     rw [e2];exact hdone
    ·show b.length+1 - (k+1)<b.length+1 - k;omega
   ·have hx:=hT.exit ha hb hi om om;exact ⟨[some 0],(i+1,out),⟨rfl,rfl,⟨d8 rfl rfl rfl rfl rfl,trivial⟩,⟨rfl,rfl,q9 rfl rfl,d7 om,trivial⟩⟩,hx,by show a.length - (i+1)<a.length - i;omega⟩
  ·have hlen:=hM.len;have hx:=hT.exit ha hb hi om om;conv=>whnf
   repeat' (first|refine zx ?_|apply zD<;>intro h<;>try omega)<;>conv=>whnf
   all_goals first|omega|exact ⟨[some 0],(i+1,out),⟨rfl,rfl,⟨d8 rfl rfl rfl rfl rfl,trivial⟩,⟨rfl,rfl,q9 rfl rfl,d7 om,trivial⟩⟩,hx,by show a.length - (i+1)<a.length - i;omega⟩
 ·have hi:i=a.length:=by omega
  subst hi;have hf:=hI.fin;have t:=a7C out om;rw [hf] at t;refine .inr ⟨_,_,z6 [0] t ⟨a1X (s6 zq rfl zi rfl rfl zq),trivial⟩ rfl,?_⟩;conv=>whnf
  exact as7 rfl
def aY7 (m n:Nat) (lm:(dg m).length<=300000) (ln:(dg n).length<=300000):
 ec 302 [j3 (dg m),j3 (dg n)] [] (j3 (dg (m*n))) []:=by
 have h:=b3x (dg m) (dg n) (v5 m) (v5 n) om om;rw [p9,p9,show ((m:Int)*n).toNat=m*n by rw [← a3J];rfl] at h;exact h
def b6L (m n:Nat) (hn:0<n) (lm:(dg m).length<=200000) (ln:(dg n).length<=200000):
 ec 305 [j3 (dg m),j3 (dg n)] [] (b2m m n) []:=by
 have l1:((dg m).map j0).length=(dg m).length:=zq;have l2:((dg n).map j0).length=(dg n).length:=zq;refine ac Tryz.func305 ?_;conv=>whnf
 repeat' (first|refine zx ?_|refine a0x om om om de ?_|apply zD<;>intro h<;>try omega)<;>conv=>whnf
 refine o9 d9 (σ:=Nat × LI × Nat) (fun|(j,q,r)=>([j3 (dg m),j3 (dg n),J,J,J,J,a1U 0 q,j3 (dg r),eI ((j:Int) - 1)]++Jn 51,[o8 q])) (fun x=>a1j (dg m) n x.1 x.2.1 x.2.2) (fun x=>x.1) ((dg m).length,List.replicate (dg m).length 0,0) [some 0]
  (a1j.init _ om) ⟨rfl,rfl,⟨d8 rfl rfl rfl ?_ rfl,trivial⟩,⟨k8 rfl,k8 rfl,q9 rfl zq,rfl,d7 om,trivial⟩⟩ ?_
 ·show List.replicate _ _=_;simp [toC,j0,B6]
 rintro ⟨j,q,r⟩ hI;have hI:a1j (dg m) n j q r:=hI;have hlen:=hI.len;have hle:=hI.le;have hr1:=hI.r1;by_cases hj:0<j
 ·obtain ⟨i,rfl⟩:∃i,j=i+1:=⟨j - 1,om⟩;have ei:(((i+1:Nat):Int) - 1)=i:=om;have hda:=(v5 m).dat i;obtain ⟨y,hy⟩:=a6s hda.1;have lr:=p7 (show r<=n by omega);have lm2:i<(dg m).length:=om;generalize hR:r*1048576+y=R;have hRn:R<n*1048576:=by
   have:=lbV 1048576 (show r+1<=n by omega);rw [T4] at this;omega
  have lR:(dg R).length<=(dg n).length+1:=N2 (by
   have h1:=Q4 n;rw [J2];have h2:=lbY (a:=(n:Int)+1) (b:=pw (dg n).length) (c:=1048576) om de;omega)
  have tr:=a7C (dat (dg m) i::dg r) zo;rw [b72 (d:=n) hda,hy,lbZ,hR] at tr;conv=>whnf
  repeat' (first|refine zz ?_|refine a4d.own ?_|refine D9 ei (w6 om) ?_|refine o6 (by simp [toC,F5]) zu ?_|refine .inr ⟨_,_,z6 [2] tr ⟨a1X (s6 zq rfl zi rfl (by simp [toC,F5,j0,hy]) (by simp [toC,aG4])),trivial⟩ rfl,?_⟩|apply zD<;>intro h<;>try omega|refine zy ?_|fail)<;>conv=>whnf
  refine o9 d9 (σ:=Nat × Nat) (fun|(lo,hi)=>([j3 (dg m),j3 (dg n),J,J,J,J,a1U 0 q,j3 (dg R),eI i,eI lo,eI hi]++Jn 49,[o8 q])) (fun x=>x.1*n<=R∧R<x.2*n∧x.1<x.2∧x.2<=1048576) (fun x=>x.2 - x.1) (0,1048576) [some 0]
   ⟨zq,by show R<1048576*n;rw [ab6];exact hRn,de,de⟩ ⟨rfl,rfl,⟨d8 rfl rfl rfl rfl rfl,trivial⟩,⟨rfl,rfl,q9 rfl rfl,rfl,d7 ei,rz⟩⟩ ?_
  rintro ⟨lo,hi⟩ ⟨i1,i2,i3,i4⟩;have i1:lo*n<=R:=i1;have i2:R<hi*n:=i2;have i3:lo<hi:=i3;have i4:hi<=1048576:=i4;have ln1:(dg n).length<=200000:=ln;by_cases hc:1<hi - lo
  ·have hmid:(((lo:Int)+hi) / 2)=(((lo+hi) / 2:Nat):Int):=by omega
   generalize hM:(lo+hi) / 2=mid at hmid;have tm:=b3x (dg n) [(mid:Int)] (v5 n) (by intro x hx;simp at hx;omega) om zq;have e0:val [(mid:Int)]=mid:=by simp [val]
   rw [e0,p9,show ((n:Int)*mid).toNat=n*mid by rw [← a3J];rfl] at tm;have lnm:(dg (n*mid)).length<=(dg n).length+1:=lbT (a4U _ _) (by have:=o7 (x:=(mid:Int)) om om;simp only [bl,aL4] at this;omega);have ls:=b8v (dg R) (dg (n*mid)) (v5 _) (v5 _) om om;rw [p9,p9] at ls;conv=>whnf
   repeat' (first|refine zx ?_|refine qp (a4K om) ?_|refine ⟨de,_,E5 (y:=(mid:Int)) (by rw [a4K om];exact hmid) om om,?_⟩|refine .inl ⟨_,_,a1k tm ⟨ay0,a1X (aY4 rfl),trivial⟩ rfl,?_⟩|apply zD<;>intro h<;>try omega)<;>conv=>whnf
   ·have hlt:R<n*mid:=Int.ofNat_lt.1 (lbM (by assumption));exact ⟨[some 0],(lo,mid),⟨rfl,rfl,⟨d8 rfl rfl rfl rfl rfl,trivial⟩,⟨rfl,rfl,q9 rfl rfl,rz⟩⟩,⟨i1,by show R<mid*n;rw [ab6];exact hlt,by show lo<mid;omega,by show mid<=1048576;omega⟩,by show mid - lo<hi - lo;omega⟩
   ·have hlt:n*mid<=R:=Nat.not_lt.1 (fun h=>absurd (Int.ofNat_lt.2 h) (lbN (by assumption)));exact ⟨[some 0],(mid,hi),⟨rfl,rfl,⟨d8 rfl rfl rfl rfl rfl,trivial⟩,⟨rfl,rfl,q9 rfl rfl,rz⟩⟩,⟨by show mid*n<=R;rw [ab6];exact hlt,i2,by show mid<hi;omega,i4⟩,by show hi - mid<hi - lo;omega⟩
  ·obtain rfl:hi=lo+1:=by omega
   have hq:R / n=lo:=by
    rw [Nat.div_eq_iff hn];rw [T4] at i2;omega
   have hm2:=b3E R n;rw [hq] at hm2;have hrm:=a8T R hn;have tl:=a7C [(lo:Int)] zq;rw [N7 (by intro x hx;simp at hx;omega),show (val [(lo:Int)]).toNat=lo by simp [val]] at tl;have llo:(dg lo).length<=1:=by have:=o7 (x:=(lo:Int)) om om;simpa [bl] using this
   have tt:=aY7 n lo om om;have mi:=b44 (dg R) (dg (n*lo)) (v5 _) (v5 _) om (p7 om) (by rw [p9,p9];omega);rw [p9,p9,show ((R:Int) - ((n*lo:Nat):Int)).toNat=R % n by omega] at mi;have hst:=hI.step (v5 m) om;have c1:((r:Int)*1048576+dat (dg m) i)=(R:Int):=by rw [hy,←hR];simp
   rw [c1] at hst;have c2:(R:Int) / n=(lo:Int):=by rw [← hq];simp
   have c3:(R:Int) % n=((R % n:Nat):Int):=zq;rw [c2,c3] at hst;have gq:q[0+(i:Int).toNat]? =some (dat q i):=R9 om om;conv=>whnf
   repeat' (first|refine zx ?_|refine .inl ⟨_,_,a1k tl ⟨a1X (aY4 rfl),trivial⟩ rfl,?_⟩|refine U9 om (by show _<((q.length:Nat):Int);omega) ?_|refine p8 gq ?_|apply zD<;>intro h<;>try omega)<;>conv=>whnf
   all_goals try omega
   refine ⟨[some 0],(i,q.set i lo,R % n),⟨rfl,rfl,⟨d8 rfl rfl rfl (O6 om) rfl,trivial⟩,⟨rfl,rfl,q9 rfl zq,rfl,d7 om,trivial⟩⟩,hst,by show i<i+1;omega⟩
 ·obtain rfl:j=0:=by omega
  obtain ⟨f1,f2⟩:=hI.fin (v5 m) om;have tq:=a7C q (by have:=hI.len;omega);rw [f1,p9,show ((m:Int) / n).toNat=m / n by rw [← Int.natCast_ediv];rfl] at tq;rw [p9] at f2;have f3:r=m % n:=by
   have:(m:Int) % n=((m % n:Nat):Int):=zq;omega
  subst f3;conv=>whnf
  repeat' (first|refine zx ?_|refine .inr ⟨_,_,z6 [0] tq ⟨a1X (s6 zq rfl zi rfl rfl zq),trivial⟩ rfl,?_⟩|apply zD<;>intro h<;>try omega)<;>conv=>whnf
  all_goals try omega
  exact n9 rz
abbrev frC (f:Fr):List C:=[.t (ti f.p.sg),.t (w7 f.p.dl),.t (ti f.q.sg),.t (w7 f.q.dl)]
abbrev frS (f:Fr):S:=.agg (frC f)
def bE4 (x:Int) (lx:bl x<=200000):ec 183 [bgS (bz x)] [] (j8 (x == 1)) []:=by
 have i:=bn0 x lx;by_cases h:aa4 x
 ·rw [if_pos h,show decide (aa4 x)=true by simp [h]] at i;refine ac Tryz.func183 ?_;conv=>whnf
  repeat' (first|refine zx ?_|apply zD<;>intro h<;>try omega)<;>conv=>whnf
  all_goals (refine g9 ?_;simp;omega)
 ·rw [if_neg h,show decide (aa4 x)=false by simp [h]] at i;have hx:x≠1:=by rintro rfl;exact h de
  refine ac Tryz.func183 ?_;conv=>whnf
  repeat' (first|refine zx ?_|apply zD<;>intro h<;>try omega)<;>conv=>whnf
  all_goals (refine g9 ?_;simp;omega)
def b0a (f:Fr) (lp:f.p.dl.length<=200000) (lq:f.q.dl.length<=200000):ec 114 [frS f] [] (j8 (Q9 f)) []:=by
 obtain ⟨p,q⟩:=f;simp only at lp lq;have r1:=a41 p om;have r2:=a41 q om;cases hp:J6 p with
 |false=>
  rw [hp] at r1;refine ac Tryz.func114 ?_;conv=>whnf
  repeat' (first|refine zx ?_|apply zD<;>intro<;>try omega)<;>conv=>whnf
  all_goals (first|(exfalso;simp_all;done)|(refine g9 ?_;unfold Q9;simp [hp]))
 |true=>
  rw [hp] at r1;cases hq:J6 q with
  |false=>
   rw [hq] at r2;refine ac Tryz.func114 ?_;conv=>whnf
   repeat' (first|refine zx ?_|apply zD<;>intro<;>try omega)<;>conv=>whnf
   all_goals (first|(exfalso;simp_all;done)|(refine g9 ?_;unfold Q9;simp [hq]))
  |true=>
   rw [hq] at r2;obtain ⟨x,rfl⟩:=as9 hp;obtain ⟨y,rfl⟩:=as9 hq;have g:=b2l x y lp lq;have o:=bE4 (Int.gcd x y) (a9I x y lp lq);refine ac Tryz.func114 ?_;conv=>whnf
   repeat' (first|refine zx ?_|apply zD<;>intro<;>try omega)<;>conv=>whnf
   all_goals (refine g9 ?_;unfold Q9;simp only [a0K,a5k,H9];symm;simp_all<;>omega)
def a29 (x y:Int) (lx:bl x<=200000) (ly:bl y<=200000):ec 121 [bgS (bz x),bgS (bz y)] [] (bgS (bz (x*y))) []:=by
 have mu:=br9 x y lx ly;refine ac Tryz.func121 ?_;conv=>whnf
 repeat' (first|refine zx ?_|apply zD<;>intro<;>try omega)<;>conv=>whnf
 exact n9 rz
def a0f {f f':Fr} {e:Int} {H1:Hp} (h:f=f'):Fin 0 (.tup [frS f,eI e]) H1 (.tup [frS f',eI e]) []:=by
 subst h;exact n9 rz
def aI8 (p q:Int) (hq:q≠0) (lp:bl p<=200000) (lq:bl q<=200000):ec 187 [bgS (bz p),bgS (bz q)] [] (.tup [frS (fz (Rat.divInt p q)),eI 0]) []:=by
 have r1:=a6n p om;have r2:=a6n q om;have hs:=C8 q;have hsg:(bz q).sg=q.sign:=rfl;by_cases h:q<0
 ·have n1:=a9G p om;have n2:=a9G q om;have lg:=a9I (-p) (-q) (by rw [U7];exact lp) (by rw [U7];exact lq);have hg:0<(Int.gcd (-p) (-q):Int):=by have:=b2E (-p) (b:=-q) om;omega
  have g:=b2l (-p) (-q) (by rw [U7];exact lp) (by rw [U7];exact lq);have d1:=aI6 (-p) _ hg (by rw [U7];exact lp) lg;have d2:=aI6 (-q) _ hg (by rw [U7];exact lq) lg;have e:=a9w (p:=-p) (q:=-q) om rfl;rw [Rat.neg_divInt_neg] at e;refine ac Tryz.func187 ?_;conv=>whnf
  repeat' (first|refine zx ?_|apply zD<;>intro h<;>try omega)<;>conv=>whnf
  all_goals first|(exfalso;simp_all;done)|omega|exact a0f e.symm
 ·have lg:=a9I p q lp lq;have hg:0<(Int.gcd p q:Int):=by have:=b2E p (b:=q) om;omega
  have g:=b2l p q lp lq;have d1:=aI6 p _ hg lp lg;have d2:=aI6 q _ hg lq lg;have e:=a9w (p:=p) (q:=q) om rfl;refine ac Tryz.func187 ?_;conv=>whnf
  repeat' (first|refine zx ?_|apply zD<;>intro h<;>try omega)<;>conv=>whnf
  all_goals first|omega|(exfalso;simp_all;done)|exact a0f e.symm
def L5 (x:Rat) (lx:rl x<=200000):ec 114 [frS (fz x)] [] (j8 true) []:=by
 have h:=b0a (fz x) (lbT (G9 x) lx) (lbT (H6 x) lx);rw [ak9] at h;exact h
def a5h (x y:Rat) (lx:rl x<=60000) (ly:rl y<=60000):ec 119 [frS (fz x),frS (fz y)] [] (.tup [frS (fz (x+y)),eI 0]) []:=by
 have r1:=L5 x om;have r2:=L5 y om;have x1:=G9 x;have x2:=H6 x;have y1:=G9 y;have y2:=H6 y;have l1:=E3 x.num y.den;have l2:=E3 y.num x.den;have l3:=E3 x.den y.den;have l4:=a7N (x.num*y.den) (y.num*x.den);have t1:=a29 x.num y.den om om;have t2:=a29 y.num x.den om om;have t3:=a29 x.den y.den om om;have a:=bp3 (x.num*y.den) (y.num*x.den) om om;have n:=aI8 (x.num*y.den+y.num*x.den) (x.den*y.den) (ai8 x y) om om;rw [← ah8] at n;refine ac Tryz.func119 ?_;conv=>whnf
 repeat' (first|refine zx ?_|refine bl0 [13] ?_|apply zD<;>intro<;>try omega)<;>conv=>whnf
 all_goals first|(exfalso;simp_all;done)|exact a0f rfl
def b84 (x y:Rat) (lx:rl x<=60000) (ly:rl y<=60000):ec 118 [frS (fz x),frS (fz y)] [] (.tup [frS (fz (x - y)),eI 0]) []:=by
 have r1:=L5 x om;have r2:=L5 y om;have y1:=G9 y;have n:=a9G y.num om;have a:=a5h x (-y) lx (by rw [U6];exact ly);rw [← b2I] at a;have e:fz (-y)=⟨bz (-y.num),bz y.den⟩:=rfl;rw [e] at a;refine ac Tryz.func118 ?_;conv=>whnf
 repeat' (first|refine zx ?_|apply zD<;>intro<;>try omega)<;>conv=>whnf
 all_goals first|(exfalso;simp_all;done)|exact a0f rfl
def as8 (x y:Rat) (lx:rl x<=60000) (ly:rl y<=60000):ec 233 [frS (fz x),frS (fz y)] [] (.tup [frS (fz (x*y)),eI 0]) []:=by
 have r1:=L5 x om;have r2:=L5 y om;have x1:=G9 x;have x2:=H6 x;have y1:=G9 y;have y2:=H6 y;have l1:=E3 x.num y.num;have l3:=E3 x.den y.den;have t1:=a29 x.num y.num om om;have t3:=a29 x.den y.den om om;have n:=aI8 (x.num*y.num) (x.den*y.den) (ai8 x y) om om;rw [← aK4] at n;refine ac Tryz.func233 ?_;conv=>whnf
 repeat' (first|refine zx ?_|apply zD<;>intro<;>try omega)<;>conv=>whnf
 all_goals first|(exfalso;simp_all;done)|exact a0f rfl
def b0w (x y:Rat):M6 (x.num*y.den) (y.num*x.den)=a5d x y:=by
 unfold M6 a5d;simp only [← Rat.lt_iff]
def b2S (x y:Rat) (lx:rl x<=60000) (ly:rl y<=60000):ec 54 [frS (fz x),frS (fz y)] [] (eI (a5d x y)) []:=by
 have r1:=L5 x om;have r2:=L5 y om;have x1:=G9 x;have x2:=H6 x;have y1:=G9 y;have y2:=H6 y;have l1:=E3 x.num y.den;have l2:=E3 y.num x.den;have t1:=a29 x.num y.den om om;have t2:=a29 y.num x.den om om;have c:=b1D (x.num*y.den) (y.num*x.den) om om;rw [b0w] at c;refine ac Tryz.func54 ?_;conv=>whnf
 repeat' (first|refine zx ?_|apply zD<;>intro<;>try omega)<;>conv=>whnf
 all_goals first|(exfalso;simp_all;done)|exact o4 rfl
def ah0 (x:Rat) (lx:rl x<=60000):ec 56 [frS (fz x)] [] (eI (sgR x)) []:=by
 have r1:=L5 x om;refine ac Tryz.func56 ?_;conv=>whnf
 repeat' (first|refine zx ?_|apply zD<;>intro<;>try omega)<;>conv=>whnf
 all_goals first|(exfalso;simp_all;done)|exact o4 (a8Q x)
def b7N (p q:Int) (hq:q≠0) (p0:-9223372036854775808<=p) (p1:p<=9223372036854775807) (q0:-9223372036854775808<=q) (q1:q<=9223372036854775807):
 ec 248 [eI p,eI q] [] (.tup [frS (fz (Rat.divInt p q)),eI 0]) []:=by
 have l1:=S2 p0 p1;have l2:=S2 q0 q1;have o1:=b3C p p0 p1;have o2:=b3C q q0 q1;have n:=aI8 p q hq om om;refine ac Tryz.func248 ?_;conv=>whnf
 repeat' (first|refine zx ?_|apply zD<;>intro<;>try omega)<;>conv=>whnf
 all_goals exact a0f rfl
def bs7 (n:Int):fz (n:Rat)=⟨bz n,bz 1⟩:=by unfold fz;rw [a7M,av1];rfl
def W9 (n:Int) (p0:-9223372036854775808<=n) (p1:n<=9223372036854775807):ec 55 [eI n] [] (frS (fz (n:Rat))) []:=by
 have o1:=b3C n p0 p1;have o2:=b3C 1 de de;rw [bs7];refine ac Tryz.func55 ?_;conv=>whnf
 repeat' (first|refine zx ?_|apply zD<;>intro<;>try omega)<;>conv=>whnf
 all_goals exact n9 rz
def ao4 (x:Int) (lx:bl x<=200000):ec 322 [bgS (bz x)] [] (bgS (bz x)) []:=by
 have n1:=a9G x om;have n2:=a9G (-x) (by rw [U7];omega);rw [Int.neg_neg] at n2;refine ac Tryz.func322 ?_;conv=>whnf
 repeat' (first|refine zx ?_|apply zD<;>intro<;>try omega)<;>conv=>whnf
 all_goals exact n9 rz
def a4m (b:Bg) (hl:b.dl.length<=1000000):ec 243 [bgS b] [] (j8 (J6 b)) []:=by
 have l2:(b.dl.map j0).length=b.dl.length:=zq
 (refine ac Tryz.func243 ?_;(conv=>whnf);repeat ((first|refine b0x ?_|refine zy ?_);conv=>whnf))
 repeat' (first|refine zx ?_|apply zD<;>intro h<;>try omega)<;>conv=>whnf
 refine i7 d9 (fun k=>([J,S.c (C.t (T.ptr [ti b.sg,w7 b.dl])),J,eI k]++Jn 52,[])) b.dl.length (fun k=>(b.dl.take k).all inD=true) [] rfl
  ⟨rfl,rfl,trivial,⟨k8 rfl,rz⟩⟩ ?_
 intro k hk hI;by_cases hlt:k<b.dl.length
 ·conv=>whnf
  repeat' (first|refine zx ?_|refine f7 (w6 om) ?_|apply zD<;>intro h<;>try omega)<;>conv=>whnf
  all_goals first|omega|exact ⟨hlt,by rw [y9 (w6 hlt),hI];simp [inD];omega,[],rz⟩|(refine g9 ?_;unfold J6;rw [C5 (w6 hlt) (by simp [inD];omega)];rfl)
 ·have hke:k=b.dl.length:=by omega
  subst hke;have ha:b.dl.all inD=true:=by rw [← hI,lbn om]
  have hgl:0<b.dl.length->b.dl[((((b.dl.map j0).length:Nat):Int) - 1).toNat]? =some (dat b.dl (b.dl.length - 1)):=fun h=>by rw [l2];exact a81 h
  conv=>whnf
  repeat' (first|refine zx ?_|refine x5 om (hgl om) ?_|apply zD<;>intro h<;>try omega)<;>conv=>whnf
  all_goals first|omega|(exfalso;simp_all;done)|(exfalso;simp_all;omega)|skip
  all_goals
   refine g9 ?_;unfold J6;rw [ha];by_cases hz:b.dl.length=0
   ·rw [if_pos hz];simp_all<;>omega
   ·rw [if_neg hz];simp_all<;>omega
def a1v (x:Int) (lx:bl x<=300000):ec 243 [bgS (bz x)] [] (j8 true) []:=by
 have:=a4m (bz x) (show bl x<=1000000 by omega);rw [a0K] at this;exact this
def b4A (n:Int) (h0:-9223372036854775808<=n) (h1:n<=9223372036854775807):ec 230 [eI n] [] (bgS (bz n)) []:=by
 rcases a36 n 0 with hn|hn|hn
 ·refine ac Tryz.func230 ?_;conv=>whnf
  repeat' (first|refine zx ?_|apply zD<;>intro h<;>try omega)<;>conv=>whnf
  all_goals try omega
  refine o9 d9 (σ:=LI × Nat) (fun|(acc,u)=>([eI (- (u:Int)),J,sP 0 0 0,eI (-1),a1U 1 acc]++Jn 23,[a5R,o8 acc])) (fun s=>OfI n s.1 s.2) (fun s=>s.2) ([],n.natAbs) [some 0,none]
   ⟨rfl⟩ ⟨rfl,rfl,⟨⟨rfl,rfl,rfl,.inl ⟨rfl,S6⟩⟩,rz⟩,⟨d7 om,rz⟩⟩ ?_
  rintro ⟨acc,u⟩ hI;have hI:OfI n acc u:=hI;have hl:=hI.len h0 h1;have hu:=hI.le;have hm:(- (u:Int)).tmod 1048576=- ((u:Int) % 1048576):=by
   first|exact a5A om|(rw [Int.neg_tmod,a5A om])
  have hd:(- (u:Int)).tdiv 1048576=- ((u / 1048576:Nat):Int):=by
   first|(rw [a4K om];simp;done)|(rw [Int.neg_tdiv,a4K om];simp)
  by_cases hu0:0<u
  ·have hst:=hI.step hu0;conv=>whnf
   repeat' (first|refine zx ?_|refine o6 zt zu ?_|refine ⟨de,_,E5 hd om om,?_⟩|refine ak3 de ?_|apply zD<;>intro h<;>try omega)<;>conv=>whnf
   all_goals try omega
   all_goals
    refine ⟨[some 0,some 2],(acc++[(u:Int) % 1048576],u / 1048576),⟨rfl,rfl,⟨⟨rfl,rfl,rfl,.inl ⟨rfl,S6⟩⟩,d8 rfl rfl rfl ?_ rfl,trivial⟩,⟨d7 rfl,rz,rfl,q9 rfl zt,trivial⟩⟩,hst,by show u / 1048576<u;omega⟩;have e:∀y:Int,y=(u:Int) % 1048576->(toC (acc.map j0)).take acc.length++toC [[ti y]]=toC ((acc++[(u:Int) % 1048576]).map j0):=fun y hy=>by rw [hy];exact a2P
    exact e _ om
  ·have h0u:u=0:=by omega
   subst h0u;have e:acc=dg n.natAbs:=by have:=hI.eq;rw [a0b,Y7] at this;exact this
   have sg:=M3 (-1) n.natAbs om (by rw [← e];omega);rw [← e,show (-1)*(n.natAbs:Int)=n by omega] at sg;conv=>whnf
   repeat' (first|refine zx ?_|refine .inr ⟨_,_,z6 [1] sg ⟨ay0,a1X (s6 zq rfl zi rfl rfl zq),trivial⟩ rfl,?_⟩|apply zD<;>intro h<;>try omega)<;>conv=>whnf
   all_goals try omega
   exact n9 rz
 ·subst hn;refine ac Tryz.func230 ?_;conv=>whnf
  repeat' (first|refine zx ?_|apply zD<;>intro h<;>try omega)<;>conv=>whnf
  all_goals first|omega|exact n9 rz
 ·refine ac Tryz.func230 ?_;conv=>whnf
  repeat' (first|refine zx ?_|apply zD<;>intro h<;>try omega)<;>conv=>whnf
  all_goals try omega
  refine o9 d9 (σ:=LI × Nat) (fun|(acc,u)=>([eI ((u:Int)),J,sP 0 0 0,eI (1),a1U 1 acc]++Jn 23,[a5R,o8 acc])) (fun s=>OfI n s.1 s.2) (fun s=>s.2) ([],n.natAbs) [some 0,none]
   ⟨rfl⟩ ⟨rfl,rfl,⟨⟨rfl,rfl,rfl,.inl ⟨rfl,S6⟩⟩,rz⟩,⟨d7 om,rz⟩⟩ ?_
  rintro ⟨acc,u⟩ hI;have hI:OfI n acc u:=hI;have hl:=hI.len h0 h1;have hu:=hI.le;have hm:((u:Int)).tmod 1048576=((u:Int) % 1048576):=by
   first|exact a5A om|(rw [Int.neg_tmod,a5A om])
  have hd:((u:Int)).tdiv 1048576=((u / 1048576:Nat):Int):=by
   first|(rw [a4K om];simp;done)|(rw [Int.neg_tdiv,a4K om];simp)
  by_cases hu0:0<u
  ·have hst:=hI.step hu0;conv=>whnf
   repeat' (first|refine zx ?_|refine o6 zt zu ?_|refine ⟨de,_,E5 hd om om,?_⟩|refine ak3 de ?_|apply zD<;>intro h<;>try omega)<;>conv=>whnf
   all_goals try omega
   all_goals
    refine ⟨[some 0,some 2],(acc++[(u:Int) % 1048576],u / 1048576),⟨rfl,rfl,⟨⟨rfl,rfl,rfl,.inl ⟨rfl,S6⟩⟩,d8 rfl rfl rfl ?_ rfl,trivial⟩,⟨d7 rfl,rz,rfl,q9 rfl zt,trivial⟩⟩,hst,by show u / 1048576<u;omega⟩;have e:∀y:Int,y=(u:Int) % 1048576->(toC (acc.map j0)).take acc.length++toC [[ti y]]=toC ((acc++[(u:Int) % 1048576]).map j0):=fun y hy=>by rw [hy];exact a2P
    exact e _ om
  ·have h0u:u=0:=by omega
   subst h0u;have e:acc=dg n.natAbs:=by have:=hI.eq;rw [a0b,Y7] at this;exact this
   have sg:=M3 (1) n.natAbs om (by rw [← e];omega);rw [← e,show (1)*(n.natAbs:Int)=n by omega] at sg;conv=>whnf
   repeat' (first|refine zx ?_|refine .inr ⟨_,_,z6 [1] sg ⟨ay0,a1X (s6 zq rfl zi rfl rfl zq),trivial⟩ rfl,?_⟩|apply zD<;>intro h<;>try omega)<;>conv=>whnf
   all_goals try omega
   exact n9 rz
def b7g (x y:Int) (lx:bl x<=200000) (ly:bl y<=200000):ec 244 [bgS (bz x),bgS (bz y)] [] (.tup [bgS (bz (Int.gcd x y)),eI 0]) []:=by
 have r1:=a1v x om;have r2:=a1v y om;refine ac Tryz.func244 ?_;conv=>whnf
 repeat' (first|refine zx ?_|apply zD<;>intro<;>try omega)<;>conv=>whnf
 all_goals first|(exfalso;simp_all;done)|skip
 refine o9 d9 (σ:=Nat × Nat) (fun|(X,Y)=>([J,J,J,J,sP 0 0 0,J,j3 (dg X),j3 (dg Y)]++Jn 28,[a5R])) (fun s=>bd9 x y s.1 s.2) (fun s=>s.2) (x.natAbs,y.natAbs) [some 2]
  ⟨rfl,lx,ly⟩ ⟨rfl,rfl,⟨⟨rfl,rfl,rfl,.inl ⟨rfl,S6⟩⟩,trivial⟩,rz⟩ ?_
 rintro ⟨X,Y⟩ hI;have hI:bd9 x y X Y:=hI;obtain ⟨g1,g2,g3⟩:=hI;have l2:((dg Y).map j0).length=(dg Y).length:=zq;by_cases hY:0<Y
 ·have hp:(dg Y).length≠0:=by rw [Ne,a0I,L1];omega
  have dv:=b6L X Y hY om om;conv=>whnf
  repeat' (first|refine zx ?_|apply zD<;>intro<;>try omega)<;>conv=>whnf
  all_goals first|omega|exact ⟨[some 0],(Y,X % Y),⟨rfl,rfl,⟨⟨rfl,rfl,rfl,.inl ⟨rfl,S6⟩⟩,trivial⟩,rz⟩,⟨by rw [← g1,Nat.gcd_comm Y,←Nat.gcd_rec,Nat.gcd_comm],g3,lbT (p7 (at3 (a8T X hY))) g3⟩,a8T X hY⟩
 ·have hY:Y=0:=by omega
  subst hY;have hp:(dg 0).length=0:=rfl;have s1:=M3 1 X zq om;conv=>whnf
  repeat' (first|refine zx ?_|apply zD<;>intro<;>try omega)<;>conv=>whnf
  all_goals first|omega|skip
  refine a7m ?_;rw [a1S,show X=Int.gcd x y by rw [Int.gcd,←g1,Nat.gcd_zero_right]]
def bk6 (x y:Int) (hy:0<y) (hxy:x % y=0) (lx:bl x<=200000) (ly:bl y<=200000):ec 299 [bgS (bz x),bgS (bz y)] [] (.tup [bgS (bz (x / y)),bgS (bz 0),eI 0]) []:=by
 have r1:=a1v x om;have r2:=a1v y om;have hys:(bz y).sg=1:=by rw [ab7,O8 hy]
 have ov:=b6L x.natAbs y.natAbs om lx ly;have hmod:x.natAbs % y.natAbs=0:=by
  have:=Int.natAbs_dvd_natAbs.2 (Int.dvd_of_emod_eq_zero hxy);exact Nat.mod_eq_zero_of_dvd this
 have lq:=p7 (Nat.div_le_self x.natAbs y.natAbs);have hsg:(bz x).sg=x.sign:=rfl;have hs:=C8 x;have hq:x.sign*((x.natAbs / y.natAbs:Nat):Int)=x / y:=by
  obtain ⟨k,hk⟩:=Int.dvd_of_emod_eq_zero hxy;subst hk;have hk2:(y*k) / y=k:=aK5 _ om;rw [hk2,a2F,Nat.mul_div_cancel_left _ om,Int.sign_mul,O8 hy,a1S];exact ar1 k
 have s1:=M3 x.sign (x.natAbs / y.natAbs) (by
  rcases hs with ⟨h,h1⟩|⟨h,h1⟩|⟨h,h1⟩
  ·right;right;subst h1;simp
  ·exact .inl h
  ·exact .inr (.inl h)) (by unfold bl at lx;omega)
 rw [hq] at s1;have s2:=M3 x.sign 0 zq (by rw [a0b];simp);rw [show x.sign*((0:Nat):Int)=0 by simp] at s2;have hmul:x.sign*1=x.sign:=al9 _;have hd0:((dg (x.natAbs % y.natAbs)).map j0).length=0:=by rw [hmod,a0b];rfl
 unfold b2m at ov;rw [hmod] at ov hd0;refine ac Tryz.func299 ?_;conv=>whnf
 repeat' (first|refine zx ?_|refine qp (hys,hsg) ?_|refine ⟨_,E5 (y:=x.sign) (by rw [hys,hsg];exact hmul) om om,?_⟩|apply zD<;>intro h<;>try omega)<;>conv=>whnf
 all_goals first|omega|(exfalso;simp_all;done)|exact b3e rfl rfl
def aY5 (p q:Int) (hq:0<q) (lp:bl p<=200000) (lq:bl q<=200000):ec 229 [bgS (bz p),bgS (bz q)] [] (.tup [frS (fz (Rat.divInt p q)),eI 0]) []:=by
 have r1:=a1v p om;have r2:=a1v q om;have hsg:(bz q).sg=1:=by rw [ab7,O8 hq]
 have lg:=a9I p q lp lq;have hg:0<(Int.gcd p q:Int):=by have:=b2E p (b:=q) om;omega
 have g:=b7g p q lp lq;have d1:=bk6 p _ hg (Int.emod_eq_zero_of_dvd (Int.gcd_dvd_left ..)) lp lg;have d2:=bk6 q _ hg (Int.emod_eq_zero_of_dvd (Int.gcd_dvd_right ..)) lq lg;have e:=a9w (p:=p) (q:=q) om rfl;refine ac Tryz.func229 ?_;conv=>whnf
 repeat' (first|refine zx ?_|apply zD<;>intro<;>try omega)<;>conv=>whnf
 all_goals first|omega|(exfalso;simp_all;done)|exact a0f e.symm
def bs2 (p q:Int) (hq:0<q) (p0:-9223372036854775808<=p) (p1:p<=9223372036854775807) (q1:q<=9223372036854775807):
 ec 150 [eI p,eI q] [] (.tup [frS (fz (Rat.divInt p q)),eI 0]) []:=by
 have l1:=S2 p0 p1;have l2:=S2 (x:=q) om q1;have o1:=b4A p p0 p1;have o2:=b4A q om q1;have n:=aY5 p q hq om om;refine ac Tryz.func150 ?_;conv=>whnf
 repeat' (first|refine zx ?_|apply zD<;>intro<;>try omega)<;>conv=>whnf
 all_goals exact a0f rfl
def a5s (n:Int) (p0:-9223372036854775808<=n) (p1:n<=9223372036854775807):ec 81 [eI n] [] (frS (fz (n:Rat))) []:=by
 have o:=bs2 n 1 de p0 p1 de;have e:Rat.divInt n 1=(n:Rat):=by rw [a5D];simp;grind
 rw [e] at o;refine ac Tryz.func81 ?_;conv=>whnf
 repeat' (first|refine zx ?_|apply zD<;>intro<;>try omega)<;>conv=>whnf
 all_goals exact n9 rz
structure aw4 (a b:LI) (i:Nat) (out:LI) (c:Int):Prop where
 len:out.length=i
 ok:Okd out
 le:i<=max a.length b.length+1
 top:i=max a.length b.length+1->c=0
 c0:0<=c
 c1:c<=1
 eq:val out+pw i*c=val (a.take i)+val (b.take i)
def aw4.init (a b:LI):aw4 a b 0 [] 0:=⟨rfl,.nil,J0 _,fun _=>rfl,de,de,by simp [val]⟩
def aw4.step {a b out:LI} {i:Nat} {c:Int} (h:aw4 a b i out c) (ha:Okd a) (hb:Okd b) (hi:i<a.length∨i<b.length∨0<c):
 aw4 a b (i+1) (out++[(dat a i+dat b i+c) % 1048576]) ((dat a i+dat b i+c) / 1048576):=by
 have h1:=ha.dat i;have h2:=hb.dat i;have h3:=h.c0;have h4:=h.c1;have hl:=h.le;have ht:=h.top;have hi2:i<=max a.length b.length:=by
  rcases F8 (max a.length b.length) i with h5|h5
  ·have:=ht om;omega
  ·exact h5
 refine ⟨by simp [h.len],h.ok.append (Okd.cons (a6D _) .nil),om,fun e=>?_,om,om,?_⟩
 ·have e1:dat a i=0:=T7 om;have e2:dat b i=0:=T7 om;rw [e1,e2];omega
 ·rw [L4,h.len,u5,u5,J2];have h5:=h.eq;have h6:(dat a i+dat b i+c) % 1048576=dat a i+dat b i+c - 1048576*((dat a i+dat b i+c) / 1048576):=om;simp only [val];rw [h6];grind
def aw4.fin {a b out:LI} {i:Nat} {c:Int} (h:aw4 a b i out c) (la:a.length<=i) (lb:b.length<=i) (hc:c<=0):K3 out=dg (val a+val b).toNat:=by
 have h1:=h.eq;have h2:=h.c0;obtain rfl:c=0:=om;rw [lbn la,lbn lb] at h1;rw [N7 h.ok]
 congr 2
 grind
def bv1 (a b:LI) (ha:Okd a) (hb:Okd b) (la:a.length<=400000) (lb:b.length<=400000):
 ec 327 [j3 a,j3 b] [] (j3 (dg (val a+val b).toNat)) []:=by
 have l1:(a.map j0).length=a.length:=zq;have l2:(b.map j0).length=b.length:=zq;refine ac Tryz.func327 ?_;conv=>whnf
 repeat' (first|refine zx ?_|apply zD<;>intro h<;>try omega)<;>conv=>whnf
 refine o9 d9 (σ:=Nat × LI × Int) (fun|(k,out,c)=>([j3 a,j3 b,J,J,J,a1U 0 out,eI c,eI k]++Jn 35,[o8 out])) (fun x=>aw4 a b x.1 x.2.1 x.2.2) (fun x=>max a.length b.length+1 - x.1) (0,[],0) [none]
  (aw4.init a b) ⟨rfl,rfl,rz,⟨k8 rfl,k8 rfl,rz⟩⟩ ?_
 rintro ⟨k,out,c⟩ hI;have hI:aw4 a b k out c:=hI;have hlen:=hI.len;have hle:=hI.le;have hc0:=hI.c0;have hc1:=hI.c1;have hda:=ha.dat k;have hdb:=hb.dat k;have d1:=a6O a k om;have d2:=a6O b k om;have hm:(dat a k+dat b k+c).tmod 1048576=(dat a k+dat b k+c) % 1048576:=a5A om;have hd:(dat a k+dat b k+c).tdiv 1048576=(dat a k+dat b k+c) / 1048576:=a4K om;by_cases hgo:k<a.length∨k<b.length∨0<c
 ·have hst:=hI.step ha hb hgo;have hk2:=hst.le;conv=>whnf
  repeat' (first|refine zx ?_|refine o6 zt zu ?_|refine ⟨de,_,E5 hd om om,?_⟩|refine ak3 de ?_|apply zD<;>intro h<;>try omega)<;>conv=>whnf
  all_goals try omega
  all_goals
   refine ⟨[some 1],(k+1,out++[(dat a k+dat b k+c) % 1048576],(dat a k+dat b k+c) / 1048576),⟨rfl,rfl,⟨d8 rfl rfl rfl ?_ rfl,trivial⟩,⟨rfl,rfl,q9 rfl zt,rfl,d7 om,trivial⟩⟩,hst,?_⟩
   ·have e:∀y:Int,y=(dat a k+dat b k+c) % 1048576->(toC (out.map j0)).take out.length++toC [[ti y]]=toC ((out++[(dat a k+dat b k+c) % 1048576]).map j0):=fun y hy=>by rw [hy];exact a2P
    exact e _ om
   ·show max a.length b.length+1 - (k+1)<max a.length b.length+1 - k;omega
 ·have hf:=hI.fin om om om;have t:=a7C out om;rw [hf] at t;conv=>whnf
  repeat' (first|refine zx ?_|refine .inr ⟨_,_,z6 [0] t ⟨a1X (s6 zq rfl zi rfl rfl zq),trivial⟩ rfl,?_⟩|apply zD<;>intro h<;>try omega)<;>conv=>whnf
  all_goals first|omega|exact as7 rfl
def b9F (m n:Nat) (lm:(dg m).length<=300000) (ln:(dg n).length<=300000):ec 327 [j3 (dg m),j3 (dg n)] [] (j3 (dg (m+n))) []:=by
 have h:=bv1 (dg m) (dg n) (v5 m) (v5 n) om om;rw [p9,p9,show ((m:Int)+n).toNat=m+n by omega] at h;exact h
def a8Y (m n:Nat) (lm:(dg m).length<=300000) (h:n<=m):ec 328 [j3 (dg m),j3 (dg n)] [] (j3 (dg (m - n))) []:=by
 have h:=b44 (dg m) (dg n) (v5 m) (v5 n) om (p7 h) (by rw [p9,p9];omega);rw [p9,p9,show ((m:Int) - n).toNat=m - n by omega] at h;exact h
def b40 (m n:Nat) (lm:(dg m).length<=300000) (ln:(dg n).length<=300000):ec 304 [j3 (dg m),j3 (dg n)] [] (j8 (decide (m<n))) []:=by
 have h:=b8v (dg m) (dg n) (v5 m) (v5 n) om om;rw [p9,p9,show decide ((m:Int)<n)=decide (m<n) by simp] at h;exact h
def bh6 (s:Int) (m:Nat) (h:Sg s m) (lm:(dg m).length<=300000):ec 243 [bgS ⟨s,dg m⟩] [] (j8 true) []:=by
 have:=a4m ⟨s,dg m⟩ (show (dg m).length<=1000000 by omega);rw [← a8h h,a0K,a8h h] at this;exact this
def a5F (x:Int) (lx:bl x<=300000):ec 242 [bgS (bz x)] [] (bgS (bz (-x))) []:=by
 have r:=a1v x lx;have hs:=C8 x;have hsg:(bz x).sg=x.sign:=rfl;have sg:=M3 (0 - (bz x).sg) x.natAbs om (by unfold bl at lx;omega);rw [show (0 - (bz x).sg)*(x.natAbs:Int)=-x by rw [hsg];have:=sgm x;grind] at sg;refine ac Tryz.func242 ?_;conv=>whnf
 repeat' (first|refine zx ?_|apply zD<;>intro<;>try omega)<;>conv=>whnf
 all_goals first|(exfalso;simp_all;done)|exact n9 rz
def a4N {α:Type} {l:List α} {k:Nat} {x:α} (h:l[k]? =some x):l.take (k+1)=l.take k++[x]:=by
 rw [lbH,h];rfl
theorem bp8 (a b:Bg) (ha:a.dl.length<=1000000) (hb:b.dl.length<=1000000):d6 Tryz.prog 303 [bgS a,bgS b] [] (j8 (decide (a.sg=b.sg∧a.dl=b.dl))) []:=by
 have l1:(a.dl.map j0).length=a.dl.length:=by simp
 have l2:(b.dl.map j0).length=b.dl.length:=by simp
 by_cases h0:¬(a.sg=b.sg∧a.dl.length=b.dl.length)
 ·(refine ac Tryz.func303 ?_;(conv=>whnf);repeat ((first|refine b0x ?_|refine zy ?_);conv=>whnf))
  repeat' (first|refine zx ?_|refine zd ?_ ?_<;>intro h<;>try omega|fail)<;>conv=>whnf
  all_goals first
   |omega
   |(refine g9 (lbK ?_).symm;rintro ⟨h1,h2⟩;rw [h2] at h0;exact h0 ⟨h1,rfl⟩)
 have h0:a.sg=b.sg∧a.dl.length=b.dl.length:=Decidable.not_not.1 h0
 (refine ac Tryz.func303 ?_;(conv=>whnf);repeat ((first|refine b0x ?_|refine zy ?_);conv=>whnf))
 repeat' (first|refine zx ?_|refine zd ?_ ?_<;>intro h<;>try omega|fail)<;>conv=>whnf
 all_goals try omega
 refine i7 d9 (fun k=>([J,J,S.c (C.t (T.ptr [ti a.sg,w7 a.dl])),S.c (C.t (T.ptr [ti b.sg,w7 b.dl])),J,c9 .i64 k]++Jn 32,[])) a.dl.length (fun k=>a.dl.take k=b.dl.take k) [] rfl
  ⟨rfl,rfl,trivial,⟨rfl,rfl,rfl,trivial⟩⟩ ?_
 intro k hk hI
 by_cases hlt:k<a.dl.length
 ·obtain ⟨x,hx⟩:∃x,a.dl[k]? =some x:=⟨_,lbf hlt⟩
  obtain ⟨y,hy⟩:∃y,b.dl[k]? =some y:=⟨_,lbf (by omega)⟩
  conv=>whnf
  repeat' (first|refine zx ?_|refine f7 hx ?_|refine f7 hy ?_|refine zd ?_ ?_<;>intro h<;>try omega|fail)<;>conv=>whnf
  ·have hne:x≠y:=‹x≠y›
   refine g9 (lbK ?_).symm
   rintro ⟨_,hq⟩;rw [hq,hy] at hx;injection hx with hx;exact hne hx.symm
  ·have hxy:x=y:=by omega
   refine ⟨hlt,?_,[],rfl,rfl,trivial,⟨rfl,rfl,rfl,trivial⟩⟩
   rw [a4N hx,a4N hy,hI,hxy]
  all_goals omega
 ·rw [lbn (by omega),lbn (by omega)] at hI
  conv=>whnf
  repeat' (first|refine zx ?_|refine zd ?_ ?_<;>intro h<;>try omega|fail)<;>conv=>whnf
  all_goals first
   |omega
   |exact g9 (lbI ⟨h0.1,hI⟩).symm
def bA1:a0m .or .i64 0 0 0:=by show (0:Int)=_;decide +kernel
def bz3:a0m .or .i64 0 1 1:=by show (1:Int)=_;decide +kernel
def bD9:a0m .or .i64 1 0 1:=by show (1:Int)=_;decide +kernel
def bD5:a0m .or .i64 1 1 1:=by show (1:Int)=_;decide +kernel
def bB6:a0m .or .i64 0 (-1) (-1):=by show (-1:Int)=_;decide +kernel
def bB5:a0m .or .i64 (-1) 0 (-1):=by show (-1:Int)=_;decide +kernel
def bE5:a0m .or .i64 (-1) (-1) (-1):=by show (-1:Int)=_;decide +kernel
def bs4 (s t:Int) (m n:Nat) (hs:Sg s m) (ht:Sg t n) (lm:(dg m).length<=200000) (ln:(dg n).length<=200000):
 ec 301 [bgS ⟨s,dg m⟩,bgS ⟨t,dg n⟩] [] (.tup [bgS (bz (s*m+t*n)),eI 0]) []:=by
 have r1:=bh6 s m hs om;have r2:=bh6 t n ht om;have ad:=b9F m n om om;have c:=b40 m n om om;have ls:=a4Y m n;have fin:∀(z:Int) (H1:Hp),z=s*m+t*n->Fin 0 (.tup [bgS (bz z),eI 0]) H1 (.tup [bgS (bz (s*m+t*n)),eI 0]) []:=fun z H1 h=>a7m (by rw [h])
 rcases hs with ⟨rfl,rfl⟩|⟨rfl,h1⟩|⟨rfl,h1⟩<;>rcases ht with ⟨rfl,rfl⟩|⟨rfl,h2⟩|⟨rfl,h2⟩
 case inl.inl=>
  have sg:=M3 (0) _ om (J4 ls om);refine ac Tryz.func301 ?_;conv=>whnf
  repeat' (first|refine zx ?_|refine ⟨_,bA1,?_⟩|apply zD<;>intro h<;>try omega)<;>conv=>whnf
  all_goals first|omega|(exfalso;simp_all;done)|exact fin _ _ om
 case inl.inr.inl=>
  have sg:=M3 (1) _ om (J4 ls om);refine ac Tryz.func301 ?_;conv=>whnf
  repeat' (first|refine zx ?_|refine ⟨_,bz3,?_⟩|apply zD<;>intro h<;>try omega)<;>conv=>whnf
  all_goals first|omega|(exfalso;simp_all;done)|exact fin _ _ om
 case inl.inr.inr=>
  have sg:=M3 (-1) _ om (J4 ls om);refine ac Tryz.func301 ?_;conv=>whnf
  repeat' (first|refine zx ?_|refine ⟨_,bB6,?_⟩|apply zD<;>intro h<;>try omega)<;>conv=>whnf
  all_goals first|omega|(exfalso;simp_all;done)|exact fin _ _ om
 case inr.inl.inl=>
  have sg:=M3 (1) _ om (J4 ls om);refine ac Tryz.func301 ?_;conv=>whnf
  repeat' (first|refine zx ?_|refine ⟨_,bD9,?_⟩|apply zD<;>intro h<;>try omega)<;>conv=>whnf
  all_goals first|omega|(exfalso;simp_all;done)|exact fin _ _ om
 case inr.inr.inl=>
  have sg:=M3 (-1) _ om (J4 ls om);refine ac Tryz.func301 ?_;conv=>whnf
  repeat' (first|refine zx ?_|refine ⟨_,bB5,?_⟩|apply zD<;>intro h<;>try omega)<;>conv=>whnf
  all_goals first|omega|(exfalso;simp_all;done)|exact fin _ _ om
 case inr.inl.inr.inl=>
  have sg:=M3 (1) _ om (J4 ls om);refine ac Tryz.func301 ?_;conv=>whnf
  repeat' (first|refine zx ?_|refine ⟨_,bD5,?_⟩|apply zD<;>intro h<;>try omega)<;>conv=>whnf
  all_goals first|omega|(exfalso;simp_all;done)|exact fin _ _ om
 case inr.inr.inr.inr=>
  have sg:=M3 (-1) _ om (J4 ls om);refine ac Tryz.func301 ?_;conv=>whnf
  repeat' (first|refine zx ?_|refine ⟨_,bE5,?_⟩|apply zD<;>intro h<;>try omega)<;>conv=>whnf
  all_goals first|omega|(exfalso;simp_all;done)|exact fin _ _ om
 case inr.inl.inr.inr=>
  rcases F8 m n with hmn|hmn
  ·rw [lbI hmn] at c;have l3:=p7 (a4z n m);refine ac Tryz.func301 ?_;conv=>whnf
   repeat' (first|refine zx ?_|refine qp (a8Y n m om om) ?_|refine qp (M3 (-1) (n - m) om om) ?_|apply zD<;>intro h<;>try omega)<;>conv=>whnf
   all_goals first|omega|(exfalso;simp_all;done)|exact fin _ _ om
  ·rw [lbK (Nat.not_lt.2 hmn)] at c;have l3:=p7 (a4z m n);refine ac Tryz.func301 ?_;conv=>whnf
   repeat' (first|refine zx ?_|refine qp (a8Y m n om om) ?_|refine qp (M3 (1) (m - n) om om) ?_|apply zD<;>intro h<;>try omega)<;>conv=>whnf
   all_goals first|omega|(exfalso;simp_all;done)|exact fin _ _ om
 case inr.inr.inr.inl=>
  rcases F8 m n with hmn|hmn
  ·rw [lbI hmn] at c;have l3:=p7 (a4z n m);refine ac Tryz.func301 ?_;conv=>whnf
   repeat' (first|refine zx ?_|refine qp (a8Y n m om om) ?_|refine qp (M3 (1) (n - m) om om) ?_|apply zD<;>intro h<;>try omega)<;>conv=>whnf
   all_goals first|omega|(exfalso;simp_all;done)|exact fin _ _ om
  ·rw [lbK (Nat.not_lt.2 hmn)] at c;have l3:=p7 (a4z m n);refine ac Tryz.func301 ?_;conv=>whnf
   repeat' (first|refine zx ?_|refine qp (a8Y m n om om) ?_|refine qp (M3 (-1) (m - n) om om) ?_|apply zD<;>intro h<;>try omega)<;>conv=>whnf
   all_goals first|omega|(exfalso;simp_all;done)|exact fin _ _ om
def b7F (x y:Int) (lx:bl x<=200000) (ly:bl y<=200000):ec 301 [bgS (bz x),bgS (bz y)] [] (.tup [bgS (bz (x+y)),eI 0]) []:=by
 have h:=bs4 _ _ _ _ (a7g x) (a7g y) lx ly;rw [sgm,sgm] at h;exact h
def bk2 (x y:Int) (lx:bl x<=200000) (ly:bl y<=200000):ec 318 [bgS (bz x),bgS (bz y)] [] (.tup [bgS (bz (x - y)),eI 0]) []:=by
 have r:=a1v y om;have n:=a5F y om;have a:=b7F x (-y) lx (by rw [U7];exact ly);rw [← a9c] at a;refine ac Tryz.func318 ?_;conv=>whnf
 repeat' (first|refine zx ?_|refine bl0 [6] ?_|refine bl0 [1] ?_|apply zD<;>intro<;>try omega)<;>conv=>whnf
 all_goals first|(exfalso;simp_all;done)|exact a7m rfl
def bw3 (s t:Int) (m n:Nat) (hs:Sg s m) (ht:Sg t n) (lm:(dg m).length<=200000) (ln:(dg n).length<=200000):
 ec 240 [bgS ⟨s,dg m⟩,bgS ⟨t,dg n⟩] [] (.tup [bgS (bz ((s*t)*(m*n:Nat))),eI 0]) []:=by
 have r1:=bh6 s m hs om;have r2:=bh6 t n ht om;have mu:=aY7 m n om om;have ls:=a4U m n;have hst:-1<=s*t∧s*t<=1∧(s*t=1∨s*t=-1∨m*n=0):=by
  rcases hs with ⟨rfl,rfl⟩|⟨rfl,h1⟩|⟨rfl,h1⟩<;>rcases ht with ⟨rfl,rfl⟩|⟨rfl,h2⟩|⟨rfl,h2⟩<;>simp
 obtain ⟨q1,q2,q3⟩:=hst;have sg:=M3 (s*t) (m*n) q3 om;refine ac Tryz.func240 ?_;conv=>whnf
 repeat' (first|refine zx ?_|refine ⟨_,E5 (y:=s*t) rfl om om,?_⟩|apply zD<;>intro<;>try omega)<;>conv=>whnf
 all_goals first|(exfalso;simp_all;done)|exact a7m rfl
def a6k (x y:Int) (lx:bl x<=200000) (ly:bl y<=200000):ec 240 [bgS (bz x),bgS (bz y)] [] (.tup [bgS (bz (x*y)),eI 0]) []:=by
 have h:=bw3 _ _ _ _ (a7g x) (a7g y) lx ly;have e:(x.sign*y.sign)*((x.natAbs*y.natAbs:Nat):Int)=x*y:=by
  rw [a3J];have h1:=sgm x;have h2:=sgm y;grind
 rw [e] at h;exact h
def b99 {x y:Int} (h:(bz x).sg=(bz y).sg∧(bz x).dl=(bz y).dl):x=y:=by
 have:bz x=bz y:=by
  obtain ⟨h1,h2⟩:=h;cases hx:bz x with
  |mk a b=>
   cases hy:bz y with
   |mk c d=>rw [hx,hy] at h1 h2;simp only at h1 h2;rw [h1,h2]
 rw [← a5k x,←a5k y,this]
def a97 (x y:Int) (lx:bl x<=300000) (ly:bl y<=300000):ec 241 [bgS (bz x),bgS (bz y)] [] (eI (M6 x y)) []:=by
 have r1:=a1v x lx;have r2:=a1v y ly;have hsx:(bz x).sg=x.sign:=rfl;have hsy:(bz y).sg=y.sign:=rfl;have sx:=C8 x;have sy:=C8 y;have sm:=bp8 (bz x) (bz y) (show bl x<=1000000 by omega) (show bl y<=1000000 by omega);by_cases he:x=y
 ·subst he;have sm:ec 303 [bgS (bz x),bgS (bz x)] [] (j8 true) []:=by rw [show decide ((bz x).sg=(bz x).sg∧(bz x).dl=(bz x).dl)=true from lbI rz] at sm;exact sm
  have e0:M6 x x=0:=by unfold M6;rw [if_neg om,if_neg om]
  rw [e0];refine ac Tryz.func241 ?_;conv=>whnf
  repeat' (first|refine zx ?_|apply zD<;>intro h<;>try omega)<;>conv=>whnf
  all_goals first|(exfalso;simp_all;done)|exact o4 rfl
 rw [lbK (fun h=>he (b99 h))] at sm;have ls:=b40 x.natAbs y.natAbs lx ly;rcases b1h he with hlt|hgt
 ·have e1:M6 x y=-1:=by unfold M6;rw [if_pos hlt]
  rw [e1];by_cases hl:x.natAbs<y.natAbs
  ·rw [lbI hl] at ls;refine ac Tryz.func241 ?_;conv=>whnf
   repeat' (first|refine zx ?_|apply zD<;>intro h<;>try omega)<;>conv=>whnf
   all_goals first|omega|(exfalso;simp_all;done)|exact o4 rfl
  ·rw [lbK hl] at ls;refine ac Tryz.func241 ?_;conv=>whnf
   repeat' (first|refine zx ?_|apply zD<;>intro h<;>try omega)<;>conv=>whnf
   all_goals first|omega|(exfalso;simp_all;done)|exact o4 rfl
 ·have e1:M6 x y=1:=by unfold M6;rw [if_neg om,if_pos om]
  rw [e1];by_cases hl:x.natAbs<y.natAbs
  ·rw [lbI hl] at ls;refine ac Tryz.func241 ?_;conv=>whnf
   repeat' (first|refine zx ?_|apply zD<;>intro h<;>try omega)<;>conv=>whnf
   all_goals first|omega|(exfalso;simp_all;done)|exact o4 rfl
  ·rw [lbK hl] at ls;refine ac Tryz.func241 ?_;conv=>whnf
   repeat' (first|refine zx ?_|apply zD<;>intro h<;>try omega)<;>conv=>whnf
   all_goals first|omega|(exfalso;simp_all;done)|exact o4 rfl
def a4C (l:LI) (k:Nat):Int:=val (l.drop (l.length - k))
def b4p (l:LI):a4C l 0=0:=by unfold a4C;rw [Nat.sub_zero,List.drop_length];rfl
def b4H {l:LI} {k:Nat} (h:k<l.length):∃x,l[l.length - 1 - k]? =some x∧a4C l (k+1)=x+1048576*a4C l k:=by
 refine ⟨l[l.length - 1 - k],lbf om,?_⟩;unfold a4C;rw [show l.length - (k+1)=l.length - 1 - k by omega,a3r (lbf om),show l.length - 1 - k+1=l.length - k by omega]
def b06 {l:LI} (h:Okd l) {k:Nat} (hk:k<=l.length):0<=a4C l k∧a4C l k<pw k:=by
 refine ⟨v7 (h.drop _),?_⟩;have:=W3 (h.drop (l.length - k));rw [a5r,show l.length - (l.length - k)=k by omega] at this;exact this
def as3 {l:LI} (h:Okd l) {k:Nat} (hk:k<=l.length):pw (l.length - k)*a4C l k<=val l∧val l<pw (l.length - k)*(a4C l k+1):=by
 have e:=a3K l (l.length - k) om;have h1:=v7 (h.take (l.length - k));have h2:=W3 (h.take (l.length - k));rw [lbs,show min (l.length - k) l.length=l.length - k by omega] at h2;have e2:val l=val (l.take (l.length - k))+pw (l.length - k)*a4C l k:=e;rw [ao6];omega
def b8z:pw 3=1152921504606846976:=rfl
def a2C {l:LI} (h:Okd l) {k:Nat} (hk:k<=l.length) (h3:k<=3):0<=a4C l k∧a4C l k<1152921504606846976:=by
 have h1:=b06 h hk;have h2:=a0W h3;rw [b8z] at h2;omega
def b3Q (l:LI) (n:Nat) (hl:l.length<=1000000) (hok:Okd l) (hn:n<=l.length) (h3:n<=3):ec 337 [j3 l,eI n] [] (eI (a4C l n)) []:=by
 have m1:(l.map j0).length=l.length:=zq;refine ac Tryz.func337 ?_;conv=>whnf
 repeat' (first|refine zx ?_|apply zD<;>intro<;>try omega)<;>conv=>whnf
 refine i7 d9 (fun k=>([j3 l,eI n,J,J,J,eI (a4C l k),eI k]++Jn 17,[])) n tT [] trivial
  ⟨rfl,rfl,trivial,⟨rfl,rfl,d7 (b4p l).symm,rz⟩⟩ ?_
 intro k hk _;by_cases hlt:k<n
 ·obtain ⟨x,hx,e⟩:=b4H (l:=l) (k:=k) om;have hs:=a2C hok (k:=k) om om;have hs2:=a2C hok (k:=k+1) om om;have hxr:=hok.get hx;have ix:((l.length:Int) - 1) - (k:Int)=((l.length - 1 - k:Nat):Int):=om;have ix2:(((l.map j0).length:Int) - 1) - (k:Int)=((l.length - 1 - k:Nat):Int):=om;generalize a4C l k=tk at *;conv=>whnf
  repeat' (first|refine zx ?_|refine D9 ix hx ?_|refine D9 ix2 hx ?_|apply zD<;>intro<;>try omega)<;>conv=>whnf
  all_goals first|omega|exact ⟨hlt,trivial,[],rfl,rfl,trivial,⟨rfl,rfl,d7 om,rz⟩⟩
 ·have hke:k=n:=by omega
  subst hke;conv=>whnf
  repeat' (first|refine zx ?_|apply zD<;>intro<;>try omega)<;>conv=>whnf
  all_goals first|omega|exact o4 rfl
end Go.Proofs.YtikokmdpigploaaGreat
