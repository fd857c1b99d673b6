/- Part 4. -/
import Derived.Test.YtdbogogfeffjlaaGreatSsB3
namespace Go.Proofs.YtdbogogfeffjlaaGreat
set_option linter.unusedVariables false
set_option linter.unusedSimpArgs false
set_option maxRecDepth 100000
open St1 St2 St3 St4 St5 St6
section
def bl (z:Int):Nat:=(dg z.natAbs).length
theorem a28 (m n:Nat):(dg (m+n)).length≤max (dg m).length (dg n).length+1:=by
 refine J8 ?_
 have h1:=L7 m
 have h2:=L7 n
 have h3:=a08 (Nat.le_max_left (dg m).length (dg n).length)
 have h4:=a08 (Nat.le_max_right (dg m).length (dg n).length)
 rw [C8]
 omega
theorem a2e (m n:Nat):(dg (m*n)).length≤(dg m).length+(dg n).length:=by
 refine J8 ?_
 have h1:=L7 m
 have h2:=L7 n
 rw [a6j]
 have h3:(m:Int)*n≤m*(pw (dg n).length):=Int.mul_le_mul_of_nonneg_left (by omega) (by omega)
 have h4:(m:Int)*pw (dg n).length<pw (dg m).length*pw (dg n).length:=Int.mul_lt_mul_of_pos_right h1 (N0 _)
 have h5:((m*n:Nat):Int)=m*n:=by simp
 omega
theorem a0S (x:Int):bl (-x)=bl x:=by unfold bl;rw [Int.natAbs_neg]
theorem a6d (x y:Int):bl (x+y)≤max (bl x) (bl y)+1:=Nat.le_trans (n7 (Int.natAbs_add_le x y)) (a28 _ _)
theorem B7 (x y:Int):bl (x*y)≤bl x+bl y:=by unfold bl;rw [Int.natAbs_mul];exact a2e _ _
theorem aF4 {x y:Int} (h:x.natAbs≤y.natAbs):bl x≤bl y:=n7 h
theorem O7 {x:Int} (h0:-9223372036854775808≤x) (h1:x≤9223372036854775807):bl x≤4:=J8 (by simp only [pw];omega)
theorem p8 {x:Int} (h0:-1048575≤x) (h1:x≤1048575):bl x≤1:=J8 (by simp only [pw];omega)
theorem a8t (x y:Int) {n:Nat} (lx:bl x≤n) (ly:bl y≤n):bl (Int.gcd x y)≤n:=by
 by_cases h:x=0
 ·subst h;unfold bl at *;rw [Int.gcd_zero_left];simpa using ly
 ·refine Nat.le_trans (n7 ?_) lx
  simp only [Int.natAbs_natCast]
  exact Int.gcd_le_natAbs_left y h
def rl (x:Rat):Nat:=max (bl x.num) (bl x.den)
theorem B3 (x:Rat):bl x.num≤rl x:=Nat.le_max_left _ _
theorem B9 (x:Rat):bl x.den≤rl x:=Nat.le_max_right _ _
theorem W8 {p q:Int} (hq:q≠0):rl (Rat.divInt p q)≤max (bl p) (bl q):=by
 unfold rl
 rw [Rat.num_divInt,Rat.den_divInt,if_neg hq]
 have h1:bl (q.sign*p / (q.gcd p:Nat))≤bl p:=aF4 (by
  refine Nat.le_trans (Int.natAbs_ediv_le_natAbs _ _) ?_
  rw [Int.natAbs_mul]
  have:q.sign.natAbs=1:=by
   rcases Int.lt_trichotomy q 0 with h|h|h
   ·rw [Int.sign_eq_neg_one_of_neg h];rfl
   ·exact absurd h hq
   ·rw [Int.sign_eq_one_of_pos h];rfl
  rw [this,Nat.one_mul];exact Nat.le_refl _)
 have h2:bl ((q.natAbs / q.gcd p:Nat):Int)≤bl q:=aF4 (by simp only [Int.natAbs_natCast];exact Nat.div_le_self _ _)
 omega
theorem a7i (x y:Rat):x+y=Rat.divInt (x.num*y.den+y.num*x.den) (x.den*y.den):=by rw [Rat.add_def',←Rat.divInt_ofNat,Int.natCast_mul]
theorem ai2 (x y:Rat):x*y=Rat.divInt (x.num*y.num) (x.den*y.den):=by rw [Rat.mul_def',←Rat.divInt_ofNat,Int.natCast_mul]
theorem b1q (x y:Rat):x / y=Rat.divInt (x.num*y.den) (x.den*y.num):=by
 rw [Rat.div_def,Rat.inv_def]
 conv=>lhs;rw [← Rat.num_divInt_den x]
 rw [Rat.divInt_mul_divInt]
theorem az3 (x:Rat):(x.den:Int)≠0:=by have:=x.den_pos;omega
theorem a7v (x y:Rat):(x.den:Int)*y.den≠0:=Int.mul_ne_zero (az3 x) (az3 y)
theorem Z5 (x y:Rat):rl (x+y)≤rl x+rl y+1:=by
 rw [a7i]
 have h1:=a6d (x.num*y.den) (y.num*x.den)
 have h2:=B7 x.num y.den
 have h3:=B7 y.num x.den
 have h4:=B7 x.den y.den
 have:=W8 (p:=x.num*y.den+y.num*x.den) (a7v x y)
 unfold rl at *
 omega
theorem M9 (x:Rat):rl (-x)=rl x:=by unfold rl;rw [Rat.neg_num,Rat.neg_den,a0S]
theorem aC4 (x y:Rat):rl (x - y)≤rl x+rl y+1:=by rw [Rat.sub_eq_add_neg];have:=Z5 x (-y);rw [M9] at this;exact this
theorem a1f (x y:Rat):rl (x*y)≤rl x+rl y:=by
 rw [ai2]
 have h2:=B7 x.num y.num
 have h4:=B7 x.den y.den
 have:=W8 (p:=x.num*y.num) (a7v x y)
 unfold rl at *
 omega
theorem R9 (n:Int):rl (n:Rat)=max (bl n) 1:=by unfold rl;rw [Rat.num_intCast,Rat.den_intCast];rfl
def a01 (x y:Rat):Int:=if x<y then -1 else if y<x then 1 else 0
theorem aX9 {x:Rat}:x.num<0↔x<0:=by rw [Rat.lt_iff];simp
theorem aS6 {x:Rat}:0<x.num↔0<x:=by rw [Rat.lt_iff];simp
def sgR (x:Rat):Int:=if x<0 then -1 else if 0<x then 1 else 0
theorem a4Q (x:Rat):x.num.sign=sgR x:=by
 unfold sgR
 by_cases h:x<0
 ·rw [if_pos h,Int.sign_eq_neg_one_of_neg (aX9.2 h)]
 ·rw [if_neg h]
  by_cases h2:0<x
  ·rw [if_pos h2,Int.sign_eq_one_of_pos (aS6.2 h2)]
  ·rw [if_neg h2]
   have h3:¬x.num<0:=fun e=>h (aX9.1 e)
   have h4:¬0<x.num:=fun e=>h2 (aS6.1 e)
   rw [show x.num=0 by omega];rfl
end
section
open Go.RowKit
set_option maxHeartbeats 1000000
theorem aZ4 (m n:Nat) (lm:(dg m).length≤300000) (ln:(dg n).length≤300000):
 b9 Tryz.prog 215 [g6 (dg m),g6 (dg n)] [] (g6 (dg (m+n))) []:=by
 have h:=b5s (dg m) (dg n) (p4 m) (p4 n) (by omega) (by omega)
 rw [m6,m6,show ((m:Int)+n).toNat=m+n by omega] at h
 exact h
theorem a8H (m n:Nat) (lm:(dg m).length≤300000) (h:n≤m):
 b9 Tryz.prog 216 [g6 (dg m),g6 (dg n)] [] (g6 (dg (m - n))) []:=by
 have h:=b81 (dg m) (dg n) (p4 m) (p4 n) (by omega) (n7 h) (by rw [m6,m6];omega)
 rw [m6,m6,show ((m:Int) - n).toNat=m - n by omega] at h
 exact h
theorem b4q (m n:Nat) (lm:(dg m).length≤300000) (ln:(dg n).length≤300000):
 b9 Tryz.prog 266 [g6 (dg m),g6 (dg n)] [] (g6 (dg (m*n))) []:=by
 have h:=b36 (dg m) (dg n) (p4 m) (p4 n) (by omega) (by omega)
 rw [m6,m6,show ((m:Int)*n).toNat=m*n by rw [← Int.natCast_mul];rfl] at h
 exact h
theorem b3o (m n:Nat) (lm:(dg m).length≤300000) (ln:(dg n).length≤300000):
 b9 Tryz.prog 212 [g6 (dg m),g6 (dg n)] [] (a9 .i64 (J2 m n)) []:=by
 have h:=a1E (dg m) (dg n) (a0p m) (a0p n) (by omega) (by omega)
 rw [m6,m6] at h
 exact h
theorem u5 (s:Int) (k:Nat) (h:s=1∨s=-1∨k=0) (lk:(dg k).length≤700000):
 b9 Tryz.prog 209 [a9 .i64 s,g6 (dg k)] [] (bgS (bz (s*k))) []:=by
 have e:=au2 s (dg k) (by omega)
 rw [ay3 (p4 k) (by rw [m6];omega),m6] at e
 exact e
def Sg (s:Int) (m:Nat):Prop:=(s=0∧m=0)∨(s=1∧0<m)∨(s=-1∧0<m)
theorem a42 (x:Int):Sg x.sign x.natAbs:=by
 rcases A6 x with ⟨e,h1⟩|⟨e,h1⟩|⟨e,h1⟩
 ·exact .inl ⟨e,by omega⟩
 ·exact .inr (.inl ⟨e,by omega⟩)
 ·exact .inr (.inr ⟨e,by omega⟩)
theorem a5k {s:Int} {m:Nat} (h:Sg s m):bz (s*m)=⟨s,dg m⟩:=by
 rcases h with ⟨rfl,rfl⟩|⟨rfl,h⟩|⟨rfl,h⟩
 ·rfl
 ·unfold bz;rw [Int.one_mul,Int.sign_eq_one_of_pos (by omega)];rfl
 ·unfold bz;rw [Int.sign_eq_neg_one_of_neg (by omega)];congr 2;omega
theorem a0C (s:Int) (m:Nat) (h:Sg s m) (lm:(dg m).length≤300000):b9 Tryz.prog 135 [bgS ⟨s,dg m⟩] [] (e6 true) []:=by
 have:=a1P ⟨s,dg m⟩ (show (dg m).length≤1000000 by omega)
 rw [← a5k h,U0,a5k h] at this
 exact this
theorem a4i {b b':Bg} {e:Int} {H1:Hp} (h:b=b'):Fin 0 (.tup [bgS b,a9 .i64 e]) H1 (.tup [bgS b',a9 .i64 e]) []:=by
 subst h;exact j5 ⟨⟨rfl,rfl,trivial⟩,rfl,trivial⟩
theorem D2 {a b c d:Nat} (h:a≤max b c+1) (h2:max b c+1≤d):a≤d:=Nat.le_trans h h2
theorem b3I (s t:Int) (m n:Nat) (hs:Sg s m) (ht:Sg t n) (lm:(dg m).length≤200000) (ln:(dg n).length≤200000):
 b9 Tryz.prog 142 [bgS ⟨s,dg m⟩,bgS ⟨t,dg n⟩] [] (.tup [bgS (bz (s*m+t*n)),a9 .i64 0]) []:=by
 have r1:=a0C s m hs (by omega)
 have r2:=a0C t n ht (by omega)
 have ad:=aZ4 m n (by omega) (by omega)
 have c:=b3o m n (by omega) (by omega)
 have ls:=a28 m n
 have fin:∀(z:Int) (H1:Hp),z=s*m+t*n→Fin 0 (.tup [bgS (if true then bz z else ⟨0,[]⟩),a9 .i64 0]) H1 (.tup [bgS (bz (s*m+t*n)),a9 .i64 0]) []:=fun z H1 h=>a4i (by rw [h];rfl)
 rcases hs with ⟨rfl,rfl⟩|⟨rfl,h1⟩|⟨rfl,h1⟩<;>rcases ht with ⟨rfl,rfl⟩|⟨rfl,h2⟩|⟨rfl,h2⟩
 case inl.inl=>
  have sg:=u5 (0) _ (by omega) (D2 ls (by omega))
  have co:=a24 (0) (0)
  (refine a8 a7 Tryz.func142 rfl (by decide) ?_;(conv=>whnf);repeat (refine zy ?_;conv=>whnf))
  repeat' first|(refine zd ?_ ?_<;>intro h<;>first|exact zc h|(exfalso;omega)|conv=>whnf)|((first|refine zz ?_|refine qp r1 ?_|refine qp r2 ?_|refine qp ad ?_|refine qp sg ?_|refine qp (E6 true _) ?_|refine qp co ?_|refine ⟨_,y9 (y:=0) rfl (by decide) (by decide),?_⟩|refine zy ?_);conv=>whnf)
  all_goals first|(exfalso;omega)|exact fin _ _ (by omega)
 case inl.inr.inl=>
  have sg:=u5 (1) _ (by omega) (D2 ls (by omega))
  have co:=a24 (0) (1)
  (refine a8 a7 Tryz.func142 rfl (by decide) ?_;(conv=>whnf);repeat (refine zy ?_;conv=>whnf))
  repeat' first|(refine zd ?_ ?_<;>intro h<;>first|exact zc h|(exfalso;omega)|conv=>whnf)|((first|refine zz ?_|refine qp r1 ?_|refine qp r2 ?_|refine qp ad ?_|refine qp sg ?_|refine qp (E6 true _) ?_|refine qp co ?_|refine ⟨_,y9 (y:=0) rfl (by decide) (by decide),?_⟩|refine zy ?_);conv=>whnf)
  all_goals first|(exfalso;omega)|exact fin _ _ (by omega)
 case inl.inr.inr=>
  have sg:=u5 (-1) _ (by omega) (D2 ls (by omega))
  have co:=a24 (0) (-1)
  (refine a8 a7 Tryz.func142 rfl (by decide) ?_;(conv=>whnf);repeat (refine zy ?_;conv=>whnf))
  repeat' first|(refine zd ?_ ?_<;>intro h<;>first|exact zc h|(exfalso;omega)|conv=>whnf)|((first|refine zz ?_|refine qp r1 ?_|refine qp r2 ?_|refine qp ad ?_|refine qp sg ?_|refine qp (E6 true _) ?_|refine qp co ?_|refine ⟨_,y9 (y:=0) rfl (by decide) (by decide),?_⟩|refine zy ?_);conv=>whnf)
  all_goals first|(exfalso;omega)|exact fin _ _ (by omega)
 case inr.inl.inl=>
  have sg:=u5 (1) _ (by omega) (D2 ls (by omega))
  have co:=a24 (1) (0)
  (refine a8 a7 Tryz.func142 rfl (by decide) ?_;(conv=>whnf);repeat (refine zy ?_;conv=>whnf))
  repeat' first|(refine zd ?_ ?_<;>intro h<;>first|exact zc h|(exfalso;omega)|conv=>whnf)|((first|refine zz ?_|refine qp r1 ?_|refine qp r2 ?_|refine qp ad ?_|refine qp sg ?_|refine qp (E6 true _) ?_|refine qp co ?_|refine ⟨_,y9 (y:=0) rfl (by decide) (by decide),?_⟩|refine zy ?_);conv=>whnf)
  all_goals first|(exfalso;omega)|exact fin _ _ (by omega)
 case inr.inr.inl=>
  have sg:=u5 (-1) _ (by omega) (D2 ls (by omega))
  have co:=a24 (-1) (0)
  (refine a8 a7 Tryz.func142 rfl (by decide) ?_;(conv=>whnf);repeat (refine zy ?_;conv=>whnf))
  repeat' first|(refine zd ?_ ?_<;>intro h<;>first|exact zc h|(exfalso;omega)|conv=>whnf)|((first|refine zz ?_|refine qp r1 ?_|refine qp r2 ?_|refine qp ad ?_|refine qp sg ?_|refine qp (E6 true _) ?_|refine qp co ?_|refine ⟨_,y9 (y:=0) rfl (by decide) (by decide),?_⟩|refine zy ?_);conv=>whnf)
  all_goals first|(exfalso;omega)|exact fin _ _ (by omega)
 case inr.inl.inr.inl=>
  have sg:=u5 (1) _ (by omega) (D2 ls (by omega))
  have co:=a24 (1) (1)
  (refine a8 a7 Tryz.func142 rfl (by decide) ?_;(conv=>whnf);repeat (refine zy ?_;conv=>whnf))
  repeat' first|(refine zd ?_ ?_<;>intro h<;>first|exact zc h|(exfalso;omega)|conv=>whnf)|((first|refine zz ?_|refine qp r1 ?_|refine qp r2 ?_|refine qp ad ?_|refine qp sg ?_|refine qp (E6 true _) ?_|refine qp co ?_|refine ⟨_,y9 (y:=1) rfl (by decide) (by decide),?_⟩|refine zy ?_);conv=>whnf)
  all_goals first|(exfalso;omega)|exact fin _ _ (by omega)
 case inr.inr.inr.inr=>
  have sg:=u5 (-1) _ (by omega) (D2 ls (by omega))
  have co:=a24 (-1) (-1)
  (refine a8 a7 Tryz.func142 rfl (by decide) ?_;(conv=>whnf);repeat (refine zy ?_;conv=>whnf))
  repeat' first|(refine zd ?_ ?_<;>intro h<;>first|exact zc h|(exfalso;omega)|conv=>whnf)|((first|refine zz ?_|refine qp r1 ?_|refine qp r2 ?_|refine qp ad ?_|refine qp sg ?_|refine qp (E6 true _) ?_|refine qp co ?_|refine ⟨_,y9 (y:=1) rfl (by decide) (by decide),?_⟩|refine zy ?_);conv=>whnf)
  all_goals first|(exfalso;omega)|exact fin _ _ (by omega)
 case inr.inl.inr.inr=>
  rcases Nat.lt_or_ge m n with hmn|hmn
  ·rw [a25 (by omega)] at c
   have l3:=n7 (Nat.sub_le n m)
   (refine a8 a7 Tryz.func142 rfl (by decide) ?_;(conv=>whnf);repeat (refine zy ?_;conv=>whnf))
   repeat' first|(refine zd ?_ ?_<;>intro h<;>first|exact zc h|(exfalso;omega)|conv=>whnf)|((first|refine zz ?_|refine qp r1 ?_|refine qp r2 ?_|refine qp c ?_|refine qp (a8H n m (by omega) (by omega)) ?_|refine qp (u5 (-1) (n - m) (by omega) (by omega)) ?_|refine qp (E6 true _) ?_|refine ⟨_,y9 (y:=-1) rfl (by decide) (by decide),?_⟩|refine zy ?_);conv=>whnf)
   all_goals first|(exfalso;omega)|exact fin _ _ (by omega)
  ·have hc:0≤J2 m n:=by unfold J2;split<;>(try split)<;>omega
   have l3:=n7 (Nat.sub_le m n)
   (refine a8 a7 Tryz.func142 rfl (by decide) ?_;(conv=>whnf);repeat (refine zy ?_;conv=>whnf))
   repeat' first|(refine zd ?_ ?_<;>intro h<;>first|exact zc h|(exfalso;omega)|conv=>whnf)|((first|refine zz ?_|refine qp r1 ?_|refine qp r2 ?_|refine qp c ?_|refine qp (a8H m n (by omega) (by omega)) ?_|refine qp (u5 (1) (m - n) (by omega) (by omega)) ?_|refine qp (E6 true _) ?_|refine ⟨_,y9 (y:=-1) rfl (by decide) (by decide),?_⟩|refine zy ?_);conv=>whnf)
   all_goals first|(exfalso;omega)|exact fin _ _ (by omega)
 case inr.inr.inr.inl=>
  rcases Nat.lt_or_ge m n with hmn|hmn
  ·rw [a25 (by omega)] at c
   have l3:=n7 (Nat.sub_le n m)
   (refine a8 a7 Tryz.func142 rfl (by decide) ?_;(conv=>whnf);repeat (refine zy ?_;conv=>whnf))
   repeat' first|(refine zd ?_ ?_<;>intro h<;>first|exact zc h|(exfalso;omega)|conv=>whnf)|((first|refine zz ?_|refine qp r1 ?_|refine qp r2 ?_|refine qp c ?_|refine qp (a8H n m (by omega) (by omega)) ?_|refine qp (u5 (1) (n - m) (by omega) (by omega)) ?_|refine qp (E6 true _) ?_|refine ⟨_,y9 (y:=-1) rfl (by decide) (by decide),?_⟩|refine zy ?_);conv=>whnf)
   all_goals first|(exfalso;omega)|exact fin _ _ (by omega)
  ·have hc:0≤J2 m n:=by unfold J2;split<;>(try split)<;>omega
   have l3:=n7 (Nat.sub_le m n)
   (refine a8 a7 Tryz.func142 rfl (by decide) ?_;(conv=>whnf);repeat (refine zy ?_;conv=>whnf))
   repeat' first|(refine zd ?_ ?_<;>intro h<;>first|exact zc h|(exfalso;omega)|conv=>whnf)|((first|refine zz ?_|refine qp r1 ?_|refine qp r2 ?_|refine qp c ?_|refine qp (a8H m n (by omega) (by omega)) ?_|refine qp (u5 (-1) (m - n) (by omega) (by omega)) ?_|refine qp (E6 true _) ?_|refine ⟨_,y9 (y:=-1) rfl (by decide) (by decide),?_⟩|refine zy ?_);conv=>whnf)
   all_goals first|(exfalso;omega)|exact fin _ _ (by omega)
end
section
open Go.RowKit
theorem sgm (x:Int):x.sign*x.natAbs=x:=Int.sign_mul_natAbs x
theorem a3q (x:Int) (lx:bl x≤300000):b9 Tryz.prog 135 [bgS (bz x)] [] (e6 true) []:=a0C _ _ (a42 x) lx
theorem b3K (x y:Int) (lx:bl x≤200000) (ly:bl y≤200000):b9 Tryz.prog 142 [bgS (bz x),bgS (bz y)] [] (.tup [bgS (bz (x+y)),a9 .i64 0]) []:=by
 have h:=b3I _ _ _ _ (a42 x) (a42 y) lx ly
 rw [sgm,sgm] at h
 exact h
theorem a5I (x:Int) (lx:bl x≤300000):b9 Tryz.prog 141 [bgS (bz x)] [] (bgS (bz (-x))) []:=by
 have h:=b48 (bz x) (show bl x≤1000000 by omega)
 unfold aS1 at h
 rw [U0,a2z] at h
 exact h
abbrev bg2 (s:Int) (l:List Int):S:=.agg [.t (ti s),.t (I8 l)]
theorem b4n (s t:Int) (m n:Nat) (hs:Sg s m) (ht:Sg t n) (lm:(dg m).length≤200000) (ln:(dg n).length≤200000):
 b9 Tryz.prog 213 [bgS ⟨s,dg m⟩,bgS ⟨t,dg n⟩] [] (.tup [bgS (bz ((s*t)*(m*n:Nat))),a9 .i64 0]) []:=by
 have r1:=a0C s m hs (by omega)
 have r2:=a0C t n ht (by omega)
 have mu:=b4q m n (by omega) (by omega)
 have ls:=a2e m n
 have hst:-1≤s*t∧s*t≤1∧(s*t=1∨s*t=-1∨m*n=0):=by
  rcases hs with ⟨rfl,rfl⟩|⟨rfl,h1⟩|⟨rfl,h1⟩<;>rcases ht with ⟨rfl,rfl⟩|⟨rfl,h2⟩|⟨rfl,h2⟩<;>simp
 obtain ⟨q1,q2,q3⟩:=hst
 have sg:=u5 (s*t) (m*n) q3 (by omega)
 have ck:=E6 true (bz ((s*t)*(m*n:Nat)))
 (refine a8 a7 Tryz.func213 rfl (by decide) ?_;(conv=>whnf);repeat (refine zy ?_;conv=>whnf))
 repeat' first|(refine zd ?_ ?_<;>intro h<;>first|exact zc h|(exfalso;omega)|conv=>whnf)|((first|refine zz ?_|refine qp r1 ?_|refine qp r2 ?_|refine qp mu ?_|refine qp sg ?_|refine qp ck ?_|refine ⟨_,y9 (y:=s*t) rfl (by omega) (by omega),?_⟩|refine zy ?_);conv=>whnf)
 all_goals first|(exfalso;simp_all;done)|exact a4i rfl
theorem b4z (x y:Int) (lx:bl x≤200000) (ly:bl y≤200000):b9 Tryz.prog 213 [bgS (bz x),bgS (bz y)] [] (.tup [bgS (bz (x*y)),a9 .i64 0]) []:=by
 have h:=b4n _ _ _ _ (a42 x) (a42 y) lx ly
 have e:(x.sign*y.sign)*((x.natAbs*y.natAbs:Nat):Int)=x*y:=by
  rw [Int.natCast_mul]
  have h1:=sgm x
  have h2:=sgm y
  grind
 rw [e] at h
 exact h
theorem ay7 (x y:Int) (lx:bl x≤300000) (ly:bl y≤300000):b9 Tryz.prog 139 [bgS (bz x),bgS (bz y)] [] (a9 .i64 (J2 x y)) []:=by
 have h:=aA3 (bz x) (bz y) (show bl x≤1000000 by omega) (show bl y≤1000000 by omega)
 unfold aP4 at h
 rw [U0,U0,a2z,a2z] at h
 exact h
theorem aF2 {b b' c c':Bg} {e:Int} {H1:Hp} (h:b=b') (h2:c=c'):Fin 0 (.tup [bgS b,bgS c,a9 .i64 e]) H1 (.tup [bgS b',bgS c',a9 .i64 e]) []:=by
 subst h h2;exact j5 ⟨⟨rfl,rfl,trivial⟩,⟨rfl,rfl,trivial⟩,rfl,trivial⟩
theorem b3V (s:Int) (m n:Nat) (hs:Sg s m) (hn:0<n) (lm:(dg m).length≤200000) (ln:(dg n).length≤200000):
 b9 Tryz.prog 217 [bgS ⟨s,dg m⟩,bgS ⟨1,dg n⟩] [] (.tup [bgS (bz (s*m / n)),bgS (bz (s*m % n)),a9 .i64 0]) []:=by
 show b9 Tryz.prog 217 [bg2 s (dg m),bg2 1 (dg n)] [] _ []
 have r1:=a0C s m hs (by omega)
 have r2:=a0C 1 n (.inr (.inl ⟨rfl,hn⟩)) (by omega)
 have dv:=b3c m n hn (by omega) (by omega)
 have lq:=n7 (Nat.div_le_self m n)
 have hr:=Nat.mod_lt m hn
 have lr:=n7 (Nat.le_of_lt hr)
 have lr2:((dg (m % n)).map g9).length=(dg (m % n)).length:=by simp
 have hz:(dg (m % n)).length=0↔m % n=0:=by rw [List.length_eq_zero_iff,M3]
 have hm:=Nat.div_add_mod m n
 have fin:∀(a b:Int) (H1:Hp),a=s*m / n→b=s*m % n→Fin 0 (.tup [bgS (bz a),bgS (bz b),a9 .i64 0]) H1 (.tup [bgS (bz (s*m / n)),bgS (bz (s*m % n)),a9 .i64 0]) []:=fun a b H1 h1 h2=>aF2 (by rw [h1]) (by rw [h2])
 rcases hs with ⟨rfl,rfl⟩|⟨rfl,h1⟩|⟨rfl,h1⟩
 ·have s1:=u5 0 (0 / n) (by simp) (by omega)
  have s2:=u5 0 (0 % n) (by simp) (by omega)
  (refine a8 a7 Tryz.func217 rfl (by decide) ?_;(conv=>whnf);repeat (refine zy ?_;conv=>whnf))
  repeat' first|(refine zd ?_ ?_<;>intro h<;>first|exact zc h|(exfalso;omega)|conv=>whnf)|((first|refine zz ?_|refine qp r1 ?_|refine qp r2 ?_|refine qp dv ?_|refine qp s1 ?_|refine qp s2 ?_|refine ⟨_,y9 (y:=0) rfl (by decide) (by decide),?_⟩|refine zy ?_);conv=>whnf)
  all_goals first|(exfalso;omega)|exact fin _ _ _ (by first|rfl|simp) (by first|rfl|simp)
 ·have s1:=u5 1 (m / n) (by simp) (by omega)
  have s2:=u5 1 (m % n) (by simp) (by omega)
  (refine a8 a7 Tryz.func217 rfl (by decide) ?_;(conv=>whnf);repeat (refine zy ?_;conv=>whnf))
  repeat' first|(refine zd ?_ ?_<;>intro h<;>first|exact zc h|(exfalso;omega)|conv=>whnf)|((first|refine zz ?_|refine qp r1 ?_|refine qp r2 ?_|refine qp dv ?_|refine qp s1 ?_|refine qp s2 ?_|refine ⟨_,y9 (y:=1) rfl (by decide) (by decide),?_⟩|refine zy ?_);conv=>whnf)
  all_goals first|(exfalso;omega)|exact fin _ _ _ (by first|rfl|simp) (by first|rfl|simp)
 ·by_cases h0:m % n=0
  ·have hz0:=hz.2 h0
   have s1:=u5 (-1) (m / n) (by simp) (by omega)
   have s2:=u5 (-1) (m % n) (by simp) (by omega)
   have e1:-1*((m / n:Nat):Int)=-1*(m:Int) / n:=by
    have e:(m:Int)=n*(m / n:Nat):=by rw [← Int.natCast_mul];congr 1;omega
    rw [e,show -1*((n:Int)*(m / n:Nat))=n*(-1*(m / n:Nat)) by grind,Int.mul_ediv_cancel_left _ (by omega)]
   have e2:-1*((m % n:Nat):Int)=-1*(m:Int) % n:=by
    have e:(m:Int)=n*(m / n:Nat):=by rw [← Int.natCast_mul];congr 1;omega
    rw [h0,e,show -1*((n:Int)*(m / n:Nat))=n*(-1*(m / n:Nat)) by grind,Int.mul_emod_right]
    simp
   (refine a8 a7 Tryz.func217 rfl (by decide) ?_;(conv=>whnf);repeat (refine zy ?_;conv=>whnf))
   repeat' first|(refine zd ?_ ?_<;>intro h<;>first|exact zc h|(exfalso;omega)|conv=>whnf)|((first|refine zz ?_|refine qp r1 ?_|refine qp r2 ?_|refine qp dv ?_|refine qp s1 ?_|refine qp s2 ?_|refine ⟨_,y9 (y:=-1) rfl (by decide) (by decide),?_⟩|refine zy ?_);conv=>whnf)
   all_goals first|(exfalso;omega)|exact fin _ _ _ e1 e2
  ·have hz0:(dg (m % n)).length≠0:=fun h=>h0 (hz.1 h)
   have one:dg 1=[1]:=rfl
   have ad:=aZ4 (m / n) 1 (by omega) (by simp [one])
   have sb:=a8H n (m % n) (by omega) (by omega)
   have l1:=a28 (m / n) 1
   have l2:=n7 (Nat.sub_le n (m % n))
   have s1:=u5 (-1) (m / n+1) (by simp) (by rw [one] at l1;simp at l1;omega)
   have s2:=u5 1 (n - m % n) (by simp) (by omega)
   have key:(-1*(m:Int))=(n - m % n:Nat)+n*(-1*((m / n+1:Nat):Int)):=by
    have e:(m:Int)=n*(m / n:Nat)+(m % n:Nat):=by rw [← Int.natCast_mul];omega
    have e2:((n - m % n:Nat):Int)=n - (m % n:Nat):=by omega
    have e3:((m / n+1:Nat):Int)=(m / n:Nat)+1:=by omega
    rw [e2,e3]
    grind
   have e1:-1*((m / n+1:Nat):Int)=-1*(m:Int) / n:=by
    rw [key,Int.add_mul_ediv_left _ _ (by omega),Int.ediv_eq_zero_of_lt (by omega) (by omega)]
    simp
   have e2:1*((n - m % n:Nat):Int)=-1*(m:Int) % n:=by
    rw [key,Int.add_mul_emod_self_left,Int.emod_eq_of_lt (by omega) (by omega)]
    simp
   (refine a8 a7 Tryz.func217 rfl (by decide) ?_;(conv=>whnf);repeat (refine zy ?_;conv=>whnf))
   repeat' first|(refine zd ?_ ?_<;>intro h<;>first|exact zc h|(exfalso;omega)|conv=>whnf)|((first|refine zz ?_|refine qp r1 ?_|refine qp r2 ?_|refine qp dv ?_|refine qp s1 ?_|refine qp s2 ?_|refine qp sb ?_|refine .inl ⟨_,_,a0N ad ⟨ai6,a09 (ai0 rfl),trivial⟩ rfl,?_⟩|refine ⟨_,y9 (y:=-1) rfl (by decide) (by decide),?_⟩|refine zy ?_);conv=>whnf)
   all_goals first|(exfalso;omega)|exact fin _ _ _ e1 e2
theorem ag8 (x y:Int) (hy:0<y) (lx:bl x≤200000) (ly:bl y≤200000):b9 Tryz.prog 217 [bgS (bz x),bgS (bz y)] [] (.tup [bgS (bz (x / y)),bgS (bz (x % y)),a9 .i64 0]) []:=by
 have h:=b3V _ _ y.natAbs (a42 x) (by omega) lx ly
 rw [sgm,show (y.natAbs:Int)=y by omega] at h
 unfold bz at *
 rw [Int.sign_eq_one_of_pos hy]
 exact h
end
section
open Go.RowKit
abbrev aO8:Blk:={ mode:=.live,elem:=81,size:=2,rows:=[[E0 (.int .i64 0),E0 (.slice none 0 0)]],box:=true }
theorem Q5:E8 [[E0 (.int .i64 0),E0 (.slice none 0 0)]]:=by
 intro r hr c hc
 simp at hr
 subst hr
 simp at hc
 rcases hc with rfl|rfl<;>rfl
structure b1G (x y:Int) (X Y:Nat):Prop where
 g:Nat.gcd X Y=Nat.gcd x.natAbs y.natAbs
 lx:(dg X).length≤200000
 ly:(dg Y).length≤200000
theorem ay1 (x y:Int) (lx:bl x≤200000) (ly:bl y≤200000):b9 Tryz.prog 136 [bgS (bz x),bgS (bz y)] [] (.tup [bgS (bz (Int.gcd x y)),a9 .i64 0]) []:=by
 have r1:=a3q x (by omega)
 have r2:=a3q y (by omega)
 have cl:=a7l (bz x).dl (show bl x≤1000000 by omega)
 (refine a8 a7 Tryz.func136 rfl (by decide) ?_;(conv=>whnf);repeat (refine zy ?_;conv=>whnf))
 repeat' first|(refine zd ?_ ?_<;>intro h<;>first|exact zc h|(exfalso;omega)|conv=>whnf)|((first|refine zz ?_|refine qp r1 ?_|refine qp r2 ?_|refine qp cl ?_|refine zy ?_);conv=>whnf)
 all_goals first
  |(exfalso;simp_all;done)
  |skip
 refine m9 a7 (σ:=Nat × Nat) (fun|(X,Y)=>([J,J,J,J,S.c (C.ptr 0 0 0),J,g6 (dg X),g6 (dg Y),J,J,J,J,J,J,J,J,J,J,J,J,J,J,J,J,J,J,J,J,J,J,J,J,J,J,J,J,J,J,J,J,J,J,J,J],[aO8])) (fun s=>b1G x y s.1 s.2) (fun s=>s.2) (x.natAbs,y.natAbs) [some 2]
  ⟨rfl,lx,ly⟩ ⟨rfl,rfl,⟨⟨rfl,rfl,rfl,.inl ⟨rfl,Q5⟩⟩,trivial⟩,⟨⟨rfl,rfl,rfl⟩,rfl,rfl,trivial⟩⟩ ?_
 rintro ⟨X,Y⟩ hI
 have hI:b1G x y X Y:=hI
 obtain ⟨g1,g2,g3⟩:=hI
 have l2:((dg Y).map g9).length=(dg Y).length:=by simp
 conv=>whnf
 by_cases hY:0<Y
 ·have hp:(dg Y).length≠0:=by rw [Ne,List.length_eq_zero_iff,M3];omega
  have dv:=b3c X Y hY (by omega) (by omega)
  repeat' first|(refine zd ?_ ?_<;>intro h<;>first|exact zc h|(exfalso;omega)|conv=>whnf)|((first|refine zz ?_|refine qp dv ?_|refine zy ?_);conv=>whnf)
  all_goals first
   |(exfalso;omega)
   |skip
  exact ⟨[some 0],(Y,X % Y),⟨rfl,rfl,⟨⟨rfl,rfl,rfl,.inl ⟨rfl,Q5⟩⟩,trivial⟩,⟨⟨rfl,rfl,rfl⟩,rfl,rfl,trivial⟩⟩,⟨by rw [← g1,Nat.gcd_comm Y,←Nat.gcd_rec,Nat.gcd_comm],g3,Nat.le_trans (n7 (Nat.le_of_lt (Nat.mod_lt X hY))) g3⟩,Nat.mod_lt X hY⟩
 ·have hY:Y=0:=by omega
  subst hY
  have hp:(dg 0).length=0:=rfl
  have c2:=a7l (dg X) (by omega)
  have s1:=u5 1 X (by simp) (by omega)
  have ck:=E6 true (bz (1*X))
  repeat' first|(refine zd ?_ ?_<;>intro h<;>first|exact zc h|(exfalso;omega)|conv=>whnf)|((first|refine zz ?_|refine qp c2 ?_|refine qp s1 ?_|refine qp ck ?_|refine zy ?_);conv=>whnf)
  all_goals first
   |(exfalso;omega)
   |skip
  refine a4i ?_
  rw [Int.one_mul,show X=Int.gcd x y by rw [Int.gcd,←g1,Nat.gcd_zero_right]]
  rfl
end
section
open Go.RowKit
theorem a0l {x y:Int} (h:x % 18446744073709551616=y):D9 .u64 x y:=by
 unfold D9
 simp only [IntKind.wrap,IntKind.bits,IntKind.signed]
 simp
 omega
theorem aH3 (a:Int):R5 .and .u64 a 1048575 (a % 1048576):=(af5 (a:=a) 20 (by decide)).symm
theorem aW7 (a:Int):aG0 .u64 a 20 (a / 1048576):=by
 show a / 1048576=a.fdiv 1048576
 exact (Int.fdiv_eq_ediv_of_nonneg _ (by decide)).symm
structure OfI (n:Int) (acc:List Int) (u:Nat):Prop where
 eq:acc++dg u=dg n.natAbs
theorem OfI.len {n:Int} {acc:List Int} {u:Nat} (h:OfI n acc u) (h0:-9223372036854775808≤n) (h1:n≤9223372036854775807):acc.length≤4:=by
 have h2:(dg n.natAbs).length≤4:=J8 (by simp only [pw];omega)
 have h3:=congrArg List.length h.eq
 simp at h3
 omega
theorem OfI.step {n:Int} {acc:List Int} {u:Nat} (h:OfI n acc u) (hu:0<u):OfI n (acc++[(u:Int) % 1048576]) (u / 1048576):=by
 refine ⟨?_⟩
 rw [← h.eq,a4z hu]
 simp
theorem OfI.le {n:Int} {acc:List Int} {u:Nat} (h:OfI n acc u):u≤n.natAbs:=by
 have h1:=congrArg val h.eq
 rw [I6,m6,m6] at h1
 have h2:Okd acc:=fun x hx=>p4 n.natAbs x (by rw [← h.eq];simp [hx])
 have h3:=s8 h2
 have h4:=N0 acc.length
 have h5:=Int.mul_le_mul_of_nonneg_right (a:=1) (b:=pw acc.length) (c:=(u:Int)) (by omega) (by omega)
 omega
theorem a0T {xs:List Int} {x:Int}:(toC (xs.map g9)).take xs.length++toC [[ti x]]=toC ((xs++[x]).map g9):=b2S (f:=g9)
theorem aJ4 (n:Int) (h0:-9223372036854775808≤n) (h1:n≤9223372036854775807):b9 Tryz.prog 138 [a9 .i64 n] [] (bgS (bz n)) []:=by
 by_cases hn:n<0
 ·(refine a8 a7 Tryz.func138 rfl (by decide) ?_;(conv=>whnf);repeat (refine zy ?_;conv=>whnf))
  repeat' first|(refine zd ?_ ?_<;>intro h<;>first|exact zc h|(exfalso;omega)|conv=>whnf)|((first|refine zz ?_|refine ⟨_,a0l (y:=n+18446744073709551616) (by omega),?_⟩|refine ⟨_,a0l (y:=(n.natAbs:Int)) (by omega),?_⟩|refine zy ?_);conv=>whnf)
  refine m9 a7 (σ:=List Int × Nat) (fun|(acc,u)=>([J,J,S.c (C.ptr 0 0 0),a9 .i64 (-1),a9 .u64 u,X2 1 acc,J,J,J,J,J,J,J,J,J,J,J,J,J,J,J,J,J,J,J],[aO8,x8 acc])) (fun s=>OfI n s.1 s.2) (fun s=>s.2) ([],n.natAbs) [some 0,none]
   ⟨rfl⟩ ⟨rfl,rfl,⟨⟨rfl,rfl,rfl,.inl ⟨rfl,Q5⟩⟩,⟨rfl,rfl⟩,trivial⟩,⟨⟨rfl,rfl,rfl⟩,rfl,c9 (by omega),⟨rfl,rfl,rfl⟩,trivial⟩⟩ ?_
  rintro ⟨acc,u⟩ hI
  have hI:OfI n acc u:=hI
  have hl:=hI.len h0 h1
  have hu:=hI.le
  conv=>whnf
  repeat' first|(refine zd ?_ ?_<;>intro h<;>first|exact zc h|(exfalso;omega)|conv=>whnf)|((first|refine zz ?_|refine qp toC ?_|refine qp toC ?_|refine ⟨_,aH3 _,?_⟩|refine ⟨by decide,_,aW7 _,?_⟩|refine t9 (by simp [toC]) (by simp [toC];omega) ?_|refine ⟨_,a0l (by omega),?_⟩|refine zy ?_);conv=>whnf)
  ·refine ⟨[some 0,some 2],(acc++[(u:Int) % 1048576],u / 1048576),⟨rfl,rfl,⟨⟨rfl,rfl,rfl,.inl ⟨rfl,Q5⟩⟩,b8 rfl rfl rfl a0T rfl,trivial⟩,⟨⟨rfl,rfl,rfl⟩,rfl,c9 (by simp),j9 rfl (by simp [toC]),trivial⟩⟩,hI.step (by omega),by show u / 1048576<u;omega⟩
  ·have h0u:u=0:=by omega
   subst h0u
   have e:acc=dg n.natAbs:=by have:=hI.eq;rw [Q8,List.append_nil] at this;exact this
   have sg:=u5 (-1) n.natAbs (by omega) (by rw [← e];omega)
   rw [← e,show (-1)*(n.natAbs:Int)=n by omega] at sg
   refine .inr ⟨_,_,t4 [1] sg ⟨ai6,a09 (t8 (by simp) rfl (by intro h;cases h) rfl rfl (by simp)),trivial⟩ rfl,?_⟩
   conv=>whnf
   exact j5 ⟨rfl,rfl,trivial⟩
 ·(refine a8 a7 Tryz.func138 rfl (by decide) ?_;(conv=>whnf);repeat (refine zy ?_;conv=>whnf))
  repeat' first|(refine zd ?_ ?_<;>intro h<;>first|exact zc h|(exfalso;omega)|conv=>whnf)|((first|refine zz ?_|refine ⟨_,a0l (y:=(n.natAbs:Int)) (by omega),?_⟩|refine zy ?_);conv=>whnf)
  refine m9 a7 (σ:=List Int × Nat) (fun|(acc,u)=>([J,J,S.c (C.ptr 0 0 0),a9 .i64 1,a9 .u64 u,X2 1 acc,J,J,J,J,J,J,J,J,J,J,J,J,J,J,J,J,J,J,J],[aO8,x8 acc])) (fun s=>OfI n s.1 s.2) (fun s=>s.2) ([],n.natAbs) [some 0,none]
   ⟨rfl⟩ ⟨rfl,rfl,⟨⟨rfl,rfl,rfl,.inl ⟨rfl,Q5⟩⟩,⟨rfl,rfl⟩,trivial⟩,⟨⟨rfl,rfl,rfl⟩,rfl,c9 (by omega),⟨rfl,rfl,rfl⟩,trivial⟩⟩ ?_
  rintro ⟨acc,u⟩ hI
  have hI:OfI n acc u:=hI
  have hl:=hI.len h0 h1
  have hu:=hI.le
  conv=>whnf
  repeat' first|(refine zd ?_ ?_<;>intro h<;>first|exact zc h|(exfalso;omega)|conv=>whnf)|((first|refine zz ?_|refine qp toC ?_|refine qp toC ?_|refine ⟨_,aH3 _,?_⟩|refine ⟨by decide,_,aW7 _,?_⟩|refine t9 (by simp [toC]) (by simp [toC];omega) ?_|refine ⟨_,a0l (by omega),?_⟩|refine zy ?_);conv=>whnf)
  ·refine ⟨[some 0,some 2],(acc++[(u:Int) % 1048576],u / 1048576),⟨rfl,rfl,⟨⟨rfl,rfl,rfl,.inl ⟨rfl,Q5⟩⟩,b8 rfl rfl rfl a0T rfl,trivial⟩,⟨⟨rfl,rfl,rfl⟩,rfl,c9 (by simp),j9 rfl (by simp [toC]),trivial⟩⟩,hI.step (by omega),by show u / 1048576<u;omega⟩
  ·have h0u:u=0:=by omega
   subst h0u
   have e:acc=dg n.natAbs:=by have:=hI.eq;rw [Q8,List.append_nil] at this;exact this
   have sg:=u5 (1) n.natAbs (by omega) (by rw [← e];omega)
   rw [← e,show (1)*(n.natAbs:Int)=n by omega] at sg
   refine .inr ⟨_,_,t4 [1] sg ⟨ai6,a09 (t8 (by simp) rfl (by intro h;cases h) rfl rfl (by simp)),trivial⟩ rfl,?_⟩
   conv=>whnf
   exact j5 ⟨rfl,rfl,trivial⟩
end
section
open Go.RowKit
theorem ae6 (i:Nat):pw i=((2 ^ (20*i):Nat):Int):=by
 unfold pw;rw [show (1048576:Int)=((2 ^ 20:Nat):Int) by decide,←Int.natCast_pow,←Nat.pow_mul]
theorem b8G {d:Int} {i:Nat} {b:Int} (hi:i≤3) (h:0≤d) (h2:d*pw i<18446744073709551616) (hb:b=20*i):D9 .u64 (d*2 ^ min b.toNat (IntKind.bits .u64)) (d*pw i):=by
 have e:min b.toNat (IntKind.bits .u64)=20*i:=by show min b.toNat 64=_;omega
 have hp:=N0 i
 have h3:0≤d*pw i:=Int.mul_nonneg h (by omega)
 rw [e,show (2:Int) ^ (20*i)=pw i by rw [ae6];simp]
 exact an5 h3 h2
theorem oru {u d:Int} {i:Nat} (hu:0≤u) (hu2:u<pw i) (h:0≤d) (h2:u+d*pw i<18446744073709551616):R5 .or .u64 u (d*pw i) (u+d*pw i):=by
 obtain ⟨U,rfl⟩:=Int.eq_ofNat_of_zero_le hu
 obtain ⟨D,rfl⟩:=Int.eq_ofNat_of_zero_le h
 have hp:=N0 i
 have e2:(U:Int)+D*pw i=((U+2 ^ (20*i)*D:Nat):Int):=by rw [ae6];simp [Int.mul_comm]
 have e3:(D:Int)*pw i=((2 ^ (20*i)*D:Nat):Int):=by rw [ae6];simp [Int.mul_comm]
 rw [e2] at h2
 have hU:U<2 ^ (20*i):=by rw [ae6] at hu2;omega
 have k1:(BitVec.ofInt (IntKind.bits .u64) (U:Int) ||| BitVec.ofInt (IntKind.bits .u64) ((2 ^ (20*i)*D:Nat):Int)).toNat=U+2 ^ (20*i)*D:=by
  show (BitVec.ofInt 64 _ ||| BitVec.ofInt 64 _).toNat=_
  rw [BitVec.toNat_or,BitVec.toNat_ofInt,BitVec.toNat_ofInt]
  rw [Int.emod_eq_of_lt (by omega) (by omega),Int.emod_eq_of_lt (by omega) (by omega),Int.toNat_natCast,Int.toNat_natCast,Nat.or_comm,←Nat.two_pow_add_eq_or_of_lt hU,Nat.add_comm]
 rw [e2,e3]
 unfold R5
 simp only
 rw [k1]
 exact (a7C (by omega) h2).symm
structure ax7 (n:Nat) (k:Nat) (u:Int):Prop where
 eq:u=val ((dg n).take k)
 le:k≤(dg n).length
 lt:k=4→u<9*1152921504606846976
theorem ax7.rng {n k:Nat} {u:Int} (h:ax7 n k u):0≤u∧u<pw k:=by
 have h1:=s8 ((p4 n).take k)
 have h2:=R6 ((p4 n).take k)
 rw [List.length_take,Nat.min_eq_left h.le,←h.eq] at h2
 rw [← h.eq] at h1
 exact ⟨h1,h2⟩
theorem ax7.step {n k:Nat} {u:Int} (h:ax7 n k u) (hk:k<(dg n).length) (hd:k=3→dat (dg n) k≤8):ax7 n (k+1) (u+dat (dg n) k*pw k):=by
 have hr:=h.rng
 refine ⟨by rw [o8,h.eq,Int.mul_comm],hk,fun h4=>?_⟩
 have:k=3:=by omega
 subst this
 have:=hd rfl
 simp only [pw] at hr ⊢
 omega
theorem b4j {k:Nat} (h:k≤3):pw k≤1152921504606846976:=by
 have:=a08 h
 simp only [pw] at this ⊢
 omega
theorem b3D {k:Nat} (h:k≤2):pw k≤1099511627776:=by
 have:=a08 h
 simp only [pw] at this ⊢
 omega
theorem ah3 {a a':Int} {b b':Bool} {k:IntKind} {H1:Hp} (h:a=a') (h2:b=b'):Fin 0 (.tup [a9 k a,e6 b]) H1 (.tup [a9 k a',e6 b']) []:=by
 subst h h2;exact j5 ⟨rfl,rfl,trivial⟩
theorem ax9 {x:Int} (h1:9223372036854775808≤x) (h2:x<18446744073709551616):D9 .i64 x (x - 18446744073709551616):=by
 unfold D9
 simp only [IntKind.wrap,IntKind.bits,IntKind.signed]
 simp
 omega
abbrev a6l (x:Int):Prop:=-9223372036854775808≤x∧x≤9223372036854775807
theorem b4e (x:Int) (lx:bl x≤200000):b9 Tryz.prog 210 [bgS (bz x)] [] (.tup [a9 .i64 (if a6l x then x else 0),e6 (decide (a6l x))]) []:=by
 have r1:=a3q x (by omega)
 have l1:((bz x).dl.map g9).length=(dg x.natAbs).length:=by simp [bz]
 have l2:(bz x).dl=dg x.natAbs:=rfl
 have hlast:∀k:Nat,k<(dg x.natAbs).length→pw k≤x.natAbs:=fun k hk=>Int.le_trans (a08 (by omega)) (ai8 (by
  rcases Nat.eq_zero_or_pos x.natAbs with h|h
  ·rw [h,Q8] at hk;simp at hk
  ·exact h))
 (refine a8 a7 Tryz.func210 rfl (by decide) ?_;(conv=>whnf);repeat (refine zy ?_;conv=>whnf))
 repeat' first|(refine zd ?_ ?_<;>intro h<;>first|exact zc h|(exfalso;omega)|conv=>whnf)|((first|refine zz ?_|refine qp r1 ?_|refine zy ?_);conv=>whnf)
 ·have hl:4<(dg x.natAbs).length:=by omega
  have:=hlast 4 hl
  simp only [pw] at this
  have hn:¬a6l x:=by unfold a6l;omega
  exact ah3 (by rw [if_neg hn]) (by simp [hn])
 ·refine m9 a7 (σ:=Nat × Int) (fun|(k,u)=>([J,S.c (C.ptr 0 0 0),J,J,a9 .u64 u,J,J,J,J,J,J,J,J,J,J,J,J,g6 (dg x.natAbs),a9 .i64 (dg x.natAbs).length,a9 .i64 k,J,J,J,J,J,J,J,J,J,J,J,J,J,J,J,J,J,J,J,J,J,J,J,J,J,J,J,J,J,J,J,J,J,J,J,J,J,J,J],[bgB (bz x)])) (fun s=>ax7 x.natAbs s.1 s.2) (fun s=>(dg x.natAbs).length - s.1) (0,0) [some 0]
   ⟨by simp [val],by omega,by omega⟩ ⟨rfl,rfl,⟨⟨rfl,rfl,rfl,.inl ⟨rfl,a2I _⟩⟩,trivial⟩,⟨⟨rfl,rfl,rfl⟩,rfl,j0 rfl,c9 (by omega),rfl,trivial⟩⟩ ?_
  rintro ⟨k,u⟩ hI
  have hI:ax7 x.natAbs k u:=hI
  have hr:=hI.rng
  have hle:=hI.le
  have hd:=(p4 x.natAbs).dat k
  have hp:=N0 k
  have hp3:k≤3→pw k≤1152921504606846976:=b4j
  have hdm:0≤dat (dg x.natAbs) k*pw k:=Int.mul_nonneg hd.1 (by omega)
  have l3:((dg x.natAbs).map g9).length=(dg x.natAbs).length:=by simp
  have hp2:k≤2→pw k≤1099511627776:=b3D
  have hA:k≤3→(k=3→dat (dg x.natAbs) k≤8)→u+dat (dg x.natAbs) k*pw k<18446744073709551616:=fun h3 h8=>by
   by_cases hk:k=3
   ·have:=Int.mul_le_mul_of_nonneg_right (c:=pw k) (h8 hk) (by omega)
    have:=hp3 h3
    omega
   ·have:=Int.mul_le_mul_of_nonneg_right (c:=pw k) (show dat (dg x.natAbs) k≤1048575 by omega) (by omega)
    have:=hp2 (by omega)
    omega
  have hE:k=(dg x.natAbs).length→u=x.natAbs:=fun h=>by
   have:=hI.eq
   rw [h,lg4 (Nat.le_refl _),m6] at this
   exact this
  have hs:=A6 x
  have hsg:(bz x).sg=x.sign:=rfl
  conv=>whnf
  repeat' first|(refine zd ?_ ?_<;>intro h<;>first|exact zc h|(exfalso;omega)|conv=>whnf)|((first|refine zz ?_|refine d7 (s6 (by omega)) ?_|refine ⟨_,an5 (by omega) (by omega),?_⟩|refine ⟨by omega,_,b8G (i:=k) (by omega) (by omega) (by omega) (by omega),?_⟩|refine ⟨_,oru (by omega) (by omega) (by omega) (by omega),?_⟩|refine ⟨_,a0l (y:=18446744073709551616 - u) (by omega),?_⟩|refine ⟨_,ax9 (by omega) (by omega),?_⟩|refine zy ?_);conv=>whnf)
  ·have hk:k=3:=by omega
   have h8:9≤dat (dg x.natAbs) k:=by omega
   have h1:=o8 (dg x.natAbs) k
   have h4:val (dg x.natAbs)=val ((dg x.natAbs).take (k+1)):=by rw [lg4 (by omega)]
   rw [m6] at h4
   have h5:=s8 ((p4 x.natAbs).take k)
   have h6:=Int.mul_le_mul_of_nonneg_left (a:=9) (b:=dat (dg x.natAbs) k) (c:=pw k) h8 (by omega)
   have h7:pw k=1152921504606846976:=by rw [hk];rfl
   have hn:¬a6l x:=by unfold a6l;omega
   exact ah3 (by rw [if_neg hn]) (by simp [hn])
  ·have hst:=hI.step (by omega) (by omega)
   exact ⟨[some 0],(k+1,u+dat (dg x.natAbs) k*pw k),⟨rfl,rfl,⟨⟨rfl,rfl,rfl,.inl ⟨rfl,a2I _⟩⟩,trivial⟩,⟨⟨rfl,rfl,rfl⟩,rfl,rfl,rfl,c9 (by omega),trivial⟩⟩,hst,by show (dg x.natAbs).length - (k+1)<(dg x.natAbs).length - k;omega⟩
  ·have hst:=hI.step (by omega) (by omega)
   exact ⟨[some 0],(k+1,u+dat (dg x.natAbs) k*pw k),⟨rfl,rfl,⟨⟨rfl,rfl,rfl,.inl ⟨rfl,a2I _⟩⟩,trivial⟩,⟨⟨rfl,rfl,rfl⟩,rfl,rfl,rfl,c9 (by omega),trivial⟩⟩,hst,by show (dg x.natAbs).length - (k+1)<(dg x.natAbs).length - k;omega⟩
  all_goals
   have hu:=hE (by omega)
   first
    |(have hn:a6l x:=by unfold a6l;omega
      exact ah3 (by rw [if_pos hn];omega) (by simp [hn]))
    |(have hn:¬a6l x:=by unfold a6l;omega
      exact ah3 (by rw [if_neg hn]) (by simp [hn]))
end
section
open Go.RowKit
abbrev frC (f:Fr):List C:=[.t (ti f.p.sg),.t (I8 f.p.dl),.t (ti f.q.sg),.t (I8 f.q.dl)]
abbrev frS (f:Fr):S:=.agg (frC f)
theorem b57 (x:Int) (lx:bl x≤200000):b9 Tryz.prog 137 [bgS (bz x)] [] (e6 (x == 1)) []:=by
 have i:=b4e x lx
 by_cases h:a6l x
 ·rw [if_pos h,show decide (a6l x)=true by simp [h]] at i
  (refine a8 a7 Tryz.func137 rfl (by decide) ?_;(conv=>whnf);repeat (refine zy ?_;conv=>whnf))
  repeat' first|(refine zd ?_ ?_<;>intro h<;>first|exact zc h|(exfalso;omega)|conv=>whnf)|((first|refine zz ?_|refine qp i ?_|refine zy ?_);conv=>whnf)
  all_goals (refine c6 ?_;simp;omega)
 ·rw [if_neg h,show decide (a6l x)=false by simp [h]] at i
  have hx:x≠1:=by rintro rfl;exact h (by decide)
  (refine a8 a7 Tryz.func137 rfl (by decide) ?_;(conv=>whnf);repeat (refine zy ?_;conv=>whnf))
  repeat' first|(refine zd ?_ ?_<;>intro h<;>first|exact zc h|(exfalso;omega)|conv=>whnf)|((first|refine zz ?_|refine qp i ?_|refine zy ?_);conv=>whnf)
  all_goals (refine c6 ?_;simp;omega)
theorem a5G (f:Fr) (lp:f.p.dl.length≤200000) (lq:f.q.dl.length≤200000):b9 Tryz.prog 65 [frS f] [] (e6 (t6 f)) []:=by
 obtain ⟨p,q⟩:=f
 simp only at lp lq
 have r1:=a1P p (by omega)
 have r2:=a1P q (by omega)
 cases hp:E9 p with
 |false=>
  rw [hp] at r1
  (refine a8 a7 Tryz.func65 rfl (by decide) ?_;(conv=>whnf);repeat (refine zy ?_;conv=>whnf))
  repeat' first|(refine zd ?_ ?_<;>intro h<;>first|exact zc h|(exfalso;omega)|conv=>whnf)|((first|refine zz ?_|refine qp r1 ?_|refine qp r2 ?_|refine zy ?_);conv=>whnf)
  all_goals (first|(exfalso;simp_all;done)|(refine c6 ?_;unfold t6;simp [hp]))
 |true=>
  rw [hp] at r1
  cases hq:E9 q with
  |false=>
   rw [hq] at r2
   (refine a8 a7 Tryz.func65 rfl (by decide) ?_;(conv=>whnf);repeat (refine zy ?_;conv=>whnf))
   repeat' first|(refine zd ?_ ?_<;>intro h<;>first|exact zc h|(exfalso;omega)|conv=>whnf)|((first|refine zz ?_|refine qp r1 ?_|refine qp r2 ?_|refine zy ?_);conv=>whnf)
   all_goals (first|(exfalso;simp_all;done)|(refine c6 ?_;unfold t6;simp [hq]))
  |true=>
   rw [hq] at r2
   obtain ⟨x,rfl⟩:=a7P hp
   obtain ⟨y,rfl⟩:=a7P hq
   have g:=ay1 x y lp lq
   have o:=b57 (Int.gcd x y) (a8t x y lp lq)
   (refine a8 a7 Tryz.func65 rfl (by decide) ?_;(conv=>whnf);repeat (refine zy ?_;conv=>whnf))
   repeat' first|(refine zd ?_ ?_<;>intro h<;>first|exact zc h|(exfalso;omega)|conv=>whnf)|((first|refine zz ?_|refine qp r1 ?_|refine qp r2 ?_|refine qp g ?_|refine qp o ?_|refine zy ?_);conv=>whnf)
   all_goals (refine c6 ?_;unfold t6;simp only [U0,a2z,Bool.true_and];symm;simp_all<;>omega)
theorem a0c (x y:Int) (lx:bl x≤200000) (ly:bl y≤200000):b9 Tryz.prog 140 [bgS (bz x),bgS (bz y)] [] (bgS (bz (x*y))) []:=by
 have mu:=b4z x y lx ly
 (refine a8 a7 Tryz.func140 rfl (by decide) ?_;(conv=>whnf);repeat (refine zy ?_;conv=>whnf))
 repeat' first|(refine zd ?_ ?_<;>intro h<;>first|exact zc h|(exfalso;omega)|conv=>whnf)|((first|refine zz ?_|refine qp mu ?_|refine zy ?_);conv=>whnf)
 exact j5 ⟨rfl,rfl,trivial⟩
theorem R7 {f f':Fr} {e:Int} {H1:Hp} (h:f=f'):Fin 0 (.tup [frS f,a9 .i64 e]) H1 (.tup [frS f',a9 .i64 e]) []:=by
 subst h;exact j5 ⟨⟨rfl,rfl,rfl,rfl,trivial⟩,rfl,trivial⟩
theorem ag7 (p q:Int) (hq:q≠0) (lp:bl p≤200000) (lq:bl q≤200000):b9 Tryz.prog 143 [bgS (bz p),bgS (bz q)] [] (.tup [frS (fz (Rat.divInt p q)),a9 .i64 0]) []:=by
 have r1:=a3q p (by omega)
 have r2:=a3q q (by omega)
 have hs:=A6 q
 have hsg:(bz q).sg=q.sign:=rfl
 by_cases h:q<0
 ·have n1:=a5I p (by omega)
  have n2:=a5I q (by omega)
  have lg:=a8t (-p) (-q) (by rw [a0S];exact lp) (by rw [a0S];exact lq)
  have hg:0<(Int.gcd (-p) (-q):Int):=by have:=Int.gcd_pos_of_ne_zero_right (-p) (b:=-q) (by omega);omega
  have g:=ay1 (-p) (-q) (by rw [a0S];exact lp) (by rw [a0S];exact lq)
  have d1:=ag8 (-p) _ hg (by rw [a0S];exact lp) lg
  have d2:=ag8 (-q) _ hg (by rw [a0S];exact lq) lg
  have e:=a5N (p:=-p) (q:=-q) (by omega) rfl
  rw [Rat.neg_divInt_neg] at e
  (refine a8 a7 Tryz.func143 rfl (by decide) ?_;(conv=>whnf);repeat (refine zy ?_;conv=>whnf))
  repeat' first|(refine zd ?_ ?_<;>intro h<;>first|exact zc h|(exfalso;omega)|conv=>whnf)|((first|refine zz ?_|refine qp r1 ?_|refine qp r2 ?_|refine qp n1 ?_|refine qp n2 ?_|refine qp g ?_|refine qp d1 ?_|refine qp d2 ?_|refine zy ?_);conv=>whnf)
  all_goals first
   |(exfalso;simp_all;done)
   |(exfalso;omega)
   |exact R7 e.symm
 ·have lg:=a8t p q lp lq
  have hg:0<(Int.gcd p q:Int):=by have:=Int.gcd_pos_of_ne_zero_right p (b:=q) (by omega);omega
  have g:=ay1 p q lp lq
  have d1:=ag8 p _ hg lp lg
  have d2:=ag8 q _ hg lq lg
  have e:=a5N (p:=p) (q:=q) (by omega) rfl
  (refine a8 a7 Tryz.func143 rfl (by decide) ?_;(conv=>whnf);repeat (refine zy ?_;conv=>whnf))
  repeat' first|(refine zd ?_ ?_<;>intro h<;>first|exact zc h|(exfalso;omega)|conv=>whnf)|((first|refine zz ?_|refine qp r1 ?_|refine qp r2 ?_|refine qp g ?_|refine qp d1 ?_|refine qp d2 ?_|refine zy ?_);conv=>whnf)
  all_goals first
   |(exfalso;omega)
   |(exfalso;simp_all;done)
   |exact R7 e.symm
theorem F4 (x:Rat) (lx:rl x≤200000):b9 Tryz.prog 65 [frS (fz x)] [] (e6 true) []:=by
 have h:=a5G (fz x) (Nat.le_trans (B3 x) lx) (Nat.le_trans (B9 x) lx)
 rw [a80] at h
 exact h
theorem a2M (x y:Rat) (lx:rl x≤60000) (ly:rl y≤60000):b9 Tryz.prog 73 [frS (fz x),frS (fz y)] [] (.tup [frS (fz (x+y)),a9 .i64 0]) []:=by
 have r1:=F4 x (by omega)
 have r2:=F4 y (by omega)
 have x1:=B3 x
 have x2:=B9 x
 have y1:=B3 y
 have y2:=B9 y
 have l1:=B7 x.num y.den
 have l2:=B7 y.num x.den
 have l3:=B7 x.den y.den
 have l4:=a6d (x.num*y.den) (y.num*x.den)
 have t1:=a0c x.num y.den (by omega) (by omega)
 have t2:=a0c y.num x.den (by omega) (by omega)
 have t3:=a0c x.den y.den (by omega) (by omega)
 have a:=b3K (x.num*y.den) (y.num*x.den) (by omega) (by omega)
 have n:=ag7 (x.num*y.den+y.num*x.den) (x.den*y.den) (a7v x y) (by omega) (by omega)
 rw [← a7i] at n
 (refine a8 a7 Tryz.func73 rfl (by decide) ?_;(conv=>whnf);repeat (refine zy ?_;conv=>whnf))
 repeat' first|(refine zd ?_ ?_<;>intro h<;>first|exact zc h|(exfalso;omega)|conv=>whnf)|((first|refine zz ?_|refine qp r1 ?_|refine qp r2 ?_|refine qp t1 ?_|refine qp t2 ?_|refine qp t3 ?_|refine qp a ?_|refine qp n ?_|refine qp 13 ?_|refine bl0 [13] ?_|refine zy ?_);conv=>whnf)
 all_goals first
  |(exfalso;simp_all;done)
  |exact R7 rfl
theorem aU2 (x y:Rat) (lx:rl x≤60000) (ly:rl y≤60000):b9 Tryz.prog 72 [frS (fz x),frS (fz y)] [] (.tup [frS (fz (x - y)),a9 .i64 0]) []:=by
 have r1:=F4 x (by omega)
 have r2:=F4 y (by omega)
 have y1:=B3 y
 have n:=a5I y.num (by omega)
 have a:=a2M x (-y) lx (by rw [M9];exact ly)
 rw [← Rat.sub_eq_add_neg] at a
 have e:fz (-y)=⟨bz (-y.num),bz y.den⟩:=rfl
 rw [e] at a
 (refine a8 a7 Tryz.func72 rfl (by decide) ?_;(conv=>whnf);repeat (refine zy ?_;conv=>whnf))
 repeat' first|(refine zd ?_ ?_<;>intro h<;>first|exact zc h|(exfalso;omega)|conv=>whnf)|((first|refine zz ?_|refine qp r1 ?_|refine qp r2 ?_|refine qp n ?_|refine qp a ?_|refine zy ?_);conv=>whnf)
 all_goals first
  |(exfalso;simp_all;done)
  |exact R7 rfl
theorem ai5 (x y:Rat) (lx:rl x≤60000) (ly:rl y≤60000):b9 Tryz.prog 179 [frS (fz x),frS (fz y)] [] (.tup [frS (fz (x*y)),a9 .i64 0]) []:=by
 have r1:=F4 x (by omega)
 have r2:=F4 y (by omega)
 have x1:=B3 x
 have x2:=B9 x
 have y1:=B3 y
 have y2:=B9 y
 have l1:=B7 x.num y.num
 have l3:=B7 x.den y.den
 have t1:=a0c x.num y.num (by omega) (by omega)
 have t3:=a0c x.den y.den (by omega) (by omega)
 have n:=ag7 (x.num*y.num) (x.den*y.den) (a7v x y) (by omega) (by omega)
 rw [← ai2] at n
 (refine a8 a7 Tryz.func179 rfl (by decide) ?_;(conv=>whnf);repeat (refine zy ?_;conv=>whnf))
 repeat' first|(refine zd ?_ ?_<;>intro h<;>first|exact zc h|(exfalso;omega)|conv=>whnf)|((first|refine zz ?_|refine qp r1 ?_|refine qp r2 ?_|refine qp t1 ?_|refine qp t3 ?_|refine qp n ?_|refine zy ?_);conv=>whnf)
 all_goals first
  |(exfalso;simp_all;done)
  |exact R7 rfl
theorem av5 (x y:Rat):J2 (x.num*y.den) (y.num*x.den)=a01 x y:=by
 unfold J2 a01
 simp only [← Rat.lt_iff]
theorem R4 (x y:Rat) (lx:rl x≤60000) (ly:rl y≤60000):b9 Tryz.prog 68 [frS (fz x),frS (fz y)] [] (a9 .i64 (a01 x y)) []:=by
 have r1:=F4 x (by omega)
 have r2:=F4 y (by omega)
 have x1:=B3 x
 have x2:=B9 x
 have y1:=B3 y
 have y2:=B9 y
 have l1:=B7 x.num y.den
 have l2:=B7 y.num x.den
 have t1:=a0c x.num y.den (by omega) (by omega)
 have t2:=a0c y.num x.den (by omega) (by omega)
 have c:=ay7 (x.num*y.den) (y.num*x.den) (by omega) (by omega)
 rw [av5] at c
 (refine a8 a7 Tryz.func68 rfl (by decide) ?_;(conv=>whnf);repeat (refine zy ?_;conv=>whnf))
 repeat' first|(refine zd ?_ ?_<;>intro h<;>first|exact zc h|(exfalso;omega)|conv=>whnf)|((first|refine zz ?_|refine qp r1 ?_|refine qp r2 ?_|refine qp t1 ?_|refine qp t2 ?_|refine qp c ?_|refine zy ?_);conv=>whnf)
 all_goals first
  |(exfalso;simp_all;done)
  |exact j8 rfl
theorem K9 (x:Rat) (lx:rl x≤60000):b9 Tryz.prog 69 [frS (fz x)] [] (a9 .i64 (sgR x)) []:=by
 have r1:=F4 x (by omega)
 (refine a8 a7 Tryz.func69 rfl (by decide) ?_;(conv=>whnf);repeat (refine zy ?_;conv=>whnf))
 repeat' first|(refine zd ?_ ?_<;>intro h<;>first|exact zc h|(exfalso;omega)|conv=>whnf)|((first|refine zz ?_|refine qp r1 ?_|refine zy ?_);conv=>whnf)
 all_goals first
  |(exfalso;simp_all;done)
  |exact j8 (a4Q x)
theorem b87 (p q:Int) (hq:q≠0) (p0:-9223372036854775808≤p) (p1:p≤9223372036854775807) (q0:-9223372036854775808≤q) (q1:q≤9223372036854775807):
 b9 Tryz.prog 222 [a9 .i64 p,a9 .i64 q] [] (.tup [frS (fz (Rat.divInt p q)),a9 .i64 0]) []:=by
 have l1:=O7 p0 p1
 have l2:=O7 q0 q1
 have o1:=aJ4 p p0 p1
 have o2:=aJ4 q q0 q1
 have n:=ag7 p q hq (by omega) (by omega)
 (refine a8 a7 Tryz.func222 rfl (by decide) ?_;(conv=>whnf);repeat (refine zy ?_;conv=>whnf))
 repeat' first|(refine zd ?_ ?_<;>intro h<;>first|exact zc h|(exfalso;omega)|conv=>whnf)|((first|refine zz ?_|refine qp o1 ?_|refine qp o2 ?_|refine qp n ?_|refine zy ?_);conv=>whnf)
 all_goals exact R7 rfl
theorem b3y (n:Int):fz (n:Rat)=⟨bz n,bz 1⟩:=by unfold fz;rw [Rat.num_intCast,Rat.den_intCast];rfl
theorem E4 (n:Int) (p0:-9223372036854775808≤n) (p1:n≤9223372036854775807):b9 Tryz.prog 66 [a9 .i64 n] [] (frS (fz (n:Rat))) []:=by
 have o1:=aJ4 n p0 p1
 have o2:=aJ4 1 (by decide) (by decide)
 rw [b3y]
 (refine a8 a7 Tryz.func66 rfl (by decide) ?_;(conv=>whnf);repeat (refine zy ?_;conv=>whnf))
 repeat' first|(refine zd ?_ ?_<;>intro h<;>first|exact zc h|(exfalso;omega)|conv=>whnf)|((first|refine zz ?_|refine qp o1 ?_|refine qp o2 ?_|refine zy ?_);conv=>whnf)
 all_goals exact j5 ⟨rfl,rfl,rfl,rfl,trivial⟩
theorem a7Y (x:Int) (lx:bl x≤200000):b9 Tryz.prog 290 [bgS (bz x)] [] (bgS (bz x)) []:=by
 have n1:=a5I x (by omega)
 have n2:=a5I (-x) (by rw [a0S];omega)
 rw [Int.neg_neg] at n2
 (refine a8 a7 Tryz.func290 rfl (by decide) ?_;(conv=>whnf);repeat (refine zy ?_;conv=>whnf))
 repeat' first|(refine zd ?_ ?_<;>intro h<;>first|exact zc h|(exfalso;omega)|conv=>whnf)|((first|refine zz ?_|refine qp n1 ?_|refine qp n2 ?_|refine zy ?_);conv=>whnf)
 all_goals exact j5 ⟨rfl,rfl,trivial⟩
end
section
def M6 (c:E7):Bool:=
 decide (0≤c.since) && decide (c.since≤c.till) && decide (c.till≤100000) && idx c.scale 30 && btw c.grams 0 1099511627776 && btw c.permille 0 1000 && btw c.drift 0 10000000
def F3 (c:E7) (day:Int):Bool:=M6 c && btw day c.since c.till
def ag1 (cs:List E7) (i:Nat):Int:=((cs[i]?).map (·.since)).getD 0
def later (cs:List E7) (o:Option Nat) (c:E7):Bool:=match o with
 |none=>true
 |some b=>decide (ag1 cs b≤c.since)
def x6 (cs:List E7) (scale day:Int):Nat→Option Nat
 |0=>none
 |k+1=>match cs[k]? with
  |none=>x6 cs scale day k
  |some c=>if decide (c.scale=scale) && F3 c day && later cs (x6 cs scale day k) c then some k else x6 cs scale day k
theorem K6 {cs:List E7} {scale day:Int}:∀{k b:Nat},x6 cs scale day k=some b→b<k∧∃c,cs[b]? =some c∧c.scale=scale∧F3 c day=true
 |0,b,h=>by simp [x6] at h
 |k+1,b,h=>by
  unfold x6 at h
  split at h
  ·obtain ⟨h1,h2⟩:=K6 h;exact ⟨by omega,h2⟩
  ·rename_i c hc
   split at h
   ·rename_i hcc
    injection h with h
    subst h
    simp only [Bool.and_eq_true,decide_eq_true_eq] at hcc
    exact ⟨by omega,c,hc,hcc.1.1,hcc.1.2⟩
   ·obtain ⟨h1,h2⟩:=K6 h;exact ⟨by omega,h2⟩
def a0G (rs:List x9) (scale day:Int):Bool:=rs.any fun r=>decide (r.scale=scale) && decide (r.since≤day)
def a0U (c:E7) (reading day:Int):Rat:=Rat.divInt (c.permille*reading) 1000+((c.grams+c.drift*(day - c.since):Int):Rat)
def aj5 (x y:Rat):Rat:=if x<y then y else x
def b0w:E7:=⟨0,0,0,0,0,0⟩
def a1m (cs:List E7) (i:Nat):E7:=(cs[i]?).getD b0w
def K5 (cs:List E7) (rs:List x9) (scale reading day:Int):Option (Rat × Rat):=
 match x6 cs scale day cs.length with
 |none=>none
 |some i=>if a0G rs scale day then none else if btw reading 0 1099511627776 then
   some (aj5 ((reading:Rat) - a0U (a1m cs i) reading day) ((0:Int):Rat),(reading:Rat)+a0U (a1m cs i) reading day) else none
def b7e (l:List Rat):Rat:=l.foldl (·+·) ((0:Int):Rat)
def hz (H:List (List Rat)):List (List Fr):=H.map (·.map fz)
theorem W4 {l:List Fr} (h:l.all t6=true):∃L:List Rat,l=L.map fz:=by
 induction l with
 |nil=>exact ⟨[],rfl⟩
 |cons f r ih=>
  simp only [List.all_cons,Bool.and_eq_true] at h
  obtain ⟨L,rfl⟩:=ih h.2
  exact ⟨fv f::L,by simp [← b8s h.1]⟩
structure ba7 (e:Ev) (H:List (List Rat)):Prop where
 len:H.length=e.moves.length
 wid:∀l ∈ H,(l.length:Int)=e.mats
def hAt (H:List (List Rat)) (k m:Nat):Rat:=(H.getD k []).getD m 0
def aE1 (x:p7) (v:Nat→Rat) (f:Nat→Nat→Rat):Nat→Nat→Rat:=fun p m=>if x.src=(p:Int) then f p m - v m else if x.dst=(p:Int) then f p m+v m else f p m
def stk (e:Ev) (H:List (List Rat)):Nat→Nat→Nat→Rat
 |0=>fun _ _=>((0:Int):Rat)
 |k+1=>match e.moves[k]? with
  |none=>stk e H k
  |some x=>aE1 x (hAt H k) (stk e H k)
def b0f (f:Nat→Rat) (all:Bool):List Rat→Nat→Bool→Int
 |[],_,rest=>if rest && all then 7 else 0
 |v::r,m,rest=>if f m<v then 4 else b0f f all r (m+1) (rest || decide (v<f m))
def b46 (e:Ev) (f:Nat→Nat→Rat) (x:p7) (l:List Rat):Int:=if F2 e x.src=0 then 0 else b0f (f x.src.toNat) x.all l 0 false
def inB (iv:Option (Rat × Rat)) (mass:Rat):Bool:=match iv with
 |none=>true
 |some (lo,hi)=>decide (lo≤mass) && decide (mass≤hi)
def aW0 (e:Ev) (x:p7) (mass:Rat):Bool:=if x.scale=-1 then true else inB (K5 e.certs e.recalls x.scale x.reading x.day) mass
def b1s (p:O0) (l:List Rat) (mass:Rat):Bool:=
 decide ((p.least:Rat)*mass≤((1000:Int):Rat)*l.getD p.mat.toNat 0) && decide (((1000:Int):Rat)*l.getD p.mat.toNat 0≤(p.most:Rat)*mass)
def b72 (ps:List O0) (i:Nat) (l:List Rat) (mass:Rat):Bool:=ps.all fun p=>decide (p.move≠(i:Int)) || b1s p l mass
theorem aJ7:rl ((0:Int):Rat)=1:=by rw [R9];rfl
end
section
open Go.RowKit
theorem a7p {x y:Rat}:a01 x y<0↔x<y:=by unfold a01;split<;>(try split)<;>simp_all
theorem aX2 (x y:Rat):-1≤a01 x y∧a01 x y≤1:=by unfold a01;split<;>(try split)<;>omega
theorem b4G (x y:Rat) (lx:rl x≤60000) (ly:rl y≤60000):b9 Tryz.prog 193 [frS (fz x),frS (fz y)] [] (.tup [frS (fz (aj5 x y)),a9 .i64 0]) []:=by
 have e:b9 Tryz.prog 252 [frS (fz x),frS (fz y),a9 .i64 1] [] (.tup [frS (fz (aj5 x y)),a9 .i64 0]) []:=by
  have r1:=F4 x (by omega)
  have r2:=F4 y (by omega)
  have x1:=B3 x
  have x2:=B9 x
  have y1:=B3 y
  have y2:=B9 y
  have c:=R4 x y lx ly
  have hr:=aX2 x y
  have s1:=a7Y x.num (by omega)
  have s2:=a7Y x.den (by omega)
  have s3:=a7Y y.num (by omega)
  have s4:=a7Y y.den (by omega)
  (refine a8 a7 Tryz.func252 rfl (by decide) ?_;(conv=>whnf);repeat (refine zy ?_;conv=>whnf))
  repeat' first|(refine zd ?_ ?_<;>intro h<;>first|exact zc h|(exfalso;omega)|conv=>whnf)|((first|refine zz ?_|refine qp r1 ?_|refine qp r2 ?_|refine qp c ?_|refine qp s1 ?_|refine qp s2 ?_|refine qp s3 ?_|refine qp s4 ?_|refine zy ?_);conv=>whnf)
  ·have h:a01 x y<0:=by omega
   refine R7 (f:=fz y) ?_
   unfold aj5;rw [if_pos (a7p.1 h)]
  ·have h:¬a01 x y<0:=by omega
   refine R7 (f:=fz x) ?_
   unfold aj5;rw [if_neg (fun h'=>h (a7p.2 h'))]
 (refine a8 a7 Tryz.func193 rfl (by decide) ?_;(conv=>whnf);repeat (refine zy ?_;conv=>whnf))
 repeat' first|(refine zd ?_ ?_<;>intro h<;>first|exact zc h|(exfalso;omega)|conv=>whnf)|((first|refine zz ?_|refine qp e ?_|refine zy ?_);conv=>whnf)
 all_goals exact R7 rfl
theorem a3d (n m:Int):b9 Tryz.prog 251 [a9 .i64 n,a9 .i64 m] [] (e6 (btw n 0 m)) []:=by
 (refine a8 a7 Tryz.func251 rfl (by decide) ?_;(conv=>whnf);repeat (refine zy ?_;conv=>whnf))
 repeat' first|(refine zd ?_ ?_<;>intro h<;>first|exact zc h|(exfalso;omega)|conv=>whnf)|((first|refine zz ?_|refine zy ?_);conv=>whnf)
 all_goals (refine c6 ?_;unfold btw;simp;omega)
abbrev ar4 (c:E7):S:=.agg (c.row.map .t)
theorem a9N (n:Int):btw n 0 29=idx n 30:=aH6 n 30
theorem ao3 (c:E7):b9 Tryz.prog 288 [ar4 c] [] (e6 (M6 c)) []:=by
 have w1:=a3d c.scale 29
 have w2:=a3d c.grams 1099511627776
 have w3:=a3d c.permille 1000
 have w4:=a3d c.drift 10000000
 rw [a9N] at w1
 unfold M6
 cases h1:idx c.scale 30<;>cases h2:btw c.grams 0 1099511627776<;>cases h3:btw c.permille 0 1000<;>cases h4:btw c.drift 0 10000000<;>rw [h1] at w1<;>rw [h2] at w2<;>rw [h3] at w3<;>rw [h4] at w4<;>
 ·(refine a8 a7 Tryz.func288 rfl (by decide) ?_;(conv=>whnf);repeat (refine zy ?_;conv=>whnf))
  repeat' first|(refine zd ?_ ?_<;>intro h<;>first|exact zc h|(exfalso;omega)|conv=>whnf)|((first|refine zz ?_|refine qp w1 ?_|refine qp w2 ?_|refine qp w3 ?_|refine qp w4 ?_|refine zy ?_);conv=>whnf)
  all_goals (refine c6 ?_;simp;try omega)
theorem am1 (c:E7) (day:Int):b9 Tryz.prog 248 [ar4 c,a9 .i64 day] [] (e6 (F3 c day)) []:=by
 have w1:=ao3 c
 unfold F3
 cases h1:M6 c<;>rw [h1] at w1<;>
 ·(refine a8 a7 Tryz.func248 rfl (by decide) ?_;(conv=>whnf);repeat (refine zy ?_;conv=>whnf))
  repeat' first|(refine zd ?_ ?_<;>intro h<;>first|exact zc h|(exfalso;omega)|conv=>whnf)|((first|refine zz ?_|refine qp w1 ?_|refine zy ?_);conv=>whnf)
  all_goals (refine c6 ?_;simp [btw];try omega)
theorem ap2 {cs:List E7} {k:Nat} {c:E7} (h:cs[k]? =some c):ag1 cs k=c.since:=by unfold ag1;rw [h];rfl
abbrev b2H (n:Int):T:=.ptr [ti n]
theorem aJ3 {a b:Bool} {ρ:List (Option Nat)} {H:Hp} (h:a=b):a3U ρ H (e6 a) (e6 b):=by subst h;exact rfl
def a5W (o:Option Nat):Nat:=o.getD 0
theorem b4g (cs:List E7) (scale day:Int) (hl:cs.length≤1000000):
 b9 Tryz.prog 190 [.c (.t (W7 cs)),a9 .i64 scale,a9 .i64 day] [] (.tup [a9 .i64 (a5W (x6 cs scale day cs.length)),e6 (x6 cs scale day cs.length).isSome]) []:=by
 have l1:(cs.map E7.row).length=cs.length:=by simp
 (refine a8 a7 Tryz.func190 rfl (by decide) ?_;(conv=>whnf);repeat (refine zy ?_;conv=>whnf))
 repeat' first|(refine zd ?_ ?_<;>intro h<;>first|exact zc h|(exfalso;omega)|conv=>whnf)|((first|refine zz ?_|refine zy ?_);conv=>whnf)
 refine f6 a7 (fun k=>([S.c (C.t (W7 cs)),a9 .i64 scale,a9 .i64 day,J,J,J,J,J,a9 .i64 (a5W (x6 cs scale day k)),e6 (x6 cs scale day k).isSome,J,J,S.c (C.t (W7 cs)),a9 .i64 cs.length,a9 .i64 k,J,J,J,J,J,J,J,J,J,J,J,J,J,J,J,J,J,J,J,J,J,J,J,J,J,J,J,J,J,J,J],[])) cs.length (fun _=>True) [] trivial
  ⟨rfl,rfl,trivial,⟨j0 rfl,rfl,rfl,rfl,rfl,j0 rfl,c9 (by simp),rfl,trivial⟩⟩ ?_
 intro k hk _
 by_cases hlt:k<cs.length
 ·obtain ⟨c,hc⟩:∃c,cs[k]? =some c:=⟨_,lg0 hlt⟩
  have cv:=am1 c day
  have hst:x6 cs scale day (k+1)=if decide (c.scale=scale) && F3 c day && later cs (x6 cs scale day k) c then some k else x6 cs scale day k:=by
   conv=>lhs;unfold x6
   rw [hc]
  cases hcv:F3 c day with
  |false=>
   rw [hcv] at cv hst
   simp only [Bool.and_false,Bool.false_and,Bool.false_eq_true,if_false] at hst
   rw [← hst]
   conv=>whnf
   repeat' first|(refine zd ?_ ?_<;>intro h<;>first|exact zc h|(exfalso;omega)|conv=>whnf)|((first|refine zz ?_|refine qp cv ?_|refine d7 hc ?_|refine zy ?_);conv=>whnf)
   all_goals first
    |(exfalso;omega)
    |exact ⟨hlt,trivial,[],rfl,rfl,trivial,⟨rfl,rfl,rfl,rfl,rfl,rfl,rfl,rfl,trivial⟩⟩
  |true=>
   rw [hcv] at cv hst
   cases hf:x6 cs scale day k with
   |none=>
    rw [hf] at hst
    conv=>whnf
    repeat' first|(refine zd ?_ ?_<;>intro h<;>first|exact zc h|(exfalso;omega)|conv=>whnf)|((first|refine zz ?_|refine qp cv ?_|refine d7 hc ?_|refine zy ?_);conv=>whnf)
    ·exact ⟨hlt,trivial,[],rfl,rfl,trivial,⟨rfl,rfl,rfl,c9 (by rw [hst];simp [*,later,a5W]),aJ3 (by rw [hst];simp [*,later]),rfl,rfl,rfl,trivial⟩⟩
    ·exact ⟨hlt,trivial,[],rfl,rfl,trivial,⟨rfl,rfl,rfl,c9 (by rw [hst];simp [*,later,a5W]),aJ3 (by rw [hst];simp [*,later]),rfl,rfl,rfl,trivial⟩⟩
   |some b=>
    rw [hf] at hst
    obtain ⟨hb,cb,hcb,_⟩:=K6 hf
    have hsb:=ap2 hcb
    conv=>whnf
    repeat' first|(refine zd ?_ ?_<;>intro h<;>first|exact zc h|(exfalso;omega)|conv=>whnf)|((first|refine zz ?_|refine qp cv ?_|refine d7 hc ?_|refine d7 hcb ?_|refine zy ?_);conv=>whnf)
    all_goals first
     |exact ⟨hlt,trivial,[],rfl,rfl,trivial,⟨rfl,rfl,rfl,c9 (by rw [hst];simp [*,later,a5W]),aJ3 (by rw [hst];simp [*,later]),rfl,rfl,rfl,trivial⟩⟩
     |(exfalso;simp_all;done)
 ·have hke:k=cs.length:=by omega
  subst hke
  conv=>whnf
  repeat' first|(refine zd ?_ ?_<;>intro h<;>first|exact zc h|(exfalso;omega)|conv=>whnf)|((first|refine zz ?_|refine zy ?_);conv=>whnf)
  all_goals first
   |(exfalso;omega)
   |exact j5 ⟨rfl,rfl,trivial⟩
theorem ah6 (r:x9) (scale day:Int):b9 Tryz.prog 250 (.agg (r.row.map .t)::[b2H scale,b2H day].map fun x=>.c (.t x)) [] (e6 (decide (r.scale=scale) && decide (r.since≤day))) []:=by
 (refine a8 a7 Tryz.func250 rfl (by decide) ?_;(conv=>whnf);repeat (refine zy ?_;conv=>whnf))
 repeat' first|(refine zd ?_ ?_<;>intro h<;>first|exact zc h|(exfalso;omega)|conv=>whnf)|((first|refine zz ?_|refine zy ?_);conv=>whnf)
 all_goals (refine c6 ?_;simp [*];try omega)
abbrev b49 (r:x9):S:=.agg (r.row.map .t)
def U6 {α:Type} (q:α→Bool):List α→Nat→Int
 |[],_=>-1
 |x::r,k=>if q x then k else U6 q r (k+1)
theorem a4F {α:Type} (q:α→Bool):∀(l:List α) (k:Nat),decide (0≤U6 q l k)=l.any q
 |[],k=>by simp [U6]
 |x::r,k=>by
  unfold U6
  rw [List.any_cons]
  cases h:q x with
  |true=>simp
  |false=>simpa using a4F q r (k+1)
theorem aC2 (rs:List x9) (hl:rs.length≤1000000) (g:FuncId) (caps:List T) (q:x9→Bool) (hg:∀r ∈ rs,b9 Tryz.prog g (b49 r::caps.map fun x=>.c (.t x)) [] (e6 (q r)) []):
 b9 Tryz.prog 289 [.c (.t (H7 rs)),.c (.t (.fn (.func g) caps))] [] (a9 .i64 (U6 q rs 0)) []:=by
 have l1:(rs.map x9.row).length=rs.length:=by simp
 (refine a8 a7 Tryz.func289 rfl (by decide) ?_;(conv=>whnf);repeat (refine zy ?_;conv=>whnf))
 repeat' first|(refine zd ?_ ?_<;>intro h<;>first|exact zc h|(exfalso;omega)|conv=>whnf)|((first|refine zz ?_|refine zy ?_);conv=>whnf)
 refine f6 a7 (fun k=>([S.c (C.t (H7 rs)),S.c (C.t (T.fn (.func g) caps)),J,J,J,J,J,a9 .i64 rs.length,a9 .i64 k,J,J,J,J,J,J,J,J,J,J],[])) rs.length (fun k=>U6 q (rs.drop k) k=U6 q rs 0) [] rfl
  ⟨rfl,rfl,trivial,⟨j0 rfl,j0 rfl,c9 (by simp),rfl,trivial⟩⟩ ?_
 intro k hk hI
 by_cases hlt:k<rs.length
 ·obtain ⟨r,hr⟩:∃r,rs[k]? =some r:=⟨_,lg0 hlt⟩
  have hd:rs.drop k=r::rs.drop (k+1):=by
   rw [List.drop_eq_getElem_cons hlt]
   rw [lg0 hlt] at hr
   injection hr with hr
   rw [hr]
  have hgr:=hg r (lg2 hr)
  have ha:(b49 r::caps.map fun x=>S.c (C.t x)).all S.isT=true:=by simp [S.isT,C.isT,x9.row]
  rw [hd] at hI
  have hI:(if q r then (k:Int) else U6 q (rs.drop (k+1)) (k+1))=U6 q rs 0:=hI
  cases hq:q r with
  |true=>
   rw [hq] at hgr hI
   conv=>whnf
   repeat' first|(refine zd ?_ ?_<;>intro h<;>first|exact zc h|(exfalso;omega)|conv=>whnf)|((first|refine zz ?_|refine .inl ⟨_,_,F8 hgr ha rfl,?_⟩|refine d7 hr ?_|refine zy ?_);conv=>whnf)
   all_goals first
    |(exfalso;omega)
    |exact j8 hI
  |false=>
   rw [hq] at hgr hI
   conv=>whnf
   repeat' first|(refine zd ?_ ?_<;>intro h<;>first|exact zc h|(exfalso;omega)|conv=>whnf)|((first|refine zz ?_|refine .inl ⟨_,_,F8 hgr ha rfl,?_⟩|refine d7 hr ?_|refine zy ?_);conv=>whnf)
   all_goals first
    |(exfalso;omega)
    |exact ⟨hlt,by simpa using hI,[],rfl,rfl,trivial,⟨rfl,rfl,rfl,rfl,trivial⟩⟩
 ·have hke:k=rs.length:=by omega
  subst hke
  rw [List.drop_of_length_le (Nat.le_refl _)] at hI
  conv=>whnf
  repeat' first|(refine zd ?_ ?_<;>intro h<;>first|exact zc h|(exfalso;omega)|conv=>whnf)|((first|refine zz ?_|refine zy ?_);conv=>whnf)
  all_goals first
   |(exfalso;omega)
   |exact j8 hI
theorem a9f (rs:List x9) (hl:rs.length≤1000000) (g:FuncId) (caps:List T) (q:x9→Bool) (hg:∀r ∈ rs,b9 Tryz.prog g (b49 r::caps.map fun x=>.c (.t x)) [] (e6 (q r)) []):
 b9 Tryz.prog 249 [.c (.t (H7 rs)),.c (.t (.fn (.func g) caps))] [] (e6 (rs.any q)) []:=by
 have ix:=aC2 rs hl g caps q hg
 (refine a8 a7 Tryz.func249 rfl (by decide) ?_;(conv=>whnf);repeat (refine zy ?_;conv=>whnf))
 repeat' first|(refine zd ?_ ?_<;>intro h<;>first|exact zc h|(exfalso;omega)|conv=>whnf)|((first|refine zz ?_|refine qp ix ?_|refine zy ?_);conv=>whnf)
 all_goals (refine c6 ?_;rw [← a4F q rs 0];simp;omega)
theorem aB4 (rs:List x9) (hl:rs.length≤1000000) (scale day:Int):b9 Tryz.prog 191 [.c (.t (H7 rs)),a9 .i64 scale,a9 .i64 day] [] (e6 (a0G rs scale day)) []:=by
 have ct:=a9f rs hl 250 [b2H scale,b2H day] _ (fun r _=>ah6 r scale day)
 (refine a8 a7 Tryz.func191 rfl (by decide) ?_;(conv=>whnf);repeat ((first|refine b0x ?_|refine zy ?_);conv=>whnf))
 repeat' first|(refine zd ?_ ?_<;>intro h<;>first|exact zc h|(exfalso;omega)|conv=>whnf)|((first|refine zz ?_|refine qp ct ?_|refine zy ?_);conv=>whnf)
 all_goals (refine c6 ?_;symm;assumption)
end
section
open Go.RowKit
theorem a1Z {c:E7} {day:Int} (h:F3 c day=true):0≤c.since∧c.since≤day∧day≤c.till∧c.till≤100000∧0≤c.grams∧c.grams≤1099511627776∧0≤c.permille∧c.permille≤1000∧0≤c.drift∧c.drift≤10000000:=by
 unfold F3 M6 btw at h
 simp only [Bool.and_eq_true,decide_eq_true_eq] at h
 omega
abbrev C2:Fr:=⟨⟨0,[]⟩,⟨0,[]⟩⟩
theorem b0z {f f':Fr} {b b':Bool} {H1:Hp} (h:f=f') (h2:b=b'):Fin 0 (.tup [frS f,e6 b]) H1 (.tup [frS f',e6 b']) []:=by
 subst h h2;exact j5 ⟨⟨rfl,rfl,rfl,rfl,trivial⟩,rfl,trivial⟩
structure b0h (c:E7) (reading day:Int):Prop where
 p0:0≤c.permille*reading
 p1:c.permille*reading≤1000*1099511627776
 d0:0≤c.drift*(day - c.since)
 d1:c.drift*(day - c.since)≤10000000*100000
theorem b0h.of {c:E7} {reading day:Int} (h:F3 c day=true) (hr:btw reading 0 1099511627776=true):b0h c reading day:=by
 have hc:=a1Z h
 rw [U3] at hr
 exact ⟨Int.mul_nonneg (by omega) (by omega),Int.mul_le_mul (by omega) (by omega) (by omega) (by omega),Int.mul_nonneg (by omega) (by omega),Int.mul_le_mul (by omega) (by omega) (by omega) (by omega)⟩
theorem aD5 {c:E7} {reading day:Int} (h:F3 c day=true) (hr:btw reading 0 1099511627776=true):rl (a0U c reading day)≤9:=by
 have i:=b0h.of h hr
 have hc:=a1Z h
 obtain ⟨p0,p1,d0,d1⟩:=i
 unfold a0U
 have h1:=Z5 (Rat.divInt (c.permille*reading) 1000) ((c.grams+c.drift*(day - c.since):Int):Rat)
 have h2:rl (Rat.divInt (c.permille*reading) 1000)≤4:=Nat.le_trans (W8 (by decide)) (by have:=O7 (x:=c.permille*reading) (by omega) (by omega);have:=O7 (x:=1000) (by decide) (by decide);omega)
 have h3:rl ((c.grams+c.drift*(day - c.since):Int):Rat)≤4:=by rw [R9];have:=O7 (x:=c.grams+c.drift*(day - c.since)) (by omega) (by omega);omega
 omega
theorem b23 (c:E7) (reading day:Int) (h:F3 c day=true):b9 Tryz.prog 192 [ar4 c,a9 .i64 reading,a9 .i64 day] []
 (.tup [frS (if btw reading 0 1099511627776 then fz (a0U c reading day) else C2),e6 (btw reading 0 1099511627776)]) []:=by
 have cv:=am1 c day
 have wi:=a3d reading 1099511627776
 rw [h] at cv
 have hc:=a1Z h
 cases hr:btw reading 0 1099511627776 with
 |false=>
  rw [hr] at wi
  (refine a8 a7 Tryz.func192 rfl (by decide) ?_;(conv=>whnf);repeat (refine zy ?_;conv=>whnf))
  repeat' first|(refine zd ?_ ?_<;>intro h<;>first|exact zc h|(exfalso;omega)|conv=>whnf)|((first|refine zz ?_|refine qp cv ?_|refine qp wi ?_|refine zy ?_);conv=>whnf)
  all_goals first
   |(exfalso;simp_all;done)
   |exact j5 ⟨⟨rfl,rfl,rfl,rfl,trivial⟩,rfl,trivial⟩
 |true=>
  rw [hr] at wi
  obtain ⟨p0,p1,d0,d1⟩:=b0h.of h hr
  rw [U3] at hr
  have fo:=b87 (c.permille*reading) 1000 (by decide) (by omega) (by omega) (by decide) (by decide)
  have fi:=E4 (c.grams+c.drift*(day - c.since)) (by omega) (by omega)
  have h2:rl (Rat.divInt (c.permille*reading) 1000)≤4:=Nat.le_trans (W8 (by decide)) (by have:=O7 (x:=c.permille*reading) (by omega) (by omega);have:=O7 (x:=1000) (by decide) (by decide);omega)
  have h3:rl ((c.grams+c.drift*(day - c.since):Int):Rat)≤4:=by rw [R9];have:=O7 (x:=c.grams+c.drift*(day - c.since)) (by omega) (by omega);omega
  have ad:=a2M (Rat.divInt (c.permille*reading) 1000) ((c.grams+c.drift*(day - c.since):Int):Rat) (by omega) (by omega)
  (refine a8 a7 Tryz.func192 rfl (by decide) ?_;(conv=>whnf);repeat (refine zy ?_;conv=>whnf))
  repeat' first|(refine zd ?_ ?_<;>intro h<;>first|exact zc h|(exfalso;omega)|conv=>whnf)|((first|refine zz ?_|refine qp cv ?_|refine qp wi ?_|refine qp fo ?_|refine qp fi ?_|refine qp ad ?_|refine qp 7 ?_|refine qp 15 ?_|refine bl0 [7] ?_|refine bl0 [15] ?_|refine zy ?_);conv=>whnf)
  all_goals first
   |(exfalso;simp_all;done)
   |exact b0z rfl rfl
abbrev ivL (o:Option (Rat × Rat)):List S:=match o with
 |some (lo,hi)=>[frS (fz lo),frS (fz hi),e6 true]
 |none=>[frS C2,frS C2,e6 false]
theorem b2q {x y:Rat} {n:Nat} (h1:rl x≤n) (h2:rl y≤n):rl (aj5 x y)≤n:=by unfold aj5;split<;>assumption
theorem at6 {cs:List E7} {rs:List x9} {scale reading day:Int} {lo hi:Rat} (h:K5 cs rs scale reading day=some (lo,hi)):rl lo≤20∧rl hi≤20:=by
 unfold K5 at h
 split at h
 ·cases h
 ·rename_i i hi
  obtain ⟨hb,c,hc,_,hcv⟩:=K6 hi
  have e:a1m cs i=c:=by unfold a1m;rw [hc];rfl
  rw [e] at h
  split at h
  ·cases h
  ·split at h
   ·rename_i hr
    injection h with h
    injection h with h1 h2
    have l1:=aD5 hcv hr
    rw [U3] at hr
    have l2:rl (reading:Rat)≤4:=by rw [R9];have:=O7 (x:=reading) (by omega) (by omega);omega
    have l3:=Z5 (reading:Rat) (a0U c reading day)
    have l4:=aC4 (reading:Rat) (a0U c reading day)
    refine ⟨?_,by rw [← h2];omega⟩
    rw [← h1]
    exact b2q (by omega) (by rw [aJ7];omega)
   ·cases h
theorem aw3 (cs:List E7) (rs:List x9) (hl:cs.length≤1000000) (hl2:rs.length≤1000000) (scale reading day:Int):
 b9 Tryz.prog 116 [.c (.t (W7 cs)),.c (.t (H7 rs)),a9 .i64 scale,a9 .i64 reading,a9 .i64 day] [] (.tup (ivL (K5 cs rs scale reading day))) []:=by
 have f:=b4g cs scale day hl
 have r:=aB4 rs hl2 scale day
 unfold K5
 cases hf:x6 cs scale day cs.length with
 |none=>
  rw [hf] at f
  (refine a8 a7 Tryz.func116 rfl (by decide) ?_;(conv=>whnf);repeat (refine zy ?_;conv=>whnf))
  repeat' first|(refine zd ?_ ?_<;>intro h<;>first|exact zc h|(exfalso;omega)|conv=>whnf)|((first|refine zz ?_|refine qp f ?_|refine qp r ?_|refine qp 1 ?_|refine qp 6 ?_|refine bl0 [1] ?_|refine bl0 [6] ?_|refine zy ?_);conv=>whnf)
  all_goals first
   |(exfalso;simp_all;done)
   |exact j5 ⟨⟨rfl,rfl,rfl,rfl,trivial⟩,⟨rfl,rfl,rfl,rfl,trivial⟩,rfl,trivial⟩
 |some i=>
  rw [hf] at f
  obtain ⟨hb,c,hc,_,hcv⟩:=K6 hf
  have e:a1m cs i=c:=by unfold a1m;rw [hc];rfl
  have er:=b23 c reading day hcv
  simp only [e]
  cases hrec:a0G rs scale day with
  |true=>
   rw [hrec] at r
   (refine a8 a7 Tryz.func116 rfl (by decide) ?_;(conv=>whnf);repeat (refine zy ?_;conv=>whnf))
   repeat' first|(refine zd ?_ ?_<;>intro h<;>first|exact zc h|(exfalso;omega)|conv=>whnf)|((first|refine zz ?_|refine qp f ?_|refine qp r ?_|refine qp 1 ?_|refine qp 6 ?_|refine bl0 [1] ?_|refine bl0 [6] ?_|refine zy ?_);conv=>whnf)
   all_goals first
    |(exfalso;simp_all;done)
    |exact j5 ⟨⟨rfl,rfl,rfl,rfl,trivial⟩,⟨rfl,rfl,rfl,rfl,trivial⟩,rfl,trivial⟩
  |false=>
   rw [hrec] at r
   cases hr:btw reading 0 1099511627776 with
   |false=>
    rw [hr] at er
    (refine a8 a7 Tryz.func116 rfl (by decide) ?_;(conv=>whnf);repeat (refine zy ?_;conv=>whnf))
    repeat' first|(refine zd ?_ ?_<;>intro h<;>first|exact zc h|(exfalso;omega)|conv=>whnf)|((first|refine zz ?_|refine qp f ?_|refine qp r ?_|refine qp er ?_|refine qp 1 ?_|refine qp 9 ?_|refine d7 hc ?_|refine bl0 [1] ?_|refine bl0 [9] ?_|refine zy ?_);conv=>whnf)
    all_goals first
     |exact j5 ⟨⟨rfl,rfl,rfl,rfl,trivial⟩,⟨rfl,rfl,rfl,rfl,trivial⟩,rfl,trivial⟩
     |(exfalso;simp_all;done)
   |true=>
    have l1:=aD5 hcv hr
    rw [hr] at er
    rw [U3] at hr
    have l2:rl (reading:Rat)≤4:=by rw [R9];have:=O7 (x:=reading) (by omega) (by omega);omega
    have fi:=E4 reading (by omega) (by omega)
    have f0:=E4 0 (by omega) (by omega)
    have sb:=aU2 (reading:Rat) (a0U c reading day) (by omega) (by omega)
    have ad:=a2M (reading:Rat) (a0U c reading day) (by omega) (by omega)
    have l4:=aC4 (reading:Rat) (a0U c reading day)
    have mx:=b4G ((reading:Rat) - a0U c reading day) ((0:Int):Rat) (by omega) (by rw [aJ7];omega)
    (refine a8 a7 Tryz.func116 rfl (by decide) ?_;(conv=>whnf);repeat (refine zy ?_;conv=>whnf))
    repeat' first|(refine zd ?_ ?_<;>intro h<;>first|exact zc h|(exfalso;omega)|conv=>whnf)|((first|refine zz ?_|refine qp f ?_|refine qp r ?_|refine qp er ?_|refine qp fi ?_|refine qp f0 ?_|refine qp sb ?_|refine qp ad ?_|refine qp mx ?_|refine qp 1 ?_|refine qp 9 ?_|refine qp 5 ?_|refine d7 hc ?_|refine bl0 [1] ?_|refine bl0 [9] ?_|refine bl0 [5] ?_|refine zy ?_);conv=>whnf)
    all_goals first
     |exact j5 ⟨⟨rfl,rfl,rfl,rfl,trivial⟩,⟨rfl,rfl,rfl,rfl,trivial⟩,rfl,trivial⟩
     |(exfalso;simp_all;done)
end
section
open Go.RowKit
def j7 (f:Fr):List T:=[ti f.p.sg,I8 f.p.dl,ti f.q.sg,I8 f.q.dl]
abbrev M8 (l:List Fr):T:=.sl 4 .any (l.map j7)
abbrev k7 (l:List Fr):S:=.c (.t (M8 l))
structure ay9 (n:Nat) (h:List (List Fr)):Prop where
 l1:h.length≤1000000
 l2:∀l ∈ h,l.length≤1000000
 l3:∀l ∈ h,∀f ∈ l,f.p.dl.length≤n∧f.q.dl.length≤n
theorem O1 (l:List Rat) {k:Nat} {x:Rat} (h:l[k]? =some x):(l.map fz)[k]? =some (fz x):=by rw [List.getElem?_map,h];rfl
theorem ao8 {f f':Fr} {H1:Hp} (h:f=f'):Fin 0 (frS f) H1 (frS f') []:=by subst h;exact j5 ⟨rfl,rfl,rfl,rfl,trivial⟩
abbrev frB (f:Fr):Blk:={ mode:=.live,elem:=83,size:=4,rows:=[frC f],box:=true }
theorem t5 (f:Fr):E8 [frC f]:=by
 intro r hr c hc
 simp at hr
 subst hr
 simp [frC] at hc
 rcases hc with rfl|rfl|rfl|rfl<;>rfl
theorem aM1 {x:Rat}:sgR x<0↔x<0:=by unfold sgR;split<;>(try split)<;>simp_all
theorem b2t {x y:Rat}:a01 x y≤0↔x≤y:=by
 unfold a01
 split
 ·simp;grind
 ·split
  ·simp;grind
  ·simp;grind
theorem Y1 {x y:Rat}:a01 x y > 0↔y<x:=by
 have:=b2t (x:=x) (y:=y)
 constructor
 ·intro h;have h2:¬x≤y:=fun h'=>by have:=this.2 h';omega
  grind
 ·intro h;have h2:¬a01 x y≤0:=fun h'=>by have:=this.1 h';grind
  omega
end
section
structure b8J (e:Ev) (x:p7) (l:List Rat) (f:Nat→Nat→Rat) (i:Nat):Prop where
 pos:∀v ∈ l,¬v<0
 tak:b46 e f x l=0
 wei:aW0 e x (b7e l)=true
 pur:b72 e.purities i l (b7e l)=true
end
section
def g8 (f:Nat→Rat):Nat→Rat
 |0=>((0:Int):Rat)
 |n+1=>g8 f n+f n
theorem Q4:((0:Int):Rat)=0:=rfl
theorem f7 {f g:Nat→Rat}:∀{n:Nat},(∀ m,m<n→f m=g m)→g8 f n=g8 g n
 |0,_=>rfl
 |n+1,h=>by simp only [g8];rw [f7 fun m hm=>h m (by omega),h n (by omega)]
end
section
theorem getD_some {l:List Rat} {m:Nat} (h:m<l.length):l[m]? =some (l.getD m 0):=by rw [lg3,lg0 h];rfl
end
section
theorem a5E {α:Type} {p:Nat→α→Bool} {l:List α}:∀{k:Nat} {x:Int},x ∈ p5 p k l↔∃i m,l[i]? =some m∧p (k+i) m=true∧x=((k+i:Nat):Int):=by
 induction l with
 |nil=>intro k x;simp [p5]
 |cons a r ih=>
  intro k x
  have step:x ∈ p5 p (k+1) r↔∃i m,(a::r)[i+1]? =some m∧p (k+(i+1)) m=true∧x=((k+(i+1):Nat):Int):=by
   rw [ih]
   constructor
   ·rintro ⟨i,m,h1,h2,h3⟩
    exact ⟨i,m,by simpa using h1,by rw [show k+(i+1)=k+1+i from by omega];exact h2,by rw [h3];omega⟩
   ·rintro ⟨i,m,h1,h2,h3⟩
    exact ⟨i,m,by simpa using h1,by rw [show k+1+i=k+(i+1) from by omega];exact h2,by rw [h3];omega⟩
  unfold p5
  by_cases hp:p k a=true
  ·rw [if_pos hp,List.mem_cons,step]
   constructor
   ·rintro (rfl|⟨i,m,h⟩)
    ·exact ⟨0,a,rfl,hp,rfl⟩
    ·exact ⟨i+1,m,h⟩
   ·rintro ⟨i,m,h1,h2,h3⟩
    cases i with
    |zero=>left;simpa using h3
    |succ i=>right;exact ⟨i,m,h1,h2,h3⟩
  ·rw [if_neg hp,step]
   constructor
   ·rintro ⟨i,m,h⟩
    exact ⟨i+1,m,h⟩
   ·rintro ⟨i,m,h1,h2,h3⟩
    cases i with
    |zero=>simp at h1;subst h1;exact absurd h2 hp
    |succ i=>exact ⟨i,m,h1,h2,h3⟩
theorem a76 {α:Type} (p:Nat→α→Bool) (l:List α):∀k,(p5 p k l).Pairwise (·<·):=by
 induction l with
 |nil=>intro k;simp [p5]
 |cons a r ih=>
  intro k
  unfold p5
  split
  ·rw [List.pairwise_cons]
   refine ⟨fun x hx=>?_,ih (k+1)⟩
   obtain ⟨i,m,_,_,rfl⟩:=a5E.1 hx
   omega
  ·exact ih (k+1)
def Asc (l:List Int) (n:Int):Prop:=(∀ (i:Nat) (x:Int),l[i]? =some x→0≤x∧x<n)∧∀(i:Nat) (x y:Int),l[i]? =some x→l[i+1]? =some y→x<y
theorem Asc.of_sorted {l:List Int} {n:Int} (h1:l.Pairwise (·<·)) (h2:∀x ∈ l,0≤x∧x<n):Asc l n:=by
 refine ⟨fun i x hx=>h2 x (lg2 hx),fun i x y hx hy=>?_⟩
 obtain ⟨hi,rfl⟩:=lg1 hx
 obtain ⟨hj,rfl⟩:=lg1 hy
 exact List.pairwise_iff_getElem.1 h1 i (i+1) hi hj (by omega)
theorem ag2 {α:Type} (p:Nat→α→Bool) (l:List α):Asc (p5 p 0 l) l.length:=by
 refine Asc.of_sorted (a76 p l 0) (fun x hx=>?_)
 obtain ⟨i,m,hm,_,rfl⟩:=a5E.1 hx
 have:=(lg1 hm).1
 omega
theorem b1C (n:Int):Asc [] n:=⟨fun i x h=>by simp at h,fun i x y h=>by simp at h⟩
theorem aN3 (e:Ev) (hh mat lo hi:Int):Asc (A8 e hh mat lo hi) e.moves.length:=by
 unfold A8;split
 ·exact ag2 _ _
 ·exact b1C _
end
section
def Cnt (l:List p7) (d:p7→Int) (up:Int) (p:Nat) (S:List Int) (L:List Int):Prop:=
 L.length=l.length∧∀(j:Nat) (m:p7),l[j]? =some m→L[j]? =some (if (j:Int) ∈ S∨((j:Int)<up∧d m<(p:Int)) then 1 else 0)
theorem Cnt.zero {l:List p7} {d:p7→Int} {up:Int} (hd:∀m ∈ l,0≤d m):Cnt l d up 0 [] (List.replicate l.length 0):=by
 refine ⟨by simp,fun j m hm=>?_⟩
 have hl:=(lg1 hm).1
 have:=hd m (lg2 hm)
 rw [if_neg (by simp;omega)]
 simp [List.getElem?_replicate,hl]
theorem Cnt.step {l:List p7} {d:p7→Int} {up:Int} {p:Nat} {a L:List Int} {i j:Nat} {m:p7} (h:Cnt l d up p (a.take i) L) (hs:a.Pairwise (·<·)) (hx:a[i]? =some (j:Int)) (hm:l[j]? =some m) (hdm:d m=(p:Int)):
 L[j]? =some 0∧Cnt l d up p (a.take (i+1)) (L.set j 1):=by
 obtain ⟨hi,hxi⟩:=lg1 hx
 have hnot:(j:Int) ∉ a.take i:=by
  intro hmem
  obtain ⟨k,hk,e⟩:=List.getElem_of_mem hmem
  have hk':k<i:=by simp at hk;omega
  rw [List.getElem_take] at e
  have:=List.pairwise_iff_getElem.1 hs k i (by omega) hi hk'
  omega
 refine ⟨?_,by simpa using h.1,fun j' m' hm'=>?_⟩
 ·rw [h.2 j m hm,if_neg]
  rintro (h1|⟨_,h2⟩)
  ·exact hnot h1
  ·omega
 ·have hmem:(j':Int) ∈ a.take (i+1)↔(j':Int) ∈ a.take i∨j'=j:=by
   rw [List.take_succ_eq_append_getElem hi,List.mem_append,hxi,List.mem_singleton]
   constructor
   ·rintro (h1|h1)
    ·exact .inl h1
    ·exact .inr (by omega)
   ·rintro (h1|h1)
    ·exact .inl h1
    ·exact .inr (by omega)
  by_cases hj:j'=j
  ·subst hj
   rw [List.getElem?_set_self (by rw [h.1];exact (lg1 hm').1),if_pos (.inl (hmem.2 (.inr rfl)))]
  ·rw [List.getElem?_set_ne (by omega),h.2 j' m' hm']
   have:(j':Int) ∈ a.take (i+1)↔(j':Int) ∈ a.take i:=by rw [hmem];simp [hj]
   simp only [this]
theorem Cnt.next {l:List p7} {d:p7→Int} {up:Int} {p:Nat} {a L:List Int} (h:Cnt l d up p a L) (ha:∀(j:Nat) (m:p7),l[j]? =some m→((j:Int) ∈ a↔(j:Int)<up∧d m=(p:Int))):Cnt l d up (p+1) [] L:=by
 refine ⟨h.1,fun j m hm=>?_⟩
 rw [h.2 j m hm]
 have hj:=ha j m hm
 have hiff:((j:Int) ∈ a∨((j:Int)<up∧d m<(p:Int)))↔((j:Int) ∈ ([]:List Int)∨((j:Int)<up∧d m<((p+1:Nat):Int))):=by
  rw [hj]
  constructor
  ·rintro (h1|h1)
   ·exact .inr ⟨h1.1,by omega⟩
   ·exact .inr ⟨h1.1,by omega⟩
  ·rintro (h1|h1)
   ·cases h1
   ·by_cases h2:d m=(p:Int)
    ·exact .inl ⟨h1.1,h2⟩
    ·exact .inr ⟨h1.1,by omega⟩
 by_cases h:(j:Int) ∈ a∨((j:Int)<up∧d m<(p:Int))
 ·rw [if_pos h,if_pos (hiff.1 h)]
 ·rw [if_neg h,if_neg (fun h'=>h (hiff.2 h'))]
theorem Cnt.last {l:List p7} {d:p7→Int} {up:Int} {p:Nat} {L:List Int} (h:Cnt l d up p [] L) (hd:∀m ∈ l,d m<(p:Int)) {j:Nat} {m:p7} (hm:l[j]? =some m):L[j]? =some (if (j:Int)<up then 1 else 0):=by
 rw [h.2 j m hm]
 have:=hd m (lg2 hm)
 congr 1
 by_cases h1:(j:Int)<up
 ·rw [if_pos (.inr ⟨h1,this⟩),if_pos h1]
 ·rw [if_neg (by simp;omega),if_neg h1]
end
section
theorem b1e {e:Ev} {G:List (List Rat)} {k:Nat} {x:p7} (hx:e.moves[k]? =some x):stk e G (k+1)=aE1 x (hAt G k) (stk e G k):=by
 conv=>lhs;unfold stk
 rw [hx]
theorem b1Z {e:Ev} {G:List (List Rat)} {k:Nat} (hx:e.moves[k]? =none):stk e G (k+1)=stk e G k:=by
 conv=>lhs;unfold stk
 rw [hx]
end
section
theorem aD9 {e:Ev} {x:p7} (h:L4 e x=true) (ha:x.all=true):F2 e x.src≠0:=by
 unfold L4 at h
 simp only [Bool.and_eq_true,decide_eq_true_eq] at h
 have:=h.1.1.2
 rw [ha] at this
 simpa using this
end
section
def D3 (e:Ev) (x:p7):Option (Rat × Rat):=if x.scale=-1 then none else K5 e.certs e.recalls x.scale x.reading x.day
end
section
structure T1 where
 mv:Int
 kind:Int
 grams:Int
structure K2 where
 mv:Int
 kind:Int
structure l9 where
 ev:Ev
 finds:List T1
 cleans:List K2
def a02 (e:Ev) (mv kind:Int):Int:=if mv<0∨(e.moves.length:Int)≤mv then 4 else if kind<0∨8≤kind then 1 else 0
def K4 (e:Ev):List T1→Int
 |[]=>0
 |f::r=>if a02 e f.mv f.kind≠0 then a02 e f.mv f.kind else if f.grams<1∨1099511627776<f.grams then 3 else K4 e r
def L2 (e:Ev):List K2→Int
 |[]=>0
 |c::r=>if a02 e c.mv c.kind≠0 then a02 e c.mv c.kind else L2 e r
def p6 (t:l9):Int:=
 if y3 t.ev≠0 then y3 t.ev else if 20<t.finds.length∨50<t.cleans.length then 6
 else if K4 t.ev t.finds≠0 then K4 t.ev t.finds else L2 t.ev t.cleans
def i9 (l:List T1) (kind:Int) (i:Nat):List Int:=(l.filter fun f=>decide (f.kind=kind) && decide (f.mv=(i:Int))).map (·.grams)
def n8 (l:List K2) (kind:Int) (i:Nat):Nat:=(l.filter fun c=>decide (c.kind=kind) && decide (c.mv=(i:Int))).length
def col (z:List Rat):List (List Rat):=z.map fun v=>[v]
theorem b2w (z:List Rat) (k:Nat):hAt (col z) k 0=z.getD k 0:=by
 unfold hAt col
 cases h:z[k]?<;>simp [lg3,h]
def a1M (e:Ev) (z:List Rat) (k p:Nat):Rat:=stk e (col z) k p 0
def b31 (iv:Option (Rat × Rat)) (v:Rat):Bool:=match iv with
 |none=>true
 |some (_,hi)=>decide (v≤hi)
structure b3O (e:Ev) (x:p7) (v f:Rat):Prop where
 pos:0≤v
 most:F2 e x.src≠0→v≤f
 all:x.all=true→v=f
structure b0v (t:l9) (kind:Int) (i:Nat) (x:p7) (v:Rat):Prop where
 cap:b31 (D3 t.ev x) v=true
 fin:∀g ∈ i9 t.finds kind i,(g:Rat)≤v
 cln:0<n8 t.cleans kind i→v=0
structure b9s (t:l9) (kind:Int) (z:List Rat):Prop where
 tr:p6 t=0
 k0:0≤kind
 k1:kind<8
 len:z.length=t.ev.moves.length
 step:∀i x,t.ev.moves[i]? =some x→b3O t.ev x (z.getD i 0) (a1M t.ev z i x.src.toNat)∧b0v t kind i x (z.getD i 0)
theorem a00 (z:List Rat):(z.map fz).map fv=z:=by
 rw [List.map_map]
 conv=>rhs;rw [← List.map_id z]
 exact List.map_congr_left fun x _=>b7p x
theorem N7 {t:l9} (h:p6 t=0):y3 t.ev=0∧t.finds.length≤20∧t.cleans.length≤50∧K4 t.ev t.finds=0∧L2 t.ev t.cleans=0:=by
 unfold p6 at h
 by_cases h1:y3 t.ev≠0
 ·rw [if_pos h1] at h;exact absurd h h1
 rw [if_neg h1] at h
 by_cases h2:20<t.finds.length∨50<t.cleans.length
 ·rw [if_pos h2] at h;cases h
 rw [if_neg h2] at h
 by_cases h3:K4 t.ev t.finds≠0
 ·rw [if_pos h3] at h;exact absurd h h3
 rw [if_neg h3] at h
 exact ⟨by simpa using h1,by omega,by omega,by simpa using h3,h⟩
theorem X3 {e:Ev}:∀{l:List T1},K4 e l=0→∀f ∈ l,0≤f.mv∧f.mv<e.moves.length∧0≤f.kind∧f.kind<8∧1≤f.grams∧f.grams≤1099511627776
 |[],_,f,hf=>by cases hf
 |g::r,h,f,hf=>by
  unfold K4 at h
  by_cases h1:a02 e g.mv g.kind≠0
  ·rw [if_pos h1] at h;exact absurd h h1
  rw [if_neg h1] at h
  by_cases h2:g.grams<1∨1099511627776<g.grams
  ·rw [if_pos h2] at h;cases h
  rw [if_neg h2] at h
  rcases List.mem_cons.1 hf with rfl|hf
  ·unfold a02 at h1
   by_cases h3:f.mv<0∨(e.moves.length:Int)≤f.mv
   ·rw [if_pos h3] at h1;exact absurd (by decide) h1
   rw [if_neg h3] at h1
   by_cases h4:f.kind<0∨8≤f.kind
   ·rw [if_pos h4] at h1;exact absurd (by decide) h1
   omega
  ·exact X3 h f hf
theorem a5v (l:List T1) (f:T1) (kind:Int) (i:Nat):i9 (l++[f]) kind i=i9 l kind i++(if f.kind=kind∧f.mv=(i:Int) then [f.grams] else []):=by
 unfold i9
 rw [List.filter_append,List.map_append]
 by_cases h:f.kind=kind∧f.mv=(i:Int)
 ·rw [if_pos h];simp [h.1,h.2]
 ·rw [if_neg h]
  have:(decide (f.kind=kind) && decide (f.mv=(i:Int)))=false:=by
   rw [← Bool.not_eq_true];simp only [Bool.and_eq_true,decide_eq_true_eq];exact h
  simp [this]
theorem X9 (l:List K2) (c:K2) (kind:Int) (i:Nat):n8 (l++[c]) kind i=n8 l kind i+(if c.kind=kind∧c.mv=(i:Int) then 1 else 0):=by
 unfold n8
 rw [List.filter_append,List.length_append]
 by_cases h:c.kind=kind∧c.mv=(i:Int)
 ·rw [if_pos h];simp [h.1,h.2]
 ·rw [if_neg h]
  have:(decide (c.kind=kind) && decide (c.mv=(i:Int)))=false:=by
   rw [← Bool.not_eq_true];simp only [Bool.and_eq_true,decide_eq_true_eq];exact h
  simp [this]
end
section
theorem aP5 {e:Ev} {z:List Rat} {k:Nat} {x:p7} (hx:e.moves[k]? =some x) (p:Nat):a1M e z (k+1) p=if x.src=(p:Int) then a1M e z k p - z.getD k 0 else if x.dst=(p:Int) then a1M e z k p+z.getD k 0 else a1M e z k p:=by
 unfold a1M
 rw [b1e hx]
 unfold aE1
 rw [b2w]
theorem b0M {e:Ev} {z:List Rat} {k:Nat} (hx:e.moves[k]? =none) (p:Nat):a1M e z (k+1) p=a1M e z k p:=by
 unfold a1M
 rw [b1Z hx]
theorem a2T {f:Nat→Rat}:∀{n:Nat},(∀ p,p<n→0≤f p)→0≤g8 f n
 |0,_=>Rat.le_refl
 |n+1,h=>by
  have h1:=a2T (n:=n) fun p hp=>h p (by omega)
  have h2:=h n (by omega)
  simp only [g8];grind
structure b9r (t:l9) (w:List Rat) (i:Nat) (x:p7):Prop where
 took:b3O t.ev x (w.getD i 0) (a1M t.ev w i x.src.toNat)
 cap:b31 (D3 t.ev x) (w.getD i 0)=true
end
section
structure x7 where
 terms:List (Int × Rat)
 kind:Int
 value:Rat
structure f5 where
 n:Int
 rows:List x7
def j3 (l:List (Int × Rat)) (z:List Rat):Rat:=l.foldl (fun a t=>a+t.2*z.getD t.1.toNat 0) ((0:Int):Rat)
theorem M4 (l:List (Int × Rat)) (t:Int × Rat) (z:List Rat):j3 (l++[t]) z=j3 l z+t.2*z.getD t.1.toNat 0:=by unfold j3;rw [List.foldl_append];rfl
def e7:Int→Int→List (Int × Rat)→Bool
 |_,_,[]=>true
 |last,n,t::r=>decide (last<t.1) && decide (t.1<n) && decide (t.2≠0) && e7 t.1 n r
def u9 (n:Int) (w:x7):Bool:=e7 (-1) n w.terms && decide (0≤w.kind) && decide (w.kind<3)
def f9 (s:f5):Bool:=decide (0≤s.n) && decide (s.n≤1500) && decide (s.rows.length≤6000) && s.rows.all (u9 s.n)
def N3 (w:x7) (z:List Rat):Bool:=!((decide (j3 w.terms z<w.value) && decide (w.kind≠1)) || (decide (w.value<j3 w.terms z) && decide (w.kind≠0)))
def i7 (s:f5) (z:List Rat):Bool:=f9 s && decide ((z.length:Int)=s.n) && z.all (fun v=>decide (0≤v)) && s.rows.all (fun w=>N3 w z)
def j4 (e:Ev) (p:Int):Nat→List (Int × Rat)
 |0=>[]
 |k+1=>match e.moves[k]? with
  |none=>j4 e p k
  |some y=>if y.dst=p then j4 e p k++[((k:Int),((1:Int):Rat))] else if y.src=p then j4 e p k++[((k:Int),((-1:Int):Rat))] else j4 e p k
def q9 (e:Ev) (i:Nat) (x:p7):x7:=⟨j4 e x.src i++[((i:Int),((-1:Int):Rat))],if x.all then 2 else 0,((0:Int):Rat)⟩
def p9 (i:Nat) (kind:Int) (v:Rat):x7:=⟨[((i:Int),((1:Int):Rat))],kind,v⟩
def J1 (iv:Option (Rat × Rat)) (i:Nat):List x7:=match iv with
 |none=>[]
 |some (_,hi)=>[p9 i 1 hi]
def F7 (t:l9) (kind:Int) (i:Nat) (x:p7):List x7:=
 (if F2 t.ev x.src=0 then [] else [q9 t.ev i x])++J1 (D3 t.ev x) i++(i9 t.finds kind i).map (fun g:Int=>p9 i 0 (g:Rat))++List.replicate (n8 t.cleans kind i) (p9 i 2 ((0:Int):Rat))
def o5 (t:l9) (kind:Int):Nat→List x7
 |0=>[]
 |k+1=>match t.ev.moves[k]? with
  |none=>o5 t kind k
  |some x=>o5 t kind k++F7 t kind k x
def e8 (t:l9) (kind:Int):f5:=⟨t.ev.moves.length,o5 t kind t.ev.moves.length⟩
theorem a8l {e:Ev} (h0:y3 e=0) (z:List Rat) (p:Nat):∀k,j3 (j4 e p k) z=a1M e z k p
 |0=>rfl
 |k+1=>by
  have ih:=a8l h0 z p k
  unfold j4
  cases hx:e.moves[k]? with
  |none=>rw [b0M hx];exact ih
  |some y=>
   have hm:=O2 h0 (lg2 hx)
   have hne:y.src≠y.dst:=by unfold L4 at hm;simp only [Bool.and_eq_true,decide_eq_true_eq] at hm;exact hm.1.1.1.1.1.2
   rw [aP5 hx]
   simp only
   by_cases c1:y.dst=(p:Int)
   ·rw [if_pos c1,if_neg (by omega),if_pos c1,M4,ih]
    simp only [Int.toNat_natCast]
    have:((1:Int):Rat)=1:=rfl
    rw [this];grind
   ·rw [if_neg c1]
    by_cases c2:y.src=(p:Int)
    ·rw [if_pos c2,if_pos c2,M4,ih]
     simp only [Int.toNat_natCast]
     have:((-1:Int):Rat)=-1:=rfl
     rw [this];grind
    ·rw [if_neg c2,if_neg c2,if_neg c1];exact ih
theorem a0g {w:x7} {z:List Rat}:N3 w z=true↔(j3 w.terms z<w.value→w.kind=1)∧(w.value<j3 w.terms z→w.kind=0):=by
 unfold N3
 simp only [Bool.not_eq_true',Bool.or_eq_false_iff,Bool.and_eq_false_iff,decide_eq_false_iff_not,Classical.not_not]
 constructor
 ·rintro ⟨h1,h2⟩
  exact ⟨fun h=>h1.resolve_left (fun h'=>h' h),fun h=>h2.resolve_left (fun h'=>h' h)⟩
 ·rintro ⟨h1,h2⟩
  refine ⟨?_,?_⟩
  ·by_cases h:j3 w.terms z<w.value
   ·exact .inr (h1 h)
   ·exact .inl h
  ·by_cases h:w.value<j3 w.terms z
   ·exact .inr (h2 h)
   ·exact .inl h
theorem ah5 (i:Nat) (kind:Int) (v:Rat) (z:List Rat):j3 (p9 i kind v).terms z=z.getD i 0:=by
 show ((0:Int):Rat)+((1:Int):Rat)*z.getD ((i:Int)).toNat 0=_
 rw [Int.toNat_natCast]
 have h0:((0:Int):Rat)=0:=rfl
 have h1:((1:Int):Rat)=1:=rfl
 rw [h0,h1];grind
theorem b14 {i:Nat} {v:Rat} {z:List Rat}:N3 (p9 i 1 v) z=true↔z.getD i 0≤v:=by
 rw [a0g,ah5]
 show (_→(1:Int)=1)∧(v<z.getD i 0→(1:Int)=0)↔_
 constructor
 ·rintro ⟨_,h⟩;exact Rat.not_lt.1 fun h'=>absurd (h h') (by decide)
 ·intro h;exact ⟨fun _=>rfl,fun h'=>absurd h' (Rat.not_lt.2 h)⟩
theorem a9Q {i:Nat} {v:Rat} {z:List Rat}:N3 (p9 i 0 v) z=true↔v≤z.getD i 0:=by
 rw [a0g,ah5]
 show (z.getD i 0<v→(0:Int)=1)∧(_→(0:Int)=0)↔_
 constructor
 ·rintro ⟨h,_⟩;exact Rat.not_lt.1 fun h'=>absurd (h h') (by decide)
 ·intro h;exact ⟨fun h'=>absurd h' (Rat.not_lt.2 h),fun _=>rfl⟩
theorem aa5 {i:Nat} {v:Rat} {z:List Rat}:N3 (p9 i 2 v) z=true↔z.getD i 0=v:=by
 rw [a0g,ah5]
 show (z.getD i 0<v→(2:Int)=1)∧(v<z.getD i 0→(2:Int)=0)↔_
 constructor
 ·rintro ⟨h,h2⟩
  have q1:¬z.getD i 0<v:=fun h'=>absurd (h h') (by decide)
  have q2:¬v<z.getD i 0:=fun h'=>absurd (h2 h') (by decide)
  grind
 ·intro h;exact ⟨fun h'=>by grind,fun h'=>by grind⟩
theorem stock_holds {e:Ev} (h0:y3 e=0) {i:Nat} {x:p7} (hx:e.moves[i]? =some x) {z:List Rat}:N3 (q9 e i x) z=true↔z.getD i 0≤a1M e z i x.src.toNat∧(x.all=true→z.getD i 0=a1M e z i x.src.toNat):=by
 have hm:=O2 h0 (lg2 hx)
 have ms:=a0J hm
 have hv:j3 (q9 e i x).terms z=a1M e z i x.src.toNat - z.getD i 0:=by
  unfold q9
  simp only
  rw [M4,show j4 e x.src i=j4 e ((x.src.toNat:Nat):Int) i by rw [show ((x.src.toNat:Nat):Int)=x.src by omega],a8l h0]
  simp only [Int.toNat_natCast]
  have:((-1:Int):Rat)=-1:=rfl
  rw [this];grind
 have hz:(q9 e i x).value=0:=rfl
 have hk:(q9 e i x).kind=if x.all then 2 else 0:=rfl
 rw [a0g,hv,hz,hk]
 cases hal:x.all with
 |true=>
  simp only [if_true]
  constructor
  ·rintro ⟨h,h2⟩
   have q1:¬a1M e z i x.src.toNat - z.getD i 0<0:=fun h'=>absurd (h h') (by decide)
   have q2:¬0<a1M e z i x.src.toNat - z.getD i 0:=fun h'=>absurd (h2 h') (by decide)
   exact ⟨by grind,fun _=>by grind⟩
  ·rintro ⟨h,h2⟩
   have h2:=h2 trivial
   exact ⟨fun h'=>by grind,fun h'=>by grind⟩
 |false=>
  simp only [Bool.false_eq_true,if_false]
  constructor
  ·rintro ⟨h,h2⟩
   have q1:¬a1M e z i x.src.toNat - z.getD i 0<0:=fun h'=>absurd (h h') (by decide)
   exact ⟨by grind,fun h=>(by cases h)⟩
  ·rintro ⟨h,_⟩
   exact ⟨fun h'=>by grind,fun _=>trivial⟩
theorem move_holds {t:l9} {kind:Int} (h0:y3 t.ev=0) {i:Nat} {x:p7} (hx:t.ev.moves[i]? =some x) {z:List Rat} (hz:0≤z.getD i 0):
 (F7 t kind i x).all (fun w=>N3 w z)=true↔b3O t.ev x (z.getD i 0) (a1M t.ev z i x.src.toNat)∧b0v t kind i x (z.getD i 0):=by
 have hmo:=O2 h0 (lg2 hx)
 unfold F7
 simp only [List.all_append,Bool.and_eq_true,List.all_map]
 have e1:(if F2 t.ev x.src=0 then ([]:List x7) else [q9 t.ev i x]).all (fun w=>N3 w z)=true↔(F2 t.ev x.src≠0→z.getD i 0≤a1M t.ev z i x.src.toNat∧(x.all=true→z.getD i 0=a1M t.ev z i x.src.toNat)):=by
  by_cases hb:F2 t.ev x.src=0
  ·rw [if_pos hb];exact ⟨fun _ h=>absurd hb h,fun _=>rfl⟩
  ·rw [if_neg hb]
   simp only [List.all_cons,List.all_nil,Bool.and_true]
   rw [stock_holds h0 hx]
   exact ⟨fun h _=>h,fun h=>h hb⟩
 have e2:(J1 (D3 t.ev x) i).all (fun w=>N3 w z)=true↔b31 (D3 t.ev x) (z.getD i 0)=true:=by
  cases hiv:D3 t.ev x with
  |none=>exact ⟨fun _=>rfl,fun _=>rfl⟩
  |some p=>
   obtain ⟨lo,hi⟩:=p
   simp only [J1,b31,List.all_cons,List.all_nil,Bool.and_true,decide_eq_true_eq]
   exact b14
 have e3:(i9 t.finds kind i).all ((fun w=>N3 w z) ∘ fun g:Int=>p9 i 0 (g:Rat))=true↔∀g ∈ i9 t.finds kind i,(g:Rat)≤z.getD i 0:=by
  rw [List.all_eq_true]
  exact ⟨fun h g hg=>a9Q.1 (h g hg),fun h g hg=>a9Q.2 (h g hg)⟩
 have e4:(List.replicate (n8 t.cleans kind i) (p9 i 2 ((0:Int):Rat))).all (fun w=>N3 w z)=true↔(0<n8 t.cleans kind i→z.getD i 0=0):=by
  rw [List.all_eq_true]
  constructor
  ·intro h hc;exact aa5.1 (h _ (List.mem_replicate.2 ⟨by omega,rfl⟩))
  ·intro h w hw
   obtain ⟨h1,rfl⟩:=List.mem_replicate.1 hw
   exact aa5.2 (h (by omega))
 rw [e1,e2,e3,e4]
 constructor
 ·rintro ⟨⟨⟨q1,q2⟩,q3⟩,q4⟩
  exact ⟨⟨hz,fun h=>(q1 h).1,fun h=>(q1 (aD9 hmo h)).2 h⟩,⟨q2,q3,q4⟩⟩
 ·rintro ⟨p1,p2⟩
  exact ⟨⟨⟨fun h=>⟨p1.most h,p1.all⟩,p2.cap⟩,p2.fin⟩,p2.cln⟩
theorem S3 {t:l9} {kind:Int} {q:x7→Bool}:∀n,n≤t.ev.moves.length→((o5 t kind n).all q=true↔∀i x,i<n→t.ev.moves[i]? =some x→(F7 t kind i x).all q=true)
 |0,_=>⟨fun _ i x h=>by omega,fun _=>rfl⟩
 |n+1,h=>by
  obtain ⟨y,hy⟩:∃y,t.ev.moves[n]? =some y:=⟨_,lg0 (by omega)⟩
  unfold o5
  rw [hy]
  simp only [List.all_append,Bool.and_eq_true]
  rw [S3 n (by omega)]
  constructor
  ·rintro ⟨h1,h2⟩ i x hi hx
   rcases Nat.lt_or_ge i n with h3|h3
   ·exact h1 i x h3 hx
   ·obtain rfl:i=n:=by omega
    rw [hy] at hx;injection hx with hx;subst hx;exact h2
  ·intro h1
   exact ⟨fun i x hi hx=>h1 i x (by omega) hx,h1 n y (by omega) hy⟩
theorem a8h {last n i:Int} {c:Rat} (h1:last<i) (h2:i<n) (h3:c≠0):e7 last n [(i,c)]=true:=by
 unfold e7
 simp [h1,h2,h3,e7]
theorem a3r {n:Int} {c:Rat} {i:Int} (h2:i<n) (h3:c≠0):∀{l:List (Int × Rat)} {last:Int},e7 last n l=true→last<i→(∀ t ∈ l,t.1<i)→e7 last n (l++[(i,c)])=true
 |[],last,_,h,_=>a8h h h2 h3
 |t::r,last,h,h1,ht=>by
  unfold e7 at h
  simp only [Bool.and_eq_true,decide_eq_true_eq] at h
  show e7 last n (t::(r++[(i,c)]))=true
  unfold e7
  simp only [Bool.and_eq_true,decide_eq_true_eq]
  exact ⟨h.1,a3r h2 h3 h.2 (ht t (by simp)) fun u hu=>ht u (by simp [hu])⟩
theorem a7M:((1:Int):Rat)≠0:=by decide
theorem a6B:((-1:Int):Rat)≠0:=by decide
theorem a4a {e:Ev} {p:Int} {n:Int}:∀k:Nat,(k:Int)≤n→e7 (-1) n (j4 e p k)=true∧∀t ∈ j4 e p k,t.1<(k:Int)
 |0,_=>⟨rfl,fun t ht=>by cases ht⟩
 |k+1,h=>by
  obtain ⟨h1,h2⟩:=a4a (e:=e) (p:=p) (n:=n) k (by omega)
  have h3:∀c:Rat,c≠0→e7 (-1) n (j4 e p k++[((k:Int),c)])=true∧∀t ∈ j4 e p k++[((k:Int),c)],t.1<((k+1:Nat):Int):=fun c hc=>
   ⟨a3r (by omega) hc h1 (by omega) h2,fun t ht=>by
     rcases List.mem_append.1 ht with ht|ht
     ·have:=h2 t ht;omega
     ·simp at ht;subst ht;simp;omega⟩
  unfold j4
  cases hx:e.moves[k]? with
  |none=>exact ⟨h1,fun t ht=>by have:=h2 t ht;omega⟩
  |some y=>
   simp only
   split
   ·exact h3 _ a7M
   ·split
    ·exact h3 _ a6B
    ·exact ⟨h1,fun t ht=>by have:=h2 t ht;omega⟩
theorem aw8 {t:l9} {kind:Int} {i:Nat} {x:p7} {n:Int} (hi:(i:Int)<n):(F7 t kind i x).all (u9 n)=true:=by
 have ho:∀(k:Int) (v:Rat),0≤k→k<3→u9 n (p9 i k v)=true:=fun k v h1 h2=>by
  unfold u9 p9
  simp only [Bool.and_eq_true,decide_eq_true_eq]
  exact ⟨⟨a8h (by omega) hi a7M,h1⟩,h2⟩
 unfold F7
 simp only [List.all_append,Bool.and_eq_true,List.all_eq_true]
 refine ⟨⟨⟨fun w hw=>?_,fun w hw=>?_⟩,fun w hw=>?_⟩,fun w hw=>?_⟩
 ·by_cases hb:F2 t.ev x.src=0
  ·rw [if_pos hb] at hw;cases hw
  ·rw [if_neg hb] at hw
   simp at hw
   subst hw
   obtain ⟨h1,h2⟩:=a4a (e:=t.ev) (p:=x.src) (n:=n) i (by omega)
   unfold u9 q9
   simp only [Bool.and_eq_true,decide_eq_true_eq]
   refine ⟨⟨a3r hi a6B h1 (by omega) h2,?_⟩,?_⟩<;>split<;>decide
 ·cases hiv:D3 t.ev x with
  |none=>rw [hiv] at hw;cases hw
  |some p=>
   obtain ⟨lo,hi⟩:=p
   rw [hiv] at hw
   simp [J1] at hw
   subst hw
   exact ho 1 hi (by decide) (by decide)
 ·obtain ⟨g,_,rfl⟩:=List.mem_map.1 hw
  exact ho 0 _ (by decide) (by decide)
 ·obtain ⟨_,rfl⟩:=List.mem_replicate.1 hw
  exact ho 2 _ (by decide) (by decide)
theorem af9 {t:l9} {kind:Int} {i:Nat} {x:p7}:(F7 t kind i x).length≤2+t.finds.length+t.cleans.length:=by
 unfold F7
 have h1:(J1 (D3 t.ev x) i).length≤1:=by unfold J1;split<;>simp
 have h2:(i9 t.finds kind i).length≤t.finds.length:=by unfold i9;rw [List.length_map];exact List.length_filter_le _ _
 have h3:n8 t.cleans kind i≤t.cleans.length:=List.length_filter_le _ _
 have h4:(if F2 t.ev x.src=0 then ([]:List x7) else [q9 t.ev i x]).length≤1:=by split<;>simp
 simp only [List.length_append,List.length_map,List.length_replicate]
 omega
theorem a13 {t:l9} {kind:Int}:∀n,(o5 t kind n).length≤n*(2+t.finds.length+t.cleans.length)
 |0=>by simp [o5]
 |n+1=>by
  have ih:=a13 (t:=t) (kind:=kind) n
  unfold o5
  rw [Nat.succ_mul]
  cases hx:t.ev.moves[n]? with
  |none=>simp only;omega
  |some x=>
   have:=af9 (t:=t) (kind:=kind) (i:=n) (x:=x)
   simp only [List.length_append]
   omega
theorem ac7 {t:l9} {kind:Int} (hm:t.ev.moves.length≤14) (hf:t.finds.length≤20) (hc:t.cleans.length≤50):f9 (e8 t kind)=true:=by
 unfold f9 e8
 have h1:=a13 (t:=t) (kind:=kind) t.ev.moves.length
 have h2:t.ev.moves.length*(2+t.finds.length+t.cleans.length)≤14*72:=Nat.mul_le_mul hm (by omega)
 simp only [Bool.and_eq_true,decide_eq_true_eq]
 refine ⟨⟨⟨by omega,by omega⟩,by omega⟩,?_⟩
 rw [S3 _ (Nat.le_refl _)]
 intro i x hi hx
 exact aw8 (by omega)
theorem sys_holds {t:l9} {kind:Int} {z:List Rat} (ht:p6 t=0) (k0:0≤kind) (k1:kind<8) (hm:t.ev.moves.length≤14):i7 (e8 t kind) z=true↔b9s t kind z:=by
 obtain ⟨q1,q2,q3,q4,q5⟩:=N7 ht
 unfold i7
 rw [ac7 hm q2 q3]
 simp only [Bool.true_and,Bool.and_eq_true,decide_eq_true_eq]
 constructor
 ·rintro ⟨⟨h1,h2⟩,h3⟩
  have hl:z.length=t.ev.moves.length:=by have:(z.length:Int)=t.ev.moves.length:=h1;omega
  refine ⟨ht,k0,k1,hl,fun i x hx=>?_⟩
  have hi:i<t.ev.moves.length:=(lg1 hx).1
  have hz:0≤z.getD i 0:=of_decide_eq_true (List.all_eq_true.1 h2 _ (lg2 (getD_some (by omega))))
  exact (move_holds q1 hx hz).1 ((S3 _ (Nat.le_refl _)).1 h3 i x hi hx)
 ·intro h
  refine ⟨⟨?_,?_⟩,?_⟩
  ·show (z.length:Int)=t.ev.moves.length
   rw [h.len]
  ·rw [List.all_eq_true]
   intro v hv
   obtain ⟨i,hi,rfl⟩:=List.getElem_of_mem hv
   obtain ⟨x,hx⟩:∃x,t.ev.moves[i]? =some x:=⟨_,lg0 (by rw [← h.len];exact hi)⟩
   have:=(h.step i x hx).1.pos
   rw [lg3,lg0 hi] at this
   exact decide_eq_true this
  ·show (o5 t kind t.ev.moves.length).all _=true
   rw [S3 _ (Nat.le_refl _)]
   intro i x hi hx
   obtain ⟨a,b⟩:=h.step i x hx
   exact (move_holds q1 hx a.pos).2 ⟨a,b⟩
end
section
open Go.RowKit
def T1.row (f:T1):List T:=[ti f.mv,ti f.kind,ti f.grams]
def K2.row (c:K2):List T:=[ti c.mv,ti c.kind]
abbrev a8j (l:List T1):T:=.sl 3 .any (l.map T1.row)
abbrev a5s (l:List K2):T:=.sl 2 .any (l.map K2.row)
def trT (t:l9):List T:=[ti t.ev.mats,ti t.ev.hhs,ti t.ev.scs,a3N t.ev.places,a20 t.ev.moves,W7 t.ev.certs,H7 t.ev.recalls,a0i t.ev.purities,a8j t.finds,a5s t.cleans]
def trC (t:l9):List C:=[.t (ti t.ev.mats),.t (ti t.ev.hhs),.t (ti t.ev.scs),.t (a3N t.ev.places),.t (a20 t.ev.moves),.t (W7 t.ev.certs),.t (H7 t.ev.recalls),.t (a0i t.ev.purities),.t (a8j t.finds),.t (a5s t.cleans)]
abbrev trS (t:l9):S:=.agg (trC t)
structure l9.Sized (t:l9):Prop where
 ev:t.ev.Sized
 f:t.finds.length≤1000000
 c:t.cleans.length≤1000000
theorem a0M {x:Rat}:sgR x=0↔x=0:=by unfold sgR;split<;>(try split)<;>simp_all<;>grind
theorem aZ8 (e:Ev) (mv kind:Int):b9 Tryz.prog 59 [evS e,a9 .i64 mv,a9 .i64 kind] [] (a9 .i64 (a02 e mv kind)) []:=by
 have l2:(e.moves.map p7.row).length=e.moves.length:=by simp
 (refine a8 a7 Tryz.func59 rfl (by decide) ?_;(conv=>whnf);repeat ((first|refine b0x ?_|refine zy ?_);conv=>whnf))
 repeat' first|(refine zd ?_ ?_<;>intro h<;>first|exact zc h|(exfalso;omega)|conv=>whnf)|((first|refine zz ?_|refine zy ?_);conv=>whnf)
 all_goals (refine j8 ?_;unfold a02;(repeat' split)<;>first|rfl|omega)
theorem av1 (t:l9) (hs:t.Sized):b9 Tryz.prog 16 [trS t] [] (a9 .i64 (p6 t)) []:=by
 have l1:=hs.f
 have l2:=hs.c
 have ck:=aL1 t.ev hs.ev
 have m1:(t.finds.map T1.row).length=t.finds.length:=by simp
 have m2:(t.cleans.map K2.row).length=t.cleans.length:=by simp
 by_cases h0:y3 t.ev≠0
 ·have e1:p6 t=y3 t.ev:=by unfold p6;rw [if_pos h0]
  rw [e1]
  (refine a8 a7 Tryz.func16 rfl (by decide) ?_;(conv=>whnf);repeat ((first|refine b0x ?_|refine zy ?_);conv=>whnf))
  repeat' first|(refine zd ?_ ?_<;>intro h<;>first|exact zc h|(exfalso;omega)|conv=>whnf)|((first|refine zz ?_|refine qp ck ?_|refine zy ?_);conv=>whnf)
  all_goals first
   |(exfalso;omega)
   |exact j8 rfl
 have h0:y3 t.ev=0:=by omega
 rw [h0] at ck
 by_cases h1:20<t.finds.length∨50<t.cleans.length
 ·have e1:p6 t=6:=by unfold p6;rw [if_neg (by omega),if_pos h1]
  rw [e1]
  (refine a8 a7 Tryz.func16 rfl (by decide) ?_;(conv=>whnf);repeat ((first|refine b0x ?_|refine zy ?_);conv=>whnf))
  repeat' first|(refine zd ?_ ?_<;>intro h<;>first|exact zc h|(exfalso;omega)|conv=>whnf)|((first|refine zz ?_|refine qp ck ?_|refine zy ?_);conv=>whnf)
  all_goals first
   |(exfalso;omega)
   |exact j8 rfl
 have e1:p6 t=if K4 t.ev t.finds≠0 then K4 t.ev t.finds else L2 t.ev t.cleans:=by unfold p6;rw [if_neg (by omega),if_neg h1]
 rw [e1]
 (refine a8 a7 Tryz.func16 rfl (by decide) ?_;(conv=>whnf);repeat ((first|refine b0x ?_|refine zy ?_);conv=>whnf))
 repeat' first|(refine zd ?_ ?_<;>intro h<;>first|exact zc h|(exfalso;omega)|conv=>whnf)|((first|refine zz ?_|refine qp ck ?_|refine zy ?_);conv=>whnf)
 all_goals try (exfalso;omega)
 refine f6 a7 (fun k=>([J,S.c (C.t (T.ptr (trT t))),J,J,J,J,J,J,J,J,J,J,J,J,J,J,J,J,J,J,J,J,J,J,J,J,J,S.c (C.t (a8j t.finds)),a9 .i64 t.finds.length,a9 .i64 k,J,J,J,J,J,J,J,J,J,J,J,J,J,J,J,J,J,J,J,J,J,J,J,J,J,J,J,J,J,J,J,J,J,J,J,J,J,J,J,J],[])) t.finds.length (fun k=>K4 t.ev t.finds=K4 t.ev (t.finds.drop k)) [] rfl
  ⟨rfl,rfl,trivial,⟨rfl,rfl,c9 (by simp),rfl,trivial⟩⟩ ?_
 intro k hk hI
 by_cases hlt:k<t.finds.length
 ·obtain ⟨f,hf⟩:∃f,t.finds[k]? =some f:=⟨_,lg0 hlt⟩
  have mk:=aZ8 t.ev f.mv f.kind
  rw [Y7 hf,K4] at hI
  by_cases hm:a02 t.ev f.mv f.kind≠0
  ·rw [if_pos hm] at hI
   rw [hI,if_pos hm]
   conv=>whnf
   repeat' first|(refine zd ?_ ?_<;>intro h<;>first|exact zc h|(exfalso;omega)|conv=>whnf)|((first|refine zz ?_|refine qp mk ?_|refine d7 hf ?_|refine zy ?_);conv=>whnf)
   all_goals first
    |(exfalso;omega)
    |exact j8 rfl
  ·rw [if_neg hm] at hI
   by_cases hg:f.grams<1∨1099511627776<f.grams
   ·rw [if_pos hg] at hI
    rw [hI]
    conv=>whnf
    repeat' first|(refine zd ?_ ?_<;>intro h<;>first|exact zc h|(exfalso;omega)|conv=>whnf)|((first|refine zz ?_|refine qp mk ?_|refine d7 hf ?_|refine zy ?_);conv=>whnf)
    all_goals first
     |(exfalso;omega)
     |exact j8 rfl
   ·rw [if_neg hg] at hI
    conv=>whnf
    repeat' first|(refine zd ?_ ?_<;>intro h<;>first|exact zc h|(exfalso;omega)|conv=>whnf)|((first|refine zz ?_|refine qp mk ?_|refine d7 hf ?_|refine zy ?_);conv=>whnf)
    all_goals first
     |(exfalso;omega)
     |exact ⟨hlt,hI,[],rfl,rfl,trivial,⟨rfl,rfl,rfl,rfl,trivial⟩⟩
 ·rw [List.drop_of_length_le (by omega)] at hI
  have hI:K4 t.ev t.finds=0:=hI
  rw [hI,if_neg (by omega)]
  conv=>whnf
  repeat' first|(refine zd ?_ ?_<;>intro h<;>first|exact zc h|(exfalso;omega)|conv=>whnf)|((first|refine zz ?_|refine zy ?_);conv=>whnf)
  all_goals try (exfalso;omega)
  refine f6 a7 (fun k=>([J,S.c (C.t (T.ptr (trT t))),J,J,J,J,J,J,J,J,J,J,J,J,J,J,J,J,J,J,J,J,J,J,J,J,J,J,J,J,J,J,J,J,J,J,J,J,J,J,J,J,J,J,J,J,J,J,J,J,J,J,J,S.c (C.t (a5s t.cleans)),a9 .i64 t.cleans.length,a9 .i64 k,J,J,J,J,J,J,J,J,J,J,J,J,J,J],[])) t.cleans.length (fun k=>L2 t.ev t.cleans=L2 t.ev (t.cleans.drop k)) [] rfl
   ⟨rfl,rfl,trivial,⟨rfl,rfl,c9 (by simp),rfl,trivial⟩⟩ ?_
  intro j hj hJ
  by_cases hjt:j<t.cleans.length
  ·obtain ⟨c,hc⟩:∃c,t.cleans[j]? =some c:=⟨_,lg0 hjt⟩
   have mk:=aZ8 t.ev c.mv c.kind
   rw [Y7 hc,L2] at hJ
   by_cases hm:a02 t.ev c.mv c.kind≠0
   ·rw [if_pos hm] at hJ
    rw [hJ]
    conv=>whnf
    repeat' first|(refine zd ?_ ?_<;>intro h<;>first|exact zc h|(exfalso;omega)|conv=>whnf)|((first|refine zz ?_|refine qp mk ?_|refine d7 hc ?_|refine zy ?_);conv=>whnf)
    all_goals first
     |(exfalso;omega)
     |exact j8 rfl
   ·rw [if_neg hm] at hJ
    conv=>whnf
    repeat' first|(refine zd ?_ ?_<;>intro h<;>first|exact zc h|(exfalso;omega)|conv=>whnf)|((first|refine zz ?_|refine qp mk ?_|refine d7 hc ?_|refine zy ?_);conv=>whnf)
    all_goals first
     |(exfalso;omega)
     |exact ⟨hjt,hJ,[],rfl,rfl,trivial,⟨rfl,rfl,rfl,rfl,trivial⟩⟩
  ·rw [List.drop_of_length_le (by omega)] at hJ
   have hJ:L2 t.ev t.cleans=0:=hJ
   rw [hJ]
   conv=>whnf
   repeat' first|(refine zd ?_ ?_<;>intro h<;>first|exact zc h|(exfalso;omega)|conv=>whnf)|((first|refine zz ?_|refine zy ?_);conv=>whnf)
   all_goals first
    |(exfalso;omega)
    |exact j8 rfl
theorem b8b (e:Ev) {i:Nat} {x:p7} (h0:y3 e=0) (hx:e.moves[i]? =some x):b9 Tryz.prog 70 [evS e,a9 .i64 i] [] (e6 (decide (F2 e x.src=0))) []:=by
 have hm:=O2 h0 (lg2 hx)
 have ms:=a0J hm
 obtain ⟨s,hsn⟩:∃s:Nat,x.src=s:=⟨x.src.toNat,by omega⟩
 obtain ⟨pl,hpl⟩:∃pl,e.places[s]? =some pl:=⟨_,lg0 (by omega)⟩
 have hkd:F2 e x.src=pl.kind:=by rw [hsn];exact a9n hpl
 rw [hkd]
 (refine a8 a7 Tryz.func70 rfl (by decide) ?_;(conv=>whnf);repeat ((first|refine b0x ?_|refine zy ?_);conv=>whnf))
 repeat' first|(refine zd ?_ ?_<;>intro h<;>first|exact zc h|(exfalso;omega)|conv=>whnf)|((first|refine zz ?_|refine d7 hx ?_|refine x3 hsn hpl ?_|refine zy ?_);conv=>whnf)
 all_goals (refine c6 ?_;simp [*])
def k6 (x:Int × Rat):List T:=ti x.1::j7 (fz x.2)
abbrev aj9 (l:List (Int × Rat)):T:=.sl 5 .any (l.map k6)
def s7 (w:x7):List T:=aj9 w.terms::ti w.kind::j7 (fz w.value)
def b8S (w:x7):List C:=.t (aj9 w.terms)::.t (ti w.kind)::frC (fz w.value)
abbrev as2 (w:x7):S:=.agg (b8S w)
abbrev B2 (l:List x7):T:=.sl 6 .any (l.map s7)
abbrev F0 (s:f5):S:=.agg [.t (ti s.n),.t (B2 s.rows)]
end
section
open Go.RowKit
abbrev zR:Rat:=((0:Int):Rat)
end
section
open Go.RowKit
theorem T4 {e:Ev} (h:y3 e=0):1≤e.mats∧e.mats≤6∧e.places.length≤100∧e.moves.length≤200:=by
 obtain ⟨h1,h2,_⟩:=a4l h
 unfold a0x at h1
 simp only [Bool.or_eq_false_iff,decide_eq_false_iff_not] at h1
 omega
end
section
open Go.RowKit
abbrev j2 (l:List (Int × Rat)):S:=.c (.t (aj9 l))
def a1v (l:List (Int × Rat)):Nat→Int
 |0=>-1
 |k+1=>((l[k]?).map (·.1)).getD 0
theorem O4 {l:List (Int × Rat)} {k:Nat} {t:Int × Rat} (h:l[k]? =some t):a1v l (k+1)=t.1:=by simp [a1v,h]
theorem I0 (l:List (Int × Rat)) (n:Int) (hl:l.length≤1000000) (hB:∀t ∈ l,rl t.2≤200):b9 Tryz.prog 161 [j2 l,a9 .i64 n] [] (e6 (decide (0≤n) && e7 (-1) n l)) []:=by
 have m1:(l.map k6).length=l.length:=by simp
 by_cases h0:n<0
 ·rw [decide_eq_false (by omega),Bool.false_and]
  (refine a8 a7 Tryz.func161 rfl (by decide) ?_;(conv=>whnf);repeat ((first|refine b0x ?_|refine zy ?_);conv=>whnf))
  repeat' first|(refine zd ?_ ?_<;>intro h<;>first|exact zc h|(exfalso;omega)|conv=>whnf)|((first|refine zz ?_|refine zy ?_);conv=>whnf)
  all_goals first
   |(exfalso;omega)
   |exact c6 rfl
 rw [decide_eq_true (by omega),Bool.true_and]
 (refine a8 a7 Tryz.func161 rfl (by decide) ?_;(conv=>whnf);repeat ((first|refine b0x ?_|refine zy ?_);conv=>whnf))
 repeat' first|(refine zd ?_ ?_<;>intro h<;>first|exact zc h|(exfalso;omega)|conv=>whnf)|((first|refine zz ?_|refine zy ?_);conv=>whnf)
 all_goals try (exfalso;omega)
 refine f6 a7 (fun k=>([J,a9 .i64 n,J,J,J,a9 .i64 (a1v l k),J,J,J,J,j2 l,a9 .i64 l.length,a9 .i64 k,J,J,J,J,J,J,J,J,J,J,J,J,J,J,J,J,J,J,J,J,J,J],[])) l.length (fun k=>e7 (-1) n l=e7 (a1v l k) n (l.drop k)) [] rfl
  ⟨rfl,rfl,trivial,⟨rfl,rfl,rfl,c9 (by simp),rfl,trivial⟩⟩ ?_
 intro k hk hI
 by_cases hlt:k<l.length
 ·obtain ⟨t,ht⟩:∃t,l[k]? =some t:=⟨_,lg0 hlt⟩
  obtain ⟨v,c⟩:=t
  have bc:=hB _ (lg2 ht)
  simp only at bc
  have sg:=K9 c (by omega)
  have sz:=a0M (x:=c)
  rw [Y7 ht,e7] at hI
  simp only at hI
  by_cases hok:a1v l k<v∧v<n∧c≠0
  ·rw [decide_eq_true hok.1,decide_eq_true hok.2.1,decide_eq_true hok.2.2] at hI
   simp only [Bool.true_and] at hI
   have hne:sgR c≠0:=fun h=>hok.2.2 (sz.1 h)
   obtain ⟨q1,q2,_⟩:=hok
   conv=>whnf
   repeat' first|(refine zd ?_ ?_<;>intro h<;>first|exact zc h|(exfalso;omega)|conv=>whnf)|((first|refine zz ?_|refine qp sg ?_|refine d7 ht ?_|refine zy ?_);conv=>whnf)
   all_goals first
    |(exfalso;omega)
    |exact ⟨hlt,by rw [O4 ht];exact hI,[],rfl,rfl,trivial,⟨rfl,c9 (by rw [O4 ht]),rfl,rfl,rfl,trivial⟩⟩
  ·have hF:e7 (-1) n l=false:=by
    rw [hI]
    rw [← Bool.not_eq_true]
    simp only [Bool.and_eq_true,decide_eq_true_eq]
    exact fun h=>hok ⟨h.1.1.1,h.1.1.2,h.1.2⟩
   rw [hF]
   have hor:v≤a1v l k∨n≤v∨sgR c=0:=by
    by_cases q1:a1v l k<v
    ·by_cases q2:v<n
     ·refine .inr (.inr (sz.2 ?_))
      by_cases q3:c=0
      ·exact q3
      ·exact absurd ⟨q1,q2,q3⟩ hok
     ·exact .inr (.inl (by omega))
    ·exact .inl (by omega)
   clear hI hok
   conv=>whnf
   repeat' first|(refine zd ?_ ?_<;>intro h<;>first|exact zc h|(exfalso;omega)|conv=>whnf)|((first|refine zz ?_|refine qp sg ?_|refine d7 ht ?_|refine zy ?_);conv=>whnf)
   all_goals first
    |(exfalso;omega)
    |exact c6 rfl
 ·rw [List.drop_of_length_le (by omega)] at hI
  have hI:e7 (-1) n l=true:=hI
  rw [hI]
  conv=>whnf
  repeat' first|(refine zd ?_ ?_<;>intro h<;>first|exact zc h|(exfalso;omega)|conv=>whnf)|((first|refine zz ?_|refine zy ?_);conv=>whnf)
  all_goals first
   |(exfalso;omega)
   |exact c6 rfl
structure U7 (s:f5):Prop where
 n0:s.rows.length≤1000000
 t:∀w ∈ s.rows,w.terms.length≤100∧(∀ t ∈ w.terms,rl t.2≤200)∧rl w.value≤200
theorem a1D (s:f5) (hb:U7 s):b9 Tryz.prog 108 [F0 s] [] (e6 (f9 s)) []:=by
 have m1:(s.rows.map s7).length=s.rows.length:=by simp
 have l1:=hb.n0
 by_cases h0:¬(0≤s.n∧s.n≤1500∧s.rows.length≤6000)
 ·have e1:f9 s=false:=by
   unfold f9
   rw [← Bool.not_eq_true]
   simp only [Bool.and_eq_true,decide_eq_true_eq]
   exact fun h=>h0 ⟨h.1.1.1,h.1.1.2,h.1.2⟩
  rw [e1]
  (refine a8 a7 Tryz.func108 rfl (by decide) ?_;(conv=>whnf);repeat ((first|refine b0x ?_|refine zy ?_);conv=>whnf))
  repeat' first|(refine zd ?_ ?_<;>intro h<;>first|exact zc h|(exfalso;omega)|conv=>whnf)|((first|refine zz ?_|refine zy ?_);conv=>whnf)
  all_goals first
   |(exfalso;omega)
   |exact c6 rfl
 obtain ⟨c1,c2,c3⟩:=Decidable.not_not.1 h0
 have e1:f9 s=s.rows.all (u9 s.n):=by
  unfold f9
  rw [decide_eq_true c1,decide_eq_true c2,decide_eq_true c3];rfl
 rw [e1]
 clear h0
 (refine a8 a7 Tryz.func108 rfl (by decide) ?_;(conv=>whnf);repeat ((first|refine b0x ?_|refine zy ?_);conv=>whnf))
 repeat' first|(refine zd ?_ ?_<;>intro h<;>first|exact zc h|(exfalso;omega)|conv=>whnf)|((first|refine zz ?_|refine zy ?_);conv=>whnf)
 all_goals try (exfalso;omega)
 refine f6 a7 (fun k=>([J,S.c (C.t (T.ptr [ti s.n,B2 s.rows])),J,J,J,J,J,J,J,J,J,J,J,J,J,J,J,J,J,J,S.c (C.t (B2 s.rows)),a9 .i64 s.rows.length,a9 .i64 k,J,J,J,J,J,J,J,J,J,J,J,J,J,J,J,J,J,J,J,J,J,J,J,J,J,J],[])) s.rows.length (fun k=>(s.rows.take k).all (u9 s.n)=true) [] rfl
  ⟨rfl,rfl,trivial,⟨rfl,rfl,c9 (by simp),rfl,trivial⟩⟩ ?_
 intro k hk hI
 by_cases hlt:k<s.rows.length
 ·obtain ⟨w,hw⟩:∃w,s.rows[k]? =some w:=⟨_,lg0 hlt⟩
  obtain ⟨b1,b2,b3⟩:=hb.t w (lg2 hw)
  have rt:=I0 w.terms s.n (by omega) b2
  rw [decide_eq_true c1,Bool.true_and] at rt
  have rv:=F4 w.value (by omega)
  cases hrt:e7 (-1) s.n w.terms with
  |false=>
   rw [hrt] at rt
   have hF:u9 s.n w=false:=by unfold u9;rw [hrt];rfl
   rw [t7 hw hF]
   conv=>whnf
   repeat' first|(refine zd ?_ ?_<;>intro h<;>first|exact zc h|(exfalso;omega)|conv=>whnf)|((first|refine zz ?_|refine qp rt ?_|refine qp rv ?_|refine d7 hw ?_|refine zy ?_);conv=>whnf)
   all_goals first
    |(exfalso;omega)
    |(exfalso;simp_all;done)
    |exact c6 rfl
  |true=>
   rw [hrt] at rt
   by_cases hk3:0≤w.kind∧w.kind<3
   ·have hT:u9 s.n w=true:=by unfold u9;rw [hrt,decide_eq_true hk3.1,decide_eq_true hk3.2];rfl
    conv=>whnf
    repeat' first|(refine zd ?_ ?_<;>intro h<;>first|exact zc h|(exfalso;omega)|conv=>whnf)|((first|refine zz ?_|refine qp rt ?_|refine qp rv ?_|refine d7 hw ?_|refine zy ?_);conv=>whnf)
    all_goals first
     |(exfalso;omega)
     |(exfalso;simp_all;done)
     |exact ⟨hlt,by rw [o4 hw,hI,hT];rfl,[],rfl,rfl,trivial,⟨rfl,rfl,rfl,rfl,trivial⟩⟩
   ·have hF:u9 s.n w=false:=by
     unfold u9
     rw [← Bool.not_eq_true]
     simp only [Bool.and_eq_true,decide_eq_true_eq]
     exact fun h=>hk3 ⟨h.1.2,h.2⟩
    rw [t7 hw hF]
    conv=>whnf
    repeat' first|(refine zd ?_ ?_<;>intro h<;>first|exact zc h|(exfalso;omega)|conv=>whnf)|((first|refine zz ?_|refine qp rt ?_|refine qp rv ?_|refine d7 hw ?_|refine zy ?_);conv=>whnf)
    all_goals first
     |(exfalso;omega)
     |(exfalso;simp_all;done)
     |exact c6 rfl
 ·rw [lg4 (by omega)] at hI
  rw [hI]
  conv=>whnf
  repeat' first|(refine zd ?_ ?_<;>intro h<;>first|exact zc h|(exfalso;omega)|conv=>whnf)|((first|refine zz ?_|refine zy ?_);conv=>whnf)
  all_goals first
   |(exfalso;omega)
   |exact c6 rfl
theorem aP2 (rs:List Fr) (hl:rs.length≤1000000) (g:FuncId) (caps:List T) (q:Fr→Bool) (hg:∀r ∈ rs,b9 Tryz.prog g (frS r::caps.map fun x=>.c (.t x)) [] (e6 (q r)) []):
 b9 Tryz.prog 243 [.c (.t (M8 rs)),.c (.t (.fn (.func g) caps))] [] (a9 .i64 (U6 q rs 0)) []:=by
 have l1:(rs.map j7).length=rs.length:=by simp
 (refine a8 a7 Tryz.func243 rfl (by decide) ?_;(conv=>whnf);repeat (refine zy ?_;conv=>whnf))
 repeat' first|(refine zd ?_ ?_<;>intro h<;>first|exact zc h|(exfalso;omega)|conv=>whnf)|((first|refine zz ?_|refine zy ?_);conv=>whnf)
 refine f6 a7 (fun k=>([S.c (C.t (M8 rs)),S.c (C.t (T.fn (.func g) caps)),J,J,J,J,J,a9 .i64 rs.length,a9 .i64 k,J,J,J,J,J,J,J,J,J,J],[])) rs.length (fun k=>U6 q (rs.drop k) k=U6 q rs 0) [] rfl
  ⟨rfl,rfl,trivial,⟨j0 rfl,j0 rfl,c9 (by simp),rfl,trivial⟩⟩ ?_
 intro k hk hI
 by_cases hlt:k<rs.length
 ·obtain ⟨r,hr⟩:∃r,rs[k]? =some r:=⟨_,lg0 hlt⟩
  have hd:rs.drop k=r::rs.drop (k+1):=by
   rw [List.drop_eq_getElem_cons hlt]
   rw [lg0 hlt] at hr
   injection hr with hr
   rw [hr]
  have hgr:=hg r (lg2 hr)
  have ha:(frS r::caps.map fun x=>S.c (C.t x)).all S.isT=true:=by simp [S.isT,C.isT,j7]
  rw [hd] at hI
  have hI:(if q r then (k:Int) else U6 q (rs.drop (k+1)) (k+1))=U6 q rs 0:=hI
  cases hq:q r with
  |true=>
   rw [hq] at hgr hI
   conv=>whnf
   repeat' first|(refine zd ?_ ?_<;>intro h<;>first|exact zc h|(exfalso;omega)|conv=>whnf)|((first|refine zz ?_|refine .inl ⟨_,_,F8 hgr ha rfl,?_⟩|refine d7 hr ?_|refine zy ?_);conv=>whnf)
   all_goals first
    |(exfalso;omega)
    |exact j8 hI
  |false=>
   rw [hq] at hgr hI
   conv=>whnf
   repeat' first|(refine zd ?_ ?_<;>intro h<;>first|exact zc h|(exfalso;omega)|conv=>whnf)|((first|refine zz ?_|refine .inl ⟨_,_,F8 hgr ha rfl,?_⟩|refine d7 hr ?_|refine zy ?_);conv=>whnf)
   all_goals first
    |(exfalso;omega)
    |exact ⟨hlt,by simpa using hI,[],rfl,rfl,trivial,⟨rfl,rfl,rfl,rfl,trivial⟩⟩
 ·have hke:k=rs.length:=by omega
  subst hke
  rw [List.drop_of_length_le (Nat.le_refl _)] at hI
  conv=>whnf
  repeat' first|(refine zd ?_ ?_<;>intro h<;>first|exact zc h|(exfalso;omega)|conv=>whnf)|((first|refine zz ?_|refine zy ?_);conv=>whnf)
  all_goals first
   |(exfalso;omega)
   |exact j8 hI
theorem ai4 (rs:List Fr) (hl:rs.length≤1000000) (g:FuncId) (caps:List T) (q:Fr→Bool) (hg:∀r ∈ rs,b9 Tryz.prog g (frS r::caps.map fun x=>.c (.t x)) [] (e6 (q r)) []):
 b9 Tryz.prog 177 [.c (.t (M8 rs)),.c (.t (.fn (.func g) caps))] [] (e6 (rs.any q)) []:=by
 have ix:=aP2 rs hl g caps q hg
 (refine a8 a7 Tryz.func177 rfl (by decide) ?_;(conv=>whnf);repeat (refine zy ?_;conv=>whnf))
 repeat' first|(refine zd ?_ ?_<;>intro h<;>first|exact zc h|(exfalso;omega)|conv=>whnf)|((first|refine zz ?_|refine qp ix ?_|refine zy ?_);conv=>whnf)
 all_goals (refine c6 ?_;rw [← a4F q rs 0];simp;omega)
theorem aX3 (f:Fr) (lp:f.p.dl.length≤200000) (lq:f.q.dl.length≤200000):b9 Tryz.prog 178 (frS f::[].map fun x=>.c (.t x)) [] (e6 (!t6 f)) []:=by
 have r:=a5G f lp lq
 (refine a8 a7 Tryz.func178 rfl (by decide) ?_;(conv=>whnf);repeat ((first|refine b0x ?_|refine zy ?_);conv=>whnf))
 repeat' first|(refine zd ?_ ?_<;>intro h<;>first|exact zc h|(exfalso;omega)|conv=>whnf)|((first|refine zz ?_|refine qp r ?_|refine zy ?_);conv=>whnf)
 all_goals (refine c6 ?_;simp [*])
theorem a7f (z:List Fr) (hl:z.length≤1000000) (hd:∀f ∈ z,f.p.dl.length≤200000∧f.q.dl.length≤200000):b9 Tryz.prog 109 [k7 z] [] (e6 (z.all t6)) []:=by
 have ct:=ai4 z hl 178 [] _ (fun f hf=>aX3 f (hd f hf).1 (hd f hf).2)
 have e:(z.any fun f=>!t6 f)=!(z.all t6):=by rw [List.not_all_eq_any_not]
 rw [e] at ct
 cases hz:z.all t6<;>rw [hz] at ct<;>
 ·(refine a8 a7 Tryz.func109 rfl (by decide) ?_;(conv=>whnf);repeat ((first|refine b0x ?_|refine zy ?_);conv=>whnf))
  repeat' first|(refine zd ?_ ?_<;>intro h<;>first|exact zc h|(exfalso;omega)|conv=>whnf)|((first|refine zz ?_|refine qp ct ?_|refine zy ?_);conv=>whnf)
  all_goals exact c6 rfl
theorem a67 {n:Int}:∀{l:List (Int × Rat)} {last:Int},e7 last n l=true→∀t ∈ l,last<t.1∧t.1<n
 |[],_,_,t,ht=>by cases ht
 |u::r,last,h,t,ht=>by
  unfold e7 at h
  simp only [Bool.and_eq_true,decide_eq_true_eq] at h
  rcases List.mem_cons.1 ht with rfl|ht
  ·exact ⟨h.1.1.1,h.1.1.2⟩
  ·have:=a67 h.2 t ht
   omega
end
section
structure Fd where
 V:Nat→Rat
 A:Nat→Nat→Rat
 G:Nat→Rat
 O:Nat→Nat
 F:Nat→Nat
namespace Fd
def pRow (D:Fd) (r s j:Nat):Rat:=if j=s then 1 / D.A r s else D.A r j / D.A r s
def exch (D:Fd) (r s:Nat):Fd where
 V:=fun i=>if i=r then D.V r / D.A r s else D.V i - D.A i s*(D.V r / D.A r s)
 A:=fun i j=>if i=r then D.pRow r s j else if j=s then 0 - D.A i s*D.pRow r s s else D.A i j - D.A i s*D.pRow r s j
 G:=fun j=>if j=s then 0 - D.G s*D.pRow r s s else D.G j - D.G s*D.pRow r s j
 O:=fun i=>if i=r then D.F s else D.O i
 F:=fun j=>if j=s then D.O r else D.F j
end Fd
theorem B8 {f:Nat→Rat} {s:Nat}:∀{n:Nat},s<n→g8 f n=g8 (fun j=>if j=s then 0 else f j) n+f s
 |0,h=>by omega
 |n+1,h=>by
  simp only [g8]
  by_cases hs:s=n
  ·subst hs
   rw [if_pos rfl,f7 (n:=s) (f:=fun j=>if j=s then 0 else f j) (g:=f) fun m hm=>by rw [if_neg (by omega)]]
   grind
  ·rw [if_neg (show ¬n=s by omega),B8 (f:=f) (s:=s) (n:=n) (by omega)];grind
theorem E1 {f:Nat→Rat} (k:Rat):∀n:Nat,g8 (fun j=>k*f j) n=k*g8 f n
 |0=>by simp only [g8,Q4];grind
 |n+1=>by simp only [g8];rw [E1 k n];grind
theorem a0Y {f g:Nat→Rat}:∀n:Nat,g8 (fun j=>f j+g j) n=g8 f n+g8 g n
 |0=>by simp only [g8,Q4];grind
 |n+1=>by simp only [g8];rw [a0Y n];grind
theorem u6 {f:Nat→Rat}:∀{n:Nat},(∀ j,j<n→f j=0)→g8 f n=0
 |0,_=>by simp only [g8,Q4]
 |n+1,h=>by simp only [g8];rw [u6 fun j hj=>h j (by omega),h n (by omega)];grind
theorem a5C {f:Nat→Rat}:∀{n:Nat},(∀ j,j<n→f j≤0)→g8 f n≤0
 |0,_=>by simp only [g8,Q4];grind
 |n+1,h=>by
  simp only [g8]
  have h1:=a5C (f:=f) (n:=n) fun j hj=>h j (by omega)
  have h2:=h n (by omega)
  grind
theorem b2o {f:Nat→Rat} {n s:Nat} (h:∀j,j<n→f j≤0) (hs:s<n) (h0:f s<0):g8 f n<0:=by
 rw [B8 hs]
 have:=a5C (f:=fun j=>if j=s then 0 else f j) (n:=n) fun j hj=>by split;grind;exact h j hj
 grind
theorem b1D {f:Nat→Rat} {n s:Nat} (h:∀j,j<n→0≤f j) (hs:s<n) (h0:0<f s):0<g8 f n:=by
 rw [B8 hs]
 have:=a2T (f:=fun j=>if j=s then 0 else f j) (n:=n) fun j hj=>by
  by_cases hj2:j=s
  ·simp only [hj2,if_true];grind
  ·simp only [if_neg hj2];exact h j hj
 grind
def Ids (m n:Nat) (D:Fd) (y:Nat→Rat) (c:Rat):Prop:=∀i,i<m→y (D.O i)=c*D.V i - g8 (fun j=>D.A i j*y (D.F j)) n
theorem a8U {D:Fd} {r s n:Nat} {y:Nat→Rat} (hs:s<n) (f:Nat→Rat) (f':Nat→Rat) (k:Rat) (hf:∀j,j≠s→f' j=f j - k*D.pRow r s j):
 g8 (fun j=>f' j*y ((D.exch r s).F j)) n=g8 (fun j=>if j=s then 0 else f j*y (D.F j)) n - k*g8 (fun j=>if j=s then 0 else D.pRow r s j*y (D.F j)) n+f' s*y (D.O r):=by
 rw [B8 hs]
 have h1:(D.exch r s).F s=D.O r:=by show (if s=s then D.O r else D.F s)=_;rw [if_pos rfl]
 rw [h1]
 have h2:g8 (fun j=>if j=s then 0 else f' j*y ((D.exch r s).F j)) n=g8 (fun j=>(if j=s then 0 else f j*y (D.F j))+(-k)*(if j=s then 0 else D.pRow r s j*y (D.F j))) n:=f7 fun j hj=>by
  by_cases h:j=s
  ·rw [if_pos h,if_pos h,if_pos h];grind
  ·rw [if_neg h,if_neg h,if_neg h,hf j h]
   have:(D.exch r s).F j=D.F j:=by show (if j=s then D.O r else D.F j)=_;rw [if_neg h]
   rw [this];grind
 rw [h2,a0Y,E1];grind
theorem a8N {D:Fd} {r s n:Nat} {y:Nat→Rat} {c:Rat} (hs:s<n) (hp:D.A r s≠0):
 y (D.O r)=c*D.V r - g8 (fun j=>D.A r j*y (D.F j)) n↔y (D.F s)=c*(D.V r / D.A r s) - g8 (fun j=>if j=s then 0 else D.pRow r s j*y (D.F j)) n - 1 / D.A r s*y (D.O r):=by
 have e1:g8 (fun j=>D.A r j*y (D.F j)) n=D.A r s*g8 (fun j=>if j=s then 0 else D.pRow r s j*y (D.F j)) n+D.A r s*y (D.F s):=by
  rw [B8 hs,←E1]
  congr 1
  refine f7 fun j hj=>?_
  by_cases h:j=s
  ·simp only [if_pos h];grind
  ·simp only [if_neg h]
   unfold Fd.pRow
   rw [if_neg h];grind
 rw [e1]
 generalize g8 (fun j=>if j=s then 0 else D.pRow r s j*y (D.F j)) n=R
 generalize y (D.F s)=a
 generalize y (D.O r)=b
 generalize D.V r=v
 generalize D.A r s=p at *
 constructor
 ·intro h;rw [h];grind
 ·intro h;rw [h];grind
theorem a87 {m n:Nat} {D:Fd} {r s:Nat} {y:Nat→Rat} {c:Rat} (hr:r<m) (hs:s<n) (hp:D.A r s≠0):Ids m n D y c↔Ids m n (D.exch r s) y c:=by
 have hO:(D.exch r s).O r=D.F s:=by show (if r=r then D.F s else D.O r)=_;rw [if_pos rfl]
 have hV:(D.exch r s).V r=D.V r / D.A r s:=by show (if r=r then _ else _)=_;rw [if_pos rfl]
 have hA:∀j,(D.exch r s).A r j=D.pRow r s j:=fun j=>by show (if r=r then _ else _)=_;rw [if_pos rfl]
 have hps:D.pRow r s s=1 / D.A r s:=by unfold Fd.pRow;rw [if_pos rfl]
 have rowr:(y ((D.exch r s).O r)=c*(D.exch r s).V r - g8 (fun j=>(D.exch r s).A r j*y ((D.exch r s).F j)) n)↔y (D.O r)=c*D.V r - g8 (fun j=>D.A r j*y (D.F j)) n:=by
  rw [a8N hs hp,hO,hV]
  have h:=a8U (D:=D) (r:=r) (y:=y) hs (fun _=>0) ((D.exch r s).A r) (-1) (fun j hj=>by rw [hA];grind)
  rw [h,hA,hps,u6 (f:=fun j=>if j=s then 0 else 0*y (D.F j)) (fun j _=>by split<;>grind)]
  constructor
  ·intro h;rw [h];grind
  ·intro h;rw [h];grind
 have rowi:∀i,i≠r→y (D.O r)=c*D.V r - g8 (fun j=>D.A r j*y (D.F j)) n→
  ((y ((D.exch r s).O i)=c*(D.exch r s).V i - g8 (fun j=>(D.exch r s).A i j*y ((D.exch r s).F j)) n)↔y (D.O i)=c*D.V i - g8 (fun j=>D.A i j*y (D.F j)) n):=fun i hi h0=>by
  rw [a8N hs hp] at h0
  have h1:(D.exch r s).O i=D.O i:=by show (if i=r then _ else _)=_;rw [if_neg hi]
  have h2:(D.exch r s).V i=D.V i - D.A i s*(D.V r / D.A r s):=by show (if i=r then _ else _)=_;rw [if_neg hi]
  have h3:∀j,j≠s→(D.exch r s).A i j=D.A i j - D.A i s*D.pRow r s j:=fun j hj=>by show (if i=r then _ else _)=_;rw [if_neg hi,if_neg hj]
  have h4:(D.exch r s).A i s=0 - D.A i s*D.pRow r s s:=by show (if i=r then _ else _)=_;rw [if_neg hi,if_pos rfl]
  rw [h1,h2,a8U hs (D.A i) ((D.exch r s).A i) (D.A i s) h3,h4,hps,B8 (f:=fun j=>D.A i j*y (D.F j)) hs,h0]
  constructor
  ·intro h;rw [h];grind
  ·intro h;rw [h];grind
 constructor
 ·intro h i hi
  by_cases hir:i=r
  ·subst hir;exact rowr.2 (h i hi)
  ·exact (rowi i hir (h r hr)).2 (h i hi)
 ·intro h i hi
  have h0:=rowr.1 (h r hr)
  by_cases hir:i=r
  ·subst hir;exact h0
  ·exact (rowi i hir h0).1 (h i hi)
def W5 (n:Nat) (D:Fd) (g0:Nat→Rat) (m:Nat) (z:Rat):Prop:=∀y c,Ids m n D y c→g8 (fun j=>g0 j*y j) n=c*z+g8 (fun j=>D.G j*y (D.F j)) n
theorem ab8 {m n:Nat} {D:Fd} {r s:Nat} {g0:Nat→Rat} {z:Rat} (hr:r<m) (hs:s<n) (hp:D.A r s≠0) (h:W5 n D g0 m z):W5 n (D.exch r s) g0 m (z+D.G s*(D.V r / D.A r s)):=by
 intro y c hy
 have hy:=(a87 hr hs hp).2 hy
 rw [h y c hy]
 have h0:=(a8N hs hp).1 (hy r hr)
 have hps:D.pRow r s s=1 / D.A r s:=by unfold Fd.pRow;rw [if_pos rfl]
 have h3:∀j,j≠s→(D.exch r s).G j=D.G j - D.G s*D.pRow r s j:=fun j hj=>by show (if j=s then _ else _)=_;rw [if_neg hj]
 have h4:(D.exch r s).G s=0 - D.G s*D.pRow r s s:=by show (if s=s then _ else _)=_;rw [if_pos rfl]
 rw [a8U hs D.G (D.exch r s).G (D.G s) h3,h4,hps,B8 (f:=fun j=>D.G j*y (D.F j)) hs,h0]
 grind
end
section
def a93 (f:Nat→Nat) (w:Nat):Nat→Option Nat
 |0=>none
 |k+1=>match a93 f w k with
  |some i=>some i
  |none=>if f k=w then some k else none
theorem a3s {f:Nat→Nat} {w:Nat}:∀{k i:Nat},a93 f w k=some i→i<k∧f i=w
 |0,i,h=>by cases h
 |k+1,i,h=>by
  unfold a93 at h
  split at h
  ·rename_i i' hi;injection h with h;subst h;have:=a3s hi;exact ⟨by omega,this.2⟩
  ·split at h
   ·injection h with h;subst h;exact ⟨by omega,by assumption⟩
   ·cases h
theorem a6o {f:Nat→Nat} {w:Nat}:∀{k:Nat},a93 f w k=none→∀i,i<k→f i≠w
 |0,_,i,hi=>by omega
 |k+1,h,i,hi=>by
  unfold a93 at h
  split at h
  ·cases h
  ·rename_i hn
   split at h
   ·cases h
   ·by_cases hik:i=k
    ·subst hik;assumption
    ·exact a6o hn i (by omega)
structure O8 (m n:Nat) (D:Fd):Prop where
 oi:∀i i',i<m→i'<m→D.O i=D.O i'→i=i'
 fi:∀j j',j<n→j'<n→D.F j=D.F j'→j=j'
 of:∀i j,i<m→j<n→D.O i≠D.F j
 all:∀w,w<n+m→(∃ i,i<m∧D.O i=w)∨(∃ j,j<n∧D.F j=w)
 ob:∀i,i<m→D.O i<n+m
 fb:∀j,j<n→D.F j<n+m
theorem a69 {D:Fd} {r s i:Nat}:(D.exch r s).O i=if i=r then D.F s else D.O i:=rfl
theorem a1j {D:Fd} {r s j:Nat}:(D.exch r s).F j=if j=s then D.O r else D.F j:=rfl
theorem a9F {m n:Nat} {D:Fd} {r s:Nat} (hr:r<m) (hs:s<n) (h:O8 m n D):O8 m n (D.exch r s) where
 oi:=fun i i' hi hi' he=>by
  rw [a69,a69] at he
  by_cases h1:i=r<;>by_cases h2:i'=r
  ·omega
  ·rw [if_pos h1,if_neg h2] at he;exact absurd he.symm (h.of i' s hi' hs)
  ·rw [if_neg h1,if_pos h2] at he;exact absurd he (h.of i s hi hs)
  ·rw [if_neg h1,if_neg h2] at he;exact h.oi i i' hi hi' he
 fi:=fun j j' hj hj' he=>by
  rw [a1j,a1j] at he
  by_cases h1:j=s<;>by_cases h2:j'=s
  ·omega
  ·rw [if_pos h1,if_neg h2] at he;exact absurd he (h.of r j' hr hj')
  ·rw [if_neg h1,if_pos h2] at he;exact absurd he.symm (h.of r j hr hj)
  ·rw [if_neg h1,if_neg h2] at he;exact h.fi j j' hj hj' he
 of:=fun i j hi hj he=>by
  rw [a69,a1j] at he
  by_cases h1:i=r<;>by_cases h2:j=s
  ·rw [if_pos h1,if_pos h2] at he;exact h.of r s hr hs he.symm
  ·rw [if_pos h1,if_neg h2] at he;exact h2 (h.fi s j hs hj he).symm
  ·rw [if_neg h1,if_pos h2] at he;exact h1 (h.oi i r hi hr he)
  ·rw [if_neg h1,if_neg h2] at he;exact h.of i j hi hj he
 all:=fun w hw=>by
  rcases h.all w hw with ⟨i,hi,he⟩|⟨j,hj,he⟩
  ·by_cases h1:i=r
   ·exact .inr ⟨s,hs,by rw [a1j,if_pos rfl,←h1];exact he⟩
   ·exact .inl ⟨i,hi,by rw [a69,if_neg h1];exact he⟩
  ·by_cases h1:j=s
   ·exact .inl ⟨r,hr,by rw [a69,if_pos rfl,←h1];exact he⟩
   ·exact .inr ⟨j,hj,by rw [a1j,if_neg h1];exact he⟩
 ob:=fun i hi=>by rw [a69];split;exact h.fb s hs;exact h.ob i hi
 fb:=fun j hj=>by rw [a1j];split;exact h.ob r hr;exact h.fb j hj
def D8 (m n:Nat) (D:Fd) (c:Rat) (t:Nat→Rat) (w:Nat):Rat:=match a93 D.F w n with
 |some j=>t j
 |none=>match a93 D.O w m with
  |some i=>c*D.V i - g8 (fun j=>D.A i j*t j) n
  |none=>0
theorem U9 {m n:Nat} {D:Fd} (h:O8 m n D) {c:Rat} {t:Nat→Rat} {j:Nat} (hj:j<n):D8 m n D c t (D.F j)=t j:=by
 unfold D8
 cases hi:a93 D.F (D.F j) n with
 |none=>exact absurd rfl (a6o hi j hj)
 |some i=>obtain ⟨h1,h2⟩:=a3s hi;rw [h.fi i j h1 hj h2]
theorem a2x {m n:Nat} {D:Fd} (h:O8 m n D) {c:Rat} {t:Nat→Rat} {i:Nat} (hi:i<m):D8 m n D c t (D.O i)=c*D.V i - g8 (fun j=>D.A i j*t j) n:=by
 unfold D8
 cases hj:a93 D.F (D.O i) n with
 |some j=>obtain ⟨h1,h2⟩:=a3s hj;exact absurd h2.symm (h.of i j hi h1)
 |none=>
  cases hk:a93 D.O (D.O i) m with
  |none=>exact absurd rfl (a6o hk i hi)
  |some k=>obtain ⟨h1,h2⟩:=a3s hk;rw [h.oi k i h1 hi h2]
theorem P2 {m n:Nat} {D:Fd} (h:O8 m n D) (c:Rat) (t:Nat→Rat):Ids m n D (D8 m n D c t) c:=fun i hi=>by
 rw [a2x h hi]
 congr 1
 exact f7 fun j hj=>by rw [U9 h hj]
def P7 (f:Nat→Nat) (p:Nat→Bool):Nat→Option Nat
 |0=>none
 |k+1=>match P7 f p k with
  |none=>if p k then some k else none
  |some a=>if p k && decide (f k<f a) then some k else some a
theorem Y3 {f:Nat→Nat} {p:Nat→Bool}:∀{k:Nat},P7 f p k=none→∀i,i<k→p i=false
 |0,_,i,hi=>by omega
 |k+1,h,i,hi=>by
  unfold P7 at h
  split at h
  ·rename_i hn
   split at h
   ·cases h
   ·rename_i hp
    by_cases hik:i=k
    ·subst hik;simpa using hp
    ·exact Y3 hn i (by omega)
  ·split at h<;>cases h
theorem D5 {f:Nat→Nat} {p:Nat→Bool}:∀{k a:Nat},P7 f p k=some a→a<k∧p a=true∧∀i,i<k→p i=true→f a≤f i
 |0,a,h=>by cases h
 |k+1,a,h=>by
  unfold P7 at h
  split at h
  ·rename_i hn
   split at h
   ·rename_i hp
    injection h with h;subst h
    refine ⟨by omega,hp,fun i hi hpi=>?_⟩
    by_cases hik:i=k
    ·subst hik;omega
    ·rw [Y3 hn i (by omega)] at hpi;cases hpi
   ·cases h
  ·rename_i b hb
   obtain ⟨h1,h2,h3⟩:=D5 hb
   split at h
   ·rename_i hc
    injection h with h;subst h
    simp only [Bool.and_eq_true,decide_eq_true_eq] at hc
    refine ⟨by omega,hc.1,fun i hi hpi=>?_⟩
    by_cases hik:i=k
    ·subst hik;omega
    ·have:=h3 i (by omega) hpi;omega
   ·rename_i hc
    injection h with h;subst h
    refine ⟨by omega,h2,fun i hi hpi=>?_⟩
    by_cases hik:i=k
    ·subst hik
     have:¬(f i<f b):=fun h=>hc (by simp [hpi,h])
     omega
    ·exact h3 i (by omega) hpi
inductive aY4 where
 |best
 |row (r:Nat)
 |col (s:Nat)
 |next (r s:Nat)
def a04 (n:Nat) (D:Fd) (r:Nat):aY4:=match P7 D.F (fun j=>decide (D.A r j<0)) n with
 |none=>.row r
 |some s=>.next r s
def a03 (m:Nat) (D:Fd) (s:Nat):aY4:=match P7 D.O (fun i=>decide (0<D.A i s)) m with
 |none=>.col s
 |some r=>.next r s
def y8 (m n:Nat) (D:Fd):aY4:=match P7 D.O (fun i=>decide (D.V i<0)) m,P7 D.F (fun j=>decide (0<D.G j)) n with
 |none,none=>.best
 |some r,none=>a04 n D r
 |none,some s=>a03 m D s
 |some r,some s=>if D.O r<D.F s then a04 n D r else a03 m D s
structure a9m (m n:Nat) (D:Fd) (r s:Nat):Prop where
 v:D.V r<0
 a:D.A r s<0
 f:∀j,j<n→D.F j<D.F s→0≤D.A r j
 o:∀i,i<m→D.O i<D.O r→0≤D.V i
 g:∀j,j<n→D.F j<D.O r→D.G j≤0
structure a9y (m n:Nat) (D:Fd) (r s:Nat):Prop where
 g:0<D.G s
 a:0<D.A r s
 o:∀i,i<m→D.O i<D.O r→D.A i s≤0
 f:∀j,j<n→D.F j<D.F s→D.G j≤0
 v:∀i,i<m→D.O i<D.F s→0≤D.V i
theorem as3 {m n:Nat} {D:Fd} {r r' s:Nat} (hr:P7 D.O (fun i=>decide (D.V i<0)) m=some r) (hg:∀j,j<n→D.F j<D.O r→D.G j≤0) (h:a04 n D r=.next r' s):r'<m∧s<n∧a9m m n D r' s:=by
 obtain ⟨a1,a2,a3⟩:=D5 hr
 unfold a04 at h
 split at h
 ·cases h
 ·rename_i s' hs'
  injection h with h1 h2;subst h1;subst h2
  obtain ⟨b1,b2,b3⟩:=D5 hs'
  refine ⟨a1,b1,of_decide_eq_true a2,of_decide_eq_true b2,fun j hj hlt=>?_,fun i hi hlt=>?_,hg⟩
  ·exact Rat.not_lt.1 fun h=>by have:=b3 j hj (decide_eq_true h);omega
  ·exact Rat.not_lt.1 fun h=>by have:=a3 i hi (decide_eq_true h);omega
theorem am8 {m n:Nat} {D:Fd} {s s' r:Nat} (hs:P7 D.F (fun j=>decide (0<D.G j)) n=some s) (hv:∀i,i<m→D.O i<D.F s→0≤D.V i) (h:a03 m D s=.next r s'):r<m∧s'<n∧a9y m n D r s':=by
 obtain ⟨a1,a2,a3⟩:=D5 hs
 unfold a03 at h
 split at h
 ·cases h
 ·rename_i r' hr'
  injection h with h1 h2;subst h1;subst h2
  obtain ⟨b1,b2,b3⟩:=D5 hr'
  refine ⟨b1,a1,of_decide_eq_true a2,of_decide_eq_true b2,fun i hi hlt=>?_,fun j hj hlt=>?_,hv⟩
  ·exact Rat.not_lt.1 fun h=>by have:=b3 i hi (decide_eq_true h);omega
  ·exact Rat.not_lt.1 fun h=>by have:=a3 j hj (decide_eq_true h);omega
theorem a6e {m n:Nat} {D:Fd} {r s:Nat} (h:y8 m n D=.next r s):r<m∧s<n∧(a9m m n D r s∨a9y m n D r s):=by
 unfold y8 at h
 cases hr:P7 D.O (fun i=>decide (D.V i<0)) m with
 |none=>
  have hv:∀i,i<m→0≤D.V i:=fun i hi=>Rat.not_lt.1 (of_decide_eq_false (Y3 hr i hi))
  cases hs:P7 D.F (fun j=>decide (0<D.G j)) n with
  |none=>rw [hr,hs] at h;cases h
  |some s'=>
   rw [hr,hs] at h
   obtain ⟨q1,q2,q3⟩:=am8 hs (fun i hi _=>hv i hi) h
   exact ⟨q1,q2,.inr q3⟩
 |some r'=>
  obtain ⟨a1,a2,a3⟩:=D5 hr
  cases hs:P7 D.F (fun j=>decide (0<D.G j)) n with
  |none=>
   rw [hr,hs] at h
   obtain ⟨q1,q2,q3⟩:=as3 (n:=n) hr (fun j hj _=>Rat.not_lt.1 (of_decide_eq_false (Y3 hs j hj))) h
   exact ⟨q1,q2,.inl q3⟩
  |some s'=>
   rw [hr,hs] at h
   obtain ⟨b1,b2,b3⟩:=D5 hs
   simp only at h
   split at h
   ·rename_i hlt
    obtain ⟨q1,q2,q3⟩:=as3 (n:=n) hr (fun j hj hj2=>Rat.not_lt.1 fun h=>by have:=b3 j hj (decide_eq_true h);omega) h
    exact ⟨q1,q2,.inl q3⟩
   ·rename_i hlt
    obtain ⟨q1,q2,q3⟩:=am8 hs (fun i hi hi2=>Rat.not_lt.1 fun h=>by have:=a3 i hi (decide_eq_true h);omega) h
    exact ⟨q1,q2,.inr q3⟩
theorem a7k {m n:Nat} {D:Fd} {r s:Nat} (h:a9m m n D r s∨a9y m n D r s):D.A r s≠0:=by
 rcases h with h|h
 ·have:=h.a;intro h0;rw [h0] at this;exact absurd this (by grind)
 ·have:=h.a;intro h0;rw [h0] at this;exact absurd this (by grind)
theorem aV8 {m n:Nat} {D D':Fd} {g0:Nat→Rat} {z z':Rat} (hP:O8 m n D) (hP':O8 m n D') (hI:∀y c,Ids m n D y c↔Ids m n D' y c) (hG:W5 n D g0 m z) (hG':W5 n D' g0 m z')
 {r s r' s' q:Nat} (hr:r<m) (hs:s<n) (hr':r'<m) (hs':s'<n) (h:a9m m n D r s∨a9y m n D r s) (h':a9m m n D' r' s'∨a9y m n D' r' s') (hq:D.F s=q) (hq':D'.O r'=q)
 (hrq:D.O r<q) (hsq:D'.F s'<q) (hst:∀w,q<w→((∃ j,j<n∧D.F j=w)↔∃j,j<n∧D'.F j=w)):False:=by
 have hfree:∀j,j<n→q<D.F j→∃k,k<n∧D'.F k=D.F j:=fun j hj hlt=>(hst _ hlt).1 ⟨j,hj,rfl⟩
 -- a vector of the second dictionary
 obtain ⟨c,y,hc,hy,ypos,yq,yfree,hobj⟩:∃(c:Rat) (y:Nat→Rat),(c=0∨c=1)∧Ids m n D' y c∧(∀ w,w<n+m→w<q→0≤y w)∧y q<0∧(∀ j,j<n→q<D.F j→y (D.F j)=0)∧
  ((c=0∧0<g8 (fun j=>g0 j*y j) n)∨(c=1∧g8 (fun j=>g0 j*y j) n=z'∧∀j,j<n→D'.F j<q→D'.G j≤0)):=by
  rcases h' with h'|h'
  ·refine ⟨1,D8 m n D' 1 (fun _=>0),.inr rfl,P2 hP' 1 _,fun w hw hwq=>?_,?_,fun j hj hlt=>?_,.inr ⟨rfl,?_,fun j hj hlt=>h'.g j hj (by rw [hq'];exact hlt)⟩⟩
   ·rcases hP'.all w hw with ⟨i,hi,rfl⟩|⟨j,hj,rfl⟩
    ·rw [a2x hP' hi,u6 fun j _=>by grind]
     have:=h'.o i hi (by rw [hq'];exact hwq)
     grind
    ·rw [U9 hP' hj];grind
   ·rw [← hq',a2x hP' hr',u6 fun j _=>by grind]
    have:=h'.v
    grind
   ·obtain ⟨k,hk,he⟩:=hfree j hj hlt
    rw [← he,U9 hP' hk]
   ·rw [hG' _ 1 (P2 hP' 1 _),u6 fun j hj=>by rw [U9 hP' hj];grind];grind
  ·refine ⟨0,D8 m n D' 0 (fun j=>if j=s' then 1 else 0),.inl rfl,P2 hP' 0 _,fun w hw hwq=>?_,?_,fun j hj hlt=>?_,.inl ⟨rfl,?_⟩⟩
   ·have hone:∀i,g8 (fun j=>D'.A i j*(if j=s' then 1 else 0)) n=D'.A i s':=fun i=>by
     rw [B8 hs',u6 fun j _=>by by_cases hj:j=s'<;>simp [hj]]
     simp;grind
    rcases hP'.all w hw with ⟨i,hi,rfl⟩|⟨j,hj,rfl⟩
    ·rw [a2x hP' hi,hone]
     have:=h'.o i hi (by rw [hq'];exact hwq)
     grind
    ·rw [U9 hP' hj];split<;>grind
   ·have hone:g8 (fun j=>D'.A r' j*(if j=s' then 1 else 0)) n=D'.A r' s':=by
     rw [B8 hs',u6 fun j _=>by by_cases hj:j=s'<;>simp [hj]]
     simp;grind
    rw [← hq',a2x hP' hr',hone]
    have:=h'.a
    grind
   ·obtain ⟨k,hk,he⟩:=hfree j hj hlt
    rw [← he,U9 hP' hk,if_neg]
    intro hks
    rw [hks] at he;omega
   ·rw [hG' _ 0 (P2 hP' 0 _)]
    have:g8 (fun j=>D'.G j*D8 m n D' 0 (fun j=>if j=s' then 1 else 0) (D'.F j)) n=D'.G s':=by
     rw [f7 (g:=fun j=>D'.G j*(if j=s' then 1 else 0)) fun j hj=>by rw [U9 hP' hj],B8 hs',u6 fun j _=>by by_cases hj:j=s'<;>simp [hj]]
     simp;grind
    rw [this]
    have:=h'.g
    grind
 have hy2:=(hI y c).2 hy
 -- the terms of the first dictionary
 have hF:∀j,j<n→(D.F j<q∧0≤y (D.F j))∨(j=s∧y (D.F j)<0)∨y (D.F j)=0:=fun j hj=>by
  rcases Nat.lt_trichotomy (D.F j) q with hlt|heq|hgt
  ·exact .inl ⟨hlt,ypos _ (hP.fb j hj) hlt⟩
  ·refine .inr (.inl ⟨hP.fi j s hj hs (by omega),by rw [heq];exact yq⟩)
  ·exact .inr (.inr (yfree j hj hgt))
 rcases h with h|h
 · -- by its row
   have hid:=hy2 r hr
   have h1:0<g8 (fun j=>D.A r j*y (D.F j)) n:=b1D (s:=s) (fun j hj=>by
    rcases hF j hj with ⟨a,b⟩|⟨rfl,b⟩|b
    ·exact Rat.mul_nonneg (h.f j hj (by rw [hq];exact a)) b
    ·have:=h.a;exact Rat.le_of_lt (by have:=Rat.mul_pos (a:=-D.A r j) (b:=-y (D.F j)) (by grind) (by grind);grind)
    ·rw [b];grind) hs (by
    have:=h.a
    have hyq:y (D.F s)<0:=by rw [hq];exact yq
    have:=Rat.mul_pos (a:=-D.A r s) (b:=-y (D.F s)) (by grind) (by grind);grind)
   have h2:0≤y (D.O r):=ypos _ (hP.ob r hr) hrq
   have h3:=h.v
   rcases hc with rfl|rfl
   ·grind
   ·grind
 · -- by its goal
   have h1:g8 (fun j=>D.G j*y (D.F j)) n<0:=b2o (s:=s) (fun j hj=>by
    rcases hF j hj with ⟨a,b⟩|⟨rfl,b⟩|b
    ·have:=h.f j hj (by rw [hq];exact a)
     have:=Rat.mul_nonneg (a:=-D.G j) (b:=y (D.F j)) (by grind) b
     grind
    ·have:=h.g
     have:=Rat.mul_pos (a:=D.G j) (b:=-y (D.F j)) (by grind) (by grind)
     grind
    ·rw [b];grind) hs (by
    have:=h.g
    have hyq:y (D.F s)<0:=by rw [hq];exact yq
    have:=Rat.mul_pos (a:=D.G s) (b:=-y (D.F s)) (by grind) (by grind)
    grind)
   have hg:=hG y c hy2
   rcases hobj with ⟨rfl,ho⟩|⟨rfl,ho,hneg⟩
   ·grind
   · -- the basic point of the first dictionary
     have k1:=hG (D8 m n D 1 (fun _=>0)) 1 (P2 hP 1 _)
     rw [u6 (f:=fun j=>D.G j*D8 m n D 1 (fun _=>0) (D.F j)) fun j hj=>by rw [U9 hP hj];grind] at k1
     have k2:=hG' (D8 m n D 1 (fun _=>0)) 1 ((hI _ 1).1 (P2 hP 1 _))
     have k3:g8 (fun j=>D'.G j*D8 m n D 1 (fun _=>0) (D'.F j)) n≤0:=a5C fun j hj=>by
      have hv:∀w,w<n+m→w<q→0≤D8 m n D 1 (fun _=>0) w:=fun w hw hwq=>by
       rcases hP.all w hw with ⟨i,hi,rfl⟩|⟨k,hk,rfl⟩
       ·rw [a2x hP hi,u6 fun j _=>by grind]
        have:=h.v i hi (by rw [hq];exact hwq)
        grind
       ·rw [U9 hP hk];grind
      rcases Nat.lt_trichotomy (D'.F j) q with hlt|heq|hgt
      ·have a1:=hneg j hj hlt
       have a2:=hv _ (hP'.fb j hj) hlt
       have:=Rat.mul_nonneg (a:=-D'.G j) (by grind) a2
       grind
      ·exact absurd (hq'.trans heq.symm) (hP'.of r' j hr' hj)
      ·obtain ⟨k,hk,he⟩:=(hst _ hgt).2 ⟨j,hj,rfl⟩
       rw [← he,U9 hP hk];grind
     grind
end
section
def C6 (m n:Nat) (D:Fd):Option Fd:=match y8 m n D with
 |.next r s=>some (D.exch r s)
 |_=>none
theorem a7H {m n:Nat} {D D':Fd} (h:C6 m n D=some D'):∃r s,y8 m n D=.next r s∧D'=D.exch r s:=by
 unfold C6 at h
 split at h
 ·rename_i r s hs;injection h with h;exact ⟨r,s,hs,h.symm⟩
 ·cases h
theorem a8c {P:Nat→Nat→Prop}:∀N:Nat,(∀ w,w<N→∃T,∀k,T≤k→¬P k w)→∃T,∀w,w<N→∀k,T≤k→¬P k w
 |0,_=>⟨0,fun w hw=>by omega⟩
 |N+1,h=>by
  obtain ⟨T,hT⟩:=a8c (P:=P) N fun w hw=>h w (by omega)
  obtain ⟨T',hT'⟩:=h N (by omega)
  refine ⟨max T T',fun w hw k hk=>?_⟩
  by_cases hwn:w=N
  ·subst hwn;exact hT' k (by omega)
  ·exact hT w (by omega) k (by omega)
theorem a8K {p:Nat→Prop}:∀N:Nat,(∃ w,w<N∧p w)→∃q,q<N∧p q∧∀w,q<w→w<N→¬p w
 |0,⟨w,hw,_⟩=>by omega
 |N+1,⟨w,hw,hp⟩=>by
  by_cases h:p N
  ·exact ⟨N,by omega,h,fun w h1 h2=>by omega⟩
  ·have hwN:w≠N:=fun e=>h (e ▸ hp)
   obtain ⟨q,h1,h2,h3⟩:=a8K N ⟨w,by omega,hp⟩
   refine ⟨q,by omega,h2,fun w h4 h5=>?_⟩
   by_cases hw2:w=N
   ·subst hw2;exact h
   ·exact h3 w h4 (by omega)
theorem a2h (p:Nat→Prop) (h:∃n,p n):∃n,p n∧∀m,p m→n≤m:=by
 obtain ⟨n,hn⟩:=h
 induction n using Nat.strongRecOn with
 |_ n ih=>
  by_cases hex:∃m,m<n∧p m
  ·obtain ⟨m,hm,hp⟩:=hex
   exact ih m hm hp
  ·exact ⟨n,hn,fun m hm=>Nat.le_of_not_lt fun h=>hex ⟨m,h,hm⟩⟩
theorem b4w {m n:Nat} {f:Nat→Fd} {g0:Nat→Rat} (hP0:O8 m n (f 0)) (hG0:∃z,W5 n (f 0) g0 m z) (hf:∀k,C6 m n (f k)=some (f (k+1))):False:=by
 have hstep:∀k,∃rs:Nat × Nat,rs.1<m∧rs.2<n∧(a9m m n (f k) rs.1 rs.2∨a9y m n (f k) rs.1 rs.2)∧f (k+1)=(f k).exch rs.1 rs.2:=fun k=>by
  obtain ⟨r,s,h1,h2⟩:=a7H (hf k)
  obtain ⟨a,b,c⟩:=a6e h1
  exact ⟨(r,s),a,b,c,h2⟩
 obtain ⟨W,hW⟩:=Classical.axiomOfChoice hstep
 have hP:∀k,O8 m n (f k):=fun k=>by
  induction k with
  |zero=>exact hP0
  |succ k ih=>obtain ⟨a,b,_,d⟩:=hW k;rw [d];exact a9F a b ih
 have hI:∀k y c,Ids m n (f 0) y c↔Ids m n (f k) y c:=fun k=>by
  induction k with
  |zero=>exact fun _ _=>Iff.rfl
  |succ k ih=>obtain ⟨a,b,c',d⟩:=hW k;rw [d];exact fun y c=>(ih y c).trans (a87 a b (a7k c'))
 have hG:∀k,∃z,W5 n (f k) g0 m z:=fun k=>by
  induction k with
  |zero=>exact hG0
  |succ k ih=>obtain ⟨a,b,c',d⟩:=hW k;obtain ⟨z,hz⟩:=ih;rw [d];exact ⟨_,ab8 a b (a7k c') hz⟩
 let E:Nat→Nat:=fun k=>(f k).F (W k).2
 let L:Nat→Nat:=fun k=>(f k).O (W k).1
 have hE:∀k,E k<n+m:=fun k=>(hP k).fb _ (hW k).2.1
 have hL:∀k,L k<n+m:=fun k=>(hP k).ob _ (hW k).1
 have hEL:∀k,L k≠E k:=fun k=>(hP k).of _ _ (hW k).1 (hW k).2.1
 let fre:Nat→Nat→Prop:=fun k w=>∃j,j<n∧(f k).F j=w
 have hfre:∀k w,w≠E k→w≠L k→(fre (k+1) w↔fre k w):=fun k w h1 h2=>by
  obtain ⟨a,b,_,d⟩:=hW k
  show (∃ j,j<n∧(f (k+1)).F j=w)↔∃j,j<n∧(f k).F j=w
  rw [d]
  constructor
  ·rintro ⟨j,hj,he⟩
   rw [a1j] at he
   by_cases hjs:j=(W k).2
   ·rw [if_pos hjs] at he;exact absurd he.symm h2
   ·rw [if_neg hjs] at he;exact ⟨j,hj,he⟩
  ·rintro ⟨j,hj,he⟩
   have hjs:j≠(W k).2:=fun h=>h1 (by rw [← he,h])
   exact ⟨j,hj,by rw [a1j,if_neg hjs];exact he⟩
 have hin:∀k,fre k (E k):=fun k=>⟨_,(hW k).2.1,rfl⟩
 have hout:∀k,¬fre k (L k):=fun k=>by rintro ⟨j,hj,he⟩;exact (hP k).of _ _ (hW k).1 hj he.symm
 have hin2:∀k,fre (k+1) (L k):=fun k=>by
  obtain ⟨a,b,_,d⟩:=hW k
  show ∃j,j<n∧(f (k+1)).F j=L k
  rw [d];exact ⟨_,b,by rw [a1j,if_pos rfl]⟩
 have hout2:∀k,¬fre (k+1) (E k):=fun k=>by
  obtain ⟨a,b,_,d⟩:=hW k
  show ¬∃j,j<n∧(f (k+1)).F j=E k
  rw [d]
  rintro ⟨j,hj,he⟩
  rw [a1j] at he
  by_cases hjs:j=(W k).2
  ·rw [if_pos hjs] at he;exact hEL k he
  ·rw [if_neg hjs] at he;exact hjs ((hP k).fi _ _ hj b he)
 let mv:Nat→Nat→Prop:=fun k w=>E k=w∨L k=w
 obtain ⟨q,hqN,hio,hmax⟩:=a8K (p:=fun w=>∀T,∃k,T≤k∧mv k w) (n+m) (Classical.byContradiction fun hno=>by
  have h1:∀w,w<n+m→∃T,∀k,T≤k→¬mv k w:=fun w hw=>Classical.byContradiction fun h=>hno ⟨w,hw,fun T=>Classical.byContradiction fun h'=>h ⟨T,fun k hk hm=>h' ⟨k,hk,hm⟩⟩⟩
  obtain ⟨T,hT⟩:=a8c (P:=mv) _ h1
  exact hT _ (hE T) T (Nat.le_refl _) (.inl rfl))
 obtain ⟨T,hT⟩:∃T,∀w,q<w→∀k,T≤k→¬mv k w:=by
  obtain ⟨T,hT⟩:=a8c (P:=fun k w=>q<w∧mv k w) (n+m) fun w hw=>by
   by_cases hqw:q<w
   ·have:=hmax w hqw hw
    obtain ⟨T,hT⟩:=Classical.not_forall.1 this
    exact ⟨T,fun k hk ⟨_,hm⟩=>hT ⟨k,hk,hm⟩⟩
   ·exact ⟨0,fun k _ ⟨h,_⟩=>hqw h⟩
  refine ⟨T,fun w hqw k hk hm=>?_⟩
  have hw:w<n+m:=by rcases hm with hm|hm<;>rw [← hm];exact hE k;exact hL k
  exact hT w hw k hk ⟨hqw,hm⟩
 have hEq:∀k,T≤k→E k≤q:=fun k hk=>Nat.le_of_not_lt fun h=>hT _ h k hk (.inl rfl)
 have hLq:∀k,T≤k→L k≤q:=fun k hk=>Nat.le_of_not_lt fun h=>hT _ h k hk (.inr rfl)
 have hconst:∀w,q<w→∀d,fre (T+d) w↔fre T w:=fun w hw d=>by
  induction d with
  |zero=>exact Iff.rfl
  |succ d ih=>
   have h1:=hEq (T+d) (by omega)
   have h2:=hLq (T+d) (by omega)
   exact (hfre (T+d) w (by omega) (by omega)).trans ih
 have hsame:∀w,q<w→∀t u,T≤t→T≤u→(fre t w↔fre u w):=fun w hw t u ht hu=>by
  have h1:=hconst w hw (t - T)
  have h2:=hconst w hw (u - T)
  rw [show T+(t - T)=t by omega] at h1
  rw [show T+(u - T)=u by omega] at h2
  exact h1.trans h2.symm
 -- q enters at some time, and leaves at some time
 have hnext:∀k1,T≤k1→mv k1 q→∃k2,T≤k2∧mv k2 q∧(fre k2 q↔fre (k1+1) q):=fun k1 h1 _=>by
  obtain ⟨k2,⟨h2,h3⟩,hleast⟩:=a2h (fun k=>k1+1≤k∧mv k q) (hio (k1+1))
  refine ⟨k2,by omega,h3,?_⟩
  have key:∀d,k1+1+d≤k2→(fre (k1+1+d) q↔fre (k1+1) q):=fun d=>by
   induction d with
   |zero=>exact fun _=>Iff.rfl
   |succ d ih=>
    intro hd
    have hnm:¬mv (k1+1+d) q:=fun h=>by have:=hleast (k1+1+d) ⟨by omega,h⟩;omega
    exact (hfre (k1+1+d) q (fun h=>hnm (.inl h.symm)) (fun h=>hnm (.inr h.symm))).trans (ih (by omega))
  have:=key (k2 - (k1+1)) (by omega)
  rwa [show k1+1+(k2 - (k1+1))=k2 by omega] at this
 have hboth:∃t u,T≤t∧T≤u∧E t=q∧L u=q:=by
  obtain ⟨k1,h1,hm1⟩:=hio T
  obtain ⟨k2,h2,hm2,hs⟩:=hnext k1 h1 hm1
  rcases hm1 with hm1|hm1
  ·rcases hm2 with hm2|hm2
   ·have a:=hin k2
    rw [hm2] at a
    have b:=hout2 k1
    rw [hm1] at b
    exact absurd (hs.1 a) b
   ·exact ⟨k1,k2,h1,h2,hm1,hm2⟩
  ·rcases hm2 with hm2|hm2
   ·exact ⟨k2,k1,h2,h1,hm2,hm1⟩
   ·have a:=hout k2
    rw [hm2] at a
    have b:=hin2 k1
    rw [hm1] at b
    exact absurd (hs.2 b) a
 obtain ⟨t,u,ht,hu,het,hlu⟩:=hboth
 obtain ⟨z,hz⟩:=hG t
 obtain ⟨z',hz'⟩:=hG u
 obtain ⟨a1,a2,a3,_⟩:=hW t
 obtain ⟨b1,b2,b3,_⟩:=hW u
 have hl:L t<q:=by have:=hLq t ht;have:=hEL t;omega
 have he:E u<q:=by have:=hEq u hu;have:=hEL u;omega
 exact aV8 (hP t) (hP u) (fun y c=>(hI t y c).symm.trans (hI u y c)) hz hz' a1 a2 b1 b2 a3 b3 het hlu hl he (fun w hw=>hsame w hw t u ht hu)
def itS (m n:Nat):Nat→Fd→Option Fd
 |0,D=>some D
 |k+1,D=>match C6 m n D with
  |none=>none
  |some D'=>itS m n k D'
theorem Y5 {m n:Nat}:∀(k:Nat) (D:Fd),itS m n (k+1) D=(itS m n k D).bind (C6 m n)
 |0,D=>by
  show (match C6 m n D with|none=>none|some D'=>some D')=C6 m n D
  cases C6 m n D<;>rfl
 |k+1,D=>by
  show (match C6 m n D with|none=>none|some D'=>itS m n (k+1) D')=(match C6 m n D with|none=>none|some D'=>itS m n k D').bind (C6 m n)
  cases C6 m n D with
  |none=>rfl
  |some D'=>exact Y5 k D'
theorem b3a {m n:Nat} {D:Fd} {g0:Nat→Rat} (hP:O8 m n D) (hG:∃z,W5 n D g0 m z):∃k,itS m n k D=none:=Classical.byContradiction fun h=>by
 have h1:∀k,∃D',itS m n k D=some D':=fun k=>by
  cases hk:itS m n k D with
  |none=>exact absurd ⟨k,hk⟩ h
  |some D'=>exact ⟨D',rfl⟩
 obtain ⟨f,hf⟩:=Classical.axiomOfChoice h1
 have hf:∀k,itS m n k D=some (f k):=hf
 have h0:f 0=D:=by have:=hf 0;injection this with this;exact this.symm
 refine b4w (f:=f) (g0:=g0) (by rw [h0];exact hP) (by rw [h0];exact hG) fun k=>?_
 have h2:=Y5 (m:=m) (n:=n) k D
 rw [hf k,hf (k+1)] at h2
 exact h2.symm
noncomputable def a6M (m n:Nat) (D:Fd):Nat:=Classical.epsilon fun k=>itS m n k D=none∧∀j,itS m n j D=none→k≤j
theorem ax3 {m n:Nat} {D D':Fd} (h:∃k,itS m n k D=none) (hn:C6 m n D=some D'):a6M m n D'<a6M m n D:=by
 have hD:=Classical.epsilon_spec (a2h _ h)
 have h':∃k,itS m n k D'=none:=by
  obtain ⟨k,hk⟩:=h
  cases k with
  |zero=>cases hk
  |succ k=>
   have hk:(match C6 m n D with|none=>none|some D'=>itS m n k D')=none:=hk
   rw [hn] at hk;exact ⟨k,hk⟩
 have hD':=Classical.epsilon_spec (a2h _ h')
 have e:a6M m n D=Classical.epsilon fun k=>itS m n k D=none∧∀j,itS m n j D=none→k≤j:=rfl
 have e':a6M m n D'=Classical.epsilon fun k=>itS m n k D'=none∧∀j,itS m n j D'=none→k≤j:=rfl
 rw [← e] at hD
 rw [← e'] at hD'
 obtain ⟨a1,a2⟩:=hD
 obtain ⟨b1,b2⟩:=hD'
 generalize a6M m n D=k at a1 a2
 cases k with
 |zero=>cases a1
 |succ k=>
  have a1:(match C6 m n D with|none=>none|some D'=>itS m n k D')=none:=a1
  rw [hn] at a1
  have:=b2 k a1
  omega
end
section
structure EqI where
 co:Nat→Int
 rhs:Int
def a5Q (k:Nat) (e:EqI) (u:Nat→Rat):Prop:=g8 (fun l=>((e.co l:Int):Rat)*u l) (k+1)=((e.rhs:Int):Rat)
theorem b28 {f g:Nat→Rat} (a b:Rat) (n:Nat):g8 (fun j=>a*f j - b*g j) n=a*g8 f n - b*g8 g n:=by
 rw [← E1 a,←E1 b]
 have:g8 (fun j=>a*f j - b*g j) n=g8 (fun j=>a*f j+(-1)*(b*g j)) n:=f7 fun j _=>by grind
 rw [this,a0Y,E1 (-1)];grind
def a8Q (k:Nat) (e0 e:EqI):EqI:=⟨fun l=>e0.co (k+1)*e.co l - e.co (k+1)*e0.co l,e0.co (k+1)*e.rhs - e.co (k+1)*e0.rhs⟩
theorem at3 {k:Nat} {e0 e:EqI} {u:Nat→Rat}:g8 (fun l=>(((a8Q k e0 e).co l:Int):Rat)*u l) (k+1)=
 ((e0.co (k+1):Int):Rat)*g8 (fun l=>((e.co l:Int):Rat)*u l) (k+1) - ((e.co (k+1):Int):Rat)*g8 (fun l=>((e0.co l:Int):Rat)*u l) (k+1):=by
 rw [← b28]
 refine f7 fun l _=>?_
 unfold a8Q
 simp only
 rw [Rat.intCast_sub,Rat.intCast_mul,Rat.intCast_mul];grind
theorem ar2 {k:Nat} {e0 e:EqI}:(((a8Q k e0 e).rhs:Int):Rat)=((e0.co (k+1):Int):Rat)*((e.rhs:Int):Rat) - ((e.co (k+1):Int):Rat)*((e0.rhs:Int):Rat):=by
 unfold a8Q
 simp only
 rw [Rat.intCast_sub,Rat.intCast_mul,Rat.intCast_mul]
theorem b1o {k:Nat} {e0 e:EqI} {s:Nat} (h0:(∀ l,l≤k+1→bl (e0.co l)≤s)∧bl e0.rhs≤s) (h:(∀ l,l≤k+1→bl (e.co l)≤s)∧bl e.rhs≤s):(∀ l,l≤k→bl ((a8Q k e0 e).co l)≤2*s+1)∧bl (a8Q k e0 e).rhs≤2*s+1:=by
 have key:∀a b c d:Int,bl a≤s→bl b≤s→bl c≤s→bl d≤s→bl (a*b - c*d)≤2*s+1:=fun a b c d ha hb hc hd=>by
  have h1:=B7 a b
  have h2:=B7 c d
  have h3:=a6d (a*b) (-(c*d))
  rw [a0S,←Int.sub_eq_add_neg] at h3
  omega
 exact ⟨fun l hl=>key _ _ _ _ (h0.1 _ (by omega)) (h.1 _ (by omega)) (h.1 _ (by omega)) (h0.1 _ (by omega)),key _ _ _ _ (h0.1 _ (by omega)) h.2 (h.1 _ (by omega)) h0.2⟩
theorem a4G:∀(k s:Nat) (E:List EqI) (u:Nat→Rat),(∀ e ∈ E,(∀ l,l≤k→bl (e.co l)≤s)∧bl e.rhs≤s)→(∀ e ∈ E,a5Q k e u)→(∀ u',(∀ e ∈ E,a5Q k e u')→u' 0=u 0)→rl (u 0)≤2 ^ k*(s+1)
 |0,s,E,u,hb,hu,hq=>by
  by_cases hex:∃e ∈ E,e.co 0≠0
  ·obtain ⟨e,he,hc⟩:=hex
   have h1:((0:Int):Rat)+((e.co 0:Int):Rat)*u 0=((e.rhs:Int):Rat):=hu e he
   have hne:((e.co 0:Int):Rat)≠0:=fun h=>hc (by exact_mod_cast h)
   have h2:u 0=Rat.divInt e.rhs (e.co 0):=by
    rw [Rat.divInt_eq_div,←h1]
    have:((0:Int):Rat)=0:=rfl
    rw [this];grind
   rw [h2]
   have h3:=(hb e he).1 0 (Nat.le_refl _)
   have h4:=(hb e he).2
   have:=W8 (p:=e.rhs) (q:=e.co 0) hc
   omega
  ·have hz:∀e ∈ E,e.co 0=0:=fun e he=>Classical.byContradiction fun h=>hex ⟨e,he,h⟩
   have:=hq (fun _=>u 0+1) fun e he=>by
    have h1:((0:Int):Rat)+((e.co 0:Int):Rat)*u 0=((e.rhs:Int):Rat):=hu e he
    show ((0:Int):Rat)+((e.co 0:Int):Rat)*(u 0+1)=((e.rhs:Int):Rat)
    rw [← h1,hz e he]
    have:((0:Int):Rat)=0:=rfl
    rw [this];grind
   grind
 |k+1,s,E,u,hb,hu,hq=>by
  have hlast:∀(e:EqI) (v:Nat→Rat),g8 (fun l=>((e.co l:Int):Rat)*v l) (k+1+1)=g8 (fun l=>((e.co l:Int):Rat)*v l) (k+1)+((e.co (k+1):Int):Rat)*v (k+1):=fun e v=>rfl
  by_cases hex:∃e ∈ E,e.co (k+1)≠0
  ·obtain ⟨e0,he0,hc⟩:=hex
   have hne:((e0.co (k+1):Int):Rat)≠0:=fun h=>hc (by exact_mod_cast h)
   have ih:=a4G k (2*s+1) (E.map (a8Q k e0)) u (fun e he=>by
    obtain ⟨e1,he1,rfl⟩:=List.mem_map.1 he
    exact b1o (hb e0 he0) (hb e1 he1)) (fun e he=>by
    obtain ⟨e1,he1,rfl⟩:=List.mem_map.1 he
    have a1:g8 _ (k+1+1)=_:=hu e0 he0
    have a2:g8 _ (k+1+1)=_:=hu e1 he1
    rw [hlast] at a1 a2
    unfold a5Q
    rw [at3,ar2,←a1,←a2];grind) (fun u' hu'=>by
    have hnew:=hq (fun l=>if l=k+1 then (((e0.rhs:Int):Rat) - g8 (fun l=>((e0.co l:Int):Rat)*u' l) (k+1)) / ((e0.co (k+1):Int):Rat) else u' l) fun e he=>by
     have b1:=hu' _ (List.mem_map.2 ⟨e,he,rfl⟩)
     unfold a5Q at b1 ⊢
     rw [at3,ar2] at b1
     rw [hlast,f7 (g:=fun l=>((e.co l:Int):Rat)*u' l) fun l hl=>by rw [if_neg (by omega)],if_pos rfl]
     generalize g8 (fun l=>((e.co l:Int):Rat)*u' l) (k+1)=X at *
     generalize g8 (fun l=>((e0.co l:Int):Rat)*u' l) (k+1)=Y at *
     generalize ((e0.co (k+1):Int):Rat)=c at *
     generalize ((e.co (k+1):Int):Rat)=d at *
     generalize ((e.rhs:Int):Rat)=r at *
     generalize ((e0.rhs:Int):Rat)=r0 at *
     have h1:c*(X+d*((r0 - Y) / c))=c*r:=by
      have:c*((r0 - Y) / c)=r0 - Y:=by grind
      have h2:c*(X+d*((r0 - Y) / c))=c*X+d*(c*((r0 - Y) / c)):=by grind
      rw [h2,this];grind
     grind
    rw [if_neg (by omega)] at hnew
    exact hnew)
   have e1:2 ^ (k+1)*(s+1)=2 ^ k*(2*s+1+1):=by rw [Nat.pow_succ,Nat.mul_assoc,show 2*(s+1)=2*s+1+1 by omega]
   rw [e1];exact ih
  ·have hz:∀e ∈ E,e.co (k+1)=0:=fun e he=>Classical.byContradiction fun h=>hex ⟨e,he,h⟩
   have hiff:∀e ∈ E,∀v,a5Q (k+1) e v↔a5Q k e v:=fun e he v=>by
    unfold a5Q
    rw [hlast,hz e he]
    have:((0:Int):Rat)=0:=rfl
    rw [this]
    constructor
    ·intro h;rw [← h];grind
    ·intro h;rw [← h];grind
   have ih:=a4G k s E u (fun e he=>⟨fun l hl=>(hb e he).1 l (by omega),(hb e he).2⟩) (fun e he=>(hiff e he u).1 (hu e he)) fun u' hu'=>hq u' fun e he=>(hiff e he u').2 (hu' e he)
   have:2 ^ k≤2 ^ (k+1):=Nat.pow_le_pow_right (by decide) (by omega)
   exact Nat.le_trans ih (Nat.mul_le_mul_right _ this)
end
section
structure a4e (m n s:Nat) (D:Fd):Prop where
 o:∀i,i<m→D.O i=n+i
 f:∀j,j<n→D.F j=j
 w:∀i,i<m→∃(q v:Int) (a:Nat→Int),q≠0∧bl q≤s∧bl v≤s∧(∀ j,j<n→bl (a j)≤s)∧((q:Int):Rat)*D.V i=((v:Int):Rat)∧∀j,j<n→((q:Int):Rat)*D.A i j=((a j:Int):Rat)
theorem a2b (x:Int):bl (-x)=bl x:=by unfold bl;rw [Int.natAbs_neg]
theorem b0U (x y:Int):bl (x - y)≤max (bl x) (bl y)+1:=by
 have:=a6d x (-y)
 rw [a2b] at this
 rw [Int.sub_eq_add_neg];exact this
theorem ac5 {f:Nat→Rat}:∀n:Nat,g8 f (n+1)=f 0+g8 (fun l=>f (l+1)) n
 |0=>by simp only [g8];grind
 |n+1=>by
  have ih:=ac5 (f:=f) n
  have e:g8 f (n+1+1)=g8 f (n+1)+f (n+1):=rfl
  rw [e,ih]
  simp only [g8];grind
def aP9 (q0:Int) (b:Nat→Int) (r:Int):EqI:=⟨fun l=>match l with|0=>q0|l+1=>b l,r⟩
theorem a7F {n:Nat} {q0 r:Int} {b:Nat→Int} {u:Nat→Rat}:a5Q n (aP9 q0 b r) u↔((q0:Int):Rat)*u 0+g8 (fun l=>((b l:Int):Rat)*u (l+1)) n=((r:Int):Rat):=by
 unfold a5Q aP9
 simp only
 rw [ac5]
theorem a2o {n v:Nat} {u:Nat→Rat} (hv:v<n):g8 (fun l=>(((if l=v then (1:Int) else 0):Int):Rat)*u l) n=u v:=by
 rw [B8 hv,u6 fun j hj=>?_]
 ·simp only [if_true]
  have:((1:Int):Rat)=1:=rfl
  rw [this];grind
 ·by_cases h:j=v
  ·simp only [h,if_true]
  ·simp only [if_neg h]
   have:((0:Int):Rat)=0:=rfl
   rw [this];grind
theorem b3i {s:Nat} (hs:1≤s) (b:Prop) [Decidable b]:bl (if b then (1:Int) else 0)≤s:=by
 split
 ·exact Nat.le_trans (p8 (by decide) (by decide)) hs
 ·exact Nat.le_trans (p8 (by decide) (by decide)) hs
theorem a3k {m n s:Nat} {D0 D:Fd} (h0:a4e m n s D0) (hs:1≤s) (hP:O8 m n D) (hI:∀y c,Ids m n D0 y c↔Ids m n D y c) {c:Int} {t:Nat→Int} (hc:c=0∨c=1) (ht:∀j,t j=0∨t j=1)
 {q r:Int} {b:Nat→Int} {φ:Rat} (hq:q≠0) (hqs:bl q≤s) (hr:bl r≤s) (hb:∀l,l<n→bl (b l)≤s)
 (hφ:((q:Int):Rat)*φ=((r:Int):Rat)*((c:Int):Rat)+g8 (fun l=>((b l:Int):Rat)*D8 m n D ((c:Int):Rat) (fun j=>((t j:Int):Rat)) l) n):rl φ≤2 ^ n*(s+2):=by
 obtain ⟨y,hy⟩:∃y,y=D8 m n D ((c:Int):Rat) (fun j=>((t j:Int):Rat)):=⟨_,rfl⟩
 rw [← hy] at hφ
 have hyD:Ids m n D y ((c:Int):Rat):=by rw [hy];exact P2 hP _ _
 have hy0:=(hI y _).2 hyD
 have hyF:∀j,j<n→y (D.F j)=((t j:Int):Rat):=fun j hj=>by rw [hy];exact U9 hP hj
 -- the equations of the columns
 have eqs:∀j,j<n→∃e:EqI,(∀ l,l≤n→bl (e.co l)≤s+1)∧bl e.rhs≤s+1∧
  ∀(y' u':Nat→Rat),(∀ l,l<n→u' (l+1)=y' l)→Ids m n D0 y' ((c:Int):Rat)→(a5Q n e u'↔y' (D.F j)=((t j:Int):Rat)):=by
  intro j hj
  have htb:bl (t j)≤1:=by rcases ht j with h|h<;>rw [h]<;>exact p8 (by decide) (by decide)
  by_cases hv:D.F j<n
  ·refine ⟨aP9 0 (fun l=>if l=D.F j then 1 else 0) (t j),fun l hl=>?_,Nat.le_trans htb (by omega),fun y' u' hu hy'=>?_⟩
   ·cases l with
    |zero=>exact Nat.le_trans (p8 (x:=0) (by decide) (by decide)) (by omega)
    |succ l=>exact b3i (by omega) _
   ·rw [a7F]
    rw [f7 (g:=fun l=>(((if l=D.F j then (1:Int) else 0):Int):Rat)*y' l) fun l hl=>by rw [hu l hl],a2o hv]
    have:((0:Int):Rat)=0:=rfl
    rw [this]
    constructor<;>intro h<;>grind
  ·have hb1:=hP.fb j hj
   obtain ⟨i,hi⟩:∃i,D.F j=n+i:=⟨D.F j - n,by omega⟩
   have him:i<m:=by omega
   obtain ⟨qi,vi,ai,q1,q2,q3,q4,q5,q6⟩:=h0.w i him
   have hrhs:bl (vi*c - qi*t j)≤s+1:=by
    have h1:bl (vi*c)≤s:=by rcases hc with h|h<;>rw [h]<;>simp<;>first|exact q3|exact Nat.le_trans (p8 (x:=0) (by decide) (by decide)) hs
    have h2:bl (qi*t j)≤s:=by rcases ht j with h|h<;>rw [h]<;>simp<;>first|exact q2|exact Nat.le_trans (p8 (x:=0) (by decide) (by decide)) hs
    have:=b0U (vi*c) (qi*t j)
    omega
   refine ⟨aP9 0 ai (vi*c - qi*t j),fun l hl=>?_,hrhs,fun y' u' hu hy'=>?_⟩
   ·cases l with
    |zero=>exact Nat.le_trans (p8 (x:=0) (by decide) (by decide)) (by omega)
    |succ l=>exact Nat.le_trans (q4 l (by omega)) (by omega)
   ·rw [a7F,hi]
    have hid:=hy' i him
    rw [h0.o i him] at hid
    have hsum:g8 (fun l=>((ai l:Int):Rat)*u' (l+1)) n=((qi:Int):Rat)*g8 (fun j=>D0.A i j*y' (D0.F j)) n:=by
     rw [← E1]
     refine f7 fun l hl=>?_
     rw [hu l hl,h0.f l hl,←q6 l hl];grind
    rw [hsum]
    have e0:((0:Int):Rat)=0:=rfl
    have e1:((vi*c - qi*t j:Int):Rat)=((vi:Int):Rat)*((c:Int):Rat) - ((qi:Int):Rat)*((t j:Int):Rat):=by push_cast;rfl
    rw [e0,e1,←q5]
    have hqn:((qi:Int):Rat)≠0:=by intro h;exact q1 (by exact_mod_cast h)
    constructor
    ·intro h
     have:((qi:Int):Rat)*(y' (n+i) - ((t j:Int):Rat))=0:=by rw [hid];grind
     have:=(Rat.mul_eq_zero.1 this).resolve_left hqn
     grind
    ·intro h
     rw [← h,hid];grind
 -- the equation of the value
 obtain ⟨E,hE⟩:∃E:Nat→EqI,∀j,(hj:j<n)→E j=Classical.choose (eqs j hj):=⟨fun j=>if hj:j<n then Classical.choose (eqs j hj) else ⟨fun _=>0,0⟩,fun j hj=>by simp [hj]⟩
 have hEs:∀j,j<n→(∀ l,l≤n→bl ((E j).co l)≤s+1)∧bl (E j).rhs≤s+1∧
  ∀(y' u':Nat→Rat),(∀ l,l<n→u' (l+1)=y' l)→Ids m n D0 y' ((c:Int):Rat)→(a5Q n (E j) u'↔y' (D.F j)=((t j:Int):Rat)):=fun j hj=>by
  rw [hE j hj];exact Classical.choose_spec (eqs j hj)
 let e0:EqI:=aP9 q (fun l=>0 - b l) (r*c)
 have he0:∀(y' u':Nat→Rat),(∀ l,l<n→u' (l+1)=y' l)→(a5Q n e0 u'↔((q:Int):Rat)*u' 0=((r:Int):Rat)*((c:Int):Rat)+g8 (fun l=>((b l:Int):Rat)*y' l) n):=by
  intro y' u' hu
  show a5Q n (aP9 q (fun l=>0 - b l) (r*c)) u'↔_
  rw [a7F]
  have e1:g8 (fun l=>(((0 - b l:Int)):Rat)*u' (l+1)) n=0 - g8 (fun l=>((b l:Int):Rat)*y' l) n:=by
   have:g8 (fun l=>(((0 - b l:Int)):Rat)*u' (l+1)) n=g8 (fun l=>(-1:Rat)*(((b l:Int):Rat)*y' l)) n:=f7 fun l hl=>by
    rw [hu l hl];push_cast;grind
   rw [this,E1];grind
  rw [e1]
  have e2:((r*c:Int):Rat)=((r:Int):Rat)*((c:Int):Rat):=by push_cast;rfl
  rw [e2]
  constructor<;>intro h<;>grind
 let u:Nat→Rat:=fun l=>match l with|0=>φ|l+1=>y l
 have hu:∀l,l<n→u (l+1)=y l:=fun l _=>rfl
 have key:=a4G n (s+1) (e0::(List.range n).map E) u (fun e he=>?_) (fun e he=>?_) (fun u' hu'=>?_)
 ·exact key
 ·rcases List.mem_cons.1 he with rfl|he
  ·refine ⟨fun l hl=>?_,?_⟩
   ·cases l with
    |zero=>exact Nat.le_trans hqs (by omega)
    |succ l=>
     show bl (0 - b l)≤s+1
     have:=hb l (by omega)
     have h1:=b0U 0 (b l)
     have h2:=p8 (x:=0) (by decide) (by decide)
     omega
   ·show bl (r*c)≤s+1
    rcases hc with h|h<;>rw [h]<;>simp
    ·exact Nat.le_trans (p8 (x:=0) (by decide) (by decide)) (by omega)
    ·omega
  ·obtain ⟨j,hj,rfl⟩:=List.mem_map.1 he
   have:=hEs j (List.mem_range.1 hj)
   exact ⟨this.1,this.2.1⟩
 ·rcases List.mem_cons.1 he with rfl|he
  ·exact (he0 y u hu).2 hφ
  ·obtain ⟨j,hj,rfl⟩:=List.mem_map.1 he
   have hj:=List.mem_range.1 hj
   exact ((hEs j hj).2.2 y u hu hy0).2 (hyF j hj)
 ·let y':Nat→Rat:=fun w=>if w<n then u' (w+1) else ((c:Int):Rat)*D0.V (w - n) - g8 (fun j=>D0.A (w - n) j*u' (j+1)) n
  have huy:∀l,l<n→u' (l+1)=y' l:=fun l hl=>by show _=if l<n then _ else _;rw [if_pos hl]
  have hy':Ids m n D0 y' ((c:Int):Rat):=by
   intro i hi
   rw [h0.o i hi]
   show (if n+i<n then _ else _)=_
   rw [if_neg (by omega),show n+i - n=i by omega]
   congr 1
   refine f7 fun j hj=>?_
   rw [h0.f j hj,huy j hj]
  have hyD':=(hI y' _).1 hy'
  have hF':∀j,j<n→y' (D.F j)=((t j:Int):Rat):=fun j hj=>((hEs j hj).2.2 y' u' huy hy').1 (hu' _ (List.mem_cons_of_mem _ (List.mem_map.2 ⟨j,List.mem_range.2 hj,rfl⟩)))
  have same:∀w,w<n+m→y' w=y w:=by
   intro w hw
   rcases hP.all w hw with ⟨i,hi,rfl⟩|⟨j,hj,rfl⟩
   ·rw [hyD' i hi,hyD i hi]
    congr 1
    exact f7 fun j hj=>by rw [hF' j hj,hyF j hj]
   ·rw [hF' j hj,hyF j hj]
  have h1:=(he0 y' u' huy).1 (hu' e0 (List.mem_cons_self))
  have h2:g8 (fun l=>((b l:Int):Rat)*y' l) n=g8 (fun l=>((b l:Int):Rat)*y l) n:=f7 fun l hl=>by rw [same l (by omega)]
  rw [h2,←hφ] at h1
  have hqn:((q:Int):Rat)≠0:=by intro h;exact hq (by exact_mod_cast h)
  show u' 0=φ
  have h3:((q:Int):Rat)*(u' 0 - φ)=0:=by grind
  have:=(Rat.mul_eq_zero.1 h3).resolve_left hqn
  grind
end
section
theorem ac1 {m n s:Nat} {D0 D:Fd} (h0:a4e m n s D0) (hs:1≤s) (hP:O8 m n D) (hI:∀y c,Ids m n D0 y c↔Ids m n D y c) {c:Int} {t:Nat→Int} (hc:c=0∨c=1) (ht:∀j,t j=0∨t j=1) {w:Nat} (hw:w<n+m):
 rl (D8 m n D ((c:Int):Rat) (fun j=>((t j:Int):Rat)) w)≤2 ^ n*(s+2):=by
 by_cases hv:w<n
 ·refine a3k h0 hs hP hI hc ht (q:=1) (r:=0) (b:=fun l=>if l=w then 1 else 0) (by decide) (Nat.le_trans (p8 (by decide) (by decide)) hs) (Nat.le_trans (p8 (by decide) (by decide)) hs) (fun l hl=>b3i hs _) ?_
  rw [a2o hv]
  have e0:((0:Int):Rat)=0:=rfl
  have e1:((1:Int):Rat)=1:=rfl
  rw [e0,e1];grind
 ·obtain ⟨i,rfl⟩:∃i,w=n+i:=⟨w - n,by omega⟩
  have him:i<m:=by omega
  obtain ⟨qi,vi,ai,q1,q2,q3,q4,q5,q6⟩:=h0.w i him
  have hy0:=(hI _ _).2 (P2 hP ((c:Int):Rat) (fun j=>((t j:Int):Rat))) i him
  rw [h0.o i him] at hy0
  refine a3k h0 (Nat.le_trans hs (Nat.le_refl _)) hP hI hc ht (q:=qi) (r:=vi) (b:=fun l=>0 - ai l) q1 q2 q3 (fun l hl=>?_) ?_
  ·rw [show (0:Int) - ai l=-(ai l) by omega,a2b];exact q4 l hl
  ·rw [hy0,←q5]
   have e1:g8 (fun l=>(((0 - ai l:Int)):Rat)*D8 m n D ((c:Int):Rat) (fun j=>((t j:Int):Rat)) l) n=0 - ((qi:Int):Rat)*g8 (fun j=>D0.A i j*D8 m n D ((c:Int):Rat) (fun j=>((t j:Int):Rat)) (D0.F j)) n:=by
    have:g8 (fun l=>(((0 - ai l:Int)):Rat)*D8 m n D ((c:Int):Rat) (fun j=>((t j:Int):Rat)) l) n=g8 (fun l=>(0 - ((qi:Int):Rat))*(D0.A i l*D8 m n D ((c:Int):Rat) (fun j=>((t j:Int):Rat)) (D0.F l))) n:=f7 fun l hl=>by
     rw [h0.f l hl]
     have:=q6 l hl
     have e:((0 - ai l:Int):Rat)=0 - ((ai l:Int):Rat):=by push_cast;rfl
     rw [e,←this];grind
    rw [this,E1];grind
   rw [e1];grind
theorem b1P {m n s:Nat} {D0 D:Fd} (h0:a4e m n s D0) (hs:1≤s) (hP:O8 m n D) (hI:∀y c,Ids m n D0 y c↔Ids m n D y c) {i:Nat} (hi:i<m):rl (D.V i)≤2 ^ n*(s+2):=by
 have:=ac1 h0 hs hP hI (c:=1) (t:=fun _=>0) (.inr rfl) (fun _=>.inl rfl) (hP.ob i hi)
 rw [a2x hP hi] at this
 have e:g8 (fun j=>D.A i j*(((fun _=>(0:Int)) j:Int):Rat)) n=0:=u6 fun j hj=>by
  show D.A i j*((0:Int):Rat)=0
  have e0:((0:Int):Rat)=0:=rfl
  rw [e0];grind
 rw [e] at this
 have e2:((1:Int):Rat)*D.V i - 0=D.V i:=by have e1:((1:Int):Rat)=1:=rfl;rw [e1];grind
 rw [e2] at this
 exact this
theorem aK8 {m n s:Nat} {D0 D:Fd} (h0:a4e m n s D0) (hs:1≤s) (hP:O8 m n D) (hI:∀y c,Ids m n D0 y c↔Ids m n D y c) {i j:Nat} (hi:i<m) (hj:j<n):rl (D.A i j)≤2 ^ n*(s+2):=by
 have:=ac1 h0 hs hP hI (c:=0) (t:=fun l=>if l=j then 1 else 0) (.inl rfl) (fun l=>by by_cases h:l=j;exact .inr (if_pos h);exact .inl (if_neg h)) (hP.ob i hi)
 rw [a2x hP hi] at this
 have e:g8 (fun l=>D.A i l*(((if l=j then (1:Int) else 0):Int):Rat)) n=D.A i j:=by
  rw [f7 (g:=fun l=>(((if l=j then (1:Int) else 0):Int):Rat)*D.A i l) fun l hl=>by grind,a2o (u:=fun l=>D.A i l) hj]
 rw [e] at this
 have e2:((0:Int):Rat)*D.V i - D.A i j=-(D.A i j):=by have e1:((0:Int):Rat)=0:=rfl;rw [e1];grind
 rw [e2,M9] at this
 exact this
theorem aH4 {m n s:Nat} {D0 D:Fd} (h0:a4e m n s D0) (hs:1≤s) (hP:O8 m n D) (hI:∀y c,Ids m n D0 y c↔Ids m n D y c) {g0:Nat→Rat} {z:Rat} (hG:W5 n D g0 m z) {q:Int} {b:Nat→Int} (hq:q≠0) (hqs:bl q≤s) (hb:∀l,l<n→bl (b l)≤s) (hg:∀l,l<n→((q:Int):Rat)*g0 l=((b l:Int):Rat)) {j:Nat} (hj:j<n):rl (D.G j)≤2 ^ n*(s+2):=by
 have h1:=hG _ _ (P2 hP ((0:Int):Rat) (fun l=>(((if l=j then (1:Int) else 0):Int):Rat)))
 have e:g8 (fun l=>D.G l*D8 m n D ((0:Int):Rat) (fun l=>(((if l=j then (1:Int) else 0):Int):Rat)) (D.F l)) n=D.G j:=by
  rw [f7 (g:=fun l=>(((if l=j then (1:Int) else 0):Int):Rat)*D.G l) fun l hl=>by rw [U9 hP hl];grind,a2o (u:=fun l=>D.G l) hj]
 rw [e] at h1
 refine a3k h0 hs hP hI (c:=0) (t:=fun l=>if l=j then 1 else 0) (.inl rfl) (fun l=>by by_cases h:l=j;exact .inr (if_pos h);exact .inl (if_neg h)) (q:=q) (r:=0) (b:=b) hq hqs (Nat.le_trans (p8 (by decide) (by decide)) hs) hb ?_
 have e0:((0:Int):Rat)=0:=rfl
 have h2:D.G j=g8 (fun l=>g0 l*D8 m n D ((0:Int):Rat) (fun l=>(((if l=j then (1:Int) else 0):Int):Rat)) l) n:=by
  rw [h1];simp only [e0];grind
 rw [h2,←E1]
 have h3:g8 (fun l=>((b l:Int):Rat)*D8 m n D ((0:Int):Rat) (fun l=>(((if l=j then (1:Int) else 0):Int):Rat)) l) n=g8 (fun l=>((q:Int):Rat)*(g0 l*D8 m n D ((0:Int):Rat) (fun l=>(((if l=j then (1:Int) else 0):Int):Rat)) l)) n:=f7 fun l hl=>by rw [← hg l hl];grind
 rw [h3];grind
def aR7 (m n:Nat) (y:Nat→Rat):Prop:=∀w,w<n+m→0≤y w
theorem au0 {m n:Nat} {D:Fd} {g0:Nat→Rat} {z:Rat} (hP:O8 m n D) (hG:W5 n D g0 m z) (hv:∀i,i<m→0≤D.V i) (hg:∀j,j<n→D.G j≤0):
 (∃ y,Ids m n D y 1∧aR7 m n y∧g8 (fun j=>g0 j*y j) n=z∧y=D8 m n D 1 (fun _=>0))∧∀y,Ids m n D y 1→aR7 m n y→g8 (fun j=>g0 j*y j) n≤z:=by
 refine ⟨⟨_,P2 hP 1 (fun _=>0),fun w hw=>?_,?_,rfl⟩,fun y hy hp=>?_⟩
 ·rcases hP.all w hw with ⟨i,hi,rfl⟩|⟨j,hj,rfl⟩
  ·rw [a2x hP hi,u6 fun j hj=>by grind]
   have:=hv i hi;grind
  ·rw [U9 hP hj];grind
 ·rw [hG _ _ (P2 hP 1 (fun _=>0)),u6 fun j hj=>by rw [U9 hP hj];grind];grind
 ·rw [hG _ _ hy]
  have:g8 (fun j=>D.G j*y (D.F j)) n≤0:=a5C fun j hj=>by
   have h1:=hg j hj
   have h2:=hp (D.F j) (hP.fb j hj)
   have:=Rat.mul_nonneg (show 0≤-(D.G j) by grind) h2
   grind
  grind
theorem b2N {m n:Nat} {D:Fd} (hP:O8 m n D) {r:Nat} (hr:r<m) (hv:D.V r<0) (ha:∀j,j<n→0≤D.A r j):∀y,Ids m n D y 1→¬aR7 m n y:=by
 intro y hy hp
 have h1:=hy r hr
 have h2:=hp (D.O r) (hP.ob r hr)
 have h3:0≤g8 (fun j=>D.A r j*y (D.F j)) n:=a2T fun j hj=>Rat.mul_nonneg (ha j hj) (hp _ (hP.fb j hj))
 grind
theorem b1U {m n:Nat} {D:Fd} {g0:Nat→Rat} {z:Rat} (hP:O8 m n D) (hG:W5 n D g0 m z) {s:Nat} (hs:s<n) (hg:0<D.G s) (ha:∀i,i<m→D.A i s≤0):
 ∃y,Ids m n D y 0∧aR7 m n y∧0<g8 (fun j=>g0 j*y j) n∧y=D8 m n D 0 (fun j=>if j=s then 1 else 0):=by
 have hsum:∀f:Nat→Rat,g8 (fun j=>f j*(if j=s then (1:Rat) else 0)) n=f s:=fun f=>by
  rw [B8 hs,u6 fun j hj=>by by_cases h:j=s;simp only [h,if_true];simp only [if_neg h];grind]
  simp only [if_true];grind
 refine ⟨_,P2 hP 0 _,fun w hw=>?_,?_,rfl⟩
 ·rcases hP.all w hw with ⟨i,hi,rfl⟩|⟨j,hj,rfl⟩
  ·rw [a2x hP hi,hsum]
   have:=ha i hi;grind
  ·rw [U9 hP hj];split<;>grind
 ·rw [hG _ _ (P2 hP 0 _),f7 (g:=fun j=>D.G j*(if j=s then (1:Rat) else 0)) fun j hj=>by rw [U9 hP hj],hsum]
  grind
end
section
def G6 (l:List (Int × Rat)):Nat→Nat→Rat
 |0=>fun _=>0
 |k+1=>match l[k]? with
  |none=>G6 l k
  |some t=>fun j=>if j=t.1.toNat then t.2 else G6 l k j
def u3 (l:List (Int × Rat)):Nat→Rat:=G6 l l.length
theorem E5 {l:List (Int × Rat)} {k:Nat} {t:Int × Rat} (h:l[k]? =some t):G6 l (k+1)=fun j=>if j=t.1.toNat then t.2 else G6 l k j:=by rw [G6,h]
theorem S1 {l:List (Int × Rat)} {v:Nat}:∀k,(∀ i t,i<k→l[i]? =some t→t.1.toNat≠v)→G6 l k v=0
 |0,_=>rfl
 |k+1,h=>by
  have ih:=S1 (l:=l) (v:=v) k fun i t hi ht=>h i t (by omega) ht
  cases hk:l[k]? with
  |none=>rw [G6,hk];exact ih
  |some t=>
   rw [E5 hk]
   simp only
   rw [if_neg (fun e=>h k t (by omega) hk e.symm),ih]
theorem s9:∀{last n:Int} {l:List (Int × Rat)},e7 last n l=true→∀t ∈ l,last<t.1∧t.1<n∧t.2≠0
 |_,_,[],_,t,ht=>by cases ht
 |last,n,a::r,h,t,ht=>by
  unfold e7 at h
  simp only [Bool.and_eq_true,decide_eq_true_eq] at h
  rcases List.mem_cons.1 ht with rfl|ht
  ·exact ⟨h.1.1.1,h.1.1.2,h.1.2⟩
  ·have:=s9 h.2 t ht
   exact ⟨by omega,this.2⟩
theorem a0t:∀{last n:Int} {l:List (Int × Rat)},e7 last n l=true→∀(i j:Nat) (t u:Int × Rat),i<j→l[i]? =some t→l[j]? =some u→t.1<u.1
 |_,_,[],_,i,j,t,u,_,ht,_=>by simp at ht
 |last,n,a::r,h,i,j,t,u,hij,ht,hu=>by
  unfold e7 at h
  simp only [Bool.and_eq_true,decide_eq_true_eq] at h
  cases j with
  |zero=>omega
  |succ j=>
   simp only [List.getElem?_cons_succ] at hu
   cases i with
   |zero=>
    simp only [List.getElem?_cons_zero] at ht
    injection ht with ht;subst ht
    exact (s9 h.2 u (lg2 hu)).1
   |succ i=>
    simp only [List.getElem?_cons_succ] at ht
    exact a0t h.2 i j t u (by omega) ht hu
theorem ax4 {α:Type} {l:List α} {k:Nat} {x:α} (h:l[k]? =some x):l.take (k+1)=l.take k++[x]:=by rw [List.take_add_one,h];rfl
theorem ao1 {n:Nat} {l:List (Int × Rat)} (h:e7 (-1) (n:Int) l=true) (z:List Rat):∀k,k≤l.length→j3 (l.take k) z=g8 (fun j=>G6 l k j*z.getD j 0) n
 |0,_=>by
  rw [List.take_zero,u6 fun j hj=>by show (0:Rat)*_=0;grind]
  rfl
 |k+1,hk=>by
  have ih:=ao1 h z k (by omega)
  obtain ⟨t,ht⟩:∃t,l[k]? =some t:=⟨_,lg0 (by omega)⟩
  have hm:=s9 h t (lg2 ht)
  have hv:t.1.toNat<n:=by omega
  have h0:G6 l k t.1.toNat=0:=S1 k fun i u hi hu=>by
   have:=a0t h i k u t hi hu ht
   have h2:=s9 h u (lg2 hu)
   omega
  rw [ax4 ht,M4,ih,E5 ht]
  rw [B8 (f:=fun j=>(if j=t.1.toNat then t.2 else G6 l k j)*z.getD j 0) hv,B8 (f:=fun j=>G6 l k j*z.getD j 0) hv]
  simp only [if_true,h0]
  rw [f7 (f:=fun j=>if j=t.1.toNat then 0 else (if j=t.1.toNat then t.2 else G6 l k j)*z.getD j 0) (g:=fun j=>if j=t.1.toNat then 0 else G6 l k j*z.getD j 0) fun j hj=>by
   by_cases hj:j=t.1.toNat
   ·rw [if_pos hj,if_pos hj]
   ·rw [if_neg hj,if_neg hj,if_neg hj]]
  grind
theorem Y4 {n:Nat} {l:List (Int × Rat)} (h:e7 (-1) (n:Int) l=true) (z:List Rat):j3 l z=g8 (fun j=>u3 l j*z.getD j 0) n:=by
 have:=ao1 h z l.length (Nat.le_refl _)
 rw [List.take_length] at this
 exact this
def I3 (s:f5):Nat→List (Nat × Bool)
 |0=>[]
 |k+1=>match s.rows[k]? with
  |none=>I3 s k
  |some w=>I3 s k++(if w.kind≠0 then [(k,false)] else [])++(if w.kind≠1 then [(k,true)] else [])
def d6 (s:f5):List (Nat × Bool):=I3 s s.rows.length
def O3 (b:Bool) (x:Rat):Rat:=if b then -x else x
def a2y (s:f5) (f:Nat × Bool):Rat:=match s.rows[f.1]? with
 |none=>0
 |some w=>O3 f.2 w.value
def a16 (s:f5) (f:Nat × Bool) (j:Nat):Rat:=match s.rows[f.1]? with
 |none=>0
 |some w=>O3 f.2 (u3 w.terms j)
def g7 (s:f5) (g:List (Int × Rat)):Fd where
 V:=fun i=>a2y s ((d6 s).getD i (0,false))
 A:=fun i j=>a16 s ((d6 s).getD i (0,false)) j
 G:=fun j=>-(u3 g j)
 O:=fun i=>s.n.toNat+i
 F:=fun j=>j
theorem ac3 {s:f5} {f:Nat × Bool}:∀k,f ∈ I3 s k↔f.1<k∧∃w,s.rows[f.1]? =some w∧(f.2=false→w.kind≠0)∧(f.2=true→w.kind≠1)
 |0=>by simp [I3]
 |k+1=>by
  have ih:=ac3 (s:=s) (f:=f) k
  unfold I3
  cases hw:s.rows[k]? with
  |none=>
   simp only
   rw [ih]
   constructor
   ·rintro ⟨h1,h2⟩;exact ⟨by omega,h2⟩
   ·rintro ⟨h1,w,h2,h3⟩
    refine ⟨?_,w,h2,h3⟩
    by_cases he:f.1=k
    ·rw [he,hw] at h2;cases h2
    ·omega
  |some w=>
   simp only
   rw [List.mem_append,List.mem_append,ih]
   obtain ⟨a,b⟩:=f
   simp only
   constructor
   ·rintro ((⟨h1,h2⟩|h)|h)
    ·exact ⟨by omega,h2⟩
    ·split at h
     ·rename_i hk
      simp at h
      obtain ⟨rfl,rfl⟩:=h
      exact ⟨by omega,w,hw,fun _=>hk,fun h=>by cases h⟩
     ·simp at h
    ·split at h
     ·rename_i hk
      simp at h
      obtain ⟨rfl,rfl⟩:=h
      exact ⟨by omega,w,hw,fun h=>(by cases h),fun _=>hk⟩
     ·simp at h
   ·rintro ⟨h1,w',h2,h3,h4⟩
    by_cases he:a=k
    ·subst he
     rw [hw] at h2;injection h2 with h2;subst h2
     cases b with
     |false=>rw [if_pos (h3 rfl)];simp
     |true=>rw [if_pos (h4 rfl)];simp
    ·exact .inl (.inl ⟨by omega,w',h2,h3,h4⟩)
theorem V8 {s:f5} {f:Nat × Bool}:f ∈ d6 s↔∃w,s.rows[f.1]? =some w∧(f.2=false→w.kind≠0)∧(f.2=true→w.kind≠1):=by
 unfold d6
 rw [ac3]
 constructor
 ·rintro ⟨_,h⟩;exact h
 ·rintro ⟨w,h⟩;exact ⟨(lg1 h.1).1,w,h⟩
theorem az0 {s:f5} {g:List (Int × Rat)}:O8 (d6 s).length s.n.toNat (g7 s g) where
 oi:=fun i i' _ _ h=>by have:s.n.toNat+i=s.n.toNat+i':=h;omega
 fi:=fun j j' _ _ h=>h
 of:=fun i j _ hj h=>by have:s.n.toNat+i=j:=h;omega
 all:=fun w hw=>by
  by_cases h:w<s.n.toNat
  ·exact .inr ⟨w,h,rfl⟩
  ·exact .inl ⟨w - s.n.toNat,by omega,by show s.n.toNat+(w - s.n.toNat)=w;omega⟩
 ob:=fun i hi=>by show s.n.toNat+i<_;omega
 fb:=fun j hj=>by show j<_;omega
theorem ay8 {s:f5} {g:List (Int × Rat)}:W5 s.n.toNat (g7 s g) (fun j=>-(u3 g j)) (d6 s).length 0:=by
 intro y c _
 have:c*(0:Rat)=0:=by grind
 rw [this]
 have e:g8 (fun j=>(g7 s g).G j*y ((g7 s g).F j)) s.n.toNat=g8 (fun j=>-(u3 g j)*y j) s.n.toNat:=rfl
 rw [e];grind
def a4w (s:f5) (g:List (Int × Rat)) (z:List Rat) (w:Nat):Rat:=if w<s.n.toNat then z.getD w 0 else (g7 s g).V (w - s.n.toNat) - g8 (fun j=>(g7 s g).A (w - s.n.toNat) j*z.getD j 0) s.n.toNat
theorem aH7 {s:f5} {g:List (Int × Rat)} (z:List Rat):Ids (d6 s).length s.n.toNat (g7 s g) (a4w s g z) 1:=by
 intro i hi
 show a4w s g z (s.n.toNat+i)=_
 unfold a4w
 rw [if_neg (by omega),show s.n.toNat+i - s.n.toNat=i by omega]
 have:(1:Rat)*(g7 s g).V i=(g7 s g).V i:=by grind
 rw [this]
 congr 1
 refine f7 fun j hj=>?_
 show _=(g7 s g).A i j*(if j<s.n.toNat then z.getD j 0 else _)
 rw [if_pos hj]
theorem ab1 {s:f5} {g:List (Int × Rat)} (hr:f9 s=true) {z:List Rat} {i:Nat} {f:Nat × Bool} {w:x7} (hf:(d6 s)[i]? =some f) (hw:s.rows[f.1]? =some w):a4w s g z (s.n.toNat+i)=O3 f.2 (w.value - j3 w.terms z):=by
 unfold a4w
 rw [if_neg (by omega),show s.n.toNat+i - s.n.toNat=i by omega]
 have hfd:(d6 s).getD i (0,false)=f:=by rw [lg3,hf];rfl
 show a2y s ((d6 s).getD i (0,false)) - g8 (fun j=>a16 s ((d6 s).getD i (0,false)) j*z.getD j 0) s.n.toNat=_
 rw [hfd]
 have hrow:u9 s.n w=true:=by
  unfold f9 at hr
  simp only [Bool.and_eq_true,decide_eq_true_eq,List.all_eq_true] at hr
  exact hr.2 w (lg2 hw)
 have hn:(s.n.toNat:Int)=s.n:=by
  unfold f9 at hr
  simp only [Bool.and_eq_true,decide_eq_true_eq] at hr
  omega
 unfold u9 at hrow
 simp only [Bool.and_eq_true,decide_eq_true_eq] at hrow
 have hrt:=hrow.1.1
 rw [← hn] at hrt
 have e1:a2y s f=O3 f.2 w.value:=by unfold a2y;rw [hw]
 have e2:∀j,a16 s f j=O3 f.2 (u3 w.terms j):=fun j=>by unfold a16;rw [hw]
 rw [e1,Y4 hrt z]
 cases hb:f.2 with
 |false=>
  rw [f7 (g:=fun j=>u3 w.terms j*z.getD j 0) fun j hj=>by rw [e2 j,hb];rfl]
  rfl
 |true=>
  rw [f7 (g:=fun j=>(-1:Rat)*(u3 w.terms j*z.getD j 0)) fun j hj=>by rw [e2 j,hb];show -(u3 w.terms j)*_=_;grind,E1]
  show -w.value - _=-(w.value - _)
  grind
theorem first_holds {s:f5} {g:List (Int × Rat)} (hr:f9 s=true) {z:List Rat} (hl:(z.length:Int)=s.n):i7 s z=true↔aR7 (d6 s).length s.n.toNat (a4w s g z):=by
 have hn:z.length=s.n.toNat:=by omega
 unfold i7
 rw [hr,decide_eq_true hl]
 simp only [Bool.true_and,Bool.and_eq_true,List.all_eq_true,decide_eq_true_eq]
 constructor
 ·rintro ⟨h1,h2⟩ w hw
  by_cases hv:w<s.n.toNat
  ·unfold a4w
   rw [if_pos hv,lg3,lg0 (by omega)]
   exact h1 _ (List.getElem_mem _)
  ·obtain ⟨i,rfl⟩:∃i,w=s.n.toNat+i:=⟨w - s.n.toNat,by omega⟩
   have hi:i<(d6 s).length:=by omega
   obtain ⟨f,hf⟩:∃f,(d6 s)[i]? =some f:=⟨_,lg0 hi⟩
   obtain ⟨x,hx,hk1,hk2⟩:=V8.1 (lg2 hf)
   rw [ab1 hr hf hx]
   have hb:=h2 x (lg2 hx)
   unfold N3 at hb
   simp only [Bool.not_eq_true',Bool.or_eq_false_iff,Bool.and_eq_false_iff,decide_eq_false_iff_not] at hb
   cases hfb:f.2 with
   |false=>
    have:=hk1 hfb
    show 0≤x.value - j3 x.terms z
    rcases hb.2 with h|h
    ·grind
    ·exact absurd this h
   |true=>
    have:=hk2 hfb
    show 0≤-(x.value - j3 x.terms z)
    rcases hb.1 with h|h
    ·grind
    ·exact absurd this h
 ·intro hp
  refine ⟨fun v hv=>?_,fun x hx=>?_⟩
  ·obtain ⟨j,hj,rfl⟩:=List.getElem_of_mem hv
   have:=hp j (by omega)
   unfold a4w at this
   rw [if_pos (by omega),lg3,lg0 hj] at this
   exact this
  ·obtain ⟨k,hk,hkx⟩:=List.getElem_of_mem hx
   have hxk:s.rows[k]? =some x:=by rw [lg0 hk,hkx]
   have side:∀b:Bool,(b=false→x.kind≠0)→(b=true→x.kind≠1)→0≤O3 b (x.value - j3 x.terms z):=by
    intro b h1 h2
    have hm:((k,b):Nat × Bool) ∈ d6 s:=V8.2 ⟨x,hxk,h1,h2⟩
    obtain ⟨i,hi,hif⟩:=List.getElem_of_mem hm
    have hf:(d6 s)[i]? =some (k,b):=by rw [lg0 hi,hif]
    have:=hp (s.n.toNat+i) (by omega)
    rw [ab1 hr hf hxk] at this
    exact this
   unfold N3
   simp only [Bool.not_eq_true',Bool.or_eq_false_iff,Bool.and_eq_false_iff,decide_eq_false_iff_not]
   constructor
   ·by_cases h:x.kind≠1
    ·left
     have:=side true (fun h=>by cases h) (fun _=>h)
     have h2:0≤-(x.value - j3 x.terms z):=this
     grind
    ·right;exact h
   ·by_cases h:x.kind≠0
    ·left
     have:=side false (fun _=>h) (fun h=>by cases h)
     have h2:0≤x.value - j3 x.terms z:=this
     grind
    ·right;exact h
end
section
theorem aL0 (x:Rat):((x.den:Int):Rat)*x=((x.num:Int):Rat):=by
 have hq:((x.den:Int):Rat)≠0:=by
  intro h
  have:(x.den:Int)=0:=by exact_mod_cast h
  have:=x.den_pos;omega
 have h1:x=((x.num:Int):Rat) / ((x.den:Int):Rat):=by rw [← Rat.divInt_eq_div,Rat.num_divInt_den]
 have h2:((x.den:Int):Rat)*(((x.num:Int):Rat) / ((x.den:Int):Rat))=((x.num:Int):Rat):=by
  rw [Rat.div_def,Rat.mul_comm,Rat.mul_assoc,Rat.inv_mul_cancel _ hq,Rat.mul_one]
 rw [← h1] at h2
 exact h2
def a38 (B:Nat) (w:x7):Prop:=(∀ t ∈ w.terms,∃c:Int,t.2=((c:Int):Rat)∧bl c≤1)∧rl w.value≤B
theorem a0z {l:List (Int × Rat)} (h:∀t ∈ l,∃c:Int,t.2=((c:Int):Rat)∧bl c≤1):∀(k j:Nat),∃c:Int,G6 l k j=((c:Int):Rat)∧bl c≤1
 |0,j=>⟨0,rfl,p8 (by decide) (by decide)⟩
 |k+1,j=>by
  cases hk:l[k]? with
  |none=>rw [G6,hk];exact a0z h k j
  |some t=>
   rw [E5 hk]
   simp only
   split
   ·exact h t (lg2 hk)
   ·exact a0z h k j
theorem aK9 {b:Bool} {x:Rat} {c:Int} (h:x=((c:Int):Rat)):∃c':Int,O3 b x=((c':Int):Rat)∧bl c'=bl c:=by
 cases b with
 |false=>exact ⟨c,h,rfl⟩
 |true=>exact ⟨-c,by show -x=_;rw [h];push_cast;rfl,a2b c⟩
theorem aN2 {s:f5} {g:List (Int × Rat)} {B:Nat} (hI:∀w ∈ s.rows,a38 B w):a4e (d6 s).length s.n.toNat (B+2) (g7 s g) where
 o:=fun i _=>rfl
 f:=fun j _=>rfl
 w:=fun i hi=>by
  obtain ⟨f,hf⟩:∃f,(d6 s)[i]? =some f:=⟨_,lg0 hi⟩
  obtain ⟨x,hx,_⟩:=V8.1 (lg2 hf)
  obtain ⟨h1,h2⟩:=hI x (lg2 hx)
  have hfd:(d6 s).getD i (0,false)=f:=by rw [lg3,hf];rfl
  have eV:(g7 s g).V i=O3 f.2 x.value:=by show a2y s ((d6 s).getD i (0,false))=_;rw [hfd];unfold a2y;rw [hx]
  have eA:∀j,(g7 s g).A i j=O3 f.2 (u3 x.terms j):=fun j=>by show a16 s ((d6 s).getD i (0,false)) j=_;rw [hfd];unfold a16;rw [hx]
  have hc:∀j,∃c:Int,(g7 s g).A i j=((c:Int):Rat)∧bl c≤1:=fun j=>by
   obtain ⟨c,hc,hb⟩:=a0z h1 x.terms.length j
   obtain ⟨c',hc',hb'⟩:=aK9 (b:=f.2) (x:=u3 x.terms j) hc
   exact ⟨c',by rw [eA,hc'],by omega⟩
  refine ⟨(x.value.den:Int),if f.2 then -x.value.num else x.value.num,fun j=>(x.value.den:Int)*Classical.choose (hc j),?_,?_,?_,fun j hj=>?_,?_,fun j hj=>?_⟩
  ·have:=x.value.den_pos;omega
  ·have:=B9 x.value;omega
  ·have:=B3 x.value
   split
   ·rw [a2b];omega
   ·omega
  ·have hb:=(Classical.choose_spec (hc j)).2
   have h3:=B7 (x.value.den:Int) (Classical.choose (hc j))
   have h4:=B9 x.value
   have e5:bl ((x.value.den:Int)*Classical.choose (hc j))≤B+2:=by omega
   exact e5
  ·rw [eV]
   cases hb:f.2 with
   |false=>exact aL0 x.value
   |true=>
    show _*(-x.value)=((-x.value.num:Int):Rat)
    have:=aL0 x.value
    have e:((-x.value.num:Int):Rat)=-((x.value.num:Int):Rat):=by push_cast;rfl
    rw [e,←this];grind
  ·have hs:=(Classical.choose_spec (hc j)).1
   conv=>lhs;rw [hs]
   push_cast;rfl
end
section
instance:Inhabited Fd:=⟨⟨fun _=>0,fun _ _=>0,fun _=>0,fun _=>0,fun _=>0⟩⟩
structure a60 (m n:Nat) (D0:Fd) (g0:Nat→Rat) (D:Fd):Prop where
 p:O8 m n D
 i:∀y c,Ids m n D0 y c↔Ids m n D y c
 g:∃z,W5 n D g0 m z
theorem aT2 {m n r s:Nat} {D0 D:Fd} {g0:Nat→Rat} (h:a60 m n D0 g0 D) (hs:y8 m n D=.next r s):a60 m n D0 g0 (D.exch r s):=by
 obtain ⟨hr,hsn,hb⟩:=a6e hs
 have hp:=a7k hb
 obtain ⟨z,hz⟩:=h.g
 exact ⟨a9F hr hsn h.p,fun y c=>(h.i y c).trans (a87 hr hsn hp),_,ab8 hr hsn hp hz⟩
def T9 (m n:Nat) (D0 D:Fd):Prop:=∃k,itS m n k D0=some D
theorem aw2 {m n:Nat} {D0:Fd}:T9 m n D0 D0:=⟨0,rfl⟩
theorem a7A {m n:Nat} {D0 D D':Fd} (h:T9 m n D0 D) (hn:C6 m n D=some D'):T9 m n D0 D':=by
 obtain ⟨k,hk⟩:=h
 exact ⟨k+1,by rw [Y5,hk];exact hn⟩
theorem a3J {m n:Nat} {D0:Fd} {g0:Nat→Rat} (h0:a60 m n D0 g0 D0):∀{k:Nat} {D:Fd},itS m n k D0=some D→a60 m n D0 g0 D
 |0,D,h=>by injection h with h;subst h;exact h0
 |k+1,D,h=>by
  rw [Y5] at h
  cases hk:itS m n k D0 with
  |none=>rw [hk] at h;cases h
  |some D1=>
   rw [hk] at h
   have h:C6 m n D1=some D:=h
   obtain ⟨r,s,hs,rfl⟩:=a7H h
   exact aT2 (a3J h0 hk) hs
theorem a8o {m n:Nat} {D0:Fd} {k:Nat} (h:itS m n k D0=none):∀j,itS m n (k+j) D0=none
 |0=>h
 |j+1=>by rw [show k+(j+1)=(k+j)+1 by omega,Y5,a8o h j];rfl
theorem av9 {m n:Nat} {D0 D D':Fd} (h:T9 m n D0 D) (hn:C6 m n D=none) (h':T9 m n D0 D') (hn':C6 m n D'=none):D=D':=by
 obtain ⟨k,hk⟩:=h
 obtain ⟨l,hl⟩:=h'
 have a1:itS m n (k+1) D0=none:=by rw [Y5,hk];exact hn
 have a2:itS m n (l+1) D0=none:=by rw [Y5,hl];exact hn'
 have hkl:k=l:=by
  rcases Nat.lt_trichotomy k l with h|h|h
  ·have:=a8o a1 (l - (k+1))
   rw [show k+1+(l - (k+1))=l by omega,hl] at this;cases this
  ·exact h
  ·have:=a8o a2 (k - (l+1))
   rw [show l+1+(k - (l+1))=k by omega,hk] at this;cases this
 subst hkl
 rw [hk] at hl;injection hl
theorem b3Q {m n:Nat} {D0:Fd} {g0:Nat→Rat} (h0:a60 m n D0 g0 D0):∃D,T9 m n D0 D∧C6 m n D=none:=by
 obtain ⟨k,hk,hmin⟩:=a2h (fun k=>itS m n k D0=none) (b3a h0.p h0.g)
 cases k with
 |zero=>cases hk
 |succ k=>
  cases hk':itS m n k D0 with
  |none=>have:=hmin k hk';omega
  |some D=>
   rw [Y5,hk'] at hk
   exact ⟨D,⟨k,hk'⟩,hk⟩
noncomputable def a7J (m n:Nat) (D0:Fd):Fd:=Classical.epsilon fun D=>T9 m n D0 D∧C6 m n D=none
theorem a3m {m n:Nat} {D0:Fd} {g0:Nat→Rat} (h0:a60 m n D0 g0 D0):T9 m n D0 (a7J m n D0)∧C6 m n (a7J m n D0)=none:=Classical.epsilon_spec (b3Q h0)
theorem b4p {m n:Nat} {D0 D:Fd} {g0:Nat→Rat} (h0:a60 m n D0 g0 D0) (h:T9 m n D0 D) (hn:C6 m n D=none):D=a7J m n D0:=av9 h hn (a3m h0).1 (a3m h0).2
theorem b1t {m n:Nat} {D0:Fd} {g0:Nat→Rat} (h0:a60 m n D0 g0 D0):a60 m n D0 g0 (a7J m n D0):=by
 obtain ⟨k,hk⟩:=(a3m h0).1
 exact a3J h0 hk
theorem a9V {m n:Nat} {D:Fd} (h:y8 m n D=.best):(∀ i,i<m→0≤D.V i)∧∀j,j<n→D.G j≤0:=by
 unfold y8 at h
 split at h
 ·rename_i h1 h2
  refine ⟨fun i hi=>?_,fun j hj=>?_⟩
  ·have:=Y3 h1 i hi;simp at this;grind
  ·have:=Y3 h2 j hj;simp at this;grind
 ·unfold a04 at h;split at h<;>cases h
 ·unfold a03 at h;split at h<;>cases h
 ·split at h
  ·unfold a04 at h;split at h<;>cases h
  ·unfold a03 at h;split at h<;>cases h
theorem aa9 {n r r':Nat} {D:Fd} (h:a04 n D r=.row r'):r'=r∧∀j,j<n→0≤D.A r j:=by
 unfold a04 at h
 split at h
 ·rename_i h1
  injection h with h
  exact ⟨h.symm,fun j hj=>by have:=Y3 h1 j hj;simp at this;grind⟩
 ·cases h
theorem aa7 {m s s':Nat} {D:Fd} (h:a03 m D s=.col s'):s'=s∧∀i,i<m→D.A i s≤0:=by
 unfold a03 at h
 split at h
 ·rename_i h1
  injection h with h
  exact ⟨h.symm,fun i hi=>by have:=Y3 h1 i hi;simp at this;grind⟩
 ·cases h
theorem an1 {m n r:Nat} {D:Fd} (h:y8 m n D=.row r):r<m∧D.V r<0∧∀j,j<n→0≤D.A r j:=by
 unfold y8 at h
 split at h
 ·cases h
 ·rename_i r0 h1 h2
  obtain ⟨rfl,h4⟩:=aa9 h
  have h3:=D5 h1
  exact ⟨h3.1,by simpa using h3.2.1,h4⟩
 ·unfold a03 at h;split at h<;>cases h
 ·rename_i r0 s0 h1 h2
  split at h
  ·obtain ⟨rfl,h4⟩:=aa9 h
   have h3:=D5 h1
   exact ⟨h3.1,by simpa using h3.2.1,h4⟩
  ·unfold a03 at h;split at h<;>cases h
theorem a5B {m n s:Nat} {D:Fd} (h:y8 m n D=.col s):s<n∧0<D.G s∧∀i,i<m→D.A i s≤0:=by
 unfold y8 at h
 split at h
 ·cases h
 ·unfold a04 at h;split at h<;>cases h
 ·rename_i s0 h1 h2
  obtain ⟨rfl,h4⟩:=aa7 h
  have h3:=D5 h2
  exact ⟨h3.1,by simpa using h3.2.1,h4⟩
 ·rename_i r0 s0 h1 h2
  split at h
  ·unfold a04 at h;split at h<;>cases h
  ·obtain ⟨rfl,h4⟩:=aa7 h
   have h3:=D5 h2
   exact ⟨h3.1,by simpa using h3.2.1,h4⟩
theorem aX7 {m n:Nat} {D:Fd} (h:C6 m n D=none):y8 m n D=.best∨(∃ r,y8 m n D=.row r)∨∃s,y8 m n D=.col s:=by
 unfold C6 at h
 cases hs:y8 m n D with
 |best=>exact .inl rfl
 |row r=>exact .inr (.inl ⟨r,rfl⟩)
 |col s=>exact .inr (.inr ⟨s,rfl⟩)
 |next r s=>rw [hs] at h;cases h
end
section
def zOf (n:Nat) (y:Nat→Rat):List Rat:=(List.range n).map y
theorem G1 {n:Nat} {y:Nat→Rat}:(zOf n y).length=n:=by simp [zOf]
theorem a50 {n:Nat} {y:Nat→Rat} {j:Nat} (h:j<n):(zOf n y).getD j 0=y j:=by simp [zOf,lg3,h]
theorem a4P {n:Nat} {y:Nat→Rat} {v:Rat} (h:v ∈ zOf n y):∃j,j<n∧v=y j:=by
 obtain ⟨j,hj,rfl⟩:=List.mem_map.1 h
 exact ⟨j,List.mem_range.1 hj,rfl⟩
theorem av4 {n:Nat} {l:List (Int × Rat)} (h:e7 (-1) (n:Int) l=true) (y:Nat→Rat):j3 l (zOf n y)=g8 (fun j=>u3 l j*y j) n:=by
 rw [Y4 h];exact f7 fun j hj=>by rw [a50 hj]
theorem a2v {s:f5} (hr:f9 s=true):((s.n.toNat:Nat):Int)=s.n:=by
 unfold f9 at hr
 simp only [Bool.and_eq_true,decide_eq_true_eq] at hr
 omega
theorem a0e {s:f5} (hr:f9 s=true) {i:Nat} {w:x7} (hw:s.rows[i]? =some w):e7 (-1) ((s.n.toNat:Nat):Int) w.terms=true∧0≤w.kind∧w.kind<3:=by
 rw [a2v hr]
 unfold f9 at hr
 simp only [Bool.and_eq_true,List.all_eq_true] at hr
 have:=hr.2 w (lg2 hw)
 unfold u9 at this
 simp only [Bool.and_eq_true,decide_eq_true_eq] at this
 exact ⟨this.1.1,this.1.2,this.2⟩
theorem b2e {s:f5} {g:List (Int × Rat)} (hr:f9 s=true) {y:Nat→Rat} {c:Rat} (hy:Ids (d6 s).length s.n.toNat (g7 s g) y c) {i k:Nat} {b:Bool} {w:x7}
 (hf:(d6 s)[i]? =some (k,b)) (hw:s.rows[k]? =some w):y (s.n.toNat+i)=O3 b (c*w.value - j3 w.terms (zOf s.n.toNat y)):=by
 have hi:i<(d6 s).length:=(lg1 hf).1
 have h1:y (s.n.toNat+i)=c*(g7 s g).V i - g8 (fun j=>(g7 s g).A i j*y j) s.n.toNat:=hy i hi
 have hd:(d6 s).getD i (0,false)=(k,b):=by rw [lg3,hf];rfl
 have hV:(g7 s g).V i=O3 b w.value:=by show a2y s ((d6 s).getD i (0,false))=_;rw [hd];unfold a2y;simp only [hw]
 have hA:∀j,(g7 s g).A i j=O3 b (u3 w.terms j):=fun j=>by show a16 s ((d6 s).getD i (0,false)) j=_;rw [hd];unfold a16;simp only [hw]
 rw [h1,hV,av4 (a0e hr hw).1]
 cases b with
 |false=>rw [f7 (g:=fun j=>u3 w.terms j*y j) fun j hj=>by rw [hA j];rfl];rfl
 |true=>
  rw [f7 (g:=fun j=>(-1:Rat)*(u3 w.terms j*y j)) fun j hj=>by rw [hA j];show -(u3 w.terms j)*_=_;grind,E1]
  show c*-w.value - _=-(c*w.value - _)
  grind
noncomputable def k9 (s:f5) (g:List (Int × Rat)):Fd:=a7J (d6 s).length s.n.toNat (g7 s g)
noncomputable def G5 (s:f5) (g:List (Int × Rat)):aY4:=y8 (d6 s).length s.n.toNat (k9 s g)
theorem a1w {s:f5} {g:List (Int × Rat)}:a60 (d6 s).length s.n.toNat (g7 s g) (fun j=>-(u3 g j)) (g7 s g):=⟨az0,fun _ _=>Iff.rfl,0,ay8⟩
theorem G8 {s:f5} {g:List (Int × Rat)}:a60 (d6 s).length s.n.toNat (g7 s g) (fun j=>-(u3 g j)) (k9 s g):=b1t a1w
theorem a6n (s:f5) (g:List (Int × Rat)):G5 s g=.best∨(∃ r,G5 s g=.row r)∨∃c,G5 s g=.col c:=aX7 (a3m a1w).2
noncomputable def j1 (s:f5) (g:List (Int × Rat)):List Rat:=zOf s.n.toNat (D8 (d6 s).length s.n.toNat (k9 s g) 1 (fun _=>0))
noncomputable def a5z (s:f5) (g:List (Int × Rat)) (c:Nat):List Rat:=zOf s.n.toNat (D8 (d6 s).length s.n.toNat (k9 s g) 0 (fun j=>if j=c then 1 else 0))
theorem aD1 {s:f5} {g:List (Int × Rat)} {y:Nat→Rat} (hy:Ids (d6 s).length s.n.toNat (g7 s g) y 1):∀w,w<s.n.toNat+(d6 s).length→a4w s g (zOf s.n.toNat y) w=y w:=by
 intro w hw
 unfold a4w
 split
 ·rename_i h;exact a50 h
 ·have h1:y (s.n.toNat+(w - s.n.toNat))=1*(g7 s g).V (w - s.n.toNat) - g8 (fun j=>(g7 s g).A (w - s.n.toNat) j*y j) s.n.toNat:=hy (w - s.n.toNat) (by omega)
  rw [show s.n.toNat+(w - s.n.toNat)=w by omega] at h1
  rw [h1,f7 (g:=fun j=>(g7 s g).A (w - s.n.toNat) j*y j) fun j hj=>by rw [a50 hj]]
  grind
theorem aR2 {s:f5} {g:List (Int × Rat)} (hr:f9 s=true) {y:Nat→Rat} (hy:Ids (d6 s).length s.n.toNat (g7 s g) y 1) (hp:aR7 (d6 s).length s.n.toNat y):i7 s (zOf s.n.toNat y)=true:=by
 refine (first_holds (g:=g) hr (by rw [G1];exact a2v hr)).2 fun w hw=>?_
 rw [aD1 hy w hw];exact hp w hw
theorem S6 {s:f5} {z:List Rat} (h:i7 s z=true):f9 s=true∧(z.length:Int)=s.n:=by
 unfold i7 at h
 simp only [Bool.and_eq_true,decide_eq_true_eq] at h
 exact ⟨h.1.1.1,h.1.1.2⟩
theorem a84 {s:f5} {g:List (Int × Rat)} (hg:e7 (-1) ((s.n.toNat:Nat):Int) g=true) (z:List Rat):g8 (fun j=>-(u3 g j)*a4w s g z j) s.n.toNat=-(j3 g z):=by
 rw [Y4 hg z,f7 (g:=fun j=>(-1:Rat)*(u3 g j*z.getD j 0)) fun j hj=>by
  have:a4w s g z j=z.getD j 0:=by unfold a4w;rw [if_pos hj]
  rw [this];grind,E1]
 grind
theorem a0E {s:f5} {g:List (Int × Rat)} (hr:f9 s=true) (hg:e7 (-1) ((s.n.toNat:Nat):Int) g=true) (h:G5 s g=.best):
 i7 s (j1 s g)=true∧∀z,i7 s z=true→j3 g (j1 s g)≤j3 g z:=by
 obtain ⟨hv,hgj⟩:=a9V h
 have hi:=G8 (s:=s) (g:=g)
 obtain ⟨v,hv'⟩:=hi.g
 obtain ⟨⟨y,h1,h2,h3,h4⟩,h5⟩:=au0 hi.p hv' hv hgj
 have h1':=(hi.i y 1).2 h1
 have e:j1 s g=zOf s.n.toNat y:=by unfold j1;rw [h4]
 rw [e]
 refine ⟨aR2 hr h1' h2,fun z hz=>?_⟩
 have hx:=h5 (a4w s g z) ((hi.i _ 1).1 (aH7 z)) ((first_holds hr (S6 hz).2).1 hz)
 rw [a84 hg z] at hx
 have h6:g8 (fun j=>-(u3 g j)*y j) s.n.toNat=-(j3 g (zOf s.n.toNat y)):=by
  rw [← a84 hg]
  exact f7 fun j hj=>by rw [aD1 h1' j (by omega)]
 rw [h6] at h3
 grind
theorem a7h {s:f5} {g:List (Int × Rat)} {r:Nat} (h:G5 s g=.row r):∀z,i7 s z=false:=by
 intro z
 cases hz:i7 s z with
 |false=>rfl
 |true=>
  obtain ⟨hr1,hv,ha⟩:=an1 h
  have hi:=G8 (s:=s) (g:=g)
  exact absurd ((first_holds (S6 hz).1 (S6 hz).2).1 hz) (b2N hi.p hr1 hv ha (a4w s g z) ((hi.i _ 1).1 (aH7 z)))
structure b6D (s:f5) (d:List Rat):Prop where
 len:d.length=s.n.toNat
 pos:∀v ∈ d,0≤v
 up:∀(k:Nat) (w:x7),s.rows[k]? =some w→w.kind≠0→j3 w.terms d≤0
 down:∀(k:Nat) (w:x7),s.rows[k]? =some w→w.kind≠1→0≤j3 w.terms d
theorem af7 {s:f5} {g:List (Int × Rat)} {c:Nat} (hr:f9 s=true) (hg:e7 (-1) ((s.n.toNat:Nat):Int) g=true) (h:G5 s g=.col c):b6D s (a5z s g c)∧j3 g (a5z s g c)<0:=by
 obtain ⟨hc,hgc,ha⟩:=a5B h
 have hi:=G8 (s:=s) (g:=g)
 obtain ⟨v,hv⟩:=hi.g
 obtain ⟨y,h1,h2,h3,h4⟩:=b1U hi.p hv hc hgc ha
 have h1':=(hi.i y 0).2 h1
 have e:a5z s g c=zOf s.n.toNat y:=by unfold a5z;rw [h4]
 rw [e]
 have side:∀(k:Nat) (w:x7) (b:Bool),s.rows[k]? =some w→(b=false→w.kind≠0)→(b=true→w.kind≠1)→0≤O3 b (-(j3 w.terms (zOf s.n.toNat y))):=by
  intro k w b hw hb1 hb2
  have hm:((k,b):Nat × Bool) ∈ d6 s:=V8.2 ⟨w,hw,hb1,hb2⟩
  obtain ⟨i,hil,hif⟩:=List.getElem_of_mem hm
  have hf:(d6 s)[i]? =some (k,b):=by rw [lg0 hil,hif]
  have:=b2e hr h1' hf hw
  have hp:=h2 (s.n.toNat+i) (by omega)
  rw [this] at hp
  have e2:(0:Rat)*w.value - j3 w.terms (zOf s.n.toNat y)=-(j3 w.terms (zOf s.n.toNat y)):=by grind
  rw [e2] at hp;exact hp
 refine ⟨⟨G1,fun v hv=>?_,fun k w hw hk=>?_,fun k w hw hk=>?_⟩,?_⟩
 ·obtain ⟨j,hj,rfl⟩:=a4P hv
  exact h2 j (by omega)
 ·have:0≤-(j3 w.terms (zOf s.n.toNat y)):=side k w false hw (fun _=>hk) (fun h=>by cases h)
  grind
 ·have:0≤-(-(j3 w.terms (zOf s.n.toNat y))):=side k w true hw (fun h=>by cases h) (fun _=>hk)
  grind
 ·rw [av4 hg,f7 (g:=fun j=>(-1:Rat)*(-(u3 g j)*y j)) fun j hj=>by grind,E1]
  grind
def a71 (x d:List Rat):List Rat:=List.zipWith (·+·) x d
theorem aq2 {x d:List Rat} {n:Nat} (hx:x.length=n) (hd:d.length=n):(a71 x d).length=n:=by simp [a71,hx,hd]
theorem aP6 {x d:List Rat} {n j:Nat} (hx:x.length=n) (hd:d.length=n) (hj:j<n):(a71 x d).getD j 0=x.getD j 0+d.getD j 0:=by
 simp only [a71,lg3,List.getElem?_zipWith]
 rw [lg0 (show j<x.length by omega),lg0 (show j<d.length by omega)]
 rfl
theorem ab6 {x d:List Rat} {n:Nat} {l:List (Int × Rat)} (hx:x.length=n) (hd:d.length=n) (h:e7 (-1) (n:Int) l=true):j3 l (a71 x d)=j3 l x+j3 l d:=by
 rw [Y4 h,Y4 h,Y4 h,←a0Y]
 exact f7 fun j hj=>by rw [aP6 hx hd hj];grind
theorem aQ0 {s:f5} {z:List Rat} (h:i7 s z=true):∀v ∈ z,0≤v:=by
 unfold i7 at h
 simp only [Bool.and_eq_true,decide_eq_true_eq,List.all_eq_true] at h
 exact h.1.2
theorem b0p {w:x7} {z:List Rat}:N3 w z=true↔(w.kind≠1→w.value≤j3 w.terms z)∧(w.kind≠0→j3 w.terms z≤w.value):=by
 unfold N3
 simp only [Bool.not_eq_true',Bool.or_eq_false_iff,Bool.and_eq_false_iff,decide_eq_false_iff_not,Rat.not_lt]
 constructor
 ·rintro ⟨h1,h2⟩
  exact ⟨fun h=>h1.elim id fun h'=>absurd h h',fun h=>h2.elim id fun h'=>absurd h h'⟩
 ·rintro ⟨h1,h2⟩
  refine ⟨?_,?_⟩
  ·by_cases h:w.kind≠1
   ·exact .inl (h1 h)
   ·exact .inr h
  ·by_cases h:w.kind≠0
   ·exact .inl (h2 h)
   ·exact .inr h
theorem W9 {s:f5} {z:List Rat}:i7 s z=true↔f9 s=true∧(z.length:Int)=s.n∧(∀ v ∈ z,0≤v)∧∀w ∈ s.rows,(w.kind≠1→w.value≤j3 w.terms z)∧(w.kind≠0→j3 w.terms z≤w.value):=by
 unfold i7
 simp only [Bool.and_eq_true,decide_eq_true_eq,List.all_eq_true,b0p]
 constructor
 ·rintro ⟨⟨⟨h1,h2⟩,h3⟩,h4⟩;exact ⟨h1,h2,h3,h4⟩
 ·rintro ⟨h1,h2,h3,h4⟩;exact ⟨⟨⟨h1,h2⟩,h3⟩,h4⟩
theorem aQ5 {s:f5} {x d:List Rat} (hx:i7 s x=true) (hd:b6D s d):i7 s (a71 x d)=true:=by
 obtain ⟨h1,h2,h3,h4⟩:=W9.1 hx
 have hn:=a2v h1
 have hxl:x.length=s.n.toNat:=by omega
 refine W9.2 ⟨h1,by rw [aq2 hxl hd.len];exact hn,fun v hv=>?_,fun w hw=>?_⟩
 ·obtain ⟨j,hj,rfl⟩:=List.getElem_of_mem hv
  rw [aq2 hxl hd.len] at hj
  have h5:0≤x[j]:=h3 _ (List.getElem_mem _)
  have h6:0≤d[j]'(by rw [hd.len];exact hj):=hd.pos _ (List.getElem_mem _)
  simp only [a71,List.getElem_zipWith]
  grind
 ·obtain ⟨k,hk,hkw⟩:=List.getElem_of_mem hw
  have hkw':s.rows[k]? =some w:=by rw [lg0 hk,hkw]
  have h7:=ab6 hxl hd.len (a0e h1 hkw').1
  obtain ⟨h8,h9⟩:=h4 w hw
  rw [h7]
  exact ⟨fun h=>by have:=h8 h;have:=hd.down k w hkw' h;grind,fun h=>by have:=h9 h;have:=hd.up k w hkw' h;grind⟩
end
end Go.Proofs.YtdbogogfeffjlaaGreat
