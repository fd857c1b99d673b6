/- Part 4. -/
import Derived.Test.YtdbogogfeffjlaaGreatSsA3
namespace Go.Proofs.YtdbogogfeffjlaaGreat
set_option linter.unusedVariables false
set_option linter.unusedSimpArgs false
set_option maxRecDepth 100000
open St1 St2 St3 St4 St5 St6
section
def bl (z:Int):Nat:=(dg z.natAbs).length
theorem a2b (m n:Nat):(dg (m+n)).length≤max (dg m).length (dg n).length+1:=by
 refine K8 ?_
 have h1:=N2 m
 have h2:=N2 n
 have h3:=a0n (Nat.le_max_left (dg m).length (dg n).length)
 have h4:=a0n (Nat.le_max_right (dg m).length (dg n).length)
 rw [E9]
 omega
theorem a1Z (m n:Nat):(dg (m*n)).length≤(dg m).length+(dg n).length:=by
 refine K8 ?_
 have h1:=N2 m
 have h2:=N2 n
 rw [a6N]
 have h3:(m:Int)*n≤m*(pw (dg n).length):=Int.mul_le_mul_of_nonneg_left (by omega) (by omega)
 have h4:(m:Int)*pw (dg n).length<pw (dg m).length*pw (dg n).length:=Int.mul_lt_mul_of_pos_right h1 (O0 _)
 have h5:((m*n:Nat):Int)=m*n:=by simp
 omega
theorem a18 (x:Int):bl (-x)=bl x:=by unfold bl;rw [Int.natAbs_neg]
theorem a6U (x y:Int):bl (x+y)≤max (bl x) (bl y)+1:=Nat.le_trans (o5 (Int.natAbs_add_le x y)) (a2b _ _)
theorem D9 (x y:Int):bl (x*y)≤bl x+bl y:=by unfold bl;rw [Int.natAbs_mul];exact a1Z _ _
theorem aT1 {x y:Int} (h:x.natAbs≤y.natAbs):bl x≤bl y:=o5 h
theorem N8 {x:Int} (h0:-9223372036854775808≤x) (h1:x≤9223372036854775807):bl x≤4:=K8 (by simp only [pw];omega)
theorem s6 {x:Int} (h0:-1048575≤x) (h1:x≤1048575):bl x≤1:=K8 (by simp only [pw];omega)
theorem a9e (x y:Int) {n:Nat} (lx:bl x≤n) (ly:bl y≤n):bl (Int.gcd x y)≤n:=by
 by_cases h:x=0
 ·subst h;unfold bl at *;rw [Int.gcd_zero_left];simpa using ly
 ·refine Nat.le_trans (o5 ?_) lx
  simp only [Int.natAbs_natCast]
  exact Int.gcd_le_natAbs_left y h
def rl (x:Rat):Nat:=max (bl x.num) (bl x.den)
theorem E5 (x:Rat):bl x.num≤rl x:=Nat.le_max_left _ _
theorem F4 (x:Rat):bl x.den≤rl x:=Nat.le_max_right _ _
theorem Z2 {p q:Int} (hq:q≠0):rl (Rat.divInt p q)≤max (bl p) (bl q):=by
 unfold rl
 rw [Rat.num_divInt,Rat.den_divInt,if_neg hq]
 have h1:bl (q.sign*p / (q.gcd p:Nat))≤bl p:=aT1 (by
  refine Nat.le_trans (Int.natAbs_ediv_le_natAbs _ _) ?_
  rw [Int.natAbs_mul]
  have:q.sign.natAbs=1:=by
   rcases Int.lt_trichotomy q 0 with h|h|h
   ·rw [Int.sign_eq_neg_one_of_neg h];rfl
   ·exact absurd h hq
   ·rw [Int.sign_eq_one_of_pos h];rfl
  rw [this,Nat.one_mul];exact Nat.le_refl _)
 have h2:bl ((q.natAbs / q.gcd p:Nat):Int)≤bl q:=aT1 (by simp only [Int.natAbs_natCast];exact Nat.div_le_self _ _)
 omega
theorem a7G (x y:Rat):x+y=Rat.divInt (x.num*y.den+y.num*x.den) (x.den*y.den):=by rw [Rat.add_def',←Rat.divInt_ofNat,Int.natCast_mul]
theorem an2 (x y:Rat):x*y=Rat.divInt (x.num*y.num) (x.den*y.den):=by rw [Rat.mul_def',←Rat.divInt_ofNat,Int.natCast_mul]
theorem b2v (x y:Rat):x / y=Rat.divInt (x.num*y.den) (x.den*y.num):=by
 rw [Rat.div_def,Rat.inv_def]
 conv=>lhs;rw [← Rat.num_divInt_den x]
 rw [Rat.divInt_mul_divInt]
theorem aC6 (x:Rat):(x.den:Int)≠0:=by have:=x.den_pos;omega
theorem a7W (x y:Rat):(x.den:Int)*y.den≠0:=Int.mul_ne_zero (aC6 x) (aC6 y)
theorem Y0 (x y:Rat):rl (x+y)≤rl x+rl y+1:=by
 rw [a7G]
 have h1:=a6U (x.num*y.den) (y.num*x.den)
 have h2:=D9 x.num y.den
 have h3:=D9 y.num x.den
 have h4:=D9 x.den y.den
 have:=Z2 (p:=x.num*y.den+y.num*x.den) (a7W x y)
 unfold rl at *
 omega
theorem O1 (x:Rat):rl (-x)=rl x:=by unfold rl;rw [Rat.neg_num,Rat.neg_den,a18]
theorem aq7 (x y:Rat):rl (x - y)≤rl x+rl y+1:=by rw [Rat.sub_eq_add_neg];have:=Y0 x (-y);rw [O1] at this;exact this
theorem a4O (x y:Rat):rl (x*y)≤rl x+rl y:=by
 rw [an2]
 have h2:=D9 x.num y.num
 have h4:=D9 x.den y.den
 have:=Z2 (p:=x.num*y.num) (a7W x y)
 unfold rl at *
 omega
theorem Q7 (n:Int):rl (n:Rat)=max (bl n) 1:=by unfold rl;rw [Rat.num_intCast,Rat.den_intCast];rfl
def Y7 (x y:Rat):Int:=if x<y then -1 else if y<x then 1 else 0
theorem b0l {x:Rat}:x.num<0↔x<0:=by rw [Rat.lt_iff];simp
theorem b1t {x:Rat}:0<x.num↔0<x:=by rw [Rat.lt_iff];simp
def sgR (x:Rat):Int:=if x<0 then -1 else if 0<x then 1 else 0
theorem a5w (x:Rat):x.num.sign=sgR x:=by
 unfold sgR
 by_cases h:x<0
 ·rw [if_pos h,Int.sign_eq_neg_one_of_neg (b0l.2 h)]
 ·rw [if_neg h]
  by_cases h2:0<x
  ·rw [if_pos h2,Int.sign_eq_one_of_pos (b1t.2 h2)]
  ·rw [if_neg h2]
   have h3:¬x.num<0:=fun e=>h (b0l.1 e)
   have h4:¬0<x.num:=fun e=>h2 (b1t.1 e)
   rw [show x.num=0 by omega];rfl
end
section
open Go.RowKit
set_option maxHeartbeats 1000000
theorem b14 (m n:Nat) (lm:(dg m).length≤300000) (ln:(dg n).length≤300000):
 b9 Tryz.prog 215 [g6 (dg m),g6 (dg n)] [] (g6 (dg (m+n))) []:=by
 have h:=b95 (dg m) (dg n) (p9 m) (p9 n) (by omega) (by omega)
 rw [n7,n7,show ((m:Int)+n).toNat=m+n by omega] at h
 exact h
theorem a9f (m n:Nat) (lm:(dg m).length≤300000) (h:n≤m):
 b9 Tryz.prog 216 [g6 (dg m),g6 (dg n)] [] (g6 (dg (m - n))) []:=by
 have h:=b8i (dg m) (dg n) (p9 m) (p9 n) (by omega) (o5 h) (by rw [n7,n7];omega)
 rw [n7,n7,show ((m:Int) - n).toNat=m - n by omega] at h
 exact h
theorem b5S (m n:Nat) (lm:(dg m).length≤300000) (ln:(dg n).length≤300000):
 b9 Tryz.prog 266 [g6 (dg m),g6 (dg n)] [] (g6 (dg (m*n))) []:=by
 have h:=b4c (dg m) (dg n) (p9 m) (p9 n) (by omega) (by omega)
 rw [n7,n7,show ((m:Int)*n).toNat=m*n by rw [← Int.natCast_mul];rfl] at h
 exact h
theorem b5R (m n:Nat) (lm:(dg m).length≤300000) (ln:(dg n).length≤300000):
 b9 Tryz.prog 212 [g6 (dg m),g6 (dg n)] [] (a9 .i64 (K9 m n)) []:=by
 have h:=a1C (dg m) (dg n) (a0O m) (a0O n) (by omega) (by omega)
 rw [n7,n7] at h
 exact h
theorem v8 (s:Int) (k:Nat) (h:s=1∨s=-1∨k=0) (lk:(dg k).length≤700000):
 b9 Tryz.prog 209 [a9 .i64 s,g6 (dg k)] [] (bgS (bz (s*k))) []:=by
 have e:=ax8 s (dg k) (by omega)
 rw [aF2 (p9 k) (by rw [n7];omega),n7] at e
 exact e
def Sg (s:Int) (m:Nat):Prop:=(s=0∧m=0)∨(s=1∧0<m)∨(s=-1∧0<m)
theorem a4c (x:Int):Sg x.sign x.natAbs:=by
 rcases C7 x with ⟨e,h1⟩|⟨e,h1⟩|⟨e,h1⟩
 ·exact .inl ⟨e,by omega⟩
 ·exact .inr (.inl ⟨e,by omega⟩)
 ·exact .inr (.inr ⟨e,by omega⟩)
theorem a5E {s:Int} {m:Nat} (h:Sg s m):bz (s*m)=⟨s,dg m⟩:=by
 rcases h with ⟨rfl,rfl⟩|⟨rfl,h⟩|⟨rfl,h⟩
 ·rfl
 ·unfold bz;rw [Int.one_mul,Int.sign_eq_one_of_pos (by omega)];rfl
 ·unfold bz;rw [Int.sign_eq_neg_one_of_neg (by omega)];congr 2;omega
theorem a0D (s:Int) (m:Nat) (h:Sg s m) (lm:(dg m).length≤300000):b9 Tryz.prog 135 [bgS ⟨s,dg m⟩] [] (f7 true) []:=by
 have:=a1M ⟨s,dg m⟩ (show (dg m).length≤1000000 by omega)
 rw [← a5E h,W5,a5E h] at this
 exact this
theorem a4C {b b':Bg} {e:Int} {H1:Hp} (h:b=b'):Fin 0 (.tup [bgS b,a9 .i64 e]) H1 (.tup [bgS b',a9 .i64 e]) []:=by
 subst h;exact k8 ⟨⟨rfl,rfl,trivial⟩,rfl,trivial⟩
theorem F2 {a b c d:Nat} (h:a≤max b c+1) (h2:max b c+1≤d):a≤d:=Nat.le_trans h h2
theorem b5a (s t:Int) (m n:Nat) (hs:Sg s m) (ht:Sg t n) (lm:(dg m).length≤200000) (ln:(dg n).length≤200000):
 b9 Tryz.prog 142 [bgS ⟨s,dg m⟩,bgS ⟨t,dg n⟩] [] (.tup [bgS (bz (s*m+t*n)),a9 .i64 0]) []:=by
 have r1:=a0D s m hs (by omega)
 have r2:=a0D t n ht (by omega)
 have ad:=b14 m n (by omega) (by omega)
 have c:=b5R m n (by omega) (by omega)
 have ls:=a2b m n
 have fin:∀(z:Int) (H1:Hp),z=s*m+t*n→Fin 0 (.tup [bgS (if true then bz z else ⟨0,[]⟩),a9 .i64 0]) H1 (.tup [bgS (bz (s*m+t*n)),a9 .i64 0]) []:=fun z H1 h=>a4C (by rw [h];rfl)
 rcases hs with ⟨rfl,rfl⟩|⟨rfl,h1⟩|⟨rfl,h1⟩<;>rcases ht with ⟨rfl,rfl⟩|⟨rfl,h2⟩|⟨rfl,h2⟩
 case inl.inl=>
  have sg:=v8 (0) _ (by omega) (F2 ls (by omega))
  have co:=a2B (0) (0)
  (refine a8 a7 Tryz.func142 rfl (by decide) ?_;(conv=>whnf);repeat (refine zy ?_;conv=>whnf))
  repeat' first|(refine zd ?_ ?_<;>intro h<;>first|exact zc h|(exfalso;omega)|conv=>whnf)|((first|refine zz ?_|refine qp r1 ?_|refine qp r2 ?_|refine qp ad ?_|refine qp sg ?_|refine qp (G5 true _) ?_|refine qp co ?_|refine ⟨_,C0 (y:=0) rfl (by decide) (by decide),?_⟩|refine zy ?_);conv=>whnf)
  all_goals first|(exfalso;omega)|exact fin _ _ (by omega)
 case inl.inr.inl=>
  have sg:=v8 (1) _ (by omega) (F2 ls (by omega))
  have co:=a2B (0) (1)
  (refine a8 a7 Tryz.func142 rfl (by decide) ?_;(conv=>whnf);repeat (refine zy ?_;conv=>whnf))
  repeat' first|(refine zd ?_ ?_<;>intro h<;>first|exact zc h|(exfalso;omega)|conv=>whnf)|((first|refine zz ?_|refine qp r1 ?_|refine qp r2 ?_|refine qp ad ?_|refine qp sg ?_|refine qp (G5 true _) ?_|refine qp co ?_|refine ⟨_,C0 (y:=0) rfl (by decide) (by decide),?_⟩|refine zy ?_);conv=>whnf)
  all_goals first|(exfalso;omega)|exact fin _ _ (by omega)
 case inl.inr.inr=>
  have sg:=v8 (-1) _ (by omega) (F2 ls (by omega))
  have co:=a2B (0) (-1)
  (refine a8 a7 Tryz.func142 rfl (by decide) ?_;(conv=>whnf);repeat (refine zy ?_;conv=>whnf))
  repeat' first|(refine zd ?_ ?_<;>intro h<;>first|exact zc h|(exfalso;omega)|conv=>whnf)|((first|refine zz ?_|refine qp r1 ?_|refine qp r2 ?_|refine qp ad ?_|refine qp sg ?_|refine qp (G5 true _) ?_|refine qp co ?_|refine ⟨_,C0 (y:=0) rfl (by decide) (by decide),?_⟩|refine zy ?_);conv=>whnf)
  all_goals first|(exfalso;omega)|exact fin _ _ (by omega)
 case inr.inl.inl=>
  have sg:=v8 (1) _ (by omega) (F2 ls (by omega))
  have co:=a2B (1) (0)
  (refine a8 a7 Tryz.func142 rfl (by decide) ?_;(conv=>whnf);repeat (refine zy ?_;conv=>whnf))
  repeat' first|(refine zd ?_ ?_<;>intro h<;>first|exact zc h|(exfalso;omega)|conv=>whnf)|((first|refine zz ?_|refine qp r1 ?_|refine qp r2 ?_|refine qp ad ?_|refine qp sg ?_|refine qp (G5 true _) ?_|refine qp co ?_|refine ⟨_,C0 (y:=0) rfl (by decide) (by decide),?_⟩|refine zy ?_);conv=>whnf)
  all_goals first|(exfalso;omega)|exact fin _ _ (by omega)
 case inr.inr.inl=>
  have sg:=v8 (-1) _ (by omega) (F2 ls (by omega))
  have co:=a2B (-1) (0)
  (refine a8 a7 Tryz.func142 rfl (by decide) ?_;(conv=>whnf);repeat (refine zy ?_;conv=>whnf))
  repeat' first|(refine zd ?_ ?_<;>intro h<;>first|exact zc h|(exfalso;omega)|conv=>whnf)|((first|refine zz ?_|refine qp r1 ?_|refine qp r2 ?_|refine qp ad ?_|refine qp sg ?_|refine qp (G5 true _) ?_|refine qp co ?_|refine ⟨_,C0 (y:=0) rfl (by decide) (by decide),?_⟩|refine zy ?_);conv=>whnf)
  all_goals first|(exfalso;omega)|exact fin _ _ (by omega)
 case inr.inl.inr.inl=>
  have sg:=v8 (1) _ (by omega) (F2 ls (by omega))
  have co:=a2B (1) (1)
  (refine a8 a7 Tryz.func142 rfl (by decide) ?_;(conv=>whnf);repeat (refine zy ?_;conv=>whnf))
  repeat' first|(refine zd ?_ ?_<;>intro h<;>first|exact zc h|(exfalso;omega)|conv=>whnf)|((first|refine zz ?_|refine qp r1 ?_|refine qp r2 ?_|refine qp ad ?_|refine qp sg ?_|refine qp (G5 true _) ?_|refine qp co ?_|refine ⟨_,C0 (y:=1) rfl (by decide) (by decide),?_⟩|refine zy ?_);conv=>whnf)
  all_goals first|(exfalso;omega)|exact fin _ _ (by omega)
 case inr.inr.inr.inr=>
  have sg:=v8 (-1) _ (by omega) (F2 ls (by omega))
  have co:=a2B (-1) (-1)
  (refine a8 a7 Tryz.func142 rfl (by decide) ?_;(conv=>whnf);repeat (refine zy ?_;conv=>whnf))
  repeat' first|(refine zd ?_ ?_<;>intro h<;>first|exact zc h|(exfalso;omega)|conv=>whnf)|((first|refine zz ?_|refine qp r1 ?_|refine qp r2 ?_|refine qp ad ?_|refine qp sg ?_|refine qp (G5 true _) ?_|refine qp co ?_|refine ⟨_,C0 (y:=1) rfl (by decide) (by decide),?_⟩|refine zy ?_);conv=>whnf)
  all_goals first|(exfalso;omega)|exact fin _ _ (by omega)
 case inr.inl.inr.inr=>
  rcases Nat.lt_or_ge m n with hmn|hmn
  ·rw [a24 (by omega)] at c
   have l3:=o5 (Nat.sub_le n m)
   (refine a8 a7 Tryz.func142 rfl (by decide) ?_;(conv=>whnf);repeat (refine zy ?_;conv=>whnf))
   repeat' first|(refine zd ?_ ?_<;>intro h<;>first|exact zc h|(exfalso;omega)|conv=>whnf)|((first|refine zz ?_|refine qp r1 ?_|refine qp r2 ?_|refine qp c ?_|refine qp (a9f n m (by omega) (by omega)) ?_|refine qp (v8 (-1) (n - m) (by omega) (by omega)) ?_|refine qp (G5 true _) ?_|refine ⟨_,C0 (y:=-1) rfl (by decide) (by decide),?_⟩|refine zy ?_);conv=>whnf)
   all_goals first|(exfalso;omega)|exact fin _ _ (by omega)
  ·have hc:0≤K9 m n:=by unfold K9;split<;>(try split)<;>omega
   have l3:=o5 (Nat.sub_le m n)
   (refine a8 a7 Tryz.func142 rfl (by decide) ?_;(conv=>whnf);repeat (refine zy ?_;conv=>whnf))
   repeat' first|(refine zd ?_ ?_<;>intro h<;>first|exact zc h|(exfalso;omega)|conv=>whnf)|((first|refine zz ?_|refine qp r1 ?_|refine qp r2 ?_|refine qp c ?_|refine qp (a9f m n (by omega) (by omega)) ?_|refine qp (v8 (1) (m - n) (by omega) (by omega)) ?_|refine qp (G5 true _) ?_|refine ⟨_,C0 (y:=-1) rfl (by decide) (by decide),?_⟩|refine zy ?_);conv=>whnf)
   all_goals first|(exfalso;omega)|exact fin _ _ (by omega)
 case inr.inr.inr.inl=>
  rcases Nat.lt_or_ge m n with hmn|hmn
  ·rw [a24 (by omega)] at c
   have l3:=o5 (Nat.sub_le n m)
   (refine a8 a7 Tryz.func142 rfl (by decide) ?_;(conv=>whnf);repeat (refine zy ?_;conv=>whnf))
   repeat' first|(refine zd ?_ ?_<;>intro h<;>first|exact zc h|(exfalso;omega)|conv=>whnf)|((first|refine zz ?_|refine qp r1 ?_|refine qp r2 ?_|refine qp c ?_|refine qp (a9f n m (by omega) (by omega)) ?_|refine qp (v8 (1) (n - m) (by omega) (by omega)) ?_|refine qp (G5 true _) ?_|refine ⟨_,C0 (y:=-1) rfl (by decide) (by decide),?_⟩|refine zy ?_);conv=>whnf)
   all_goals first|(exfalso;omega)|exact fin _ _ (by omega)
  ·have hc:0≤K9 m n:=by unfold K9;split<;>(try split)<;>omega
   have l3:=o5 (Nat.sub_le m n)
   (refine a8 a7 Tryz.func142 rfl (by decide) ?_;(conv=>whnf);repeat (refine zy ?_;conv=>whnf))
   repeat' first|(refine zd ?_ ?_<;>intro h<;>first|exact zc h|(exfalso;omega)|conv=>whnf)|((first|refine zz ?_|refine qp r1 ?_|refine qp r2 ?_|refine qp c ?_|refine qp (a9f m n (by omega) (by omega)) ?_|refine qp (v8 (-1) (m - n) (by omega) (by omega)) ?_|refine qp (G5 true _) ?_|refine ⟨_,C0 (y:=-1) rfl (by decide) (by decide),?_⟩|refine zy ?_);conv=>whnf)
   all_goals first|(exfalso;omega)|exact fin _ _ (by omega)
end
section
open Go.RowKit
theorem sgm (x:Int):x.sign*x.natAbs=x:=Int.sign_mul_natAbs x
theorem a3f (x:Int) (lx:bl x≤300000):b9 Tryz.prog 135 [bgS (bz x)] [] (f7 true) []:=a0D _ _ (a4c x) lx
theorem b5Q (x y:Int) (lx:bl x≤200000) (ly:bl y≤200000):b9 Tryz.prog 142 [bgS (bz x),bgS (bz y)] [] (.tup [bgS (bz (x+y)),a9 .i64 0]) []:=by
 have h:=b5a _ _ _ _ (a4c x) (a4c y) lx ly
 rw [sgm,sgm] at h
 exact h
theorem a6Y (x:Int) (lx:bl x≤300000):b9 Tryz.prog 141 [bgS (bz x)] [] (bgS (bz (-x))) []:=by
 have h:=b5b (bz x) (show bl x≤1000000 by omega)
 unfold aW9 at h
 rw [W5,a2J] at h
 exact h
abbrev bg2 (s:Int) (l:List Int):S:=.agg [.t (ti s),.t (J0 l)]
theorem b4Z (s t:Int) (m n:Nat) (hs:Sg s m) (ht:Sg t n) (lm:(dg m).length≤200000) (ln:(dg n).length≤200000):
 b9 Tryz.prog 213 [bgS ⟨s,dg m⟩,bgS ⟨t,dg n⟩] [] (.tup [bgS (bz ((s*t)*(m*n:Nat))),a9 .i64 0]) []:=by
 have r1:=a0D s m hs (by omega)
 have r2:=a0D t n ht (by omega)
 have mu:=b5S m n (by omega) (by omega)
 have ls:=a1Z m n
 have hst:-1≤s*t∧s*t≤1∧(s*t=1∨s*t=-1∨m*n=0):=by
  rcases hs with ⟨rfl,rfl⟩|⟨rfl,h1⟩|⟨rfl,h1⟩<;>rcases ht with ⟨rfl,rfl⟩|⟨rfl,h2⟩|⟨rfl,h2⟩<;>simp
 obtain ⟨q1,q2,q3⟩:=hst
 have sg:=v8 (s*t) (m*n) q3 (by omega)
 have ck:=G5 true (bz ((s*t)*(m*n:Nat)))
 (refine a8 a7 Tryz.func213 rfl (by decide) ?_;(conv=>whnf);repeat (refine zy ?_;conv=>whnf))
 repeat' first|(refine zd ?_ ?_<;>intro h<;>first|exact zc h|(exfalso;omega)|conv=>whnf)|((first|refine zz ?_|refine qp r1 ?_|refine qp r2 ?_|refine qp mu ?_|refine qp sg ?_|refine qp ck ?_|refine ⟨_,C0 (y:=s*t) rfl (by omega) (by omega),?_⟩|refine zy ?_);conv=>whnf)
 all_goals first|(exfalso;simp_all;done)|exact a4C rfl
theorem b5l (x y:Int) (lx:bl x≤200000) (ly:bl y≤200000):b9 Tryz.prog 213 [bgS (bz x),bgS (bz y)] [] (.tup [bgS (bz (x*y)),a9 .i64 0]) []:=by
 have h:=b4Z _ _ _ _ (a4c x) (a4c y) lx ly
 have e:(x.sign*y.sign)*((x.natAbs*y.natAbs:Nat):Int)=x*y:=by
  rw [Int.natCast_mul]
  have h1:=sgm x
  have h2:=sgm y
  grind
 rw [e] at h
 exact h
theorem aC2 (x y:Int) (lx:bl x≤300000) (ly:bl y≤300000):b9 Tryz.prog 139 [bgS (bz x),bgS (bz y)] [] (a9 .i64 (K9 x y)) []:=by
 have h:=aI7 (bz x) (bz y) (show bl x≤1000000 by omega) (show bl y≤1000000 by omega)
 unfold aZ0 at h
 rw [W5,W5,a2J,a2J] at h
 exact h
theorem aN7 {b b' c c':Bg} {e:Int} {H1:Hp} (h:b=b') (h2:c=c'):Fin 0 (.tup [bgS b,bgS c,a9 .i64 e]) H1 (.tup [bgS b',bgS c',a9 .i64 e]) []:=by
 subst h h2;exact k8 ⟨⟨rfl,rfl,trivial⟩,⟨rfl,rfl,trivial⟩,rfl,trivial⟩
theorem b4D (s:Int) (m n:Nat) (hs:Sg s m) (hn:0<n) (lm:(dg m).length≤200000) (ln:(dg n).length≤200000):
 b9 Tryz.prog 217 [bgS ⟨s,dg m⟩,bgS ⟨1,dg n⟩] [] (.tup [bgS (bz (s*m / n)),bgS (bz (s*m % n)),a9 .i64 0]) []:=by
 show b9 Tryz.prog 217 [bg2 s (dg m),bg2 1 (dg n)] [] _ []
 have r1:=a0D s m hs (by omega)
 have r2:=a0D 1 n (.inr (.inl ⟨rfl,hn⟩)) (by omega)
 have dv:=b4l m n hn (by omega) (by omega)
 have lq:=o5 (Nat.div_le_self m n)
 have hr:=Nat.mod_lt m hn
 have lr:=o5 (Nat.le_of_lt hr)
 have lr2:((dg (m % n)).map i5).length=(dg (m % n)).length:=by simp
 have hz:(dg (m % n)).length=0↔m % n=0:=by rw [List.length_eq_zero_iff,N4]
 have hm:=Nat.div_add_mod m n
 have fin:∀(a b:Int) (H1:Hp),a=s*m / n→b=s*m % n→Fin 0 (.tup [bgS (bz a),bgS (bz b),a9 .i64 0]) H1 (.tup [bgS (bz (s*m / n)),bgS (bz (s*m % n)),a9 .i64 0]) []:=fun a b H1 h1 h2=>aN7 (by rw [h1]) (by rw [h2])
 rcases hs with ⟨rfl,rfl⟩|⟨rfl,h1⟩|⟨rfl,h1⟩
 ·have s1:=v8 0 (0 / n) (by simp) (by omega)
  have s2:=v8 0 (0 % n) (by simp) (by omega)
  (refine a8 a7 Tryz.func217 rfl (by decide) ?_;(conv=>whnf);repeat (refine zy ?_;conv=>whnf))
  repeat' first|(refine zd ?_ ?_<;>intro h<;>first|exact zc h|(exfalso;omega)|conv=>whnf)|((first|refine zz ?_|refine qp r1 ?_|refine qp r2 ?_|refine qp dv ?_|refine qp s1 ?_|refine qp s2 ?_|refine ⟨_,C0 (y:=0) rfl (by decide) (by decide),?_⟩|refine zy ?_);conv=>whnf)
  all_goals first|(exfalso;omega)|exact fin _ _ _ (by first|rfl|simp) (by first|rfl|simp)
 ·have s1:=v8 1 (m / n) (by simp) (by omega)
  have s2:=v8 1 (m % n) (by simp) (by omega)
  (refine a8 a7 Tryz.func217 rfl (by decide) ?_;(conv=>whnf);repeat (refine zy ?_;conv=>whnf))
  repeat' first|(refine zd ?_ ?_<;>intro h<;>first|exact zc h|(exfalso;omega)|conv=>whnf)|((first|refine zz ?_|refine qp r1 ?_|refine qp r2 ?_|refine qp dv ?_|refine qp s1 ?_|refine qp s2 ?_|refine ⟨_,C0 (y:=1) rfl (by decide) (by decide),?_⟩|refine zy ?_);conv=>whnf)
  all_goals first|(exfalso;omega)|exact fin _ _ _ (by first|rfl|simp) (by first|rfl|simp)
 ·by_cases h0:m % n=0
  ·have hz0:=hz.2 h0
   have s1:=v8 (-1) (m / n) (by simp) (by omega)
   have s2:=v8 (-1) (m % n) (by simp) (by omega)
   have e1:-1*((m / n:Nat):Int)=-1*(m:Int) / n:=by
    have e:(m:Int)=n*(m / n:Nat):=by rw [← Int.natCast_mul];congr 1;omega
    rw [e,show -1*((n:Int)*(m / n:Nat))=n*(-1*(m / n:Nat)) by grind,Int.mul_ediv_cancel_left _ (by omega)]
   have e2:-1*((m % n:Nat):Int)=-1*(m:Int) % n:=by
    have e:(m:Int)=n*(m / n:Nat):=by rw [← Int.natCast_mul];congr 1;omega
    rw [h0,e,show -1*((n:Int)*(m / n:Nat))=n*(-1*(m / n:Nat)) by grind,Int.mul_emod_right]
    simp
   (refine a8 a7 Tryz.func217 rfl (by decide) ?_;(conv=>whnf);repeat (refine zy ?_;conv=>whnf))
   repeat' first|(refine zd ?_ ?_<;>intro h<;>first|exact zc h|(exfalso;omega)|conv=>whnf)|((first|refine zz ?_|refine qp r1 ?_|refine qp r2 ?_|refine qp dv ?_|refine qp s1 ?_|refine qp s2 ?_|refine ⟨_,C0 (y:=-1) rfl (by decide) (by decide),?_⟩|refine zy ?_);conv=>whnf)
   all_goals first|(exfalso;omega)|exact fin _ _ _ e1 e2
  ·have hz0:(dg (m % n)).length≠0:=fun h=>h0 (hz.1 h)
   have one:dg 1=[1]:=rfl
   have ad:=b14 (m / n) 1 (by omega) (by simp [one])
   have sb:=a9f n (m % n) (by omega) (by omega)
   have l1:=a2b (m / n) 1
   have l2:=o5 (Nat.sub_le n (m % n))
   have s1:=v8 (-1) (m / n+1) (by simp) (by rw [one] at l1;simp at l1;omega)
   have s2:=v8 1 (n - m % n) (by simp) (by omega)
   have key:(-1*(m:Int))=(n - m % n:Nat)+n*(-1*((m / n+1:Nat):Int)):=by
    have e:(m:Int)=n*(m / n:Nat)+(m % n:Nat):=by rw [← Int.natCast_mul];omega
    have e2:((n - m % n:Nat):Int)=n - (m % n:Nat):=by omega
    have e3:((m / n+1:Nat):Int)=(m / n:Nat)+1:=by omega
    rw [e2,e3]
    grind
   have e1:-1*((m / n+1:Nat):Int)=-1*(m:Int) / n:=by
    rw [key,Int.add_mul_ediv_left _ _ (by omega),Int.ediv_eq_zero_of_lt (by omega) (by omega)]
    simp
   have e2:1*((n - m % n:Nat):Int)=-1*(m:Int) % n:=by
    rw [key,Int.add_mul_emod_self_left,Int.emod_eq_of_lt (by omega) (by omega)]
    simp
   (refine a8 a7 Tryz.func217 rfl (by decide) ?_;(conv=>whnf);repeat (refine zy ?_;conv=>whnf))
   repeat' first|(refine zd ?_ ?_<;>intro h<;>first|exact zc h|(exfalso;omega)|conv=>whnf)|((first|refine zz ?_|refine qp r1 ?_|refine qp r2 ?_|refine qp dv ?_|refine qp s1 ?_|refine qp s2 ?_|refine qp sb ?_|refine .inl ⟨_,_,a15 ad ⟨aj3,a0k (ao3 rfl),trivial⟩ rfl,?_⟩|refine ⟨_,C0 (y:=-1) rfl (by decide) (by decide),?_⟩|refine zy ?_);conv=>whnf)
   all_goals first|(exfalso;omega)|exact fin _ _ _ e1 e2
theorem am0 (x y:Int) (hy:0<y) (lx:bl x≤200000) (ly:bl y≤200000):b9 Tryz.prog 217 [bgS (bz x),bgS (bz y)] [] (.tup [bgS (bz (x / y)),bgS (bz (x % y)),a9 .i64 0]) []:=by
 have h:=b4D _ _ y.natAbs (a4c x) (by omega) lx ly
 rw [sgm,show (y.natAbs:Int)=y by omega] at h
 unfold bz at *
 rw [Int.sign_eq_one_of_pos hy]
 exact h
end
section
open Go.RowKit
abbrev b04:Blk:={ mode:=.live,elem:=81,size:=2,rows:=[[G3 (.int .i64 0),G3 (.slice none 0 0)]],box:=true }
theorem S6:G8 [[G3 (.int .i64 0),G3 (.slice none 0 0)]]:=by
 intro r hr c hc
 simp at hr
 subst hr
 simp at hc
 rcases hc with rfl|rfl<;>rfl
structure b3L (x y:Int) (X Y:Nat):Prop where
 g:Nat.gcd X Y=Nat.gcd x.natAbs y.natAbs
 lx:(dg X).length≤200000
 ly:(dg Y).length≤200000
theorem aE3 (x y:Int) (lx:bl x≤200000) (ly:bl y≤200000):b9 Tryz.prog 136 [bgS (bz x),bgS (bz y)] [] (.tup [bgS (bz (Int.gcd x y)),a9 .i64 0]) []:=by
 have r1:=a3f x (by omega)
 have r2:=a3f y (by omega)
 have cl:=a7D (bz x).dl (show bl x≤1000000 by omega)
 (refine a8 a7 Tryz.func136 rfl (by decide) ?_;(conv=>whnf);repeat (refine zy ?_;conv=>whnf))
 repeat' first|(refine zd ?_ ?_<;>intro h<;>first|exact zc h|(exfalso;omega)|conv=>whnf)|((first|refine zz ?_|refine qp r1 ?_|refine qp r2 ?_|refine qp cl ?_|refine zy ?_);conv=>whnf)
 all_goals first
  |(exfalso;simp_all;done)
  |skip
 refine o6 a7 (σ:=Nat × Nat) (fun|(X,Y)=>([J,J,J,J,S.c (C.ptr 0 0 0),J,g6 (dg X),g6 (dg Y),J,J,J,J,J,J,J,J,J,J,J,J,J,J,J,J,J,J,J,J,J,J,J,J,J,J,J,J,J,J,J,J,J,J,J,J],[b04])) (fun s=>b3L x y s.1 s.2) (fun s=>s.2) (x.natAbs,y.natAbs) [some 2]
  ⟨rfl,lx,ly⟩ ⟨rfl,rfl,⟨⟨rfl,rfl,rfl,.inl ⟨rfl,S6⟩⟩,trivial⟩,⟨⟨rfl,rfl,rfl⟩,rfl,rfl,trivial⟩⟩ ?_
 rintro ⟨X,Y⟩ hI
 have hI:b3L x y X Y:=hI
 obtain ⟨g1,g2,g3⟩:=hI
 have l2:((dg Y).map i5).length=(dg Y).length:=by simp
 conv=>whnf
 by_cases hY:0<Y
 ·have hp:(dg Y).length≠0:=by rw [Ne,List.length_eq_zero_iff,N4];omega
  have dv:=b4l X Y hY (by omega) (by omega)
  repeat' first|(refine zd ?_ ?_<;>intro h<;>first|exact zc h|(exfalso;omega)|conv=>whnf)|((first|refine zz ?_|refine qp dv ?_|refine zy ?_);conv=>whnf)
  all_goals first
   |(exfalso;omega)
   |skip
  exact ⟨[some 0],(Y,X % Y),⟨rfl,rfl,⟨⟨rfl,rfl,rfl,.inl ⟨rfl,S6⟩⟩,trivial⟩,⟨⟨rfl,rfl,rfl⟩,rfl,rfl,trivial⟩⟩,⟨by rw [← g1,Nat.gcd_comm Y,←Nat.gcd_rec,Nat.gcd_comm],g3,Nat.le_trans (o5 (Nat.le_of_lt (Nat.mod_lt X hY))) g3⟩,Nat.mod_lt X hY⟩
 ·have hY:Y=0:=by omega
  subst hY
  have hp:(dg 0).length=0:=rfl
  have c2:=a7D (dg X) (by omega)
  have s1:=v8 1 X (by simp) (by omega)
  have ck:=G5 true (bz (1*X))
  repeat' first|(refine zd ?_ ?_<;>intro h<;>first|exact zc h|(exfalso;omega)|conv=>whnf)|((first|refine zz ?_|refine qp c2 ?_|refine qp s1 ?_|refine qp ck ?_|refine zy ?_);conv=>whnf)
  all_goals first
   |(exfalso;omega)
   |skip
  refine a4C ?_
  rw [Int.one_mul,show X=Int.gcd x y by rw [Int.gcd,←g1,Nat.gcd_zero_right]]
  rfl
end
section
open Go.RowKit
theorem a0s {x y:Int} (h:x % 18446744073709551616=y):G2 .u64 x y:=by
 unfold G2
 simp only [IntKind.wrap,IntKind.bits,IntKind.signed]
 simp
 omega
theorem aO4 (a:Int):T0 .and .u64 a 1048575 (a % 1048576):=(al8 (a:=a) 20 (by decide)).symm
theorem b0s (a:Int):aU1 .u64 a 20 (a / 1048576):=by
 show a / 1048576=a.fdiv 1048576
 exact (Int.fdiv_eq_ediv_of_nonneg _ (by decide)).symm
structure OfI (n:Int) (acc:List Int) (u:Nat):Prop where
 eq:acc++dg u=dg n.natAbs
theorem OfI.len {n:Int} {acc:List Int} {u:Nat} (h:OfI n acc u) (h0:-9223372036854775808≤n) (h1:n≤9223372036854775807):acc.length≤4:=by
 have h2:(dg n.natAbs).length≤4:=K8 (by simp only [pw];omega)
 have h3:=congrArg List.length h.eq
 simp at h3
 omega
theorem OfI.step {n:Int} {acc:List Int} {u:Nat} (h:OfI n acc u) (hu:0<u):OfI n (acc++[(u:Int) % 1048576]) (u / 1048576):=by
 refine ⟨?_⟩
 rw [← h.eq,a4P hu]
 simp
theorem OfI.le {n:Int} {acc:List Int} {u:Nat} (h:OfI n acc u):u≤n.natAbs:=by
 have h1:=congrArg val h.eq
 rw [J9,n7,n7] at h1
 have h2:Okd acc:=fun x hx=>p9 n.natAbs x (by rw [← h.eq];simp [hx])
 have h3:=t6 h2
 have h4:=O0 acc.length
 have h5:=Int.mul_le_mul_of_nonneg_right (a:=1) (b:=pw acc.length) (c:=(u:Int)) (by omega) (by omega)
 omega
theorem a0W {xs:List Int} {x:Int}:(toC (xs.map i5)).take xs.length++toC [[ti x]]=toC ((xs++[x]).map i5):=b2W (f:=i5)
theorem aS2 (n:Int) (h0:-9223372036854775808≤n) (h1:n≤9223372036854775807):b9 Tryz.prog 138 [a9 .i64 n] [] (bgS (bz n)) []:=by
 by_cases hn:n<0
 ·(refine a8 a7 Tryz.func138 rfl (by decide) ?_;(conv=>whnf);repeat (refine zy ?_;conv=>whnf))
  repeat' first|(refine zd ?_ ?_<;>intro h<;>first|exact zc h|(exfalso;omega)|conv=>whnf)|((first|refine zz ?_|refine ⟨_,a0s (y:=n+18446744073709551616) (by omega),?_⟩|refine ⟨_,a0s (y:=(n.natAbs:Int)) (by omega),?_⟩|refine zy ?_);conv=>whnf)
  refine o6 a7 (σ:=List Int × Nat) (fun|(acc,u)=>([J,J,S.c (C.ptr 0 0 0),a9 .i64 (-1),a9 .u64 u,Y8 1 acc,J,J,J,J,J,J,J,J,J,J,J,J,J,J,J,J,J,J,J],[b04,z5 acc])) (fun s=>OfI n s.1 s.2) (fun s=>s.2) ([],n.natAbs) [some 0,none]
   ⟨rfl⟩ ⟨rfl,rfl,⟨⟨rfl,rfl,rfl,.inl ⟨rfl,S6⟩⟩,⟨rfl,rfl⟩,trivial⟩,⟨⟨rfl,rfl,rfl⟩,rfl,e7 (by omega),⟨rfl,rfl,rfl⟩,trivial⟩⟩ ?_
  rintro ⟨acc,u⟩ hI
  have hI:OfI n acc u:=hI
  have hl:=hI.len h0 h1
  have hu:=hI.le
  conv=>whnf
  repeat' first|(refine zd ?_ ?_<;>intro h<;>first|exact zc h|(exfalso;omega)|conv=>whnf)|((first|refine zz ?_|refine qp toC ?_|refine qp toC ?_|refine ⟨_,aO4 _,?_⟩|refine ⟨by decide,_,b0s _,?_⟩|refine v7 (by simp [toC]) (by simp [toC];omega) ?_|refine ⟨_,a0s (by omega),?_⟩|refine zy ?_);conv=>whnf)
  ·refine ⟨[some 0,some 2],(acc++[(u:Int) % 1048576],u / 1048576),⟨rfl,rfl,⟨⟨rfl,rfl,rfl,.inl ⟨rfl,S6⟩⟩,b8 rfl rfl rfl a0W rfl,trivial⟩,⟨⟨rfl,rfl,rfl⟩,rfl,e7 (by simp),k9 rfl (by simp [toC]),trivial⟩⟩,hI.step (by omega),by show u / 1048576<u;omega⟩
  ·have h0u:u=0:=by omega
   subst h0u
   have e:acc=dg n.natAbs:=by have:=hI.eq;rw [S3,List.append_nil] at this;exact this
   have sg:=v8 (-1) n.natAbs (by omega) (by rw [← e];omega)
   rw [← e,show (-1)*(n.natAbs:Int)=n by omega] at sg
   refine .inr ⟨_,_,t8 [1] sg ⟨aj3,a0k (v5 (by simp) rfl (by intro h;cases h) rfl rfl (by simp)),trivial⟩ rfl,?_⟩
   conv=>whnf
   exact k8 ⟨rfl,rfl,trivial⟩
 ·(refine a8 a7 Tryz.func138 rfl (by decide) ?_;(conv=>whnf);repeat (refine zy ?_;conv=>whnf))
  repeat' first|(refine zd ?_ ?_<;>intro h<;>first|exact zc h|(exfalso;omega)|conv=>whnf)|((first|refine zz ?_|refine ⟨_,a0s (y:=(n.natAbs:Int)) (by omega),?_⟩|refine zy ?_);conv=>whnf)
  refine o6 a7 (σ:=List Int × Nat) (fun|(acc,u)=>([J,J,S.c (C.ptr 0 0 0),a9 .i64 1,a9 .u64 u,Y8 1 acc,J,J,J,J,J,J,J,J,J,J,J,J,J,J,J,J,J,J,J],[b04,z5 acc])) (fun s=>OfI n s.1 s.2) (fun s=>s.2) ([],n.natAbs) [some 0,none]
   ⟨rfl⟩ ⟨rfl,rfl,⟨⟨rfl,rfl,rfl,.inl ⟨rfl,S6⟩⟩,⟨rfl,rfl⟩,trivial⟩,⟨⟨rfl,rfl,rfl⟩,rfl,e7 (by omega),⟨rfl,rfl,rfl⟩,trivial⟩⟩ ?_
  rintro ⟨acc,u⟩ hI
  have hI:OfI n acc u:=hI
  have hl:=hI.len h0 h1
  have hu:=hI.le
  conv=>whnf
  repeat' first|(refine zd ?_ ?_<;>intro h<;>first|exact zc h|(exfalso;omega)|conv=>whnf)|((first|refine zz ?_|refine qp toC ?_|refine qp toC ?_|refine ⟨_,aO4 _,?_⟩|refine ⟨by decide,_,b0s _,?_⟩|refine v7 (by simp [toC]) (by simp [toC];omega) ?_|refine ⟨_,a0s (by omega),?_⟩|refine zy ?_);conv=>whnf)
  ·refine ⟨[some 0,some 2],(acc++[(u:Int) % 1048576],u / 1048576),⟨rfl,rfl,⟨⟨rfl,rfl,rfl,.inl ⟨rfl,S6⟩⟩,b8 rfl rfl rfl a0W rfl,trivial⟩,⟨⟨rfl,rfl,rfl⟩,rfl,e7 (by simp),k9 rfl (by simp [toC]),trivial⟩⟩,hI.step (by omega),by show u / 1048576<u;omega⟩
  ·have h0u:u=0:=by omega
   subst h0u
   have e:acc=dg n.natAbs:=by have:=hI.eq;rw [S3,List.append_nil] at this;exact this
   have sg:=v8 (1) n.natAbs (by omega) (by rw [← e];omega)
   rw [← e,show (1)*(n.natAbs:Int)=n by omega] at sg
   refine .inr ⟨_,_,t8 [1] sg ⟨aj3,a0k (v5 (by simp) rfl (by intro h;cases h) rfl rfl (by simp)),trivial⟩ rfl,?_⟩
   conv=>whnf
   exact k8 ⟨rfl,rfl,trivial⟩
end
section
open Go.RowKit
theorem ai2 (i:Nat):pw i=((2 ^ (20*i):Nat):Int):=by
 unfold pw;rw [show (1048576:Int)=((2 ^ 20:Nat):Int) by decide,←Int.natCast_pow,←Nat.pow_mul]
theorem ba7 {d:Int} {i:Nat} {b:Int} (hi:i≤3) (h:0≤d) (h2:d*pw i<18446744073709551616) (hb:b=20*i):G2 .u64 (d*2 ^ min b.toNat (IntKind.bits .u64)) (d*pw i):=by
 have e:min b.toNat (IntKind.bits .u64)=20*i:=by show min b.toNat 64=_;omega
 have hp:=O0 i
 have h3:0≤d*pw i:=Int.mul_nonneg h (by omega)
 rw [e,show (2:Int) ^ (20*i)=pw i by rw [ai2];simp]
 exact aB9 h3 h2
theorem oru {u d:Int} {i:Nat} (hu:0≤u) (hu2:u<pw i) (h:0≤d) (h2:u+d*pw i<18446744073709551616):T0 .or .u64 u (d*pw i) (u+d*pw i):=by
 obtain ⟨U,rfl⟩:=Int.eq_ofNat_of_zero_le hu
 obtain ⟨D,rfl⟩:=Int.eq_ofNat_of_zero_le h
 have hp:=O0 i
 have e2:(U:Int)+D*pw i=((U+2 ^ (20*i)*D:Nat):Int):=by rw [ai2];simp [Int.mul_comm]
 have e3:(D:Int)*pw i=((2 ^ (20*i)*D:Nat):Int):=by rw [ai2];simp [Int.mul_comm]
 rw [e2] at h2
 have hU:U<2 ^ (20*i):=by rw [ai2] at hu2;omega
 have k1:(BitVec.ofInt (IntKind.bits .u64) (U:Int) ||| BitVec.ofInt (IntKind.bits .u64) ((2 ^ (20*i)*D:Nat):Int)).toNat=U+2 ^ (20*i)*D:=by
  show (BitVec.ofInt 64 _ ||| BitVec.ofInt 64 _).toNat=_
  rw [BitVec.toNat_or,BitVec.toNat_ofInt,BitVec.toNat_ofInt]
  rw [Int.emod_eq_of_lt (by omega) (by omega),Int.emod_eq_of_lt (by omega) (by omega),Int.toNat_natCast,Int.toNat_natCast,Nat.or_comm,←Nat.two_pow_add_eq_or_of_lt hU,Nat.add_comm]
 rw [e2,e3]
 unfold T0
 simp only
 rw [k1]
 exact (a9E (by omega) h2).symm
structure aJ4 (n:Nat) (k:Nat) (u:Int):Prop where
 eq:u=val ((dg n).take k)
 le:k≤(dg n).length
 lt:k=4→u<9*1152921504606846976
theorem aJ4.rng {n k:Nat} {u:Int} (h:aJ4 n k u):0≤u∧u<pw k:=by
 have h1:=t6 ((p9 n).take k)
 have h2:=T1 ((p9 n).take k)
 rw [List.length_take,Nat.min_eq_left h.le,←h.eq] at h2
 rw [← h.eq] at h1
 exact ⟨h1,h2⟩
theorem aJ4.step {n k:Nat} {u:Int} (h:aJ4 n k u) (hk:k<(dg n).length) (hd:k=3→dat (dg n) k≤8):aJ4 n (k+1) (u+dat (dg n) k*pw k):=by
 have hr:=h.rng
 refine ⟨by rw [p7,h.eq,Int.mul_comm],hk,fun h4=>?_⟩
 have:k=3:=by omega
 subst this
 have:=hd rfl
 simp only [pw] at hr ⊢
 omega
theorem b4M {k:Nat} (h:k≤3):pw k≤1152921504606846976:=by
 have:=a0n h
 simp only [pw] at this ⊢
 omega
theorem b4E {k:Nat} (h:k≤2):pw k≤1099511627776:=by
 have:=a0n h
 simp only [pw] at this ⊢
 omega
theorem ap6 {a a':Int} {b b':Bool} {k:IntKind} {H1:Hp} (h:a=a') (h2:b=b'):Fin 0 (.tup [a9 k a,f7 b]) H1 (.tup [a9 k a',f7 b']) []:=by
 subst h h2;exact k8 ⟨rfl,rfl,trivial⟩
theorem aD2 {x:Int} (h1:9223372036854775808≤x) (h2:x<18446744073709551616):G2 .i64 x (x - 18446744073709551616):=by
 unfold G2
 simp only [IntKind.wrap,IntKind.bits,IntKind.signed]
 simp
 omega
abbrev a6L (x:Int):Prop:=-9223372036854775808≤x∧x≤9223372036854775807
theorem b52 (x:Int) (lx:bl x≤200000):b9 Tryz.prog 210 [bgS (bz x)] [] (.tup [a9 .i64 (if a6L x then x else 0),f7 (decide (a6L x))]) []:=by
 have r1:=a3f x (by omega)
 have l1:((bz x).dl.map i5).length=(dg x.natAbs).length:=by simp [bz]
 have l2:(bz x).dl=dg x.natAbs:=rfl
 have hlast:∀k:Nat,k<(dg x.natAbs).length→pw k≤x.natAbs:=fun k hk=>Int.le_trans (a0n (by omega)) (ai4 (by
  rcases Nat.eq_zero_or_pos x.natAbs with h|h
  ·rw [h,S3] at hk;simp at hk
  ·exact h))
 (refine a8 a7 Tryz.func210 rfl (by decide) ?_;(conv=>whnf);repeat (refine zy ?_;conv=>whnf))
 repeat' first|(refine zd ?_ ?_<;>intro h<;>first|exact zc h|(exfalso;omega)|conv=>whnf)|((first|refine zz ?_|refine qp r1 ?_|refine zy ?_);conv=>whnf)
 ·have hl:4<(dg x.natAbs).length:=by omega
  have:=hlast 4 hl
  simp only [pw] at this
  have hn:¬a6L x:=by unfold a6L;omega
  exact ap6 (by rw [if_neg hn]) (by simp [hn])
 ·refine o6 a7 (σ:=Nat × Int) (fun|(k,u)=>([J,S.c (C.ptr 0 0 0),J,J,a9 .u64 u,J,J,J,J,J,J,J,J,J,J,J,J,g6 (dg x.natAbs),a9 .i64 (dg x.natAbs).length,a9 .i64 k,J,J,J,J,J,J,J,J,J,J,J,J,J,J,J,J,J,J,J,J,J,J,J,J,J,J,J,J,J,J,J,J,J,J,J,J,J,J,J],[bgB (bz x)])) (fun s=>aJ4 x.natAbs s.1 s.2) (fun s=>(dg x.natAbs).length - s.1) (0,0) [some 0]
   ⟨by simp [val],by omega,by omega⟩ ⟨rfl,rfl,⟨⟨rfl,rfl,rfl,.inl ⟨rfl,a3B _⟩⟩,trivial⟩,⟨⟨rfl,rfl,rfl⟩,rfl,j3 rfl,e7 (by omega),rfl,trivial⟩⟩ ?_
  rintro ⟨k,u⟩ hI
  have hI:aJ4 x.natAbs k u:=hI
  have hr:=hI.rng
  have hle:=hI.le
  have hd:=(p9 x.natAbs).dat k
  have hp:=O0 k
  have hp3:k≤3→pw k≤1152921504606846976:=b4M
  have hdm:0≤dat (dg x.natAbs) k*pw k:=Int.mul_nonneg hd.1 (by omega)
  have l3:((dg x.natAbs).map i5).length=(dg x.natAbs).length:=by simp
  have hp2:k≤2→pw k≤1099511627776:=b4E
  have hA:k≤3→(k=3→dat (dg x.natAbs) k≤8)→u+dat (dg x.natAbs) k*pw k<18446744073709551616:=fun h3 h8=>by
   by_cases hk:k=3
   ·have:=Int.mul_le_mul_of_nonneg_right (c:=pw k) (h8 hk) (by omega)
    have:=hp3 h3
    omega
   ·have:=Int.mul_le_mul_of_nonneg_right (c:=pw k) (show dat (dg x.natAbs) k≤1048575 by omega) (by omega)
    have:=hp2 (by omega)
    omega
  have hE:k=(dg x.natAbs).length→u=x.natAbs:=fun h=>by
   have:=hI.eq
   rw [h,lg4 (Nat.le_refl _),n7] at this
   exact this
  have hs:=C7 x
  have hsg:(bz x).sg=x.sign:=rfl
  conv=>whnf
  repeat' first|(refine zd ?_ ?_<;>intro h<;>first|exact zc h|(exfalso;omega)|conv=>whnf)|((first|refine zz ?_|refine d9 (t5 (by omega)) ?_|refine ⟨_,aB9 (by omega) (by omega),?_⟩|refine ⟨by omega,_,ba7 (i:=k) (by omega) (by omega) (by omega) (by omega),?_⟩|refine ⟨_,oru (by omega) (by omega) (by omega) (by omega),?_⟩|refine ⟨_,a0s (y:=18446744073709551616 - u) (by omega),?_⟩|refine ⟨_,aD2 (by omega) (by omega),?_⟩|refine zy ?_);conv=>whnf)
  ·have hk:k=3:=by omega
   have h8:9≤dat (dg x.natAbs) k:=by omega
   have h1:=p7 (dg x.natAbs) k
   have h4:val (dg x.natAbs)=val ((dg x.natAbs).take (k+1)):=by rw [lg4 (by omega)]
   rw [n7] at h4
   have h5:=t6 ((p9 x.natAbs).take k)
   have h6:=Int.mul_le_mul_of_nonneg_left (a:=9) (b:=dat (dg x.natAbs) k) (c:=pw k) h8 (by omega)
   have h7:pw k=1152921504606846976:=by rw [hk];rfl
   have hn:¬a6L x:=by unfold a6L;omega
   exact ap6 (by rw [if_neg hn]) (by simp [hn])
  ·have hst:=hI.step (by omega) (by omega)
   exact ⟨[some 0],(k+1,u+dat (dg x.natAbs) k*pw k),⟨rfl,rfl,⟨⟨rfl,rfl,rfl,.inl ⟨rfl,a3B _⟩⟩,trivial⟩,⟨⟨rfl,rfl,rfl⟩,rfl,rfl,rfl,e7 (by omega),trivial⟩⟩,hst,by show (dg x.natAbs).length - (k+1)<(dg x.natAbs).length - k;omega⟩
  ·have hst:=hI.step (by omega) (by omega)
   exact ⟨[some 0],(k+1,u+dat (dg x.natAbs) k*pw k),⟨rfl,rfl,⟨⟨rfl,rfl,rfl,.inl ⟨rfl,a3B _⟩⟩,trivial⟩,⟨⟨rfl,rfl,rfl⟩,rfl,rfl,rfl,e7 (by omega),trivial⟩⟩,hst,by show (dg x.natAbs).length - (k+1)<(dg x.natAbs).length - k;omega⟩
  all_goals
   have hu:=hE (by omega)
   first
    |(have hn:a6L x:=by unfold a6L;omega
      exact ap6 (by rw [if_pos hn];omega) (by simp [hn]))
    |(have hn:¬a6L x:=by unfold a6L;omega
      exact ap6 (by rw [if_neg hn]) (by simp [hn]))
end
section
open Go.RowKit
abbrev frC (f:Fr):List C:=[.t (ti f.p.sg),.t (J0 f.p.dl),.t (ti f.q.sg),.t (J0 f.q.dl)]
abbrev frS (f:Fr):S:=.agg (frC f)
theorem b6Z (x:Int) (lx:bl x≤200000):b9 Tryz.prog 137 [bgS (bz x)] [] (f7 (x == 1)) []:=by
 have i:=b52 x lx
 by_cases h:a6L x
 ·rw [if_pos h,show decide (a6L x)=true by simp [h]] at i
  (refine a8 a7 Tryz.func137 rfl (by decide) ?_;(conv=>whnf);repeat (refine zy ?_;conv=>whnf))
  repeat' first|(refine zd ?_ ?_<;>intro h<;>first|exact zc h|(exfalso;omega)|conv=>whnf)|((first|refine zz ?_|refine qp i ?_|refine zy ?_);conv=>whnf)
  all_goals (refine d8 ?_;simp;omega)
 ·rw [if_neg h,show decide (a6L x)=false by simp [h]] at i
  have hx:x≠1:=by rintro rfl;exact h (by decide)
  (refine a8 a7 Tryz.func137 rfl (by decide) ?_;(conv=>whnf);repeat (refine zy ?_;conv=>whnf))
  repeat' first|(refine zd ?_ ?_<;>intro h<;>first|exact zc h|(exfalso;omega)|conv=>whnf)|((first|refine zz ?_|refine qp i ?_|refine zy ?_);conv=>whnf)
  all_goals (refine d8 ?_;simp;omega)
theorem a8U (f:Fr) (lp:f.p.dl.length≤200000) (lq:f.q.dl.length≤200000):b9 Tryz.prog 65 [frS f] [] (f7 (D2 f)) []:=by
 obtain ⟨p,q⟩:=f
 simp only at lp lq
 have r1:=a1M p (by omega)
 have r2:=a1M q (by omega)
 cases hp:H6 p with
 |false=>
  rw [hp] at r1
  (refine a8 a7 Tryz.func65 rfl (by decide) ?_;(conv=>whnf);repeat (refine zy ?_;conv=>whnf))
  repeat' first|(refine zd ?_ ?_<;>intro h<;>first|exact zc h|(exfalso;omega)|conv=>whnf)|((first|refine zz ?_|refine qp r1 ?_|refine qp r2 ?_|refine zy ?_);conv=>whnf)
  all_goals (first|(exfalso;simp_all;done)|(refine d8 ?_;unfold D2;simp [hp]))
 |true=>
  rw [hp] at r1
  cases hq:H6 q with
  |false=>
   rw [hq] at r2
   (refine a8 a7 Tryz.func65 rfl (by decide) ?_;(conv=>whnf);repeat (refine zy ?_;conv=>whnf))
   repeat' first|(refine zd ?_ ?_<;>intro h<;>first|exact zc h|(exfalso;omega)|conv=>whnf)|((first|refine zz ?_|refine qp r1 ?_|refine qp r2 ?_|refine zy ?_);conv=>whnf)
   all_goals (first|(exfalso;simp_all;done)|(refine d8 ?_;unfold D2;simp [hq]))
  |true=>
   rw [hq] at r2
   obtain ⟨x,rfl⟩:=a8P hp
   obtain ⟨y,rfl⟩:=a8P hq
   have g:=aE3 x y lp lq
   have o:=b6Z (Int.gcd x y) (a9e x y lp lq)
   (refine a8 a7 Tryz.func65 rfl (by decide) ?_;(conv=>whnf);repeat (refine zy ?_;conv=>whnf))
   repeat' first|(refine zd ?_ ?_<;>intro h<;>first|exact zc h|(exfalso;omega)|conv=>whnf)|((first|refine zz ?_|refine qp r1 ?_|refine qp r2 ?_|refine qp g ?_|refine qp o ?_|refine zy ?_);conv=>whnf)
   all_goals (refine d8 ?_;unfold D2;simp only [W5,a2J,Bool.true_and];symm;simp_all<;>omega)
theorem a0o (x y:Int) (lx:bl x≤200000) (ly:bl y≤200000):b9 Tryz.prog 140 [bgS (bz x),bgS (bz y)] [] (bgS (bz (x*y))) []:=by
 have mu:=b5l x y lx ly
 (refine a8 a7 Tryz.func140 rfl (by decide) ?_;(conv=>whnf);repeat (refine zy ?_;conv=>whnf))
 repeat' first|(refine zd ?_ ?_<;>intro h<;>first|exact zc h|(exfalso;omega)|conv=>whnf)|((first|refine zz ?_|refine qp mu ?_|refine zy ?_);conv=>whnf)
 exact k8 ⟨rfl,rfl,trivial⟩
theorem T5 {f f':Fr} {e:Int} {H1:Hp} (h:f=f'):Fin 0 (.tup [frS f,a9 .i64 e]) H1 (.tup [frS f',a9 .i64 e]) []:=by
 subst h;exact k8 ⟨⟨rfl,rfl,rfl,rfl,trivial⟩,rfl,trivial⟩
theorem aj0 (p q:Int) (hq:q≠0) (lp:bl p≤200000) (lq:bl q≤200000):b9 Tryz.prog 143 [bgS (bz p),bgS (bz q)] [] (.tup [frS (fz (Rat.divInt p q)),a9 .i64 0]) []:=by
 have r1:=a3f p (by omega)
 have r2:=a3f q (by omega)
 have hs:=C7 q
 have hsg:(bz q).sg=q.sign:=rfl
 by_cases h:q<0
 ·have n1:=a6Y p (by omega)
  have n2:=a6Y q (by omega)
  have lg:=a9e (-p) (-q) (by rw [a18];exact lp) (by rw [a18];exact lq)
  have hg:0<(Int.gcd (-p) (-q):Int):=by have:=Int.gcd_pos_of_ne_zero_right (-p) (b:=-q) (by omega);omega
  have g:=aE3 (-p) (-q) (by rw [a18];exact lp) (by rw [a18];exact lq)
  have d1:=am0 (-p) _ hg (by rw [a18];exact lp) lg
  have d2:=am0 (-q) _ hg (by rw [a18];exact lq) lg
  have e:=a6m (p:=-p) (q:=-q) (by omega) rfl
  rw [Rat.neg_divInt_neg] at e
  (refine a8 a7 Tryz.func143 rfl (by decide) ?_;(conv=>whnf);repeat (refine zy ?_;conv=>whnf))
  repeat' first|(refine zd ?_ ?_<;>intro h<;>first|exact zc h|(exfalso;omega)|conv=>whnf)|((first|refine zz ?_|refine qp r1 ?_|refine qp r2 ?_|refine qp n1 ?_|refine qp n2 ?_|refine qp g ?_|refine qp d1 ?_|refine qp d2 ?_|refine zy ?_);conv=>whnf)
  all_goals first
   |(exfalso;simp_all;done)
   |(exfalso;omega)
   |exact T5 e.symm
 ·have lg:=a9e p q lp lq
  have hg:0<(Int.gcd p q:Int):=by have:=Int.gcd_pos_of_ne_zero_right p (b:=q) (by omega);omega
  have g:=aE3 p q lp lq
  have d1:=am0 p _ hg lp lg
  have d2:=am0 q _ hg lq lg
  have e:=a6m (p:=p) (q:=q) (by omega) rfl
  (refine a8 a7 Tryz.func143 rfl (by decide) ?_;(conv=>whnf);repeat (refine zy ?_;conv=>whnf))
  repeat' first|(refine zd ?_ ?_<;>intro h<;>first|exact zc h|(exfalso;omega)|conv=>whnf)|((first|refine zz ?_|refine qp r1 ?_|refine qp r2 ?_|refine qp g ?_|refine qp d1 ?_|refine qp d2 ?_|refine zy ?_);conv=>whnf)
  all_goals first
   |(exfalso;omega)
   |(exfalso;simp_all;done)
   |exact T5 e.symm
theorem G7 (x:Rat) (lx:rl x≤200000):b9 Tryz.prog 65 [frS (fz x)] [] (f7 true) []:=by
 have h:=a8U (fz x) (Nat.le_trans (E5 x) lx) (Nat.le_trans (F4 x) lx)
 rw [a5H] at h
 exact h
theorem a2P (x y:Rat) (lx:rl x≤60000) (ly:rl y≤60000):b9 Tryz.prog 73 [frS (fz x),frS (fz y)] [] (.tup [frS (fz (x+y)),a9 .i64 0]) []:=by
 have r1:=G7 x (by omega)
 have r2:=G7 y (by omega)
 have x1:=E5 x
 have x2:=F4 x
 have y1:=E5 y
 have y2:=F4 y
 have l1:=D9 x.num y.den
 have l2:=D9 y.num x.den
 have l3:=D9 x.den y.den
 have l4:=a6U (x.num*y.den) (y.num*x.den)
 have t1:=a0o x.num y.den (by omega) (by omega)
 have t2:=a0o y.num x.den (by omega) (by omega)
 have t3:=a0o x.den y.den (by omega) (by omega)
 have a:=b5Q (x.num*y.den) (y.num*x.den) (by omega) (by omega)
 have n:=aj0 (x.num*y.den+y.num*x.den) (x.den*y.den) (a7W x y) (by omega) (by omega)
 rw [← a7G] at n
 (refine a8 a7 Tryz.func73 rfl (by decide) ?_;(conv=>whnf);repeat (refine zy ?_;conv=>whnf))
 repeat' first|(refine zd ?_ ?_<;>intro h<;>first|exact zc h|(exfalso;omega)|conv=>whnf)|((first|refine zz ?_|refine qp r1 ?_|refine qp r2 ?_|refine qp t1 ?_|refine qp t2 ?_|refine qp t3 ?_|refine qp a ?_|refine qp n ?_|refine qp 13 ?_|refine bl0 [13] ?_|refine zy ?_);conv=>whnf)
 all_goals first
  |(exfalso;simp_all;done)
  |exact T5 rfl
theorem aK6 (x y:Rat) (lx:rl x≤60000) (ly:rl y≤60000):b9 Tryz.prog 72 [frS (fz x),frS (fz y)] [] (.tup [frS (fz (x - y)),a9 .i64 0]) []:=by
 have r1:=G7 x (by omega)
 have r2:=G7 y (by omega)
 have y1:=E5 y
 have n:=a6Y y.num (by omega)
 have a:=a2P x (-y) lx (by rw [O1];exact ly)
 rw [← Rat.sub_eq_add_neg] at a
 have e:fz (-y)=⟨bz (-y.num),bz y.den⟩:=rfl
 rw [e] at a
 (refine a8 a7 Tryz.func72 rfl (by decide) ?_;(conv=>whnf);repeat (refine zy ?_;conv=>whnf))
 repeat' first|(refine zd ?_ ?_<;>intro h<;>first|exact zc h|(exfalso;omega)|conv=>whnf)|((first|refine zz ?_|refine qp r1 ?_|refine qp r2 ?_|refine qp n ?_|refine qp a ?_|refine zy ?_);conv=>whnf)
 all_goals first
  |(exfalso;simp_all;done)
  |exact T5 rfl
theorem aD0 (x y:Rat) (lx:rl x≤60000) (ly:rl y≤60000):b9 Tryz.prog 179 [frS (fz x),frS (fz y)] [] (.tup [frS (fz (x*y)),a9 .i64 0]) []:=by
 have r1:=G7 x (by omega)
 have r2:=G7 y (by omega)
 have x1:=E5 x
 have x2:=F4 x
 have y1:=E5 y
 have y2:=F4 y
 have l1:=D9 x.num y.num
 have l3:=D9 x.den y.den
 have t1:=a0o x.num y.num (by omega) (by omega)
 have t3:=a0o x.den y.den (by omega) (by omega)
 have n:=aj0 (x.num*y.num) (x.den*y.den) (a7W x y) (by omega) (by omega)
 rw [← an2] at n
 (refine a8 a7 Tryz.func179 rfl (by decide) ?_;(conv=>whnf);repeat (refine zy ?_;conv=>whnf))
 repeat' first|(refine zd ?_ ?_<;>intro h<;>first|exact zc h|(exfalso;omega)|conv=>whnf)|((first|refine zz ?_|refine qp r1 ?_|refine qp r2 ?_|refine qp t1 ?_|refine qp t3 ?_|refine qp n ?_|refine zy ?_);conv=>whnf)
 all_goals first
  |(exfalso;simp_all;done)
  |exact T5 rfl
theorem ar4 (x y:Rat):K9 (x.num*y.den) (y.num*x.den)=Y7 x y:=by
 unfold K9 Y7
 simp only [← Rat.lt_iff]
theorem a2u (x y:Rat) (lx:rl x≤60000) (ly:rl y≤60000):b9 Tryz.prog 68 [frS (fz x),frS (fz y)] [] (a9 .i64 (Y7 x y)) []:=by
 have r1:=G7 x (by omega)
 have r2:=G7 y (by omega)
 have x1:=E5 x
 have x2:=F4 x
 have y1:=E5 y
 have y2:=F4 y
 have l1:=D9 x.num y.den
 have l2:=D9 y.num x.den
 have t1:=a0o x.num y.den (by omega) (by omega)
 have t2:=a0o y.num x.den (by omega) (by omega)
 have c:=aC2 (x.num*y.den) (y.num*x.den) (by omega) (by omega)
 rw [ar4] at c
 (refine a8 a7 Tryz.func68 rfl (by decide) ?_;(conv=>whnf);repeat (refine zy ?_;conv=>whnf))
 repeat' first|(refine zd ?_ ?_<;>intro h<;>first|exact zc h|(exfalso;omega)|conv=>whnf)|((first|refine zz ?_|refine qp r1 ?_|refine qp r2 ?_|refine qp t1 ?_|refine qp t2 ?_|refine qp c ?_|refine zy ?_);conv=>whnf)
 all_goals first
  |(exfalso;simp_all;done)
  |exact j5 rfl
theorem a00 (x:Rat) (lx:rl x≤60000):b9 Tryz.prog 69 [frS (fz x)] [] (a9 .i64 (sgR x)) []:=by
 have r1:=G7 x (by omega)
 (refine a8 a7 Tryz.func69 rfl (by decide) ?_;(conv=>whnf);repeat (refine zy ?_;conv=>whnf))
 repeat' first|(refine zd ?_ ?_<;>intro h<;>first|exact zc h|(exfalso;omega)|conv=>whnf)|((first|refine zz ?_|refine qp r1 ?_|refine zy ?_);conv=>whnf)
 all_goals first
  |(exfalso;simp_all;done)
  |exact j5 (a5w x)
theorem b7f (p q:Int) (hq:q≠0) (p0:-9223372036854775808≤p) (p1:p≤9223372036854775807) (q0:-9223372036854775808≤q) (q1:q≤9223372036854775807):
 b9 Tryz.prog 222 [a9 .i64 p,a9 .i64 q] [] (.tup [frS (fz (Rat.divInt p q)),a9 .i64 0]) []:=by
 have l1:=N8 p0 p1
 have l2:=N8 q0 q1
 have o1:=aS2 p p0 p1
 have o2:=aS2 q q0 q1
 have n:=aj0 p q hq (by omega) (by omega)
 (refine a8 a7 Tryz.func222 rfl (by decide) ?_;(conv=>whnf);repeat (refine zy ?_;conv=>whnf))
 repeat' first|(refine zd ?_ ?_<;>intro h<;>first|exact zc h|(exfalso;omega)|conv=>whnf)|((first|refine zz ?_|refine qp o1 ?_|refine qp o2 ?_|refine qp n ?_|refine zy ?_);conv=>whnf)
 all_goals exact T5 rfl
theorem b4F (n:Int):fz (n:Rat)=⟨bz n,bz 1⟩:=by unfold fz;rw [Rat.num_intCast,Rat.den_intCast];rfl
theorem G9 (n:Int) (p0:-9223372036854775808≤n) (p1:n≤9223372036854775807):b9 Tryz.prog 66 [a9 .i64 n] [] (frS (fz (n:Rat))) []:=by
 have o1:=aS2 n p0 p1
 have o2:=aS2 1 (by decide) (by decide)
 rw [b4F]
 (refine a8 a7 Tryz.func66 rfl (by decide) ?_;(conv=>whnf);repeat (refine zy ?_;conv=>whnf))
 repeat' first|(refine zd ?_ ?_<;>intro h<;>first|exact zc h|(exfalso;omega)|conv=>whnf)|((first|refine zz ?_|refine qp o1 ?_|refine qp o2 ?_|refine zy ?_);conv=>whnf)
 all_goals exact k8 ⟨rfl,rfl,rfl,rfl,trivial⟩
theorem a85 (x:Int) (lx:bl x≤200000):b9 Tryz.prog 290 [bgS (bz x)] [] (bgS (bz x)) []:=by
 have n1:=a6Y x (by omega)
 have n2:=a6Y (-x) (by rw [a18];omega)
 rw [Int.neg_neg] at n2
 (refine a8 a7 Tryz.func290 rfl (by decide) ?_;(conv=>whnf);repeat (refine zy ?_;conv=>whnf))
 repeat' first|(refine zd ?_ ?_<;>intro h<;>first|exact zc h|(exfalso;omega)|conv=>whnf)|((first|refine zz ?_|refine qp n1 ?_|refine qp n2 ?_|refine zy ?_);conv=>whnf)
 all_goals exact k8 ⟨rfl,rfl,trivial⟩
end
section
def N6 (c:G4):Bool:=
 decide (0≤c.since) && decide (c.since≤c.till) && decide (c.till≤100000) && idx c.scale 30 && btw c.grams 0 1099511627776 && btw c.permille 0 1000 && btw c.drift 0 10000000
def H4 (c:G4) (day:Int):Bool:=N6 c && btw day c.since c.till
def am2 (cs:List G4) (i:Nat):Int:=((cs[i]?).map (·.since)).getD 0
def later (cs:List G4) (o:Option Nat) (c:G4):Bool:=match o with
 |none=>true
 |some b=>decide (am2 cs b≤c.since)
def y8 (cs:List G4) (scale day:Int):Nat→Option Nat
 |0=>none
 |k+1=>match cs[k]? with
  |none=>y8 cs scale day k
  |some c=>if decide (c.scale=scale) && H4 c day && later cs (y8 cs scale day k) c then some k else y8 cs scale day k
theorem L7 {cs:List G4} {scale day:Int}:∀{k b:Nat},y8 cs scale day k=some b→b<k∧∃c,cs[b]? =some c∧c.scale=scale∧H4 c day=true
 |0,b,h=>by simp [y8] at h
 |k+1,b,h=>by
  unfold y8 at h
  split at h
  ·obtain ⟨h1,h2⟩:=L7 h;exact ⟨by omega,h2⟩
  ·rename_i c hc
   split at h
   ·rename_i hcc
    injection h with h
    subst h
    simp only [Bool.and_eq_true,decide_eq_true_eq] at hcc
    exact ⟨by omega,c,hc,hcc.1.1,hcc.1.2⟩
   ·obtain ⟨h1,h2⟩:=L7 h;exact ⟨by omega,h2⟩
def a11 (rs:List z6) (scale day:Int):Bool:=rs.any fun r=>decide (r.scale=scale) && decide (r.since≤day)
def a1a (c:G4) (reading day:Int):Rat:=Rat.divInt (c.permille*reading) 1000+((c.grams+c.drift*(day - c.since):Int):Rat)
def ao1 (x y:Rat):Rat:=if x<y then y else x
def b0J:G4:=⟨0,0,0,0,0,0⟩
def a1x (cs:List G4) (i:Nat):G4:=(cs[i]?).getD b0J
def L1 (cs:List G4) (rs:List z6) (scale reading day:Int):Option (Rat × Rat):=
 match y8 cs scale day cs.length with
 |none=>none
 |some i=>if a11 rs scale day then none else if btw reading 0 1099511627776 then
   some (ao1 ((reading:Rat) - a1a (a1x cs i) reading day) ((0:Int):Rat),(reading:Rat)+a1a (a1x cs i) reading day) else none
def b6h (l:List Rat):Rat:=l.foldl (·+·) ((0:Int):Rat)
def hz (H:List (List Rat)):List (List Fr):=H.map (·.map fz)
theorem a9p {l:List Fr} (h:l.all D2=true):∃L:List Rat,l=L.map fz:=by
 induction l with
 |nil=>exact ⟨[],rfl⟩
 |cons f r ih=>
  simp only [List.all_cons,Bool.and_eq_true] at h
  obtain ⟨L,rfl⟩:=ih h.2
  exact ⟨fv f::L,by simp [← b82 h.1]⟩
structure bh2 (e:Ev) (H:List (List Rat)):Prop where
 len:H.length=e.moves.length
 wid:∀l ∈ H,(l.length:Int)=e.mats
def hAt (H:List (List Rat)) (k m:Nat):Rat:=(H.getD k []).getD m 0
def a6u (x:n6) (v:Nat→Rat) (f:Nat→Nat→Rat):Nat→Nat→Rat:=fun p m=>if x.src=(p:Int) then f p m - v m else if x.dst=(p:Int) then f p m+v m else f p m
def stk (e:Ev) (H:List (List Rat)):Nat→Nat→Nat→Rat
 |0=>fun _ _=>((0:Int):Rat)
 |k+1=>match e.moves[k]? with
  |none=>stk e H k
  |some x=>a6u x (hAt H k) (stk e H k)
def b1k (f:Nat→Rat) (all:Bool):List Rat→Nat→Bool→Int
 |[],_,rest=>if rest && all then 7 else 0
 |v::r,m,rest=>if f m<v then 4 else b1k f all r (m+1) (rest || decide (v<f m))
def b5e (e:Ev) (f:Nat→Nat→Rat) (x:n6) (l:List Rat):Int:=if t7 e x.src=0 then 0 else b1k (f x.src.toNat) x.all l 0 false
def inB (iv:Option (Rat × Rat)) (mass:Rat):Bool:=match iv with
 |none=>true
 |some (lo,hi)=>decide (lo≤mass) && decide (mass≤hi)
def b23 (e:Ev) (x:n6) (mass:Rat):Bool:=if x.scale=-1 then true else inB (L1 e.certs e.recalls x.scale x.reading x.day) mass
def b2Y (p:O8) (l:List Rat) (mass:Rat):Bool:=
 decide ((p.least:Rat)*mass≤((1000:Int):Rat)*l.getD p.mat.toNat 0) && decide (((1000:Int):Rat)*l.getD p.mat.toNat 0≤(p.most:Rat)*mass)
def b7B (ps:List O8) (i:Nat) (l:List Rat) (mass:Rat):Bool:=ps.all fun p=>decide (p.move≠(i:Int)) || b2Y p l mass
theorem aZ5 {x:n6} {v:Nat→Rat} {f:Nat→Nat→Rat} {B C:Nat} (hv:∀m,rl (v m)≤B) (hf:∀p m,rl (f p m)≤C) (p m:Nat):rl (a6u x v f p m)≤C+(B+1):=by
 unfold a6u
 have h1:=hf p m
 have h2:=hv m
 have h3:=aq7 (f p m) (v m)
 have h4:=Y0 (f p m) (v m)
 split
 ·omega
 ·split<;>omega
theorem a5a:rl ((0:Int):Rat)=1:=by rw [Q7];rfl
theorem b4B {H:List (List Rat)} {B:Nat} (hB:∀l ∈ H,∀x ∈ l,rl x≤B) (h1:1≤B) (k m:Nat):rl (hAt H k m)≤B:=by
 unfold hAt
 rw [lg3,lg3]
 cases hk:H[k]? with
 |none=>
  have:rl 0=1:=a5a
  simp only [Option.getD_none,List.getElem?_nil]
  omega
 |some l=>
  simp only [Option.getD_some]
  cases hm:l[m]? with
  |none=>
   have:rl 0=1:=a5a
   simp only [Option.getD_none]
   omega
  |some x=>exact hB l (lg2 hk) x (lg2 hm)
theorem b1J {e:Ev} {H:List (List Rat)} {B:Nat} (hB:∀l ∈ H,∀x ∈ l,rl x≤B) (h1:1≤B):∀k p m,rl (stk e H k p m)≤k*(B+1)+1
 |0,p,m=>by unfold stk;rw [a5a];omega
 |k+1,p,m=>by
  have ih:=b1J hB h1 (e:=e) k
  unfold stk
  cases hx:e.moves[k]? with
  |none=>have:=ih p m;rw [Nat.succ_mul];simp only;omega
  |some x=>
   simp only
   have:=aZ5 (x:=x) (b4B hB h1 k) ih p m
   rw [Nat.succ_mul];omega
end
section
open Go.RowKit
theorem a5C {x y:Rat}:Y7 x y<0↔x<y:=by unfold Y7;split<;>(try split)<;>simp_all
theorem b1T (x y:Rat):-1≤Y7 x y∧Y7 x y≤1:=by unfold Y7;split<;>(try split)<;>omega
theorem b4s (x y:Rat) (lx:rl x≤60000) (ly:rl y≤60000):b9 Tryz.prog 193 [frS (fz x),frS (fz y)] [] (.tup [frS (fz (ao1 x y)),a9 .i64 0]) []:=by
 have e:b9 Tryz.prog 252 [frS (fz x),frS (fz y),a9 .i64 1] [] (.tup [frS (fz (ao1 x y)),a9 .i64 0]) []:=by
  have r1:=G7 x (by omega)
  have r2:=G7 y (by omega)
  have x1:=E5 x
  have x2:=F4 x
  have y1:=E5 y
  have y2:=F4 y
  have c:=a2u x y lx ly
  have hr:=b1T x y
  have s1:=a85 x.num (by omega)
  have s2:=a85 x.den (by omega)
  have s3:=a85 y.num (by omega)
  have s4:=a85 y.den (by omega)
  (refine a8 a7 Tryz.func252 rfl (by decide) ?_;(conv=>whnf);repeat (refine zy ?_;conv=>whnf))
  repeat' first|(refine zd ?_ ?_<;>intro h<;>first|exact zc h|(exfalso;omega)|conv=>whnf)|((first|refine zz ?_|refine qp r1 ?_|refine qp r2 ?_|refine qp c ?_|refine qp s1 ?_|refine qp s2 ?_|refine qp s3 ?_|refine qp s4 ?_|refine zy ?_);conv=>whnf)
  ·have h:Y7 x y<0:=by omega
   refine T5 (f:=fz y) ?_
   unfold ao1;rw [if_pos (a5C.1 h)]
  ·have h:¬Y7 x y<0:=by omega
   refine T5 (f:=fz x) ?_
   unfold ao1;rw [if_neg (fun h'=>h (a5C.2 h'))]
 (refine a8 a7 Tryz.func193 rfl (by decide) ?_;(conv=>whnf);repeat (refine zy ?_;conv=>whnf))
 repeat' first|(refine zd ?_ ?_<;>intro h<;>first|exact zc h|(exfalso;omega)|conv=>whnf)|((first|refine zz ?_|refine qp e ?_|refine zy ?_);conv=>whnf)
 all_goals exact T5 rfl
theorem a36 (n m:Int):b9 Tryz.prog 251 [a9 .i64 n,a9 .i64 m] [] (f7 (btw n 0 m)) []:=by
 (refine a8 a7 Tryz.func251 rfl (by decide) ?_;(conv=>whnf);repeat (refine zy ?_;conv=>whnf))
 repeat' first|(refine zd ?_ ?_<;>intro h<;>first|exact zc h|(exfalso;omega)|conv=>whnf)|((first|refine zz ?_|refine zy ?_);conv=>whnf)
 all_goals (refine d8 ?_;unfold btw;simp;omega)
abbrev at5 (c:G4):S:=.agg (c.row.map .t)
theorem ae5 (n:Int):btw n 0 29=idx n 30:=aS9 n 30
theorem aw2 (c:G4):b9 Tryz.prog 288 [at5 c] [] (f7 (N6 c)) []:=by
 have w1:=a36 c.scale 29
 have w2:=a36 c.grams 1099511627776
 have w3:=a36 c.permille 1000
 have w4:=a36 c.drift 10000000
 rw [ae5] at w1
 unfold N6
 cases h1:idx c.scale 30<;>cases h2:btw c.grams 0 1099511627776<;>cases h3:btw c.permille 0 1000<;>cases h4:btw c.drift 0 10000000<;>rw [h1] at w1<;>rw [h2] at w2<;>rw [h3] at w3<;>rw [h4] at w4<;>
 ·(refine a8 a7 Tryz.func288 rfl (by decide) ?_;(conv=>whnf);repeat (refine zy ?_;conv=>whnf))
  repeat' first|(refine zd ?_ ?_<;>intro h<;>first|exact zc h|(exfalso;omega)|conv=>whnf)|((first|refine zz ?_|refine qp w1 ?_|refine qp w2 ?_|refine qp w3 ?_|refine qp w4 ?_|refine zy ?_);conv=>whnf)
  all_goals (refine d8 ?_;simp;try omega)
theorem as8 (c:G4) (day:Int):b9 Tryz.prog 248 [at5 c,a9 .i64 day] [] (f7 (H4 c day)) []:=by
 have w1:=aw2 c
 unfold H4
 cases h1:N6 c<;>rw [h1] at w1<;>
 ·(refine a8 a7 Tryz.func248 rfl (by decide) ?_;(conv=>whnf);repeat (refine zy ?_;conv=>whnf))
  repeat' first|(refine zd ?_ ?_<;>intro h<;>first|exact zc h|(exfalso;omega)|conv=>whnf)|((first|refine zz ?_|refine qp w1 ?_|refine zy ?_);conv=>whnf)
  all_goals (refine d8 ?_;simp [btw];try omega)
theorem ax7 {cs:List G4} {k:Nat} {c:G4} (h:cs[k]? =some c):am2 cs k=c.since:=by unfold am2;rw [h];rfl
abbrev b3a (n:Int):T:=.ptr [ti n]
theorem aO7 {a b:Bool} {ρ:List (Option Nat)} {H:Hp} (h:a=b):a49 ρ H (f7 a) (f7 b):=by subst h;exact rfl
def a6F (o:Option Nat):Nat:=o.getD 0
theorem b4K (cs:List G4) (scale day:Int) (hl:cs.length≤1000000):
 b9 Tryz.prog 190 [.c (.t (Y4 cs)),a9 .i64 scale,a9 .i64 day] [] (.tup [a9 .i64 (a6F (y8 cs scale day cs.length)),f7 (y8 cs scale day cs.length).isSome]) []:=by
 have l1:(cs.map G4.row).length=cs.length:=by simp
 (refine a8 a7 Tryz.func190 rfl (by decide) ?_;(conv=>whnf);repeat (refine zy ?_;conv=>whnf))
 repeat' first|(refine zd ?_ ?_<;>intro h<;>first|exact zc h|(exfalso;omega)|conv=>whnf)|((first|refine zz ?_|refine zy ?_);conv=>whnf)
 refine f8 a7 (fun k=>([S.c (C.t (Y4 cs)),a9 .i64 scale,a9 .i64 day,J,J,J,J,J,a9 .i64 (a6F (y8 cs scale day k)),f7 (y8 cs scale day k).isSome,J,J,S.c (C.t (Y4 cs)),a9 .i64 cs.length,a9 .i64 k,J,J,J,J,J,J,J,J,J,J,J,J,J,J,J,J,J,J,J,J,J,J,J,J,J,J,J,J,J,J,J],[])) cs.length (fun _=>True) [] trivial
  ⟨rfl,rfl,trivial,⟨j3 rfl,rfl,rfl,rfl,rfl,j3 rfl,e7 (by simp),rfl,trivial⟩⟩ ?_
 intro k hk _
 by_cases hlt:k<cs.length
 ·obtain ⟨c,hc⟩:∃c,cs[k]? =some c:=⟨_,lg0 hlt⟩
  have cv:=as8 c day
  have hst:y8 cs scale day (k+1)=if decide (c.scale=scale) && H4 c day && later cs (y8 cs scale day k) c then some k else y8 cs scale day k:=by
   conv=>lhs;unfold y8
   rw [hc]
  cases hcv:H4 c day with
  |false=>
   rw [hcv] at cv hst
   simp only [Bool.and_false,Bool.false_and,Bool.false_eq_true,if_false] at hst
   rw [← hst]
   conv=>whnf
   repeat' first|(refine zd ?_ ?_<;>intro h<;>first|exact zc h|(exfalso;omega)|conv=>whnf)|((first|refine zz ?_|refine qp cv ?_|refine d9 hc ?_|refine zy ?_);conv=>whnf)
   all_goals first
    |(exfalso;omega)
    |exact ⟨hlt,trivial,[],rfl,rfl,trivial,⟨rfl,rfl,rfl,rfl,rfl,rfl,rfl,rfl,trivial⟩⟩
  |true=>
   rw [hcv] at cv hst
   cases hf:y8 cs scale day k with
   |none=>
    rw [hf] at hst
    conv=>whnf
    repeat' first|(refine zd ?_ ?_<;>intro h<;>first|exact zc h|(exfalso;omega)|conv=>whnf)|((first|refine zz ?_|refine qp cv ?_|refine d9 hc ?_|refine zy ?_);conv=>whnf)
    ·exact ⟨hlt,trivial,[],rfl,rfl,trivial,⟨rfl,rfl,rfl,e7 (by rw [hst];simp [*,later,a6F]),aO7 (by rw [hst];simp [*,later]),rfl,rfl,rfl,trivial⟩⟩
    ·exact ⟨hlt,trivial,[],rfl,rfl,trivial,⟨rfl,rfl,rfl,e7 (by rw [hst];simp [*,later,a6F]),aO7 (by rw [hst];simp [*,later]),rfl,rfl,rfl,trivial⟩⟩
   |some b=>
    rw [hf] at hst
    obtain ⟨hb,cb,hcb,_⟩:=L7 hf
    have hsb:=ax7 hcb
    conv=>whnf
    repeat' first|(refine zd ?_ ?_<;>intro h<;>first|exact zc h|(exfalso;omega)|conv=>whnf)|((first|refine zz ?_|refine qp cv ?_|refine d9 hc ?_|refine d9 hcb ?_|refine zy ?_);conv=>whnf)
    all_goals first
     |exact ⟨hlt,trivial,[],rfl,rfl,trivial,⟨rfl,rfl,rfl,e7 (by rw [hst];simp [*,later,a6F]),aO7 (by rw [hst];simp [*,later]),rfl,rfl,rfl,trivial⟩⟩
     |(exfalso;simp_all;done)
 ·have hke:k=cs.length:=by omega
  subst hke
  conv=>whnf
  repeat' first|(refine zd ?_ ?_<;>intro h<;>first|exact zc h|(exfalso;omega)|conv=>whnf)|((first|refine zz ?_|refine zy ?_);conv=>whnf)
  all_goals first
   |(exfalso;omega)
   |exact k8 ⟨rfl,rfl,trivial⟩
theorem aj7 (r:z6) (scale day:Int):b9 Tryz.prog 250 (.agg (r.row.map .t)::[b3a scale,b3a day].map fun x=>.c (.t x)) [] (f7 (decide (r.scale=scale) && decide (r.since≤day))) []:=by
 (refine a8 a7 Tryz.func250 rfl (by decide) ?_;(conv=>whnf);repeat (refine zy ?_;conv=>whnf))
 repeat' first|(refine zd ?_ ?_<;>intro h<;>first|exact zc h|(exfalso;omega)|conv=>whnf)|((first|refine zz ?_|refine zy ?_);conv=>whnf)
 all_goals (refine d8 ?_;simp [*];try omega)
abbrev b58 (r:z6):S:=.agg (r.row.map .t)
def W0 {α:Type} (q:α→Bool):List α→Nat→Int
 |[],_=>-1
 |x::r,k=>if q x then k else W0 q r (k+1)
theorem a4B {α:Type} (q:α→Bool):∀(l:List α) (k:Nat),decide (0≤W0 q l k)=l.any q
 |[],k=>by simp [W0]
 |x::r,k=>by
  unfold W0
  rw [List.any_cons]
  cases h:q x with
  |true=>simp
  |false=>simpa using a4B q r (k+1)
theorem aK2 (rs:List z6) (hl:rs.length≤1000000) (g:FuncId) (caps:List T) (q:z6→Bool) (hg:∀r ∈ rs,b9 Tryz.prog g (b58 r::caps.map fun x=>.c (.t x)) [] (f7 (q r)) []):
 b9 Tryz.prog 289 [.c (.t (J3 rs)),.c (.t (.fn (.func g) caps))] [] (a9 .i64 (W0 q rs 0)) []:=by
 have l1:(rs.map z6.row).length=rs.length:=by simp
 (refine a8 a7 Tryz.func289 rfl (by decide) ?_;(conv=>whnf);repeat (refine zy ?_;conv=>whnf))
 repeat' first|(refine zd ?_ ?_<;>intro h<;>first|exact zc h|(exfalso;omega)|conv=>whnf)|((first|refine zz ?_|refine zy ?_);conv=>whnf)
 refine f8 a7 (fun k=>([S.c (C.t (J3 rs)),S.c (C.t (T.fn (.func g) caps)),J,J,J,J,J,a9 .i64 rs.length,a9 .i64 k,J,J,J,J,J,J,J,J,J,J],[])) rs.length (fun k=>W0 q (rs.drop k) k=W0 q rs 0) [] rfl
  ⟨rfl,rfl,trivial,⟨j3 rfl,j3 rfl,e7 (by simp),rfl,trivial⟩⟩ ?_
 intro k hk hI
 by_cases hlt:k<rs.length
 ·obtain ⟨r,hr⟩:∃r,rs[k]? =some r:=⟨_,lg0 hlt⟩
  have hd:rs.drop k=r::rs.drop (k+1):=by
   rw [List.drop_eq_getElem_cons hlt]
   rw [lg0 hlt] at hr
   injection hr with hr
   rw [hr]
  have hgr:=hg r (lg2 hr)
  have ha:(b58 r::caps.map fun x=>S.c (C.t x)).all S.isT=true:=by simp [S.isT,C.isT,z6.row]
  rw [hd] at hI
  have hI:(if q r then (k:Int) else W0 q (rs.drop (k+1)) (k+1))=W0 q rs 0:=hI
  cases hq:q r with
  |true=>
   rw [hq] at hgr hI
   conv=>whnf
   repeat' first|(refine zd ?_ ?_<;>intro h<;>first|exact zc h|(exfalso;omega)|conv=>whnf)|((first|refine zz ?_|refine .inl ⟨_,_,H5 hgr ha rfl,?_⟩|refine d9 hr ?_|refine zy ?_);conv=>whnf)
   all_goals first
    |(exfalso;omega)
    |exact j5 hI
  |false=>
   rw [hq] at hgr hI
   conv=>whnf
   repeat' first|(refine zd ?_ ?_<;>intro h<;>first|exact zc h|(exfalso;omega)|conv=>whnf)|((first|refine zz ?_|refine .inl ⟨_,_,H5 hgr ha rfl,?_⟩|refine d9 hr ?_|refine zy ?_);conv=>whnf)
   all_goals first
    |(exfalso;omega)
    |exact ⟨hlt,by simpa using hI,[],rfl,rfl,trivial,⟨rfl,rfl,rfl,rfl,trivial⟩⟩
 ·have hke:k=rs.length:=by omega
  subst hke
  rw [List.drop_of_length_le (Nat.le_refl _)] at hI
  conv=>whnf
  repeat' first|(refine zd ?_ ?_<;>intro h<;>first|exact zc h|(exfalso;omega)|conv=>whnf)|((first|refine zz ?_|refine zy ?_);conv=>whnf)
  all_goals first
   |(exfalso;omega)
   |exact j5 hI
theorem a9O (rs:List z6) (hl:rs.length≤1000000) (g:FuncId) (caps:List T) (q:z6→Bool) (hg:∀r ∈ rs,b9 Tryz.prog g (b58 r::caps.map fun x=>.c (.t x)) [] (f7 (q r)) []):
 b9 Tryz.prog 249 [.c (.t (J3 rs)),.c (.t (.fn (.func g) caps))] [] (f7 (rs.any q)) []:=by
 have ix:=aK2 rs hl g caps q hg
 (refine a8 a7 Tryz.func249 rfl (by decide) ?_;(conv=>whnf);repeat (refine zy ?_;conv=>whnf))
 repeat' first|(refine zd ?_ ?_<;>intro h<;>first|exact zc h|(exfalso;omega)|conv=>whnf)|((first|refine zz ?_|refine qp ix ?_|refine zy ?_);conv=>whnf)
 all_goals (refine d8 ?_;rw [← a4B q rs 0];simp;omega)
theorem aG4 (rs:List z6) (hl:rs.length≤1000000) (scale day:Int):b9 Tryz.prog 191 [.c (.t (J3 rs)),a9 .i64 scale,a9 .i64 day] [] (f7 (a11 rs scale day)) []:=by
 have ct:=a9O rs hl 250 [b3a scale,b3a day] _ (fun r _=>aj7 r scale day)
 (refine a8 a7 Tryz.func191 rfl (by decide) ?_;(conv=>whnf);repeat ((first|refine b0x ?_|refine zy ?_);conv=>whnf))
 repeat' first|(refine zd ?_ ?_<;>intro h<;>first|exact zc h|(exfalso;omega)|conv=>whnf)|((first|refine zz ?_|refine qp ct ?_|refine zy ?_);conv=>whnf)
 all_goals (refine d8 ?_;symm;assumption)
end
section
open Go.RowKit
theorem a2f {c:G4} {day:Int} (h:H4 c day=true):0≤c.since∧c.since≤day∧day≤c.till∧c.till≤100000∧0≤c.grams∧c.grams≤1099511627776∧0≤c.permille∧c.permille≤1000∧0≤c.drift∧c.drift≤10000000:=by
 unfold H4 N6 btw at h
 simp only [Bool.and_eq_true,decide_eq_true_eq] at h
 omega
abbrev E7:Fr:=⟨⟨0,[]⟩,⟨0,[]⟩⟩
theorem b0u {f f':Fr} {b b':Bool} {H1:Hp} (h:f=f') (h2:b=b'):Fin 0 (.tup [frS f,f7 b]) H1 (.tup [frS f',f7 b']) []:=by
 subst h h2;exact k8 ⟨⟨rfl,rfl,rfl,rfl,trivial⟩,rfl,trivial⟩
structure b1L (c:G4) (reading day:Int):Prop where
 p0:0≤c.permille*reading
 p1:c.permille*reading≤1000*1099511627776
 d0:0≤c.drift*(day - c.since)
 d1:c.drift*(day - c.since)≤10000000*100000
theorem b1L.of {c:G4} {reading day:Int} (h:H4 c day=true) (hr:btw reading 0 1099511627776=true):b1L c reading day:=by
 have hc:=a2f h
 rw [S4] at hr
 exact ⟨Int.mul_nonneg (by omega) (by omega),Int.mul_le_mul (by omega) (by omega) (by omega) (by omega),Int.mul_nonneg (by omega) (by omega),Int.mul_le_mul (by omega) (by omega) (by omega) (by omega)⟩
theorem aH9 {c:G4} {reading day:Int} (h:H4 c day=true) (hr:btw reading 0 1099511627776=true):rl (a1a c reading day)≤9:=by
 have i:=b1L.of h hr
 have hc:=a2f h
 obtain ⟨p0,p1,d0,d1⟩:=i
 unfold a1a
 have h1:=Y0 (Rat.divInt (c.permille*reading) 1000) ((c.grams+c.drift*(day - c.since):Int):Rat)
 have h2:rl (Rat.divInt (c.permille*reading) 1000)≤4:=Nat.le_trans (Z2 (by decide)) (by have:=N8 (x:=c.permille*reading) (by omega) (by omega);have:=N8 (x:=1000) (by decide) (by decide);omega)
 have h3:rl ((c.grams+c.drift*(day - c.since):Int):Rat)≤4:=by rw [Q7];have:=N8 (x:=c.grams+c.drift*(day - c.since)) (by omega) (by omega);omega
 omega
theorem b2w (c:G4) (reading day:Int) (h:H4 c day=true):b9 Tryz.prog 192 [at5 c,a9 .i64 reading,a9 .i64 day] []
 (.tup [frS (if btw reading 0 1099511627776 then fz (a1a c reading day) else E7),f7 (btw reading 0 1099511627776)]) []:=by
 have cv:=as8 c day
 have wi:=a36 reading 1099511627776
 rw [h] at cv
 have hc:=a2f h
 cases hr:btw reading 0 1099511627776 with
 |false=>
  rw [hr] at wi
  (refine a8 a7 Tryz.func192 rfl (by decide) ?_;(conv=>whnf);repeat (refine zy ?_;conv=>whnf))
  repeat' first|(refine zd ?_ ?_<;>intro h<;>first|exact zc h|(exfalso;omega)|conv=>whnf)|((first|refine zz ?_|refine qp cv ?_|refine qp wi ?_|refine zy ?_);conv=>whnf)
  all_goals first
   |(exfalso;simp_all;done)
   |exact k8 ⟨⟨rfl,rfl,rfl,rfl,trivial⟩,rfl,trivial⟩
 |true=>
  rw [hr] at wi
  obtain ⟨p0,p1,d0,d1⟩:=b1L.of h hr
  rw [S4] at hr
  have fo:=b7f (c.permille*reading) 1000 (by decide) (by omega) (by omega) (by decide) (by decide)
  have fi:=G9 (c.grams+c.drift*(day - c.since)) (by omega) (by omega)
  have h2:rl (Rat.divInt (c.permille*reading) 1000)≤4:=Nat.le_trans (Z2 (by decide)) (by have:=N8 (x:=c.permille*reading) (by omega) (by omega);have:=N8 (x:=1000) (by decide) (by decide);omega)
  have h3:rl ((c.grams+c.drift*(day - c.since):Int):Rat)≤4:=by rw [Q7];have:=N8 (x:=c.grams+c.drift*(day - c.since)) (by omega) (by omega);omega
  have ad:=a2P (Rat.divInt (c.permille*reading) 1000) ((c.grams+c.drift*(day - c.since):Int):Rat) (by omega) (by omega)
  (refine a8 a7 Tryz.func192 rfl (by decide) ?_;(conv=>whnf);repeat (refine zy ?_;conv=>whnf))
  repeat' first|(refine zd ?_ ?_<;>intro h<;>first|exact zc h|(exfalso;omega)|conv=>whnf)|((first|refine zz ?_|refine qp cv ?_|refine qp wi ?_|refine qp fo ?_|refine qp fi ?_|refine qp ad ?_|refine qp 7 ?_|refine qp 15 ?_|refine bl0 [7] ?_|refine bl0 [15] ?_|refine zy ?_);conv=>whnf)
  all_goals first
   |(exfalso;simp_all;done)
   |exact b0u rfl rfl
abbrev ivL (o:Option (Rat × Rat)):List S:=match o with
 |some (lo,hi)=>[frS (fz lo),frS (fz hi),f7 true]
 |none=>[frS E7,frS E7,f7 false]
theorem b3H {x y:Rat} {n:Nat} (h1:rl x≤n) (h2:rl y≤n):rl (ao1 x y)≤n:=by unfold ao1;split<;>assumption
theorem ay2 {cs:List G4} {rs:List z6} {scale reading day:Int} {lo hi:Rat} (h:L1 cs rs scale reading day=some (lo,hi)):rl lo≤20∧rl hi≤20:=by
 unfold L1 at h
 split at h
 ·cases h
 ·rename_i i hi
  obtain ⟨hb,c,hc,_,hcv⟩:=L7 hi
  have e:a1x cs i=c:=by unfold a1x;rw [hc];rfl
  rw [e] at h
  split at h
  ·cases h
  ·split at h
   ·rename_i hr
    injection h with h
    injection h with h1 h2
    have l1:=aH9 hcv hr
    rw [S4] at hr
    have l2:rl (reading:Rat)≤4:=by rw [Q7];have:=N8 (x:=reading) (by omega) (by omega);omega
    have l3:=Y0 (reading:Rat) (a1a c reading day)
    have l4:=aq7 (reading:Rat) (a1a c reading day)
    refine ⟨?_,by rw [← h2];omega⟩
    rw [← h1]
    exact b3H (by omega) (by rw [a5a];omega)
   ·cases h
theorem aH5 (cs:List G4) (rs:List z6) (hl:cs.length≤1000000) (hl2:rs.length≤1000000) (scale reading day:Int):
 b9 Tryz.prog 116 [.c (.t (Y4 cs)),.c (.t (J3 rs)),a9 .i64 scale,a9 .i64 reading,a9 .i64 day] [] (.tup (ivL (L1 cs rs scale reading day))) []:=by
 have f:=b4K cs scale day hl
 have r:=aG4 rs hl2 scale day
 unfold L1
 cases hf:y8 cs scale day cs.length with
 |none=>
  rw [hf] at f
  (refine a8 a7 Tryz.func116 rfl (by decide) ?_;(conv=>whnf);repeat (refine zy ?_;conv=>whnf))
  repeat' first|(refine zd ?_ ?_<;>intro h<;>first|exact zc h|(exfalso;omega)|conv=>whnf)|((first|refine zz ?_|refine qp f ?_|refine qp r ?_|refine qp 1 ?_|refine qp 6 ?_|refine bl0 [1] ?_|refine bl0 [6] ?_|refine zy ?_);conv=>whnf)
  all_goals first
   |(exfalso;simp_all;done)
   |exact k8 ⟨⟨rfl,rfl,rfl,rfl,trivial⟩,⟨rfl,rfl,rfl,rfl,trivial⟩,rfl,trivial⟩
 |some i=>
  rw [hf] at f
  obtain ⟨hb,c,hc,_,hcv⟩:=L7 hf
  have e:a1x cs i=c:=by unfold a1x;rw [hc];rfl
  have er:=b2w c reading day hcv
  simp only [e]
  cases hrec:a11 rs scale day with
  |true=>
   rw [hrec] at r
   (refine a8 a7 Tryz.func116 rfl (by decide) ?_;(conv=>whnf);repeat (refine zy ?_;conv=>whnf))
   repeat' first|(refine zd ?_ ?_<;>intro h<;>first|exact zc h|(exfalso;omega)|conv=>whnf)|((first|refine zz ?_|refine qp f ?_|refine qp r ?_|refine qp 1 ?_|refine qp 6 ?_|refine bl0 [1] ?_|refine bl0 [6] ?_|refine zy ?_);conv=>whnf)
   all_goals first
    |(exfalso;simp_all;done)
    |exact k8 ⟨⟨rfl,rfl,rfl,rfl,trivial⟩,⟨rfl,rfl,rfl,rfl,trivial⟩,rfl,trivial⟩
  |false=>
   rw [hrec] at r
   cases hr:btw reading 0 1099511627776 with
   |false=>
    rw [hr] at er
    (refine a8 a7 Tryz.func116 rfl (by decide) ?_;(conv=>whnf);repeat (refine zy ?_;conv=>whnf))
    repeat' first|(refine zd ?_ ?_<;>intro h<;>first|exact zc h|(exfalso;omega)|conv=>whnf)|((first|refine zz ?_|refine qp f ?_|refine qp r ?_|refine qp er ?_|refine qp 1 ?_|refine qp 9 ?_|refine d9 hc ?_|refine bl0 [1] ?_|refine bl0 [9] ?_|refine zy ?_);conv=>whnf)
    all_goals first
     |exact k8 ⟨⟨rfl,rfl,rfl,rfl,trivial⟩,⟨rfl,rfl,rfl,rfl,trivial⟩,rfl,trivial⟩
     |(exfalso;simp_all;done)
   |true=>
    have l1:=aH9 hcv hr
    rw [hr] at er
    rw [S4] at hr
    have l2:rl (reading:Rat)≤4:=by rw [Q7];have:=N8 (x:=reading) (by omega) (by omega);omega
    have fi:=G9 reading (by omega) (by omega)
    have f0:=G9 0 (by omega) (by omega)
    have sb:=aK6 (reading:Rat) (a1a c reading day) (by omega) (by omega)
    have ad:=a2P (reading:Rat) (a1a c reading day) (by omega) (by omega)
    have l4:=aq7 (reading:Rat) (a1a c reading day)
    have mx:=b4s ((reading:Rat) - a1a c reading day) ((0:Int):Rat) (by omega) (by rw [a5a];omega)
    (refine a8 a7 Tryz.func116 rfl (by decide) ?_;(conv=>whnf);repeat (refine zy ?_;conv=>whnf))
    repeat' first|(refine zd ?_ ?_<;>intro h<;>first|exact zc h|(exfalso;omega)|conv=>whnf)|((first|refine zz ?_|refine qp f ?_|refine qp r ?_|refine qp er ?_|refine qp fi ?_|refine qp f0 ?_|refine qp sb ?_|refine qp ad ?_|refine qp mx ?_|refine qp 1 ?_|refine qp 9 ?_|refine qp 5 ?_|refine d9 hc ?_|refine bl0 [1] ?_|refine bl0 [9] ?_|refine bl0 [5] ?_|refine zy ?_);conv=>whnf)
    all_goals first
     |exact k8 ⟨⟨rfl,rfl,rfl,rfl,trivial⟩,⟨rfl,rfl,rfl,rfl,trivial⟩,rfl,trivial⟩
     |(exfalso;simp_all;done)
end
section
open Go.RowKit
def m6 (f:Fr):List T:=[ti f.p.sg,J0 f.p.dl,ti f.q.sg,J0 f.q.dl]
abbrev T7 (l:List Fr):T:=.sl 4 .any (l.map m6)
abbrev p8 (l:List Fr):S:=.c (.t (T7 l))
structure aI8 (n:Nat) (h:List (List Fr)):Prop where
 l1:h.length≤1000000
 l2:∀l ∈ h,l.length≤1000000
 l3:∀l ∈ h,∀f ∈ l,f.p.dl.length≤n∧f.q.dl.length≤n
theorem a12 (l:List Rat) {k:Nat} {x:Rat} (h:l[k]? =some x):(l.map fz)[k]? =some (fz x):=by rw [List.getElem?_map,h];rfl
theorem aQ1 {f f':Fr} {H1:Hp} (h:f=f'):Fin 0 (frS f) H1 (frS f') []:=by subst h;exact k8 ⟨rfl,rfl,rfl,rfl,trivial⟩
abbrev frB (f:Fr):Blk:={ mode:=.live,elem:=83,size:=4,rows:=[frC f],box:=true }
theorem L6 (f:Fr):G8 [frC f]:=by
 intro r hr c hc
 simp at hr
 subst hr
 simp [frC] at hc
 rcases hc with rfl|rfl|rfl|rfl<;>rfl
theorem aS8 {x:Rat}:sgR x<0↔x<0:=by unfold sgR;split<;>(try split)<;>simp_all
theorem aO6 {x y:Rat}:Y7 x y≤0↔x≤y:=by
 unfold Y7
 split
 ·simp;grind
 ·split
  ·simp;grind
  ·simp;grind
theorem a55 {x y:Rat}:Y7 x y > 0↔y<x:=by
 have:=aO6 (x:=x) (y:=y)
 constructor
 ·intro h;have h2:¬x≤y:=fun h'=>by have:=this.2 h';omega
  grind
 ·intro h;have h2:¬Y7 x y≤0:=fun h'=>by have:=this.1 h';grind
  omega
end
section
structure bg1 (e:Ev) (x:n6) (l:List Rat) (f:Nat→Nat→Rat) (i:Nat):Prop where
 pos:∀v ∈ l,¬v<0
 tak:b5e e f x l=0
 wei:b23 e x (b6h l)=true
 pur:b7B e.purities i l (b6h l)=true
end
section
def g7 (f:Nat→Rat):Nat→Rat
 |0=>((0:Int):Rat)
 |n+1=>g7 f n+f n
theorem O4:((0:Int):Rat)=0:=rfl
theorem g4 {f g:Nat→Rat}:∀{n:Nat},(∀ m,m<n→f m=g m)→g7 f n=g7 g n
 |0,_=>rfl
 |n+1,h=>by simp only [g7];rw [g4 fun m hm=>h m (by omega),h n (by omega)]
theorem a5v (f:Nat→Rat) (v:Rat) (d:Nat):∀n,g7 (fun p=>if p=d then f p+v else f p) n=g7 f n+(if d<n then v else 0)
 |0=>by simp only [g7,O4];rw [if_neg (by omega)];grind
 |n+1=>by
  simp only [g7]
  rw [a5v f v d n]
  rcases Nat.lt_trichotomy d n with h|h|h
  ·rw [if_pos h,if_neg (by omega),if_pos (by omega)];grind
  ·subst h;rw [if_neg (by omega),if_pos rfl,if_pos (by omega)];grind
  ·rw [if_neg (by omega),if_neg (by omega),if_neg (by omega)];grind
theorem aV6 (f:Nat→Rat) (v:Rat) {s d n:Nat} (hs:s<n) (hd:d<n) (hsd:s≠d):g7 (fun p=>if p=s then f p - v else if p=d then f p+v else f p) n=g7 f n:=by
 have e:∀m,m<n→(if m=s then f m - v else if m=d then f m+v else f m)=(if m=s then (if m=d then f m+v else f m)+-v else (if m=d then f m+v else f m)):=fun m _=>by
  by_cases h:m=s
  ·subst h;rw [if_pos rfl,if_pos rfl,if_neg hsd];grind
  ·rw [if_neg h,if_neg h]
 rw [g4 e,a5v (fun p=>if p=d then f p+v else f p) (-v) s n,a5v f v d n,if_pos hs,if_pos hd]
 grind
end
section
theorem getD_some {l:List Rat} {m:Nat} (h:m<l.length):l[m]? =some (l.getD m 0):=by rw [lg3,lg0 h];rfl
end
section
theorem a23 {α:Type} {p:Nat→α→Bool} {l:List α}:∀{k:Nat} {x:Int},x ∈ q9 p k l↔∃i m,l[i]? =some m∧p (k+i) m=true∧x=((k+i:Nat):Int):=by
 induction l with
 |nil=>intro k x;simp [q9]
 |cons a r ih=>
  intro k x
  have step:x ∈ q9 p (k+1) r↔∃i m,(a::r)[i+1]? =some m∧p (k+(i+1)) m=true∧x=((k+(i+1):Nat):Int):=by
   rw [ih]
   constructor
   ·rintro ⟨i,m,h1,h2,h3⟩
    exact ⟨i,m,by simpa using h1,by rw [show k+(i+1)=k+1+i from by omega];exact h2,by rw [h3];omega⟩
   ·rintro ⟨i,m,h1,h2,h3⟩
    exact ⟨i,m,by simpa using h1,by rw [show k+1+i=k+(i+1) from by omega];exact h2,by rw [h3];omega⟩
  unfold q9
  by_cases hp:p k a=true
  ·rw [if_pos hp,List.mem_cons,step]
   constructor
   ·rintro (rfl|⟨i,m,h⟩)
    ·exact ⟨0,a,rfl,hp,rfl⟩
    ·exact ⟨i+1,m,h⟩
   ·rintro ⟨i,m,h1,h2,h3⟩
    cases i with
    |zero=>left;simpa using h3
    |succ i=>right;exact ⟨i,m,h1,h2,h3⟩
  ·rw [if_neg hp,step]
   constructor
   ·rintro ⟨i,m,h⟩
    exact ⟨i+1,m,h⟩
   ·rintro ⟨i,m,h1,h2,h3⟩
    cases i with
    |zero=>simp at h1;subst h1;exact absurd h2 hp
    |succ i=>exact ⟨i,m,h1,h2,h3⟩
theorem a7u {α:Type} (p:Nat→α→Bool) (l:List α):∀k,(q9 p k l).Pairwise (·<·):=by
 induction l with
 |nil=>intro k;simp [q9]
 |cons a r ih=>
  intro k
  unfold q9
  split
  ·rw [List.pairwise_cons]
   refine ⟨fun x hx=>?_,ih (k+1)⟩
   obtain ⟨i,m,_,_,rfl⟩:=a23.1 hx
   omega
  ·exact ih (k+1)
def Asc (l:List Int) (n:Int):Prop:=(∀ (i:Nat) (x:Int),l[i]? =some x→0≤x∧x<n)∧∀(i:Nat) (x y:Int),l[i]? =some x→l[i+1]? =some y→x<y
theorem Asc.of_sorted {l:List Int} {n:Int} (h1:l.Pairwise (·<·)) (h2:∀x ∈ l,0≤x∧x<n):Asc l n:=by
 refine ⟨fun i x hx=>h2 x (lg2 hx),fun i x y hx hy=>?_⟩
 obtain ⟨hi,rfl⟩:=lg1 hx
 obtain ⟨hj,rfl⟩:=lg1 hy
 exact List.pairwise_iff_getElem.1 h1 i (i+1) hi hj (by omega)
theorem an4 {α:Type} (p:Nat→α→Bool) (l:List α):Asc (q9 p 0 l) l.length:=by
 refine Asc.of_sorted (a7u p l 0) (fun x hx=>?_)
 obtain ⟨i,m,hm,_,rfl⟩:=a23.1 hx
 have:=(lg1 hm).1
 omega
theorem b2E (n:Int):Asc [] n:=⟨fun i x h=>by simp at h,fun i x y h=>by simp at h⟩
theorem ae4 (e:Ev) (hh mat lo hi:Int):Asc (y0 e hh mat lo hi) e.moves.length:=by
 unfold y0;split
 ·exact an4 _ _
 ·exact b2E _
end
section
theorem a8x {e:Ev} {m:n6} (h:F5 e m=true):t7 e m.dst≠0:=by
 simp [F5] at h;exact h.1.2
def Cnt (l:List n6) (d:n6→Int) (up:Int) (p:Nat) (S:List Int) (L:List Int):Prop:=
 L.length=l.length∧∀(j:Nat) (m:n6),l[j]? =some m→L[j]? =some (if (j:Int) ∈ S∨((j:Int)<up∧d m<(p:Int)) then 1 else 0)
theorem Cnt.zero {l:List n6} {d:n6→Int} {up:Int} (hd:∀m ∈ l,0≤d m):Cnt l d up 0 [] (List.replicate l.length 0):=by
 refine ⟨by simp,fun j m hm=>?_⟩
 have hl:=(lg1 hm).1
 have:=hd m (lg2 hm)
 rw [if_neg (by simp;omega)]
 simp [List.getElem?_replicate,hl]
theorem Cnt.step {l:List n6} {d:n6→Int} {up:Int} {p:Nat} {a L:List Int} {i j:Nat} {m:n6} (h:Cnt l d up p (a.take i) L) (hs:a.Pairwise (·<·)) (hx:a[i]? =some (j:Int)) (hm:l[j]? =some m) (hdm:d m=(p:Int)):
 L[j]? =some 0∧Cnt l d up p (a.take (i+1)) (L.set j 1):=by
 obtain ⟨hi,hxi⟩:=lg1 hx
 have hnot:(j:Int) ∉ a.take i:=by
  intro hmem
  obtain ⟨k,hk,e⟩:=List.getElem_of_mem hmem
  have hk':k<i:=by simp at hk;omega
  rw [List.getElem_take] at e
  have:=List.pairwise_iff_getElem.1 hs k i (by omega) hi hk'
  omega
 refine ⟨?_,by simpa using h.1,fun j' m' hm'=>?_⟩
 ·rw [h.2 j m hm,if_neg]
  rintro (h1|⟨_,h2⟩)
  ·exact hnot h1
  ·omega
 ·have hmem:(j':Int) ∈ a.take (i+1)↔(j':Int) ∈ a.take i∨j'=j:=by
   rw [List.take_succ_eq_append_getElem hi,List.mem_append,hxi,List.mem_singleton]
   constructor
   ·rintro (h1|h1)
    ·exact .inl h1
    ·exact .inr (by omega)
   ·rintro (h1|h1)
    ·exact .inl h1
    ·exact .inr (by omega)
  by_cases hj:j'=j
  ·subst hj
   rw [List.getElem?_set_self (by rw [h.1];exact (lg1 hm').1),if_pos (.inl (hmem.2 (.inr rfl)))]
  ·rw [List.getElem?_set_ne (by omega),h.2 j' m' hm']
   have:(j':Int) ∈ a.take (i+1)↔(j':Int) ∈ a.take i:=by rw [hmem];simp [hj]
   simp only [this]
theorem Cnt.next {l:List n6} {d:n6→Int} {up:Int} {p:Nat} {a L:List Int} (h:Cnt l d up p a L) (ha:∀(j:Nat) (m:n6),l[j]? =some m→((j:Int) ∈ a↔(j:Int)<up∧d m=(p:Int))):Cnt l d up (p+1) [] L:=by
 refine ⟨h.1,fun j m hm=>?_⟩
 rw [h.2 j m hm]
 have hj:=ha j m hm
 have hiff:((j:Int) ∈ a∨((j:Int)<up∧d m<(p:Int)))↔((j:Int) ∈ ([]:List Int)∨((j:Int)<up∧d m<((p+1:Nat):Int))):=by
  rw [hj]
  constructor
  ·rintro (h1|h1)
   ·exact .inr ⟨h1.1,by omega⟩
   ·exact .inr ⟨h1.1,by omega⟩
  ·rintro (h1|h1)
   ·cases h1
   ·by_cases h2:d m=(p:Int)
    ·exact .inl ⟨h1.1,h2⟩
    ·exact .inr ⟨h1.1,by omega⟩
 by_cases h:(j:Int) ∈ a∨((j:Int)<up∧d m<(p:Int))
 ·rw [if_pos h,if_pos (hiff.1 h)]
 ·rw [if_neg h,if_neg (fun h'=>h (hiff.2 h'))]
theorem Cnt.last {l:List n6} {d:n6→Int} {up:Int} {p:Nat} {L:List Int} (h:Cnt l d up p [] L) (hd:∀m ∈ l,d m<(p:Int)) {j:Nat} {m:n6} (hm:l[j]? =some m):L[j]? =some (if (j:Int)<up then 1 else 0):=by
 rw [h.2 j m hm]
 have:=hd m (lg2 hm)
 congr 1
 by_cases h1:(j:Int)<up
 ·rw [if_pos (.inr ⟨h1,this⟩),if_pos h1]
 ·rw [if_neg (by simp;omega),if_neg h1]
end
section
theorem a5V {e:Ev} {G:List (List Rat)} {k:Nat} {x:n6} (hx:e.moves[k]? =some x):stk e G (k+1)=a6u x (hAt G k) (stk e G k):=by
 conv=>lhs;unfold stk
 rw [hx]
theorem a7U {e:Ev} {G:List (List Rat)} {k:Nat} (hx:e.moves[k]? =none):stk e G (k+1)=stk e G k:=by
 conv=>lhs;unfold stk
 rw [hx]
end
section
theorem aF0 {e:Ev} {x:n6} (h:F5 e x=true) (ha:x.all=true):t7 e x.src≠0:=by
 unfold F5 at h
 simp only [Bool.and_eq_true,decide_eq_true_eq] at h
 have:=h.1.1.2
 rw [ha] at this
 simpa using this
end
section
def D7 (e:Ev) (x:n6):Option (Rat × Rat):=if x.scale=-1 then none else L1 e.certs e.recalls x.scale x.reading x.day
end
section
structure H9 where
 mv:Int
 kind:Int
 grams:Int
structure B8 where
 mv:Int
 kind:Int
structure g9 where
 ev:Ev
 finds:List H9
 cleans:List B8
def a0h (e:Ev) (mv kind:Int):Int:=if mv<0∨(e.moves.length:Int)≤mv then 4 else if kind<0∨8≤kind then 1 else 0
def I7 (e:Ev):List H9→Int
 |[]=>0
 |f::r=>if a0h e f.mv f.kind≠0 then a0h e f.mv f.kind else if f.grams<1∨1099511627776<f.grams then 3 else I7 e r
def K5 (e:Ev):List B8→Int
 |[]=>0
 |c::r=>if a0h e c.mv c.kind≠0 then a0h e c.mv c.kind else K5 e r
def m8 (t:g9):Int:=
 if y5 t.ev≠0 then y5 t.ev else if 20<t.finds.length∨50<t.cleans.length then 6
 else if I7 t.ev t.finds≠0 then I7 t.ev t.finds else K5 t.ev t.cleans
def i6 (l:List H9) (kind:Int) (i:Nat):List Int:=(l.filter fun f=>decide (f.kind=kind) && decide (f.mv=(i:Int))).map (·.grams)
def j9 (l:List B8) (kind:Int) (i:Nat):Nat:=(l.filter fun c=>decide (c.kind=kind) && decide (c.mv=(i:Int))).length
def col (z:List Rat):List (List Rat):=z.map fun v=>[v]
theorem a7F (z:List Rat) (k:Nat):hAt (col z) k 0=z.getD k 0:=by
 unfold hAt col
 cases h:z[k]?<;>simp [lg3,h]
def B3 (e:Ev) (z:List Rat) (k p:Nat):Rat:=stk e (col z) k p 0
def a8Q (iv:Option (Rat × Rat)) (v:Rat):Bool:=match iv with
 |none=>true
 |some (_,hi)=>decide (v≤hi)
def Z8 (t:g9) (kind:Int) (i:Nat) (x:n6) (v:Rat):Int:=
 if a8Q (D7 t.ev x) v=false then 20 else if (i6 t.finds kind i).any (fun g=>decide (v<(g:Rat))) then 24
 else if 0<j9 t.cleans kind i∧v≠0 then 13 else 0
def ae7 (e:Ev) (x:n6) (v f:Rat):Int:=if v<0 then 3 else if t7 e x.src≠0∧f<v then 4 else if x.all=true∧v≠f then 7 else 0
def X8 (t:g9) (kind:Int) (i:Nat) (x:n6) (v f:Rat):Int:=if ae7 t.ev x v f≠0 then ae7 t.ev x v f else Z8 t kind i x v
def tAt (t:g9) (kind:Int) (z:List Rat) (i:Nat) (x:n6):Int:=X8 t kind i x (z.getD i 0) (B3 t.ev z i x.src.toNat)
def S7 (t:g9) (kind:Int) (z:List Rat):Nat→List n6→Int
 |_,[]=>0
 |k,x::r=>if tAt t kind z k x≠0 then tAt t kind z k x else S7 t kind z (k+1) r
def Q4 (t:g9) (kind:Int) (z:List Fr):Int:=
 if m8 t≠0∨kind<0∨8≤kind then 1 else if z.length≠t.ev.moves.length then 2
 else if z.all D2 then S7 t kind (z.map fv) 0 t.ev.moves else 2
theorem a2e {t:g9} {kind:Int} {z:List Rat}:∀{ms:List n6} {k:Nat},S7 t kind z k ms=0↔∀j x,ms[j]? =some x→tAt t kind z (k+j) x=0
 |[],k=>by simp [S7]
 |y::r,k=>by
  unfold S7
  constructor
  ·intro h j x hx
   by_cases h0:tAt t kind z k y=0
   ·rw [if_neg (by simpa using h0)] at h
    cases j with
    |zero=>simp at hx;subst hx;exact h0
    |succ j=>rw [show k+(j+1)=k+1+j by omega];exact a2e.1 h j x (by simpa using hx)
   ·rw [if_pos h0] at h;exact absurd h h0
  ·intro h
   have h0:=h 0 y rfl
   rw [if_neg (by simpa using h0)]
   exact a2e.2 fun j x hx=>by rw [show k+1+j=k+(j+1) by omega];exact h (j+1) x (by simpa using hx)
structure b1l (e:Ev) (x:n6) (v f:Rat):Prop where
 pos:0≤v
 most:t7 e x.src≠0→v≤f
 all:x.all=true→v=f
theorem a8u {e:Ev} {x:n6} {v f:Rat}:ae7 e x v f=0↔b1l e x v f:=by
 unfold ae7
 by_cases h1:v<0
 ·rw [if_pos h1];exact ⟨fun h=>(by cases h),fun h=>absurd h.pos (by grind)⟩
 ·rw [if_neg h1]
  by_cases h2:t7 e x.src≠0∧f<v
  ·rw [if_pos h2];exact ⟨fun h=>(by cases h),fun h=>absurd (h.most h2.1) (by grind)⟩
  ·rw [if_neg h2]
   by_cases h3:x.all=true∧v≠f
   ·rw [if_pos h3];exact ⟨fun h=>(by cases h),fun h=>absurd (h.all h3.1) h3.2⟩
   ·rw [if_neg h3]
    refine ⟨fun _=>⟨Rat.not_lt.1 h1,fun h=>Rat.not_lt.1 fun h'=>h2 ⟨h,h'⟩,fun h=>?_⟩,fun _=>rfl⟩
    by_cases h4:v=f
    ·exact h4
    ·exact absurd ⟨h,h4⟩ h3
structure al2 (t:g9) (kind:Int) (i:Nat) (x:n6) (v:Rat):Prop where
 cap:a8Q (D7 t.ev x) v=true
 fin:∀g ∈ i6 t.finds kind i,(g:Rat)≤v
 cln:0<j9 t.cleans kind i→v=0
theorem ap3 {t:g9} {kind:Int} {i:Nat} {x:n6} {v:Rat}:Z8 t kind i x v=0↔al2 t kind i x v:=by
 unfold Z8
 by_cases h1:a8Q (D7 t.ev x) v=false
 ·rw [if_pos h1];exact ⟨fun h=>(by cases h),fun h=>(by rw [h.cap] at h1;cases h1)⟩
 ·rw [if_neg h1]
  by_cases h2:(i6 t.finds kind i).any (fun g=>decide (v<(g:Rat)))=true
  ·rw [if_pos h2]
   obtain ⟨g,hg,hv⟩:=List.any_eq_true.1 h2
   exact ⟨fun h=>(by cases h),fun h=>absurd (h.fin g hg) (by have:=of_decide_eq_true hv;grind)⟩
  ·rw [if_neg h2]
   by_cases h3:0<j9 t.cleans kind i∧v≠0
   ·rw [if_pos h3];exact ⟨fun h=>(by cases h),fun h=>absurd (h.cln h3.1) h3.2⟩
   ·rw [if_neg h3]
    refine ⟨fun _=>⟨by simpa using h1,fun g hg=>Rat.not_lt.1 fun h'=>h2 (List.any_eq_true.2 ⟨g,hg,decide_eq_true h'⟩),fun h=>?_⟩,fun _=>rfl⟩
    by_cases h4:v=0
    ·exact h4
    ·exact absurd ⟨h,h4⟩ h3
theorem a7e {t:g9} {kind:Int} {i:Nat} {x:n6} {v f:Rat}:X8 t kind i x v f=0↔b1l t.ev x v f∧al2 t kind i x v:=by
 unfold X8
 by_cases h:ae7 t.ev x v f≠0
 ·rw [if_pos h];exact ⟨fun h'=>absurd h' h,fun h'=>absurd (a8u.2 h'.1) h⟩
 ·rw [if_neg h,ap3]
  exact ⟨fun h'=>⟨a8u.1 (by simpa using h),h'⟩,fun h'=>h'.2⟩
structure a2M (t:g9) (kind:Int) (z:List Rat):Prop where
 tr:m8 t=0
 k0:0≤kind
 k1:kind<8
 len:z.length=t.ev.moves.length
 step:∀i x,t.ev.moves[i]? =some x→b1l t.ev x (z.getD i 0) (B3 t.ev z i x.src.toNat)∧al2 t kind i x (z.getD i 0)
theorem ak9 (z:List Rat):(z.map fz).map fv=z:=by
 rw [List.map_map]
 conv=>rhs;rw [← List.map_id z]
 exact List.map_congr_left fun x _=>b7A x
theorem ax6 {t:g9} {kind:Int} {z:List Fr}:Q4 t kind z=0↔∃Z:List Rat,z=Z.map fz∧a2M t kind Z:=by
 unfold Q4
 by_cases h1:m8 t≠0∨kind<0∨8≤kind
 ·rw [if_pos h1]
  refine ⟨fun h=>(by cases h),fun ⟨Z,_,h⟩=>?_⟩
  have:=h.tr;have:=h.k0;have:=h.k1
  omega
 rw [if_neg h1]
 by_cases h2:z.length≠t.ev.moves.length
 ·rw [if_pos h2]
  refine ⟨fun h=>(by cases h),fun ⟨Z,hz,h⟩=>?_⟩
  subst hz
  exact absurd (by rw [List.length_map];exact h.len) h2
 rw [if_neg h2]
 by_cases h3:z.all D2=true
 ·rw [if_pos h3]
  obtain ⟨Z,rfl⟩:=a9p h3
  rw [ak9,a2e]
  constructor
  ·intro h
   refine ⟨Z,rfl,by omega,by omega,by omega,by simpa using h2,fun i x hx=>?_⟩
   have:=h i x hx
   rw [Nat.zero_add] at this
   exact a7e.1 this
  ·rintro ⟨Y,hy,h⟩
   have e:Z=Y:=by rw [← ak9 Z,←ak9 Y,hy]
   subst e
   intro j x hx
   rw [Nat.zero_add]
   exact a7e.2 (h.step j x hx)
 ·rw [if_neg h3]
  refine ⟨fun h=>(by cases h),fun ⟨Z,hz,h⟩=>?_⟩
  subst hz
  exact absurd (List.all_eq_true.2 fun f hf=>by obtain ⟨x,_,rfl⟩:=List.mem_map.1 hf;exact a5H x) h3
theorem z4 {t:g9} (h:m8 t=0):y5 t.ev=0∧t.finds.length≤20∧t.cleans.length≤50∧I7 t.ev t.finds=0∧K5 t.ev t.cleans=0:=by
 unfold m8 at h
 by_cases h1:y5 t.ev≠0
 ·rw [if_pos h1] at h;exact absurd h h1
 rw [if_neg h1] at h
 by_cases h2:20<t.finds.length∨50<t.cleans.length
 ·rw [if_pos h2] at h;cases h
 rw [if_neg h2] at h
 by_cases h3:I7 t.ev t.finds≠0
 ·rw [if_pos h3] at h;exact absurd h h3
 rw [if_neg h3] at h
 exact ⟨by simpa using h1,by omega,by omega,by simpa using h3,h⟩
theorem aW0 {t:g9} (h1:y5 t.ev=0) (h2:t.finds.length≤20) (h3:t.cleans.length≤50) (h4:I7 t.ev t.finds=0) (h5:K5 t.ev t.cleans=0):m8 t=0:=by
 unfold m8
 rw [if_neg (by simp [h1]),if_neg (by omega),if_neg (by simp [h4]),h5]
theorem K2 {e:Ev}:∀{l:List H9},I7 e l=0→∀f ∈ l,0≤f.mv∧f.mv<e.moves.length∧0≤f.kind∧f.kind<8∧1≤f.grams∧f.grams≤1099511627776
 |[],_,f,hf=>by cases hf
 |g::r,h,f,hf=>by
  unfold I7 at h
  by_cases h1:a0h e g.mv g.kind≠0
  ·rw [if_pos h1] at h;exact absurd h h1
  rw [if_neg h1] at h
  by_cases h2:g.grams<1∨1099511627776<g.grams
  ·rw [if_pos h2] at h;cases h
  rw [if_neg h2] at h
  rcases List.mem_cons.1 hf with rfl|hf
  ·unfold a0h at h1
   by_cases h3:f.mv<0∨(e.moves.length:Int)≤f.mv
   ·rw [if_pos h3] at h1;exact absurd (by decide) h1
   rw [if_neg h3] at h1
   by_cases h4:f.kind<0∨8≤f.kind
   ·rw [if_pos h4] at h1;exact absurd (by decide) h1
   omega
  ·exact K2 h f hf
def b4j (t:g9) (f:H9):g9:={ t with finds:=t.finds++[f] }
def b4i (t:g9) (c:B8):g9:={ t with cleans:=t.cleans++[c] }
theorem a2A (l:List H9) (f:H9) (kind:Int) (i:Nat):i6 (l++[f]) kind i=i6 l kind i++(if f.kind=kind∧f.mv=(i:Int) then [f.grams] else []):=by
 unfold i6
 rw [List.filter_append,List.map_append]
 by_cases h:f.kind=kind∧f.mv=(i:Int)
 ·rw [if_pos h];simp [h.1,h.2]
 ·rw [if_neg h]
  have:(decide (f.kind=kind) && decide (f.mv=(i:Int)))=false:=by
   rw [← Bool.not_eq_true];simp only [Bool.and_eq_true,decide_eq_true_eq];exact h
  simp [this]
theorem R3 (l:List B8) (c:B8) (kind:Int) (i:Nat):j9 (l++[c]) kind i=j9 l kind i+(if c.kind=kind∧c.mv=(i:Int) then 1 else 0):=by
 unfold j9
 rw [List.filter_append,List.length_append]
 by_cases h:c.kind=kind∧c.mv=(i:Int)
 ·rw [if_pos h];simp [h.1,h.2]
 ·rw [if_neg h]
  have:(decide (c.kind=kind) && decide (c.mv=(i:Int)))=false:=by
   rw [← Bool.not_eq_true];simp only [Bool.and_eq_true,decide_eq_true_eq];exact h
  simp [this]
theorem aJ5 {t:g9} {f:H9} {kind:Int} {z:List Rat} (h0:m8 t=0) (h:a2M (b4j t f) kind z):a2M t kind z:=by
 refine ⟨h0,h.k0,h.k1,h.len,fun i x hx=>?_⟩
 obtain ⟨h1,h2⟩:=h.step i x hx
 refine ⟨h1,h2.cap,fun g hg=>h2.fin g ?_,h2.cln⟩
 show g ∈ i6 (t.finds++[f]) kind i
 rw [a2A];exact List.mem_append.2 (.inl hg)
theorem aE1 {t:g9} {c:B8} {kind:Int} {z:List Rat} (h0:m8 t=0) (h:a2M (b4i t c) kind z):a2M t kind z:=by
 refine ⟨h0,h.k0,h.k1,h.len,fun i x hx=>?_⟩
 obtain ⟨h1,h2⟩:=h.step i x hx
 refine ⟨h1,h2.cap,h2.fin,fun hg=>h2.cln ?_⟩
 show 0<j9 (t.cleans++[c]) kind i
 rw [R3];omega
end
section
theorem aO1 {e:Ev} {W A B:List (List Rat)} {a b:Rat} {m ma mb:Nat} (h:∀i,i<e.moves.length→hAt W i m=a*hAt A i ma+b*hAt B i mb):∀k p,stk e W k p m=a*stk e A k p ma+b*stk e B k p mb
 |0,p=>by simp only [stk,O4];grind
 |k+1,p=>by
  have ih:=aO1 h k p
  cases hx:e.moves[k]? with
  |none=>rw [a7U hx,a7U hx,a7U hx];exact ih
  |some x=>
   have hk:k<e.moves.length:=(lg1 hx).1
   rw [a5V hx,a5V hx,a5V hx]
   unfold a6u
   have hv:=h k hk
   split
   ·rw [ih,hv];grind
   ·split
    ·rw [ih,hv];grind
    ·exact ih
theorem b15 {e:Ev} {w y z:List Rat} {a b:Rat} (h:∀i,i<e.moves.length→w.getD i 0=a*z.getD i 0+b*y.getD i 0) (k p:Nat):B3 e w k p=a*B3 e z k p+b*B3 e y k p:=
 aO1 (fun i hi=>by rw [a7F,a7F,a7F];exact h i hi) k p
theorem aB4 {a b c:Rat} (h:a≤b) (hc:0≤c):c*a≤c*b:=by
 have:=Rat.mul_nonneg hc (show 0≤b - a by grind)
 grind
theorem aI5 {a c:Rat} (h:0≤a) (hc:c≤1):c*a≤a:=by
 have:=Rat.mul_nonneg (show 0≤1 - c by grind) h
 grind
def aP7 (t:g9):g9:={ t with finds:=[] }
theorem aU8 {t:g9} (h:m8 t=0):m8 (aP7 t)=0:=by
 obtain ⟨q1,q2,q3,q4,q5⟩:=z4 h
 exact aW0 q1 (by simp [aP7]) q3 rfl q5
theorem aX1 {t:g9} {kind:Int} {z w:List Rat} {s:Rat} (hz:a2M t kind z) (s0:0≤s) (s1:s≤1) (hl:w.length=z.length)
 (hw:∀i,i<t.ev.moves.length→w.getD i 0=s*z.getD i 0):a2M (aP7 t) kind w:=by
 have hw':∀i,i<t.ev.moves.length→w.getD i 0=s*z.getD i 0+0*z.getD i 0:=fun i hi=>by rw [hw i hi];grind
 refine ⟨aU8 hz.tr,hz.k0,hz.k1,by rw [hl];exact hz.len,fun i x hx=>?_⟩
 obtain ⟨a1,a2⟩:=hz.step i x hx
 have hi:i<t.ev.moves.length:=(lg1 hx).1
 have hs:B3 (aP7 t).ev w i x.src.toNat=s*B3 t.ev z i x.src.toNat:=by
  show B3 t.ev w i x.src.toNat=_
  rw [b15 hw'];grind
 rw [hw i hi,hs]
 refine ⟨⟨Rat.mul_nonneg s0 a1.pos,fun hk=>aB4 (a1.most hk) s0,fun ha=>by rw [a1.all ha]⟩,?_,fun g hg=>(by cases hg),fun hc=>?_⟩
 ·have c1:=a2.cap
  show a8Q (D7 t.ev x) _=true
  cases hiv:D7 t.ev x with
  |none=>rfl
  |some p=>
   obtain ⟨lo,hi'⟩:=p
   rw [hiv] at c1
   simp only [a8Q,decide_eq_true_eq] at *
   have h1:=aI5 a1.pos s1
   grind
 ·rw [a2.cln hc];grind
def a0I (e:Ev) (z:List Rat) (j:Nat):Rat:=match e.moves[j]? with
 |none=>0
 |some x=>if t7 e x.src=0 then z.getD j 0 else 0
theorem a1S {e:Ev} {z:List Rat} {k:Nat} {x:n6} (hx:e.moves[k]? =some x) (p:Nat):B3 e z (k+1) p=if x.src=(p:Int) then B3 e z k p - z.getD k 0 else if x.dst=(p:Int) then B3 e z k p+z.getD k 0 else B3 e z k p:=by
 unfold B3
 rw [a5V hx]
 unfold a6u
 rw [a7F]
theorem a8q {e:Ev} {z:List Rat} {k:Nat} (hx:e.moves[k]? =none) (p:Nat):B3 e z (k+1) p=B3 e z k p:=by
 unfold B3
 rw [a7U hx]
def X3 (e:Ev) (z:List Rat) (k p:Nat):Rat:=if t7 e p=0 then 0 else B3 e z k p
theorem ay1 {t:g9} {kind:Int} {z:List Rat} (h:a2M t kind z):∀k p:Nat,t7 t.ev p≠0→0≤B3 t.ev z k p
 |0,p,_=>Rat.le_refl
 |k+1,p,hp=>by
  have ih:=ay1 h k p hp
  cases hx:t.ev.moves[k]? with
  |none=>rw [a8q hx];exact ih
  |some x=>
   obtain ⟨h1,_⟩:=h.step k x hx
   have hz:=h1.pos
   rw [a1S hx]
   split
   ·rename_i hs
    have:=h1.most (by rw [hs];exact hp)
    rw [hs,show ((p:Int)).toNat=p by omega] at this
    grind
   ·split
    ·grind
    ·exact ih
theorem av9 {t:g9} {kind:Int} {z:List Rat} (h:a2M t kind z):∀k,g7 (X3 t.ev z k) t.ev.places.length=g7 (a0I t.ev z) k
 |0=>by
  have:∀n,g7 (X3 t.ev z 0) n=0:=fun n=>by
   induction n with
   |zero=>rfl
   |succ n ih=>
    simp only [g7];rw [ih]
    have:X3 t.ev z 0 n=0:=by unfold X3;split<;>rfl
    rw [this];grind
  exact this _
 |k+1=>by
  have ih:=av9 h k
  have h0:=(z4 h.tr).1
  simp only [g7]
  rw [← ih]
  cases hx:t.ev.moves[k]? with
  |none=>
   have e1:a0I t.ev z k=0:=by unfold a0I;rw [hx]
   rw [e1]
   have:X3 t.ev z (k+1)=X3 t.ev z k:=by funext p;unfold X3;rw [a8q hx]
   rw [this];grind
  |some x=>
   have hm:=F6 h0 (lg2 hx)
   have ms:=M3 hm
   have md:=a8O hm
   have hd:=a8x hm
   have hne:x.src≠x.dst:=by unfold F5 at hm;simp only [Bool.and_eq_true,decide_eq_true_eq] at hm;exact hm.1.1.1.1.1.2
   by_cases hb:t7 t.ev x.src=0
   ·have e1:a0I t.ev z k=z.getD k 0:=by unfold a0I;rw [hx];simp [hb]
    rw [e1]
    have:=a5v (X3 t.ev z k) (z.getD k 0) x.dst.toNat t.ev.places.length
    rw [if_pos (by omega)] at this
    rw [← this]
    refine g4 fun p _=>?_
    unfold X3
    rw [a1S hx]
    by_cases c2:p=x.dst.toNat
    ·have:x.dst=(p:Int):=by omega
     have hk:t7 t.ev (p:Int)≠0:=by rw [← this];exact hd
     rw [if_pos c2]
     simp only [if_neg hk]
     rw [if_neg (show ¬x.src=(p:Int) by omega),if_pos this]
    ·rw [if_neg c2]
     by_cases c1:x.src=(p:Int)
     ·simp only [← c1,if_pos hb]
     ·rw [if_neg c1,if_neg (show ¬x.dst=(p:Int) by omega)]
   ·have e1:a0I t.ev z k=0:=by unfold a0I;rw [hx];simp [hb]
    rw [e1]
    have:=aV6 (X3 t.ev z k) (z.getD k 0) (s:=x.src.toNat) (d:=x.dst.toNat) (n:=t.ev.places.length) (by omega) (by omega) (by omega)
    rw [show g7 (X3 t.ev z k) t.ev.places.length+0=g7 (X3 t.ev z k) t.ev.places.length by grind,←this]
    refine g4 fun p _=>?_
    unfold X3
    rw [a1S hx]
    by_cases c1:p=x.src.toNat
    ·have:x.src=(p:Int):=by omega
     have hk:t7 t.ev (p:Int)≠0:=by rw [← this];exact hb
     rw [if_pos c1,if_pos this]
     simp only [if_neg hk]
    ·rw [if_neg c1,if_neg (c:=x.src=(p:Int)) (by omega)]
     by_cases c2:p=x.dst.toNat
     ·have:x.dst=(p:Int):=by omega
      have hk:t7 t.ev (p:Int)≠0:=by rw [← this];exact hd
      rw [if_pos c2,if_pos this]
      simp only [if_neg hk]
     ·rw [if_neg c2,if_neg (c:=x.dst=(p:Int)) (by omega)]
theorem a5i {f:Nat→Rat}:∀{n:Nat},(∀ p,p<n→0≤f p)→0≤g7 f n
 |0,_=>Rat.le_refl
 |n+1,h=>by
  have h1:=a5i (n:=n) fun p hp=>h p (by omega)
  have h2:=h n (by omega)
  simp only [g7];grind
theorem a9w {f:Nat→Rat}:∀{n p:Nat},(∀ p,p<n→0≤f p)→p<n→f p≤g7 f n
 |n+1,p,h,hp=>by
  simp only [g7]
  rcases Nat.lt_or_ge p n with hpn|hpn
  ·have h1:=a9w (f:=f) (n:=n) (p:=p) (fun q hq=>h q (by omega)) hpn
   have h2:=h n (by omega)
   grind
  ·obtain rfl:p=n:=by omega
   have h1:=a5i (f:=f) (n:=p) fun q hq=>h q (by omega)
   grind
theorem ax2 {t:g9} {kind:Int} {z:List Rat} (h:a2M t kind z) (j:Nat):0≤a0I t.ev z j:=by
 unfold a0I
 cases hx:t.ev.moves[j]? with
 |none=>exact Rat.le_refl
 |some x=>
  simp only
  split
  ·exact (h.step j x hx).1.pos
  ·exact Rat.le_refl
theorem b42 {t:g9} {kind:Int} {z:List Rat} (h:a2M t kind z) {i:Nat} {x:n6} (hx:t.ev.moves[i]? =some x):z.getD i 0≤g7 (a0I t.ev z) (i+1):=by
 have h0:=(z4 h.tr).1
 have hm:=F6 h0 (lg2 hx)
 have ms:=M3 hm
 by_cases hb:t7 t.ev x.src=0
 ·have e1:a0I t.ev z i=z.getD i 0:=by unfold a0I;rw [hx];simp [hb]
  rw [← e1]
  exact a9w (fun q _=>ax2 h q) (by omega)
 ·have h1:=(h.step i x hx).1.most hb
  have hk:t7 t.ev ((x.src.toNat:Nat):Int)≠0:=by rw [show ((x.src.toNat:Nat):Int)=x.src by omega];exact hb
  have h2:X3 t.ev z i x.src.toNat=B3 t.ev z i x.src.toNat:=by unfold X3;rw [if_neg hk]
  have h3:X3 t.ev z i x.src.toNat≤g7 (X3 t.ev z i) t.ev.places.length:=by
   refine a9w (fun q _=>?_) (by omega)
   unfold X3
   split
   ·exact Rat.le_refl
   ·exact ay1 h i q ‹_›
  rw [av9 h] at h3
  have h4:=ax2 h i
  simp only [g7]
  grind
theorem b0D {t:g9} {kind:Int} {z:List Rat} (h:a2M t kind z) {i:Nat} {x:n6} (hx:t.ev.moves[i]? =some x) {f:H9} (hf:f ∈ t.finds) (h1:f.mv=(i:Int)) (h2:f.kind=kind):(f.grams:Rat)≤g7 (a0I t.ev z) (i+1):=by
 have:=(h.step i x hx).2.fin f.grams (by
  unfold i6
  exact List.mem_map.2 ⟨f,List.mem_filter.2 ⟨hf,by simp [h1,h2]⟩,rfl⟩)
 have h3:=b42 h hx
 grind
structure bf7 (t:g9) (w:List Rat) (i:Nat) (x:n6):Prop where
 took:b1l t.ev x (w.getD i 0) (B3 t.ev w i x.src.toNat)
 cap:a8Q (D7 t.ev x) (w.getD i 0)=true
end
section
structure B2 where
 terms:List (Int × Rat)
 kind:Int
 value:Rat
structure i8 where
 n:Int
 rows:List B2
def k7 (l:List (Int × Rat)) (z:List Rat):Rat:=l.foldl (fun a t=>a+t.2*z.getD t.1.toNat 0) ((0:Int):Rat)
theorem L4 (l:List (Int × Rat)) (t:Int × Rat) (z:List Rat):k7 (l++[t]) z=k7 l z+t.2*z.getD t.1.toNat 0:=by unfold k7;rw [List.foldl_append];rfl
def j1:Int→Int→List (Int × Rat)→Bool
 |_,_,[]=>true
 |last,n,t::r=>decide (last<t.1) && decide (t.1<n) && decide (t.2≠0) && j1 t.1 n r
def w9 (n:Int) (w:B2):Bool:=j1 (-1) n w.terms && decide (0≤w.kind) && decide (w.kind<3)
def j8 (s:i8):Bool:=decide (0≤s.n) && decide (s.n≤1500) && decide (s.rows.length≤6000) && s.rows.all (w9 s.n)
def R6 (w:B2) (z:List Rat):Bool:=!((decide (k7 w.terms z<w.value) && decide (w.kind≠1)) || (decide (w.value<k7 w.terms z) && decide (w.kind≠0)))
def j4 (s:i8) (z:List Rat):Bool:=j8 s && decide ((z.length:Int)=s.n) && z.all (fun v=>decide (0≤v)) && s.rows.all (fun w=>R6 w z)
def j6 (e:Ev) (p:Int):Nat→List (Int × Rat)
 |0=>[]
 |k+1=>match e.moves[k]? with
  |none=>j6 e p k
  |some y=>if y.dst=p then j6 e p k++[((k:Int),((1:Int):Rat))] else if y.src=p then j6 e p k++[((k:Int),((-1:Int):Rat))] else j6 e p k
def t4 (e:Ev) (i:Nat) (x:n6):B2:=⟨j6 e x.src i++[((i:Int),((-1:Int):Rat))],if x.all then 2 else 0,((0:Int):Rat)⟩
def s9 (i:Nat) (kind:Int) (v:Rat):B2:=⟨[((i:Int),((1:Int):Rat))],kind,v⟩
def K6 (iv:Option (Rat × Rat)) (i:Nat):List B2:=match iv with
 |none=>[]
 |some (_,hi)=>[s9 i 1 hi]
def H3 (t:g9) (kind:Int) (i:Nat) (x:n6):List B2:=
 (if t7 t.ev x.src=0 then [] else [t4 t.ev i x])++K6 (D7 t.ev x) i++(i6 t.finds kind i).map (fun g:Int=>s9 i 0 (g:Rat))++List.replicate (j9 t.cleans kind i) (s9 i 2 ((0:Int):Rat))
def p5 (t:g9) (kind:Int):Nat→List B2
 |0=>[]
 |k+1=>match t.ev.moves[k]? with
  |none=>p5 t kind k
  |some x=>p5 t kind k++H3 t kind k x
def f9 (t:g9) (kind:Int):i8:=⟨t.ev.moves.length,p5 t kind t.ev.moves.length⟩
theorem a9C {e:Ev} (h0:y5 e=0) (z:List Rat) (p:Nat):∀k,k7 (j6 e p k) z=B3 e z k p
 |0=>rfl
 |k+1=>by
  have ih:=a9C h0 z p k
  unfold j6
  cases hx:e.moves[k]? with
  |none=>rw [a8q hx];exact ih
  |some y=>
   have hm:=F6 h0 (lg2 hx)
   have hne:y.src≠y.dst:=by unfold F5 at hm;simp only [Bool.and_eq_true,decide_eq_true_eq] at hm;exact hm.1.1.1.1.1.2
   rw [a1S hx]
   simp only
   by_cases c1:y.dst=(p:Int)
   ·rw [if_pos c1,if_neg (by omega),if_pos c1,L4,ih]
    simp only [Int.toNat_natCast]
    have:((1:Int):Rat)=1:=rfl
    rw [this];grind
   ·rw [if_neg c1]
    by_cases c2:y.src=(p:Int)
    ·rw [if_pos c2,if_pos c2,L4,ih]
     simp only [Int.toNat_natCast]
     have:((-1:Int):Rat)=-1:=rfl
     rw [this];grind
    ·rw [if_neg c2,if_neg c2,if_neg c1];exact ih
theorem a1F {w:B2} {z:List Rat}:R6 w z=true↔(k7 w.terms z<w.value→w.kind=1)∧(w.value<k7 w.terms z→w.kind=0):=by
 unfold R6
 simp only [Bool.not_eq_true',Bool.or_eq_false_iff,Bool.and_eq_false_iff,decide_eq_false_iff_not,Classical.not_not]
 constructor
 ·rintro ⟨h1,h2⟩
  exact ⟨fun h=>h1.resolve_left (fun h'=>h' h),fun h=>h2.resolve_left (fun h'=>h' h)⟩
 ·rintro ⟨h1,h2⟩
  refine ⟨?_,?_⟩
  ·by_cases h:k7 w.terms z<w.value
   ·exact .inr (h1 h)
   ·exact .inl h
  ·by_cases h:w.value<k7 w.terms z
   ·exact .inr (h2 h)
   ·exact .inl h
theorem ai8 (i:Nat) (kind:Int) (v:Rat) (z:List Rat):k7 (s9 i kind v).terms z=z.getD i 0:=by
 show ((0:Int):Rat)+((1:Int):Rat)*z.getD ((i:Int)).toNat 0=_
 rw [Int.toNat_natCast]
 have h0:((0:Int):Rat)=0:=rfl
 have h1:((1:Int):Rat)=1:=rfl
 rw [h0,h1];grind
theorem b0A {i:Nat} {v:Rat} {z:List Rat}:R6 (s9 i 1 v) z=true↔z.getD i 0≤v:=by
 rw [a1F,ai8]
 show (_→(1:Int)=1)∧(v<z.getD i 0→(1:Int)=0)↔_
 constructor
 ·rintro ⟨_,h⟩;exact Rat.not_lt.1 fun h'=>absurd (h h') (by decide)
 ·intro h;exact ⟨fun _=>rfl,fun h'=>absurd h' (Rat.not_lt.2 h)⟩
theorem ad5 {i:Nat} {v:Rat} {z:List Rat}:R6 (s9 i 0 v) z=true↔v≤z.getD i 0:=by
 rw [a1F,ai8]
 show (z.getD i 0<v→(0:Int)=1)∧(_→(0:Int)=0)↔_
 constructor
 ·rintro ⟨h,_⟩;exact Rat.not_lt.1 fun h'=>absurd (h h') (by decide)
 ·intro h;exact ⟨fun h'=>absurd h' (Rat.not_lt.2 h),fun _=>rfl⟩
theorem aa8 {i:Nat} {v:Rat} {z:List Rat}:R6 (s9 i 2 v) z=true↔z.getD i 0=v:=by
 rw [a1F,ai8]
 show (z.getD i 0<v→(2:Int)=1)∧(v<z.getD i 0→(2:Int)=0)↔_
 constructor
 ·rintro ⟨h,h2⟩
  have q1:¬z.getD i 0<v:=fun h'=>absurd (h h') (by decide)
  have q2:¬v<z.getD i 0:=fun h'=>absurd (h2 h') (by decide)
  grind
 ·intro h;exact ⟨fun h'=>by grind,fun h'=>by grind⟩
theorem stock_holds {e:Ev} (h0:y5 e=0) {i:Nat} {x:n6} (hx:e.moves[i]? =some x) {z:List Rat}:R6 (t4 e i x) z=true↔z.getD i 0≤B3 e z i x.src.toNat∧(x.all=true→z.getD i 0=B3 e z i x.src.toNat):=by
 have hm:=F6 h0 (lg2 hx)
 have ms:=M3 hm
 have hv:k7 (t4 e i x).terms z=B3 e z i x.src.toNat - z.getD i 0:=by
  unfold t4
  simp only
  rw [L4,show j6 e x.src i=j6 e ((x.src.toNat:Nat):Int) i by rw [show ((x.src.toNat:Nat):Int)=x.src by omega],a9C h0]
  simp only [Int.toNat_natCast]
  have:((-1:Int):Rat)=-1:=rfl
  rw [this];grind
 have hz:(t4 e i x).value=0:=rfl
 have hk:(t4 e i x).kind=if x.all then 2 else 0:=rfl
 rw [a1F,hv,hz,hk]
 cases hal:x.all with
 |true=>
  simp only [if_true]
  constructor
  ·rintro ⟨h,h2⟩
   have q1:¬B3 e z i x.src.toNat - z.getD i 0<0:=fun h'=>absurd (h h') (by decide)
   have q2:¬0<B3 e z i x.src.toNat - z.getD i 0:=fun h'=>absurd (h2 h') (by decide)
   exact ⟨by grind,fun _=>by grind⟩
  ·rintro ⟨h,h2⟩
   have h2:=h2 trivial
   exact ⟨fun h'=>by grind,fun h'=>by grind⟩
 |false=>
  simp only [Bool.false_eq_true,if_false]
  constructor
  ·rintro ⟨h,h2⟩
   have q1:¬B3 e z i x.src.toNat - z.getD i 0<0:=fun h'=>absurd (h h') (by decide)
   exact ⟨by grind,fun h=>(by cases h)⟩
  ·rintro ⟨h,_⟩
   exact ⟨fun h'=>by grind,fun _=>trivial⟩
theorem move_holds {t:g9} {kind:Int} (h0:y5 t.ev=0) {i:Nat} {x:n6} (hx:t.ev.moves[i]? =some x) {z:List Rat} (hz:0≤z.getD i 0):
 (H3 t kind i x).all (fun w=>R6 w z)=true↔b1l t.ev x (z.getD i 0) (B3 t.ev z i x.src.toNat)∧al2 t kind i x (z.getD i 0):=by
 have hmo:=F6 h0 (lg2 hx)
 unfold H3
 simp only [List.all_append,Bool.and_eq_true,List.all_map]
 have e1:(if t7 t.ev x.src=0 then ([]:List B2) else [t4 t.ev i x]).all (fun w=>R6 w z)=true↔(t7 t.ev x.src≠0→z.getD i 0≤B3 t.ev z i x.src.toNat∧(x.all=true→z.getD i 0=B3 t.ev z i x.src.toNat)):=by
  by_cases hb:t7 t.ev x.src=0
  ·rw [if_pos hb];exact ⟨fun _ h=>absurd hb h,fun _=>rfl⟩
  ·rw [if_neg hb]
   simp only [List.all_cons,List.all_nil,Bool.and_true]
   rw [stock_holds h0 hx]
   exact ⟨fun h _=>h,fun h=>h hb⟩
 have e2:(K6 (D7 t.ev x) i).all (fun w=>R6 w z)=true↔a8Q (D7 t.ev x) (z.getD i 0)=true:=by
  cases hiv:D7 t.ev x with
  |none=>exact ⟨fun _=>rfl,fun _=>rfl⟩
  |some p=>
   obtain ⟨lo,hi⟩:=p
   simp only [K6,a8Q,List.all_cons,List.all_nil,Bool.and_true,decide_eq_true_eq]
   exact b0A
 have e3:(i6 t.finds kind i).all ((fun w=>R6 w z) ∘ fun g:Int=>s9 i 0 (g:Rat))=true↔∀g ∈ i6 t.finds kind i,(g:Rat)≤z.getD i 0:=by
  rw [List.all_eq_true]
  exact ⟨fun h g hg=>ad5.1 (h g hg),fun h g hg=>ad5.2 (h g hg)⟩
 have e4:(List.replicate (j9 t.cleans kind i) (s9 i 2 ((0:Int):Rat))).all (fun w=>R6 w z)=true↔(0<j9 t.cleans kind i→z.getD i 0=0):=by
  rw [List.all_eq_true]
  constructor
  ·intro h hc;exact aa8.1 (h _ (List.mem_replicate.2 ⟨by omega,rfl⟩))
  ·intro h w hw
   obtain ⟨h1,rfl⟩:=List.mem_replicate.1 hw
   exact aa8.2 (h (by omega))
 rw [e1,e2,e3,e4]
 constructor
 ·rintro ⟨⟨⟨q1,q2⟩,q3⟩,q4⟩
  exact ⟨⟨hz,fun h=>(q1 h).1,fun h=>(q1 (aF0 hmo h)).2 h⟩,⟨q2,q3,q4⟩⟩
 ·rintro ⟨p1,p2⟩
  exact ⟨⟨⟨fun h=>⟨p1.most h,p1.all⟩,p2.cap⟩,p2.fin⟩,p2.cln⟩
theorem U0 {t:g9} {kind:Int} {q:B2→Bool}:∀n,n≤t.ev.moves.length→((p5 t kind n).all q=true↔∀i x,i<n→t.ev.moves[i]? =some x→(H3 t kind i x).all q=true)
 |0,_=>⟨fun _ i x h=>by omega,fun _=>rfl⟩
 |n+1,h=>by
  obtain ⟨y,hy⟩:∃y,t.ev.moves[n]? =some y:=⟨_,lg0 (by omega)⟩
  unfold p5
  rw [hy]
  simp only [List.all_append,Bool.and_eq_true]
  rw [U0 n (by omega)]
  constructor
  ·rintro ⟨h1,h2⟩ i x hi hx
   rcases Nat.lt_or_ge i n with h3|h3
   ·exact h1 i x h3 hx
   ·obtain rfl:i=n:=by omega
    rw [hy] at hx;injection hx with hx;subst hx;exact h2
  ·intro h1
   exact ⟨fun i x hi hx=>h1 i x (by omega) hx,h1 n y (by omega) hy⟩
theorem a8m {last n i:Int} {c:Rat} (h1:last<i) (h2:i<n) (h3:c≠0):j1 last n [(i,c)]=true:=by
 unfold j1
 simp [h1,h2,h3,j1]
theorem a2W {n:Int} {c:Rat} {i:Int} (h2:i<n) (h3:c≠0):∀{l:List (Int × Rat)} {last:Int},j1 last n l=true→last<i→(∀ t ∈ l,t.1<i)→j1 last n (l++[(i,c)])=true
 |[],last,_,h,_=>a8m h h2 h3
 |t::r,last,h,h1,ht=>by
  unfold j1 at h
  simp only [Bool.and_eq_true,decide_eq_true_eq] at h
  show j1 last n (t::(r++[(i,c)]))=true
  unfold j1
  simp only [Bool.and_eq_true,decide_eq_true_eq]
  exact ⟨h.1,a2W h2 h3 h.2 (ht t (by simp)) fun u hu=>ht u (by simp [hu])⟩
theorem a8K:((1:Int):Rat)≠0:=by decide
theorem a7k:((-1:Int):Rat)≠0:=by decide
theorem a4o {e:Ev} {p:Int} {n:Int}:∀k:Nat,(k:Int)≤n→j1 (-1) n (j6 e p k)=true∧∀t ∈ j6 e p k,t.1<(k:Int)
 |0,_=>⟨rfl,fun t ht=>by cases ht⟩
 |k+1,h=>by
  obtain ⟨h1,h2⟩:=a4o (e:=e) (p:=p) (n:=n) k (by omega)
  have h3:∀c:Rat,c≠0→j1 (-1) n (j6 e p k++[((k:Int),c)])=true∧∀t ∈ j6 e p k++[((k:Int),c)],t.1<((k+1:Nat):Int):=fun c hc=>
   ⟨a2W (by omega) hc h1 (by omega) h2,fun t ht=>by
     rcases List.mem_append.1 ht with ht|ht
     ·have:=h2 t ht;omega
     ·simp at ht;subst ht;simp;omega⟩
  unfold j6
  cases hx:e.moves[k]? with
  |none=>exact ⟨h1,fun t ht=>by have:=h2 t ht;omega⟩
  |some y=>
   simp only
   split
   ·exact h3 _ a8K
   ·split
    ·exact h3 _ a7k
    ·exact ⟨h1,fun t ht=>by have:=h2 t ht;omega⟩
theorem aL2 {t:g9} {kind:Int} {i:Nat} {x:n6} {n:Int} (hi:(i:Int)<n):(H3 t kind i x).all (w9 n)=true:=by
 have ho:∀(k:Int) (v:Rat),0≤k→k<3→w9 n (s9 i k v)=true:=fun k v h1 h2=>by
  unfold w9 s9
  simp only [Bool.and_eq_true,decide_eq_true_eq]
  exact ⟨⟨a8m (by omega) hi a8K,h1⟩,h2⟩
 unfold H3
 simp only [List.all_append,Bool.and_eq_true,List.all_eq_true]
 refine ⟨⟨⟨fun w hw=>?_,fun w hw=>?_⟩,fun w hw=>?_⟩,fun w hw=>?_⟩
 ·by_cases hb:t7 t.ev x.src=0
  ·rw [if_pos hb] at hw;cases hw
  ·rw [if_neg hb] at hw
   simp at hw
   subst hw
   obtain ⟨h1,h2⟩:=a4o (e:=t.ev) (p:=x.src) (n:=n) i (by omega)
   unfold w9 t4
   simp only [Bool.and_eq_true,decide_eq_true_eq]
   refine ⟨⟨a2W hi a7k h1 (by omega) h2,?_⟩,?_⟩<;>split<;>decide
 ·cases hiv:D7 t.ev x with
  |none=>rw [hiv] at hw;cases hw
  |some p=>
   obtain ⟨lo,hi⟩:=p
   rw [hiv] at hw
   simp [K6] at hw
   subst hw
   exact ho 1 hi (by decide) (by decide)
 ·obtain ⟨g,_,rfl⟩:=List.mem_map.1 hw
  exact ho 0 _ (by decide) (by decide)
 ·obtain ⟨_,rfl⟩:=List.mem_replicate.1 hw
  exact ho 2 _ (by decide) (by decide)
theorem ao8 {t:g9} {kind:Int} {i:Nat} {x:n6}:(H3 t kind i x).length≤2+t.finds.length+t.cleans.length:=by
 unfold H3
 have h1:(K6 (D7 t.ev x) i).length≤1:=by unfold K6;split<;>simp
 have h2:(i6 t.finds kind i).length≤t.finds.length:=by unfold i6;rw [List.length_map];exact List.length_filter_le _ _
 have h3:j9 t.cleans kind i≤t.cleans.length:=List.length_filter_le _ _
 have h4:(if t7 t.ev x.src=0 then ([]:List B2) else [t4 t.ev i x]).length≤1:=by split<;>simp
 simp only [List.length_append,List.length_map,List.length_replicate]
 omega
theorem a1g {t:g9} {kind:Int}:∀n,(p5 t kind n).length≤n*(2+t.finds.length+t.cleans.length)
 |0=>by simp [p5]
 |n+1=>by
  have ih:=a1g (t:=t) (kind:=kind) n
  unfold p5
  rw [Nat.succ_mul]
  cases hx:t.ev.moves[n]? with
  |none=>simp only;omega
  |some x=>
   have:=ao8 (t:=t) (kind:=kind) (i:=n) (x:=x)
   simp only [List.length_append]
   omega
theorem ah7 {t:g9} {kind:Int} (hm:t.ev.moves.length≤14) (hf:t.finds.length≤20) (hc:t.cleans.length≤50):j8 (f9 t kind)=true:=by
 unfold j8 f9
 have h1:=a1g (t:=t) (kind:=kind) t.ev.moves.length
 have h2:t.ev.moves.length*(2+t.finds.length+t.cleans.length)≤14*72:=Nat.mul_le_mul hm (by omega)
 simp only [Bool.and_eq_true,decide_eq_true_eq]
 refine ⟨⟨⟨by omega,by omega⟩,by omega⟩,?_⟩
 rw [U0 _ (Nat.le_refl _)]
 intro i x hi hx
 exact aL2 (by omega)
theorem sys_holds {t:g9} {kind:Int} {z:List Rat} (ht:m8 t=0) (k0:0≤kind) (k1:kind<8) (hm:t.ev.moves.length≤14):j4 (f9 t kind) z=true↔a2M t kind z:=by
 obtain ⟨q1,q2,q3,q4,q5⟩:=z4 ht
 unfold j4
 rw [ah7 hm q2 q3]
 simp only [Bool.true_and,Bool.and_eq_true,decide_eq_true_eq]
 constructor
 ·rintro ⟨⟨h1,h2⟩,h3⟩
  have hl:z.length=t.ev.moves.length:=by have:(z.length:Int)=t.ev.moves.length:=h1;omega
  refine ⟨ht,k0,k1,hl,fun i x hx=>?_⟩
  have hi:i<t.ev.moves.length:=(lg1 hx).1
  have hz:0≤z.getD i 0:=of_decide_eq_true (List.all_eq_true.1 h2 _ (lg2 (getD_some (by omega))))
  exact (move_holds q1 hx hz).1 ((U0 _ (Nat.le_refl _)).1 h3 i x hi hx)
 ·intro h
  refine ⟨⟨?_,?_⟩,?_⟩
  ·show (z.length:Int)=t.ev.moves.length
   rw [h.len]
  ·rw [List.all_eq_true]
   intro v hv
   obtain ⟨i,hi,rfl⟩:=List.getElem_of_mem hv
   obtain ⟨x,hx⟩:∃x,t.ev.moves[i]? =some x:=⟨_,lg0 (by rw [← h.len];exact hi)⟩
   have:=(h.step i x hx).1.pos
   rw [lg3,lg0 hi] at this
   exact decide_eq_true this
  ·show (p5 t kind t.ev.moves.length).all _=true
   rw [U0 _ (Nat.le_refl _)]
   intro i x hi hx
   obtain ⟨a,b⟩:=h.step i x hx
   exact (move_holds q1 hx a.pos).2 ⟨a,b⟩
end
section
open Go.RowKit
def H9.row (f:H9):List T:=[ti f.mv,ti f.kind,ti f.grams]
def B8.row (c:B8):List T:=[ti c.mv,ti c.kind]
abbrev a9d (l:List H9):T:=.sl 3 .any (l.map H9.row)
abbrev a50 (l:List B8):T:=.sl 2 .any (l.map B8.row)
def trT (t:g9):List T:=[ti t.ev.mats,ti t.ev.hhs,ti t.ev.scs,a3Y t.ev.places,a2k t.ev.moves,Y4 t.ev.certs,J3 t.ev.recalls,a0z t.ev.purities,a9d t.finds,a50 t.cleans]
def trC (t:g9):List C:=[.t (ti t.ev.mats),.t (ti t.ev.hhs),.t (ti t.ev.scs),.t (a3Y t.ev.places),.t (a2k t.ev.moves),.t (Y4 t.ev.certs),.t (J3 t.ev.recalls),.t (a0z t.ev.purities),.t (a9d t.finds),.t (a50 t.cleans)]
abbrev trS (t:g9):S:=.agg (trC t)
structure g9.Sized (t:g9):Prop where
 ev:t.ev.Sized
 f:t.finds.length≤1000000
 c:t.cleans.length≤1000000
theorem a3r {x:Rat}:sgR x=0↔x=0:=by unfold sgR;split<;>(try split)<;>simp_all<;>grind
theorem b0i (e:Ev) (mv kind:Int):b9 Tryz.prog 59 [evS e,a9 .i64 mv,a9 .i64 kind] [] (a9 .i64 (a0h e mv kind)) []:=by
 have l2:(e.moves.map n6.row).length=e.moves.length:=by simp
 (refine a8 a7 Tryz.func59 rfl (by decide) ?_;(conv=>whnf);repeat ((first|refine b0x ?_|refine zy ?_);conv=>whnf))
 repeat' first|(refine zd ?_ ?_<;>intro h<;>first|exact zc h|(exfalso;omega)|conv=>whnf)|((first|refine zz ?_|refine zy ?_);conv=>whnf)
 all_goals (refine j5 ?_;unfold a0h;(repeat' split)<;>first|rfl|omega)
theorem a1E (t:g9) (hs:t.Sized):b9 Tryz.prog 16 [trS t] [] (a9 .i64 (m8 t)) []:=by
 have l1:=hs.f
 have l2:=hs.c
 have ck:=aQ3 t.ev hs.ev
 have m1:(t.finds.map H9.row).length=t.finds.length:=by simp
 have m2:(t.cleans.map B8.row).length=t.cleans.length:=by simp
 by_cases h0:y5 t.ev≠0
 ·have e1:m8 t=y5 t.ev:=by unfold m8;rw [if_pos h0]
  rw [e1]
  (refine a8 a7 Tryz.func16 rfl (by decide) ?_;(conv=>whnf);repeat ((first|refine b0x ?_|refine zy ?_);conv=>whnf))
  repeat' first|(refine zd ?_ ?_<;>intro h<;>first|exact zc h|(exfalso;omega)|conv=>whnf)|((first|refine zz ?_|refine qp ck ?_|refine zy ?_);conv=>whnf)
  all_goals first
   |(exfalso;omega)
   |exact j5 rfl
 have h0:y5 t.ev=0:=by omega
 rw [h0] at ck
 by_cases h1:20<t.finds.length∨50<t.cleans.length
 ·have e1:m8 t=6:=by unfold m8;rw [if_neg (by omega),if_pos h1]
  rw [e1]
  (refine a8 a7 Tryz.func16 rfl (by decide) ?_;(conv=>whnf);repeat ((first|refine b0x ?_|refine zy ?_);conv=>whnf))
  repeat' first|(refine zd ?_ ?_<;>intro h<;>first|exact zc h|(exfalso;omega)|conv=>whnf)|((first|refine zz ?_|refine qp ck ?_|refine zy ?_);conv=>whnf)
  all_goals first
   |(exfalso;omega)
   |exact j5 rfl
 have e1:m8 t=if I7 t.ev t.finds≠0 then I7 t.ev t.finds else K5 t.ev t.cleans:=by unfold m8;rw [if_neg (by omega),if_neg h1]
 rw [e1]
 (refine a8 a7 Tryz.func16 rfl (by decide) ?_;(conv=>whnf);repeat ((first|refine b0x ?_|refine zy ?_);conv=>whnf))
 repeat' first|(refine zd ?_ ?_<;>intro h<;>first|exact zc h|(exfalso;omega)|conv=>whnf)|((first|refine zz ?_|refine qp ck ?_|refine zy ?_);conv=>whnf)
 all_goals try (exfalso;omega)
 refine f8 a7 (fun k=>([J,S.c (C.t (T.ptr (trT t))),J,J,J,J,J,J,J,J,J,J,J,J,J,J,J,J,J,J,J,J,J,J,J,J,J,S.c (C.t (a9d t.finds)),a9 .i64 t.finds.length,a9 .i64 k,J,J,J,J,J,J,J,J,J,J,J,J,J,J,J,J,J,J,J,J,J,J,J,J,J,J,J,J,J,J,J,J,J,J,J,J,J,J,J,J],[])) t.finds.length (fun k=>I7 t.ev t.finds=I7 t.ev (t.finds.drop k)) [] rfl
  ⟨rfl,rfl,trivial,⟨rfl,rfl,e7 (by simp),rfl,trivial⟩⟩ ?_
 intro k hk hI
 by_cases hlt:k<t.finds.length
 ·obtain ⟨f,hf⟩:∃f,t.finds[k]? =some f:=⟨_,lg0 hlt⟩
  have mk:=b0i t.ev f.mv f.kind
  rw [W3 hf,I7] at hI
  by_cases hm:a0h t.ev f.mv f.kind≠0
  ·rw [if_pos hm] at hI
   rw [hI,if_pos hm]
   conv=>whnf
   repeat' first|(refine zd ?_ ?_<;>intro h<;>first|exact zc h|(exfalso;omega)|conv=>whnf)|((first|refine zz ?_|refine qp mk ?_|refine d9 hf ?_|refine zy ?_);conv=>whnf)
   all_goals first
    |(exfalso;omega)
    |exact j5 rfl
  ·rw [if_neg hm] at hI
   by_cases hg:f.grams<1∨1099511627776<f.grams
   ·rw [if_pos hg] at hI
    rw [hI]
    conv=>whnf
    repeat' first|(refine zd ?_ ?_<;>intro h<;>first|exact zc h|(exfalso;omega)|conv=>whnf)|((first|refine zz ?_|refine qp mk ?_|refine d9 hf ?_|refine zy ?_);conv=>whnf)
    all_goals first
     |(exfalso;omega)
     |exact j5 rfl
   ·rw [if_neg hg] at hI
    conv=>whnf
    repeat' first|(refine zd ?_ ?_<;>intro h<;>first|exact zc h|(exfalso;omega)|conv=>whnf)|((first|refine zz ?_|refine qp mk ?_|refine d9 hf ?_|refine zy ?_);conv=>whnf)
    all_goals first
     |(exfalso;omega)
     |exact ⟨hlt,hI,[],rfl,rfl,trivial,⟨rfl,rfl,rfl,rfl,trivial⟩⟩
 ·rw [List.drop_of_length_le (by omega)] at hI
  have hI:I7 t.ev t.finds=0:=hI
  rw [hI,if_neg (by omega)]
  conv=>whnf
  repeat' first|(refine zd ?_ ?_<;>intro h<;>first|exact zc h|(exfalso;omega)|conv=>whnf)|((first|refine zz ?_|refine zy ?_);conv=>whnf)
  all_goals try (exfalso;omega)
  refine f8 a7 (fun k=>([J,S.c (C.t (T.ptr (trT t))),J,J,J,J,J,J,J,J,J,J,J,J,J,J,J,J,J,J,J,J,J,J,J,J,J,J,J,J,J,J,J,J,J,J,J,J,J,J,J,J,J,J,J,J,J,J,J,J,J,J,J,S.c (C.t (a50 t.cleans)),a9 .i64 t.cleans.length,a9 .i64 k,J,J,J,J,J,J,J,J,J,J,J,J,J,J],[])) t.cleans.length (fun k=>K5 t.ev t.cleans=K5 t.ev (t.cleans.drop k)) [] rfl
   ⟨rfl,rfl,trivial,⟨rfl,rfl,e7 (by simp),rfl,trivial⟩⟩ ?_
  intro j hj hJ
  by_cases hjt:j<t.cleans.length
  ·obtain ⟨c,hc⟩:∃c,t.cleans[j]? =some c:=⟨_,lg0 hjt⟩
   have mk:=b0i t.ev c.mv c.kind
   rw [W3 hc,K5] at hJ
   by_cases hm:a0h t.ev c.mv c.kind≠0
   ·rw [if_pos hm] at hJ
    rw [hJ]
    conv=>whnf
    repeat' first|(refine zd ?_ ?_<;>intro h<;>first|exact zc h|(exfalso;omega)|conv=>whnf)|((first|refine zz ?_|refine qp mk ?_|refine d9 hc ?_|refine zy ?_);conv=>whnf)
    all_goals first
     |(exfalso;omega)
     |exact j5 rfl
   ·rw [if_neg hm] at hJ
    conv=>whnf
    repeat' first|(refine zd ?_ ?_<;>intro h<;>first|exact zc h|(exfalso;omega)|conv=>whnf)|((first|refine zz ?_|refine qp mk ?_|refine d9 hc ?_|refine zy ?_);conv=>whnf)
    all_goals first
     |(exfalso;omega)
     |exact ⟨hjt,hJ,[],rfl,rfl,trivial,⟨rfl,rfl,rfl,rfl,trivial⟩⟩
  ·rw [List.drop_of_length_le (by omega)] at hJ
   have hJ:K5 t.ev t.cleans=0:=hJ
   rw [hJ]
   conv=>whnf
   repeat' first|(refine zd ?_ ?_<;>intro h<;>first|exact zc h|(exfalso;omega)|conv=>whnf)|((first|refine zz ?_|refine zy ?_);conv=>whnf)
   all_goals first
    |(exfalso;omega)
    |exact j5 rfl
theorem b48 (e:Ev) {i:Nat} {x:n6} (h0:y5 e=0) (hx:e.moves[i]? =some x):b9 Tryz.prog 70 [evS e,a9 .i64 i] [] (f7 (decide (t7 e x.src=0))) []:=by
 have hm:=F6 h0 (lg2 hx)
 have ms:=M3 hm
 obtain ⟨s,hsn⟩:∃s:Nat,x.src=s:=⟨x.src.toNat,by omega⟩
 obtain ⟨pl,hpl⟩:∃pl,e.places[s]? =some pl:=⟨_,lg0 (by omega)⟩
 have hkd:t7 e x.src=pl.kind:=by rw [hsn];exact a6R hpl
 rw [hkd]
 (refine a8 a7 Tryz.func70 rfl (by decide) ?_;(conv=>whnf);repeat ((first|refine b0x ?_|refine zy ?_);conv=>whnf))
 repeat' first|(refine zd ?_ ?_<;>intro h<;>first|exact zc h|(exfalso;omega)|conv=>whnf)|((first|refine zz ?_|refine d9 hx ?_|refine W2 hsn hpl ?_|refine zy ?_);conv=>whnf)
 all_goals (refine d8 ?_;simp [*])
def o7 (x:Int × Rat):List T:=ti x.1::m6 (fz x.2)
abbrev am3 (l:List (Int × Rat)):T:=.sl 5 .any (l.map o7)
def y4 (w:B2):List T:=am3 w.terms::ti w.kind::m6 (fz w.value)
def bb9 (w:B2):List C:=.t (am3 w.terms)::.t (ti w.kind)::frC (fz w.value)
abbrev az8 (w:B2):S:=.agg (bb9 w)
abbrev M5 (l:List B2):T:=.sl 6 .any (l.map y4)
abbrev U9 (s:i8):S:=.agg [.t (ti s.n),.t (M5 s.rows)]
end
section
open Go.RowKit
def a4t (w:Nat) (g:Nat→Rat):List Fr:=(List.range w).map fun m=>fz (g m)
theorem a8v (w:Nat) (g:Nat→Rat):(a4t w g).length=w:=by simp [a4t]
theorem a5c {w:Nat} {g:Nat→Rat} {m:Nat} (h:m<w):(a4t w g)[m]? =some (fz (g m)):=by simp [a4t,h]
theorem aB5 {w:Nat} {g:Nat→Rat} {m:Nat} {v:Rat} (h:m<w):(a4t w g).set m (fz v)=a4t w (fun j=>if j=m then v else g j):=by
 apply List.ext_getElem?
 intro j
 by_cases hj:j<w
 ·rw [a5c hj,List.getElem?_set,a8v]
  by_cases hjm:m=j
  ·subst hjm;simp [h]
  ·rw [if_neg hjm,a5c hj,if_neg (by omega)]
 ·rw [List.getElem?_eq_none (by simp [a8v];omega),List.getElem?_eq_none (by simp [a8v];omega)]
abbrev b3A (l:List Fr):Blk:={ mode:=.live,elem:=83,size:=4,rows:=toC (l.map m6),box:=false }
theorem b0E {row:List Fr} {i n:Nat} {y:Fr} (h:n=i):z9 (b3A row) ((toC (row.map m6)).set n (frC y))=b3A (row.set i y):=by
 subst h
 unfold z9
 simp [toC,List.map_set,m6]
end
section
open Go.RowKit
abbrev zR:Rat:=((0:Int):Rat)
def a1m (m w:Nat):List Fr:=(List.range w).map fun j=>if j<m then fz zR else E7
theorem a3U (m w:Nat):(a1m m w).length=w:=by simp [a1m]
theorem a3V {m w j:Nat} (h:j<w):(a1m m w)[j]? =some (if j<m then fz zR else E7):=by simp [a1m,h]
theorem aV1 {m w:Nat} (h:m<w):(a1m m w).set m (fz zR)=a1m (m+1) w:=by
 apply List.ext_getElem?
 intro j
 by_cases hj:j<w
 ·rw [a3V hj,List.getElem?_set,a3U]
  by_cases hjk:m=j
  ·subst hjk;simp [h]
  ·rw [if_neg hjk,a3V hj]
   have:(j<m+1)↔(j<m):=by omega
   simp only [this]
 ·rw [List.getElem?_eq_none (by simp [a3U];omega),List.getElem?_eq_none (by simp [a3U];omega)]
theorem aV9 (w:Nat):a1m w w=a4t w (fun _=>zR):=by
 unfold a1m a4t
 refine List.map_congr_left fun j hj=>?_
 rw [if_pos (List.mem_range.1 hj)]
theorem aI6 (w:Nat):a1m 0 w=List.replicate w E7:=by
 apply List.ext_getElem?
 intro j
 by_cases hj:j<w
 ·rw [a3V hj];simp [hj]
 ·rw [List.getElem?_eq_none (by simp [a3U];omega),List.getElem?_eq_none (by simp;omega)]
end
section
open Go.RowKit
theorem P6 {e:Ev} (h:y5 e=0):1≤e.mats∧e.mats≤6∧e.places.length≤100∧e.moves.length≤200:=by
 obtain ⟨h1,h2,_⟩:=Y1 h
 unfold a0Q at h1
 simp only [Bool.or_eq_false_iff,decide_eq_false_iff_not] at h1
 omega
end
section
open Go.RowKit
abbrev m7 (l:List (Int × Rat)):S:=.c (.t (am3 l))
def a1W (l:List (Int × Rat)):Nat→Int
 |0=>-1
 |k+1=>((l[k]?).map (·.1)).getD 0
theorem O6 {l:List (Int × Rat)} {k:Nat} {t:Int × Rat} (h:l[k]? =some t):a1W l (k+1)=t.1:=by simp [a1W,h]
theorem P9 (l:List (Int × Rat)) (n:Int) (hl:l.length≤1000000) (hB:∀t ∈ l,rl t.2≤200):b9 Tryz.prog 161 [m7 l,a9 .i64 n] [] (f7 (decide (0≤n) && j1 (-1) n l)) []:=by
 have m1:(l.map o7).length=l.length:=by simp
 by_cases h0:n<0
 ·rw [decide_eq_false (by omega),Bool.false_and]
  (refine a8 a7 Tryz.func161 rfl (by decide) ?_;(conv=>whnf);repeat ((first|refine b0x ?_|refine zy ?_);conv=>whnf))
  repeat' first|(refine zd ?_ ?_<;>intro h<;>first|exact zc h|(exfalso;omega)|conv=>whnf)|((first|refine zz ?_|refine zy ?_);conv=>whnf)
  all_goals first
   |(exfalso;omega)
   |exact d8 rfl
 rw [decide_eq_true (by omega),Bool.true_and]
 (refine a8 a7 Tryz.func161 rfl (by decide) ?_;(conv=>whnf);repeat ((first|refine b0x ?_|refine zy ?_);conv=>whnf))
 repeat' first|(refine zd ?_ ?_<;>intro h<;>first|exact zc h|(exfalso;omega)|conv=>whnf)|((first|refine zz ?_|refine zy ?_);conv=>whnf)
 all_goals try (exfalso;omega)
 refine f8 a7 (fun k=>([J,a9 .i64 n,J,J,J,a9 .i64 (a1W l k),J,J,J,J,m7 l,a9 .i64 l.length,a9 .i64 k,J,J,J,J,J,J,J,J,J,J,J,J,J,J,J,J,J,J,J,J,J,J],[])) l.length (fun k=>j1 (-1) n l=j1 (a1W l k) n (l.drop k)) [] rfl
  ⟨rfl,rfl,trivial,⟨rfl,rfl,rfl,e7 (by simp),rfl,trivial⟩⟩ ?_
 intro k hk hI
 by_cases hlt:k<l.length
 ·obtain ⟨t,ht⟩:∃t,l[k]? =some t:=⟨_,lg0 hlt⟩
  obtain ⟨v,c⟩:=t
  have bc:=hB _ (lg2 ht)
  simp only at bc
  have sg:=a00 c (by omega)
  have sz:=a3r (x:=c)
  rw [W3 ht,j1] at hI
  simp only at hI
  by_cases hok:a1W l k<v∧v<n∧c≠0
  ·rw [decide_eq_true hok.1,decide_eq_true hok.2.1,decide_eq_true hok.2.2] at hI
   simp only [Bool.true_and] at hI
   have hne:sgR c≠0:=fun h=>hok.2.2 (sz.1 h)
   obtain ⟨q1,q2,_⟩:=hok
   conv=>whnf
   repeat' first|(refine zd ?_ ?_<;>intro h<;>first|exact zc h|(exfalso;omega)|conv=>whnf)|((first|refine zz ?_|refine qp sg ?_|refine d9 ht ?_|refine zy ?_);conv=>whnf)
   all_goals first
    |(exfalso;omega)
    |exact ⟨hlt,by rw [O6 ht];exact hI,[],rfl,rfl,trivial,⟨rfl,e7 (by rw [O6 ht]),rfl,rfl,rfl,trivial⟩⟩
  ·have hF:j1 (-1) n l=false:=by
    rw [hI]
    rw [← Bool.not_eq_true]
    simp only [Bool.and_eq_true,decide_eq_true_eq]
    exact fun h=>hok ⟨h.1.1.1,h.1.1.2,h.1.2⟩
   rw [hF]
   have hor:v≤a1W l k∨n≤v∨sgR c=0:=by
    by_cases q1:a1W l k<v
    ·by_cases q2:v<n
     ·refine .inr (.inr (sz.2 ?_))
      by_cases q3:c=0
      ·exact q3
      ·exact absurd ⟨q1,q2,q3⟩ hok
     ·exact .inr (.inl (by omega))
    ·exact .inl (by omega)
   clear hI hok
   conv=>whnf
   repeat' first|(refine zd ?_ ?_<;>intro h<;>first|exact zc h|(exfalso;omega)|conv=>whnf)|((first|refine zz ?_|refine qp sg ?_|refine d9 ht ?_|refine zy ?_);conv=>whnf)
   all_goals first
    |(exfalso;omega)
    |exact d8 rfl
 ·rw [List.drop_of_length_le (by omega)] at hI
  have hI:j1 (-1) n l=true:=hI
  rw [hI]
  conv=>whnf
  repeat' first|(refine zd ?_ ?_<;>intro h<;>first|exact zc h|(exfalso;omega)|conv=>whnf)|((first|refine zz ?_|refine zy ?_);conv=>whnf)
  all_goals first
   |(exfalso;omega)
   |exact d8 rfl
structure a6I (s:i8):Prop where
 n0:s.rows.length≤1000000
 t:∀w ∈ s.rows,w.terms.length≤100∧(∀ t ∈ w.terms,rl t.2≤200)∧rl w.value≤200
theorem a8R (s:i8) (hb:a6I s):b9 Tryz.prog 108 [U9 s] [] (f7 (j8 s)) []:=by
 have m1:(s.rows.map y4).length=s.rows.length:=by simp
 have l1:=hb.n0
 by_cases h0:¬(0≤s.n∧s.n≤1500∧s.rows.length≤6000)
 ·have e1:j8 s=false:=by
   unfold j8
   rw [← Bool.not_eq_true]
   simp only [Bool.and_eq_true,decide_eq_true_eq]
   exact fun h=>h0 ⟨h.1.1.1,h.1.1.2,h.1.2⟩
  rw [e1]
  (refine a8 a7 Tryz.func108 rfl (by decide) ?_;(conv=>whnf);repeat ((first|refine b0x ?_|refine zy ?_);conv=>whnf))
  repeat' first|(refine zd ?_ ?_<;>intro h<;>first|exact zc h|(exfalso;omega)|conv=>whnf)|((first|refine zz ?_|refine zy ?_);conv=>whnf)
  all_goals first
   |(exfalso;omega)
   |exact d8 rfl
 obtain ⟨c1,c2,c3⟩:=Decidable.not_not.1 h0
 have e1:j8 s=s.rows.all (w9 s.n):=by
  unfold j8
  rw [decide_eq_true c1,decide_eq_true c2,decide_eq_true c3];rfl
 rw [e1]
 clear h0
 (refine a8 a7 Tryz.func108 rfl (by decide) ?_;(conv=>whnf);repeat ((first|refine b0x ?_|refine zy ?_);conv=>whnf))
 repeat' first|(refine zd ?_ ?_<;>intro h<;>first|exact zc h|(exfalso;omega)|conv=>whnf)|((first|refine zz ?_|refine zy ?_);conv=>whnf)
 all_goals try (exfalso;omega)
 refine f8 a7 (fun k=>([J,S.c (C.t (T.ptr [ti s.n,M5 s.rows])),J,J,J,J,J,J,J,J,J,J,J,J,J,J,J,J,J,J,S.c (C.t (M5 s.rows)),a9 .i64 s.rows.length,a9 .i64 k,J,J,J,J,J,J,J,J,J,J,J,J,J,J,J,J,J,J,J,J,J,J,J,J,J,J],[])) s.rows.length (fun k=>(s.rows.take k).all (w9 s.n)=true) [] rfl
  ⟨rfl,rfl,trivial,⟨rfl,rfl,e7 (by simp),rfl,trivial⟩⟩ ?_
 intro k hk hI
 by_cases hlt:k<s.rows.length
 ·obtain ⟨w,hw⟩:∃w,s.rows[k]? =some w:=⟨_,lg0 hlt⟩
  obtain ⟨b1,b2,b3⟩:=hb.t w (lg2 hw)
  have rt:=P9 w.terms s.n (by omega) b2
  rw [decide_eq_true c1,Bool.true_and] at rt
  have rv:=G7 w.value (by omega)
  cases hrt:j1 (-1) s.n w.terms with
  |false=>
   rw [hrt] at rt
   have hF:w9 s.n w=false:=by unfold w9;rw [hrt];rfl
   rw [w7 hw hF]
   conv=>whnf
   repeat' first|(refine zd ?_ ?_<;>intro h<;>first|exact zc h|(exfalso;omega)|conv=>whnf)|((first|refine zz ?_|refine qp rt ?_|refine qp rv ?_|refine d9 hw ?_|refine zy ?_);conv=>whnf)
   all_goals first
    |(exfalso;omega)
    |(exfalso;simp_all;done)
    |exact d8 rfl
  |true=>
   rw [hrt] at rt
   by_cases hk3:0≤w.kind∧w.kind<3
   ·have hT:w9 s.n w=true:=by unfold w9;rw [hrt,decide_eq_true hk3.1,decide_eq_true hk3.2];rfl
    conv=>whnf
    repeat' first|(refine zd ?_ ?_<;>intro h<;>first|exact zc h|(exfalso;omega)|conv=>whnf)|((first|refine zz ?_|refine qp rt ?_|refine qp rv ?_|refine d9 hw ?_|refine zy ?_);conv=>whnf)
    all_goals first
     |(exfalso;omega)
     |(exfalso;simp_all;done)
     |exact ⟨hlt,by rw [s7 hw,hI,hT];rfl,[],rfl,rfl,trivial,⟨rfl,rfl,rfl,rfl,trivial⟩⟩
   ·have hF:w9 s.n w=false:=by
     unfold w9
     rw [← Bool.not_eq_true]
     simp only [Bool.and_eq_true,decide_eq_true_eq]
     exact fun h=>hk3 ⟨h.1.2,h.2⟩
    rw [w7 hw hF]
    conv=>whnf
    repeat' first|(refine zd ?_ ?_<;>intro h<;>first|exact zc h|(exfalso;omega)|conv=>whnf)|((first|refine zz ?_|refine qp rt ?_|refine qp rv ?_|refine d9 hw ?_|refine zy ?_);conv=>whnf)
    all_goals first
     |(exfalso;omega)
     |(exfalso;simp_all;done)
     |exact d8 rfl
 ·rw [lg4 (by omega)] at hI
  rw [hI]
  conv=>whnf
  repeat' first|(refine zd ?_ ?_<;>intro h<;>first|exact zc h|(exfalso;omega)|conv=>whnf)|((first|refine zz ?_|refine zy ?_);conv=>whnf)
  all_goals first
   |(exfalso;omega)
   |exact d8 rfl
theorem aW8 (rs:List Fr) (hl:rs.length≤1000000) (g:FuncId) (caps:List T) (q:Fr→Bool) (hg:∀r ∈ rs,b9 Tryz.prog g (frS r::caps.map fun x=>.c (.t x)) [] (f7 (q r)) []):
 b9 Tryz.prog 243 [.c (.t (T7 rs)),.c (.t (.fn (.func g) caps))] [] (a9 .i64 (W0 q rs 0)) []:=by
 have l1:(rs.map m6).length=rs.length:=by simp
 (refine a8 a7 Tryz.func243 rfl (by decide) ?_;(conv=>whnf);repeat (refine zy ?_;conv=>whnf))
 repeat' first|(refine zd ?_ ?_<;>intro h<;>first|exact zc h|(exfalso;omega)|conv=>whnf)|((first|refine zz ?_|refine zy ?_);conv=>whnf)
 refine f8 a7 (fun k=>([S.c (C.t (T7 rs)),S.c (C.t (T.fn (.func g) caps)),J,J,J,J,J,a9 .i64 rs.length,a9 .i64 k,J,J,J,J,J,J,J,J,J,J],[])) rs.length (fun k=>W0 q (rs.drop k) k=W0 q rs 0) [] rfl
  ⟨rfl,rfl,trivial,⟨j3 rfl,j3 rfl,e7 (by simp),rfl,trivial⟩⟩ ?_
 intro k hk hI
 by_cases hlt:k<rs.length
 ·obtain ⟨r,hr⟩:∃r,rs[k]? =some r:=⟨_,lg0 hlt⟩
  have hd:rs.drop k=r::rs.drop (k+1):=by
   rw [List.drop_eq_getElem_cons hlt]
   rw [lg0 hlt] at hr
   injection hr with hr
   rw [hr]
  have hgr:=hg r (lg2 hr)
  have ha:(frS r::caps.map fun x=>S.c (C.t x)).all S.isT=true:=by simp [S.isT,C.isT,m6]
  rw [hd] at hI
  have hI:(if q r then (k:Int) else W0 q (rs.drop (k+1)) (k+1))=W0 q rs 0:=hI
  cases hq:q r with
  |true=>
   rw [hq] at hgr hI
   conv=>whnf
   repeat' first|(refine zd ?_ ?_<;>intro h<;>first|exact zc h|(exfalso;omega)|conv=>whnf)|((first|refine zz ?_|refine .inl ⟨_,_,H5 hgr ha rfl,?_⟩|refine d9 hr ?_|refine zy ?_);conv=>whnf)
   all_goals first
    |(exfalso;omega)
    |exact j5 hI
  |false=>
   rw [hq] at hgr hI
   conv=>whnf
   repeat' first|(refine zd ?_ ?_<;>intro h<;>first|exact zc h|(exfalso;omega)|conv=>whnf)|((first|refine zz ?_|refine .inl ⟨_,_,H5 hgr ha rfl,?_⟩|refine d9 hr ?_|refine zy ?_);conv=>whnf)
   all_goals first
    |(exfalso;omega)
    |exact ⟨hlt,by simpa using hI,[],rfl,rfl,trivial,⟨rfl,rfl,rfl,rfl,trivial⟩⟩
 ·have hke:k=rs.length:=by omega
  subst hke
  rw [List.drop_of_length_le (Nat.le_refl _)] at hI
  conv=>whnf
  repeat' first|(refine zd ?_ ?_<;>intro h<;>first|exact zc h|(exfalso;omega)|conv=>whnf)|((first|refine zz ?_|refine zy ?_);conv=>whnf)
  all_goals first
   |(exfalso;omega)
   |exact j5 hI
theorem al0 (rs:List Fr) (hl:rs.length≤1000000) (g:FuncId) (caps:List T) (q:Fr→Bool) (hg:∀r ∈ rs,b9 Tryz.prog g (frS r::caps.map fun x=>.c (.t x)) [] (f7 (q r)) []):
 b9 Tryz.prog 177 [.c (.t (T7 rs)),.c (.t (.fn (.func g) caps))] [] (f7 (rs.any q)) []:=by
 have ix:=aW8 rs hl g caps q hg
 (refine a8 a7 Tryz.func177 rfl (by decide) ?_;(conv=>whnf);repeat (refine zy ?_;conv=>whnf))
 repeat' first|(refine zd ?_ ?_<;>intro h<;>first|exact zc h|(exfalso;omega)|conv=>whnf)|((first|refine zz ?_|refine qp ix ?_|refine zy ?_);conv=>whnf)
 all_goals (refine d8 ?_;rw [← a4B q rs 0];simp;omega)
theorem b1U (f:Fr) (lp:f.p.dl.length≤200000) (lq:f.q.dl.length≤200000):b9 Tryz.prog 178 (frS f::[].map fun x=>.c (.t x)) [] (f7 (!D2 f)) []:=by
 have r:=a8U f lp lq
 (refine a8 a7 Tryz.func178 rfl (by decide) ?_;(conv=>whnf);repeat ((first|refine b0x ?_|refine zy ?_);conv=>whnf))
 repeat' first|(refine zd ?_ ?_<;>intro h<;>first|exact zc h|(exfalso;omega)|conv=>whnf)|((first|refine zz ?_|refine qp r ?_|refine zy ?_);conv=>whnf)
 all_goals (refine d8 ?_;simp [*])
theorem b35 (z:List Fr) (hl:z.length≤1000000) (hd:∀f ∈ z,f.p.dl.length≤200000∧f.q.dl.length≤200000):b9 Tryz.prog 109 [p8 z] [] (f7 (z.all D2)) []:=by
 have ct:=al0 z hl 178 [] _ (fun f hf=>b1U f (hd f hf).1 (hd f hf).2)
 have e:(z.any fun f=>!D2 f)=!(z.all D2):=by rw [List.not_all_eq_any_not]
 rw [e] at ct
 cases hz:z.all D2<;>rw [hz] at ct<;>
 ·(refine a8 a7 Tryz.func109 rfl (by decide) ?_;(conv=>whnf);repeat ((first|refine b0x ?_|refine zy ?_);conv=>whnf))
  repeat' first|(refine zd ?_ ?_<;>intro h<;>first|exact zc h|(exfalso;omega)|conv=>whnf)|((first|refine zz ?_|refine qp ct ?_|refine zy ?_);conv=>whnf)
  all_goals exact d8 rfl
theorem a64 {n:Int}:∀{l:List (Int × Rat)} {last:Int},j1 last n l=true→∀t ∈ l,last<t.1∧t.1<n
 |[],_,_,t,ht=>by cases ht
 |u::r,last,h,t,ht=>by
  unfold j1 at h
  simp only [Bool.and_eq_true,decide_eq_true_eq] at h
  rcases List.mem_cons.1 ht with rfl|ht
  ·exact ⟨h.1.1.1,h.1.1.2⟩
  ·have:=a64 h.2 t ht
   omega
end
section
structure Fd where
 V:Nat→Rat
 A:Nat→Nat→Rat
 G:Nat→Rat
 O:Nat→Nat
 F:Nat→Nat
namespace Fd
def pRow (D:Fd) (r s j:Nat):Rat:=if j=s then 1 / D.A r s else D.A r j / D.A r s
def exch (D:Fd) (r s:Nat):Fd where
 V:=fun i=>if i=r then D.V r / D.A r s else D.V i - D.A i s*(D.V r / D.A r s)
 A:=fun i j=>if i=r then D.pRow r s j else if j=s then 0 - D.A i s*D.pRow r s s else D.A i j - D.A i s*D.pRow r s j
 G:=fun j=>if j=s then 0 - D.G s*D.pRow r s s else D.G j - D.G s*D.pRow r s j
 O:=fun i=>if i=r then D.F s else D.O i
 F:=fun j=>if j=s then D.O r else D.F j
end Fd
theorem D8 {f:Nat→Rat} {s:Nat}:∀{n:Nat},s<n→g7 f n=g7 (fun j=>if j=s then 0 else f j) n+f s
 |0,h=>by omega
 |n+1,h=>by
  simp only [g7]
  by_cases hs:s=n
  ·subst hs
   rw [if_pos rfl,g4 (n:=s) (f:=fun j=>if j=s then 0 else f j) (g:=f) fun m hm=>by rw [if_neg (by omega)]]
   grind
  ·rw [if_neg (show ¬n=s by omega),D8 (f:=f) (s:=s) (n:=n) (by omega)];grind
theorem K4 {f:Nat→Rat} (k:Rat):∀n:Nat,g7 (fun j=>k*f j) n=k*g7 f n
 |0=>by simp only [g7,O4];grind
 |n+1=>by simp only [g7];rw [K4 k n];grind
theorem a3E {f g:Nat→Rat}:∀n:Nat,g7 (fun j=>f j+g j) n=g7 f n+g7 g n
 |0=>by simp only [g7,O4];grind
 |n+1=>by simp only [g7];rw [a3E n];grind
theorem w6 {f:Nat→Rat}:∀{n:Nat},(∀ j,j<n→f j=0)→g7 f n=0
 |0,_=>by simp only [g7,O4]
 |n+1,h=>by simp only [g7];rw [w6 fun j hj=>h j (by omega),h n (by omega)];grind
theorem a5U {f:Nat→Rat}:∀{n:Nat},(∀ j,j<n→f j≤0)→g7 f n≤0
 |0,_=>by simp only [g7,O4];grind
 |n+1,h=>by
  simp only [g7]
  have h1:=a5U (f:=f) (n:=n) fun j hj=>h j (by omega)
  have h2:=h n (by omega)
  grind
theorem b43 {f:Nat→Rat} {n s:Nat} (h:∀j,j<n→f j≤0) (hs:s<n) (h0:f s<0):g7 f n<0:=by
 rw [D8 hs]
 have:=a5U (f:=fun j=>if j=s then 0 else f j) (n:=n) fun j hj=>by split;grind;exact h j hj
 grind
theorem b37 {f:Nat→Rat} {n s:Nat} (h:∀j,j<n→0≤f j) (hs:s<n) (h0:0<f s):0<g7 f n:=by
 rw [D8 hs]
 have:=a5i (f:=fun j=>if j=s then 0 else f j) (n:=n) fun j hj=>by
  by_cases hj2:j=s
  ·simp only [hj2,if_true];grind
  ·simp only [if_neg hj2];exact h j hj
 grind
def Ids (m n:Nat) (D:Fd) (y:Nat→Rat) (c:Rat):Prop:=∀i,i<m→y (D.O i)=c*D.V i - g7 (fun j=>D.A i j*y (D.F j)) n
theorem a8J {D:Fd} {r s n:Nat} {y:Nat→Rat} (hs:s<n) (f:Nat→Rat) (f':Nat→Rat) (k:Rat) (hf:∀j,j≠s→f' j=f j - k*D.pRow r s j):
 g7 (fun j=>f' j*y ((D.exch r s).F j)) n=g7 (fun j=>if j=s then 0 else f j*y (D.F j)) n - k*g7 (fun j=>if j=s then 0 else D.pRow r s j*y (D.F j)) n+f' s*y (D.O r):=by
 rw [D8 hs]
 have h1:(D.exch r s).F s=D.O r:=by show (if s=s then D.O r else D.F s)=_;rw [if_pos rfl]
 rw [h1]
 have h2:g7 (fun j=>if j=s then 0 else f' j*y ((D.exch r s).F j)) n=g7 (fun j=>(if j=s then 0 else f j*y (D.F j))+(-k)*(if j=s then 0 else D.pRow r s j*y (D.F j))) n:=g4 fun j hj=>by
  by_cases h:j=s
  ·rw [if_pos h,if_pos h,if_pos h];grind
  ·rw [if_neg h,if_neg h,if_neg h,hf j h]
   have:(D.exch r s).F j=D.F j:=by show (if j=s then D.O r else D.F j)=_;rw [if_neg h]
   rw [this];grind
 rw [h2,a3E,K4];grind
theorem a8c {D:Fd} {r s n:Nat} {y:Nat→Rat} {c:Rat} (hs:s<n) (hp:D.A r s≠0):
 y (D.O r)=c*D.V r - g7 (fun j=>D.A r j*y (D.F j)) n↔y (D.F s)=c*(D.V r / D.A r s) - g7 (fun j=>if j=s then 0 else D.pRow r s j*y (D.F j)) n - 1 / D.A r s*y (D.O r):=by
 have e1:g7 (fun j=>D.A r j*y (D.F j)) n=D.A r s*g7 (fun j=>if j=s then 0 else D.pRow r s j*y (D.F j)) n+D.A r s*y (D.F s):=by
  rw [D8 hs,←K4]
  congr 1
  refine g4 fun j hj=>?_
  by_cases h:j=s
  ·simp only [if_pos h];grind
  ·simp only [if_neg h]
   unfold Fd.pRow
   rw [if_neg h];grind
 rw [e1]
 generalize g7 (fun j=>if j=s then 0 else D.pRow r s j*y (D.F j)) n=R
 generalize y (D.F s)=a
 generalize y (D.O r)=b
 generalize D.V r=v
 generalize D.A r s=p at *
 constructor
 ·intro h;rw [h];grind
 ·intro h;rw [h];grind
theorem a8L {m n:Nat} {D:Fd} {r s:Nat} {y:Nat→Rat} {c:Rat} (hr:r<m) (hs:s<n) (hp:D.A r s≠0):Ids m n D y c↔Ids m n (D.exch r s) y c:=by
 have hO:(D.exch r s).O r=D.F s:=by show (if r=r then D.F s else D.O r)=_;rw [if_pos rfl]
 have hV:(D.exch r s).V r=D.V r / D.A r s:=by show (if r=r then _ else _)=_;rw [if_pos rfl]
 have hA:∀j,(D.exch r s).A r j=D.pRow r s j:=fun j=>by show (if r=r then _ else _)=_;rw [if_pos rfl]
 have hps:D.pRow r s s=1 / D.A r s:=by unfold Fd.pRow;rw [if_pos rfl]
 have rowr:(y ((D.exch r s).O r)=c*(D.exch r s).V r - g7 (fun j=>(D.exch r s).A r j*y ((D.exch r s).F j)) n)↔y (D.O r)=c*D.V r - g7 (fun j=>D.A r j*y (D.F j)) n:=by
  rw [a8c hs hp,hO,hV]
  have h:=a8J (D:=D) (r:=r) (y:=y) hs (fun _=>0) ((D.exch r s).A r) (-1) (fun j hj=>by rw [hA];grind)
  rw [h,hA,hps,w6 (f:=fun j=>if j=s then 0 else 0*y (D.F j)) (fun j _=>by split<;>grind)]
  constructor
  ·intro h;rw [h];grind
  ·intro h;rw [h];grind
 have rowi:∀i,i≠r→y (D.O r)=c*D.V r - g7 (fun j=>D.A r j*y (D.F j)) n→
  ((y ((D.exch r s).O i)=c*(D.exch r s).V i - g7 (fun j=>(D.exch r s).A i j*y ((D.exch r s).F j)) n)↔y (D.O i)=c*D.V i - g7 (fun j=>D.A i j*y (D.F j)) n):=fun i hi h0=>by
  rw [a8c hs hp] at h0
  have h1:(D.exch r s).O i=D.O i:=by show (if i=r then _ else _)=_;rw [if_neg hi]
  have h2:(D.exch r s).V i=D.V i - D.A i s*(D.V r / D.A r s):=by show (if i=r then _ else _)=_;rw [if_neg hi]
  have h3:∀j,j≠s→(D.exch r s).A i j=D.A i j - D.A i s*D.pRow r s j:=fun j hj=>by show (if i=r then _ else _)=_;rw [if_neg hi,if_neg hj]
  have h4:(D.exch r s).A i s=0 - D.A i s*D.pRow r s s:=by show (if i=r then _ else _)=_;rw [if_neg hi,if_pos rfl]
  rw [h1,h2,a8J hs (D.A i) ((D.exch r s).A i) (D.A i s) h3,h4,hps,D8 (f:=fun j=>D.A i j*y (D.F j)) hs,h0]
  constructor
  ·intro h;rw [h];grind
  ·intro h;rw [h];grind
 constructor
 ·intro h i hi
  by_cases hir:i=r
  ·subst hir;exact rowr.2 (h i hi)
  ·exact (rowi i hir (h r hr)).2 (h i hi)
 ·intro h i hi
  have h0:=rowr.1 (h r hr)
  by_cases hir:i=r
  ·subst hir;exact h0
  ·exact (rowi i hir h0).1 (h i hi)
def Y6 (n:Nat) (D:Fd) (g0:Nat→Rat) (m:Nat) (z:Rat):Prop:=∀y c,Ids m n D y c→g7 (fun j=>g0 j*y j) n=c*z+g7 (fun j=>D.G j*y (D.F j)) n
theorem af8 {m n:Nat} {D:Fd} {r s:Nat} {g0:Nat→Rat} {z:Rat} (hr:r<m) (hs:s<n) (hp:D.A r s≠0) (h:Y6 n D g0 m z):Y6 n (D.exch r s) g0 m (z+D.G s*(D.V r / D.A r s)):=by
 intro y c hy
 have hy:=(a8L hr hs hp).2 hy
 rw [h y c hy]
 have h0:=(a8c hs hp).1 (hy r hr)
 have hps:D.pRow r s s=1 / D.A r s:=by unfold Fd.pRow;rw [if_pos rfl]
 have h3:∀j,j≠s→(D.exch r s).G j=D.G j - D.G s*D.pRow r s j:=fun j hj=>by show (if j=s then _ else _)=_;rw [if_neg hj]
 have h4:(D.exch r s).G s=0 - D.G s*D.pRow r s s:=by show (if s=s then _ else _)=_;rw [if_pos rfl]
 rw [a8J hs D.G (D.exch r s).G (D.G s) h3,h4,hps,D8 (f:=fun j=>D.G j*y (D.F j)) hs,h0]
 grind
end
section
def a9Q (f:Nat→Nat) (w:Nat):Nat→Option Nat
 |0=>none
 |k+1=>match a9Q f w k with
  |some i=>some i
  |none=>if f k=w then some k else none
theorem a3F {f:Nat→Nat} {w:Nat}:∀{k i:Nat},a9Q f w k=some i→i<k∧f i=w
 |0,i,h=>by cases h
 |k+1,i,h=>by
  unfold a9Q at h
  split at h
  ·rename_i i' hi;injection h with h;subst h;have:=a3F hi;exact ⟨by omega,this.2⟩
  ·split at h
   ·injection h with h;subst h;exact ⟨by omega,by assumption⟩
   ·cases h
theorem a6M {f:Nat→Nat} {w:Nat}:∀{k:Nat},a9Q f w k=none→∀i,i<k→f i≠w
 |0,_,i,hi=>by omega
 |k+1,h,i,hi=>by
  unfold a9Q at h
  split at h
  ·cases h
  ·rename_i hn
   split at h
   ·cases h
   ·by_cases hik:i=k
    ·subst hik;assumption
    ·exact a6M hn i (by omega)
structure Q5 (m n:Nat) (D:Fd):Prop where
 oi:∀i i',i<m→i'<m→D.O i=D.O i'→i=i'
 fi:∀j j',j<n→j'<n→D.F j=D.F j'→j=j'
 of:∀i j,i<m→j<n→D.O i≠D.F j
 all:∀w,w<n+m→(∃ i,i<m∧D.O i=w)∨(∃ j,j<n∧D.F j=w)
 ob:∀i,i<m→D.O i<n+m
 fb:∀j,j<n→D.F j<n+m
theorem a6C {D:Fd} {r s i:Nat}:(D.exch r s).O i=if i=r then D.F s else D.O i:=rfl
theorem a1y {D:Fd} {r s j:Nat}:(D.exch r s).F j=if j=s then D.O r else D.F j:=rfl
theorem ad9 {m n:Nat} {D:Fd} {r s:Nat} (hr:r<m) (hs:s<n) (h:Q5 m n D):Q5 m n (D.exch r s) where
 oi:=fun i i' hi hi' he=>by
  rw [a6C,a6C] at he
  by_cases h1:i=r<;>by_cases h2:i'=r
  ·omega
  ·rw [if_pos h1,if_neg h2] at he;exact absurd he.symm (h.of i' s hi' hs)
  ·rw [if_neg h1,if_pos h2] at he;exact absurd he (h.of i s hi hs)
  ·rw [if_neg h1,if_neg h2] at he;exact h.oi i i' hi hi' he
 fi:=fun j j' hj hj' he=>by
  rw [a1y,a1y] at he
  by_cases h1:j=s<;>by_cases h2:j'=s
  ·omega
  ·rw [if_pos h1,if_neg h2] at he;exact absurd he (h.of r j' hr hj')
  ·rw [if_neg h1,if_pos h2] at he;exact absurd he.symm (h.of r j hr hj)
  ·rw [if_neg h1,if_neg h2] at he;exact h.fi j j' hj hj' he
 of:=fun i j hi hj he=>by
  rw [a6C,a1y] at he
  by_cases h1:i=r<;>by_cases h2:j=s
  ·rw [if_pos h1,if_pos h2] at he;exact h.of r s hr hs he.symm
  ·rw [if_pos h1,if_neg h2] at he;exact h2 (h.fi s j hs hj he).symm
  ·rw [if_neg h1,if_pos h2] at he;exact h1 (h.oi i r hi hr he)
  ·rw [if_neg h1,if_neg h2] at he;exact h.of i j hi hj he
 all:=fun w hw=>by
  rcases h.all w hw with ⟨i,hi,he⟩|⟨j,hj,he⟩
  ·by_cases h1:i=r
   ·exact .inr ⟨s,hs,by rw [a1y,if_pos rfl,←h1];exact he⟩
   ·exact .inl ⟨i,hi,by rw [a6C,if_neg h1];exact he⟩
  ·by_cases h1:j=s
   ·exact .inl ⟨r,hr,by rw [a6C,if_pos rfl,←h1];exact he⟩
   ·exact .inr ⟨j,hj,by rw [a1y,if_neg h1];exact he⟩
 ob:=fun i hi=>by rw [a6C];split;exact h.fb s hs;exact h.ob i hi
 fb:=fun j hj=>by rw [a1y];split;exact h.ob r hr;exact h.fb j hj
def G0 (m n:Nat) (D:Fd) (c:Rat) (t:Nat→Rat) (w:Nat):Rat:=match a9Q D.F w n with
 |some j=>t j
 |none=>match a9Q D.O w m with
  |some i=>c*D.V i - g7 (fun j=>D.A i j*t j) n
  |none=>0
theorem X4 {m n:Nat} {D:Fd} (h:Q5 m n D) {c:Rat} {t:Nat→Rat} {j:Nat} (hj:j<n):G0 m n D c t (D.F j)=t j:=by
 unfold G0
 cases hi:a9Q D.F (D.F j) n with
 |none=>exact absurd rfl (a6M hi j hj)
 |some i=>obtain ⟨h1,h2⟩:=a3F hi;rw [h.fi i j h1 hj h2]
theorem a2I {m n:Nat} {D:Fd} (h:Q5 m n D) {c:Rat} {t:Nat→Rat} {i:Nat} (hi:i<m):G0 m n D c t (D.O i)=c*D.V i - g7 (fun j=>D.A i j*t j) n:=by
 unfold G0
 cases hj:a9Q D.F (D.O i) n with
 |some j=>obtain ⟨h1,h2⟩:=a3F hj;exact absurd h2.symm (h.of i j hi h1)
 |none=>
  cases hk:a9Q D.O (D.O i) m with
  |none=>exact absurd rfl (a6M hk i hi)
  |some k=>obtain ⟨h1,h2⟩:=a3F hk;rw [h.oi k i h1 hi h2]
theorem Q1 {m n:Nat} {D:Fd} (h:Q5 m n D) (c:Rat) (t:Nat→Rat):Ids m n D (G0 m n D c t) c:=fun i hi=>by
 rw [a2I h hi]
 congr 1
 exact g4 fun j hj=>by rw [X4 h hj]
def R7 (f:Nat→Nat) (p:Nat→Bool):Nat→Option Nat
 |0=>none
 |k+1=>match R7 f p k with
  |none=>if p k then some k else none
  |some a=>if p k && decide (f k<f a) then some k else some a
theorem a02 {f:Nat→Nat} {p:Nat→Bool}:∀{k:Nat},R7 f p k=none→∀i,i<k→p i=false
 |0,_,i,hi=>by omega
 |k+1,h,i,hi=>by
  unfold R7 at h
  split at h
  ·rename_i hn
   split at h
   ·cases h
   ·rename_i hp
    by_cases hik:i=k
    ·subst hik;simpa using hp
    ·exact a02 hn i (by omega)
  ·split at h<;>cases h
theorem F8 {f:Nat→Nat} {p:Nat→Bool}:∀{k a:Nat},R7 f p k=some a→a<k∧p a=true∧∀i,i<k→p i=true→f a≤f i
 |0,a,h=>by cases h
 |k+1,a,h=>by
  unfold R7 at h
  split at h
  ·rename_i hn
   split at h
   ·rename_i hp
    injection h with h;subst h
    refine ⟨by omega,hp,fun i hi hpi=>?_⟩
    by_cases hik:i=k
    ·subst hik;omega
    ·rw [a02 hn i (by omega)] at hpi;cases hpi
   ·cases h
  ·rename_i b hb
   obtain ⟨h1,h2,h3⟩:=F8 hb
   split at h
   ·rename_i hc
    injection h with h;subst h
    simp only [Bool.and_eq_true,decide_eq_true_eq] at hc
    refine ⟨by omega,hc.1,fun i hi hpi=>?_⟩
    by_cases hik:i=k
    ·subst hik;omega
    ·have:=h3 i (by omega) hpi;omega
   ·rename_i hc
    injection h with h;subst h
    refine ⟨by omega,h2,fun i hi hpi=>?_⟩
    by_cases hik:i=k
    ·subst hik
     have:¬(f i<f b):=fun h=>hc (by simp [hpi,h])
     omega
    ·exact h3 i (by omega) hpi
inductive b2c where
 |best
 |row (r:Nat)
 |col (s:Nat)
 |next (r s:Nat)
def a0g (n:Nat) (D:Fd) (r:Nat):b2c:=match R7 D.F (fun j=>decide (D.A r j<0)) n with
 |none=>.row r
 |some s=>.next r s
def a0j (m:Nat) (D:Fd) (s:Nat):b2c:=match R7 D.O (fun i=>decide (0<D.A i s)) m with
 |none=>.col s
 |some r=>.next r s
def B9 (m n:Nat) (D:Fd):b2c:=match R7 D.O (fun i=>decide (D.V i<0)) m,R7 D.F (fun j=>decide (0<D.G j)) n with
 |none,none=>.best
 |some r,none=>a0g n D r
 |none,some s=>a0j m D s
 |some r,some s=>if D.O r<D.F s then a0g n D r else a0j m D s
structure ad0 (m n:Nat) (D:Fd) (r s:Nat):Prop where
 v:D.V r<0
 a:D.A r s<0
 f:∀j,j<n→D.F j<D.F s→0≤D.A r j
 o:∀i,i<m→D.O i<D.O r→0≤D.V i
 g:∀j,j<n→D.F j<D.O r→D.G j≤0
structure aa6 (m n:Nat) (D:Fd) (r s:Nat):Prop where
 g:0<D.G s
 a:0<D.A r s
 o:∀i,i<m→D.O i<D.O r→D.A i s≤0
 f:∀j,j<n→D.F j<D.F s→D.G j≤0
 v:∀i,i<m→D.O i<D.F s→0≤D.V i
theorem au4 {m n:Nat} {D:Fd} {r r' s:Nat} (hr:R7 D.O (fun i=>decide (D.V i<0)) m=some r) (hg:∀j,j<n→D.F j<D.O r→D.G j≤0) (h:a0g n D r=.next r' s):r'<m∧s<n∧ad0 m n D r' s:=by
 obtain ⟨a1,a2,a3⟩:=F8 hr
 unfold a0g at h
 split at h
 ·cases h
 ·rename_i s' hs'
  injection h with h1 h2;subst h1;subst h2
  obtain ⟨b1,b2,b3⟩:=F8 hs'
  refine ⟨a1,b1,of_decide_eq_true a2,of_decide_eq_true b2,fun j hj hlt=>?_,fun i hi hlt=>?_,hg⟩
  ·exact Rat.not_lt.1 fun h=>by have:=b3 j hj (decide_eq_true h);omega
  ·exact Rat.not_lt.1 fun h=>by have:=a3 i hi (decide_eq_true h);omega
theorem aA5 {m n:Nat} {D:Fd} {s s' r:Nat} (hs:R7 D.F (fun j=>decide (0<D.G j)) n=some s) (hv:∀i,i<m→D.O i<D.F s→0≤D.V i) (h:a0j m D s=.next r s'):r<m∧s'<n∧aa6 m n D r s':=by
 obtain ⟨a1,a2,a3⟩:=F8 hs
 unfold a0j at h
 split at h
 ·cases h
 ·rename_i r' hr'
  injection h with h1 h2;subst h1;subst h2
  obtain ⟨b1,b2,b3⟩:=F8 hr'
  refine ⟨b1,a1,of_decide_eq_true a2,of_decide_eq_true b2,fun i hi hlt=>?_,fun j hj hlt=>?_,hv⟩
  ·exact Rat.not_lt.1 fun h=>by have:=b3 i hi (decide_eq_true h);omega
  ·exact Rat.not_lt.1 fun h=>by have:=a3 j hj (decide_eq_true h);omega
theorem a6t {m n:Nat} {D:Fd} {r s:Nat} (h:B9 m n D=.next r s):r<m∧s<n∧(ad0 m n D r s∨aa6 m n D r s):=by
 unfold B9 at h
 cases hr:R7 D.O (fun i=>decide (D.V i<0)) m with
 |none=>
  have hv:∀i,i<m→0≤D.V i:=fun i hi=>Rat.not_lt.1 (of_decide_eq_false (a02 hr i hi))
  cases hs:R7 D.F (fun j=>decide (0<D.G j)) n with
  |none=>rw [hr,hs] at h;cases h
  |some s'=>
   rw [hr,hs] at h
   obtain ⟨q1,q2,q3⟩:=aA5 hs (fun i hi _=>hv i hi) h
   exact ⟨q1,q2,.inr q3⟩
 |some r'=>
  obtain ⟨a1,a2,a3⟩:=F8 hr
  cases hs:R7 D.F (fun j=>decide (0<D.G j)) n with
  |none=>
   rw [hr,hs] at h
   obtain ⟨q1,q2,q3⟩:=au4 (n:=n) hr (fun j hj _=>Rat.not_lt.1 (of_decide_eq_false (a02 hs j hj))) h
   exact ⟨q1,q2,.inl q3⟩
  |some s'=>
   rw [hr,hs] at h
   obtain ⟨b1,b2,b3⟩:=F8 hs
   simp only at h
   split at h
   ·rename_i hlt
    obtain ⟨q1,q2,q3⟩:=au4 (n:=n) hr (fun j hj hj2=>Rat.not_lt.1 fun h=>by have:=b3 j hj (decide_eq_true h);omega) h
    exact ⟨q1,q2,.inl q3⟩
   ·rename_i hlt
    obtain ⟨q1,q2,q3⟩:=aA5 hs (fun i hi hi2=>Rat.not_lt.1 fun h=>by have:=a3 i hi (decide_eq_true h);omega) h
    exact ⟨q1,q2,.inr q3⟩
theorem a7S {m n:Nat} {D:Fd} {r s:Nat} (h:ad0 m n D r s∨aa6 m n D r s):D.A r s≠0:=by
 rcases h with h|h
 ·have:=h.a;intro h0;rw [h0] at this;exact absurd this (by grind)
 ·have:=h.a;intro h0;rw [h0] at this;exact absurd this (by grind)
theorem b22 {m n:Nat} {D D':Fd} {g0:Nat→Rat} {z z':Rat} (hP:Q5 m n D) (hP':Q5 m n D') (hI:∀y c,Ids m n D y c↔Ids m n D' y c) (hG:Y6 n D g0 m z) (hG':Y6 n D' g0 m z')
 {r s r' s' q:Nat} (hr:r<m) (hs:s<n) (hr':r'<m) (hs':s'<n) (h:ad0 m n D r s∨aa6 m n D r s) (h':ad0 m n D' r' s'∨aa6 m n D' r' s') (hq:D.F s=q) (hq':D'.O r'=q)
 (hrq:D.O r<q) (hsq:D'.F s'<q) (hst:∀w,q<w→((∃ j,j<n∧D.F j=w)↔∃j,j<n∧D'.F j=w)):False:=by
 have hfree:∀j,j<n→q<D.F j→∃k,k<n∧D'.F k=D.F j:=fun j hj hlt=>(hst _ hlt).1 ⟨j,hj,rfl⟩
 -- a vector of the second dictionary
 obtain ⟨c,y,hc,hy,ypos,yq,yfree,hobj⟩:∃(c:Rat) (y:Nat→Rat),(c=0∨c=1)∧Ids m n D' y c∧(∀ w,w<n+m→w<q→0≤y w)∧y q<0∧(∀ j,j<n→q<D.F j→y (D.F j)=0)∧
  ((c=0∧0<g7 (fun j=>g0 j*y j) n)∨(c=1∧g7 (fun j=>g0 j*y j) n=z'∧∀j,j<n→D'.F j<q→D'.G j≤0)):=by
  rcases h' with h'|h'
  ·refine ⟨1,G0 m n D' 1 (fun _=>0),.inr rfl,Q1 hP' 1 _,fun w hw hwq=>?_,?_,fun j hj hlt=>?_,.inr ⟨rfl,?_,fun j hj hlt=>h'.g j hj (by rw [hq'];exact hlt)⟩⟩
   ·rcases hP'.all w hw with ⟨i,hi,rfl⟩|⟨j,hj,rfl⟩
    ·rw [a2I hP' hi,w6 fun j _=>by grind]
     have:=h'.o i hi (by rw [hq'];exact hwq)
     grind
    ·rw [X4 hP' hj];grind
   ·rw [← hq',a2I hP' hr',w6 fun j _=>by grind]
    have:=h'.v
    grind
   ·obtain ⟨k,hk,he⟩:=hfree j hj hlt
    rw [← he,X4 hP' hk]
   ·rw [hG' _ 1 (Q1 hP' 1 _),w6 fun j hj=>by rw [X4 hP' hj];grind];grind
  ·refine ⟨0,G0 m n D' 0 (fun j=>if j=s' then 1 else 0),.inl rfl,Q1 hP' 0 _,fun w hw hwq=>?_,?_,fun j hj hlt=>?_,.inl ⟨rfl,?_⟩⟩
   ·have hone:∀i,g7 (fun j=>D'.A i j*(if j=s' then 1 else 0)) n=D'.A i s':=fun i=>by
     rw [D8 hs',w6 fun j _=>by by_cases hj:j=s'<;>simp [hj]]
     simp;grind
    rcases hP'.all w hw with ⟨i,hi,rfl⟩|⟨j,hj,rfl⟩
    ·rw [a2I hP' hi,hone]
     have:=h'.o i hi (by rw [hq'];exact hwq)
     grind
    ·rw [X4 hP' hj];split<;>grind
   ·have hone:g7 (fun j=>D'.A r' j*(if j=s' then 1 else 0)) n=D'.A r' s':=by
     rw [D8 hs',w6 fun j _=>by by_cases hj:j=s'<;>simp [hj]]
     simp;grind
    rw [← hq',a2I hP' hr',hone]
    have:=h'.a
    grind
   ·obtain ⟨k,hk,he⟩:=hfree j hj hlt
    rw [← he,X4 hP' hk,if_neg]
    intro hks
    rw [hks] at he;omega
   ·rw [hG' _ 0 (Q1 hP' 0 _)]
    have:g7 (fun j=>D'.G j*G0 m n D' 0 (fun j=>if j=s' then 1 else 0) (D'.F j)) n=D'.G s':=by
     rw [g4 (g:=fun j=>D'.G j*(if j=s' then 1 else 0)) fun j hj=>by rw [X4 hP' hj],D8 hs',w6 fun j _=>by by_cases hj:j=s'<;>simp [hj]]
     simp;grind
    rw [this]
    have:=h'.g
    grind
 have hy2:=(hI y c).2 hy
 -- the terms of the first dictionary
 have hF:∀j,j<n→(D.F j<q∧0≤y (D.F j))∨(j=s∧y (D.F j)<0)∨y (D.F j)=0:=fun j hj=>by
  rcases Nat.lt_trichotomy (D.F j) q with hlt|heq|hgt
  ·exact .inl ⟨hlt,ypos _ (hP.fb j hj) hlt⟩
  ·refine .inr (.inl ⟨hP.fi j s hj hs (by omega),by rw [heq];exact yq⟩)
  ·exact .inr (.inr (yfree j hj hgt))
 rcases h with h|h
 · -- by its row
   have hid:=hy2 r hr
   have h1:0<g7 (fun j=>D.A r j*y (D.F j)) n:=b37 (s:=s) (fun j hj=>by
    rcases hF j hj with ⟨a,b⟩|⟨rfl,b⟩|b
    ·exact Rat.mul_nonneg (h.f j hj (by rw [hq];exact a)) b
    ·have:=h.a;exact Rat.le_of_lt (by have:=Rat.mul_pos (a:=-D.A r j) (b:=-y (D.F j)) (by grind) (by grind);grind)
    ·rw [b];grind) hs (by
    have:=h.a
    have hyq:y (D.F s)<0:=by rw [hq];exact yq
    have:=Rat.mul_pos (a:=-D.A r s) (b:=-y (D.F s)) (by grind) (by grind);grind)
   have h2:0≤y (D.O r):=ypos _ (hP.ob r hr) hrq
   have h3:=h.v
   rcases hc with rfl|rfl
   ·grind
   ·grind
 · -- by its goal
   have h1:g7 (fun j=>D.G j*y (D.F j)) n<0:=b43 (s:=s) (fun j hj=>by
    rcases hF j hj with ⟨a,b⟩|⟨rfl,b⟩|b
    ·have:=h.f j hj (by rw [hq];exact a)
     have:=Rat.mul_nonneg (a:=-D.G j) (b:=y (D.F j)) (by grind) b
     grind
    ·have:=h.g
     have:=Rat.mul_pos (a:=D.G j) (b:=-y (D.F j)) (by grind) (by grind)
     grind
    ·rw [b];grind) hs (by
    have:=h.g
    have hyq:y (D.F s)<0:=by rw [hq];exact yq
    have:=Rat.mul_pos (a:=D.G s) (b:=-y (D.F s)) (by grind) (by grind)
    grind)
   have hg:=hG y c hy2
   rcases hobj with ⟨rfl,ho⟩|⟨rfl,ho,hneg⟩
   ·grind
   · -- the basic point of the first dictionary
     have k1:=hG (G0 m n D 1 (fun _=>0)) 1 (Q1 hP 1 _)
     rw [w6 (f:=fun j=>D.G j*G0 m n D 1 (fun _=>0) (D.F j)) fun j hj=>by rw [X4 hP hj];grind] at k1
     have k2:=hG' (G0 m n D 1 (fun _=>0)) 1 ((hI _ 1).1 (Q1 hP 1 _))
     have k3:g7 (fun j=>D'.G j*G0 m n D 1 (fun _=>0) (D'.F j)) n≤0:=a5U fun j hj=>by
      have hv:∀w,w<n+m→w<q→0≤G0 m n D 1 (fun _=>0) w:=fun w hw hwq=>by
       rcases hP.all w hw with ⟨i,hi,rfl⟩|⟨k,hk,rfl⟩
       ·rw [a2I hP hi,w6 fun j _=>by grind]
        have:=h.v i hi (by rw [hq];exact hwq)
        grind
       ·rw [X4 hP hk];grind
      rcases Nat.lt_trichotomy (D'.F j) q with hlt|heq|hgt
      ·have a1:=hneg j hj hlt
       have a2:=hv _ (hP'.fb j hj) hlt
       have:=Rat.mul_nonneg (a:=-D'.G j) (by grind) a2
       grind
      ·exact absurd (hq'.trans heq.symm) (hP'.of r' j hr' hj)
      ·obtain ⟨k,hk,he⟩:=(hst _ hgt).2 ⟨j,hj,rfl⟩
       rw [← he,X4 hP hk];grind
     grind
end
section
def F0 (m n:Nat) (D:Fd):Option Fd:=match B9 m n D with
 |.next r s=>some (D.exch r s)
 |_=>none
theorem a9x {m n:Nat} {D D':Fd} (h:F0 m n D=some D'):∃r s,B9 m n D=.next r s∧D'=D.exch r s:=by
 unfold F0 at h
 split at h
 ·rename_i r s hs;injection h with h;exact ⟨r,s,hs,h.symm⟩
 ·cases h
theorem a8b {P:Nat→Nat→Prop}:∀N:Nat,(∀ w,w<N→∃T,∀k,T≤k→¬P k w)→∃T,∀w,w<N→∀k,T≤k→¬P k w
 |0,_=>⟨0,fun w hw=>by omega⟩
 |N+1,h=>by
  obtain ⟨T,hT⟩:=a8b (P:=P) N fun w hw=>h w (by omega)
  obtain ⟨T',hT'⟩:=h N (by omega)
  refine ⟨max T T',fun w hw k hk=>?_⟩
  by_cases hwn:w=N
  ·subst hwn;exact hT' k (by omega)
  ·exact hT w (by omega) k (by omega)
theorem a9o {p:Nat→Prop}:∀N:Nat,(∃ w,w<N∧p w)→∃q,q<N∧p q∧∀w,q<w→w<N→¬p w
 |0,⟨w,hw,_⟩=>by omega
 |N+1,⟨w,hw,hp⟩=>by
  by_cases h:p N
  ·exact ⟨N,by omega,h,fun w h1 h2=>by omega⟩
  ·have hwN:w≠N:=fun e=>h (e ▸ hp)
   obtain ⟨q,h1,h2,h3⟩:=a9o N ⟨w,by omega,hp⟩
   refine ⟨q,by omega,h2,fun w h4 h5=>?_⟩
   by_cases hw2:w=N
   ·subst hw2;exact h
   ·exact h3 w h4 (by omega)
theorem a2v (p:Nat→Prop) (h:∃n,p n):∃n,p n∧∀m,p m→n≤m:=by
 obtain ⟨n,hn⟩:=h
 induction n using Nat.strongRecOn with
 |_ n ih=>
  by_cases hex:∃m,m<n∧p m
  ·obtain ⟨m,hm,hp⟩:=hex
   exact ih m hm hp
  ·exact ⟨n,hn,fun m hm=>Nat.le_of_not_lt fun h=>hex ⟨m,h,hm⟩⟩
theorem b5B {m n:Nat} {f:Nat→Fd} {g0:Nat→Rat} (hP0:Q5 m n (f 0)) (hG0:∃z,Y6 n (f 0) g0 m z) (hf:∀k,F0 m n (f k)=some (f (k+1))):False:=by
 have hstep:∀k,∃rs:Nat × Nat,rs.1<m∧rs.2<n∧(ad0 m n (f k) rs.1 rs.2∨aa6 m n (f k) rs.1 rs.2)∧f (k+1)=(f k).exch rs.1 rs.2:=fun k=>by
  obtain ⟨r,s,h1,h2⟩:=a9x (hf k)
  obtain ⟨a,b,c⟩:=a6t h1
  exact ⟨(r,s),a,b,c,h2⟩
 obtain ⟨W,hW⟩:=Classical.axiomOfChoice hstep
 have hP:∀k,Q5 m n (f k):=fun k=>by
  induction k with
  |zero=>exact hP0
  |succ k ih=>obtain ⟨a,b,_,d⟩:=hW k;rw [d];exact ad9 a b ih
 have hI:∀k y c,Ids m n (f 0) y c↔Ids m n (f k) y c:=fun k=>by
  induction k with
  |zero=>exact fun _ _=>Iff.rfl
  |succ k ih=>obtain ⟨a,b,c',d⟩:=hW k;rw [d];exact fun y c=>(ih y c).trans (a8L a b (a7S c'))
 have hG:∀k,∃z,Y6 n (f k) g0 m z:=fun k=>by
  induction k with
  |zero=>exact hG0
  |succ k ih=>obtain ⟨a,b,c',d⟩:=hW k;obtain ⟨z,hz⟩:=ih;rw [d];exact ⟨_,af8 a b (a7S c') hz⟩
 let E:Nat→Nat:=fun k=>(f k).F (W k).2
 let L:Nat→Nat:=fun k=>(f k).O (W k).1
 have hE:∀k,E k<n+m:=fun k=>(hP k).fb _ (hW k).2.1
 have hL:∀k,L k<n+m:=fun k=>(hP k).ob _ (hW k).1
 have hEL:∀k,L k≠E k:=fun k=>(hP k).of _ _ (hW k).1 (hW k).2.1
 let fre:Nat→Nat→Prop:=fun k w=>∃j,j<n∧(f k).F j=w
 have hfre:∀k w,w≠E k→w≠L k→(fre (k+1) w↔fre k w):=fun k w h1 h2=>by
  obtain ⟨a,b,_,d⟩:=hW k
  show (∃ j,j<n∧(f (k+1)).F j=w)↔∃j,j<n∧(f k).F j=w
  rw [d]
  constructor
  ·rintro ⟨j,hj,he⟩
   rw [a1y] at he
   by_cases hjs:j=(W k).2
   ·rw [if_pos hjs] at he;exact absurd he.symm h2
   ·rw [if_neg hjs] at he;exact ⟨j,hj,he⟩
  ·rintro ⟨j,hj,he⟩
   have hjs:j≠(W k).2:=fun h=>h1 (by rw [← he,h])
   exact ⟨j,hj,by rw [a1y,if_neg hjs];exact he⟩
 have hin:∀k,fre k (E k):=fun k=>⟨_,(hW k).2.1,rfl⟩
 have hout:∀k,¬fre k (L k):=fun k=>by rintro ⟨j,hj,he⟩;exact (hP k).of _ _ (hW k).1 hj he.symm
 have hin2:∀k,fre (k+1) (L k):=fun k=>by
  obtain ⟨a,b,_,d⟩:=hW k
  show ∃j,j<n∧(f (k+1)).F j=L k
  rw [d];exact ⟨_,b,by rw [a1y,if_pos rfl]⟩
 have hout2:∀k,¬fre (k+1) (E k):=fun k=>by
  obtain ⟨a,b,_,d⟩:=hW k
  show ¬∃j,j<n∧(f (k+1)).F j=E k
  rw [d]
  rintro ⟨j,hj,he⟩
  rw [a1y] at he
  by_cases hjs:j=(W k).2
  ·rw [if_pos hjs] at he;exact hEL k he
  ·rw [if_neg hjs] at he;exact hjs ((hP k).fi _ _ hj b he)
 let mv:Nat→Nat→Prop:=fun k w=>E k=w∨L k=w
 obtain ⟨q,hqN,hio,hmax⟩:=a9o (p:=fun w=>∀T,∃k,T≤k∧mv k w) (n+m) (Classical.byContradiction fun hno=>by
  have h1:∀w,w<n+m→∃T,∀k,T≤k→¬mv k w:=fun w hw=>Classical.byContradiction fun h=>hno ⟨w,hw,fun T=>Classical.byContradiction fun h'=>h ⟨T,fun k hk hm=>h' ⟨k,hk,hm⟩⟩⟩
  obtain ⟨T,hT⟩:=a8b (P:=mv) _ h1
  exact hT _ (hE T) T (Nat.le_refl _) (.inl rfl))
 obtain ⟨T,hT⟩:∃T,∀w,q<w→∀k,T≤k→¬mv k w:=by
  obtain ⟨T,hT⟩:=a8b (P:=fun k w=>q<w∧mv k w) (n+m) fun w hw=>by
   by_cases hqw:q<w
   ·have:=hmax w hqw hw
    obtain ⟨T,hT⟩:=Classical.not_forall.1 this
    exact ⟨T,fun k hk ⟨_,hm⟩=>hT ⟨k,hk,hm⟩⟩
   ·exact ⟨0,fun k _ ⟨h,_⟩=>hqw h⟩
  refine ⟨T,fun w hqw k hk hm=>?_⟩
  have hw:w<n+m:=by rcases hm with hm|hm<;>rw [← hm];exact hE k;exact hL k
  exact hT w hw k hk ⟨hqw,hm⟩
 have hEq:∀k,T≤k→E k≤q:=fun k hk=>Nat.le_of_not_lt fun h=>hT _ h k hk (.inl rfl)
 have hLq:∀k,T≤k→L k≤q:=fun k hk=>Nat.le_of_not_lt fun h=>hT _ h k hk (.inr rfl)
 have hconst:∀w,q<w→∀d,fre (T+d) w↔fre T w:=fun w hw d=>by
  induction d with
  |zero=>exact Iff.rfl
  |succ d ih=>
   have h1:=hEq (T+d) (by omega)
   have h2:=hLq (T+d) (by omega)
   exact (hfre (T+d) w (by omega) (by omega)).trans ih
 have hsame:∀w,q<w→∀t u,T≤t→T≤u→(fre t w↔fre u w):=fun w hw t u ht hu=>by
  have h1:=hconst w hw (t - T)
  have h2:=hconst w hw (u - T)
  rw [show T+(t - T)=t by omega] at h1
  rw [show T+(u - T)=u by omega] at h2
  exact h1.trans h2.symm
 -- q enters at some time, and leaves at some time
 have hnext:∀k1,T≤k1→mv k1 q→∃k2,T≤k2∧mv k2 q∧(fre k2 q↔fre (k1+1) q):=fun k1 h1 _=>by
  obtain ⟨k2,⟨h2,h3⟩,hleast⟩:=a2v (fun k=>k1+1≤k∧mv k q) (hio (k1+1))
  refine ⟨k2,by omega,h3,?_⟩
  have key:∀d,k1+1+d≤k2→(fre (k1+1+d) q↔fre (k1+1) q):=fun d=>by
   induction d with
   |zero=>exact fun _=>Iff.rfl
   |succ d ih=>
    intro hd
    have hnm:¬mv (k1+1+d) q:=fun h=>by have:=hleast (k1+1+d) ⟨by omega,h⟩;omega
    exact (hfre (k1+1+d) q (fun h=>hnm (.inl h.symm)) (fun h=>hnm (.inr h.symm))).trans (ih (by omega))
  have:=key (k2 - (k1+1)) (by omega)
  rwa [show k1+1+(k2 - (k1+1))=k2 by omega] at this
 have hboth:∃t u,T≤t∧T≤u∧E t=q∧L u=q:=by
  obtain ⟨k1,h1,hm1⟩:=hio T
  obtain ⟨k2,h2,hm2,hs⟩:=hnext k1 h1 hm1
  rcases hm1 with hm1|hm1
  ·rcases hm2 with hm2|hm2
   ·have a:=hin k2
    rw [hm2] at a
    have b:=hout2 k1
    rw [hm1] at b
    exact absurd (hs.1 a) b
   ·exact ⟨k1,k2,h1,h2,hm1,hm2⟩
  ·rcases hm2 with hm2|hm2
   ·exact ⟨k2,k1,h2,h1,hm2,hm1⟩
   ·have a:=hout k2
    rw [hm2] at a
    have b:=hin2 k1
    rw [hm1] at b
    exact absurd (hs.2 b) a
 obtain ⟨t,u,ht,hu,het,hlu⟩:=hboth
 obtain ⟨z,hz⟩:=hG t
 obtain ⟨z',hz'⟩:=hG u
 obtain ⟨a1,a2,a3,_⟩:=hW t
 obtain ⟨b1,b2,b3,_⟩:=hW u
 have hl:L t<q:=by have:=hLq t ht;have:=hEL t;omega
 have he:E u<q:=by have:=hEq u hu;have:=hEL u;omega
 exact b22 (hP t) (hP u) (fun y c=>(hI t y c).symm.trans (hI u y c)) hz hz' a1 a2 b1 b2 a3 b3 het hlu hl he (fun w hw=>hsame w hw t u ht hu)
def itS (m n:Nat):Nat→Fd→Option Fd
 |0,D=>some D
 |k+1,D=>match F0 m n D with
  |none=>none
  |some D'=>itS m n k D'
theorem a0c {m n:Nat}:∀(k:Nat) (D:Fd),itS m n (k+1) D=(itS m n k D).bind (F0 m n)
 |0,D=>by
  show (match F0 m n D with|none=>none|some D'=>some D')=F0 m n D
  cases F0 m n D<;>rfl
 |k+1,D=>by
  show (match F0 m n D with|none=>none|some D'=>itS m n (k+1) D')=(match F0 m n D with|none=>none|some D'=>itS m n k D').bind (F0 m n)
  cases F0 m n D with
  |none=>rfl
  |some D'=>exact a0c k D'
theorem b4a {m n:Nat} {D:Fd} {g0:Nat→Rat} (hP:Q5 m n D) (hG:∃z,Y6 n D g0 m z):∃k,itS m n k D=none:=Classical.byContradiction fun h=>by
 have h1:∀k,∃D',itS m n k D=some D':=fun k=>by
  cases hk:itS m n k D with
  |none=>exact absurd ⟨k,hk⟩ h
  |some D'=>exact ⟨D',rfl⟩
 obtain ⟨f,hf⟩:=Classical.axiomOfChoice h1
 have hf:∀k,itS m n k D=some (f k):=hf
 have h0:f 0=D:=by have:=hf 0;injection this with this;exact this.symm
 refine b5B (f:=f) (g0:=g0) (by rw [h0];exact hP) (by rw [h0];exact hG) fun k=>?_
 have h2:=a0c (m:=m) (n:=n) k D
 rw [hf k,hf (k+1)] at h2
 exact h2.symm
noncomputable def a7b (m n:Nat) (D:Fd):Nat:=Classical.epsilon fun k=>itS m n k D=none∧∀j,itS m n j D=none→k≤j
theorem aE5 {m n:Nat} {D D':Fd} (h:∃k,itS m n k D=none) (hn:F0 m n D=some D'):a7b m n D'<a7b m n D:=by
 have hD:=Classical.epsilon_spec (a2v _ h)
 have h':∃k,itS m n k D'=none:=by
  obtain ⟨k,hk⟩:=h
  cases k with
  |zero=>cases hk
  |succ k=>
   have hk:(match F0 m n D with|none=>none|some D'=>itS m n k D')=none:=hk
   rw [hn] at hk;exact ⟨k,hk⟩
 have hD':=Classical.epsilon_spec (a2v _ h')
 have e:a7b m n D=Classical.epsilon fun k=>itS m n k D=none∧∀j,itS m n j D=none→k≤j:=rfl
 have e':a7b m n D'=Classical.epsilon fun k=>itS m n k D'=none∧∀j,itS m n j D'=none→k≤j:=rfl
 rw [← e] at hD
 rw [← e'] at hD'
 obtain ⟨a1,a2⟩:=hD
 obtain ⟨b1,b2⟩:=hD'
 generalize a7b m n D=k at a1 a2
 cases k with
 |zero=>cases a1
 |succ k=>
  have a1:(match F0 m n D with|none=>none|some D'=>itS m n k D')=none:=a1
  rw [hn] at a1
  have:=b2 k a1
  omega
end
section
structure EqI where
 co:Nat→Int
 rhs:Int
def a6B (k:Nat) (e:EqI) (u:Nat→Rat):Prop:=g7 (fun l=>((e.co l:Int):Rat)*u l) (k+1)=((e.rhs:Int):Rat)
theorem b3f {f g:Nat→Rat} (a b:Rat) (n:Nat):g7 (fun j=>a*f j - b*g j) n=a*g7 f n - b*g7 g n:=by
 rw [← K4 a,←K4 b]
 have:g7 (fun j=>a*f j - b*g j) n=g7 (fun j=>a*f j+(-1)*(b*g j)) n:=g4 fun j _=>by grind
 rw [this,a3E,K4 (-1)];grind
def a9k (k:Nat) (e0 e:EqI):EqI:=⟨fun l=>e0.co (k+1)*e.co l - e.co (k+1)*e0.co l,e0.co (k+1)*e.rhs - e.co (k+1)*e0.rhs⟩
theorem au7 {k:Nat} {e0 e:EqI} {u:Nat→Rat}:g7 (fun l=>(((a9k k e0 e).co l:Int):Rat)*u l) (k+1)=
 ((e0.co (k+1):Int):Rat)*g7 (fun l=>((e.co l:Int):Rat)*u l) (k+1) - ((e.co (k+1):Int):Rat)*g7 (fun l=>((e0.co l:Int):Rat)*u l) (k+1):=by
 rw [← b3f]
 refine g4 fun l _=>?_
 unfold a9k
 simp only
 rw [Rat.intCast_sub,Rat.intCast_mul,Rat.intCast_mul];grind
theorem av0 {k:Nat} {e0 e:EqI}:(((a9k k e0 e).rhs:Int):Rat)=((e0.co (k+1):Int):Rat)*((e.rhs:Int):Rat) - ((e.co (k+1):Int):Rat)*((e0.rhs:Int):Rat):=by
 unfold a9k
 simp only
 rw [Rat.intCast_sub,Rat.intCast_mul,Rat.intCast_mul]
theorem b3R {k:Nat} {e0 e:EqI} {s:Nat} (h0:(∀ l,l≤k+1→bl (e0.co l)≤s)∧bl e0.rhs≤s) (h:(∀ l,l≤k+1→bl (e.co l)≤s)∧bl e.rhs≤s):(∀ l,l≤k→bl ((a9k k e0 e).co l)≤2*s+1)∧bl (a9k k e0 e).rhs≤2*s+1:=by
 have key:∀a b c d:Int,bl a≤s→bl b≤s→bl c≤s→bl d≤s→bl (a*b - c*d)≤2*s+1:=fun a b c d ha hb hc hd=>by
  have h1:=D9 a b
  have h2:=D9 c d
  have h3:=a6U (a*b) (-(c*d))
  rw [a18,←Int.sub_eq_add_neg] at h3
  omega
 exact ⟨fun l hl=>key _ _ _ _ (h0.1 _ (by omega)) (h.1 _ (by omega)) (h.1 _ (by omega)) (h0.1 _ (by omega)),key _ _ _ _ (h0.1 _ (by omega)) h.2 (h.1 _ (by omega)) h0.2⟩
theorem a4L:∀(k s:Nat) (E:List EqI) (u:Nat→Rat),(∀ e ∈ E,(∀ l,l≤k→bl (e.co l)≤s)∧bl e.rhs≤s)→(∀ e ∈ E,a6B k e u)→(∀ u',(∀ e ∈ E,a6B k e u')→u' 0=u 0)→rl (u 0)≤2 ^ k*(s+1)
 |0,s,E,u,hb,hu,hq=>by
  by_cases hex:∃e ∈ E,e.co 0≠0
  ·obtain ⟨e,he,hc⟩:=hex
   have h1:((0:Int):Rat)+((e.co 0:Int):Rat)*u 0=((e.rhs:Int):Rat):=hu e he
   have hne:((e.co 0:Int):Rat)≠0:=fun h=>hc (by exact_mod_cast h)
   have h2:u 0=Rat.divInt e.rhs (e.co 0):=by
    rw [Rat.divInt_eq_div,←h1]
    have:((0:Int):Rat)=0:=rfl
    rw [this];grind
   rw [h2]
   have h3:=(hb e he).1 0 (Nat.le_refl _)
   have h4:=(hb e he).2
   have:=Z2 (p:=e.rhs) (q:=e.co 0) hc
   omega
  ·have hz:∀e ∈ E,e.co 0=0:=fun e he=>Classical.byContradiction fun h=>hex ⟨e,he,h⟩
   have:=hq (fun _=>u 0+1) fun e he=>by
    have h1:((0:Int):Rat)+((e.co 0:Int):Rat)*u 0=((e.rhs:Int):Rat):=hu e he
    show ((0:Int):Rat)+((e.co 0:Int):Rat)*(u 0+1)=((e.rhs:Int):Rat)
    rw [← h1,hz e he]
    have:((0:Int):Rat)=0:=rfl
    rw [this];grind
   grind
 |k+1,s,E,u,hb,hu,hq=>by
  have hlast:∀(e:EqI) (v:Nat→Rat),g7 (fun l=>((e.co l:Int):Rat)*v l) (k+1+1)=g7 (fun l=>((e.co l:Int):Rat)*v l) (k+1)+((e.co (k+1):Int):Rat)*v (k+1):=fun e v=>rfl
  by_cases hex:∃e ∈ E,e.co (k+1)≠0
  ·obtain ⟨e0,he0,hc⟩:=hex
   have hne:((e0.co (k+1):Int):Rat)≠0:=fun h=>hc (by exact_mod_cast h)
   have ih:=a4L k (2*s+1) (E.map (a9k k e0)) u (fun e he=>by
    obtain ⟨e1,he1,rfl⟩:=List.mem_map.1 he
    exact b3R (hb e0 he0) (hb e1 he1)) (fun e he=>by
    obtain ⟨e1,he1,rfl⟩:=List.mem_map.1 he
    have a1:g7 _ (k+1+1)=_:=hu e0 he0
    have a2:g7 _ (k+1+1)=_:=hu e1 he1
    rw [hlast] at a1 a2
    unfold a6B
    rw [au7,av0,←a1,←a2];grind) (fun u' hu'=>by
    have hnew:=hq (fun l=>if l=k+1 then (((e0.rhs:Int):Rat) - g7 (fun l=>((e0.co l:Int):Rat)*u' l) (k+1)) / ((e0.co (k+1):Int):Rat) else u' l) fun e he=>by
     have b1:=hu' _ (List.mem_map.2 ⟨e,he,rfl⟩)
     unfold a6B at b1 ⊢
     rw [au7,av0] at b1
     rw [hlast,g4 (g:=fun l=>((e.co l:Int):Rat)*u' l) fun l hl=>by rw [if_neg (by omega)],if_pos rfl]
     generalize g7 (fun l=>((e.co l:Int):Rat)*u' l) (k+1)=X at *
     generalize g7 (fun l=>((e0.co l:Int):Rat)*u' l) (k+1)=Y at *
     generalize ((e0.co (k+1):Int):Rat)=c at *
     generalize ((e.co (k+1):Int):Rat)=d at *
     generalize ((e.rhs:Int):Rat)=r at *
     generalize ((e0.rhs:Int):Rat)=r0 at *
     have h1:c*(X+d*((r0 - Y) / c))=c*r:=by
      have:c*((r0 - Y) / c)=r0 - Y:=by grind
      have h2:c*(X+d*((r0 - Y) / c))=c*X+d*(c*((r0 - Y) / c)):=by grind
      rw [h2,this];grind
     grind
    rw [if_neg (by omega)] at hnew
    exact hnew)
   have e1:2 ^ (k+1)*(s+1)=2 ^ k*(2*s+1+1):=by rw [Nat.pow_succ,Nat.mul_assoc,show 2*(s+1)=2*s+1+1 by omega]
   rw [e1];exact ih
  ·have hz:∀e ∈ E,e.co (k+1)=0:=fun e he=>Classical.byContradiction fun h=>hex ⟨e,he,h⟩
   have hiff:∀e ∈ E,∀v,a6B (k+1) e v↔a6B k e v:=fun e he v=>by
    unfold a6B
    rw [hlast,hz e he]
    have:((0:Int):Rat)=0:=rfl
    rw [this]
    constructor
    ·intro h;rw [← h];grind
    ·intro h;rw [← h];grind
   have ih:=a4L k s E u (fun e he=>⟨fun l hl=>(hb e he).1 l (by omega),(hb e he).2⟩) (fun e he=>(hiff e he u).1 (hu e he)) fun u' hu'=>hq u' fun e he=>(hiff e he u').2 (hu' e he)
   have:2 ^ k≤2 ^ (k+1):=Nat.pow_le_pow_right (by decide) (by omega)
   exact Nat.le_trans ih (Nat.mul_le_mul_right _ this)
end
section
structure a4v (m n s:Nat) (D:Fd):Prop where
 o:∀i,i<m→D.O i=n+i
 f:∀j,j<n→D.F j=j
 w:∀i,i<m→∃(q v:Int) (a:Nat→Int),q≠0∧bl q≤s∧bl v≤s∧(∀ j,j<n→bl (a j)≤s)∧((q:Int):Rat)*D.V i=((v:Int):Rat)∧∀j,j<n→((q:Int):Rat)*D.A i j=((a j:Int):Rat)
theorem a22 (x:Int):bl (-x)=bl x:=by unfold bl;rw [Int.natAbs_neg]
theorem b1H (x y:Int):bl (x - y)≤max (bl x) (bl y)+1:=by
 have:=a6U x (-y)
 rw [a22] at this
 rw [Int.sub_eq_add_neg];exact this
theorem ah4 {f:Nat→Rat}:∀n:Nat,g7 f (n+1)=f 0+g7 (fun l=>f (l+1)) n
 |0=>by simp only [g7];grind
 |n+1=>by
  have ih:=ah4 (f:=f) n
  have e:g7 f (n+1+1)=g7 f (n+1)+f (n+1):=rfl
  rw [e,ih]
  simp only [g7];grind
def aY7 (q0:Int) (b:Nat→Int) (r:Int):EqI:=⟨fun l=>match l with|0=>q0|l+1=>b l,r⟩
theorem a8I {n:Nat} {q0 r:Int} {b:Nat→Int} {u:Nat→Rat}:a6B n (aY7 q0 b r) u↔((q0:Int):Rat)*u 0+g7 (fun l=>((b l:Int):Rat)*u (l+1)) n=((r:Int):Rat):=by
 unfold a6B aY7
 simp only
 rw [ah4]
theorem a28 {n v:Nat} {u:Nat→Rat} (hv:v<n):g7 (fun l=>(((if l=v then (1:Int) else 0):Int):Rat)*u l) n=u v:=by
 rw [D8 hv,w6 fun j hj=>?_]
 ·simp only [if_true]
  have:((1:Int):Rat)=1:=rfl
  rw [this];grind
 ·by_cases h:j=v
  ·simp only [h,if_true]
  ·simp only [if_neg h]
   have:((0:Int):Rat)=0:=rfl
   rw [this];grind
theorem b4m {s:Nat} (hs:1≤s) (b:Prop) [Decidable b]:bl (if b then (1:Int) else 0)≤s:=by
 split
 ·exact Nat.le_trans (s6 (by decide) (by decide)) hs
 ·exact Nat.le_trans (s6 (by decide) (by decide)) hs
theorem a3i {m n s:Nat} {D0 D:Fd} (h0:a4v m n s D0) (hs:1≤s) (hP:Q5 m n D) (hI:∀y c,Ids m n D0 y c↔Ids m n D y c) {c:Int} {t:Nat→Int} (hc:c=0∨c=1) (ht:∀j,t j=0∨t j=1)
 {q r:Int} {b:Nat→Int} {φ:Rat} (hq:q≠0) (hqs:bl q≤s) (hr:bl r≤s) (hb:∀l,l<n→bl (b l)≤s)
 (hφ:((q:Int):Rat)*φ=((r:Int):Rat)*((c:Int):Rat)+g7 (fun l=>((b l:Int):Rat)*G0 m n D ((c:Int):Rat) (fun j=>((t j:Int):Rat)) l) n):rl φ≤2 ^ n*(s+2):=by
 obtain ⟨y,hy⟩:∃y,y=G0 m n D ((c:Int):Rat) (fun j=>((t j:Int):Rat)):=⟨_,rfl⟩
 rw [← hy] at hφ
 have hyD:Ids m n D y ((c:Int):Rat):=by rw [hy];exact Q1 hP _ _
 have hy0:=(hI y _).2 hyD
 have hyF:∀j,j<n→y (D.F j)=((t j:Int):Rat):=fun j hj=>by rw [hy];exact X4 hP hj
 -- the equations of the columns
 have eqs:∀j,j<n→∃e:EqI,(∀ l,l≤n→bl (e.co l)≤s+1)∧bl e.rhs≤s+1∧
  ∀(y' u':Nat→Rat),(∀ l,l<n→u' (l+1)=y' l)→Ids m n D0 y' ((c:Int):Rat)→(a6B n e u'↔y' (D.F j)=((t j:Int):Rat)):=by
  intro j hj
  have htb:bl (t j)≤1:=by rcases ht j with h|h<;>rw [h]<;>exact s6 (by decide) (by decide)
  by_cases hv:D.F j<n
  ·refine ⟨aY7 0 (fun l=>if l=D.F j then 1 else 0) (t j),fun l hl=>?_,Nat.le_trans htb (by omega),fun y' u' hu hy'=>?_⟩
   ·cases l with
    |zero=>exact Nat.le_trans (s6 (x:=0) (by decide) (by decide)) (by omega)
    |succ l=>exact b4m (by omega) _
   ·rw [a8I]
    rw [g4 (g:=fun l=>(((if l=D.F j then (1:Int) else 0):Int):Rat)*y' l) fun l hl=>by rw [hu l hl],a28 hv]
    have:((0:Int):Rat)=0:=rfl
    rw [this]
    constructor<;>intro h<;>grind
  ·have hb1:=hP.fb j hj
   obtain ⟨i,hi⟩:∃i,D.F j=n+i:=⟨D.F j - n,by omega⟩
   have him:i<m:=by omega
   obtain ⟨qi,vi,ai,q1,q2,q3,q4,q5,q6⟩:=h0.w i him
   have hrhs:bl (vi*c - qi*t j)≤s+1:=by
    have h1:bl (vi*c)≤s:=by rcases hc with h|h<;>rw [h]<;>simp<;>first|exact q3|exact Nat.le_trans (s6 (x:=0) (by decide) (by decide)) hs
    have h2:bl (qi*t j)≤s:=by rcases ht j with h|h<;>rw [h]<;>simp<;>first|exact q2|exact Nat.le_trans (s6 (x:=0) (by decide) (by decide)) hs
    have:=b1H (vi*c) (qi*t j)
    omega
   refine ⟨aY7 0 ai (vi*c - qi*t j),fun l hl=>?_,hrhs,fun y' u' hu hy'=>?_⟩
   ·cases l with
    |zero=>exact Nat.le_trans (s6 (x:=0) (by decide) (by decide)) (by omega)
    |succ l=>exact Nat.le_trans (q4 l (by omega)) (by omega)
   ·rw [a8I,hi]
    have hid:=hy' i him
    rw [h0.o i him] at hid
    have hsum:g7 (fun l=>((ai l:Int):Rat)*u' (l+1)) n=((qi:Int):Rat)*g7 (fun j=>D0.A i j*y' (D0.F j)) n:=by
     rw [← K4]
     refine g4 fun l hl=>?_
     rw [hu l hl,h0.f l hl,←q6 l hl];grind
    rw [hsum]
    have e0:((0:Int):Rat)=0:=rfl
    have e1:((vi*c - qi*t j:Int):Rat)=((vi:Int):Rat)*((c:Int):Rat) - ((qi:Int):Rat)*((t j:Int):Rat):=by push_cast;rfl
    rw [e0,e1,←q5]
    have hqn:((qi:Int):Rat)≠0:=by intro h;exact q1 (by exact_mod_cast h)
    constructor
    ·intro h
     have:((qi:Int):Rat)*(y' (n+i) - ((t j:Int):Rat))=0:=by rw [hid];grind
     have:=(Rat.mul_eq_zero.1 this).resolve_left hqn
     grind
    ·intro h
     rw [← h,hid];grind
 -- the equation of the value
 obtain ⟨E,hE⟩:∃E:Nat→EqI,∀j,(hj:j<n)→E j=Classical.choose (eqs j hj):=⟨fun j=>if hj:j<n then Classical.choose (eqs j hj) else ⟨fun _=>0,0⟩,fun j hj=>by simp [hj]⟩
 have hEs:∀j,j<n→(∀ l,l≤n→bl ((E j).co l)≤s+1)∧bl (E j).rhs≤s+1∧
  ∀(y' u':Nat→Rat),(∀ l,l<n→u' (l+1)=y' l)→Ids m n D0 y' ((c:Int):Rat)→(a6B n (E j) u'↔y' (D.F j)=((t j:Int):Rat)):=fun j hj=>by
  rw [hE j hj];exact Classical.choose_spec (eqs j hj)
 let e0:EqI:=aY7 q (fun l=>0 - b l) (r*c)
 have he0:∀(y' u':Nat→Rat),(∀ l,l<n→u' (l+1)=y' l)→(a6B n e0 u'↔((q:Int):Rat)*u' 0=((r:Int):Rat)*((c:Int):Rat)+g7 (fun l=>((b l:Int):Rat)*y' l) n):=by
  intro y' u' hu
  show a6B n (aY7 q (fun l=>0 - b l) (r*c)) u'↔_
  rw [a8I]
  have e1:g7 (fun l=>(((0 - b l:Int)):Rat)*u' (l+1)) n=0 - g7 (fun l=>((b l:Int):Rat)*y' l) n:=by
   have:g7 (fun l=>(((0 - b l:Int)):Rat)*u' (l+1)) n=g7 (fun l=>(-1:Rat)*(((b l:Int):Rat)*y' l)) n:=g4 fun l hl=>by
    rw [hu l hl];push_cast;grind
   rw [this,K4];grind
  rw [e1]
  have e2:((r*c:Int):Rat)=((r:Int):Rat)*((c:Int):Rat):=by push_cast;rfl
  rw [e2]
  constructor<;>intro h<;>grind
 let u:Nat→Rat:=fun l=>match l with|0=>φ|l+1=>y l
 have hu:∀l,l<n→u (l+1)=y l:=fun l _=>rfl
 have key:=a4L n (s+1) (e0::(List.range n).map E) u (fun e he=>?_) (fun e he=>?_) (fun u' hu'=>?_)
 ·exact key
 ·rcases List.mem_cons.1 he with rfl|he
  ·refine ⟨fun l hl=>?_,?_⟩
   ·cases l with
    |zero=>exact Nat.le_trans hqs (by omega)
    |succ l=>
     show bl (0 - b l)≤s+1
     have:=hb l (by omega)
     have h1:=b1H 0 (b l)
     have h2:=s6 (x:=0) (by decide) (by decide)
     omega
   ·show bl (r*c)≤s+1
    rcases hc with h|h<;>rw [h]<;>simp
    ·exact Nat.le_trans (s6 (x:=0) (by decide) (by decide)) (by omega)
    ·omega
  ·obtain ⟨j,hj,rfl⟩:=List.mem_map.1 he
   have:=hEs j (List.mem_range.1 hj)
   exact ⟨this.1,this.2.1⟩
 ·rcases List.mem_cons.1 he with rfl|he
  ·exact (he0 y u hu).2 hφ
  ·obtain ⟨j,hj,rfl⟩:=List.mem_map.1 he
   have hj:=List.mem_range.1 hj
   exact ((hEs j hj).2.2 y u hu hy0).2 (hyF j hj)
 ·let y':Nat→Rat:=fun w=>if w<n then u' (w+1) else ((c:Int):Rat)*D0.V (w - n) - g7 (fun j=>D0.A (w - n) j*u' (j+1)) n
  have huy:∀l,l<n→u' (l+1)=y' l:=fun l hl=>by show _=if l<n then _ else _;rw [if_pos hl]
  have hy':Ids m n D0 y' ((c:Int):Rat):=by
   intro i hi
   rw [h0.o i hi]
   show (if n+i<n then _ else _)=_
   rw [if_neg (by omega),show n+i - n=i by omega]
   congr 1
   refine g4 fun j hj=>?_
   rw [h0.f j hj,huy j hj]
  have hyD':=(hI y' _).1 hy'
  have hF':∀j,j<n→y' (D.F j)=((t j:Int):Rat):=fun j hj=>((hEs j hj).2.2 y' u' huy hy').1 (hu' _ (List.mem_cons_of_mem _ (List.mem_map.2 ⟨j,List.mem_range.2 hj,rfl⟩)))
  have same:∀w,w<n+m→y' w=y w:=by
   intro w hw
   rcases hP.all w hw with ⟨i,hi,rfl⟩|⟨j,hj,rfl⟩
   ·rw [hyD' i hi,hyD i hi]
    congr 1
    exact g4 fun j hj=>by rw [hF' j hj,hyF j hj]
   ·rw [hF' j hj,hyF j hj]
  have h1:=(he0 y' u' huy).1 (hu' e0 (List.mem_cons_self))
  have h2:g7 (fun l=>((b l:Int):Rat)*y' l) n=g7 (fun l=>((b l:Int):Rat)*y l) n:=g4 fun l hl=>by rw [same l (by omega)]
  rw [h2,←hφ] at h1
  have hqn:((q:Int):Rat)≠0:=by intro h;exact hq (by exact_mod_cast h)
  show u' 0=φ
  have h3:((q:Int):Rat)*(u' 0 - φ)=0:=by grind
  have:=(Rat.mul_eq_zero.1 h3).resolve_left hqn
  grind
end
section
theorem ad3 {m n s:Nat} {D0 D:Fd} (h0:a4v m n s D0) (hs:1≤s) (hP:Q5 m n D) (hI:∀y c,Ids m n D0 y c↔Ids m n D y c) {c:Int} {t:Nat→Int} (hc:c=0∨c=1) (ht:∀j,t j=0∨t j=1) {w:Nat} (hw:w<n+m):
 rl (G0 m n D ((c:Int):Rat) (fun j=>((t j:Int):Rat)) w)≤2 ^ n*(s+2):=by
 by_cases hv:w<n
 ·refine a3i h0 hs hP hI hc ht (q:=1) (r:=0) (b:=fun l=>if l=w then 1 else 0) (by decide) (Nat.le_trans (s6 (by decide) (by decide)) hs) (Nat.le_trans (s6 (by decide) (by decide)) hs) (fun l hl=>b4m hs _) ?_
  rw [a28 hv]
  have e0:((0:Int):Rat)=0:=rfl
  have e1:((1:Int):Rat)=1:=rfl
  rw [e0,e1];grind
 ·obtain ⟨i,rfl⟩:∃i,w=n+i:=⟨w - n,by omega⟩
  have him:i<m:=by omega
  obtain ⟨qi,vi,ai,q1,q2,q3,q4,q5,q6⟩:=h0.w i him
  have hy0:=(hI _ _).2 (Q1 hP ((c:Int):Rat) (fun j=>((t j:Int):Rat))) i him
  rw [h0.o i him] at hy0
  refine a3i h0 (Nat.le_trans hs (Nat.le_refl _)) hP hI hc ht (q:=qi) (r:=vi) (b:=fun l=>0 - ai l) q1 q2 q3 (fun l hl=>?_) ?_
  ·rw [show (0:Int) - ai l=-(ai l) by omega,a22];exact q4 l hl
  ·rw [hy0,←q5]
   have e1:g7 (fun l=>(((0 - ai l:Int)):Rat)*G0 m n D ((c:Int):Rat) (fun j=>((t j:Int):Rat)) l) n=0 - ((qi:Int):Rat)*g7 (fun j=>D0.A i j*G0 m n D ((c:Int):Rat) (fun j=>((t j:Int):Rat)) (D0.F j)) n:=by
    have:g7 (fun l=>(((0 - ai l:Int)):Rat)*G0 m n D ((c:Int):Rat) (fun j=>((t j:Int):Rat)) l) n=g7 (fun l=>(0 - ((qi:Int):Rat))*(D0.A i l*G0 m n D ((c:Int):Rat) (fun j=>((t j:Int):Rat)) (D0.F l))) n:=g4 fun l hl=>by
     rw [h0.f l hl]
     have:=q6 l hl
     have e:((0 - ai l:Int):Rat)=0 - ((ai l:Int):Rat):=by push_cast;rfl
     rw [e,←this];grind
    rw [this,K4];grind
   rw [e1];grind
theorem b2x {m n s:Nat} {D0 D:Fd} (h0:a4v m n s D0) (hs:1≤s) (hP:Q5 m n D) (hI:∀y c,Ids m n D0 y c↔Ids m n D y c) {i:Nat} (hi:i<m):rl (D.V i)≤2 ^ n*(s+2):=by
 have:=ad3 h0 hs hP hI (c:=1) (t:=fun _=>0) (.inr rfl) (fun _=>.inl rfl) (hP.ob i hi)
 rw [a2I hP hi] at this
 have e:g7 (fun j=>D.A i j*(((fun _=>(0:Int)) j:Int):Rat)) n=0:=w6 fun j hj=>by
  show D.A i j*((0:Int):Rat)=0
  have e0:((0:Int):Rat)=0:=rfl
  rw [e0];grind
 rw [e] at this
 have e2:((1:Int):Rat)*D.V i - 0=D.V i:=by have e1:((1:Int):Rat)=1:=rfl;rw [e1];grind
 rw [e2] at this
 exact this
theorem aS0 {m n s:Nat} {D0 D:Fd} (h0:a4v m n s D0) (hs:1≤s) (hP:Q5 m n D) (hI:∀y c,Ids m n D0 y c↔Ids m n D y c) {i j:Nat} (hi:i<m) (hj:j<n):rl (D.A i j)≤2 ^ n*(s+2):=by
 have:=ad3 h0 hs hP hI (c:=0) (t:=fun l=>if l=j then 1 else 0) (.inl rfl) (fun l=>by by_cases h:l=j;exact .inr (if_pos h);exact .inl (if_neg h)) (hP.ob i hi)
 rw [a2I hP hi] at this
 have e:g7 (fun l=>D.A i l*(((if l=j then (1:Int) else 0):Int):Rat)) n=D.A i j:=by
  rw [g4 (g:=fun l=>(((if l=j then (1:Int) else 0):Int):Rat)*D.A i l) fun l hl=>by grind,a28 (u:=fun l=>D.A i l) hj]
 rw [e] at this
 have e2:((0:Int):Rat)*D.V i - D.A i j=-(D.A i j):=by have e1:((0:Int):Rat)=0:=rfl;rw [e1];grind
 rw [e2,O1] at this
 exact this
theorem aT4 {m n s:Nat} {D0 D:Fd} (h0:a4v m n s D0) (hs:1≤s) (hP:Q5 m n D) (hI:∀y c,Ids m n D0 y c↔Ids m n D y c) {g0:Nat→Rat} {z:Rat} (hG:Y6 n D g0 m z) {q:Int} {b:Nat→Int} (hq:q≠0) (hqs:bl q≤s) (hb:∀l,l<n→bl (b l)≤s) (hg:∀l,l<n→((q:Int):Rat)*g0 l=((b l:Int):Rat)) {j:Nat} (hj:j<n):rl (D.G j)≤2 ^ n*(s+2):=by
 have h1:=hG _ _ (Q1 hP ((0:Int):Rat) (fun l=>(((if l=j then (1:Int) else 0):Int):Rat)))
 have e:g7 (fun l=>D.G l*G0 m n D ((0:Int):Rat) (fun l=>(((if l=j then (1:Int) else 0):Int):Rat)) (D.F l)) n=D.G j:=by
  rw [g4 (g:=fun l=>(((if l=j then (1:Int) else 0):Int):Rat)*D.G l) fun l hl=>by rw [X4 hP hl];grind,a28 (u:=fun l=>D.G l) hj]
 rw [e] at h1
 refine a3i h0 hs hP hI (c:=0) (t:=fun l=>if l=j then 1 else 0) (.inl rfl) (fun l=>by by_cases h:l=j;exact .inr (if_pos h);exact .inl (if_neg h)) (q:=q) (r:=0) (b:=b) hq hqs (Nat.le_trans (s6 (by decide) (by decide)) hs) hb ?_
 have e0:((0:Int):Rat)=0:=rfl
 have h2:D.G j=g7 (fun l=>g0 l*G0 m n D ((0:Int):Rat) (fun l=>(((if l=j then (1:Int) else 0):Int):Rat)) l) n:=by
  rw [h1];simp only [e0];grind
 rw [h2,←K4]
 have h3:g7 (fun l=>((b l:Int):Rat)*G0 m n D ((0:Int):Rat) (fun l=>(((if l=j then (1:Int) else 0):Int):Rat)) l) n=g7 (fun l=>((q:Int):Rat)*(g0 l*G0 m n D ((0:Int):Rat) (fun l=>(((if l=j then (1:Int) else 0):Int):Rat)) l)) n:=g4 fun l hl=>by rw [← hg l hl];grind
 rw [h3];grind
def aX8 (m n:Nat) (y:Nat→Rat):Prop:=∀w,w<n+m→0≤y w
theorem ar6 {m n:Nat} {D:Fd} {g0:Nat→Rat} {z:Rat} (hP:Q5 m n D) (hG:Y6 n D g0 m z) (hv:∀i,i<m→0≤D.V i) (hg:∀j,j<n→D.G j≤0):
 (∃ y,Ids m n D y 1∧aX8 m n y∧g7 (fun j=>g0 j*y j) n=z∧y=G0 m n D 1 (fun _=>0))∧∀y,Ids m n D y 1→aX8 m n y→g7 (fun j=>g0 j*y j) n≤z:=by
 refine ⟨⟨_,Q1 hP 1 (fun _=>0),fun w hw=>?_,?_,rfl⟩,fun y hy hp=>?_⟩
 ·rcases hP.all w hw with ⟨i,hi,rfl⟩|⟨j,hj,rfl⟩
  ·rw [a2I hP hi,w6 fun j hj=>by grind]
   have:=hv i hi;grind
  ·rw [X4 hP hj];grind
 ·rw [hG _ _ (Q1 hP 1 (fun _=>0)),w6 fun j hj=>by rw [X4 hP hj];grind];grind
 ·rw [hG _ _ hy]
  have:g7 (fun j=>D.G j*y (D.F j)) n≤0:=a5U fun j hj=>by
   have h1:=hg j hj
   have h2:=hp (D.F j) (hP.fb j hj)
   have:=Rat.mul_nonneg (show 0≤-(D.G j) by grind) h2
   grind
  grind
theorem b3T {m n:Nat} {D:Fd} (hP:Q5 m n D) {r:Nat} (hr:r<m) (hv:D.V r<0) (ha:∀j,j<n→0≤D.A r j):∀y,Ids m n D y 1→¬aX8 m n y:=by
 intro y hy hp
 have h1:=hy r hr
 have h2:=hp (D.O r) (hP.ob r hr)
 have h3:0≤g7 (fun j=>D.A r j*y (D.F j)) n:=a5i fun j hj=>Rat.mul_nonneg (ha j hj) (hp _ (hP.fb j hj))
 grind
theorem b2N {m n:Nat} {D:Fd} {g0:Nat→Rat} {z:Rat} (hP:Q5 m n D) (hG:Y6 n D g0 m z) {s:Nat} (hs:s<n) (hg:0<D.G s) (ha:∀i,i<m→D.A i s≤0):
 ∃y,Ids m n D y 0∧aX8 m n y∧0<g7 (fun j=>g0 j*y j) n∧y=G0 m n D 0 (fun j=>if j=s then 1 else 0):=by
 have hsum:∀f:Nat→Rat,g7 (fun j=>f j*(if j=s then (1:Rat) else 0)) n=f s:=fun f=>by
  rw [D8 hs,w6 fun j hj=>by by_cases h:j=s;simp only [h,if_true];simp only [if_neg h];grind]
  simp only [if_true];grind
 refine ⟨_,Q1 hP 0 _,fun w hw=>?_,?_,rfl⟩
 ·rcases hP.all w hw with ⟨i,hi,rfl⟩|⟨j,hj,rfl⟩
  ·rw [a2I hP hi,hsum]
   have:=ha i hi;grind
  ·rw [X4 hP hj];split<;>grind
 ·rw [hG _ _ (Q1 hP 0 _),g4 (g:=fun j=>D.G j*(if j=s then (1:Rat) else 0)) fun j hj=>by rw [X4 hP hj],hsum]
  grind
end
section
def M7 (l:List (Int × Rat)):Nat→Nat→Rat
 |0=>fun _=>0
 |k+1=>match l[k]? with
  |none=>M7 l k
  |some t=>fun j=>if j=t.1.toNat then t.2 else M7 l k j
def y6 (l:List (Int × Rat)):Nat→Rat:=M7 l l.length
theorem T9 {l:List (Int × Rat)} {k:Nat} {t:Int × Rat} (h:l[k]? =some t):M7 l (k+1)=fun j=>if j=t.1.toNat then t.2 else M7 l k j:=by rw [M7,h]
theorem a3G {l:List (Int × Rat)} {v:Nat}:∀k,(∀ i t,i<k→l[i]? =some t→t.1.toNat≠v)→M7 l k v=0
 |0,_=>rfl
 |k+1,h=>by
  have ih:=a3G (l:=l) (v:=v) k fun i t hi ht=>h i t (by omega) ht
  cases hk:l[k]? with
  |none=>rw [M7,hk];exact ih
  |some t=>
   rw [T9 hk]
   simp only
   rw [if_neg (fun e=>h k t (by omega) hk e.symm),ih]
theorem M4:∀{last n:Int} {l:List (Int × Rat)},j1 last n l=true→∀t ∈ l,last<t.1∧t.1<n∧t.2≠0
 |_,_,[],_,t,ht=>by cases ht
 |last,n,a::r,h,t,ht=>by
  unfold j1 at h
  simp only [Bool.and_eq_true,decide_eq_true_eq] at h
  rcases List.mem_cons.1 ht with rfl|ht
  ·exact ⟨h.1.1.1,h.1.1.2,h.1.2⟩
  ·have:=M4 h.2 t ht
   exact ⟨by omega,this.2⟩
theorem a4V:∀{last n:Int} {l:List (Int × Rat)},j1 last n l=true→∀(i j:Nat) (t u:Int × Rat),i<j→l[i]? =some t→l[j]? =some u→t.1<u.1
 |_,_,[],_,i,j,t,u,_,ht,_=>by simp at ht
 |last,n,a::r,h,i,j,t,u,hij,ht,hu=>by
  unfold j1 at h
  simp only [Bool.and_eq_true,decide_eq_true_eq] at h
  cases j with
  |zero=>omega
  |succ j=>
   simp only [List.getElem?_cons_succ] at hu
   cases i with
   |zero=>
    simp only [List.getElem?_cons_zero] at ht
    injection ht with ht;subst ht
    exact (M4 h.2 u (lg2 hu)).1
   |succ i=>
    simp only [List.getElem?_cons_succ] at ht
    exact a4V h.2 i j t u (by omega) ht hu
theorem a0L {α:Type} {l:List α} {k:Nat} {x:α} (h:l[k]? =some x):l.take (k+1)=l.take k++[x]:=by rw [List.take_add_one,h];rfl
theorem as0 {n:Nat} {l:List (Int × Rat)} (h:j1 (-1) (n:Int) l=true) (z:List Rat):∀k,k≤l.length→k7 (l.take k) z=g7 (fun j=>M7 l k j*z.getD j 0) n
 |0,_=>by
  rw [List.take_zero,w6 fun j hj=>by show (0:Rat)*_=0;grind]
  rfl
 |k+1,hk=>by
  have ih:=as0 h z k (by omega)
  obtain ⟨t,ht⟩:∃t,l[k]? =some t:=⟨_,lg0 (by omega)⟩
  have hm:=M4 h t (lg2 ht)
  have hv:t.1.toNat<n:=by omega
  have h0:M7 l k t.1.toNat=0:=a3G k fun i u hi hu=>by
   have:=a4V h i k u t hi hu ht
   have h2:=M4 h u (lg2 hu)
   omega
  rw [a0L ht,L4,ih,T9 ht]
  rw [D8 (f:=fun j=>(if j=t.1.toNat then t.2 else M7 l k j)*z.getD j 0) hv,D8 (f:=fun j=>M7 l k j*z.getD j 0) hv]
  simp only [if_true,h0]
  rw [g4 (f:=fun j=>if j=t.1.toNat then 0 else (if j=t.1.toNat then t.2 else M7 l k j)*z.getD j 0) (g:=fun j=>if j=t.1.toNat then 0 else M7 l k j*z.getD j 0) fun j hj=>by
   by_cases hj:j=t.1.toNat
   ·rw [if_pos hj,if_pos hj]
   ·rw [if_neg hj,if_neg hj,if_neg hj]]
  grind
theorem a1K {n:Nat} {l:List (Int × Rat)} (h:j1 (-1) (n:Int) l=true) (z:List Rat):k7 l z=g7 (fun j=>y6 l j*z.getD j 0) n:=by
 have:=as0 h z l.length (Nat.le_refl _)
 rw [List.take_length] at this
 exact this
def J7 (s:i8):Nat→List (Nat × Bool)
 |0=>[]
 |k+1=>match s.rows[k]? with
  |none=>J7 s k
  |some w=>J7 s k++(if w.kind≠0 then [(k,false)] else [])++(if w.kind≠1 then [(k,true)] else [])
def e6 (s:i8):List (Nat × Bool):=J7 s s.rows.length
def O5 (b:Bool) (x:Rat):Rat:=if b then -x else x
def a2G (s:i8) (f:Nat × Bool):Rat:=match s.rows[f.1]? with
 |none=>0
 |some w=>O5 f.2 w.value
def a1l (s:i8) (f:Nat × Bool) (j:Nat):Rat:=match s.rows[f.1]? with
 |none=>0
 |some w=>O5 f.2 (y6 w.terms j)
def g8 (s:i8) (g:List (Int × Rat)):Fd where
 V:=fun i=>a2G s ((e6 s).getD i (0,false))
 A:=fun i j=>a1l s ((e6 s).getD i (0,false)) j
 G:=fun j=>-(y6 g j)
 O:=fun i=>s.n.toNat+i
 F:=fun j=>j
theorem ah5 {s:i8} {f:Nat × Bool}:∀k,f ∈ J7 s k↔f.1<k∧∃w,s.rows[f.1]? =some w∧(f.2=false→w.kind≠0)∧(f.2=true→w.kind≠1)
 |0=>by simp [J7]
 |k+1=>by
  have ih:=ah5 (s:=s) (f:=f) k
  unfold J7
  cases hw:s.rows[k]? with
  |none=>
   simp only
   rw [ih]
   constructor
   ·rintro ⟨h1,h2⟩;exact ⟨by omega,h2⟩
   ·rintro ⟨h1,w,h2,h3⟩
    refine ⟨?_,w,h2,h3⟩
    by_cases he:f.1=k
    ·rw [he,hw] at h2;cases h2
    ·omega
  |some w=>
   simp only
   rw [List.mem_append,List.mem_append,ih]
   obtain ⟨a,b⟩:=f
   simp only
   constructor
   ·rintro ((⟨h1,h2⟩|h)|h)
    ·exact ⟨by omega,h2⟩
    ·split at h
     ·rename_i hk
      simp at h
      obtain ⟨rfl,rfl⟩:=h
      exact ⟨by omega,w,hw,fun _=>hk,fun h=>by cases h⟩
     ·simp at h
    ·split at h
     ·rename_i hk
      simp at h
      obtain ⟨rfl,rfl⟩:=h
      exact ⟨by omega,w,hw,fun h=>(by cases h),fun _=>hk⟩
     ·simp at h
   ·rintro ⟨h1,w',h2,h3,h4⟩
    by_cases he:a=k
    ·subst he
     rw [hw] at h2;injection h2 with h2;subst h2
     cases b with
     |false=>rw [if_pos (h3 rfl)];simp
     |true=>rw [if_pos (h4 rfl)];simp
    ·exact .inl (.inl ⟨by omega,w',h2,h3,h4⟩)
theorem X9 {s:i8} {f:Nat × Bool}:f ∈ e6 s↔∃w,s.rows[f.1]? =some w∧(f.2=false→w.kind≠0)∧(f.2=true→w.kind≠1):=by
 unfold e6
 rw [ah5]
 constructor
 ·rintro ⟨_,h⟩;exact h
 ·rintro ⟨w,h⟩;exact ⟨(lg1 h.1).1,w,h⟩
theorem aM4 {s:i8} {g:List (Int × Rat)}:Q5 (e6 s).length s.n.toNat (g8 s g) where
 oi:=fun i i' _ _ h=>by have:s.n.toNat+i=s.n.toNat+i':=h;omega
 fi:=fun j j' _ _ h=>h
 of:=fun i j _ hj h=>by have:s.n.toNat+i=j:=h;omega
 all:=fun w hw=>by
  by_cases h:w<s.n.toNat
  ·exact .inr ⟨w,h,rfl⟩
  ·exact .inl ⟨w - s.n.toNat,by omega,by show s.n.toNat+(w - s.n.toNat)=w;omega⟩
 ob:=fun i hi=>by show s.n.toNat+i<_;omega
 fb:=fun j hj=>by show j<_;omega
theorem aL7 {s:i8} {g:List (Int × Rat)}:Y6 s.n.toNat (g8 s g) (fun j=>-(y6 g j)) (e6 s).length 0:=by
 intro y c _
 have:c*(0:Rat)=0:=by grind
 rw [this]
 have e:g7 (fun j=>(g8 s g).G j*y ((g8 s g).F j)) s.n.toNat=g7 (fun j=>-(y6 g j)*y j) s.n.toNat:=rfl
 rw [e];grind
def a4w (s:i8) (g:List (Int × Rat)) (z:List Rat) (w:Nat):Rat:=if w<s.n.toNat then z.getD w 0 else (g8 s g).V (w - s.n.toNat) - g7 (fun j=>(g8 s g).A (w - s.n.toNat) j*z.getD j 0) s.n.toNat
theorem aU0 {s:i8} {g:List (Int × Rat)} (z:List Rat):Ids (e6 s).length s.n.toNat (g8 s g) (a4w s g z) 1:=by
 intro i hi
 show a4w s g z (s.n.toNat+i)=_
 unfold a4w
 rw [if_neg (by omega),show s.n.toNat+i - s.n.toNat=i by omega]
 have:(1:Rat)*(g8 s g).V i=(g8 s g).V i:=by grind
 rw [this]
 congr 1
 refine g4 fun j hj=>?_
 show _=(g8 s g).A i j*(if j<s.n.toNat then z.getD j 0 else _)
 rw [if_pos hj]
theorem ab0 {s:i8} {g:List (Int × Rat)} (hr:j8 s=true) {z:List Rat} {i:Nat} {f:Nat × Bool} {w:B2} (hf:(e6 s)[i]? =some f) (hw:s.rows[f.1]? =some w):a4w s g z (s.n.toNat+i)=O5 f.2 (w.value - k7 w.terms z):=by
 unfold a4w
 rw [if_neg (by omega),show s.n.toNat+i - s.n.toNat=i by omega]
 have hfd:(e6 s).getD i (0,false)=f:=by rw [lg3,hf];rfl
 show a2G s ((e6 s).getD i (0,false)) - g7 (fun j=>a1l s ((e6 s).getD i (0,false)) j*z.getD j 0) s.n.toNat=_
 rw [hfd]
 have hrow:w9 s.n w=true:=by
  unfold j8 at hr
  simp only [Bool.and_eq_true,decide_eq_true_eq,List.all_eq_true] at hr
  exact hr.2 w (lg2 hw)
 have hn:(s.n.toNat:Int)=s.n:=by
  unfold j8 at hr
  simp only [Bool.and_eq_true,decide_eq_true_eq] at hr
  omega
 unfold w9 at hrow
 simp only [Bool.and_eq_true,decide_eq_true_eq] at hrow
 have hrt:=hrow.1.1
 rw [← hn] at hrt
 have e1:a2G s f=O5 f.2 w.value:=by unfold a2G;rw [hw]
 have e2:∀j,a1l s f j=O5 f.2 (y6 w.terms j):=fun j=>by unfold a1l;rw [hw]
 rw [e1,a1K hrt z]
 cases hb:f.2 with
 |false=>
  rw [g4 (g:=fun j=>y6 w.terms j*z.getD j 0) fun j hj=>by rw [e2 j,hb];rfl]
  rfl
 |true=>
  rw [g4 (g:=fun j=>(-1:Rat)*(y6 w.terms j*z.getD j 0)) fun j hj=>by rw [e2 j,hb];show -(y6 w.terms j)*_=_;grind,K4]
  show -w.value - _=-(w.value - _)
  grind
theorem first_holds {s:i8} {g:List (Int × Rat)} (hr:j8 s=true) {z:List Rat} (hl:(z.length:Int)=s.n):j4 s z=true↔aX8 (e6 s).length s.n.toNat (a4w s g z):=by
 have hn:z.length=s.n.toNat:=by omega
 unfold j4
 rw [hr,decide_eq_true hl]
 simp only [Bool.true_and,Bool.and_eq_true,List.all_eq_true,decide_eq_true_eq]
 constructor
 ·rintro ⟨h1,h2⟩ w hw
  by_cases hv:w<s.n.toNat
  ·unfold a4w
   rw [if_pos hv,lg3,lg0 (by omega)]
   exact h1 _ (List.getElem_mem _)
  ·obtain ⟨i,rfl⟩:∃i,w=s.n.toNat+i:=⟨w - s.n.toNat,by omega⟩
   have hi:i<(e6 s).length:=by omega
   obtain ⟨f,hf⟩:∃f,(e6 s)[i]? =some f:=⟨_,lg0 hi⟩
   obtain ⟨x,hx,hk1,hk2⟩:=X9.1 (lg2 hf)
   rw [ab0 hr hf hx]
   have hb:=h2 x (lg2 hx)
   unfold R6 at hb
   simp only [Bool.not_eq_true',Bool.or_eq_false_iff,Bool.and_eq_false_iff,decide_eq_false_iff_not] at hb
   cases hfb:f.2 with
   |false=>
    have:=hk1 hfb
    show 0≤x.value - k7 x.terms z
    rcases hb.2 with h|h
    ·grind
    ·exact absurd this h
   |true=>
    have:=hk2 hfb
    show 0≤-(x.value - k7 x.terms z)
    rcases hb.1 with h|h
    ·grind
    ·exact absurd this h
 ·intro hp
  refine ⟨fun v hv=>?_,fun x hx=>?_⟩
  ·obtain ⟨j,hj,rfl⟩:=List.getElem_of_mem hv
   have:=hp j (by omega)
   unfold a4w at this
   rw [if_pos (by omega),lg3,lg0 hj] at this
   exact this
  ·obtain ⟨k,hk,hkx⟩:=List.getElem_of_mem hx
   have hxk:s.rows[k]? =some x:=by rw [lg0 hk,hkx]
   have side:∀b:Bool,(b=false→x.kind≠0)→(b=true→x.kind≠1)→0≤O5 b (x.value - k7 x.terms z):=by
    intro b h1 h2
    have hm:((k,b):Nat × Bool) ∈ e6 s:=X9.2 ⟨x,hxk,h1,h2⟩
    obtain ⟨i,hi,hif⟩:=List.getElem_of_mem hm
    have hf:(e6 s)[i]? =some (k,b):=by rw [lg0 hi,hif]
    have:=hp (s.n.toNat+i) (by omega)
    rw [ab0 hr hf hxk] at this
    exact this
   unfold R6
   simp only [Bool.not_eq_true',Bool.or_eq_false_iff,Bool.and_eq_false_iff,decide_eq_false_iff_not]
   constructor
   ·by_cases h:x.kind≠1
    ·left
     have:=side true (fun h=>by cases h) (fun _=>h)
     have h2:0≤-(x.value - k7 x.terms z):=this
     grind
    ·right;exact h
   ·by_cases h:x.kind≠0
    ·left
     have:=side false (fun _=>h) (fun h=>by cases h)
     have h2:0≤x.value - k7 x.terms z:=this
     grind
    ·right;exact h
end
section
theorem aT0 (x:Rat):((x.den:Int):Rat)*x=((x.num:Int):Rat):=by
 have hq:((x.den:Int):Rat)≠0:=by
  intro h
  have:(x.den:Int)=0:=by exact_mod_cast h
  have:=x.den_pos;omega
 have h1:x=((x.num:Int):Rat) / ((x.den:Int):Rat):=by rw [← Rat.divInt_eq_div,Rat.num_divInt_den]
 have h2:((x.den:Int):Rat)*(((x.num:Int):Rat) / ((x.den:Int):Rat))=((x.num:Int):Rat):=by
  rw [Rat.div_def,Rat.mul_comm,Rat.mul_assoc,Rat.inv_mul_cancel _ hq,Rat.mul_one]
 rw [← h1] at h2
 exact h2
def a3z (B:Nat) (w:B2):Prop:=(∀ t ∈ w.terms,∃c:Int,t.2=((c:Int):Rat)∧bl c≤1)∧rl w.value≤B
theorem a0X {l:List (Int × Rat)} (h:∀t ∈ l,∃c:Int,t.2=((c:Int):Rat)∧bl c≤1):∀(k j:Nat),∃c:Int,M7 l k j=((c:Int):Rat)∧bl c≤1
 |0,j=>⟨0,rfl,s6 (by decide) (by decide)⟩
 |k+1,j=>by
  cases hk:l[k]? with
  |none=>rw [M7,hk];exact a0X h k j
  |some t=>
   rw [T9 hk]
   simp only
   split
   ·exact h t (lg2 hk)
   ·exact a0X h k j
theorem aS5 {b:Bool} {x:Rat} {c:Int} (h:x=((c:Int):Rat)):∃c':Int,O5 b x=((c':Int):Rat)∧bl c'=bl c:=by
 cases b with
 |false=>exact ⟨c,h,rfl⟩
 |true=>exact ⟨-c,by show -x=_;rw [h];push_cast;rfl,a22 c⟩
theorem aW5 {s:i8} {g:List (Int × Rat)} {B:Nat} (hI:∀w ∈ s.rows,a3z B w):a4v (e6 s).length s.n.toNat (B+2) (g8 s g) where
 o:=fun i _=>rfl
 f:=fun j _=>rfl
 w:=fun i hi=>by
  obtain ⟨f,hf⟩:∃f,(e6 s)[i]? =some f:=⟨_,lg0 hi⟩
  obtain ⟨x,hx,_⟩:=X9.1 (lg2 hf)
  obtain ⟨h1,h2⟩:=hI x (lg2 hx)
  have hfd:(e6 s).getD i (0,false)=f:=by rw [lg3,hf];rfl
  have eV:(g8 s g).V i=O5 f.2 x.value:=by show a2G s ((e6 s).getD i (0,false))=_;rw [hfd];unfold a2G;rw [hx]
  have eA:∀j,(g8 s g).A i j=O5 f.2 (y6 x.terms j):=fun j=>by show a1l s ((e6 s).getD i (0,false)) j=_;rw [hfd];unfold a1l;rw [hx]
  have hc:∀j,∃c:Int,(g8 s g).A i j=((c:Int):Rat)∧bl c≤1:=fun j=>by
   obtain ⟨c,hc,hb⟩:=a0X h1 x.terms.length j
   obtain ⟨c',hc',hb'⟩:=aS5 (b:=f.2) (x:=y6 x.terms j) hc
   exact ⟨c',by rw [eA,hc'],by omega⟩
  refine ⟨(x.value.den:Int),if f.2 then -x.value.num else x.value.num,fun j=>(x.value.den:Int)*Classical.choose (hc j),?_,?_,?_,fun j hj=>?_,?_,fun j hj=>?_⟩
  ·have:=x.value.den_pos;omega
  ·have:=F4 x.value;omega
  ·have:=E5 x.value
   split
   ·rw [a22];omega
   ·omega
  ·have hb:=(Classical.choose_spec (hc j)).2
   have h3:=D9 (x.value.den:Int) (Classical.choose (hc j))
   have h4:=F4 x.value
   have e5:bl ((x.value.den:Int)*Classical.choose (hc j))≤B+2:=by omega
   exact e5
  ·rw [eV]
   cases hb:f.2 with
   |false=>exact aT0 x.value
   |true=>
    show _*(-x.value)=((-x.value.num:Int):Rat)
    have:=aT0 x.value
    have e:((-x.value.num:Int):Rat)=-((x.value.num:Int):Rat):=by push_cast;rfl
    rw [e,←this];grind
  ·have hs:=(Classical.choose_spec (hc j)).1
   conv=>lhs;rw [hs]
   push_cast;rfl
end
section
instance:Inhabited Fd:=⟨⟨fun _=>0,fun _ _=>0,fun _=>0,fun _=>0,fun _=>0⟩⟩
structure a6G (m n:Nat) (D0:Fd) (g0:Nat→Rat) (D:Fd):Prop where
 p:Q5 m n D
 i:∀y c,Ids m n D0 y c↔Ids m n D y c
 g:∃z,Y6 n D g0 m z
theorem b0W {m n r s:Nat} {D0 D:Fd} {g0:Nat→Rat} (h:a6G m n D0 g0 D) (hs:B9 m n D=.next r s):a6G m n D0 g0 (D.exch r s):=by
 obtain ⟨hr,hsn,hb⟩:=a6t hs
 have hp:=a7S hb
 obtain ⟨z,hz⟩:=h.g
 exact ⟨ad9 hr hsn h.p,fun y c=>(h.i y c).trans (a8L hr hsn hp),_,af8 hr hsn hp hz⟩
def V5 (m n:Nat) (D0 D:Fd):Prop:=∃k,itS m n k D0=some D
theorem aJ3 {m n:Nat} {D0:Fd}:V5 m n D0 D0:=⟨0,rfl⟩
theorem a9I {m n:Nat} {D0 D D':Fd} (h:V5 m n D0 D) (hn:F0 m n D=some D'):V5 m n D0 D':=by
 obtain ⟨k,hk⟩:=h
 exact ⟨k+1,by rw [a0c,hk];exact hn⟩
theorem a3P {m n:Nat} {D0:Fd} {g0:Nat→Rat} (h0:a6G m n D0 g0 D0):∀{k:Nat} {D:Fd},itS m n k D0=some D→a6G m n D0 g0 D
 |0,D,h=>by injection h with h;subst h;exact h0
 |k+1,D,h=>by
  rw [a0c] at h
  cases hk:itS m n k D0 with
  |none=>rw [hk] at h;cases h
  |some D1=>
   rw [hk] at h
   have h:F0 m n D1=some D:=h
   obtain ⟨r,s,hs,rfl⟩:=a9x h
   exact b0W (a3P h0 hk) hs
theorem a9H {m n:Nat} {D0:Fd} {k:Nat} (h:itS m n k D0=none):∀j,itS m n (k+j) D0=none
 |0=>h
 |j+1=>by rw [show k+(j+1)=(k+j)+1 by omega,a0c,a9H h j];rfl
theorem aE0 {m n:Nat} {D0 D D':Fd} (h:V5 m n D0 D) (hn:F0 m n D=none) (h':V5 m n D0 D') (hn':F0 m n D'=none):D=D':=by
 obtain ⟨k,hk⟩:=h
 obtain ⟨l,hl⟩:=h'
 have a1:itS m n (k+1) D0=none:=by rw [a0c,hk];exact hn
 have a2:itS m n (l+1) D0=none:=by rw [a0c,hl];exact hn'
 have hkl:k=l:=by
  rcases Nat.lt_trichotomy k l with h|h|h
  ·have:=a9H a1 (l - (k+1))
   rw [show k+1+(l - (k+1))=l by omega,hl] at this;cases this
  ·exact h
  ·have:=a9H a2 (k - (l+1))
   rw [show l+1+(k - (l+1))=k by omega,hk] at this;cases this
 subst hkl
 rw [hk] at hl;injection hl
theorem b53 {m n:Nat} {D0:Fd} {g0:Nat→Rat} (h0:a6G m n D0 g0 D0):∃D,V5 m n D0 D∧F0 m n D=none:=by
 obtain ⟨k,hk,hmin⟩:=a2v (fun k=>itS m n k D0=none) (b4a h0.p h0.g)
 cases k with
 |zero=>cases hk
 |succ k=>
  cases hk':itS m n k D0 with
  |none=>have:=hmin k hk';omega
  |some D=>
   rw [a0c,hk'] at hk
   exact ⟨D,⟨k,hk'⟩,hk⟩
noncomputable def a9v (m n:Nat) (D0:Fd):Fd:=Classical.epsilon fun D=>V5 m n D0 D∧F0 m n D=none
theorem a38 {m n:Nat} {D0:Fd} {g0:Nat→Rat} (h0:a6G m n D0 g0 D0):V5 m n D0 (a9v m n D0)∧F0 m n (a9v m n D0)=none:=Classical.epsilon_spec (b53 h0)
theorem b5C {m n:Nat} {D0 D:Fd} {g0:Nat→Rat} (h0:a6G m n D0 g0 D0) (h:V5 m n D0 D) (hn:F0 m n D=none):D=a9v m n D0:=aE0 h hn (a38 h0).1 (a38 h0).2
theorem b2A {m n:Nat} {D0:Fd} {g0:Nat→Rat} (h0:a6G m n D0 g0 D0):a6G m n D0 g0 (a9v m n D0):=by
 obtain ⟨k,hk⟩:=(a38 h0).1
 exact a3P h0 hk
theorem ab8 {m n:Nat} {D:Fd} (h:B9 m n D=.best):(∀ i,i<m→0≤D.V i)∧∀j,j<n→D.G j≤0:=by
 unfold B9 at h
 split at h
 ·rename_i h1 h2
  refine ⟨fun i hi=>?_,fun j hj=>?_⟩
  ·have:=a02 h1 i hi;simp at this;grind
  ·have:=a02 h2 j hj;simp at this;grind
 ·unfold a0g at h;split at h<;>cases h
 ·unfold a0j at h;split at h<;>cases h
 ·split at h
  ·unfold a0g at h;split at h<;>cases h
  ·unfold a0j at h;split at h<;>cases h
theorem ag9 {n r r':Nat} {D:Fd} (h:a0g n D r=.row r'):r'=r∧∀j,j<n→0≤D.A r j:=by
 unfold a0g at h
 split at h
 ·rename_i h1
  injection h with h
  exact ⟨h.symm,fun j hj=>by have:=a02 h1 j hj;simp at this;grind⟩
 ·cases h
theorem ad2 {m s s':Nat} {D:Fd} (h:a0j m D s=.col s'):s'=s∧∀i,i<m→D.A i s≤0:=by
 unfold a0j at h
 split at h
 ·rename_i h1
  injection h with h
  exact ⟨h.symm,fun i hi=>by have:=a02 h1 i hi;simp at this;grind⟩
 ·cases h
theorem aB0 {m n r:Nat} {D:Fd} (h:B9 m n D=.row r):r<m∧D.V r<0∧∀j,j<n→0≤D.A r j:=by
 unfold B9 at h
 split at h
 ·cases h
 ·rename_i r0 h1 h2
  obtain ⟨rfl,h4⟩:=ag9 h
  have h3:=F8 h1
  exact ⟨h3.1,by simpa using h3.2.1,h4⟩
 ·unfold a0j at h;split at h<;>cases h
 ·rename_i r0 s0 h1 h2
  split at h
  ·obtain ⟨rfl,h4⟩:=ag9 h
   have h3:=F8 h1
   exact ⟨h3.1,by simpa using h3.2.1,h4⟩
  ·unfold a0j at h;split at h<;>cases h
theorem a5b {m n s:Nat} {D:Fd} (h:B9 m n D=.col s):s<n∧0<D.G s∧∀i,i<m→D.A i s≤0:=by
 unfold B9 at h
 split at h
 ·cases h
 ·unfold a0g at h;split at h<;>cases h
 ·rename_i s0 h1 h2
  obtain ⟨rfl,h4⟩:=ad2 h
  have h3:=F8 h2
  exact ⟨h3.1,by simpa using h3.2.1,h4⟩
 ·rename_i r0 s0 h1 h2
  split at h
  ·unfold a0g at h;split at h<;>cases h
  ·obtain ⟨rfl,h4⟩:=ad2 h
   have h3:=F8 h2
   exact ⟨h3.1,by simpa using h3.2.1,h4⟩
theorem b2h {m n:Nat} {D:Fd} (h:F0 m n D=none):B9 m n D=.best∨(∃ r,B9 m n D=.row r)∨∃s,B9 m n D=.col s:=by
 unfold F0 at h
 cases hs:B9 m n D with
 |best=>exact .inl rfl
 |row r=>exact .inr (.inl ⟨r,rfl⟩)
 |col s=>exact .inr (.inr ⟨s,rfl⟩)
 |next r s=>rw [hs] at h;cases h
end
end Go.Proofs.YtdbogogfeffjlaaGreat
