/- Part 7. -/
import Derived.Test.YtdbogogfeffjlaaGreatSsA6
namespace Go.Proofs.YtdbogogfeffjlaaGreat
set_option linter.unusedVariables false
set_option linter.unusedSimpArgs false
set_option maxRecDepth 100000
open St1 St2 St3 St4 St5 St6
section
open Go.RowKit
theorem a2l {α:Type} {l:List α} {k:Nat} {x:α} (h:l[k]? =some x):l.take (k+1)=l.take k++[x]:=by
 rw [List.take_add_one,h];rfl
theorem b5s (a b:Bg) (ha:a.dl.length≤1000000) (hb:b.dl.length≤1000000):b9 Tryz.prog 245 [bgS a,bgS b] [] (f7 (decide (a.sg=b.sg∧a.dl=b.dl))) []:=by
 have l1:(a.dl.map i5).length=a.dl.length:=by simp
 have l2:(b.dl.map i5).length=b.dl.length:=by simp
 by_cases h0:¬(a.sg=b.sg∧a.dl.length=b.dl.length)
 ·(refine a8 a7 Tryz.func245 rfl (by decide) ?_;(conv=>whnf);repeat ((first|refine b0x ?_|refine zy ?_);conv=>whnf))
  repeat' first|(refine zd ?_ ?_<;>intro h<;>first|exact zc h|(exfalso;omega)|conv=>whnf)|((first|refine zz ?_|refine zy ?_);conv=>whnf)
  all_goals first
   |(exfalso;omega)
   |(refine d8 (decide_eq_false ?_).symm;rintro ⟨h1,h2⟩;rw [h2] at h0;exact h0 ⟨h1,rfl⟩)
 have h0:a.sg=b.sg∧a.dl.length=b.dl.length:=Decidable.not_not.1 h0
 (refine a8 a7 Tryz.func245 rfl (by decide) ?_;(conv=>whnf);repeat ((first|refine b0x ?_|refine zy ?_);conv=>whnf))
 repeat' first|(refine zd ?_ ?_<;>intro h<;>first|exact zc h|(exfalso;omega)|conv=>whnf)|((first|refine zz ?_|refine zy ?_);conv=>whnf)
 all_goals try (exfalso;omega)
 refine f8 a7 (fun k=>([J,J,S.c (C.t (T.ptr [ti a.sg,J0 a.dl])),S.c (C.t (T.ptr [ti b.sg,J0 b.dl])),J,a9 .i64 k,J,J,J,J,J,J,J,J,J,J,J,J,J,J,J,J,J,J,J,J,J,J,J,J,J,J,J,J,J,J,J,J],[])) a.dl.length (fun k=>a.dl.take k=b.dl.take k) [] rfl
  ⟨rfl,rfl,trivial,⟨rfl,rfl,rfl,trivial⟩⟩ ?_
 intro k hk hI
 by_cases hlt:k<a.dl.length
 ·obtain ⟨x,hx⟩:∃x,a.dl[k]? =some x:=⟨_,lg0 hlt⟩
  obtain ⟨y,hy⟩:∃y,b.dl[k]? =some y:=⟨_,lg0 (by omega)⟩
  conv=>whnf
  repeat' first|(refine zd ?_ ?_<;>intro h<;>first|exact zc h|(exfalso;omega)|conv=>whnf)|((first|refine zz ?_|refine d9 hx ?_|refine d9 hy ?_|refine zy ?_);conv=>whnf)
  ·have hne:x≠y:=‹x≠y›
   refine d8 (decide_eq_false ?_).symm
   rintro ⟨_,hq⟩;rw [hq,hy] at hx;injection hx with hx;exact hne hx.symm
  ·have hxy:x=y:=by omega
   refine ⟨hlt,?_,[],rfl,rfl,trivial,⟨rfl,rfl,rfl,trivial⟩⟩
   rw [a2l hx,a2l hy,hI,hxy]
  all_goals (exfalso;omega)
 ·rw [lg4 (by omega),lg4 (by omega)] at hI
  conv=>whnf
  repeat' first|(refine zd ?_ ?_<;>intro h<;>first|exact zc h|(exfalso;omega)|conv=>whnf)|((first|refine zz ?_|refine zy ?_);conv=>whnf)
  all_goals first
   |(exfalso;omega)
   |exact d8 (decide_eq_true ⟨h0.1,hI⟩).symm
theorem b8k:T0 .or .i64 0 0 0:=by show (0:Int)=_;decide +kernel
theorem b7k:T0 .or .i64 0 1 1:=by show (1:Int)=_;decide +kernel
theorem b8j:T0 .or .i64 1 0 1:=by show (1:Int)=_;decide +kernel
theorem b8a:T0 .or .i64 1 1 1:=by show (1:Int)=_;decide +kernel
theorem b77:T0 .or .i64 0 (-1) (-1):=by show (-1:Int)=_;decide +kernel
theorem b6E:T0 .or .i64 (-1) 0 (-1):=by show (-1:Int)=_;decide +kernel
theorem b8S:T0 .or .i64 (-1) (-1) (-1):=by show (-1:Int)=_;decide +kernel
set_option maxHeartbeats 4000000 in
theorem b5x (s t:Int) (m n:Nat) (hs:Sg s m) (ht:Sg t n) (lm:(dg m).length≤200000) (ln:(dg n).length≤200000):
 b9 Tryz.prog 113 [bgS ⟨s,dg m⟩,bgS ⟨t,dg n⟩] [] (.tup [bgS (bz (s*m+t*n)),a9 .i64 0]) []:=by
 have r1:=b2S s m hs (by omega)
 have r2:=b2S t n ht (by omega)
 have ad:=b38 m n (by omega) (by omega)
 have c:=aR4 m n (by omega) (by omega)
 have ls:=a2b m n
 have fin:∀(z:Int) (H1:Hp),z=s*m+t*n→Fin 0 (.tup [bgS (bz z),a9 .i64 0]) H1 (.tup [bgS (bz (s*m+t*n)),a9 .i64 0]) []:=fun z H1 h=>a4C (by rw [h])
 rcases hs with ⟨rfl,rfl⟩|⟨rfl,h1⟩|⟨rfl,h1⟩<;>rcases ht with ⟨rfl,rfl⟩|⟨rfl,h2⟩|⟨rfl,h2⟩
 case inl.inl=>
  have sg:=H7 (0) _ (by omega) (F2 ls (by omega))
  (refine a8 a7 Tryz.func113 rfl (by decide) ?_;(conv=>whnf);repeat ((first|refine b0x ?_|refine zy ?_);conv=>whnf))
  repeat' first|(refine zd ?_ ?_<;>intro h<;>first|exact zc h|(exfalso;omega)|conv=>whnf)|((first|refine zz ?_|refine qp r1 ?_|refine qp r2 ?_|refine qp ad ?_|refine qp sg ?_|refine ⟨_,b8k,?_⟩|refine zy ?_);conv=>whnf)
  all_goals first|(exfalso;omega)|(exfalso;simp_all;done)|exact fin _ _ (by omega)
 case inl.inr.inl=>
  have sg:=H7 (1) _ (by omega) (F2 ls (by omega))
  (refine a8 a7 Tryz.func113 rfl (by decide) ?_;(conv=>whnf);repeat ((first|refine b0x ?_|refine zy ?_);conv=>whnf))
  repeat' first|(refine zd ?_ ?_<;>intro h<;>first|exact zc h|(exfalso;omega)|conv=>whnf)|((first|refine zz ?_|refine qp r1 ?_|refine qp r2 ?_|refine qp ad ?_|refine qp sg ?_|refine ⟨_,b7k,?_⟩|refine zy ?_);conv=>whnf)
  all_goals first|(exfalso;omega)|(exfalso;simp_all;done)|exact fin _ _ (by omega)
 case inl.inr.inr=>
  have sg:=H7 (-1) _ (by omega) (F2 ls (by omega))
  (refine a8 a7 Tryz.func113 rfl (by decide) ?_;(conv=>whnf);repeat ((first|refine b0x ?_|refine zy ?_);conv=>whnf))
  repeat' first|(refine zd ?_ ?_<;>intro h<;>first|exact zc h|(exfalso;omega)|conv=>whnf)|((first|refine zz ?_|refine qp r1 ?_|refine qp r2 ?_|refine qp ad ?_|refine qp sg ?_|refine ⟨_,b77,?_⟩|refine zy ?_);conv=>whnf)
  all_goals first|(exfalso;omega)|(exfalso;simp_all;done)|exact fin _ _ (by omega)
 case inr.inl.inl=>
  have sg:=H7 (1) _ (by omega) (F2 ls (by omega))
  (refine a8 a7 Tryz.func113 rfl (by decide) ?_;(conv=>whnf);repeat ((first|refine b0x ?_|refine zy ?_);conv=>whnf))
  repeat' first|(refine zd ?_ ?_<;>intro h<;>first|exact zc h|(exfalso;omega)|conv=>whnf)|((first|refine zz ?_|refine qp r1 ?_|refine qp r2 ?_|refine qp ad ?_|refine qp sg ?_|refine ⟨_,b8j,?_⟩|refine zy ?_);conv=>whnf)
  all_goals first|(exfalso;omega)|(exfalso;simp_all;done)|exact fin _ _ (by omega)
 case inr.inr.inl=>
  have sg:=H7 (-1) _ (by omega) (F2 ls (by omega))
  (refine a8 a7 Tryz.func113 rfl (by decide) ?_;(conv=>whnf);repeat ((first|refine b0x ?_|refine zy ?_);conv=>whnf))
  repeat' first|(refine zd ?_ ?_<;>intro h<;>first|exact zc h|(exfalso;omega)|conv=>whnf)|((first|refine zz ?_|refine qp r1 ?_|refine qp r2 ?_|refine qp ad ?_|refine qp sg ?_|refine ⟨_,b6E,?_⟩|refine zy ?_);conv=>whnf)
  all_goals first|(exfalso;omega)|(exfalso;simp_all;done)|exact fin _ _ (by omega)
 case inr.inl.inr.inl=>
  have sg:=H7 (1) _ (by omega) (F2 ls (by omega))
  (refine a8 a7 Tryz.func113 rfl (by decide) ?_;(conv=>whnf);repeat ((first|refine b0x ?_|refine zy ?_);conv=>whnf))
  repeat' first|(refine zd ?_ ?_<;>intro h<;>first|exact zc h|(exfalso;omega)|conv=>whnf)|((first|refine zz ?_|refine qp r1 ?_|refine qp r2 ?_|refine qp ad ?_|refine qp sg ?_|refine ⟨_,b8a,?_⟩|refine zy ?_);conv=>whnf)
  all_goals first|(exfalso;omega)|(exfalso;simp_all;done)|exact fin _ _ (by omega)
 case inr.inr.inr.inr=>
  have sg:=H7 (-1) _ (by omega) (F2 ls (by omega))
  (refine a8 a7 Tryz.func113 rfl (by decide) ?_;(conv=>whnf);repeat ((first|refine b0x ?_|refine zy ?_);conv=>whnf))
  repeat' first|(refine zd ?_ ?_<;>intro h<;>first|exact zc h|(exfalso;omega)|conv=>whnf)|((first|refine zz ?_|refine qp r1 ?_|refine qp r2 ?_|refine qp ad ?_|refine qp sg ?_|refine ⟨_,b8S,?_⟩|refine zy ?_);conv=>whnf)
  all_goals first|(exfalso;omega)|(exfalso;simp_all;done)|exact fin _ _ (by omega)
 case inr.inl.inr.inr=>
  rcases Nat.lt_or_ge m n with hmn|hmn
  ·rw [decide_eq_true hmn] at c
   have l3:=o5 (Nat.sub_le n m)
   (refine a8 a7 Tryz.func113 rfl (by decide) ?_;(conv=>whnf);repeat ((first|refine b0x ?_|refine zy ?_);conv=>whnf))
   repeat' first|(refine zd ?_ ?_<;>intro h<;>first|exact zc h|(exfalso;omega)|conv=>whnf)|((first|refine zz ?_|refine qp r1 ?_|refine qp r2 ?_|refine qp c ?_|refine qp (a5P n m (by omega) (by omega)) ?_|refine qp (H7 (-1) (n - m) (by omega) (by omega)) ?_|refine zy ?_);conv=>whnf)
   all_goals first|(exfalso;omega)|(exfalso;simp_all;done)|exact fin _ _ (by omega)
  ·rw [decide_eq_false (Nat.not_lt.2 hmn)] at c
   have l3:=o5 (Nat.sub_le m n)
   (refine a8 a7 Tryz.func113 rfl (by decide) ?_;(conv=>whnf);repeat ((first|refine b0x ?_|refine zy ?_);conv=>whnf))
   repeat' first|(refine zd ?_ ?_<;>intro h<;>first|exact zc h|(exfalso;omega)|conv=>whnf)|((first|refine zz ?_|refine qp r1 ?_|refine qp r2 ?_|refine qp c ?_|refine qp (a5P m n (by omega) (by omega)) ?_|refine qp (H7 (1) (m - n) (by omega) (by omega)) ?_|refine zy ?_);conv=>whnf)
   all_goals first|(exfalso;omega)|(exfalso;simp_all;done)|exact fin _ _ (by omega)
 case inr.inr.inr.inl=>
  rcases Nat.lt_or_ge m n with hmn|hmn
  ·rw [decide_eq_true hmn] at c
   have l3:=o5 (Nat.sub_le n m)
   (refine a8 a7 Tryz.func113 rfl (by decide) ?_;(conv=>whnf);repeat ((first|refine b0x ?_|refine zy ?_);conv=>whnf))
   repeat' first|(refine zd ?_ ?_<;>intro h<;>first|exact zc h|(exfalso;omega)|conv=>whnf)|((first|refine zz ?_|refine qp r1 ?_|refine qp r2 ?_|refine qp c ?_|refine qp (a5P n m (by omega) (by omega)) ?_|refine qp (H7 (1) (n - m) (by omega) (by omega)) ?_|refine zy ?_);conv=>whnf)
   all_goals first|(exfalso;omega)|(exfalso;simp_all;done)|exact fin _ _ (by omega)
  ·rw [decide_eq_false (Nat.not_lt.2 hmn)] at c
   have l3:=o5 (Nat.sub_le m n)
   (refine a8 a7 Tryz.func113 rfl (by decide) ?_;(conv=>whnf);repeat ((first|refine b0x ?_|refine zy ?_);conv=>whnf))
   repeat' first|(refine zd ?_ ?_<;>intro h<;>first|exact zc h|(exfalso;omega)|conv=>whnf)|((first|refine zz ?_|refine qp r1 ?_|refine qp r2 ?_|refine qp c ?_|refine qp (a5P m n (by omega) (by omega)) ?_|refine qp (H7 (-1) (m - n) (by omega) (by omega)) ?_|refine zy ?_);conv=>whnf)
   all_goals first|(exfalso;omega)|(exfalso;simp_all;done)|exact fin _ _ (by omega)
theorem b4b (x y:Int) (lx:bl x≤200000) (ly:bl y≤200000):b9 Tryz.prog 113 [bgS (bz x),bgS (bz y)] [] (.tup [bgS (bz (x+y)),a9 .i64 0]) []:=by
 have h:=b5x _ _ _ _ (a4c x) (a4c y) lx ly
 rw [sgm,sgm] at h
 exact h
set_option maxHeartbeats 2000000 in
theorem b7l (x y:Int) (lx:bl x≤200000) (ly:bl y≤200000):b9 Tryz.prog 115 [bgS (bz x),bgS (bz y)] [] (.tup [bgS (bz (x - y)),a9 .i64 0]) []:=by
 have r:=Z5 y (by omega)
 have n:=b46 y (by omega)
 have a:=b4b x (-y) lx (by rw [a18];exact ly)
 rw [← Int.sub_eq_add_neg] at a
 (refine a8 a7 Tryz.func115 rfl (by decide) ?_;(conv=>whnf);repeat ((first|refine b0x ?_|refine zy ?_);conv=>whnf))
 repeat' first|(refine zd ?_ ?_<;>intro h<;>first|exact zc h|(exfalso;omega)|conv=>whnf)|((first|refine zz ?_|refine qp r ?_|refine qp n ?_|refine qp a ?_|refine qp 6 ?_|refine qp 1 ?_|refine bl0 [6] ?_|refine bl0 [1] ?_|refine zy ?_);conv=>whnf)
 all_goals first
  |(exfalso;simp_all;done)
  |exact a4C rfl
theorem b5m (s t:Int) (m n:Nat) (hs:Sg s m) (ht:Sg t n) (lm:(dg m).length≤200000) (ln:(dg n).length≤200000):
 b9 Tryz.prog 112 [bgS ⟨s,dg m⟩,bgS ⟨t,dg n⟩] [] (.tup [bgS (bz ((s*t)*(m*n:Nat))),a9 .i64 0]) []:=by
 have r1:=b2S s m hs (by omega)
 have r2:=b2S t n ht (by omega)
 have mu:=as5 m n (by omega) (by omega)
 have ls:=a1Z m n
 have hst:-1≤s*t∧s*t≤1∧(s*t=1∨s*t=-1∨m*n=0):=by
  rcases hs with ⟨rfl,rfl⟩|⟨rfl,h1⟩|⟨rfl,h1⟩<;>rcases ht with ⟨rfl,rfl⟩|⟨rfl,h2⟩|⟨rfl,h2⟩<;>simp
 obtain ⟨q1,q2,q3⟩:=hst
 have sg:=H7 (s*t) (m*n) q3 (by omega)
 (refine a8 a7 Tryz.func112 rfl (by decide) ?_;(conv=>whnf);repeat ((first|refine b0x ?_|refine zy ?_);conv=>whnf))
 repeat' first|(refine zd ?_ ?_<;>intro h<;>first|exact zc h|(exfalso;omega)|conv=>whnf)|((first|refine zz ?_|refine qp r1 ?_|refine qp r2 ?_|refine qp mu ?_|refine qp sg ?_|refine ⟨_,C0 (y:=s*t) rfl (by omega) (by omega),?_⟩|refine zy ?_);conv=>whnf)
 all_goals first|(exfalso;simp_all;done)|exact a4C rfl
theorem a4m (x y:Int) (lx:bl x≤200000) (ly:bl y≤200000):b9 Tryz.prog 112 [bgS (bz x),bgS (bz y)] [] (.tup [bgS (bz (x*y)),a9 .i64 0]) []:=by
 have h:=b5m _ _ _ _ (a4c x) (a4c y) lx ly
 have e:(x.sign*y.sign)*((x.natAbs*y.natAbs:Nat):Int)=x*y:=by
  rw [Int.natCast_mul]
  have h1:=sgm x
  have h2:=sgm y
  grind
 rw [e] at h
 exact h
theorem b3I {x y:Int} (h:(bz x).sg=(bz y).sg∧(bz x).dl=(bz y).dl):x=y:=by
 have:bz x=bz y:=by
  obtain ⟨h1,h2⟩:=h
  cases hx:bz x with
  |mk a b=>
   cases hy:bz y with
   |mk c d=>rw [hx,hy] at h1 h2;simp only at h1 h2;rw [h1,h2]
 rw [← a2J x,←a2J y,this]
set_option maxHeartbeats 4000000 in
theorem ac7 (x y:Int) (lx:bl x≤300000) (ly:bl y≤300000):b9 Tryz.prog 182 [bgS (bz x),bgS (bz y)] [] (a9 .i64 (K9 x y)) []:=by
 have r1:=Z5 x lx
 have r2:=Z5 y ly
 have hsx:(bz x).sg=x.sign:=rfl
 have hsy:(bz y).sg=y.sign:=rfl
 have sx:=C7 x
 have sy:=C7 y
 have sm:=b5s (bz x) (bz y) (show bl x≤1000000 by omega) (show bl y≤1000000 by omega)
 by_cases he:x=y
 ·subst he
  have sm:b9 Tryz.prog 245 [bgS (bz x),bgS (bz x)] [] (f7 true) []:=by rw [show decide ((bz x).sg=(bz x).sg∧(bz x).dl=(bz x).dl)=true from decide_eq_true ⟨rfl,rfl⟩] at sm;exact sm
  have e0:K9 x x=0:=by unfold K9;rw [if_neg (by omega),if_neg (by omega)]
  rw [e0]
  (refine a8 a7 Tryz.func182 rfl (by decide) ?_;(conv=>whnf);repeat ((first|refine b0x ?_|refine zy ?_);conv=>whnf))
  repeat' first|(refine zd ?_ ?_<;>intro h<;>first|exact zc h|(exfalso;omega)|conv=>whnf)|((first|refine zz ?_|refine qp r1 ?_|refine qp r2 ?_|refine qp sm ?_|refine zy ?_);conv=>whnf)
  all_goals first
   |(exfalso;simp_all;done)
   |exact j5 rfl
 rw [decide_eq_false (fun h=>he (b3I h))] at sm
 have ls:=aR4 x.natAbs y.natAbs lx ly
 rcases Int.lt_or_gt_of_ne he with hlt|hgt
 ·have e1:K9 x y=-1:=by unfold K9;rw [if_pos hlt]
  rw [e1]
  by_cases hl:x.natAbs<y.natAbs
  ·rw [decide_eq_true hl] at ls
   (refine a8 a7 Tryz.func182 rfl (by decide) ?_;(conv=>whnf);repeat ((first|refine b0x ?_|refine zy ?_);conv=>whnf))
   repeat' first|(refine zd ?_ ?_<;>intro h<;>first|exact zc h|(exfalso;omega)|conv=>whnf)|((first|refine zz ?_|refine qp r1 ?_|refine qp r2 ?_|refine qp sm ?_|refine qp ls ?_|refine zy ?_);conv=>whnf)
   all_goals first
    |(exfalso;omega)
    |(exfalso;simp_all;done)
    |exact j5 rfl
  ·rw [decide_eq_false hl] at ls
   (refine a8 a7 Tryz.func182 rfl (by decide) ?_;(conv=>whnf);repeat ((first|refine b0x ?_|refine zy ?_);conv=>whnf))
   repeat' first|(refine zd ?_ ?_<;>intro h<;>first|exact zc h|(exfalso;omega)|conv=>whnf)|((first|refine zz ?_|refine qp r1 ?_|refine qp r2 ?_|refine qp sm ?_|refine qp ls ?_|refine zy ?_);conv=>whnf)
   all_goals first
    |(exfalso;omega)
    |(exfalso;simp_all;done)
    |exact j5 rfl
 ·have e1:K9 x y=1:=by unfold K9;rw [if_neg (by omega),if_pos (by omega)]
  rw [e1]
  by_cases hl:x.natAbs<y.natAbs
  ·rw [decide_eq_true hl] at ls
   (refine a8 a7 Tryz.func182 rfl (by decide) ?_;(conv=>whnf);repeat ((first|refine b0x ?_|refine zy ?_);conv=>whnf))
   repeat' first|(refine zd ?_ ?_<;>intro h<;>first|exact zc h|(exfalso;omega)|conv=>whnf)|((first|refine zz ?_|refine qp r1 ?_|refine qp r2 ?_|refine qp sm ?_|refine qp ls ?_|refine zy ?_);conv=>whnf)
   all_goals first
    |(exfalso;omega)
    |(exfalso;simp_all;done)
    |exact j5 rfl
  ·rw [decide_eq_false hl] at ls
   (refine a8 a7 Tryz.func182 rfl (by decide) ?_;(conv=>whnf);repeat ((first|refine b0x ?_|refine zy ?_);conv=>whnf))
   repeat' first|(refine zd ?_ ?_<;>intro h<;>first|exact zc h|(exfalso;omega)|conv=>whnf)|((first|refine zz ?_|refine qp r1 ?_|refine qp r2 ?_|refine qp sm ?_|refine qp ls ?_|refine zy ?_);conv=>whnf)
   all_goals first
    |(exfalso;omega)
    |(exfalso;simp_all;done)
    |exact j5 rfl
end
section
open Go.RowKit
theorem aW7 {x y:Int}:K9 x y=0↔x=y:=by unfold K9;split<;>(try split)<;>omega
theorem aP9 (f:Fr) (lp:f.p.dl.length≤200000) (lq:f.q.dl.length≤200000):b9 Tryz.prog 111 [frS f] [] (f7 (D2 f)) []:=by
 obtain ⟨p,q⟩:=f
 simp only at lp lq
 have r1:=a2r p (by omega)
 have r2:=a2r q (by omega)
 cases hp:H6 p with
 |false=>
  rw [hp] at r1
  (refine a8 a7 Tryz.func111 rfl (by decide) ?_;(conv=>whnf);repeat ((first|refine b0x ?_|refine zy ?_);conv=>whnf))
  repeat' first|(refine zd ?_ ?_<;>intro h<;>first|exact zc h|(exfalso;omega)|conv=>whnf)|((first|refine zz ?_|refine qp r1 ?_|refine qp r2 ?_|refine zy ?_);conv=>whnf)
  all_goals (first|(exfalso;simp_all;done)|(refine d8 ?_;unfold D2;simp [hp]))
 |true=>
  rw [hp] at r1
  cases hq:H6 q with
  |false=>
   rw [hq] at r2
   (refine a8 a7 Tryz.func111 rfl (by decide) ?_;(conv=>whnf);repeat ((first|refine b0x ?_|refine zy ?_);conv=>whnf))
   repeat' first|(refine zd ?_ ?_<;>intro h<;>first|exact zc h|(exfalso;omega)|conv=>whnf)|((first|refine zz ?_|refine qp r1 ?_|refine qp r2 ?_|refine zy ?_);conv=>whnf)
   all_goals (first|(exfalso;simp_all;done)|(refine d8 ?_;unfold D2;simp [hq]))
  |true=>
   rw [hq] at r2
   obtain ⟨x,rfl⟩:=a8P hp
   obtain ⟨y,rfl⟩:=a8P hq
   have hsg:(bz y).sg=y.sign:=rfl
   have hsg2:(Fr.mk (bz x) (bz y)).q.sg=y.sign:=rfl
   have sy:=C7 y
   have lg:=a9e x y lp lq
   have g:=b4p x y lp lq
   have o:=b4L 1 (by decide) (by decide)
   have c:=ac7 (Int.gcd x y) 1 (by omega) (by have:=s6 (x:=1) (by decide) (by decide);omega)
   have hc:=aW7 (x:=Int.gcd x y) (y:=1)
   (refine a8 a7 Tryz.func111 rfl (by decide) ?_;(conv=>whnf);repeat ((first|refine b0x ?_|refine zy ?_);conv=>whnf))
   repeat' first|(refine zd ?_ ?_<;>intro h<;>first|exact zc h|(exfalso;omega)|conv=>whnf)|((first|refine zz ?_|refine qp r1 ?_|refine qp r2 ?_|refine qp g ?_|refine qp o ?_|refine qp c ?_|refine qp 5 ?_|refine bl0 [5] ?_|refine zy ?_);conv=>whnf)
   all_goals first
    |(exfalso;simp_all;done)
    |(refine d8 ?_;unfold D2;simp only [W5,a2J,Bool.true_and];simp;omega)
theorem a6j (x:Rat) (lx:rl x≤200000):b9 Tryz.prog 111 [frS (fz x)] [] (f7 true) []:=by
 have h:=aP9 (fz x) (Nat.le_trans (E5 x) lx) (Nat.le_trans (F4 x) lx)
 rw [a5H] at h
 exact h
theorem a9b (x y:Rat):0<(x.den:Int)*y.den:=Int.mul_pos (by have:=x.den_pos;omega) (by have:=y.den_pos;omega)
theorem aT5 (x y:Rat) (lx:rl x≤60000) (ly:rl y≤60000):b9 Tryz.prog 47 [frS (fz x),frS (fz y)] [] (.tup [frS (fz (x+y)),a9 .i64 0]) []:=by
 have r1:=a6j x (by omega)
 have r2:=a6j y (by omega)
 have x1:=E5 x
 have x2:=F4 x
 have y1:=E5 y
 have y2:=F4 y
 have l1:=D9 x.num y.den
 have l2:=D9 y.num x.den
 have l3:=D9 x.den y.den
 have l4:=a6U (x.num*y.den) (y.num*x.den)
 have t1:=a4m x.num y.den (by omega) (by omega)
 have t2:=a4m y.num x.den (by omega) (by omega)
 have t3:=a4m x.den y.den (by omega) (by omega)
 have a:=b4b (x.num*y.den) (y.num*x.den) (by omega) (by omega)
 have n:=aM8 (x.num*y.den+y.num*x.den) (x.den*y.den) (a9b x y) (by omega) (by omega)
 rw [← a7G] at n
 (refine a8 a7 Tryz.func47 rfl (by decide) ?_;(conv=>whnf);repeat ((first|refine b0x ?_|refine zy ?_);conv=>whnf))
 repeat' first|(refine zd ?_ ?_<;>intro h<;>first|exact zc h|(exfalso;omega)|conv=>whnf)|((first|refine zz ?_|refine qp r1 ?_|refine qp r2 ?_|refine qp t1 ?_|refine qp t2 ?_|refine qp t3 ?_|refine qp a ?_|refine qp n ?_|refine qp 7 ?_|refine qp 5 ?_|refine bl0 [7] ?_|refine bl0 [5] ?_|refine zy ?_);conv=>whnf)
 all_goals first
  |(exfalso;simp_all;done)
  |exact T5 rfl
theorem b5Z (x y:Rat) (lx:rl x≤60000) (ly:rl y≤60000):b9 Tryz.prog 48 [frS (fz x),frS (fz y)] [] (.tup [frS (fz (x - y)),a9 .i64 0]) []:=by
 have r1:=a6j x (by omega)
 have r2:=a6j y (by omega)
 have x1:=E5 x
 have x2:=F4 x
 have y1:=E5 y
 have y2:=F4 y
 have l1:=D9 x.num y.den
 have l2:=D9 y.num x.den
 have l3:=D9 x.den y.den
 have l4:=a6U (x.num*y.den) (-(y.num*x.den))
 rw [a18,←Int.sub_eq_add_neg] at l4
 have t1:=a4m x.num y.den (by omega) (by omega)
 have t2:=a4m y.num x.den (by omega) (by omega)
 have t3:=a4m x.den y.den (by omega) (by omega)
 have a:=b7l (x.num*y.den) (y.num*x.den) (by omega) (by omega)
 have n:=aM8 (x.num*y.den - y.num*x.den) (x.den*y.den) (a9b x y) (by omega) (by omega)
 have e:Rat.divInt (x.num*y.den - y.num*x.den) (x.den*y.den)=x - y:=by
  have:=a7G x (-y)
  rw [Rat.neg_num,Rat.neg_den,Int.neg_mul,←Int.sub_eq_add_neg,←Rat.sub_eq_add_neg] at this
  exact this.symm
 rw [e] at n
 (refine a8 a7 Tryz.func48 rfl (by decide) ?_;(conv=>whnf);repeat ((first|refine b0x ?_|refine zy ?_);conv=>whnf))
 repeat' first|(refine zd ?_ ?_<;>intro h<;>first|exact zc h|(exfalso;omega)|conv=>whnf)|((first|refine zz ?_|refine qp r1 ?_|refine qp r2 ?_|refine qp t1 ?_|refine qp t2 ?_|refine qp t3 ?_|refine qp a ?_|refine qp n ?_|refine qp 7 ?_|refine qp 5 ?_|refine bl0 [7] ?_|refine bl0 [5] ?_|refine zy ?_);conv=>whnf)
 all_goals first
  |(exfalso;simp_all;done)
  |exact T5 rfl
theorem b4e (x y:Rat) (lx:rl x≤60000) (ly:rl y≤60000):b9 Tryz.prog 237 [frS (fz x),frS (fz y)] [] (.tup [frS (fz (x*y)),a9 .i64 0]) []:=by
 have r1:=a6j x (by omega)
 have r2:=a6j y (by omega)
 have x1:=E5 x
 have x2:=F4 x
 have y1:=E5 y
 have y2:=F4 y
 have l1:=D9 x.num y.num
 have l3:=D9 x.den y.den
 have t1:=a4m x.num y.num (by omega) (by omega)
 have t3:=a4m x.den y.den (by omega) (by omega)
 have n:=aM8 (x.num*y.num) (x.den*y.den) (a9b x y) (by omega) (by omega)
 rw [← an2] at n
 (refine a8 a7 Tryz.func237 rfl (by decide) ?_;(conv=>whnf);repeat ((first|refine b0x ?_|refine zy ?_);conv=>whnf))
 repeat' first|(refine zd ?_ ?_<;>intro h<;>first|exact zc h|(exfalso;omega)|conv=>whnf)|((first|refine zz ?_|refine qp r1 ?_|refine qp r2 ?_|refine qp t1 ?_|refine qp t3 ?_|refine qp n ?_|refine qp 7 ?_|refine qp 5 ?_|refine bl0 [7] ?_|refine bl0 [5] ?_|refine zy ?_);conv=>whnf)
 all_goals first
  |(exfalso;simp_all;done)
  |exact T5 rfl
theorem af5 (x y:Rat) (lx:rl x≤60000) (ly:rl y≤60000):b9 Tryz.prog 169 [frS (fz x),frS (fz y)] [] (a9 .i64 (Y7 x y)) []:=by
 have r1:=a6j x (by omega)
 have r2:=a6j y (by omega)
 have x1:=E5 x
 have x2:=F4 x
 have y1:=E5 y
 have y2:=F4 y
 have l1:=D9 x.num y.den
 have l2:=D9 y.num x.den
 have t1:=a4m x.num y.den (by omega) (by omega)
 have t2:=a4m y.num x.den (by omega) (by omega)
 have c:=ac7 (x.num*y.den) (y.num*x.den) (by omega) (by omega)
 rw [ar4] at c
 (refine a8 a7 Tryz.func169 rfl (by decide) ?_;(conv=>whnf);repeat ((first|refine b0x ?_|refine zy ?_);conv=>whnf))
 repeat' first|(refine zd ?_ ?_<;>intro h<;>first|exact zc h|(exfalso;omega)|conv=>whnf)|((first|refine zz ?_|refine qp r1 ?_|refine qp r2 ?_|refine qp t1 ?_|refine qp t2 ?_|refine qp c ?_|refine qp 7 ?_|refine qp 5 ?_|refine bl0 [7] ?_|refine bl0 [5] ?_|refine zy ?_);conv=>whnf)
 all_goals first
  |(exfalso;simp_all;done)
  |exact j5 rfl
theorem a4G (x:Rat) (lx:rl x≤60000):b9 Tryz.prog 46 [frS (fz x)] [] (a9 .i64 (sgR x)) []:=by
 have r1:=a6j x (by omega)
 (refine a8 a7 Tryz.func46 rfl (by decide) ?_;(conv=>whnf);repeat ((first|refine b0x ?_|refine zy ?_);conv=>whnf))
 repeat' first|(refine zd ?_ ?_<;>intro h<;>first|exact zc h|(exfalso;omega)|conv=>whnf)|((first|refine zz ?_|refine qp r1 ?_|refine zy ?_);conv=>whnf)
 all_goals first
  |(exfalso;simp_all;done)
  |exact j5 (a5w x)
end
section
open Go.RowKit
theorem b1r {α:Type} {f:α→List T} {l:List α} {k:Nat} {u:α} (hu:l[k]? =some u) {Φ:List T→Prop} (h:Φ (f u)):
 ∃row,(0≤bif true then if 0 > ((k+1:Nat):Int) - 1 then 0 else ((k+1:Nat):Int) - 1 else if 0<((k+1:Nat):Int) - 1 then 0 else ((k+1:Nat):Int) - 1)∧
  (l.map f)[(bif true then if 0 > ((k+1:Nat):Int) - 1 then 0 else ((k+1:Nat):Int) - 1 else if 0<((k+1:Nat):Int) - 1 then 0 else ((k+1:Nat):Int) - 1).toNat]? =some row∧Φ row:=by
 have e:(bif true then if 0 > ((k+1:Nat):Int) - 1 then 0 else ((k+1:Nat):Int) - 1 else if 0<((k+1:Nat):Int) - 1 then 0 else ((k+1:Nat):Int) - 1)=(k:Int):=by
  show (if 0 > ((k+1:Nat):Int) - 1 then 0 else ((k+1:Nat):Int) - 1)=_
  rw [if_neg (by omega)];omega
 rw [e]
 exact ⟨f u,by omega,by rw [Int.toNat_natCast,List.getElem?_map,hu];rfl,h⟩
theorem a0l (l:List (Int × Rat)) (n:Int) (hl:l.length≤1000000) (hB:∀t ∈ l,rl t.2≤200):b9 Tryz.prog 167 [m7 l,a9 .i64 n] [] (f7 (decide (0≤n) && j1 (-1) n l)) []:=by
 have m1:(l.map o7).length=l.length:=by simp
 by_cases h0:n<0
 ·rw [decide_eq_false (by omega),Bool.false_and]
  (refine a8 a7 Tryz.func167 rfl (by decide) ?_;(conv=>whnf);repeat ((first|refine b0x ?_|refine zy ?_);conv=>whnf))
  repeat' first|(refine zd ?_ ?_<;>intro h<;>first|exact zc h|(exfalso;omega)|conv=>whnf)|((first|refine zz ?_|refine zy ?_);conv=>whnf)
  all_goals first
   |(exfalso;omega)
   |exact d8 rfl
 rw [decide_eq_true (by omega),Bool.true_and]
 (refine a8 a7 Tryz.func167 rfl (by decide) ?_;(conv=>whnf);repeat ((first|refine b0x ?_|refine zy ?_);conv=>whnf))
 repeat' first|(refine zd ?_ ?_<;>intro h<;>first|exact zc h|(exfalso;omega)|conv=>whnf)|((first|refine zz ?_|refine zy ?_);conv=>whnf)
 all_goals try (exfalso;omega)
 refine f8 a7 (fun k=>([m7 l,a9 .i64 n,J,J,J,a9 .i64 k,J,J,J,J,J,J,J,J,J,J,J,J,J,J,J,J,J,J,J,J,J,J,J,J,J,J,J,J,J,J,J,J,J,J,J,J,J,J,J,J,J,J,J,J,J,J,J,J,J,J,J,J,J,J,J,J,J,J,J],[])) l.length (fun k=>j1 (-1) n l=j1 (a1W l k) n (l.drop k)∧-1≤a1W l k) [] ⟨rfl,Int.le_refl _⟩
  ⟨rfl,rfl,trivial,⟨rfl,rfl,rfl,trivial⟩⟩ ?_
 rintro k hk ⟨hI,hJ⟩
 by_cases hlt:k<l.length
 ·obtain ⟨t,ht⟩:∃t,l[k]? =some t:=⟨_,lg0 hlt⟩
  obtain ⟨v,c⟩:=t
  have bc:=hB _ (lg2 ht)
  simp only at bc
  have rr:=a6j c (by omega)
  have sz:(fz c).p.sg=0↔c=0:=by
   show c.num.sign=0↔c=0
   rw [Int.sign_eq_zero_iff_zero]
   exact Rat.num_eq_zero
  rw [W3 ht,j1] at hI
  simp only at hI
  by_cases hok:a1W l k<v∧v<n∧c≠0
  ·rw [decide_eq_true hok.1,decide_eq_true hok.2.1,decide_eq_true hok.2.2] at hI
   simp only [Bool.true_and] at hI
   have hne:(fz (v,c).2).p.sg≠0:=fun h=>hok.2.2 (sz.1 h)
   obtain ⟨q1,q2,_⟩:=hok
   cases k with
   |zero=>
    conv=>whnf
    repeat' first|(refine zd ?_ ?_<;>intro h<;>first|exact zc h|(exfalso;omega)|conv=>whnf)|((first|refine zz ?_|refine qp rr ?_|refine d9 ht ?_|refine zy ?_);conv=>whnf)
    all_goals first
     |(exfalso;omega)
     |exact ⟨hlt,⟨by rw [O6 ht];exact hI,by rw [O6 ht];simp only;omega⟩,[],rfl,rfl,trivial,⟨rfl,rfl,rfl,trivial⟩⟩
   |succ k=>
    obtain ⟨u,hu⟩:∃u,l[k]? =some u:=⟨_,lg0 (by omega)⟩
    rw [O6 hu] at q1 hJ
    conv=>whnf
    repeat' first|(refine zd ?_ ?_<;>intro h<;>first|exact zc h|(exfalso;omega)|conv=>whnf)|((first|refine zz ?_|refine qp rr ?_|refine d9 ht ?_|refine b1r hu ?_|refine zy ?_);conv=>whnf)
    all_goals first
     |(exfalso;omega)
     |exact ⟨hlt,⟨by rw [O6 ht];exact hI,by rw [O6 ht];simp only;omega⟩,[],rfl,rfl,trivial,⟨rfl,rfl,rfl,trivial⟩⟩
  ·have hF:j1 (-1) n l=false:=by
    rw [hI]
    rw [← Bool.not_eq_true]
    simp only [Bool.and_eq_true,decide_eq_true_eq]
    exact fun h=>hok ⟨h.1.1.1,h.1.1.2,h.1.2⟩
   rw [hF]
   have hor:v≤a1W l k∨n≤v∨(fz (v,c).2).p.sg=0:=by
    by_cases q1:a1W l k<v
    ·by_cases q2:v<n
     ·refine .inr (.inr (sz.2 ?_))
      by_cases q3:c=0
      ·exact q3
      ·exact absurd ⟨q1,q2,q3⟩ hok
     ·exact .inr (.inl (by omega))
    ·exact .inl (by omega)
   clear hI hok
   cases k with
   |zero=>
    have e0:a1W l 0=-1:=rfl
    conv=>whnf
    repeat' first|(refine zd ?_ ?_<;>intro h<;>first|exact zc h|(exfalso;omega)|conv=>whnf)|((first|refine zz ?_|refine qp rr ?_|refine d9 ht ?_|refine zy ?_);conv=>whnf)
    all_goals first
     |(exfalso;omega)
     |exact d8 rfl
   |succ k=>
    obtain ⟨u,hu⟩:∃u,l[k]? =some u:=⟨_,lg0 (by omega)⟩
    rw [O6 hu] at hor
    conv=>whnf
    repeat' first|(refine zd ?_ ?_<;>intro h<;>first|exact zc h|(exfalso;omega)|conv=>whnf)|((first|refine zz ?_|refine qp rr ?_|refine d9 ht ?_|refine b1r hu ?_|refine zy ?_);conv=>whnf)
    all_goals first
     |(exfalso;omega)
     |exact d8 rfl
 ·rw [List.drop_of_length_le (by omega)] at hI
  have hI:j1 (-1) n l=true:=hI
  rw [hI]
  conv=>whnf
  repeat' first|(refine zd ?_ ?_<;>intro h<;>first|exact zc h|(exfalso;omega)|conv=>whnf)|((first|refine zz ?_|refine zy ?_);conv=>whnf)
  all_goals first
   |(exfalso;omega)
   |exact d8 rfl
theorem b5T (w:B2) (n:Int) (hl:w.terms.length≤1000000) (hB:∀t ∈ w.terms,rl t.2≤200) (hv:rl w.value≤200):b9 Tryz.prog 269 [az8 w,a9 .i64 n] [] (f7 (decide (0≤n) && w9 n w)) []:=by
 have rt:=a0l w.terms n hl hB
 have rv:=a6j w.value (by omega)
 unfold w9
 cases h1:decide (0≤n)<;>cases h2:j1 (-1) n w.terms<;>rw [h1,h2] at rt<;>
 ·(refine a8 a7 Tryz.func269 rfl (by decide) ?_;(conv=>whnf);repeat ((first|refine b0x ?_|refine zy ?_);conv=>whnf))
  repeat' first|(refine zd ?_ ?_<;>intro h<;>first|exact zc h|(exfalso;omega)|conv=>whnf)|((first|refine zz ?_|refine qp rt ?_|refine qp rv ?_|refine zy ?_);conv=>whnf)
  all_goals first
   |(exfalso;simp_all;done)
   |(refine d8 ?_;simp;done)
   |(refine d8 ?_;simp;omega)
theorem ao7 (s:i8) (hb:a6I s):b9 Tryz.prog 218 [U9 s] [] (f7 (j8 s)) []:=by
 have m1:(s.rows.map y4).length=s.rows.length:=by simp
 have l1:=hb.n0
 by_cases h0:¬(0≤s.n∧s.n≤1500∧s.rows.length≤6000)
 ·have e1:j8 s=false:=by
   unfold j8
   rw [← Bool.not_eq_true]
   simp only [Bool.and_eq_true,decide_eq_true_eq]
   exact fun h=>h0 ⟨h.1.1.1,h.1.1.2,h.1.2⟩
  rw [e1]
  (refine a8 a7 Tryz.func218 rfl (by decide) ?_;(conv=>whnf);repeat ((first|refine b0x ?_|refine zy ?_);conv=>whnf))
  repeat' first|(refine zd ?_ ?_<;>intro h<;>first|exact zc h|(exfalso;omega)|conv=>whnf)|((first|refine zz ?_|refine zy ?_);conv=>whnf)
  all_goals first
   |(exfalso;omega)
   |exact d8 rfl
 obtain ⟨c1,c2,c3⟩:=Decidable.not_not.1 h0
 have e1:j8 s=s.rows.all (w9 s.n):=by
  unfold j8
  rw [decide_eq_true c1,decide_eq_true c2,decide_eq_true c3];rfl
 rw [e1]
 clear h0
 (refine a8 a7 Tryz.func218 rfl (by decide) ?_;(conv=>whnf);repeat ((first|refine b0x ?_|refine zy ?_);conv=>whnf))
 repeat' first|(refine zd ?_ ?_<;>intro h<;>first|exact zc h|(exfalso;omega)|conv=>whnf)|((first|refine zz ?_|refine zy ?_);conv=>whnf)
 all_goals try (exfalso;omega)
 refine f8 a7 (fun k=>([J,S.c (C.t (T.ptr [ti s.n,M5 s.rows])),J,a9 .i64 k,J,J,J,J,J,J,J,J,J,J,J,J,J,J,J,J,J,J,J,J,J,J,J,J,J,J,J,J,J,J],[])) s.rows.length (fun k=>(s.rows.take k).all (w9 s.n)=true) [] rfl
  ⟨rfl,rfl,trivial,⟨rfl,rfl,trivial⟩⟩ ?_
 intro k hk hI
 by_cases hlt:k<s.rows.length
 ·obtain ⟨w,hw⟩:∃w,s.rows[k]? =some w:=⟨_,lg0 hlt⟩
  obtain ⟨b1,b2,b3⟩:=hb.t w (lg2 hw)
  have rt:=b5T w s.n (by omega) b2 b3
  rw [decide_eq_true c1,Bool.true_and] at rt
  cases hrt:w9 s.n w with
  |false=>
   rw [hrt] at rt
   rw [w7 hw hrt]
   conv=>whnf
   repeat' first|(refine zd ?_ ?_<;>intro h<;>first|exact zc h|(exfalso;omega)|conv=>whnf)|((first|refine zz ?_|refine qp rt ?_|refine d9 hw ?_|refine zy ?_);conv=>whnf)
   all_goals first
    |(exfalso;omega)
    |(exfalso;simp_all;done)
    |exact d8 rfl
  |true=>
   rw [hrt] at rt
   conv=>whnf
   repeat' first|(refine zd ?_ ?_<;>intro h<;>first|exact zc h|(exfalso;omega)|conv=>whnf)|((first|refine zz ?_|refine qp rt ?_|refine d9 hw ?_|refine zy ?_);conv=>whnf)
   all_goals first
    |(exfalso;omega)
    |(exfalso;simp_all;done)
    |exact ⟨hlt,by rw [s7 hw,hI,hrt];rfl,[],rfl,rfl,trivial,⟨rfl,rfl,trivial⟩⟩
 ·rw [lg4 (by omega)] at hI
  rw [hI]
  conv=>whnf
  repeat' first|(refine zd ?_ ?_<;>intro h<;>first|exact zc h|(exfalso;omega)|conv=>whnf)|((first|refine zz ?_|refine zy ?_);conv=>whnf)
  all_goals first
   |(exfalso;omega)
   |exact d8 rfl
theorem b3V (z:List Fr) (hl:z.length≤1000000) (hd:∀f ∈ z,f.p.dl.length≤200000∧f.q.dl.length≤200000):b9 Tryz.prog 219 [p8 z] [] (f7 (z.all D2)) []:=by
 have m1:(z.map m6).length=z.length:=by simp
 (refine a8 a7 Tryz.func219 rfl (by decide) ?_;(conv=>whnf);repeat ((first|refine b0x ?_|refine zy ?_);conv=>whnf))
 repeat' first|(refine zd ?_ ?_<;>intro h<;>first|exact zc h|(exfalso;omega)|conv=>whnf)|((first|refine zz ?_|refine zy ?_);conv=>whnf)
 refine f8 a7 (fun k=>([p8 z,J,J,a9 .i64 k,J,J,J,J,J,J,J,J,J,J,J,J],[])) z.length (fun k=>(z.take k).all D2=true) [] rfl
  ⟨rfl,rfl,trivial,⟨rfl,rfl,trivial⟩⟩ ?_
 intro k hk hI
 by_cases hlt:k<z.length
 ·obtain ⟨f,hf⟩:∃f,z[k]? =some f:=⟨_,lg0 hlt⟩
  have q:=hd f (lg2 hf)
  have rr:=aP9 f q.1 q.2
  cases hff:D2 f with
  |true=>
   rw [hff] at rr
   conv=>whnf
   repeat' first|(refine zd ?_ ?_<;>intro h<;>first|exact zc h|(exfalso;omega)|conv=>whnf)|((first|refine zz ?_|refine qp rr ?_|refine d9 hf ?_|refine zy ?_);conv=>whnf)
   all_goals first
    |(exfalso;omega)
    |exact ⟨hlt,by rw [s7 hf,hI,hff];rfl,[],rfl,rfl,trivial,⟨rfl,rfl,trivial⟩⟩
  |false=>
   rw [hff] at rr
   rw [w7 hf hff]
   conv=>whnf
   repeat' first|(refine zd ?_ ?_<;>intro h<;>first|exact zc h|(exfalso;omega)|conv=>whnf)|((first|refine zz ?_|refine qp rr ?_|refine d9 hf ?_|refine zy ?_);conv=>whnf)
   all_goals first
    |(exfalso;omega)
    |exact d8 rfl
 ·rw [lg4 (by omega)] at hI
  rw [hI]
  conv=>whnf
  repeat' first|(refine zd ?_ ?_<;>intro h<;>first|exact zc h|(exfalso;omega)|conv=>whnf)|((first|refine zz ?_|refine zy ?_);conv=>whnf)
  all_goals first
   |(exfalso;omega)
   |exact d8 rfl
theorem a8f (z:List Rat) (hl:z.length≤1000000) (hd:∀v ∈ z,rl v≤200000):b9 Tryz.prog 219 [p8 (z.map fz)] [] (f7 true) []:=by
 have pt:=b3V (z.map fz) (by simpa using hl) (fun f hf=>by
  obtain ⟨x,hx,rfl⟩:=List.mem_map.1 hf
  have:=hd x hx
  have a:=E5 x
  have b:=F4 x
  exact ⟨by show bl x.num≤_;omega,by show bl x.den≤_;omega⟩)
 rw [ah8] at pt
 exact pt
set_option maxHeartbeats 1000000 in
theorem aq9 (l:List (Int × Rat)) (z:List Rat) (hl:l.length≤1000000) (h1:∀t ∈ l,rl t.2≤200) (h2:∀v ∈ z,rl v≤40000) (hS:∀k,rl (k7 (l.take k) z)≤60000) (hz:z.length≤1000000) (hr:j1 (-1) z.length l=true):
 b9 Tryz.prog 165 [m7 l,p8 (z.map fz)] [] (.tup [frS (fz (k7 l z)),f7 true]) []:=by
 have m1:(l.map o7).length=l.length:=by simp
 have m2:((z.map fz).map m6).length=z.length:=by simp
 have i0:=a2H 0 (by decide) (by decide)
 have rt:=a0l l z.length hl h1
 rw [decide_eq_true (by omega),hr] at rt
 have rt2:b9 Tryz.prog 167 [m7 l,a9 .i64 (((z.map fz).map m6).length:Nat)] [] (f7 (true && true)) []:=by rw [m2];exact rt
 have pt:=a8f z hz (fun v hv=>by have:=h2 v hv;omega)
 (refine a8 a7 Tryz.func165 rfl (by decide) ?_;(conv=>whnf);repeat ((first|refine b0x ?_|refine zy ?_);conv=>whnf))
 repeat' first|(refine zd ?_ ?_<;>intro h<;>first|exact zc h|(exfalso;omega)|conv=>whnf)|((first|refine zz ?_|refine qp rt2 ?_|refine qp pt ?_|refine qp i0 ?_|refine zy ?_);conv=>whnf)
 all_goals try (exfalso;simp_all;done)
 refine f8 a7 (fun k=>([m7 l,p8 (z.map fz),J,J,S.c (C.ptr 0 0 0),J,S.c (C.ptr 1 0 0),a9 .i64 k,J,J,J,J,J,J,J,J,J,J,J,J,J,J,J,J,J,J,J,J,J,J,J,J,J,J,J,J,J,J,J,J,J,J,J,J,J,J,J,J,J,J,J,J],[frB E7,frB (fz (k7 (l.take k) z))])) l.length (fun _=>True) [some 0,some 1] trivial
  ⟨rfl,rfl,⟨⟨rfl,rfl,rfl,.inr ⟨⟨rfl,rfl,rfl,rfl,trivial⟩,trivial⟩⟩,⟨rfl,rfl,rfl,.inl ⟨rfl,L6 _⟩⟩,trivial⟩,⟨rfl,rfl,⟨rfl,rfl,rfl⟩,⟨rfl,rfl,rfl⟩,rfl,trivial⟩⟩ ?_
 intro k hk _
 by_cases hlt:k<l.length
 ·obtain ⟨t,ht⟩:∃t,l[k]? =some t:=⟨_,lg0 hlt⟩
  obtain ⟨v,c⟩:=t
  have hv:=a64 hr _ (lg2 ht)
  simp only at hv
  have bc:=h1 _ (lg2 ht)
  simp only at bc
  obtain ⟨x,hx⟩:∃x,z[v.toNat]? =some x:=⟨_,lg0 (by omega)⟩
  have hxd:z.getD v.toNat 0=x:=by rw [lg3,hx];rfl
  have bx:=h2 x (lg2 hx)
  have b3:=a4O c x
  have bs:=hS k
  have mu:=b4e c x (by omega) (by omega)
  have ad:=aT5 (k7 (l.take k) z) (c*x) (by omega) (by omega)
  have e:k7 (l.take k) z+c*x=k7 (l.take (k+1)) z:=by
   have:l.take (k+1)=l.take k++[(v,c)]:=by rw [List.take_add_one,ht];rfl
   rw [this,L4,←hxd]
  rw [e] at ad
  have xz:(z.map fz)[v.toNat]? =some (fz x):=by rw [List.getElem?_map,hx];rfl
  conv=>whnf
  repeat' first|(refine zd ?_ ?_<;>intro h<;>first|exact zc h|(exfalso;omega)|conv=>whnf)|((first|refine zz ?_|refine qp mu ?_|refine qp ad ?_|refine qp 16 ?_|refine qp 5 ?_|refine d9 ht ?_|refine C1 (by omega) xz ?_|refine bl0 [16] ?_|refine bl0 [5] ?_|refine zy ?_);conv=>whnf)
  all_goals first
   |(exfalso;omega)
   |exact ⟨hlt,trivial,[some 0,some 1],rfl,rfl,⟨⟨rfl,rfl,rfl,.inl ⟨rfl,L6 _⟩⟩,⟨rfl,rfl,rfl,.inl ⟨rfl,L6 _⟩⟩,trivial⟩,⟨rfl,rfl,⟨rfl,rfl,rfl⟩,⟨rfl,rfl,rfl⟩,rfl,trivial⟩⟩
 ·have hke:k=l.length:=by omega
  subst hke
  rw [lg4 (Nat.le_refl _)]
  conv=>whnf
  repeat' first|(refine zd ?_ ?_<;>intro h<;>first|exact zc h|(exfalso;omega)|conv=>whnf)|((first|refine zz ?_|refine zy ?_);conv=>whnf)
  all_goals first
   |(exfalso;omega)
   |exact k8 ⟨⟨rfl,rfl,rfl,rfl,trivial⟩,rfl,trivial⟩
end
section
open Go.RowKit
structure PtB (s:i8) (z:List Rat):Prop where
 v:∀v ∈ z,rl v≤40000
 S:∀w ∈ s.rows,∀k,rl (k7 (w.terms.take k) z)≤50000
 l:z.length≤1000000
theorem aJ9 (w:B2) (z:List Rat) (hl:w.terms.length≤1000000) (h1:∀t ∈ w.terms,rl t.2≤200) (h3:rl w.value≤200) (h2:∀v ∈ z,rl v≤40000) (hS:∀k,rl (k7 (w.terms.take k) z)≤50000) (hz:z.length≤1000000)
 (hr:j1 (-1) z.length w.terms=true):b9 Tryz.prog 220 [az8 w,p8 (z.map fz)] [] (f7 (R6 w z)) []:=by
 have va:=aq9 w.terms z hl h1 h2 (fun k=>by have:=hS k;omega) hz hr
 have bv:=hS w.terms.length
 rw [lg4 (Nat.le_refl _)] at bv
 have c:=af5 (k7 w.terms z) w.value (by omega) (by omega)
 have k1:=a5C (x:=k7 w.terms z) (y:=w.value)
 have k2:=a55 (x:=k7 w.terms z) (y:=w.value)
 have hro:=a1F (w:=w) (z:=z)
 rw [← k1,←k2] at hro
 have e:f7 (R6 w z)=f7 (decide ((Y7 (k7 w.terms z) w.value<0→w.kind=1)∧(Y7 (k7 w.terms z) w.value > 0→w.kind=0))):=by
  congr 1
  rw [Bool.eq_iff_iff,hro,decide_eq_true_iff]
 rw [e]
 clear hro e k1 k2
 generalize Y7 (k7 w.terms z) w.value=U at c
 (refine a8 a7 Tryz.func220 rfl (by decide) ?_;(conv=>whnf);repeat ((first|refine b0x ?_|refine zy ?_);conv=>whnf))
 repeat' first|(refine zd ?_ ?_<;>intro h<;>first|exact zc h|(exfalso;omega)|conv=>whnf)|((first|refine zz ?_|refine qp va ?_|refine qp c ?_|refine qp 5 ?_|refine bl0 [5] ?_|refine zy ?_);conv=>whnf)
 all_goals first
  |(exfalso;omega)
  |(exfalso;simp_all;done)
  |(refine d8 ?_;simp;omega)
theorem b3U (s:i8) (hb:a6I s) (hr:j8 s=true) (Z:List Rat) (hp:PtB s Z):
 b9 Tryz.prog 144 [U9 s,p8 (Z.map fz)] [] (f7 (j4 s Z)) []:=by
 have m1:(s.rows.map y4).length=s.rows.length:=by simp
 have m2:((Z.map fz).map m6).length=Z.length:=by simp
 have l1:=hb.n0
 have l2:=hp.l
 have lr:=ao7 s hb
 rw [hr] at lr
 have pt:=a8f Z hp.l (fun v hv=>by have:=hp.v v hv;omega)
 by_cases hn:(Z.length:Int)≠s.n
 ·have e2:j4 s Z=false:=by unfold j4;rw [decide_eq_false hn];simp
  rw [e2]
  (refine a8 a7 Tryz.func144 rfl (by decide) ?_;(conv=>whnf);repeat ((first|refine b0x ?_|refine zy ?_);conv=>whnf))
  repeat' first|(refine zd ?_ ?_<;>intro h<;>first|exact zc h|(exfalso;omega)|conv=>whnf)|((first|refine zz ?_|refine qp lr ?_|refine qp pt ?_|refine zy ?_);conv=>whnf)
  all_goals first
   |(exfalso;omega)
   |exact d8 rfl
 have hn:(Z.length:Int)=s.n:=by omega
 have e2:j4 s Z=(Z.all (fun v=>decide (0≤v)) && s.rows.all (fun w=>R6 w Z)):=by unfold j4;rw [hr,decide_eq_true hn];simp
 rw [e2]
 (refine a8 a7 Tryz.func144 rfl (by decide) ?_;(conv=>whnf);repeat ((first|refine b0x ?_|refine zy ?_);conv=>whnf))
 repeat' first|(refine zd ?_ ?_<;>intro h<;>first|exact zc h|(exfalso;omega)|conv=>whnf)|((first|refine zz ?_|refine qp lr ?_|refine qp pt ?_|refine zy ?_);conv=>whnf)
 all_goals try (exfalso;omega)
 refine f8 a7 (fun k=>([J,p8 (Z.map fz),S.c (C.t (T.ptr [ti s.n,M5 s.rows])),J,J,a9 .i64 k,J,J,J,J,J,J,J,J,J,J,J,J,J,J,J,J,J,J,J,J,J,J,J,J,J,J,J,J,J,J,J,J,J,J,J,J,J,J,J,J,J,J,J],[])) Z.length (fun k=>(Z.take k).all (fun v=>decide (0≤v))=true) [] rfl
  ⟨rfl,rfl,trivial,⟨rfl,rfl,rfl,trivial⟩⟩ ?_
 intro k hk hI
 by_cases hlt:k<Z.length
 ·obtain ⟨x,hx⟩:∃x,Z[k]? =some x:=⟨_,lg0 hlt⟩
  have bx:=hp.v x (lg2 hx)
  have sg:=a4G x (by omega)
  have sn:=aS8 (x:=x)
  conv=>whnf
  repeat' first|(refine zd ?_ ?_<;>intro h<;>first|exact zc h|(exfalso;omega)|conv=>whnf)|((first|refine zz ?_|refine qp sg ?_|refine d9 (a12 Z hx) ?_|refine zy ?_);conv=>whnf)
  all_goals first
   |(exfalso;omega)
   |(have h0:¬sgR x<0:=by omega
     exact ⟨hlt,by rw [s7 hx,hI];simpa using Rat.not_lt.1 (fun h=>h0 (sn.2 h)),[],rfl,rfl,trivial,⟨rfl,rfl,rfl,trivial⟩⟩)
   |(have h0:sgR x<0:=by omega
     have hF:Z.all (fun v=>decide (0≤v))=false:=w7 hx (decide_eq_false (Rat.not_le.2 (sn.1 h0)))
     refine d8 ?_;rw [hF];rfl)
 ·have hA:Z.all (fun v=>decide (0≤v))=true:=by rw [← hI,lg4 (by omega)]
  rw [hA,Bool.true_and]
  conv=>whnf
  repeat' first|(refine zd ?_ ?_<;>intro h<;>first|exact zc h|(exfalso;omega)|conv=>whnf)|((first|refine zz ?_|refine zy ?_);conv=>whnf)
  all_goals try (exfalso;omega)
  clear hI hlt hk
  refine f8 a7 (fun k=>([J,p8 (Z.map fz),S.c (C.t (T.ptr [ti s.n,M5 s.rows])),J,J,J,a9 .i64 k,J,J,J,J,J,J,J,J,J,J,J,J,J,J,J,J,J,J,J,J,J,J,J,J,J,J,J,J,J,J,J,J,J,J,J,J,J,J,J,J,J,J],[])) s.rows.length (fun k=>(s.rows.take k).all (fun w=>R6 w Z)=true) [] rfl
   ⟨rfl,rfl,trivial,⟨rfl,rfl,rfl,trivial⟩⟩ ?_
  intro k hk hI
  by_cases hlt:k<s.rows.length
  ·obtain ⟨w,hw⟩:∃w,s.rows[k]? =some w:=⟨_,lg0 hlt⟩
   obtain ⟨b1,b2,b3⟩:=hb.t w (lg2 hw)
   have hrw:w9 s.n w=true:=by
    unfold j8 at hr
    simp only [Bool.and_eq_true,List.all_eq_true] at hr
    exact hr.2 w (lg2 hw)
   have hrt:j1 (-1) Z.length w.terms=true:=by
    unfold w9 at hrw
    simp only [Bool.and_eq_true] at hrw
    rw [hn];exact hrw.1.1
   have ho:=aJ9 w Z (by omega) b2 b3 hp.v (hp.S w (lg2 hw)) hp.l hrt
   cases hro:R6 w Z with
   |true=>
    rw [hro] at ho
    conv=>whnf
    repeat' first|(refine zd ?_ ?_<;>intro h<;>first|exact zc h|(exfalso;omega)|conv=>whnf)|((first|refine zz ?_|refine qp ho ?_|refine d9 hw ?_|refine zy ?_);conv=>whnf)
    all_goals first
     |(exfalso;omega)
     |exact ⟨hlt,by rw [s7 hw,hI,hro];rfl,[],rfl,rfl,trivial,⟨rfl,rfl,rfl,trivial⟩⟩
   |false=>
    rw [hro] at ho
    rw [w7 hw hro]
    conv=>whnf
    repeat' first|(refine zd ?_ ?_<;>intro h<;>first|exact zc h|(exfalso;omega)|conv=>whnf)|((first|refine zz ?_|refine qp ho ?_|refine d9 hw ?_|refine zy ?_);conv=>whnf)
    all_goals first
     |(exfalso;omega)
     |exact d8 rfl
  ·rw [lg4 (by omega)] at hI
   rw [hI]
   conv=>whnf
   repeat' first|(refine zd ?_ ?_<;>intro h<;>first|exact zc h|(exfalso;omega)|conv=>whnf)|((first|refine zz ?_|refine zy ?_);conv=>whnf)
   all_goals first
    |(exfalso;omega)
    |exact d8 rfl
end
section
open Go.RowKit
theorem aN9 (Y:List Rat) (n:Nat) (hl:Y.length≤1000000) (h:∀v ∈ Y,rl v≤200000):b9 Tryz.prog 238 [p8 (Y.map fz),a9 .i64 n] [] (f7 (decide (Y.length=n))) []:=by
 have m2:((Y.map fz).map m6).length=Y.length:=by simp
 (refine a8 a7 Tryz.func238 rfl (by decide) ?_;(conv=>whnf);repeat ((first|refine b0x ?_|refine zy ?_);conv=>whnf))
 repeat' first|(refine zd ?_ ?_<;>intro h<;>first|exact zc h|(exfalso;omega)|conv=>whnf)|((first|refine zz ?_|refine zy ?_);conv=>whnf)
 refine f8 a7 (fun k=>([p8 (Y.map fz),a9 .i64 n,J,J,J,a9 .i64 k,J,J,J,J,J,J,J,J,J,J,J,J,J,J,J,J],[])) Y.length (fun _=>True) [] trivial
  ⟨rfl,rfl,trivial,⟨rfl,rfl,rfl,trivial⟩⟩ ?_
 intro k hk _
 by_cases hlt:k<Y.length
 ·obtain ⟨x,hx⟩:∃x,Y[k]? =some x:=⟨_,lg0 hlt⟩
  have bx:=h x (lg2 hx)
  have rr:=a6j x (by omega)
  conv=>whnf
  repeat' first|(refine zd ?_ ?_<;>intro h<;>first|exact zc h|(exfalso;omega)|conv=>whnf)|((first|refine zz ?_|refine qp rr ?_|refine d9 (a12 Y hx) ?_|refine zy ?_);conv=>whnf)
  all_goals first
   |(exfalso;omega)
   |(exfalso;simp_all;done)
   |exact ⟨hlt,trivial,[],rfl,rfl,trivial,⟨rfl,rfl,rfl,trivial⟩⟩
 ·conv=>whnf
  repeat' first|(refine zd ?_ ?_<;>intro h<;>first|exact zc h|(exfalso;omega)|conv=>whnf)|((first|refine zz ?_|refine zy ?_);conv=>whnf)
  all_goals first
   |(exfalso;omega)
   |(refine d8 (decide_eq_true ?_).symm;omega)
   |(refine d8 (decide_eq_false ?_).symm;omega)
def yN (Y:List Rat) (i:Nat):Rat:=Y.getD i 0
theorem aC8 {Y:List Rat} {k:Nat} {x:Rat} (h:Y[k]? =some x):yN Y k=x:=by unfold yN;rw [lg3,h];rfl
def sgB (s:i8) (Y:List Rat) (i:Nat):Bool:=!((decide ((E6 s i).kind=0) && decide (yN Y i<0)) || (decide ((E6 s i).kind=1) && decide (0<yN Y i)))
def a2F (s:i8) (Y:List Rat):Bool:=decide (Y.length=s.rows.length) && (List.range s.rows.length).all (sgB s Y)
theorem aW1 {n k:Nat} (h:k<n):(List.range n)[k]? =some k:=by simp [h]
theorem a3l {f:Nat→Bool} {k:Nat}:(List.range (k+1)).all f=((List.range k).all f && f k):=by rw [List.range_succ,List.all_append];simp
theorem a5W {f:Nat→Bool} {n k:Nat} (h:k<n) (hf:f k=false):(List.range n).all f=false:=w7 (aW1 h) hf
theorem b1K (s:i8) (hb:a6I s) (hr:j8 s=true) (Y:List Rat) (hl:Y.length≤1000000) (hy:∀v ∈ Y,rl v≤50000):
 b9 Tryz.prog 166 [U9 s,p8 (Y.map fz)] [] (f7 (a2F s Y)) []:=by
 have m1:(s.rows.map y4).length=s.rows.length:=by simp
 have m2:((Y.map fz).map m6).length=Y.length:=by simp
 have l1:=hb.n0
 have lr:=ao7 s hb
 rw [hr] at lr
 have fr:=aN9 Y s.rows.length hl (fun v hv=>by have:=hy v hv;omega)
 have fr2:b9 Tryz.prog 238 [p8 (Y.map fz),a9 .i64 ((s.rows.map y4).length:Nat)] [] (f7 (decide (Y.length=s.rows.length))) []:=by rw [m1];exact fr
 by_cases hn:Y.length≠s.rows.length
 ·have e2:a2F s Y=false:=by unfold a2F;rw [decide_eq_false hn];simp
  rw [decide_eq_false hn] at fr2
  rw [e2]
  (refine a8 a7 Tryz.func166 rfl (by decide) ?_;(conv=>whnf);repeat ((first|refine b0x ?_|refine zy ?_);conv=>whnf))
  repeat' first|(refine zd ?_ ?_<;>intro h<;>first|exact zc h|(exfalso;omega)|conv=>whnf)|((first|refine zz ?_|refine qp lr ?_|refine qp fr2 ?_|refine zy ?_);conv=>whnf)
  all_goals first
   |(exfalso;omega)
   |(exfalso;simp_all;done)
   |exact d8 rfl
 have hn:Y.length=s.rows.length:=by omega
 have e2:a2F s Y=(List.range s.rows.length).all (sgB s Y):=by unfold a2F;rw [decide_eq_true hn];simp
 rw [e2]
 rw [decide_eq_true hn] at fr2
 (refine a8 a7 Tryz.func166 rfl (by decide) ?_;(conv=>whnf);repeat ((first|refine b0x ?_|refine zy ?_);conv=>whnf))
 repeat' first|(refine zd ?_ ?_<;>intro h<;>first|exact zc h|(exfalso;omega)|conv=>whnf)|((first|refine zz ?_|refine qp lr ?_|refine qp fr2 ?_|refine zy ?_);conv=>whnf)
 all_goals try (exfalso;simp_all;done)
 refine f8 a7 (fun k=>([J,p8 (Y.map fz),S.c (C.t (T.ptr [ti s.n,M5 s.rows])),J,J,a9 .i64 k,J,J,J,J,J,J,J,J,J,J,J,J,J,J,J,J,J,J,J,J,J,J,J,J,J,J,J,J,J,J,J,J,J,J,J,J,J,J,J,J,J,J,J,J,J,J,J],[])) Y.length (fun k=>(List.range k).all (sgB s Y)=true) [] rfl
  ⟨rfl,rfl,trivial,⟨rfl,rfl,rfl,trivial⟩⟩ ?_
 intro k hk hI
 by_cases hlt:k<Y.length
 ·obtain ⟨x,hx⟩:∃x,Y[k]? =some x:=⟨_,lg0 hlt⟩
  obtain ⟨w,hw⟩:∃w,s.rows[k]? =some w:=⟨_,lg0 (by omega)⟩
  have bx:=hy x (lg2 hx)
  have sg:=a4G x (by omega)
  have es:sgB s Y k=decide ((w.kind=0→¬sgR x<0)∧(w.kind=1→¬sgR x > 0)):=by
   unfold sgB
   rw [T4 hw,aC8 hx,Bool.eq_iff_iff,decide_eq_true_iff,a4u,aK4]
   simp
   grind
  generalize sgR x=U at sg es
  by_cases hok:(w.kind=0→¬U<0)∧(w.kind=1→¬U > 0)
  ·rw [decide_eq_true hok] at es
   obtain ⟨q1,q2⟩:=hok
   conv=>whnf
   repeat' first|(refine zd ?_ ?_<;>intro h<;>first|exact zc h|(exfalso;omega)|conv=>whnf)|((first|refine zz ?_|refine qp sg ?_|refine d9 (a12 Y hx) ?_|refine d9 hw ?_|refine zy ?_);conv=>whnf)
   all_goals first
    |(exfalso;omega)
    |exact ⟨hlt,by rw [a3l,hI,es];rfl,[],rfl,rfl,trivial,⟨rfl,rfl,rfl,trivial⟩⟩
  ·rw [decide_eq_false hok] at es
   rw [a5W (n:=s.rows.length) (by omega) es]
   have hor:(w.kind=0∧U<0)∨(w.kind=1∧U > 0):=by omega
   clear hok
   conv=>whnf
   repeat' first|(refine zd ?_ ?_<;>intro h<;>first|exact zc h|(exfalso;omega)|conv=>whnf)|((first|refine zz ?_|refine qp sg ?_|refine d9 (a12 Y hx) ?_|refine d9 hw ?_|refine zy ?_);conv=>whnf)
   all_goals first
    |(exfalso;omega)
    |exact d8 rfl
 ·have hke:k=s.rows.length:=by omega
  subst hke
  rw [hI]
  conv=>whnf
  repeat' first|(refine zd ?_ ?_<;>intro h<;>first|exact zc h|(exfalso;omega)|conv=>whnf)|((first|refine zz ?_|refine zy ?_);conv=>whnf)
  all_goals first
   |(exfalso;omega)
   |exact d8 rfl
theorem b34 {n:Int} {l:List (Int × Rat)} (hr:j1 (-1) n l=true) {i:Nat} {t:Int × Rat} (ht:l[i]? =some t):∀k,i<k→k≤l.length→M7 l k t.1.toNat=t.2:=by
 intro k hi hk
 induction k with
 |zero=>omega
 |succ k ih=>
  obtain ⟨u,hu⟩:∃u,l[k]? =some u:=⟨_,lg0 (by omega)⟩
  rw [T9 hu]
  simp only
  by_cases h:i=k
  ·subst h
   rw [ht] at hu;injection hu with hu;subst hu
   rw [if_pos rfl]
  ·have:=a4V hr i k t u (by omega) ht hu
   have:=M4 hr t (lg2 ht)
   rw [if_neg (by omega)]
   exact ih (by omega) (by omega)
theorem aP6 {n:Int} {l:List (Int × Rat)} (hr:j1 (-1) n l=true) {i:Nat} {t:Int × Rat} (ht:l[i]? =some t):y6 l t.1.toNat=t.2:=
 b34 hr ht _ (lg1 ht).1 (Nat.le_refl _)
theorem aL6 (l:List (Int × Rat)) (v:Nat) {n:Int} (hr:j1 (-1) n l=true) (hl:l.length≤1000000) (hv:v≤1000000):b9 Tryz.prog 170 [m7 l,a9 .i64 v] [] (frS (fz (y6 l v))) []:=by
 have m1:(l.map o7).length=l.length:=by simp
 have i0:=a2H 0 (by decide) (by decide)
 (refine a8 a7 Tryz.func170 rfl (by decide) ?_;(conv=>whnf);repeat ((first|refine b0x ?_|refine zy ?_);conv=>whnf))
 repeat' first|(refine zd ?_ ?_<;>intro h<;>first|exact zc h|(exfalso;omega)|conv=>whnf)|((first|refine zz ?_|refine zy ?_);conv=>whnf)
 refine f8 a7 (fun k=>([m7 l,a9 .i64 v,J,J,S.c (C.ptr 0 0 0),a9 .i64 k,J,J,J,J,J,J,J,J,J,J,J,J,J,J,J,J,J,J,J],[frB E7])) l.length (fun k=>∀i t,i<k→l[i]? =some t→t.1.toNat≠v) [some 0] (fun i t h=>by omega)
  ⟨rfl,rfl,⟨⟨rfl,rfl,rfl,.inr ⟨⟨rfl,rfl,rfl,rfl,trivial⟩,trivial⟩⟩,trivial⟩,⟨rfl,rfl,⟨rfl,rfl,rfl⟩,rfl,trivial⟩⟩ ?_
 intro k hk hI
 by_cases hlt:k<l.length
 ·obtain ⟨t,ht⟩:∃t,l[k]? =some t:=⟨_,lg0 hlt⟩
  have hm:=M4 hr t (lg2 ht)
  by_cases he:t.1=v
  ·have e:y6 l v=t.2:=by rw [← aP6 hr ht,he];rfl
   rw [e]
   conv=>whnf
   repeat' first|(refine zd ?_ ?_<;>intro h<;>first|exact zc h|(exfalso;omega)|conv=>whnf)|((first|refine zz ?_|refine d9 ht ?_|refine zy ?_);conv=>whnf)
   all_goals first
    |(exfalso;omega)
    |exact aQ1 rfl
  ·conv=>whnf
   repeat' first|(refine zd ?_ ?_<;>intro h<;>first|exact zc h|(exfalso;omega)|conv=>whnf)|((first|refine zz ?_|refine d9 ht ?_|refine zy ?_);conv=>whnf)
   all_goals first
    |(exfalso;omega)
    |exact ⟨hlt,fun i u hi hu=>by
      by_cases h:i=k
      ·subst h;rw [ht] at hu;injection hu with hu;subst hu;omega
      ·exact hI i u (by omega) hu,[some 0],rfl,rfl,⟨⟨rfl,rfl,rfl,.inl ⟨rfl,L6 _⟩⟩,trivial⟩,⟨rfl,rfl,⟨rfl,rfl,rfl⟩,rfl,trivial⟩⟩
 ·have hke:k=l.length:=by omega
  subst hke
  have e:y6 l v=((0:Int):Rat):=a3G _ hI
  rw [e]
  conv=>whnf
  repeat' first|(refine zd ?_ ?_<;>intro h<;>first|exact zc h|(exfalso;omega)|conv=>whnf)|((first|refine zz ?_|refine qp i0 ?_|refine zy ?_);conv=>whnf)
  all_goals first
   |(exfalso;omega)
   |exact aQ1 rfl
theorem b18 (a b c:Rat) (ha:rl a≤60000) (hb:rl b≤50000) (hc:rl c≤200):b9 Tryz.prog 239 [frS (fz a),frS (fz b),frS (fz c)] [] (frS (fz (a+b*c))) []:=by
 have l:=a4O b c
 have mu:=b4e b c (by omega) (by omega)
 have ad:=aT5 a (b*c) (by omega) (by omega)
 (refine a8 a7 Tryz.func239 rfl (by decide) ?_;(conv=>whnf);repeat ((first|refine b0x ?_|refine zy ?_);conv=>whnf))
 repeat' first|(refine zd ?_ ?_<;>intro h<;>first|exact zc h|(exfalso;omega)|conv=>whnf)|((first|refine zz ?_|refine qp mu ?_|refine qp ad ?_|refine qp 5 ?_|refine bl0 [5] ?_|refine zy ?_);conv=>whnf)
 all_goals first
  |exact aQ1 rfl
def Q6 (s:i8) (y:Nat→Rat) (k:Nat):List (Int × Rat):=((List.range k).filter fun v=>decide (Q8 s y v≠0)).map fun v:Nat=>((v:Int),Q8 s y v)
theorem ab3 (s:i8) (y:Nat→Rat) (k:Nat):Q6 s y (k+1)=if Q8 s y k=0 then Q6 s y k else Q6 s y k++[((k:Int),Q8 s y k)]:=by
 unfold Q6
 rw [List.range_succ,List.filter_append,List.map_append]
 by_cases h:Q8 s y k=0
 ·rw [if_pos h];simp [h]
 ·rw [if_neg h];simp [h]
theorem ar5 (s:i8) (y:Nat→Rat) (k:Nat):(Q6 s y k).length≤k:=by
 unfold Q6
 rw [List.length_map]
 exact Nat.le_trans (List.length_filter_le _ _) (by simp)
def a4b (s:i8) (y:Nat→Rat) (l k:Nat):Rat:=g7 (fun i=>y i*y6 (E6 s i).terms l) k
def a4p (s:i8) (y:Nat→Rat) (k:Nat):Rat:=g7 (fun i=>y i*(E6 s i).value) k
structure ai7 (s:i8) (Y:List Rat):Prop where
 y:∀v ∈ Y,rl v≤40000
 n:∀l k,rl (a4b s (yN Y) l k)≤50000
 v:∀k,rl (a4p s (yN Y) k)≤50000
 l:Y.length=s.rows.length
 m:s.rows.length≤1000000
theorem aQ6 {l:List (Int × Rat)} (h:∀t ∈ l,rl t.2≤200) (v:Nat):rl (y6 l v)≤200:=by
 have key:∀k,rl (M7 l k v)≤200:=by
  intro k
  induction k with
  |zero=>have:=rl0;show rl 0≤_;omega
  |succ k ih=>
   cases hk:l[k]? with
   |none=>rw [M7,hk];exact ih
   |some t=>
    rw [T9 hk]
    simp only
    split
    ·exact h t (lg2 hk)
    ·exact ih
 exact key _
set_option maxHeartbeats 4000000 in
theorem b87 (s:i8) (hb:a6I s) (hr:j8 s=true) (Y:List Rat) (hq:ai7 s Y):
 b9 Tryz.prog 168 [U9 s,p8 (Y.map fz)] [] (.tup [m7 (Q6 s (yN Y) s.n.toNat),frS (fz (W9 s (yN Y)))]) []:=by
 have m1:(s.rows.map y4).length=s.rows.length:=by simp
 have m2:((Y.map fz).map m6).length=Y.length:=by simp
 have l1:=hb.n0
 have hn:=hq.l
 have lr:=ao7 s hb
 rw [hr] at lr
 have hnn:0≤s.n∧s.n≤1500:=by
  unfold j8 at hr
  simp only [Bool.and_eq_true,decide_eq_true_eq] at hr
  exact ⟨hr.1.1.1,hr.1.1.2⟩
 have fr:=aN9 Y s.rows.length (by omega) (fun v hv=>by have:=hq.y v hv;omega)
 have fr2:b9 Tryz.prog 238 [p8 (Y.map fz),a9 .i64 ((s.rows.map y4).length:Nat)] [] (f7 true) []:=by rw [m1];rw [decide_eq_true hn] at fr;exact fr
 have i0:=a2H 0 (by decide) (by decide)
 (refine a8 a7 Tryz.func168 rfl (by decide) ?_;(conv=>whnf);repeat ((first|refine b0x ?_|refine zy ?_);conv=>whnf))
 repeat' first|(refine zd ?_ ?_<;>intro h<;>first|exact zc h|(exfalso;omega)|conv=>whnf)|((first|refine zz ?_|refine qp lr ?_|refine qp fr2 ?_|refine qp i0 ?_|refine a34.own ?_|refine zy ?_);conv=>whnf)
 all_goals try (exfalso;omega)
 all_goals try (exfalso;simp_all;done)
 refine f8 a7 (fun v=>([J,p8 (Y.map fz),S.c (C.t (T.ptr [ti s.n,M5 s.rows])),J,J,S.c (C.ptr 0 0 0),S.c (C.own 1 0 (Q6 s (yN Y) v).length true),a9 .i64 v,J,J,J,J,J,J,J,J,J,J,J,J,J,J,J,J,J,J,J,J,J,J,J,J,J,J,J,J,J,J,J,J,J,J,J,J,J,J,J,J,J,J,J,J,J,J,J,J,J,J,J,J,J,J,J,J,J,J,J,J,J,J,J,J,J,J,J,J,J,J,J,J,J,J],[frB E7,O9 (Q6 s (yN Y) v)])) s.n.toNat (fun _=>True) [some 0,some 1] trivial
  ⟨rfl,rfl,⟨⟨rfl,rfl,rfl,.inr ⟨⟨rfl,rfl,rfl,rfl,trivial⟩,trivial⟩⟩,b8 (rows:=[]) rfl rfl rfl rfl rfl,trivial⟩,⟨rfl,rfl,⟨rfl,rfl,rfl⟩,⟨rfl,rfl,rfl,fun h=>h⟩,rfl,trivial⟩⟩ ?_
 intro v hv _
 have lv:=ar5 s (yN Y) v
 by_cases hlt:v<s.n.toNat
 ·conv=>whnf
  repeat' first|(refine zd ?_ ?_<;>intro h<;>first|exact zc h|(exfalso;omega)|conv=>whnf)|((first|refine zz ?_|refine qp i0 ?_|refine zy ?_);conv=>whnf)
  all_goals try (exfalso;omega)
  refine f8 a7 (fun k=>([J,p8 (Y.map fz),S.c (C.t (T.ptr [ti s.n,M5 s.rows])),J,J,S.c (C.ptr 0 0 0),S.c (C.own 1 0 (Q6 s (yN Y) v).length true),a9 .i64 v,S.c (C.ptr 2 0 0),a9 .i64 k,J,J,J,J,J,J,J,J,J,J,J,J,J,J,J,J,J,J,J,J,J,J,J,J,J,J,J,J,J,J,J,J,J,J,J,J,J,J,J,J,J,J,J,J,J,J,J,J,J,J,J,J,J,J,J,J,J,J,J,J,J,J,J,J,J,J,J,J,J,J,J,J],[frB E7,O9 (Q6 s (yN Y) v),frB (fz (a4b s (yN Y) v k))])) Y.length (fun _=>True) [some 0,some 1,some 2] trivial
   ⟨rfl,rfl,⟨⟨rfl,rfl,rfl,.inr ⟨⟨rfl,rfl,rfl,rfl,trivial⟩,trivial⟩⟩,b8 (rows:=(Q6 s (yN Y) v).map o7) rfl rfl rfl rfl rfl,⟨rfl,rfl,rfl,.inl ⟨rfl,L6 _⟩⟩,trivial⟩,⟨rfl,rfl,⟨rfl,rfl,rfl⟩,⟨rfl,rfl,rfl,fun h=>h⟩,rfl,⟨rfl,rfl,rfl⟩,rfl,trivial⟩⟩ ?_
  intro k hk _
  by_cases hkl:k<Y.length
  ·obtain ⟨x,hx⟩:∃x,Y[k]? =some x:=⟨_,lg0 hkl⟩
   obtain ⟨w,hw⟩:∃w,s.rows[k]? =some w:=⟨_,lg0 (by omega)⟩
   obtain ⟨b1,b2,b3⟩:=hb.t w (lg2 hw)
   have hrt:=(a3R hr hw).1
   have bx:=hq.y x (lg2 hx)
   have co:=aL6 w.terms v hrt (by omega) (by omega)
   have bc:=aQ6 b2 v
   have bm:=hq.n v k
   have pl:=b18 (a4b s (yN Y) v k) x (y6 w.terms v) (by omega) (by omega) bc
   have e:a4b s (yN Y) v k+x*y6 w.terms v=a4b s (yN Y) v (k+1):=by
    show _=a4b s (yN Y) v k+yN Y k*y6 (E6 s k).terms v
    rw [T4 hw,aC8 hx]
   rw [e] at pl
   conv=>whnf
   repeat' first|(refine zd ?_ ?_<;>intro h<;>first|exact zc h|(exfalso;omega)|conv=>whnf)|((first|refine zz ?_|refine qp co ?_|refine qp pl ?_|refine d9 (a12 Y hx) ?_|refine d9 hw ?_|refine zy ?_);conv=>whnf)
   all_goals first
    |(exfalso;omega)
    |exact ⟨hkl,trivial,[some 0,some 1,some 2],rfl,rfl,⟨⟨rfl,rfl,rfl,.inr ⟨⟨rfl,rfl,rfl,rfl,trivial⟩,trivial⟩⟩,b8 (rows:=(Q6 s (yN Y) v).map o7) rfl rfl rfl rfl rfl,⟨rfl,rfl,rfl,.inl ⟨rfl,L6 _⟩⟩,trivial⟩,⟨rfl,rfl,⟨rfl,rfl,rfl⟩,⟨rfl,rfl,rfl,fun h=>h⟩,rfl,⟨rfl,rfl,rfl⟩,rfl,trivial⟩⟩
  ·have hke:k=s.rows.length:=by omega
   subst hke
   have e:a4b s (yN Y) v s.rows.length=Q8 s (yN Y) v:=rfl
   rw [e]
   have bm:=hq.n v s.rows.length
   rw [e] at bm
   have sg:=a4G (Q8 s (yN Y) v) (by omega)
   have sz:=a3r (x:=Q8 s (yN Y) v)
   have lA:(Q6 s (yN Y) v).length≤(O9 (Q6 s (yN Y) v)).rows.length:=by show _≤(toC _).length;simp [toC]
   by_cases hz:Q8 s (yN Y) v=0
   ·have hs:=sz.2 hz
    have e2:Q6 s (yN Y) (v+1)=Q6 s (yN Y) v:=by rw [ab3,if_pos hz]
    rw [e2]
    conv=>whnf
    repeat' first|(refine zd ?_ ?_<;>intro h<;>first|exact zc h|(exfalso;omega)|conv=>whnf)|((first|refine zz ?_|refine qp sg ?_|refine zy ?_);conv=>whnf)
    all_goals first
     |(exfalso;omega)
     |exact ⟨hlt,trivial,[some 0,some 1],rfl,rfl,⟨⟨rfl,rfl,rfl,.inr ⟨⟨rfl,rfl,rfl,rfl,trivial⟩,trivial⟩⟩,b8 (rows:=(Q6 s (yN Y) v).map o7) rfl rfl rfl rfl rfl,trivial⟩,⟨rfl,rfl,⟨rfl,rfl,rfl⟩,⟨rfl,rfl,rfl,fun h=>h⟩,rfl,trivial⟩⟩
   ·have hs:sgR (Q8 s (yN Y) v)≠0:=fun h=>hz (sz.1 h)
    have e2:Q6 s (yN Y) (v+1)=Q6 s (yN Y) v++[((v:Int),Q8 s (yN Y) v)]:=by rw [ab3,if_neg hz]
    rw [e2]
    conv=>whnf
    repeat' first|(refine zd ?_ ?_<;>intro h<;>first|exact zc h|(exfalso;omega)|conv=>whnf)|((first|refine zz ?_|refine qp sg ?_|refine qp toC ?_|refine v7 lA (by simp [toC];omega) ?_|refine zy ?_);conv=>whnf)
    all_goals first
     |(exfalso;omega)
     |(refine ⟨hlt,trivial,[some 0,some 3],rfl,rfl,⟨⟨rfl,rfl,rfl,.inr ⟨⟨rfl,rfl,rfl,rfl,trivial⟩,trivial⟩⟩,b8 (rows:=(Q6 s (yN Y) v++[((v:Int),Q8 s (yN Y) v)]).map o7) rfl rfl rfl ?_ ?_,trivial⟩,⟨rfl,rfl,⟨rfl,rfl,rfl⟩,⟨rfl,rfl,?_,fun h=>h⟩,rfl,trivial⟩⟩
       ·exact a0S (f:=o7) (x:=((v:Int),Q8 s (yN Y) v)) rfl
       ·rfl
       ·simp [toC])
 ·have hke:v=s.n.toNat:=by omega
  subst hke
  conv=>whnf
  repeat' first|(refine zd ?_ ?_<;>intro h<;>first|exact zc h|(exfalso;omega)|conv=>whnf)|((first|refine zz ?_|refine qp i0 ?_|refine zy ?_);conv=>whnf)
  all_goals try (exfalso;omega)
  refine f8 a7 (fun k=>([J,p8 (Y.map fz),S.c (C.t (T.ptr [ti s.n,M5 s.rows])),J,J,S.c (C.ptr 0 0 0),S.c (C.own 1 0 (Q6 s (yN Y) s.n.toNat).length true),J,J,J,S.c (C.ptr 2 0 0),a9 .i64 k,J,J,J,J,J,J,J,J,J,J,J,J,J,J,J,J,J,J,J,J,J,J,J,J,J,J,J,J,J,J,J,J,J,J,J,J,J,J,J,J,J,J,J,J,J,J,J,J,J,J,J,J,J,J,J,J,J,J,J,J,J,J,J,J,J,J,J,J,J,J],[frB E7,O9 (Q6 s (yN Y) s.n.toNat),frB (fz (a4p s (yN Y) k))])) Y.length (fun _=>True) [some 0,some 1,some 2] trivial
   ⟨rfl,rfl,⟨⟨rfl,rfl,rfl,.inr ⟨⟨rfl,rfl,rfl,rfl,trivial⟩,trivial⟩⟩,b8 (rows:=(Q6 s (yN Y) s.n.toNat).map o7) rfl rfl rfl rfl rfl,⟨rfl,rfl,rfl,.inl ⟨rfl,L6 _⟩⟩,trivial⟩,⟨rfl,rfl,⟨rfl,rfl,rfl⟩,⟨rfl,rfl,rfl,fun h=>h⟩,⟨rfl,rfl,rfl⟩,rfl,trivial⟩⟩ ?_
  intro k hk _
  by_cases hkl:k<Y.length
  ·obtain ⟨x,hx⟩:∃x,Y[k]? =some x:=⟨_,lg0 hkl⟩
   obtain ⟨w,hw⟩:∃w,s.rows[k]? =some w:=⟨_,lg0 (by omega)⟩
   obtain ⟨b1,b2,b3⟩:=hb.t w (lg2 hw)
   have bx:=hq.y x (lg2 hx)
   have bm:=hq.v k
   have pl:=b18 (a4p s (yN Y) k) x w.value (by omega) (by omega) b3
   have e:a4p s (yN Y) k+x*w.value=a4p s (yN Y) (k+1):=by
    show _=a4p s (yN Y) k+yN Y k*(E6 s k).value
    rw [T4 hw,aC8 hx]
   rw [e] at pl
   conv=>whnf
   repeat' first|(refine zd ?_ ?_<;>intro h<;>first|exact zc h|(exfalso;omega)|conv=>whnf)|((first|refine zz ?_|refine qp pl ?_|refine d9 (a12 Y hx) ?_|refine d9 hw ?_|refine zy ?_);conv=>whnf)
   all_goals first
    |(exfalso;omega)
    |exact ⟨hkl,trivial,[some 0,some 1,some 2],rfl,rfl,⟨⟨rfl,rfl,rfl,.inr ⟨⟨rfl,rfl,rfl,rfl,trivial⟩,trivial⟩⟩,b8 (rows:=(Q6 s (yN Y) s.n.toNat).map o7) rfl rfl rfl rfl rfl,⟨rfl,rfl,rfl,.inl ⟨rfl,L6 _⟩⟩,trivial⟩,⟨rfl,rfl,⟨rfl,rfl,rfl⟩,⟨rfl,rfl,rfl,fun h=>h⟩,⟨rfl,rfl,rfl⟩,rfl,trivial⟩⟩
  ·have hke:k=s.rows.length:=by omega
   subst hke
   have e:a4p s (yN Y) s.rows.length=W9 s (yN Y):=rfl
   rw [e]
   conv=>whnf
   repeat' first|(refine zd ?_ ?_<;>intro h<;>first|exact zc h|(exfalso;omega)|conv=>whnf)|((first|refine zz ?_|refine zy ?_);conv=>whnf)
   all_goals first
    |(exfalso;omega)
    |exact k8 ⟨(show VC _ (fun id=>K3 [] id=true) (C.own 1 0 _ true) _ from v5 (k:=O9 (Q6 s (yN Y) s.n.toNat)) rfl rfl (fun h=>h) rfl rfl (by simp)),⟨rfl,rfl,rfl,rfl,trivial⟩,trivial⟩
end
section
open Go.RowKit
theorem ae0 {n:Int}:∀{l:List (Int × Rat)} {last:Int},l.Pairwise (fun a b=>a.1<b.1)→(∀ t ∈ l,last<t.1∧t.1<n∧t.2≠0)→j1 last n l=true
 |[],_,_,_=>rfl
 |a::r,last,h1,h2=>by
  unfold j1
  simp only [Bool.and_eq_true,decide_eq_true_eq]
  obtain ⟨p1,p2⟩:=List.pairwise_cons.1 h1
  have:=h2 a (List.mem_cons_self ..)
  exact ⟨⟨⟨this.1,this.2.1⟩,this.2.2⟩,ae0 p2 fun t ht=>⟨p1 t ht,(h2 t (List.mem_cons_of_mem _ ht)).2⟩⟩
theorem a98 {s:i8} {y:Nat→Rat} {k:Nat} {t:Int × Rat}:t ∈ Q6 s y k↔∃v:Nat,v<k∧Q8 s y v≠0∧t=((v:Int),Q8 s y v):=by
 unfold Q6
 rw [List.mem_map]
 constructor
 ·rintro ⟨v,hv,rfl⟩
  rw [List.mem_filter,List.mem_range] at hv
  exact ⟨v,hv.1,by simpa using hv.2,rfl⟩
 ·rintro ⟨v,h1,h2,rfl⟩
  exact ⟨v,by rw [List.mem_filter,List.mem_range];exact ⟨h1,by simpa using h2⟩,rfl⟩
theorem a9h (s:i8) (y:Nat→Rat) (k:Nat):j1 (-1) (k:Int) (Q6 s y k)=true:=by
 refine ae0 ?_ fun t ht=>?_
 ·unfold Q6
  rw [List.pairwise_map]
  exact ((List.pairwise_lt_range (n:=k)).filter _).imp fun {a b} h=>by show (a:Int)<b;omega
 ·obtain ⟨v,h1,h2,rfl⟩:=a98.1 ht
  exact ⟨by simp only;omega,by simp only;omega,h2⟩
theorem b10 {s:i8} {y:Nat→Rat} {k v:Nat} (hv:v<k):y6 (Q6 s y k) v=Q8 s y v:=by
 by_cases h:Q8 s y v=0
 ·rw [h]
  refine a3G _ fun i t _ ht=>?_
  obtain ⟨u,h1,h2,rfl⟩:=a98.1 (lg2 ht)
  intro e
  have e:u=v:=by simpa using e
  exact h2 (e ▸ h)
 ·obtain ⟨i,hi,he⟩:=List.getElem_of_mem (a98.2 ⟨v,hv,h,rfl⟩)
  have:=aP6 (a9h s y k) (i:=i) (t:=((v:Int),Q8 s y v)) (by rw [lg0 hi,he])
  simpa using this
def a4S (s:i8) (g:List (Int × Rat)) (Y:List Rat):Bool:=a2F s Y && j1 (-1) s.n g && (List.range s.n.toNat).all fun v=>decide (Q8 s (yN Y) v≤y6 g v)
def a94 (s:i8) (g:List (Int × Rat)) (Y:List Rat):S:=if a4S s g Y=true then .tup [frS (fz (W9 s (yN Y))),f7 true] else .tup [frS E7,f7 false]
set_option maxHeartbeats 2000000 in
theorem aO5 (s:i8) (hb:a6I s) (hr:j8 s=true) (g:List (Int × Rat)) (hg:g.length≤1000000) (hgb:∀t ∈ g,rl t.2≤200) (Y:List Rat) (hy:∀v ∈ Y,rl v≤40000) (hyl:Y.length≤1000000) (hq:Y.length=s.rows.length→ai7 s Y):
 b9 Tryz.prog 95 [U9 s,m7 g,p8 (Y.map fz)] [] (a94 s g Y) []:=by
 have hnn:0≤s.n∧s.n≤1500:=by
  unfold j8 at hr
  simp only [Bool.and_eq_true,decide_eq_true_eq] at hr
  exact ⟨hr.1.1.1,hr.1.1.2⟩
 have sn:=b1K s hb hr Y hyl (fun v hv=>by have:=hy v hv;omega)
 have rt:=a0l g s.n hg hgb
 rw [decide_eq_true hnn.1,Bool.true_and] at rt
 cases hs:a2F s Y with
 |false=>
  have e:a94 s g Y=.tup [frS E7,f7 false]:=by unfold a94 a4S;rw [hs];rfl
  rw [e]
  rw [hs] at sn
  (refine a8 a7 Tryz.func95 rfl (by decide) ?_;(conv=>whnf);repeat ((first|refine b0x ?_|refine zy ?_);conv=>whnf))
  repeat' first|(refine zd ?_ ?_<;>intro h<;>first|exact zc h|(exfalso;omega)|conv=>whnf)|((first|refine zz ?_|refine qp sn ?_|refine qp rt ?_|refine zy ?_);conv=>whnf)
  all_goals first
   |(exfalso;simp_all;done)
   |exact k8 ⟨⟨rfl,rfl,rfl,rfl,trivial⟩,rfl,trivial⟩
 |true=>
 rw [hs] at sn
 cases ht:j1 (-1) s.n g with
 |false=>
  have e:a94 s g Y=.tup [frS E7,f7 false]:=by unfold a94 a4S;rw [hs,ht];rfl
  rw [e]
  rw [ht] at rt
  (refine a8 a7 Tryz.func95 rfl (by decide) ?_;(conv=>whnf);repeat ((first|refine b0x ?_|refine zy ?_);conv=>whnf))
  repeat' first|(refine zd ?_ ?_<;>intro h<;>first|exact zc h|(exfalso;omega)|conv=>whnf)|((first|refine zz ?_|refine qp sn ?_|refine qp rt ?_|refine zy ?_);conv=>whnf)
  all_goals first
   |(exfalso;simp_all;done)
   |exact k8 ⟨⟨rfl,rfl,rfl,rfl,trivial⟩,rfl,trivial⟩
 |true=>
 rw [ht] at rt
 have hl:Y.length=s.rows.length:=by
  unfold a2F at hs
  simp only [Bool.and_eq_true,decide_eq_true_eq] at hs
  exact hs.1
 have hq:=hq hl
 have eb:a4S s g Y=(List.range s.n.toNat).all fun v=>decide (Q8 s (yN Y) v≤y6 g v):=by unfold a4S;rw [hs,ht];simp
 have mx:=b87 s hb hr Y hq
 have ml:=ar5 s (yN Y) s.n.toNat
 have mr:=a9h s (yN Y) s.n.toNat
 (refine a8 a7 Tryz.func95 rfl (by decide) ?_;(conv=>whnf);repeat ((first|refine b0x ?_|refine zy ?_);conv=>whnf))
 repeat' first|(refine zd ?_ ?_<;>intro h<;>first|exact zc h|(exfalso;omega)|conv=>whnf)|((first|refine zz ?_|refine qp sn ?_|refine qp rt ?_|refine qp mx ?_|refine qp 5 ?_|refine bl0 [5] ?_|refine zy ?_);conv=>whnf)
 all_goals try (exfalso;simp_all;done)
 refine f8 a7 (fun v=>([J,m7 g,J,S.c (C.t (T.ptr [ti s.n,M5 s.rows])),J,J,S.c (C.ptr 0 0 0),J,m7 (Q6 s (yN Y) s.n.toNat),S.c (C.ptr 1 0 0),a9 .i64 v,J,J,J,J,J,J,J,J,J,J,J,J,J,J,J,J,J,J,J,J,J,J,J,J,J,J,J,J,J,J,J,J,J,J],[frB E7,frB (fz (W9 s (yN Y)))])) s.n.toNat (fun k=>(List.range k).all (fun v=>decide (Q8 s (yN Y) v≤y6 g v))=true) [some 0,some 1] rfl
  ⟨rfl,rfl,⟨⟨rfl,rfl,rfl,.inr ⟨⟨rfl,rfl,rfl,rfl,trivial⟩,trivial⟩⟩,⟨rfl,rfl,rfl,.inl ⟨rfl,L6 _⟩⟩,trivial⟩,⟨rfl,rfl,⟨rfl,rfl,rfl⟩,rfl,⟨rfl,rfl,rfl⟩,rfl,trivial⟩⟩ ?_
 intro v hv hI
 by_cases hlt:v<s.n.toNat
 ·have c1:=aL6 (Q6 s (yN Y) s.n.toNat) v mr (by omega) (by omega)
  rw [b10 hlt] at c1
  have c2:=aL6 g v ht hg (by omega)
  have b1:=hq.n v s.rows.length
  have b2:=aQ6 hgb v
  have b1:rl (Q8 s (yN Y) v)≤50000:=b1
  have cm:=af5 (Q8 s (yN Y) v) (y6 g v) (by omega) (by omega)
  have k2:=a55 (x:=Q8 s (yN Y) v) (y:=y6 g v)
  generalize Y7 (Q8 s (yN Y) v) (y6 g v)=U at cm k2
  by_cases hok:U > 0
  ·have hF:decide (Q8 s (yN Y) v≤y6 g v)=false:=decide_eq_false (Rat.not_le.2 (k2.1 hok))
   have e:a94 s g Y=.tup [frS E7,f7 false]:=by
    unfold a94
    rw [eb,a5W (n:=s.n.toNat) hlt hF];rfl
   rw [e]
   clear k2
   conv=>whnf
   repeat' first|(refine zd ?_ ?_<;>intro h<;>first|exact zc h|(exfalso;omega)|conv=>whnf)|((first|refine zz ?_|refine qp c1 ?_|refine qp c2 ?_|refine qp cm ?_|refine zy ?_);conv=>whnf)
   all_goals first
    |(exfalso;omega)
    |exact k8 ⟨⟨rfl,rfl,rfl,rfl,trivial⟩,rfl,trivial⟩
  ·have hT:decide (Q8 s (yN Y) v≤y6 g v)=true:=decide_eq_true (Rat.not_lt.1 (fun h=>hok (k2.2 h)))
   clear k2
   conv=>whnf
   repeat' first|(refine zd ?_ ?_<;>intro h<;>first|exact zc h|(exfalso;omega)|conv=>whnf)|((first|refine zz ?_|refine qp c1 ?_|refine qp c2 ?_|refine qp cm ?_|refine zy ?_);conv=>whnf)
   all_goals first
    |(exfalso;omega)
    |exact ⟨hlt,by rw [a3l,hI,hT];rfl,[some 0,some 1],rfl,rfl,⟨⟨rfl,rfl,rfl,.inr ⟨⟨rfl,rfl,rfl,rfl,trivial⟩,trivial⟩⟩,⟨rfl,rfl,rfl,.inl ⟨rfl,L6 _⟩⟩,trivial⟩,⟨rfl,rfl,⟨rfl,rfl,rfl⟩,rfl,⟨rfl,rfl,rfl⟩,rfl,trivial⟩⟩
 ·have hke:v=s.n.toNat:=by omega
  subst hke
  have e:a94 s g Y=.tup [frS (fz (W9 s (yN Y))),f7 true]:=by
   unfold a94
   rw [eb,hI];rfl
  rw [e]
  conv=>whnf
  repeat' first|(refine zd ?_ ?_<;>intro h<;>first|exact zc h|(exfalso;omega)|conv=>whnf)|((first|refine zz ?_|refine zy ?_);conv=>whnf)
  all_goals first
   |(exfalso;omega)
   |exact k8 ⟨⟨rfl,rfl,rfl,rfl,trivial⟩,rfl,trivial⟩
theorem b0h {P:Program} {g:FuncId} {x y:S} {H H':Hp} {r:S} (h:b9 P g [x,m7 [],y] H r H'):b9 P g [x,.c (.t (.sl 0 .nil [])),y] H r H':=by
 refine a4T h rfl fun w ι M j a b v hx hy hr=>?_
 rcases j with _|_|_|j
 ·injection hx with hx;injection hy with hy;subst hx hy;exact hr
 ·injection hx with hx;injection hy with hy;subst hx hy
  cases hr with
  |c hr=>cases hr with
   |t hr=>exact .c (.t (hr.weak rfl))
 ·injection hx with hx;injection hy with hy;subst hx hy;exact hr
 ·simp at hx
def aI4 (s:i8) (Y:List Rat):Bool:=a4S s [] Y && decide (0<W9 s (yN Y))
theorem aV0 (s:i8) (hb:a6I s) (hr:j8 s=true) (Y:List Rat) (hy:∀v ∈ Y,rl v≤40000) (hyl:Y.length≤1000000) (hq:Y.length=s.rows.length→ai7 s Y):
 b9 Tryz.prog 93 [U9 s,p8 (Y.map fz)] [] (f7 (aI4 s Y)) []:=by
 have lo:=b0h (aO5 s hb hr [] (by simp) (fun t ht=>by cases ht) Y hy hyl hq)
 unfold a94 at lo
 unfold aI4
 cases hB:a4S s [] Y with
 |false=>
  rw [hB,if_neg (by decide)] at lo
  (refine a8 a7 Tryz.func93 rfl (by decide) ?_;(conv=>whnf);repeat ((first|refine b0x ?_|refine zy ?_);conv=>whnf))
  repeat' first|(refine zd ?_ ?_<;>intro h<;>first|exact zc h|(exfalso;omega)|conv=>whnf)|((first|refine zz ?_|refine qp lo ?_|refine qp 5 ?_|refine bl0 [5] ?_|refine zy ?_);conv=>whnf)
  all_goals first
   |(exfalso;simp_all;done)
   |exact d8 rfl
 |true=>
  rw [hB] at lo
  have hl:Y.length=s.rows.length:=by
   unfold a4S a2F at hB
   simp only [Bool.and_eq_true,decide_eq_true_eq] at hB
   exact hB.1.1.1
  have b:=(hq hl).v s.rows.length
  have b:rl (W9 s (yN Y))≤50000:=b
  have sg:=a4G (W9 s (yN Y)) (by omega)
  have sp:=a4u (x:=W9 s (yN Y))
  have e:decide (0<W9 s (yN Y))=decide (sgR (W9 s (yN Y)) > 0):=by rw [decide_eq_decide];exact sp.symm
  rw [e]
  rw [if_pos rfl] at lo
  generalize sgR (W9 s (yN Y))=U at sg
  clear sp e
  (refine a8 a7 Tryz.func93 rfl (by decide) ?_;(conv=>whnf);repeat ((first|refine b0x ?_|refine zy ?_);conv=>whnf))
  repeat' first|(refine zd ?_ ?_<;>intro h<;>first|exact zc h|(exfalso;omega)|conv=>whnf)|((first|refine zz ?_|refine qp lo ?_|refine qp sg ?_|refine qp 5 ?_|refine bl0 [5] ?_|refine zy ?_);conv=>whnf)
  all_goals first
   |(exfalso;simp_all;done)
   |(refine d8 ?_;rw [Bool.true_and];exact (decide_eq_true (by omega)).symm)
   |(refine d8 ?_;rw [Bool.true_and];exact (decide_eq_false (by omega)).symm)
end
section
open Go.RowKit
theorem b20 (x:Rat):sgR x<0↔x<((0:Int):Rat):=by unfold sgR;split<;>(try split)<;>simp_all
theorem b1E {x y:Rat} {ρ:List (Option Nat)} {H:Hp} (h:x=y):a49 ρ H (frS (fz x)) (frS (fz y)):=by subst h;exact ⟨rfl,rfl,rfl,rfl,trivial⟩
theorem a77 (n lo hi:Int):b9 Tryz.prog 273 [a9 .i64 n,a9 .i64 lo,a9 .i64 hi] [] (f7 (btw n lo hi)) []:=by
 (refine a8 a7 Tryz.func273 rfl (by decide) ?_;(conv=>whnf);repeat (refine zy ?_;conv=>whnf))
 repeat' first|(refine zd ?_ ?_<;>intro h<;>first|exact zc h|(exfalso;omega)|conv=>whnf)|((first|refine zz ?_|refine zy ?_);conv=>whnf)
 all_goals (refine d8 ?_;simp only [btw];simp;omega)
theorem ay0 (c:G4):b9 Tryz.prog 297 [at5 c] [] (f7 (N6 c)) []:=by
 have w1:=a77 c.scale 0 29
 have w2:=a77 c.grams 0 1099511627776
 have w3:=a77 c.permille 0 1000
 have w4:=a77 c.drift 0 10000000
 rw [ae5] at w1
 unfold N6
 cases h1:idx c.scale 30<;>cases h2:btw c.grams 0 1099511627776<;>cases h3:btw c.permille 0 1000<;>cases h4:btw c.drift 0 10000000<;>rw [h1] at w1<;>rw [h2] at w2<;>rw [h3] at w3<;>rw [h4] at w4<;>
 ·(refine a8 a7 Tryz.func297 rfl (by decide) ?_;(conv=>whnf);repeat (refine zy ?_;conv=>whnf))
  repeat' first|(refine zd ?_ ?_<;>intro h<;>first|exact zc h|(exfalso;omega)|conv=>whnf)|((first|refine zz ?_|refine qp w1 ?_|refine qp w2 ?_|refine qp w3 ?_|refine qp w4 ?_|refine zy ?_);conv=>whnf)
  all_goals (refine d8 ?_;simp;try omega)
def a3e (o:Option Nat):Int:=match o with
 |none=>-1
 |some b=>b
set_option maxHeartbeats 2000000 in
theorem b3W (cs:List G4) (scale day:Int) (hl:cs.length≤1000000):
 b9 Tryz.prog 271 [.c (.t (Y4 cs)),a9 .i64 scale,a9 .i64 day] [] (.tup [a9 .i64 (a6F (y8 cs scale day cs.length)),f7 (y8 cs scale day cs.length).isSome]) []:=by
 have l1:(cs.map G4.row).length=cs.length:=by simp
 (refine a8 a7 Tryz.func271 rfl (by decide) ?_;(conv=>whnf);repeat ((first|refine b0x ?_|refine zy ?_);conv=>whnf))
 repeat' first|(refine zd ?_ ?_<;>intro h<;>first|exact zc h|(exfalso;omega)|conv=>whnf)|((first|refine zz ?_|refine zy ?_);conv=>whnf)
 refine f8 a7 (fun k=>([S.c (C.t (Y4 cs)),a9 .i64 scale,a9 .i64 day,J,J,J,J,J,a9 .i64 (a3e (y8 cs scale day k)),a9 .i64 k,J,J,J,J,J,J,J,J,J,J,J,J,J,J,J,J,J,J,J,J,J,J,J,J,J,J,J,J,J,J,J,J,J,J,J,J,J,J,J,J,J,J,J,J,J,J,J],[])) cs.length (fun _=>True) [] trivial
  ⟨rfl,rfl,trivial,⟨rfl,rfl,rfl,rfl,rfl,trivial⟩⟩ ?_
 intro k hk _
 by_cases hlt:k<cs.length
 ·obtain ⟨c,hc⟩:∃c,cs[k]? =some c:=⟨_,lg0 hlt⟩
  have cr:=ay0 c
  have ci:=a77 day c.since c.till
  have hst:y8 cs scale day (k+1)=if decide (c.scale=scale) && H4 c day && later cs (y8 cs scale day k) c then some k else y8 cs scale day k:=by
   conv=>lhs;unfold y8
   rw [hc]
  have nxt:∀z:Int,a3e (y8 cs scale day (k+1))=z→z=a3e (y8 cs scale day (k+1)):=fun z h=>h.symm
  cases hr:N6 c with
  |false=>
   have hcv:H4 c day=false:=by unfold H4;rw [hr];rfl
   rw [hcv] at hst
   simp only [Bool.and_false,Bool.false_and,Bool.false_eq_true,if_false] at hst
   rw [hr] at cr
   rw [← hst]
   conv=>whnf
   repeat' first|(refine zd ?_ ?_<;>intro h<;>first|exact zc h|(exfalso;omega)|conv=>whnf)|((first|refine zz ?_|refine qp cr ?_|refine d9 hc ?_|refine zy ?_);conv=>whnf)
   all_goals first
    |(exfalso;omega)
    |(exfalso;simp_all;done)
    |exact ⟨hlt,trivial,[],rfl,rfl,trivial,⟨rfl,rfl,rfl,rfl,rfl,trivial⟩⟩
  |true=>
  rw [hr] at cr
  cases hb:btw day c.since c.till with
  |false=>
   have hcv:H4 c day=false:=by unfold H4;rw [hr,hb];rfl
   rw [hcv] at hst
   simp only [Bool.and_false,Bool.false_and,Bool.false_eq_true,if_false] at hst
   rw [hb] at ci
   rw [← hst]
   conv=>whnf
   repeat' first|(refine zd ?_ ?_<;>intro h<;>first|exact zc h|(exfalso;omega)|conv=>whnf)|((first|refine zz ?_|refine qp cr ?_|refine qp ci ?_|refine d9 hc ?_|refine zy ?_);conv=>whnf)
   all_goals first
    |(exfalso;omega)
    |(exfalso;simp_all;done)
    |exact ⟨hlt,trivial,[],rfl,rfl,trivial,⟨rfl,rfl,rfl,rfl,rfl,trivial⟩⟩
  |true=>
   have hcv:H4 c day=true:=by unfold H4;rw [hr,hb];rfl
   rw [hcv] at hst
   rw [hb] at ci
   cases hf:y8 cs scale day k with
   |none=>
    rw [hf] at hst
    have e0:a3e none=-1:=rfl
    rw [e0]
    by_cases hsc:c.scale=scale
    ·have hst2:(k:Int)=a3e (y8 cs scale day (k+1)):=by rw [hst,if_pos (by simp [hsc,later])];rfl
     clear hst hcv hr hb nxt
     conv=>whnf
     repeat' first|(refine zd ?_ ?_<;>intro h<;>first|exact zc h|(exfalso;omega)|conv=>whnf)|((first|refine zz ?_|refine qp cr ?_|refine qp ci ?_|refine d9 hc ?_|refine zy ?_);conv=>whnf)
     all_goals first
      |(exfalso;omega)
      |exact ⟨hlt,trivial,[],rfl,rfl,trivial,⟨rfl,rfl,rfl,e7 hst2,rfl,trivial⟩⟩
    ·have hst2:(-1:Int)=a3e (y8 cs scale day (k+1)):=by rw [hst,if_neg (by simp [hsc])];rfl
     clear hst hcv hr hb nxt
     conv=>whnf
     repeat' first|(refine zd ?_ ?_<;>intro h<;>first|exact zc h|(exfalso;omega)|conv=>whnf)|((first|refine zz ?_|refine qp cr ?_|refine qp ci ?_|refine d9 hc ?_|refine zy ?_);conv=>whnf)
     all_goals first
      |(exfalso;omega)
      |exact ⟨hlt,trivial,[],rfl,rfl,trivial,⟨rfl,rfl,rfl,e7 hst2,rfl,trivial⟩⟩
   |some b=>
    rw [hf] at hst
    obtain ⟨hb',cb,hcb,_⟩:=L7 hf
    have hsb:=ax7 hcb
    have e0:a3e (some b)=(b:Int):=rfl
    have em:(if (0:Int) > (b:Int) then 0 else (b:Int))=(b:Int):=if_neg (by omega)
    rw [e0]
    by_cases hsc:c.scale=scale∧cb.since≤c.since
    ·have hst2:(k:Int)=a3e (y8 cs scale day (k+1)):=by rw [hst,if_pos (by simp [hsc.1,later,hsb,hsc.2])];rfl
     clear hst hcv hr hb nxt
     conv=>whnf
     repeat' first|(refine zd ?_ ?_<;>intro h<;>first|exact zc h|(exfalso;omega)|conv=>whnf)|((first|refine zz ?_|refine qp cr ?_|refine qp ci ?_|refine d9 hc ?_|refine W2 em hcb ?_|refine zy ?_);conv=>whnf)
     all_goals first
      |(exfalso;omega)
      |exact ⟨hlt,trivial,[],rfl,rfl,trivial,⟨rfl,rfl,rfl,e7 hst2,rfl,trivial⟩⟩
    ·have hst2:(b:Int)=a3e (y8 cs scale day (k+1)):=by
      rw [hst,if_neg (by simp only [Bool.and_eq_true,decide_eq_true_eq,later,hsb];intro h;exact hsc ⟨h.1.1,h.2⟩)];rfl
     clear hst hcv hr hb nxt
     conv=>whnf
     repeat' first|(refine zd ?_ ?_<;>intro h<;>first|exact zc h|(exfalso;omega)|conv=>whnf)|((first|refine zz ?_|refine qp cr ?_|refine qp ci ?_|refine d9 hc ?_|refine W2 em hcb ?_|refine zy ?_);conv=>whnf)
     all_goals first
      |(exfalso;omega)
      |exact ⟨hlt,trivial,[],rfl,rfl,trivial,⟨rfl,rfl,rfl,e7 hst2,rfl,trivial⟩⟩
 ·have hke:k=cs.length:=by omega
  subst hke
  cases hf:y8 cs scale day cs.length with
  |none=>
   have e0:a3e none=-1:=rfl
   rw [e0]
   conv=>whnf
   repeat' first|(refine zd ?_ ?_<;>intro h<;>first|exact zc h|(exfalso;omega)|conv=>whnf)|((first|refine zz ?_|refine zy ?_);conv=>whnf)
   all_goals first
    |(exfalso;omega)
    |exact k8 ⟨rfl,rfl,trivial⟩
  |some b=>
   have e0:a3e (some b)=(b:Int):=rfl
   have em:(if (0:Int) > (b:Int) then 0 else (b:Int))=(b:Int):=if_neg (by omega)
   rw [e0]
   conv=>whnf
   repeat' first|(refine zd ?_ ?_<;>intro h<;>first|exact zc h|(exfalso;omega)|conv=>whnf)|((first|refine zz ?_|refine zy ?_);conv=>whnf)
   all_goals first
    |(exfalso;omega)
    |exact k8 ⟨e7 em,rfl,trivial⟩
theorem az1 (rs:List z6) (hl:rs.length≤1000000) (scale day:Int):b9 Tryz.prog 272 [.c (.t (J3 rs)),a9 .i64 scale,a9 .i64 day] [] (f7 (a11 rs scale day)) []:=by
 have l1:(rs.map z6.row).length=rs.length:=by simp
 (refine a8 a7 Tryz.func272 rfl (by decide) ?_;(conv=>whnf);repeat ((first|refine b0x ?_|refine zy ?_);conv=>whnf))
 repeat' first|(refine zd ?_ ?_<;>intro h<;>first|exact zc h|(exfalso;omega)|conv=>whnf)|((first|refine zz ?_|refine zy ?_);conv=>whnf)
 refine f8 a7 (fun k=>([S.c (C.t (J3 rs)),a9 .i64 scale,a9 .i64 day,J,J,J,J,a9 .i64 k,J,J,J,J,J,J,J,J,J,J,J,J,J,J,J,J,J,J,J,J,J,J],[])) rs.length (fun k=>(rs.take k).any (fun r=>decide (r.scale=scale) && decide (r.since≤day))=false) [] rfl
  ⟨rfl,rfl,trivial,⟨rfl,rfl,rfl,rfl,trivial⟩⟩ ?_
 intro k hk hI
 by_cases hlt:k<rs.length
 ·obtain ⟨r,hr⟩:∃r,rs[k]? =some r:=⟨_,lg0 hlt⟩
  conv=>whnf
  repeat' first|(refine zd ?_ ?_<;>intro h<;>first|exact zc h|(exfalso;omega)|conv=>whnf)|((first|refine zz ?_|refine d9 hr ?_|refine zy ?_);conv=>whnf)
  all_goals first
   |(exfalso;omega)
   |(refine ⟨hlt,?_,[],rfl,rfl,trivial,⟨rfl,rfl,rfl,rfl,trivial⟩⟩;rw [Z6 hr,hI];simp [*];done)
   |(refine ⟨hlt,?_,[],rfl,rfl,trivial,⟨rfl,rfl,rfl,rfl,trivial⟩⟩;rw [Z6 hr,hI];simp;omega)
   |(refine d8 ?_;unfold a11;rw [a10 hr];simp [*];done)
   |(refine d8 ?_;unfold a11;rw [a10 hr];simp;omega)
 ·rw [lg4 (by omega)] at hI
  conv=>whnf
  repeat' first|(refine zd ?_ ?_<;>intro h<;>first|exact zc h|(exfalso;omega)|conv=>whnf)|((first|refine zz ?_|refine zy ?_);conv=>whnf)
  all_goals first
   |(exfalso;omega)
   |exact d8 hI.symm
theorem b1F (c:G4) (reading day:Int) (h:H4 c day=true) (hr:btw reading 0 1099511627776=true):b9 Tryz.prog 274 [at5 c,a9 .i64 reading,a9 .i64 day] []
 (.tup [frS (fz (a1a c reading day)),f7 true]) []:=by
 have cr:=ay0 c
 have ci:=a77 day c.since c.till
 have wi:=a77 reading 0 1099511627776
 have hcr:N6 c=true:=by unfold H4 at h;simp only [Bool.and_eq_true] at h;exact h.1
 have hci:btw day c.since c.till=true:=by unfold H4 at h;simp only [Bool.and_eq_true] at h;exact h.2
 rw [hcr] at cr
 rw [hci] at ci
 rw [hr] at wi
 have hc:=a2f h
 obtain ⟨p0,p1,d0,d1⟩:=b1L.of h hr
 rw [S4] at hr
 have fo:=b6m (c.permille*reading) 1000 (by decide) (by omega) (by omega) (by decide)
 have fi:=a2H (c.grams+c.drift*(day - c.since)) (by omega) (by omega)
 have h2:rl (Rat.divInt (c.permille*reading) 1000)≤4:=Nat.le_trans (Z2 (by decide)) (by have:=N8 (x:=c.permille*reading) (by omega) (by omega);have:=N8 (x:=1000) (by decide) (by decide);omega)
 have h3:rl ((c.grams+c.drift*(day - c.since):Int):Rat)≤4:=by rw [Q7];have:=N8 (x:=c.grams+c.drift*(day - c.since)) (by omega) (by omega);omega
 have ad:=aT5 ((c.grams+c.drift*(day - c.since):Int):Rat) (Rat.divInt (c.permille*reading) 1000) (by omega) (by omega)
 (refine a8 a7 Tryz.func274 rfl (by decide) ?_;(conv=>whnf);repeat (refine zy ?_;conv=>whnf))
 repeat' first|(refine zd ?_ ?_<;>intro h<;>first|exact zc h|(exfalso;omega)|conv=>whnf)|((first|refine zz ?_|refine qp cr ?_|refine qp ci ?_|refine qp wi ?_|refine qp fo ?_|refine qp fi ?_|refine qp ad ?_|refine qp 7 ?_|refine qp 15 ?_|refine bl0 [7] ?_|refine bl0 [15] ?_|refine zy ?_);conv=>whnf)
 all_goals first
  |(exfalso;simp_all;done)
  |exact b0u (by rw [Rat.add_comm];rfl) rfl
theorem au3 (cs:List G4) (rs:List z6) (hl:cs.length≤1000000) (hl2:rs.length≤1000000) (scale reading day:Int):
 b9 Tryz.prog 224 [.c (.t (Y4 cs)),.c (.t (J3 rs)),a9 .i64 scale,a9 .i64 reading,a9 .i64 day] [] (.tup (ivL (L1 cs rs scale reading day))) []:=by
 have f:=b3W cs scale day hl
 have r:=az1 rs hl2 scale day
 have wi:=a77 reading 0 1099511627776
 unfold L1
 cases hf:y8 cs scale day cs.length with
 |none=>
  rw [hf] at f
  (refine a8 a7 Tryz.func224 rfl (by decide) ?_;(conv=>whnf);repeat (refine zy ?_;conv=>whnf))
  repeat' first|(refine zd ?_ ?_<;>intro h<;>first|exact zc h|(exfalso;omega)|conv=>whnf)|((first|refine zz ?_|refine qp f ?_|refine qp r ?_|refine qp wi ?_|refine qp 1 ?_|refine bl0 [1] ?_|refine zy ?_);conv=>whnf)
  all_goals first
   |(exfalso;simp_all;done)
   |exact k8 ⟨⟨rfl,rfl,rfl,rfl,trivial⟩,⟨rfl,rfl,rfl,rfl,trivial⟩,rfl,trivial⟩
 |some i=>
  rw [hf] at f
  obtain ⟨hb,c,hc,_,hcv⟩:=L7 hf
  have e:a1x cs i=c:=by unfold a1x;rw [hc];rfl
  simp only [e]
  cases hrec:a11 rs scale day with
  |true=>
   rw [hrec] at r
   (refine a8 a7 Tryz.func224 rfl (by decide) ?_;(conv=>whnf);repeat (refine zy ?_;conv=>whnf))
   repeat' first|(refine zd ?_ ?_<;>intro h<;>first|exact zc h|(exfalso;omega)|conv=>whnf)|((first|refine zz ?_|refine qp f ?_|refine qp r ?_|refine qp wi ?_|refine qp 1 ?_|refine bl0 [1] ?_|refine zy ?_);conv=>whnf)
   all_goals first
    |(exfalso;simp_all;done)
    |exact k8 ⟨⟨rfl,rfl,rfl,rfl,trivial⟩,⟨rfl,rfl,rfl,rfl,trivial⟩,rfl,trivial⟩
  |false=>
   rw [hrec] at r
   cases hr:btw reading 0 1099511627776 with
   |false=>
    rw [hr] at wi
    (refine a8 a7 Tryz.func224 rfl (by decide) ?_;(conv=>whnf);repeat (refine zy ?_;conv=>whnf))
    repeat' first|(refine zd ?_ ?_<;>intro h<;>first|exact zc h|(exfalso;omega)|conv=>whnf)|((first|refine zz ?_|refine qp f ?_|refine qp r ?_|refine qp wi ?_|refine qp 1 ?_|refine bl0 [1] ?_|refine zy ?_);conv=>whnf)
    all_goals first
     |exact k8 ⟨⟨rfl,rfl,rfl,rfl,trivial⟩,⟨rfl,rfl,rfl,rfl,trivial⟩,rfl,trivial⟩
     |(exfalso;simp_all;done)
   |true=>
    have er:=b1F c reading day hcv hr
    have l1:=aH9 hcv hr
    rw [hr] at wi
    rw [S4] at hr
    have l2:rl (reading:Rat)≤4:=by rw [Q7];have:=N8 (x:=reading) (by omega) (by omega);omega
    have fi:=a2H reading (by omega) (by omega)
    have f0:=a2H 0 (by omega) (by omega)
    have sb:=b5Z (reading:Rat) (a1a c reading day) (by omega) (by omega)
    have ad:=aT5 (reading:Rat) (a1a c reading day) (by omega) (by omega)
    have l4:=aq7 (reading:Rat) (a1a c reading day)
    have sg:=a4G ((reading:Rat) - a1a c reading day) (by omega)
    have hs:=b20 ((reading:Rat) - a1a c reading day)
    (refine a8 a7 Tryz.func224 rfl (by decide) ?_;(conv=>whnf);repeat (refine zy ?_;conv=>whnf))
    repeat' first|(refine zd ?_ ?_<;>intro h<;>first|exact zc h|(exfalso;omega)|conv=>whnf)|((first|refine zz ?_|refine qp f ?_|refine qp r ?_|refine qp wi ?_|refine qp er ?_|refine qp fi ?_|refine qp f0 ?_|refine qp sb ?_|refine qp ad ?_|refine qp sg ?_|refine qp 1 ?_|refine qp 9 ?_|refine qp 6 ?_|refine d9 hc ?_|refine bl0 [1] ?_|refine bl0 [9] ?_|refine bl0 [6] ?_|refine zy ?_);conv=>whnf)
    ·have hn:(reading:Rat) - a1a c reading day<((0:Int):Rat):=hs.1 (by omega)
     refine k8 ⟨b1E ?_,⟨rfl,rfl,rfl,rfl,trivial⟩,rfl,trivial⟩
     unfold ao1;rw [if_pos hn]
    ·have hn:¬(reading:Rat) - a1a c reading day<((0:Int):Rat):=fun h=>absurd (hs.2 h) (by omega)
     refine k8 ⟨b1E ?_,⟨rfl,rfl,rfl,rfl,trivial⟩,rfl,trivial⟩
     unfold ao1;rw [if_neg hn]
    ·have hq:(some i).isSome=false:=by assumption
     cases hq
end
section
open Go.RowKit
theorem a4f (n lo hi:Int):b9 Tryz.prog 157 [a9 .i64 n,a9 .i64 lo,a9 .i64 hi] [] (f7 (btw n lo hi)) []:=by
 (refine a8 a7 Tryz.func157 rfl (by decide) ?_;(conv=>whnf);repeat (refine zy ?_;conv=>whnf))
 repeat' first|(refine zd ?_ ?_<;>intro h<;>first|exact zc h|(exfalso;omega)|conv=>whnf)|((first|refine zz ?_|refine zy ?_);conv=>whnf)
 all_goals (refine d8 ?_;simp only [btw];simp;omega)
theorem a1q (n m:Int):b9 Tryz.prog 157 [a9 .i64 n,a9 .i64 0,a9 .i64 (m - 1)] [] (f7 (idx n m)) []:=by
 rw [← aS9];exact a4f n 0 (m - 1)
theorem b3x (e:Ev) (hs:e.Sized):b9 Tryz.prog 231 [evS e] [] (f7 (a0Q e)) []:=by
 have l1:(e.places.map I3.row).length=e.places.length:=by simp
 have l2:(e.moves.map n6.row).length=e.moves.length:=by simp
 have l3:(e.certs.map G4.row).length=e.certs.length:=by simp
 have l4:(e.recalls.map z6.row).length=e.recalls.length:=by simp
 have l5:(e.purities.map O8.row).length=e.purities.length:=by simp
 (refine a8 a7 Tryz.func231 rfl (by decide) ?_;(conv=>whnf);repeat ((first|refine b0x ?_|refine zy ?_);conv=>whnf))
 repeat' first|(refine zd ?_ ?_<;>intro h<;>first|exact zc h|(exfalso;omega)|conv=>whnf)|((first|refine zz ?_|refine zy ?_);conv=>whnf)
 all_goals (refine d8 ?_;unfold a0Q;simp;omega)
theorem b1I (e:Ev) (p:I3) (h1:1≤e.mats) (h2:e.mats≤6) (h3:0≤e.hhs) (h4:e.hhs≤100):b9 Tryz.prog 232 [evS e,.agg (p.row.map .t)] [] (f7 (P7 e p)) []:=by
 have i3:=a1q p.kind 7
 (refine a8 a7 Tryz.func232 rfl (by decide) ?_;(conv=>whnf);repeat ((first|refine b0x ?_|refine zy ?_);conv=>whnf))
 repeat' first|(refine zd ?_ ?_<;>intro h<;>first|exact zc h|(exfalso;omega)|conv=>whnf)|((first|refine zz ?_|refine qp (a1q p.hh e.hhs) ?_|refine qp (a1q p.mat e.mats) ?_|refine qp i3 ?_|refine zy ?_);conv=>whnf)
 all_goals first
  |(exfalso;omega)
  |(refine d8 ?_;simp_all [P7]<;>decide)
def a1c (e:Ev) (k:Nat) (x:n6):Int:=if x.day<0∨100000<x.day∨(0<k∧x.day<a1J e k) then 17 else if F5 e x then 0 else 1
set_option maxHeartbeats 4000000 in
theorem b41 (e:Ev) (k:Nat) (x:n6) (hx:e.moves[k]? =some x) (hf:a0Q e=false) (h1:1≤e.mats) (h3:0≤e.hhs) (h5:0≤e.scs):b9 Tryz.prog 233 [evS e,a9 .i64 k] [] (a9 .i64 (a1c e k x)) []:=by
 have l1:(e.places.map I3.row).length=e.places.length:=by simp
 have l2:(e.moves.map n6.row).length=e.moves.length:=by simp
 have hk:k<e.moves.length:=(lg1 hx).1
 unfold a0Q at hf
 simp only [Bool.or_eq_false_iff,decide_eq_false_iff_not] at hf
 obtain ⟨y,hy⟩:∃y,e.moves[k - 1]? =some y:=⟨_,lg0 (by omega)⟩
 have hl:0<k→a1J e k=y.day:=fun h=>by
  obtain ⟨j,rfl⟩:∃j,k=j+1:=⟨k - 1,by omega⟩
  exact a0N hy
 have d:=a4f x.day 0 100000
 have is:=a1q x.src (e.places.map I3.row).length
 have id:=a1q x.dst (e.places.map I3.row).length
 have ic:=a1q x.scale e.scs
 have ir:=a4f x.reading 0 1099511627776
 have hdd:(x.day<0∨100000<x.day∨(0<k∧x.day<a1J e k))↔(x.day<0∨100000<x.day∨(0<k∧x.day<y.day)):=by
  rcases Nat.eq_zero_or_pos k with h|h
  ·simp [h]
  ·rw [hl h]
 clear hl
 have em:(if (0:Int) > (k:Int) - 1 then 0 else (k:Int) - 1)=((k - 1:Nat):Int):=by split<;>omega
 by_cases hd:x.day<0∨100000<x.day∨(0<k∧x.day<y.day)
 ·have e1:a1c e k x=17:=by unfold a1c;rw [if_pos (hdd.2 hd)]
  clear hdd
  rw [e1]
  have hb:=S4 (a:=x.day) (b:=0) (c:=100000)
  (refine a8 a7 Tryz.func233 rfl (by decide) ?_;(conv=>whnf);repeat ((first|refine b0x ?_|refine zy ?_);conv=>whnf))
  repeat' first|(refine zd ?_ ?_<;>intro h<;>first|exact zc h|(exfalso;omega)|conv=>whnf)|((first|refine zz ?_|refine qp d ?_|refine d9 hx ?_|refine W2 em hy ?_|refine zy ?_);conv=>whnf)
  all_goals first
   |exact j5 rfl
   |(exfalso;have:=hb.1 (by assumption);omega)
   |(exfalso;omega)
 have e1:a1c e k x=if F5 e x then 0 else 1:=by unfold a1c;rw [if_neg (fun h=>hd (hdd.1 h))]
 clear hdd
 rw [e1]
 have hd':btw x.day 0 100000=true:=by rw [S4];omega
 rw [hd'] at d
 cases h1:idx x.src e.places.length with
 |false=>
  rw [← l1] at h1
  rw [h1] at is
  rw [l1] at h1
  (refine a8 a7 Tryz.func233 rfl (by decide) ?_;(conv=>whnf);repeat ((first|refine b0x ?_|refine zy ?_);conv=>whnf))
  repeat' first|(refine zd ?_ ?_<;>intro h<;>first|exact zc h|(exfalso;omega)|conv=>whnf)|((first|refine zz ?_|refine qp d ?_|refine qp is ?_|refine d9 hx ?_|refine W2 em hy ?_|refine zy ?_);conv=>whnf)
  all_goals first
   |(refine j5 ?_;simp [F5,h1];done)
   |(exfalso;simp_all;done)
   |(exfalso;omega)
 |true=>
  obtain ⟨hs0,p,hp,kp⟩:=a3D h1
  rw [← l1] at h1
  rw [h1] at is
  rw [l1] at h1
  cases h2:idx x.dst e.places.length with
  |false=>
   rw [← l1] at h2
   rw [h2] at id
   rw [l1] at h2
   (refine a8 a7 Tryz.func233 rfl (by decide) ?_;(conv=>whnf);repeat ((first|refine b0x ?_|refine zy ?_);conv=>whnf))
   repeat' first|(refine zd ?_ ?_<;>intro h<;>first|exact zc h|(exfalso;omega)|conv=>whnf)|((first|refine zz ?_|refine qp d ?_|refine qp is ?_|refine qp id ?_|refine d9 hx ?_|refine W2 em hy ?_|refine zy ?_);conv=>whnf)
   all_goals first
    |(refine j5 ?_;simp [F5,h1,h2];done)
    |(exfalso;simp_all;done)
    |(exfalso;omega)
  |true=>
   obtain ⟨hd0,q,hq,kq⟩:=a3D h2
   rw [← l1] at h2
   rw [h2] at id
   rw [l1] at h2
   (refine a8 a7 Tryz.func233 rfl (by decide) ?_;(conv=>whnf);repeat ((first|refine b0x ?_|refine zy ?_);conv=>whnf))
   repeat' first|(refine zd ?_ ?_<;>intro h<;>first|exact zc h|(exfalso;omega)|conv=>whnf)|((first|refine zz ?_|refine qp d ?_|refine qp is ?_|refine qp id ?_|refine qp ic ?_|refine qp ir ?_|refine d9 hx ?_|refine C1 hs0 hp ?_|refine C1 hd0 hq ?_|refine W2 em hy ?_|refine zy ?_);conv=>whnf)
   all_goals first
    |(refine j5 ?_;simp_all [F5];done)
    |(exfalso;simp_all;done)
    |(exfalso;omega)
theorem b2q (e:Ev) (hs:e.Sized) (hf:a0Q e=false) (h1:1≤e.mats) (h5:0≤e.scs):b9 Tryz.prog 234 [evS e] [] (f7 (T3 e)) []:=by
 have l2:(e.certs.map G4.row).length=e.certs.length:=by simp
 have l4:(e.recalls.map z6.row).length=e.recalls.length:=by simp
 have l6:(e.purities.map O8.row).length=e.purities.length:=by simp
 have l8:(e.moves.map n6.row).length=e.moves.length:=by simp
 unfold a0Q at hf
 simp only [Bool.or_eq_false_iff,decide_eq_false_iff_not] at hf
 (refine a8 a7 Tryz.func234 rfl (by decide) ?_;(conv=>whnf);repeat ((first|refine b0x ?_|refine zy ?_);conv=>whnf))
 repeat' first|(refine zd ?_ ?_<;>intro h<;>first|exact zc h|(exfalso;omega)|conv=>whnf)|((first|refine zz ?_|refine zy ?_);conv=>whnf)
 refine f8 a7 (fun k=>([J,S.c (C.t (T.ptr (evT e))),J,a9 .i64 k,J,J,J,J,J,J,J,J,J,J,J,J,J,J,J,J,J,J,J,J,J,J,J,J,J,J,J,J,J,J,J,J,J,J,J,J,J,J,J,J,J,J,J,J,J,J,J,J,J,J,J,J,J,J,J,J,J,J,J,J,J,J,J,J,J,J,J,J,J,J,J,J,J,J,J,J,J,J,J,J,J,J,J,J,J,J,J,J,J,J,J,J,J,J,J,J,J,J,J,J,J,J,J,J,J,J,J,J,J,J,J,J,J,J,J,J,J,J,J,J,J,J,J,J],[])) e.certs.length (fun k=>(e.certs.take k).all (a2y e)=true) [] rfl
  ⟨rfl,rfl,trivial,⟨rfl,rfl,trivial⟩⟩ ?_
 intro k hk hI
 by_cases hlt:k<e.certs.length
 ·obtain ⟨x,hx⟩:∃x,e.certs[k]? =some x:=⟨_,lg0 hlt⟩
  conv=>whnf
  repeat' first|(refine zd ?_ ?_<;>intro h<;>first|exact zc h|(exfalso;omega)|conv=>whnf)|((first|refine zz ?_|refine qp (a1q x.scale e.scs) ?_|refine qp (a4f x.till x.since 100000) ?_|refine qp (a4f x.grams 0 1099511627776) ?_|refine qp (a4f x.permille 0 1000) ?_|refine qp (a4f x.drift 0 10000000) ?_|refine d9 hx ?_|refine zy ?_);conv=>whnf)
  all_goals first
   |(exfalso;omega)
   |(refine ⟨hlt,?_,[],rfl,rfl,trivial,⟨rfl,rfl,trivial⟩⟩;rw [s7 hx,hI];simp_all [a2y,btw];done)
   |(refine d8 ?_;rw [T3,w7 hx];rfl;simp_all [a2y,btw];(try omega);done)
 ·have hc:e.certs.all (a2y e)=true:=by rw [← hI,lg4 (by omega)]
  conv=>whnf
  repeat' first|(refine zd ?_ ?_<;>intro h<;>first|exact zc h|(exfalso;omega)|conv=>whnf)|((first|refine zz ?_|refine zy ?_);conv=>whnf)
  all_goals try (exfalso;omega)
  clear hI hlt hk
  refine f8 a7 (fun k=>([J,S.c (C.t (T.ptr (evT e))),J,J,J,a9 .i64 k,J,J,J,J,J,J,J,J,J,J,J,J,J,J,J,J,J,J,J,J,J,J,J,J,J,J,J,J,J,J,J,J,J,J,J,J,J,J,J,J,J,J,J,J,J,J,J,J,J,J,J,J,J,J,J,J,J,J,J,J,J,J,J,J,J,J,J,J,J,J,J,J,J,J,J,J,J,J,J,J,J,J,J,J,J,J,J,J,J,J,J,J,J,J,J,J,J,J,J,J,J,J,J,J,J,J,J,J,J,J,J,J,J,J,J,J,J,J,J,J,J,J],[])) e.recalls.length (fun k=>(e.recalls.take k).all (V9 e)=true) [] rfl
   ⟨rfl,rfl,trivial,⟨rfl,rfl,trivial⟩⟩ ?_
  intro k hk hI
  by_cases hlt:k<e.recalls.length
  ·obtain ⟨x,hx⟩:∃x,e.recalls[k]? =some x:=⟨_,lg0 hlt⟩
   conv=>whnf
   repeat' first|(refine zd ?_ ?_<;>intro h<;>first|exact zc h|(exfalso;omega)|conv=>whnf)|((first|refine zz ?_|refine qp (a1q x.scale e.scs) ?_|refine qp (a4f x.since 0 100000) ?_|refine d9 hx ?_|refine zy ?_);conv=>whnf)
   all_goals first
    |(exfalso;omega)
    |(refine ⟨hlt,?_,[],rfl,rfl,trivial,⟨rfl,rfl,trivial⟩⟩;rw [s7 hx,hI];simp_all [V9];done)
    |(refine d8 ?_;rw [T3,hc,w7 hx];rfl;simp_all [V9];done)
  ·have hr:e.recalls.all (V9 e)=true:=by rw [← hI,lg4 (by omega)]
   conv=>whnf
   repeat' first|(refine zd ?_ ?_<;>intro h<;>first|exact zc h|(exfalso;omega)|conv=>whnf)|((first|refine zz ?_|refine zy ?_);conv=>whnf)
   all_goals try (exfalso;omega)
   clear hI hlt hk
   refine f8 a7 (fun k=>([J,S.c (C.t (T.ptr (evT e))),J,J,J,J,a9 .i64 k,J,J,J,J,J,J,J,J,J,J,J,J,J,J,J,J,J,J,J,J,J,J,J,J,J,J,J,J,J,J,J,J,J,J,J,J,J,J,J,J,J,J,J,J,J,J,J,J,J,J,J,J,J,J,J,J,J,J,J,J,J,J,J,J,J,J,J,J,J,J,J,J,J,J,J,J,J,J,J,J,J,J,J,J,J,J,J,J,J,J,J,J,J,J,J,J,J,J,J,J,J,J,J,J,J,J,J,J,J,J,J,J,J,J,J,J,J,J,J,J,J],[])) e.purities.length (fun k=>(e.purities.take k).all (V4 e)=true) [] rfl
    ⟨rfl,rfl,trivial,⟨rfl,rfl,trivial⟩⟩ ?_
   intro k hk hI
   by_cases hlt:k<e.purities.length
   ·obtain ⟨x,hx⟩:∃x,e.purities[k]? =some x:=⟨_,lg0 hlt⟩
    conv=>whnf
    repeat' first|(refine zd ?_ ?_<;>intro h<;>first|exact zc h|(exfalso;omega)|conv=>whnf)|((first|refine zz ?_|refine qp (a1q x.move (e.moves.map n6.row).length) ?_|refine qp (a1q x.mat e.mats) ?_|refine qp (a4f x.most x.least 1000) ?_|refine d9 hx ?_|refine zy ?_);conv=>whnf)
    all_goals first
     |(exfalso;omega)
     |(refine ⟨hlt,?_,[],rfl,rfl,trivial,⟨rfl,rfl,trivial⟩⟩;rw [s7 hx,hI];simp_all [V4,btw];done)
     |(refine d8 ?_;rw [T3,hc,hr,w7 hx];rfl;simp_all [V4,btw];(try omega);done)
   ·have hp:e.purities.all (V4 e)=true:=by rw [← hI,lg4 (by omega)]
    conv=>whnf
    repeat' first|(refine zd ?_ ?_<;>intro h<;>first|exact zc h|(exfalso;omega)|conv=>whnf)|((first|refine zz ?_|refine zy ?_);conv=>whnf)
    all_goals first
     |(exfalso;omega)
     |(refine d8 ?_;rw [T3,hc,hr,hp];rfl)
theorem az6 (e:Ev) (hs:e.Sized):b9 Tryz.prog 155 [evS e] [] (a9 .i64 (y5 e)) []:=by
 have l1:(e.places.map I3.row).length=e.places.length:=by simp
 have l8:(e.moves.map n6.row).length=e.moves.length:=by simp
 have fu:=b3x e hs
 cases hf:a0Q e with
 |true=>
  rw [hf] at fu
  (refine a8 a7 Tryz.func155 rfl (by decide) ?_;(conv=>whnf);repeat ((first|refine b0x ?_|refine zy ?_);conv=>whnf))
  repeat' first|(refine zd ?_ ?_<;>intro h<;>first|exact zc h|(exfalso;omega)|conv=>whnf)|((first|refine zz ?_|refine qp fu ?_|refine zy ?_);conv=>whnf)
  all_goals first
   |(exfalso;simp_all;done)
   |(refine j5 ?_;unfold y5;rw [if_pos hf])
 |false=>
  rw [hf] at fu
  by_cases hb:e.mats<1∨e.hhs<0∨e.scs<0
  ·have e1:y5 e=1:=by
    unfold y5;rw [if_neg (by simp [hf]),if_pos (by rcases hb with h|h|h<;>simp [h])]
   rw [e1]
   (refine a8 a7 Tryz.func155 rfl (by decide) ?_;(conv=>whnf);repeat ((first|refine b0x ?_|refine zy ?_);conv=>whnf))
   repeat' first|(refine zd ?_ ?_<;>intro h<;>first|exact zc h|(exfalso;omega)|conv=>whnf)|((first|refine zz ?_|refine qp fu ?_|refine zy ?_);conv=>whnf)
   all_goals first
    |(exfalso;simp_all;done)
    |(exfalso;omega)
    |exact j5 rfl
  have hfb:=hf
  unfold a0Q at hfb
  simp only [Bool.or_eq_false_iff,decide_eq_false_iff_not] at hfb
  (refine a8 a7 Tryz.func155 rfl (by decide) ?_;(conv=>whnf);repeat ((first|refine b0x ?_|refine zy ?_);conv=>whnf))
  repeat' first|(refine zd ?_ ?_<;>intro h<;>first|exact zc h|(exfalso;omega)|conv=>whnf)|((first|refine zz ?_|refine qp fu ?_|refine zy ?_);conv=>whnf)
  all_goals try (exfalso;omega)
  refine f8 a7 (fun k=>([J,S.c (C.t (T.ptr (evT e))),J,a9 .i64 k,J,J,J,J,J,J,J,J,J,J,J,J,J,J,J,J,J,J,J,J,J,J,J,J,J,J,J,J,J,J,J,J,J,J,J,J,J,J,J,J,J,J,J,J,J,J,J,J],[])) e.places.length (fun k=>(e.places.take k).all (P7 e)=true) [] rfl
   ⟨rfl,rfl,trivial,⟨rfl,rfl,trivial⟩⟩ ?_
  intro k hk hI
  by_cases hlt:k<e.places.length
  ·obtain ⟨x,hx⟩:∃x,e.places[k]? =some x:=⟨_,lg0 hlt⟩
   have pl:=b1I e x (by omega) (by omega) (by omega) (by omega)
   conv=>whnf
   repeat' first|(refine zd ?_ ?_<;>intro h<;>first|exact zc h|(exfalso;omega)|conv=>whnf)|((first|refine zz ?_|refine qp pl ?_|refine d9 hx ?_|refine zy ?_);conv=>whnf)
   all_goals first
    |(exfalso;omega)
    |(refine ⟨hlt,?_,[],rfl,rfl,trivial,⟨rfl,rfl,trivial⟩⟩;rw [s7 hx,hI];simp_all;done)
    |(refine j5 ?_;unfold y5;rw [if_neg (by simp [hf]),if_pos (.inr (.inr (.inr (w7 hx (by assumption)))))])
  have hp:e.places.all (P7 e)=true:=by rw [← hI,lg4 (by omega)]
  have hck:y5 e=if t9 e 0 e.moves≠0 then t9 e 0 e.moves else if T3 e then 0 else 1:=by
   unfold y5;rw [if_neg (by simp [hf]),if_neg (by rw [hp];simp;omega)]
  conv=>whnf
  repeat' first|(refine zd ?_ ?_<;>intro h<;>first|exact zc h|(exfalso;omega)|conv=>whnf)|((first|refine zz ?_|refine zy ?_);conv=>whnf)
  all_goals try (exfalso;omega)
  clear hI hlt hk
  refine f8 a7 (fun k=>([J,S.c (C.t (T.ptr (evT e))),J,J,a9 .i64 k,J,J,J,J,J,J,J,J,J,J,J,J,J,J,J,J,J,J,J,J,J,J,J,J,J,J,J,J,J,J,J,J,J,J,J,J,J,J,J,J,J,J,J,J,J,J,J],[])) e.moves.length (fun k=>t9 e 0 e.moves=t9 e (a1J e k) (e.moves.drop k)∧0≤a1J e k) [] ⟨rfl,Int.le_refl 0⟩
   ⟨rfl,rfl,trivial,⟨rfl,rfl,trivial⟩⟩ ?_
  rintro k hk ⟨hI,hI2⟩
  by_cases hlt:k<e.moves.length
  ·obtain ⟨x,hx⟩:∃x,e.moves[k]? =some x:=⟨_,lg0 hlt⟩
   have mv:=b41 e k x hx hf (by omega) (by omega) (by omega)
   rw [W3 hx,t9] at hI
   have hm:t9 e 0 e.moves=if a1c e k x=0 then t9 e x.day (e.moves.drop (k+1)) else a1c e k x:=by
    rw [hI]
    unfold a1c
    have hk0:k=0→a1J e k=0:=fun h=>by subst h;rfl
    by_cases h1:x.day<a1J e k∨100000<x.day
    ·rw [if_pos h1,if_pos (c:=x.day<0∨100000<x.day∨(0<k∧x.day<a1J e k)) (by omega)];simp
    ·rw [if_neg h1,if_neg (c:=x.day<0∨100000<x.day∨(0<k∧x.day<a1J e k)) (by omega)]
     cases F5 e x<;>simp
   have hv:a1c e k x=0→0≤x.day:=fun h=>by unfold a1c at h;split at h<;>omega
   have hm0:a1c e k x=0→t9 e 0 e.moves=t9 e x.day (e.moves.drop (k+1)):=fun h=>by rw [hm,if_pos h]
   have hm1:a1c e k x≠0→t9 e 0 e.moves=a1c e k x:=fun h=>by rw [hm,if_neg h]
   clear hm hI
   conv=>whnf
   repeat' first|(refine zd ?_ ?_<;>intro h<;>first|exact zc h|(exfalso;omega)|conv=>whnf)|((first|refine zz ?_|refine qp mv ?_|refine zy ?_);conv=>whnf)
   all_goals first
    |(exfalso;omega)
    |(refine ⟨hlt,⟨?_,?_⟩,[],rfl,rfl,trivial,⟨rfl,rfl,trivial⟩⟩
      ·rw [a0N hx];exact hm0 (by omega)
      ·rw [a0N hx];exact hv (by omega))
    |(refine j5 ?_
      have hne:a1c e k x≠0:=by omega
      rw [hck,hm1 hne,if_pos hne])
  ·rw [List.drop_eq_nil_of_le (by omega),t9] at hI
   have sd:=b2q e hs hf (by omega) (by omega)
   conv=>whnf
   repeat' first|(refine zd ?_ ?_<;>intro h<;>first|exact zc h|(exfalso;omega)|conv=>whnf)|((first|refine zz ?_|refine qp sd ?_|refine zy ?_);conv=>whnf)
   all_goals first
    |(exfalso;omega)
    |(refine j5 ?_;rw [hck,hI];simp_all;done)
end
section
open Go.RowKit
theorem ax9 (e:Ev) (hs:e.Sized) {k:Nat} {x:n6} (hx:e.moves[k]? =some x):b9 Tryz.prog 151 [evS e,a9 .i64 k] [] (.tup (ivL (D7 e x))) []:=by
 have l1:=hs.s3
 have l2:=hs.s4
 have iv:=au3 e.certs e.recalls (by omega) (by omega) x.scale x.reading x.day
 unfold D7
 by_cases hsc:x.scale=-1
 ·rw [if_pos hsc]
  (refine a8 a7 Tryz.func151 rfl (by decide) ?_;(conv=>whnf);repeat ((first|refine b0x ?_|refine zy ?_);conv=>whnf))
  repeat' first|(refine zd ?_ ?_<;>intro h<;>first|exact zc h|(exfalso;omega)|conv=>whnf)|((first|refine zz ?_|refine qp 1 ?_|refine d9 hx ?_|refine bl0 [1] ?_|refine zy ?_);conv=>whnf)
  all_goals first
   |(exfalso;omega)
   |exact k8 ⟨⟨rfl,rfl,rfl,rfl,trivial⟩,⟨rfl,rfl,rfl,rfl,trivial⟩,rfl,trivial⟩
 ·rw [if_neg hsc]
  cases hiv:L1 e.certs e.recalls x.scale x.reading x.day with
  |none=>
   rw [hiv] at iv
   (refine a8 a7 Tryz.func151 rfl (by decide) ?_;(conv=>whnf);repeat ((first|refine b0x ?_|refine zy ?_);conv=>whnf))
   repeat' first|(refine zd ?_ ?_<;>intro h<;>first|exact zc h|(exfalso;omega)|conv=>whnf)|((first|refine zz ?_|refine qp iv ?_|refine d9 hx ?_|refine zy ?_);conv=>whnf)
   all_goals first
    |(exfalso;omega)
    |exact k8 ⟨⟨rfl,rfl,rfl,rfl,trivial⟩,⟨rfl,rfl,rfl,rfl,trivial⟩,rfl,trivial⟩
  |some p=>
   obtain ⟨lo,hi⟩:=p
   rw [hiv] at iv
   (refine a8 a7 Tryz.func151 rfl (by decide) ?_;(conv=>whnf);repeat ((first|refine b0x ?_|refine zy ?_);conv=>whnf))
   repeat' first|(refine zd ?_ ?_<;>intro h<;>first|exact zc h|(exfalso;omega)|conv=>whnf)|((first|refine zz ?_|refine qp iv ?_|refine d9 hx ?_|refine zy ?_);conv=>whnf)
   all_goals first
    |(exfalso;omega)
    |exact k8 ⟨⟨rfl,rfl,rfl,rfl,trivial⟩,⟨rfl,rfl,rfl,rfl,trivial⟩,rfl,trivial⟩
end
section
open Go.RowKit
theorem aP0 (e:Ev) (mv kind:Int):b9 Tryz.prog 156 [evS e,a9 .i64 mv,a9 .i64 kind] [] (a9 .i64 (a0h e mv kind)) []:=by
 have l2:(e.moves.map n6.row).length=e.moves.length:=by simp
 (refine a8 a7 Tryz.func156 rfl (by decide) ?_;(conv=>whnf);repeat ((first|refine b0x ?_|refine zy ?_);conv=>whnf))
 repeat' first|(refine zd ?_ ?_<;>intro h<;>first|exact zc h|(exfalso;omega)|conv=>whnf)|((first|refine zz ?_|refine zy ?_);conv=>whnf)
 all_goals (refine j5 ?_;unfold a0h;(repeat' split)<;>first|rfl|omega)
theorem ax0 (t:g9) (hs:t.Sized):b9 Tryz.prog 85 [trS t] [] (a9 .i64 (m8 t)) []:=by
 have l1:=hs.f
 have l2:=hs.c
 have ck:=az6 t.ev hs.ev
 have m1:(t.finds.map H9.row).length=t.finds.length:=by simp
 have m2:(t.cleans.map B8.row).length=t.cleans.length:=by simp
 by_cases h0:y5 t.ev≠0
 ·have e1:m8 t=y5 t.ev:=by unfold m8;rw [if_pos h0]
  rw [e1]
  (refine a8 a7 Tryz.func85 rfl (by decide) ?_;(conv=>whnf);repeat ((first|refine b0x ?_|refine zy ?_);conv=>whnf))
  repeat' first|(refine zd ?_ ?_<;>intro h<;>first|exact zc h|(exfalso;omega)|conv=>whnf)|((first|refine zz ?_|refine qp ck ?_|refine zy ?_);conv=>whnf)
  all_goals first
   |(exfalso;omega)
   |exact j5 rfl
 have h0:y5 t.ev=0:=by omega
 rw [h0] at ck
 by_cases h1:20<t.finds.length∨50<t.cleans.length
 ·have e1:m8 t=6:=by unfold m8;rw [if_neg (by omega),if_pos h1]
  rw [e1]
  (refine a8 a7 Tryz.func85 rfl (by decide) ?_;(conv=>whnf);repeat ((first|refine b0x ?_|refine zy ?_);conv=>whnf))
  repeat' first|(refine zd ?_ ?_<;>intro h<;>first|exact zc h|(exfalso;omega)|conv=>whnf)|((first|refine zz ?_|refine qp ck ?_|refine zy ?_);conv=>whnf)
  all_goals first
   |(exfalso;omega)
   |exact j5 rfl
 have e1:m8 t=if I7 t.ev t.finds≠0 then I7 t.ev t.finds else K5 t.ev t.cleans:=by unfold m8;rw [if_neg (by omega),if_neg h1]
 rw [e1]
 (refine a8 a7 Tryz.func85 rfl (by decide) ?_;(conv=>whnf);repeat ((first|refine b0x ?_|refine zy ?_);conv=>whnf))
 repeat' first|(refine zd ?_ ?_<;>intro h<;>first|exact zc h|(exfalso;omega)|conv=>whnf)|((first|refine zz ?_|refine qp ck ?_|refine zy ?_);conv=>whnf)
 all_goals try (exfalso;omega)
 refine f8 a7 (fun k=>([J,S.c (C.t (T.ptr (trT t))),J,J,a9 .i64 k,J,J,J,J,J,J,J,J,J,J,J,J,J,J,J,J,J,J,J,J,J,J,J,J,J,J,J,J,J,J,J,J,J,J,J,J,J,J,J,J,J,J,J,J,J,J,J,J,J,J,J,J,J,J,J,J,J,J,J,J,J,J,J,J,J,J,J,J,J,J,J,J,J],[])) t.finds.length (fun k=>I7 t.ev t.finds=I7 t.ev (t.finds.drop k)) [] rfl
  ⟨rfl,rfl,trivial,⟨rfl,rfl,trivial⟩⟩ ?_
 intro k hk hI
 by_cases hlt:k<t.finds.length
 ·obtain ⟨f,hf⟩:∃f,t.finds[k]? =some f:=⟨_,lg0 hlt⟩
  have mk:=aP0 t.ev f.mv f.kind
  rw [W3 hf,I7] at hI
  by_cases hm:a0h t.ev f.mv f.kind≠0
  ·rw [if_pos hm] at hI
   rw [hI,if_pos hm]
   conv=>whnf
   repeat' first|(refine zd ?_ ?_<;>intro h<;>first|exact zc h|(exfalso;omega)|conv=>whnf)|((first|refine zz ?_|refine qp mk ?_|refine d9 hf ?_|refine zy ?_);conv=>whnf)
   all_goals first
    |(exfalso;omega)
    |exact j5 rfl
  ·rw [if_neg hm] at hI
   by_cases hg:f.grams<1∨1099511627776<f.grams
   ·rw [if_pos hg] at hI
    rw [hI]
    conv=>whnf
    repeat' first|(refine zd ?_ ?_<;>intro h<;>first|exact zc h|(exfalso;omega)|conv=>whnf)|((first|refine zz ?_|refine qp mk ?_|refine d9 hf ?_|refine zy ?_);conv=>whnf)
    all_goals first
     |(exfalso;omega)
     |exact j5 rfl
   ·rw [if_neg hg] at hI
    conv=>whnf
    repeat' first|(refine zd ?_ ?_<;>intro h<;>first|exact zc h|(exfalso;omega)|conv=>whnf)|((first|refine zz ?_|refine qp mk ?_|refine d9 hf ?_|refine zy ?_);conv=>whnf)
    all_goals first
     |(exfalso;omega)
     |exact ⟨hlt,hI,[],rfl,rfl,trivial,⟨rfl,rfl,trivial⟩⟩
 ·rw [List.drop_of_length_le (by omega)] at hI
  have hI:I7 t.ev t.finds=0:=hI
  rw [hI,if_neg (by omega)]
  conv=>whnf
  repeat' first|(refine zd ?_ ?_<;>intro h<;>first|exact zc h|(exfalso;omega)|conv=>whnf)|((first|refine zz ?_|refine zy ?_);conv=>whnf)
  all_goals try (exfalso;omega)
  refine f8 a7 (fun k=>([J,S.c (C.t (T.ptr (trT t))),J,J,J,J,a9 .i64 k,J,J,J,J,J,J,J,J,J,J,J,J,J,J,J,J,J,J,J,J,J,J,J,J,J,J,J,J,J,J,J,J,J,J,J,J,J,J,J,J,J,J,J,J,J,J,J,J,J,J,J,J,J,J,J,J,J,J,J,J,J,J,J,J,J,J,J,J,J,J,J],[])) t.cleans.length (fun k=>K5 t.ev t.cleans=K5 t.ev (t.cleans.drop k)) [] rfl
   ⟨rfl,rfl,trivial,⟨rfl,rfl,trivial⟩⟩ ?_
  intro j hj hJ
  by_cases hjt:j<t.cleans.length
  ·obtain ⟨c,hc⟩:∃c,t.cleans[j]? =some c:=⟨_,lg0 hjt⟩
   have mk:=aP0 t.ev c.mv c.kind
   rw [W3 hc,K5] at hJ
   by_cases hm:a0h t.ev c.mv c.kind≠0
   ·rw [if_pos hm] at hJ
    rw [hJ]
    conv=>whnf
    repeat' first|(refine zd ?_ ?_<;>intro h<;>first|exact zc h|(exfalso;omega)|conv=>whnf)|((first|refine zz ?_|refine qp mk ?_|refine d9 hc ?_|refine zy ?_);conv=>whnf)
    all_goals first
     |(exfalso;omega)
     |exact j5 rfl
   ·rw [if_neg hm] at hJ
    conv=>whnf
    repeat' first|(refine zd ?_ ?_<;>intro h<;>first|exact zc h|(exfalso;omega)|conv=>whnf)|((first|refine zz ?_|refine qp mk ?_|refine d9 hc ?_|refine zy ?_);conv=>whnf)
    all_goals first
     |(exfalso;omega)
     |exact ⟨hjt,hJ,[],rfl,rfl,trivial,⟨rfl,rfl,trivial⟩⟩
  ·rw [List.drop_of_length_le (by omega)] at hJ
   have hJ:K5 t.ev t.cleans=0:=hJ
   rw [hJ]
   conv=>whnf
   repeat' first|(refine zd ?_ ?_<;>intro h<;>first|exact zc h|(exfalso;omega)|conv=>whnf)|((first|refine zz ?_|refine zy ?_);conv=>whnf)
   all_goals first
    |(exfalso;omega)
    |exact j5 rfl
theorem b2d (t:g9) (hs:t.Sized) (kind:Int):b9 Tryz.prog 149 [trS t,a9 .i64 kind] [] (f7 (decide (m8 t=0∧0≤kind∧kind<8))) []:=by
 have ck:=ax0 t hs
 (refine a8 a7 Tryz.func149 rfl (by decide) ?_;(conv=>whnf);repeat ((first|refine b0x ?_|refine zy ?_);conv=>whnf))
 repeat' first|(refine zd ?_ ?_<;>intro h<;>first|exact zc h|(exfalso;omega)|conv=>whnf)|((first|refine zz ?_|refine qp ck ?_|refine zy ?_);conv=>whnf)
 all_goals (refine d8 ?_;simp;try omega)
theorem a7C (v n:Int) (h1:-9223372036854775808≤n) (h2:n≤9223372036854775807):b9 Tryz.prog 223 [a9 .i64 v,a9 .i64 n] [] (.agg ((o7 (v,(n:Rat))).map .t)) []:=by
 have i1:=a2H n h1 h2
 (refine a8 a7 Tryz.func223 rfl (by decide) ?_;(conv=>whnf);repeat ((first|refine b0x ?_|refine zy ?_);conv=>whnf))
 repeat' first|(refine zd ?_ ?_<;>intro h<;>first|exact zc h|(exfalso;omega)|conv=>whnf)|((first|refine zz ?_|refine qp i1 ?_|refine zy ?_);conv=>whnf)
 exact k8 ⟨rfl,rfl,rfl,rfl,rfl,trivial⟩
theorem aJ2 (i:Nat) (kind:Int) (v:Rat):b9 Tryz.prog 152 [a9 .i64 i,a9 .i64 kind,frS (fz v)] [] (az8 (s9 i kind v)) []:=by
 have i1:=a7C i 1 (by decide) (by decide)
 (refine a8 a7 Tryz.func152 rfl (by decide) ?_;(conv=>whnf);repeat ((first|refine b0x ?_|refine zy ?_);conv=>whnf))
 repeat' first|(refine zd ?_ ?_<;>intro h<;>first|exact zc h|(exfalso;omega)|conv=>whnf)|((first|refine zz ?_|refine qp i1 ?_|refine a34.weak ?_|refine zy ?_);conv=>whnf)
 exact k8 ⟨rfl,rfl,rfl,rfl,rfl,rfl,trivial⟩
abbrev bh1 (f:Fr):Blk:={ mode:=.live,elem:=83,size:=4,rows:=[frC f],box:=true }
theorem aG3 (f:Fr):G8 [frC f]:=by simp [G8,frC,m6,C.isT]
end
section
open Go.RowKit
set_option maxHeartbeats 4000000 in
theorem b17 (e:Ev) (h0:y5 e=0) {i:Nat} {x:n6} (hx:e.moves[i]? =some x):b9 Tryz.prog 150 [evS e,a9 .i64 i] [] (az8 (t4 e i x)) []:=by
 obtain ⟨b1,b2,b3,b4⟩:=P6 h0
 have hi:i<e.moves.length:=(lg1 hx).1
 have m0:(e.moves.map n6.row).length=e.moves.length:=by simp
 have i0:=a2H 0 (by decide) (by decide)
 have im:=a7C i (-1) (by decide) (by decide)
 have hil:=a09 (e:=e) (p:=x.src) i
 cases hal:x.all
 case' false=>have hK:(t4 e i x).kind=0:=by unfold t4;rw [hal];rfl
 case' true=>have hK:(t4 e i x).kind=2:=by unfold t4;rw [hal];rfl
 all_goals
  (refine a8 a7 Tryz.func150 rfl (by decide) ?_;(conv=>whnf);repeat ((first|refine b0x ?_|refine zy ?_);conv=>whnf))
  repeat' first|(refine zd ?_ ?_<;>intro h<;>first|exact zc h|(exfalso;omega)|conv=>whnf)|((first|refine zz ?_|refine qp i0 ?_|refine d9 hx ?_|refine zy ?_);conv=>whnf)
  all_goals first
   |(exfalso;omega)
   |(exfalso;simp_all;done)
   |skip
  refine f8 a7 (fun k=>([J,a9 .i64 i,S.c (C.t (T.ptr (evT e))),J,S.c (C.ptr 0 0 0),a9 .i64 x.src,S.c (C.ptr 1 0 0),a9 .i64 k,J,J,J,J,J,J,J,J,J,J,J,J,J,J,J,J,J,J,J,J,J,J,J,J,J,J,J,J,J,J,J,J,J,J,J,J,J,J,J,J,J,J,J,J,J,J,J,J,J,J,J,J,J,J,J,J,J,J],[b4h,b4g 2 (j6 e x.src k).length (t4 e i x).kind,O9 (j6 e x.src k)])) i (fun _=>True) [some 0,some 1,none] trivial ?_ ?_
  ·refine ⟨rfl,rfl,⟨⟨rfl,rfl,rfl,.inr ⟨⟨rfl,rfl,rfl,rfl,rfl,rfl,trivial⟩,trivial⟩⟩,⟨rfl,rfl,rfl,.inr ⟨⟨⟨rfl,rfl,rfl⟩,?_,rfl,rfl,rfl,rfl,trivial⟩,trivial⟩⟩,⟨rfl,rfl⟩,trivial⟩,⟨rfl,rfl,⟨rfl,rfl,rfl⟩,rfl,⟨rfl,rfl,rfl⟩,rfl,trivial⟩⟩
   rw [hK];rfl
  intro k hk _
  have kl:=a09 (e:=e) (p:=x.src) k
  by_cases hlt:k<i
  ·obtain ⟨y,hy⟩:∃y,e.moves[k]? =some y:=⟨_,lg0 (by omega)⟩
   have hmo:=F6 h0 (lg2 hy)
   have hne:y.src≠y.dst:=by unfold F5 at hmo;simp only [Bool.and_eq_true,decide_eq_true_eq] at hmo;exact hmo.1.1.1.1.1.2
   have t1:=a7C k 1 (by decide) (by decide)
   have tm:=a7C k (-1) (by decide) (by decide)
   have lA:(j6 e x.src k).length≤(O9 (j6 e x.src k)).rows.length:=by show _≤(toC _).length;simp [toC]
   have lC:((j6 e x.src k).length+1)*73≤140737488355328:=by omega
   by_cases c1:y.dst=x.src
   ·have et:j6 e x.src (k+1)=j6 e x.src k++[((k:Int),((1:Int):Rat))]:=by rw [Q2 hy,if_pos c1]
    conv=>whnf
    repeat' first|(refine zd ?_ ?_<;>intro h<;>first|exact zc h|(exfalso;omega)|conv=>whnf)|((first|refine zz ?_|refine qp t1 ?_|refine qp tm ?_|refine d9 hy ?_|refine v7 lA lC ?_|refine zy ?_);conv=>whnf)
    all_goals try (exfalso;omega)
    refine ⟨hlt,trivial,[some 0,some 1,some 3],rfl,rfl,⟨⟨rfl,rfl,rfl,.inr ⟨⟨rfl,rfl,rfl,rfl,rfl,rfl,trivial⟩,trivial⟩⟩,⟨rfl,rfl,rfl,.inr ⟨⟨⟨rfl,rfl,?_,fun h=>h⟩,rfl,rfl,rfl,rfl,rfl,trivial⟩,trivial⟩⟩,b8 rfl rfl rfl ?_ rfl,trivial⟩,⟨rfl,rfl,⟨rfl,rfl,rfl⟩,rfl,⟨rfl,rfl,rfl⟩,rfl,trivial⟩⟩
    ·rw [et,List.length_append];rfl
    ·rw [et]
     show List.take (j6 e x.src k).length (toC ((j6 e x.src k).map o7))++toC [o7 ((k:Int),((1:Int):Rat))]=_
     exact a0y rfl
   ·by_cases c2:y.src=x.src
    ·have et:j6 e x.src (k+1)=j6 e x.src k++[((k:Int),((-1:Int):Rat))]:=by rw [Q2 hy,if_neg c1,if_pos c2]
     conv=>whnf
     repeat' first|(refine zd ?_ ?_<;>intro h<;>first|exact zc h|(exfalso;omega)|conv=>whnf)|((first|refine zz ?_|refine qp t1 ?_|refine qp tm ?_|refine d9 hy ?_|refine v7 lA lC ?_|refine zy ?_);conv=>whnf)
     all_goals try (exfalso;omega)
     refine ⟨hlt,trivial,[some 0,some 1,some 3],rfl,rfl,⟨⟨rfl,rfl,rfl,.inr ⟨⟨rfl,rfl,rfl,rfl,rfl,rfl,trivial⟩,trivial⟩⟩,⟨rfl,rfl,rfl,.inr ⟨⟨⟨rfl,rfl,?_,fun h=>h⟩,rfl,rfl,rfl,rfl,rfl,trivial⟩,trivial⟩⟩,b8 rfl rfl rfl ?_ rfl,trivial⟩,⟨rfl,rfl,⟨rfl,rfl,rfl⟩,rfl,⟨rfl,rfl,rfl⟩,rfl,trivial⟩⟩
     ·rw [et,List.length_append];rfl
     ·rw [et]
      show List.take (j6 e x.src k).length (toC ((j6 e x.src k).map o7))++toC [o7 ((k:Int),((-1:Int):Rat))]=_
      exact a0y rfl
    ·have et:j6 e x.src (k+1)=j6 e x.src k:=by rw [Q2 hy,if_neg c1,if_neg c2]
     conv=>whnf
     repeat' first|(refine zd ?_ ?_<;>intro h<;>first|exact zc h|(exfalso;omega)|conv=>whnf)|((first|refine zz ?_|refine d9 hy ?_|refine zy ?_);conv=>whnf)
     all_goals try (exfalso;omega)
     refine ⟨hlt,trivial,[some 0,some 1,some 2],rfl,rfl,⟨⟨rfl,rfl,rfl,.inr ⟨⟨rfl,rfl,rfl,rfl,rfl,rfl,trivial⟩,trivial⟩⟩,⟨rfl,rfl,rfl,.inr ⟨⟨⟨rfl,rfl,?_,fun h=>h⟩,rfl,rfl,rfl,rfl,rfl,trivial⟩,trivial⟩⟩,b8 rfl rfl rfl ?_ rfl,trivial⟩,⟨rfl,rfl,⟨rfl,rfl,rfl⟩,rfl,⟨rfl,rfl,rfl⟩,rfl,trivial⟩⟩
     ·rw [et]
     ·rw [et]
  ·have hke:k=i:=by omega
   subst hke
   have lA:(j6 e x.src k).length≤(O9 (j6 e x.src k)).rows.length:=by show _≤(toC _).length;simp [toC]
   have lC:((j6 e x.src k).length+1)*73≤140737488355328:=by omega
   conv=>whnf
   repeat' first|(refine zd ?_ ?_<;>intro h<;>first|exact zc h|(exfalso;omega)|conv=>whnf)|((first|refine zz ?_|refine qp im ?_|refine v7 lA lC ?_|refine zy ?_);conv=>whnf)
   all_goals try (exfalso;omega)
   refine k8 ⟨show VC _ (fun id=>K3 [] id=true) _ _ from v5 rfl rfl (by intro h;cases h) rfl (rows:=(j6 e x.src k++[((k:Int),((-1:Int):Rat))]).map o7) ?_ ?_,rfl,rfl,rfl,rfl,rfl,trivial⟩
   ·show List.take (j6 e x.src k).length (toC ((j6 e x.src k).map o7))++toC [o7 ((k:Int),((-1:Int):Rat))]=_
    exact a0y rfl
   ·rw [List.length_map,List.length_append];rfl
end
section
open Go.RowKit
abbrev rEv (t:g9) (kind:Int) (k:Nat):Env:=[J,a9 .i64 kind,S.c (C.t (T.ptr (trT t))),J,S.c (C.ptr 0 0 0),J,S.c (C.ptr 1 0 0),S.c (C.ptr 2 0 0),a9 .i64 k,J,J,J,J,J,J,J,J,J,J,J,J,J,J,J,J,J,J,J,J,J,J,J,J,J,J,J,J,J,J,J,J,J,J,J,J,J,J,J,J,J,J,J,J,J,J,J,J,J,J,J,J,J,J,J,J,J,J,J,J,J,J,J,J,J,J,J,J,J,J,J,J,J,J,J,J,J,J,J,J,J,J,J,J,J,J,J,J,J,J,J,J,J,J,J,J,J,J,J,J,J,J,J,J,J,J,J,J,J,J,J,J,J,J,J,J,J,J,J,J,J,J,J,J,J,J,J,J,J,J,J,J]
abbrev rHp (t:g9) (R:List B2):Hp:=[a1V,evB t.ev,a2O t.ev.moves.length 3 R.length,U6 R]
theorem N3 {t:g9} {R:List B2} {N len:Nat} {H:Hp} {env env':Env} {rs:List (List C)} {kz:Blk} (hz:H[0]? =some kz) (hz2:a3w [some 0,some 1,some 2,some N] H kz a1V) (he:H[1]? =some (evB t.ev))
 (hs:H[2]? =some (a2O t.ev.moves.length N len)) (hr:H[N]? =some { mode:=.live,elem:=143,size:=6,rows:=rs,box:=false }) (hl:len=R.length) (hrs:rs=toC (R.map y4)) (hN:2<N)
 (hE:a06 [some 0,some 1,some 2,some N] H env env'):Ent 0 [some 0,some 1,some 2,some N] env H env' (rHp t R):=by
 have b1:Nat.beq 0 N=false:=by cases h:Nat.beq 0 N with|false=>rfl|true=>exact absurd (Nat.eq_of_beq_eq_true h) (by omega)
 refine ⟨rfl,X7 fun a b m h1 h2=>?_,⟨?_,?_,?_,?_,trivial⟩,hE⟩
 ·match a,b,h1,h2 with
  |0,0,_,_=>rfl
  |1,1,_,_=>rfl
  |2,2,_,_=>rfl
  |3,3,_,_=>rfl
  |0,1,h1,h2=>simp at h1 h2;omega
  |0,2,h1,h2=>simp at h1 h2;omega
  |0,3,h1,h2=>simp at h1 h2;omega
  |1,0,h1,h2=>simp at h1 h2;omega
  |1,2,h1,h2=>simp at h1 h2;omega
  |1,3,h1,h2=>simp at h1 h2;omega
  |2,0,h1,h2=>simp at h1 h2;omega
  |2,1,h1,h2=>simp at h1 h2;omega
  |2,3,h1,h2=>simp at h1 h2;omega
  |3,0,h1,h2=>simp at h1 h2;omega
  |3,1,h1,h2=>simp at h1 h2;omega
  |3,2,h1,h2=>simp at h1 h2;omega
  |n+4,_,h1,_=>simp at h1
  |0,n+4,_,h2=>simp at h2
  |1,n+4,_,h2=>simp at h2
  |2,n+4,_,h2=>simp at h2
  |3,n+4,_,h2=>simp at h2
 ·simp only [hz];exact hz2
 ·simp only [he];exact ⟨rfl,rfl,rfl,.inl ⟨rfl,k6 _⟩⟩
 ·simp only [hs];exact ⟨rfl,rfl,rfl,.inr ⟨⟨rfl,⟨rfl,rfl,hl,fun h=>h⟩,trivial⟩,trivial⟩⟩
 ·simp only [hr];exact b8 rfl rfl rfl hrs rfl
theorem Y2 {ρ:List (Option Nat)} {H:Hp}:a3w ρ H a1V a1V:=⟨rfl,rfl,rfl,.inr ⟨⟨rfl,rfl,trivial⟩,trivial⟩⟩
theorem b2M (o:Option (Rat × Rat)):∃lo:Fr,ivL o=[frS lo,frS (hiF o),f7 o.isSome]:=by
 cases o with
 |none=>exact ⟨E7,rfl⟩
 |some p=>exact ⟨fz p.1,rfl⟩
theorem b2O {i:Nat} {kind:Int} {f:Fr} {v:Rat} (h:f=fz v):b9 Tryz.prog 152 [a9 .i64 i,a9 .i64 kind,frS f] [] (az8 (s9 i kind v)) []:=by subst h;exact aJ2 i kind v
set_option maxHeartbeats 4000000 in
theorem aY5 (t:g9) (kind:Int) (hs:t.Sized):b9 Tryz.prog 81 [trS t,a9 .i64 kind] [] (.tup [U9 (a6d t kind),a9 .i64 (a1B t kind)]) []:=by
 have rt:=b2d t hs kind
 have m2:(t.ev.moves.map n6.row).length=t.ev.moves.length:=by simp
 have m4:(t.finds.map H9.row).length=t.finds.length:=by simp
 have m5:(t.cleans.map B8.row).length=t.cleans.length:=by simp
 by_cases h1:m8 t≠0∨kind<0∨8≤kind
 ·have e1:a1B t kind=1:=by unfold a1B;rw [if_pos h1]
  have e2:a6d t kind=⟨0,[]⟩:=by unfold a6d;rw [if_pos h1]
  rw [e1,e2]
  rw [decide_eq_false (by omega)] at rt
  (refine a8 a7 Tryz.func81 rfl (by decide) ?_;(conv=>whnf);repeat ((first|refine b0x ?_|refine zy ?_);conv=>whnf))
  repeat' first|(refine zd ?_ ?_<;>intro h<;>first|exact zc h|(exfalso;omega)|conv=>whnf)|((first|refine zz ?_|refine qp rt ?_|refine zy ?_);conv=>whnf)
  all_goals first
   |(exfalso;omega)
   |exact k8 ⟨⟨rfl,rfl,trivial⟩,rfl,trivial⟩
 have e1:a1B t kind=0:=by unfold a1B;rw [if_neg h1]
 have e2:a6d t kind=f9 t kind:=by unfold a6d;rw [if_neg h1]
 rw [e1,e2]
 obtain ⟨k1,k2,k3⟩:m8 t=0∧0≤kind∧kind<8:=by omega
 rw [decide_eq_true ⟨k1,k2,k3⟩] at rt
 clear h1 e1 e2
 obtain ⟨q1,q2,q3,q4,q5⟩:=z4 k1
 obtain ⟨b1,b2,b3,b4⟩:=P6 q1
 (refine a8 a7 Tryz.func81 rfl (by decide) ?_;(conv=>whnf);repeat ((first|refine b0x ?_|refine zy ?_);conv=>whnf))
 repeat' first|(refine zd ?_ ?_<;>intro h<;>first|exact zc h|(exfalso;omega)|conv=>whnf)|((first|refine zz ?_|refine qp rt ?_|refine zy ?_);conv=>whnf)
 all_goals try (exfalso;omega)
 refine at8 (fun k=>(rEv t kind k,rHp t (p5 t kind k))) t.ev.moves.length (fun _=>True) [some 0,some 1,some 2,none] trivial ?_ ?_
 ·refine ⟨rfl,rfl,⟨⟨rfl,rfl,rfl,.inr ⟨⟨rfl,rfl,trivial⟩,trivial⟩⟩,⟨rfl,rfl,rfl,.inl ⟨rfl,k6 _⟩⟩,⟨rfl,rfl,rfl,.inr ⟨⟨?_,⟨rfl,rfl,rfl⟩,trivial⟩,trivial⟩⟩,⟨rfl,rfl⟩,trivial⟩,⟨rfl,rfl,⟨rfl,rfl,rfl⟩,⟨rfl,rfl,rfl⟩,⟨rfl,rfl,rfl⟩,rfl,trivial⟩⟩
  exact a7J (by rw [m2])
 intro k hk _
 refine E3 a7 ?_
 conv=>whnf
 repeat' first|(refine zd ?_ ?_<;>intro h<;>first|exact zc h|(exfalso;omega)|conv=>whnf)|((first|refine zz ?_|refine zy ?_);conv=>whnf)
 ·obtain ⟨x,hx⟩:∃x,t.ev.moves[k]? =some x:=⟨_,lg0 (by omega)⟩
  have hlt:k<t.ev.moves.length:=by omega
  have hmo:=F6 q1 (lg2 hx)
  have ms:=M3 hmo
  obtain ⟨s,hsn⟩:∃s:Nat,x.src=s:=⟨x.src.toNat,by omega⟩
  obtain ⟨pl,hpl⟩:∃pl,t.ev.places[s]? =some pl:=⟨_,lg0 (by omega)⟩
  have hkd:t7 t.ev x.src=pl.kind:=by rw [hsn];exact a6R hpl
  have st:=b17 t.ev q1 hx
  have iv:=ax9 t.ev hs.ev hx
  have rl0:=a4X (t:=t) (kind:=kind) (k:=k) (by omega) q2 q3
  obtain ⟨lo,hlo⟩:=b2M (D7 t.ev x)
  rw [hlo] at iv
  have i0:=a2H 0 (by decide) (by decide)
  have hcr:K6 (D7 t.ev x) k=if (D7 t.ev x).isSome then [s9 k 1 (hiR (D7 t.ev x))] else []:=by cases D7 t.ev x<;>rfl
  obtain ⟨R1,hR1⟩:∃R1:List B2,R1=p5 t kind k++(if pl.kind=0 then [] else [t4 t.ev k x]):=⟨_,rfl⟩
  obtain ⟨R2,hR2⟩:∃R2:List B2,R2=R1++K6 (D7 t.ev x) k:=⟨_,rfl⟩
  have l1:R1.length≤14401:=by rw [hR1];split<;>simp<;>omega
  have l2:R2.length≤14402:=by rw [hR2,hcr];split<;>simp<;>omega
  refine a9q (a8S ?_)
  refine Z7 a7 (rEv t kind k) (rHp t R1) ?_ ?_
  ·have lA:(p5 t kind k).length≤(U6 (p5 t kind k)).rows.length:=by show _≤(toC _).length;simp [toC]
   have lC:((p5 t kind k).length+1)*97≤140737488355328:=by omega
   conv=>whnf
   repeat' first|(refine zd ?_ ?_<;>intro h<;>first|exact zc h|(exfalso;omega)|conv=>whnf)|((first|refine zz ?_|refine qp st ?_|refine d9 hx ?_|refine W2 hsn hpl ?_|refine v7 lA lC ?_|refine zy ?_);conv=>whnf)
   ·have eR:R1=p5 t kind k++[t4 t.ev k x]:=by rw [hR1,if_neg (by assumption)]
    refine ⟨[some 0,some 1,some 2,some 4],N3 rfl Y2 rfl rfl rfl ?_ ?_ (by decide) ⟨rfl,rfl,⟨rfl,rfl,rfl⟩,⟨rfl,rfl,rfl⟩,⟨rfl,rfl,rfl⟩,rfl,trivial⟩⟩
    ·rw [eR];simp [toC]
    ·rw [eR];exact a0t rfl
   ·have eR:R1=p5 t kind k:=by rw [hR1,if_pos (by omega),List.append_nil]
    refine ⟨[some 0,some 1,some 2,some 3],N3 rfl Y2 rfl rfl rfl ?_ ?_ (by decide) ⟨rfl,rfl,⟨rfl,rfl,rfl⟩,⟨rfl,rfl,rfl⟩,⟨rfl,rfl,rfl⟩,rfl,trivial⟩⟩
    ·rw [eR]
    ·rw [eR]
  have o1:=fun h=>b2O (i:=k) (kind:=1) (f:=hiF (D7 t.ev x)) (v:=hiR (D7 t.ev x)) h
  refine Z7 a7 ([J,a9 .i64 kind,S.c (C.t (T.ptr (trT t))),J,S.c (C.ptr 0 0 0),J,S.c (C.ptr 1 0 0),S.c (C.ptr 2 0 0),a9 .i64 k,J,S.c (C.ptr 4 0 0),f7 (D7 t.ev x).isSome,J,J,J,J,J,J,J,J,J,J,J,J,J,J,J,J,J,J,J,J,J,J,J,J,J,J,J,J,J,J,J,J,J,J,J,J,J,J,J,J,J,J,J,J,J,J,J,J,J,J,J,J,J,J,J,J,J,J,J,J,J,J,J,J,J,J,J,J,J,J,J,J,J,J,J,J,J,J,J,J,J,J,J,J,J,J,J,J,J,J,J,J,J,J,J,J,J,J,J,J,J,J,J,J,J,J,J,J,J,J,J,J,J,J,J,J,J,J,J,J,J,J,J,J,J,J,J,J,J]) (rHp t R1++[bh1 (hiF (D7 t.ev x))]) ?_ ?_
  ·conv=>whnf
   repeat' first|(refine zd ?_ ?_<;>intro h<;>first|exact zc h|(exfalso;omega)|conv=>whnf)|((first|refine zz ?_|refine qp iv ?_|refine qp 6 ?_|refine bl0 [6] ?_|refine zy ?_);conv=>whnf)
   all_goals
    refine ⟨[some 0,some 1,some 2,some 3,some 5],rfl,rfl,⟨Y2,⟨rfl,rfl,rfl,.inl ⟨rfl,k6 _⟩⟩,⟨rfl,rfl,rfl,.inr ⟨⟨rfl,⟨rfl,rfl,rfl,fun h=>h⟩,trivial⟩,trivial⟩⟩,⟨rfl,rfl,rfl,.inl ⟨rfl,i7 _⟩⟩,⟨rfl,rfl,rfl,.inl ⟨rfl,aG3 _⟩⟩,trivial⟩,⟨rfl,rfl,⟨rfl,rfl,rfl⟩,⟨rfl,rfl,rfl⟩,⟨rfl,rfl,rfl⟩,rfl,⟨rfl,rfl,rfl⟩,aO7 h.symm,trivial⟩⟩
  refine Z7 a7 (rEv t kind k) (rHp t R2) ?_ ?_
  ·have lA:R1.length≤(U6 R1).rows.length:=by show _≤(toC _).length;simp [toC]
   have lC:(R1.length+1)*97≤140737488355328:=by omega
   cases hc:(D7 t.ev x).isSome with
   |true=>
    have o1:=o1 (a3b hc).1
    have eR:R2=R1++[s9 k 1 (hiR (D7 t.ev x))]:=by rw [hR2,hcr,hc];rfl
    conv=>whnf
    repeat' first|(refine zd ?_ ?_<;>intro h<;>first|exact zc h|(exfalso;omega)|conv=>whnf)|((first|refine zz ?_|refine qp o1 ?_|refine v7 lA lC ?_|refine zy ?_);conv=>whnf)
    all_goals try (rw [hc] at h;exact absurd h (by decide))
    refine ⟨[some 0,some 1,some 2,some 5],N3 rfl Y2 rfl rfl rfl ?_ ?_ (by decide) ⟨rfl,rfl,⟨rfl,rfl,rfl⟩,⟨rfl,rfl,rfl⟩,⟨rfl,rfl,rfl⟩,rfl,trivial⟩⟩
    ·rw [eR];simp [toC]
    ·rw [eR];exact a0t rfl
   |false=>
    have eR:R2=R1:=by rw [hR2,hcr,hc];simp
    conv=>whnf
    repeat' first|(refine zd ?_ ?_<;>intro h<;>first|exact zc h|(exfalso;omega)|conv=>whnf)|((first|refine zz ?_|refine zy ?_);conv=>whnf)
    all_goals try (rw [hc] at h;exact absurd h (by decide))
    refine ⟨[some 0,some 1,some 2,some 3],N3 rfl Y2 rfl rfl rfl ?_ ?_ (by decide) ⟨rfl,rfl,⟨rfl,rfl,rfl⟩,⟨rfl,rfl,rfl⟩,⟨rfl,rfl,rfl⟩,rfl,trivial⟩⟩
    ·rw [eR]
    ·rw [eR]
  obtain ⟨G,hG⟩:∃G:Nat→List B2,∀j,G j=R2++(i6 (t.finds.take j) kind k).map (fun g:Int=>s9 k 0 (g:Rat)):=⟨_,fun _=>rfl⟩
  have lG:∀j,(G j).length≤14500:=fun j=>by
   have h1:(i6 (t.finds.take j) kind k).length≤20:=by
    unfold i6;rw [List.length_map]
    exact Nat.le_trans (List.length_filter_le _ _) (by rw [List.length_take];omega)
   rw [hG];simp;omega
  refine Z7 a7 (rEv t kind k) (rHp t (G t.finds.length)) ?_ ?_
  ·conv=>whnf
   repeat' first|(refine zd ?_ ?_<;>intro h<;>first|exact zc h|(exfalso;omega)|conv=>whnf)|((first|refine zz ?_|refine zy ?_);conv=>whnf)
   refine f8 a7 (fun j=>([J,a9 .i64 kind,S.c (C.t (T.ptr (trT t))),J,S.c (C.ptr 0 0 0),J,S.c (C.ptr 1 0 0),S.c (C.ptr 2 0 0),a9 .i64 k,J,J,J,a9 .i64 j,J,J,J,J,J,J,J,J,J,J,J,J,J,J,J,J,J,J,J,J,J,J,J,J,J,J,J,J,J,J,J,J,J,J,J,J,J,J,J,J,J,J,J,J,J,J,J,J,J,J,J,J,J,J,J,J,J,J,J,J,J,J,J,J,J,J,J,J,J,J,J,J,J,J,J,J,J,J,J,J,J,J,J,J,J,J,J,J,J,J,J,J,J,J,J,J,J,J,J,J,J,J,J,J,J,J,J,J,J,J,J,J,J,J,J,J,J,J,J,J,J,J,J,J,J,J,J,J],rHp t (G j))) t.finds.length (fun _=>True) [some 0,some 1,some 2,some 3] trivial ?_ ?_
   ·refine N3 rfl Y2 rfl rfl rfl ?_ ?_ (by decide) ⟨rfl,rfl,⟨rfl,rfl,rfl⟩,⟨rfl,rfl,rfl⟩,⟨rfl,rfl,rfl⟩,rfl,rfl,trivial⟩
    ·rw [hG];simp [i6]
    ·rw [hG];simp [i6]
   intro j hj _
   have lj:=lG j
   by_cases hjt:j<t.finds.length
   ·obtain ⟨f,hf⟩:∃f,t.finds[j]? =some f:=⟨_,lg0 hjt⟩
    have fb:=K2 q4 f (lg2 hf)
    have ig:=a2H f.grams (by omega) (by omega)
    have o0:=aJ2 k 0 (f.grams:Rat)
    have lA:(G j).length≤(U6 (G j)).rows.length:=by show _≤(toC _).length;simp [toC]
    have lC:((G j).length+1)*97≤140737488355328:=by omega
    have gs:G (j+1)=if f.kind=kind∧f.mv=(k:Int) then G j++[s9 k 0 (f.grams:Rat)] else G j:=by
     rw [hG,hG,a2l hf,a2A]
     split<;>simp
    conv=>whnf
    repeat' first|(refine zd ?_ ?_<;>intro h<;>first|exact zc h|(exfalso;omega)|conv=>whnf)|((first|refine zz ?_|refine qp ig ?_|refine qp o0 ?_|refine d9 hf ?_|refine v7 lA lC ?_|refine zy ?_);conv=>whnf)
    all_goals first
     |(exfalso;omega)
     |skip
    ·rw [if_pos (by omega)] at gs
     refine ⟨hjt,trivial,[some 0,some 1,some 2,some 4],N3 rfl Y2 rfl rfl rfl ?_ ?_ (by decide) ⟨rfl,rfl,⟨rfl,rfl,rfl⟩,⟨rfl,rfl,rfl⟩,⟨rfl,rfl,rfl⟩,rfl,rfl,trivial⟩⟩
     ·rw [gs];simp [toC]
     ·rw [gs];exact a0t rfl
    all_goals
     rw [if_neg (by omega)] at gs
     refine ⟨hjt,trivial,[some 0,some 1,some 2,some 3],N3 rfl Y2 rfl rfl rfl ?_ ?_ (by decide) ⟨rfl,rfl,⟨rfl,rfl,rfl⟩,⟨rfl,rfl,rfl⟩,⟨rfl,rfl,rfl⟩,rfl,rfl,trivial⟩⟩
     ·rw [gs]
     ·rw [gs]
   ·have hje:j=t.finds.length:=by omega
    subst hje
    conv=>whnf
    repeat' first|(refine zd ?_ ?_<;>intro h<;>first|exact zc h|(exfalso;omega)|conv=>whnf)|((first|refine zz ?_|refine zy ?_);conv=>whnf)
    all_goals first
     |(exfalso;omega)
     |exact ⟨[some 0,some 1,some 2,some 3],N3 rfl Y2 rfl rfl rfl rfl rfl (by decide) ⟨rfl,rfl,⟨rfl,rfl,rfl⟩,⟨rfl,rfl,rfl⟩,⟨rfl,rfl,rfl⟩,rfl,trivial⟩⟩
  have lGe:=lG t.finds.length
  obtain ⟨K,hK⟩:∃K:Nat→List B2,∀j,K j=G t.finds.length++List.replicate (j9 (t.cleans.take j) kind k) (s9 k 2 ((0:Int):Rat)):=⟨_,fun _=>rfl⟩
  have lK:∀j,(K j).length≤14600:=fun j=>by
   have h1:j9 (t.cleans.take j) kind k≤50:=by
    unfold j9
    exact Nat.le_trans (List.length_filter_le _ _) (by rw [List.length_take];omega)
   rw [hK];simp;omega
  have hKe:K t.cleans.length=p5 t kind (k+1):=by
   rw [hK,hG,hR2,hR1,lg4 (Nat.le_refl _),lg4 (Nat.le_refl _)]
   show _=(match t.ev.moves[k]? with|none=>p5 t kind k|some x=>p5 t kind k++H3 t kind k x)
   rw [hx]
   simp only [H3,hkd,List.append_assoc]
  refine x6 a7 _ ?_
  conv=>whnf
  repeat' first|(refine zd ?_ ?_<;>intro h<;>first|exact zc h|(exfalso;omega)|conv=>whnf)|((first|refine zz ?_|refine zy ?_);conv=>whnf)
  refine f8 a7 (fun j=>([J,a9 .i64 kind,S.c (C.t (T.ptr (trT t))),J,S.c (C.ptr 0 0 0),J,S.c (C.ptr 1 0 0),S.c (C.ptr 2 0 0),a9 .i64 k,J,J,J,J,a9 .i64 j,J,J,J,J,J,J,J,J,J,J,J,J,J,J,J,J,J,J,J,J,J,J,J,J,J,J,J,J,J,J,J,J,J,J,J,J,J,J,J,J,J,J,J,J,J,J,J,J,J,J,J,J,J,J,J,J,J,J,J,J,J,J,J,J,J,J,J,J,J,J,J,J,J,J,J,J,J,J,J,J,J,J,J,J,J,J,J,J,J,J,J,J,J,J,J,J,J,J,J,J,J,J,J,J,J,J,J,J,J,J,J,J,J,J,J,J,J,J,J,J,J,J,J,J,J,J,J],rHp t (K j))) t.cleans.length (fun _=>True) [some 0,some 1,some 2,some 3] trivial ?_ ?_
  ·refine N3 rfl Y2 rfl rfl rfl ?_ ?_ (by decide) ⟨rfl,rfl,⟨rfl,rfl,rfl⟩,⟨rfl,rfl,rfl⟩,⟨rfl,rfl,rfl⟩,rfl,rfl,trivial⟩
   ·rw [hK];simp [j9]
   ·rw [hK];simp [j9]
  intro j hj _
  have lj:=lK j
  by_cases hjt:j<t.cleans.length
  ·obtain ⟨c,hc⟩:∃c,t.cleans[j]? =some c:=⟨_,lg0 hjt⟩
   have o0:=aJ2 k 2 ((0:Int):Rat)
   have lA:(K j).length≤(U6 (K j)).rows.length:=by show _≤(toC _).length;simp [toC]
   have lC:((K j).length+1)*97≤140737488355328:=by omega
   have gs:K (j+1)=if c.kind=kind∧c.mv=(k:Int) then K j++[s9 k 2 ((0:Int):Rat)] else K j:=by
    rw [hK,hK,a2l hc,R3]
    split<;>simp [List.replicate_succ']
   conv=>whnf
   repeat' first|(refine zd ?_ ?_<;>intro h<;>first|exact zc h|(exfalso;omega)|conv=>whnf)|((first|refine zz ?_|refine qp i0 ?_|refine qp o0 ?_|refine d9 hc ?_|refine v7 lA lC ?_|refine zy ?_);conv=>whnf)
   all_goals first
    |(exfalso;omega)
    |skip
   ·rw [if_pos (by omega)] at gs
    refine ⟨hjt,trivial,[some 0,some 1,some 2,some 4],N3 rfl Y2 rfl rfl rfl ?_ ?_ (by decide) ⟨rfl,rfl,⟨rfl,rfl,rfl⟩,⟨rfl,rfl,rfl⟩,⟨rfl,rfl,rfl⟩,rfl,rfl,trivial⟩⟩
    ·rw [gs];simp [toC]
    ·rw [gs];exact a0t rfl
   all_goals
    rw [if_neg (by omega)] at gs
    refine ⟨hjt,trivial,[some 0,some 1,some 2,some 3],N3 rfl Y2 rfl rfl rfl ?_ ?_ (by decide) ⟨rfl,rfl,⟨rfl,rfl,rfl⟩,⟨rfl,rfl,rfl⟩,⟨rfl,rfl,rfl⟩,rfl,rfl,trivial⟩⟩
    ·rw [gs]
    ·rw [gs]
  ·have hje:j=t.cleans.length:=by omega
   subst hje
   conv=>whnf
   repeat' first|(refine zd ?_ ?_<;>intro h<;>first|exact zc h|(exfalso;omega)|conv=>whnf)|((first|refine zz ?_|refine zy ?_);conv=>whnf)
   all_goals try (exfalso;omega)
   refine x6 a7 _ ?_
   conv=>whnf
   repeat' first|(refine zd ?_ ?_<;>intro h<;>first|exact zc h|(exfalso;omega)|conv=>whnf)|((first|refine zz ?_|refine zy ?_);conv=>whnf)
   all_goals try (exfalso;omega)
   exact ⟨hlt,trivial,[some 0,some 1,some 2,some 3],N3 rfl Y2 rfl rfl rfl (by rw [hKe]) (by rw [hKe]) (by decide) ⟨rfl,rfl,⟨rfl,rfl,rfl⟩,⟨rfl,rfl,rfl⟩,⟨rfl,rfl,rfl⟩,rfl,trivial⟩⟩
 ·have hke:k=t.ev.moves.length:=by omega
  subst hke
  refine k8 ⟨⟨rfl,show VC _ (fun id=>K3 [] id=true) _ _ from v5 rfl rfl (by intro h;cases h) rfl rfl (by rw [List.length_map];rfl),trivial⟩,rfl,trivial⟩
end
section
open Go.RowKit
set_option maxHeartbeats 2000000 in
theorem b1v (e:Ev) (hs:e.Sized) (hh mat lo hi:Int):b9 Tryz.prog 86 [evS e,a9 .i64 hh,a9 .i64 mat,a9 .i64 lo,a9 .i64 hi] [] (g6 (y0 e hh mat lo hi)) []:=by
 have l1:=hs.s2
 have l2:(e.moves.map n6.row).length=e.moves.length:=by simp
 have l3:(e.places.map I3.row).length=e.places.length:=by simp
 have ck:=az6 e hs
 by_cases h0:y5 e=0
 ·have e1:y0 e hh mat lo hi=q9 (fun _ m=>a0R e hh mat lo hi m) 0 e.moves:=if_pos h0
  rw [e1]
  let P:Nat→n6→Bool:=fun _ m=>a0R e hh mat lo hi m
  (refine a8 a7 Tryz.func86 rfl (by decide) ?_;(conv=>whnf);repeat ((first|refine b0x ?_|refine zy ?_);conv=>whnf))
  repeat' first|(refine zd ?_ ?_<;>intro h<;>first|exact zc h|(exfalso;omega)|conv=>whnf)|((first|refine zz ?_|refine qp ck ?_|refine zy ?_);conv=>whnf)
  all_goals try (exfalso;omega)
  refine f8 a7 (fun k=>([J,a9 .i64 hh,a9 .i64 mat,a9 .i64 lo,a9 .i64 hi,S.c (C.t (T.ptr (evT e))),J,J,J,J,J,Y8 0 (L8 P e.moves k),a9 .i64 k,J,J,J,J,J,J,J,J,J,J,J,J,J,J,J,J,J,J,J,J,J,J,J,J,J,J,J,J,J,J,J,J,J,J,J,J,J,J,J,J,J,J,J,J,J,J,J,J,J,J,J,J,J,J,J,J,J],[z5 (L8 P e.moves k)])) e.moves.length (fun k=>True) [none] trivial
   ⟨rfl,rfl,⟨⟨rfl,rfl⟩,trivial⟩,⟨rfl,rfl,rfl,rfl,rfl,⟨rfl,rfl,rfl⟩,rfl,trivial⟩⟩ ?_
  intro k hk _
  by_cases hlt:k<e.moves.length
  ·obtain ⟨x,hx⟩:∃x,e.moves[k]? =some x:=⟨_,lg0 hlt⟩
   have hmk:=F6 h0 (lg2 hx)
   have h1:=M3 hmk
   obtain ⟨p,hp⟩:∃p,e.places[x.src.toNat]? =some p:=⟨_,lg0 (by omega)⟩
   have ri:=a4f x.day lo hi
   have hpl:=a4n P e.moves k
   have eP:P k x=(decide (p.kind=0) && decide (p.hh=hh) && (decide (mat=-1) || decide (p.mat=mat)) && btw x.day lo hi):=by show a0R e hh mat lo hi x=_;unfold a0R;rw [hp]
   cases hP:P k x with
   |true=>
    rw [hP] at eP
    have eP:=eP.symm
    simp only [Bool.and_eq_true,Bool.or_eq_true,decide_eq_true_eq] at eP
    obtain ⟨⟨⟨q1,q2⟩,q3⟩,q4⟩:=eP
    rw [q4] at ri
    conv=>whnf
    repeat' first|(refine zd ?_ ?_<;>intro h<;>first|exact zc h|(exfalso;omega)|conv=>whnf)|((first|refine zz ?_|refine qp ri ?_|refine qp toC ?_|refine qp toC ?_|refine d9 hx ?_|refine C1 h1.1 hp ?_|refine zz ?_|refine v7 (by simp [toC]) (by simp [toC];omega) ?_|refine zy ?_);conv=>whnf)
    all_goals first
     |(exfalso;omega)
     |(refine ⟨hlt,trivial,[some 2],rfl,rfl,⟨b8 rfl rfl rfl ?_ rfl,trivial⟩,⟨rfl,rfl,rfl,rfl,rfl,k9 rfl ?_,rfl,trivial⟩⟩
       ·rw [a25 P hx hP,List.map_append]
        exact (congrArg (fun n=>List.take n (toC ((L8 P e.moves k).map i5))++toC [[ti k]]) (by simp)).trans ax1
       ·rw [a25 P hx hP];simp [toC])
   |false=>
    rw [hP] at eP
    have eP:¬(p.kind=0∧p.hh=hh∧(mat=-1∨p.mat=mat)∧btw x.day lo hi=true):=by
     intro h
     obtain ⟨a1,a2,a3,a4⟩:=h
     rw [a4] at eP
     have:(decide (p.kind=0) && decide (p.hh=hh) && (decide (mat=-1) || decide (p.mat=mat)) && true)=true:=by
      simp [a1,a2]
      omega
     rw [← eP] at this
     cases this
    cases hb:btw x.day lo hi with
    |true=>
     rw [hb] at ri eP
     have eP2:¬(p.kind=0∧p.hh=hh∧(mat=-1∨p.mat=mat)):=fun h=>eP ⟨h.1,h.2.1,h.2.2,rfl⟩
     conv=>whnf
     repeat' first|(refine zd ?_ ?_<;>intro h<;>first|exact zc h|(exfalso;omega)|conv=>whnf)|((first|refine zz ?_|refine qp ri ?_|refine d9 hx ?_|refine C1 h1.1 hp ?_|refine zz ?_|refine zy ?_);conv=>whnf)
     all_goals first
      |(exfalso;omega)
      |(exfalso;contradiction)
      |(refine ⟨hlt,trivial,[some 0],rfl,rfl,⟨b8 rfl rfl rfl ?_ rfl,trivial⟩,⟨rfl,rfl,rfl,rfl,rfl,k9 rfl ?_,rfl,trivial⟩⟩
        ·rw [a0w P hx hP]
        ·rw [a0w P hx hP])
    |false=>
     rw [hb] at ri
     clear eP
     conv=>whnf
     repeat' first|(refine zd ?_ ?_<;>intro h<;>first|exact zc h|(exfalso;omega)|conv=>whnf)|((first|refine zz ?_|refine qp ri ?_|refine d9 hx ?_|refine C1 h1.1 hp ?_|refine zz ?_|refine zy ?_);conv=>whnf)
     all_goals first
      |(exfalso;omega)
      |(exfalso;contradiction)
      |(refine ⟨hlt,trivial,[some 0],rfl,rfl,⟨b8 rfl rfl rfl ?_ rfl,trivial⟩,⟨rfl,rfl,rfl,rfl,rfl,k9 rfl ?_,rfl,trivial⟩⟩
        ·rw [a0w P hx hP]
        ·rw [a0w P hx hP])
  ·have hk':q9 P 0 e.moves=L8 P e.moves k:=(a8j P (by omega)).symm
   conv=>whnf
   repeat' first|(refine zd ?_ ?_<;>intro h<;>first|exact zc h|(exfalso;omega)|conv=>whnf)|((first|refine zz ?_|refine zy ?_);conv=>whnf)
   all_goals first
    |(exfalso;omega)
    |(show Fin 0 _ _ (g6 (q9 P 0 e.moves)) []
      rw [hk']
      exact O2 rfl (by intro h;cases h) rfl rfl (by simp))
 ·have e1:y0 e hh mat lo hi=[]:=if_neg h0
  rw [e1]
  (refine a8 a7 Tryz.func86 rfl (by decide) ?_;(conv=>whnf);repeat ((first|refine b0x ?_|refine zy ?_);conv=>whnf))
  repeat' first|(refine zd ?_ ?_<;>intro h<;>first|exact zc h|(exfalso;omega)|conv=>whnf)|((first|refine zz ?_|refine qp ck ?_|refine zy ?_);conv=>whnf)
  all_goals first
   |(exfalso;omega)
   |exact k8 (show a7n [] _ (.c (.t (.sl 0 .nil []))) (g6 []) from rfl)
set_option maxHeartbeats 2000000 in
theorem b3g (t:g9) (hs:t.Sized) (hh:Int) (hl:(y0 t.ev hh (-1) 0 100000).length≤100000):b9 Tryz.prog 29 [trS t,a9 .i64 hh] [] (m7 (a4g t hh)) []:=by
 have ck:=ax0 t hs
 have li:=b1v t.ev hs.ev hh (-1) 0 100000
 have i1:=a2H 1 (by decide) (by decide)
 by_cases hc:m8 t=0∧0≤hh∧hh<t.ev.hhs
 ·have e:a4g t hh=p6 t hh:=if_pos hc
  rw [e]
  obtain ⟨c1,c2,c3⟩:=hc
  have m1:((y0 t.ev hh (-1) 0 100000).map i5).length=(y0 t.ev hh (-1) 0 100000).length:=by simp
  (refine a8 a7 Tryz.func29 rfl (by decide) ?_;(conv=>whnf);repeat ((first|refine b0x ?_|refine zy ?_);conv=>whnf))
  repeat' first|(refine zd ?_ ?_<;>intro h<;>first|exact zc h|(exfalso;omega)|conv=>whnf)|((first|refine zz ?_|refine qp ck ?_|refine qp li ?_|refine zy ?_);conv=>whnf)
  all_goals try (exfalso;omega)
  refine f8 a7 (fun k=>([J,J,J,J,J,g6 (y0 t.ev hh (-1) 0 100000),S.c (C.own 0 0 k true),a9 .i64 k,J,J,J,J,J,J,J,J,J,J,J,J,J,J,J,J,J,J,J,J,J,J,J,J,J,J,J,J,J,J,J,J,J,J],[O9 (a0p ((y0 t.ev hh (-1) 0 100000).take k))])) (y0 t.ev hh (-1) 0 100000).length (fun _=>True) [none] trivial
   ⟨rfl,rfl,⟨⟨rfl,rfl⟩,trivial⟩,⟨j3 rfl,⟨rfl,rfl,rfl⟩,e7 rfl,trivial⟩⟩ ?_
  intro k hk _
  by_cases hlt:k<(y0 t.ev hh (-1) 0 100000).length
  ·obtain ⟨x,hx⟩:∃x,(y0 t.ev hh (-1) 0 100000)[k]? =some x:=⟨_,lg0 hlt⟩
   have lk:(a0p ((y0 t.ev hh (-1) 0 100000).take k)).length=k:=by unfold a0p;rw [List.length_map,List.length_take];omega
   have lA:k≤(O9 (a0p ((y0 t.ev hh (-1) 0 100000).take k))).rows.length:=by show k≤(toC _).length;rw [toC,List.length_map,List.length_map,lk];exact Nat.le_refl _
   conv=>whnf
   repeat' first|(refine zd ?_ ?_<;>intro h<;>first|exact zc h|(exfalso;omega)|conv=>whnf)|((first|refine zz ?_|refine qp i1 ?_|refine qp toC ?_|refine d9 hx ?_|refine v7 lA (by simp [toC];omega) ?_|refine zy ?_);conv=>whnf)
   all_goals first
    |(exfalso;omega)
    |(refine ⟨hlt,trivial,[some 1],rfl,rfl,⟨b8 (rows:=(a0p ((y0 t.ev hh (-1) 0 100000).take (k+1))).map o7) rfl rfl rfl ?_ rfl,trivial⟩,⟨rfl,⟨rfl,rfl,rfl,fun h=>h⟩,e7 (by omega),trivial⟩⟩
      rw [a6T hx]
      exact a0S (f:=o7) (x:=(x,((1:Int):Rat))) lk.symm)
  ·have hke:k=(y0 t.ev hh (-1) 0 100000).length:=by omega
   subst hke
   conv=>whnf
   repeat' first|(refine zd ?_ ?_<;>intro h<;>first|exact zc h|(exfalso;omega)|conv=>whnf)|((first|refine zz ?_|refine zy ?_);conv=>whnf)
   all_goals first
    |(exfalso;omega)
    |exact O2 rfl (fun h=>h) rfl (by rw [lg4 (Nat.le_refl _)];rfl) (by simp [p6,a0p])
 ·have e:a4g t hh=[]:=if_neg hc
  rw [e]
  (refine a8 a7 Tryz.func29 rfl (by decide) ?_;(conv=>whnf);repeat ((first|refine b0x ?_|refine zy ?_);conv=>whnf))
  repeat' first|(refine zd ?_ ?_<;>intro h<;>first|exact zc h|(exfalso;omega)|conv=>whnf)|((first|refine zz ?_|refine qp ck ?_|refine qp li ?_|refine zy ?_);conv=>whnf)
  all_goals first
   |(exfalso;omega)
   |exact aC0
theorem b6L (x:Rat) (lx:rl x≤60000):b9 Tryz.prog 171 [frS (fz x)] [] (frS (fz (-x))) []:=by
 have r1:=a6j x (by omega)
 have x1:=E5 x
 have n:=b46 x.num (by omega)
 have e:fz (-x)=⟨bz (-x.num),bz x.den⟩:=by unfold fz;rw [Rat.neg_num,Rat.neg_den]
 rw [e]
 (refine a8 a7 Tryz.func171 rfl (by decide) ?_;(conv=>whnf);repeat ((first|refine b0x ?_|refine zy ?_);conv=>whnf))
 repeat' first|(refine zd ?_ ?_<;>intro h<;>first|exact zc h|(exfalso;omega)|conv=>whnf)|((first|refine zz ?_|refine qp r1 ?_|refine qp n ?_|refine zy ?_);conv=>whnf)
 all_goals first
  |(exfalso;simp_all;done)
  |exact k8 ⟨rfl,rfl,rfl,rfl,trivial⟩
set_option maxHeartbeats 2000000 in
theorem ax3 (l:List (Int × Rat)) (hl:l.length≤100000) (hb:∀t ∈ l,rl t.2≤200):b9 Tryz.prog 96 [m7 l] [] (m7 (w8 l)) []:=by
 have m1:(l.map o7).length=l.length:=by simp
 (refine a8 a7 Tryz.func96 rfl (by decide) ?_;(conv=>whnf);repeat ((first|refine b0x ?_|refine zy ?_);conv=>whnf))
 repeat' first|(refine zd ?_ ?_<;>intro h<;>first|exact zc h|(exfalso;omega)|conv=>whnf)|((first|refine zz ?_|refine zy ?_);conv=>whnf)
 refine f8 a7 (fun k=>([m7 l,J,J,S.c (C.own 0 0 k true),a9 .i64 k,J,J,J,J,J,J,J,J,J,J,J,J,J,J,J,J,J,J,J,J,J,J],[O9 ((w8 l).take k)])) l.length (fun _=>True) [none] trivial
  ⟨rfl,rfl,⟨⟨rfl,rfl⟩,trivial⟩,⟨rfl,⟨rfl,rfl,rfl⟩,e7 rfl,trivial⟩⟩ ?_
 intro k hk _
 by_cases hlt:k<l.length
 ·obtain ⟨t,ht⟩:∃t,l[k]? =some t:=⟨_,lg0 hlt⟩
  have bt:=hb t (lg2 ht)
  have ne:=b6L t.2 (by omega)
  have en:-t.2=t.2*((-1:Int):Rat):=by
   have e1:((-1:Int):Rat)=-1:=rfl
   rw [e1];grind
  rw [en] at ne
  have lk:((w8 l).take k).length=k:=by rw [List.length_take,a2c];omega
  have lA:k≤(O9 ((w8 l).take k)).rows.length:=by show k≤(toC _).length;simp [toC,a2c];omega
  conv=>whnf
  repeat' first|(refine zd ?_ ?_<;>intro h<;>first|exact zc h|(exfalso;omega)|conv=>whnf)|((first|refine zz ?_|refine qp ne ?_|refine qp toC ?_|refine d9 ht ?_|refine v7 lA (by simp [toC];omega) ?_|refine zy ?_);conv=>whnf)
  all_goals first
   |(exfalso;omega)
   |(refine ⟨hlt,trivial,[some 1],rfl,rfl,⟨b8 (rows:=((w8 l).take (k+1)).map o7) rfl rfl rfl ?_ rfl,trivial⟩,⟨rfl,⟨rfl,rfl,rfl,fun h=>h⟩,e7 (by omega),trivial⟩⟩
     rw [show (w8 l).take (k+1)=_ from a2R l _ ht]
     exact a0S (f:=o7) (x:=(t.1,t.2*((-1:Int):Rat))) lk.symm)
 ·have hke:k=l.length:=by omega
  subst hke
  conv=>whnf
  repeat' first|(refine zd ?_ ?_<;>intro h<;>first|exact zc h|(exfalso;omega)|conv=>whnf)|((first|refine zz ?_|refine zy ?_);conv=>whnf)
  all_goals first
   |(exfalso;omega)
   |exact O2 rfl (fun h=>h) rfl (by rw [lg4 (by rw [a2c];exact Nat.le_refl _)]) (by simp [a2c])
def y7 (s:i8) (g:List (Int × Rat)):i8:=⟨s.n,s.rows++[⟨g,2,((0:Int):Rat)⟩]⟩
set_option maxHeartbeats 2000000 in
theorem b1G (s:i8) (g:List (Int × Rat)) (hl:s.rows.length≤100000):b9 Tryz.prog 94 [U9 s,m7 g] [] (U9 (y7 s g)) []:=by
 have m1:(s.rows.map y4).length=s.rows.length:=by simp
 have i0:=a2H 0 (by decide) (by decide)
 (refine a8 a7 Tryz.func94 rfl (by decide) ?_;(conv=>whnf);repeat ((first|refine b0x ?_|refine zy ?_);conv=>whnf))
 repeat' first|(refine zd ?_ ?_<;>intro h<;>first|exact zc h|(exfalso;omega)|conv=>whnf)|((first|refine zz ?_|refine qp i0 ?_|refine qp toC ?_|refine qp (toC,C4) ?_|refine qp toC ?_|refine qp (0,1) ?_|refine a1d rfl (by simp [toC];omega) ?_|refine v7 (by simp [toC,C4]) (by simp [toC];omega) ?_|refine bl0 [0,1] ?_|refine zy ?_);conv=>whnf)
 refine k8 ?_
 refine ⟨rfl,?_,trivial⟩
 show VC _ (fun id=>K3 [] id=true) (C.own 3 0 _ true) (M5 (y7 s g).rows)
 refine v5 (rows:=(s.rows++[(⟨g,2,((0:Int):Rat)⟩:B2)]).map y4) rfl rfl (fun h=>h) rfl ?_ ?_
 ·show List.take ([].length+(toC (s.rows.map y4)).length) (toC []++toC (s.rows.map y4))++toC [y4 ⟨g,2,((0:Int):Rat)⟩]=_
  rw [lg4 (by simp [toC]),List.map_append]
  simp [toC]
 ·simp [toC]
end
section
open Go.RowKit
theorem aH3 (l:List (Int × Rat)) (z:List Rat) (hl:l.length≤1000000) (h1:∀t ∈ l,rl t.2≤200) (h2:∀v ∈ z,rl v≤40000) (hz:z.length≤1000000) (hr:j1 (-1) z.length l=false):
 b9 Tryz.prog 165 [m7 l,p8 (z.map fz)] [] (.tup [frS E7,f7 false]) []:=by
 have m2:((z.map fz).map m6).length=z.length:=by simp
 have rt:=a0l l z.length hl h1
 rw [decide_eq_true (by omega),hr] at rt
 have rt2:b9 Tryz.prog 167 [m7 l,a9 .i64 (((z.map fz).map m6).length:Nat)] [] (f7 (true && false)) []:=by rw [m2];exact rt
 have pt:=a8f z hz (fun v hv=>by have:=h2 v hv;omega)
 (refine a8 a7 Tryz.func165 rfl (by decide) ?_;(conv=>whnf);repeat ((first|refine b0x ?_|refine zy ?_);conv=>whnf))
 repeat' first|(refine zd ?_ ?_<;>intro h<;>first|exact zc h|(exfalso;omega)|conv=>whnf)|((first|refine zz ?_|refine qp rt2 ?_|refine qp pt ?_|refine zy ?_);conv=>whnf)
 all_goals first
  |(exfalso;simp_all;done)
  |exact k8 ⟨⟨rfl,rfl,rfl,rfl,trivial⟩,rfl,trivial⟩
def a2C (s:i8) (g:List (Int × Rat)) (x:List Rat) (is:Bool):Bool:=j4 s x && (decide (0<k7 g x) == is)
theorem ac1 (s:i8) (hb:a6I s) (hr:j8 s=true) (g:List (Int × Rat)) (hg:j1 (-1) s.n g=true) (hgb:∀t ∈ g,rl t.2≤200) (x:List Rat) (hp:PtB s x) (hS:∀k,rl (k7 (g.take k) x)≤50000) (is:Bool):
 b9 Tryz.prog 92 [U9 s,m7 g,p8 (x.map fz),f7 is] [] (f7 (a2C s g x is)) []:=by
 have hl:=hp.l
 have hnn:0≤s.n∧s.n≤1500:=by
  unfold j8 at hr
  simp only [Bool.and_eq_true,decide_eq_true_eq] at hr
  exact ⟨hr.1.1.1,hr.1.1.2⟩
 have hgl:g.length≤1500:=by
  have:=C8 hg
  omega
 have ho:=b3U s hb hr x hp
 unfold a2C
 cases hh:j4 s x with
 |true=>
  rw [hh] at ho
  have hn:=(T8 hh).2
  have va:=aq9 g x (by omega) hgb hp.v (fun k=>by have:=hS k;omega) hp.l (by rw [hn];exact hg)
  have bv:=hS g.length
  rw [lg4 (Nat.le_refl _)] at bv
  have sg:=a4G (k7 g x) (by omega)
  have sp:=a4u (x:=k7 g x)
  have e:decide (0<k7 g x)=decide (sgR (k7 g x) > 0):=by rw [decide_eq_decide];exact sp.symm
  rw [e]
  generalize sgR (k7 g x)=U at sg
  clear sp e
  cases is<;>
  ·(refine a8 a7 Tryz.func92 rfl (by decide) ?_;(conv=>whnf);repeat ((first|refine b0x ?_|refine zy ?_);conv=>whnf))
   repeat' first|(refine zd ?_ ?_<;>intro h<;>first|exact zc h|(exfalso;omega)|conv=>whnf)|((first|refine zz ?_|refine qp va ?_|refine qp ho ?_|refine qp sg ?_|refine qp 5 ?_|refine bl0 [5] ?_|refine zy ?_);conv=>whnf)
   all_goals first
    |(exfalso;contradiction)
    |(have hd:decide (U > 0)=true:=decide_eq_true (by omega)
      refine d8 ?_;rw [hd];rfl)
    |(have hd:decide (U > 0)=false:=decide_eq_false (by omega)
      refine d8 ?_;rw [hd];rfl)
 |false=>
  rw [hh] at ho
  cases hrt:j1 (-1) x.length g with
  |true=>
   have va:=aq9 g x (by omega) hgb hp.v (fun k=>by have:=hS k;omega) hp.l hrt
   (refine a8 a7 Tryz.func92 rfl (by decide) ?_;(conv=>whnf);repeat ((first|refine b0x ?_|refine zy ?_);conv=>whnf))
   repeat' first|(refine zd ?_ ?_<;>intro h<;>first|exact zc h|(exfalso;omega)|conv=>whnf)|((first|refine zz ?_|refine qp va ?_|refine qp ho ?_|refine qp 5 ?_|refine bl0 [5] ?_|refine zy ?_);conv=>whnf)
   all_goals first
    |(exfalso;contradiction)
    |exact d8 rfl
  |false=>
   have va:=aH3 g x (by omega) hgb hp.v hp.l hrt
   (refine a8 a7 Tryz.func92 rfl (by decide) ?_;(conv=>whnf);repeat ((first|refine b0x ?_|refine zy ?_);conv=>whnf))
   repeat' first|(refine zd ?_ ?_<;>intro h<;>first|exact zc h|(exfalso;omega)|conv=>whnf)|((first|refine zz ?_|refine qp va ?_|refine qp ho ?_|refine qp 5 ?_|refine bl0 [5] ?_|refine zy ?_);conv=>whnf)
   all_goals first
    |(exfalso;contradiction)
    |exact d8 rfl
theorem b56 {g:List (Int × Rat)} {B:Nat} (h:∀t ∈ g,rl t.2≤B):∀t ∈ w8 g,rl t.2≤B:=by
 intro t ht
 obtain ⟨u,hu,rfl⟩:=List.mem_map.1 ht
 have e:u.2*((-1:Int):Rat)=-u.2:=by
  have e1:((-1:Int):Rat)=-1:=rfl
  rw [e1];grind
 show rl (u.2*((-1:Int):Rat))≤B
 rw [e,O1]
 exact h u hu
def aC7 (s:i8) (g:List (Int × Rat)) (v:a0J):Bool:=
 if v.state=2 then decide (v.wo.length=0) && a2C s g v.w true && aI4 (y7 s g) v.pr
 else if v.state=0 then decide (v.w.length=0) && a2C s g v.wo false && (a4S s (w8 g) v.pr && decide (W9 s (yN v.pr)=0))
 else if v.state=1 then decide (v.pr.length=0) && a2C s g v.w true && a2C s g v.wo false
 else false
structure b8J (s:i8) (g:List (Int × Rat)) (v:a0J):Prop where
 w:PtB s v.w
 wo:PtB s v.wo
 wg:∀k,rl (k7 (g.take k) v.w)≤50000
 og:∀k,rl (k7 (g.take k) v.wo)≤50000
 y:∀x ∈ v.pr,rl x≤40000
 yl:v.pr.length≤1000000
 m1:v.pr.length=(y7 s g).rows.length→ai7 (y7 s g) v.pr
 m0:v.pr.length=s.rows.length→ai7 s v.pr
theorem as7 {s:i8} {g:List (Int × Rat)} (hr:j8 s=true) (hl:s.rows.length<6000) (hg:j1 (-1) s.n g=true):j8 (y7 s g)=true:=by
 unfold j8 at hr ⊢
 simp only [Bool.and_eq_true,decide_eq_true_eq] at hr ⊢
 refine ⟨⟨hr.1.1,by simp [y7];omega⟩,?_⟩
 show (s.rows++[_]).all (w9 s.n)=true
 rw [List.all_append,hr.2]
 simp [w9,hg]
theorem b2Z {s:i8} {g:List (Int × Rat)} (hb:a6I s) (hl:s.rows.length<6000) (hg:g.length≤100) (hgb:∀t ∈ g,rl t.2≤200):a6I (y7 s g):=by
 refine ⟨by simp [y7];omega,fun w hw=>?_⟩
 rcases List.mem_append.1 hw with h|h
 ·exact hb.t w h
 ·simp at h
  subst h
  exact ⟨hg,hgb,by have:=rl0;show rl 0≤_;omega⟩
set_option maxHeartbeats 4000000 in
theorem b1W (t:g9) (kind:Int) (hs:t.Sized) (ht:m8 t=0) (k0:0≤kind) (k1:kind<8) (v:a0J) (h0:0≤v.hh) (h1:v.hh<t.ev.hhs) (hm:t.ev.moves.length≤100) (hl:(f9 t kind).rows.length<6000)
 (hb:a6I (f9 t kind)) (hr:j8 (f9 t kind)=true) (hv:b8J (f9 t kind) (p6 t v.hh) v):
 b9 Tryz.prog 31 [trS t,a9 .i64 kind,aD8 v] [] (f7 (aC7 (f9 t kind) (p6 t v.hh) v)) []:=by
 have sy:=aY5 t kind hs
 have hc:¬(m8 t≠0∨kind<0∨8≤kind):=by omega
 have e1:a1B t kind=0:=if_neg hc
 have e2:a6d t kind=f9 t kind:=if_neg hc
 rw [e1,e2] at sy
 have go:=b3g t hs v.hh (by have:=a2t (t:=t) (h:=v.hh);omega)
 have eg:a4g t v.hh=p6 t v.hh:=if_pos ⟨ht,h0,h1⟩
 rw [eg] at go
 have hgr:j1 (-1) (f9 t kind).n (p6 t v.hh)=true:=a08 t v.hh
 have hgb:∀u ∈ p6 t v.hh,rl u.2≤200:=fun u hu=>by have:=a16 (a3j t v.hh) u hu;omega
 have hgl:(p6 t v.hh).length≤100:=by
  have:=C8 hgr
  have:(f9 t kind).n=t.ev.moves.length:=rfl
  omega
 generalize p6 t v.hh=g at go hgr hgb hgl hv
 have m1:((v.w.map fz).map m6).length=v.w.length:=by simp
 have m2:((v.wo.map fz).map m6).length=v.wo.length:=by simp
 have m3:((v.pr.map fz).map m6).length=v.pr.length:=by simp
 have i1:=ac1 _ hb hr g hgr hgb v.w hv.w hv.wg true
 have i2:=ac1 _ hb hr g hgr hgb v.wo hv.wo hv.og false
 unfold aC7
 by_cases s2:v.state=2
 ·rw [if_pos s2]
  have ne:=b1G (f9 t kind) g (by omega)
  have rf:=aV0 (y7 (f9 t kind) g) (b2Z hb hl hgl hgb) (as7 hr hl hgr) v.pr hv.y hv.yl hv.m1
  generalize a2C (f9 t kind) g v.w true=I1 at i1
  generalize aI4 (y7 (f9 t kind) g) v.pr=R1 at rf
  cases I1<;>cases R1<;>
  ·(refine a8 a7 Tryz.func31 rfl (by decide) ?_;(conv=>whnf);repeat ((first|refine b0x ?_|refine zy ?_);conv=>whnf))
   repeat' first|(refine zd ?_ ?_<;>intro h<;>first|exact zc h|(exfalso;omega)|conv=>whnf)|((first|refine zz ?_|refine qp sy ?_|refine qp go ?_|refine qp i1 ?_|refine qp ne ?_|refine qp rf ?_|refine qp 5 ?_|refine bl0 [5] ?_|refine zy ?_);conv=>whnf)
   all_goals first
    |(exfalso;omega)
    |(exfalso;contradiction)
    |(have hd:decide (v.wo.length=0)=true:=decide_eq_true (by omega)
      refine d8 ?_;rw [hd];rfl)
    |(have hd:decide (v.wo.length=0)=false:=decide_eq_false (by omega)
      refine d8 ?_;rw [hd];rfl)
 rw [if_neg s2]
 by_cases s0:v.state=0
 ·rw [if_pos s0]
  have op:=ax3 g (by omega) hgb
  have lo:=aO5 _ hb hr (w8 g) (by rw [a2c];omega) (b56 hgb) v.pr hv.y hv.yl hv.m0
  generalize a2C (f9 t kind) g v.wo false=I2 at i2
  unfold a94 at lo
  cases hB:a4S (f9 t kind) (w8 g) v.pr with
  |false=>
   rw [hB,if_neg (by decide)] at lo
   rw [Bool.false_and,Bool.and_false]
   cases I2<;>
   ·(refine a8 a7 Tryz.func31 rfl (by decide) ?_;(conv=>whnf);repeat ((first|refine b0x ?_|refine zy ?_);conv=>whnf))
    repeat' first|(refine zd ?_ ?_<;>intro h<;>first|exact zc h|(exfalso;omega)|conv=>whnf)|((first|refine zz ?_|refine qp sy ?_|refine qp go ?_|refine qp i2 ?_|refine qp op ?_|refine qp lo ?_|refine qp 5 ?_|refine qp 8 ?_|refine bl0 [5] ?_|refine bl0 [8] ?_|refine zy ?_);conv=>whnf)
    all_goals first
     |(exfalso;omega)
     |(exfalso;contradiction)
     |exact d8 rfl
  |true=>
   rw [hB,if_pos rfl] at lo
   rw [Bool.true_and]
   have hl:v.pr.length=(f9 t kind).rows.length:=by
    unfold a4S a2F at hB
    simp only [Bool.and_eq_true,decide_eq_true_eq] at hB
    exact hB.1.1.1
   have b:=(hv.m0 hl).v (f9 t kind).rows.length
   have b:rl (W9 (f9 t kind) (yN v.pr))≤50000:=b
   have sg:=a4G (W9 (f9 t kind) (yN v.pr)) (by omega)
   have sz:=a3r (x:=W9 (f9 t kind) (yN v.pr))
   have e:decide (W9 (f9 t kind) (yN v.pr)=0)=decide (sgR (W9 (f9 t kind) (yN v.pr))=0):=by rw [decide_eq_decide];exact sz.symm
   rw [e]
   generalize sgR (W9 (f9 t kind) (yN v.pr))=U at sg
   clear sz e
   cases I2<;>
   ·(refine a8 a7 Tryz.func31 rfl (by decide) ?_;(conv=>whnf);repeat ((first|refine b0x ?_|refine zy ?_);conv=>whnf))
    repeat' first|(refine zd ?_ ?_<;>intro h<;>first|exact zc h|(exfalso;omega)|conv=>whnf)|((first|refine zz ?_|refine qp sy ?_|refine qp go ?_|refine qp i2 ?_|refine qp op ?_|refine qp lo ?_|refine qp sg ?_|refine qp 5 ?_|refine qp 8 ?_|refine bl0 [5] ?_|refine bl0 [8] ?_|refine zy ?_);conv=>whnf)
    all_goals first
     |(exfalso;omega)
     |(exfalso;contradiction)
     |(refine d8 ?_
       first
        |(rw [show decide (v.w.length=0)=true from decide_eq_true (by omega)];first|rfl|(rw [show decide (U=0)=true from decide_eq_true (by omega)];rfl)|(rw [show decide (U=0)=false from decide_eq_false (by omega)];rfl))
        |(rw [show decide (v.w.length=0)=false from decide_eq_false (by omega)];rfl))
 rw [if_neg s0]
 by_cases s1:v.state=1
 ·rw [if_pos s1]
  generalize a2C (f9 t kind) g v.w true=I1 at i1
  generalize a2C (f9 t kind) g v.wo false=I2 at i2
  cases I1<;>cases I2<;>
  ·(refine a8 a7 Tryz.func31 rfl (by decide) ?_;(conv=>whnf);repeat ((first|refine b0x ?_|refine zy ?_);conv=>whnf))
   repeat' first|(refine zd ?_ ?_<;>intro h<;>first|exact zc h|(exfalso;omega)|conv=>whnf)|((first|refine zz ?_|refine qp sy ?_|refine qp go ?_|refine qp i1 ?_|refine qp i2 ?_|refine qp 5 ?_|refine bl0 [5] ?_|refine zy ?_);conv=>whnf)
   all_goals first
    |(exfalso;omega)
    |(exfalso;contradiction)
    |(have hd:decide (v.pr.length=0)=true:=decide_eq_true (by omega)
      refine d8 ?_;rw [hd];rfl)
    |(have hd:decide (v.pr.length=0)=false:=decide_eq_false (by omega)
      refine d8 ?_;rw [hd];rfl)
 ·rw [if_neg s1]
  (refine a8 a7 Tryz.func31 rfl (by decide) ?_;(conv=>whnf);repeat ((first|refine b0x ?_|refine zy ?_);conv=>whnf))
  repeat' first|(refine zd ?_ ?_<;>intro h<;>first|exact zc h|(exfalso;omega)|conv=>whnf)|((first|refine zz ?_|refine qp sy ?_|refine qp go ?_|refine qp 5 ?_|refine bl0 [5] ?_|refine zy ?_);conv=>whnf)
  all_goals first
   |(exfalso;omega)
   |(exfalso;contradiction)
   |exact d8 rfl
end
section
open Go.RowKit
theorem a13 {s:i8} {g:List (Int × Rat)} (z:List Rat):∀l:List (Int × Rat),k7 (w8 l) z=-(k7 l z):=by
 intro l
 have key:∀k,k≤l.length→k7 ((w8 l).take k) z=-(k7 (l.take k) z):=by
  intro k
  induction k with
  |zero=>intro _;rw [List.take_zero,List.take_zero];show (0:Rat)=-0;grind
  |succ k ih=>
   intro hk
   have ih:=ih (by omega)
   have ht:l[k]? =some l[k]:=lg0 (by omega)
   rw [show (w8 l).take (k+1)=_ from a2R l _ ht,L4,List.take_succ_eq_append_getElem (show k<l.length by omega),L4,show (a0f l ((-1:Int):Rat)).take k=(w8 l).take k from rfl,ih]
   have e1:((-1:Int):Rat)=-1:=rfl
   rw [e1];simp only;grind
 have:=key l.length (Nat.le_refl _)
 rwa [lg4 (by rw [a2c];exact Nat.le_refl _),lg4 (Nat.le_refl _)] at this
structure VdP (s:i8) (g:List (Int × Rat)):Prop where
 r:j8 s=true
 p:∀t ∈ g,0≤t.2
 z:I6 s []=.best
 g:j1 (-1) ((s.n.toNat:Nat):Int) g=true
theorem VdP.og {s:i8} {g:List (Int × Rat)} (h:VdP s g):j1 (-1) ((s.n.toNat:Nat):Int) (w8 g)=true:=a41 h.g
theorem VdP.pos {s:i8} {g:List (Int × Rat)} (h:VdP s g) {z:List Rat} (hz:j4 s z=true):0≤k7 g z:=a5m (Y3 hz) g h.p
theorem VdP.least {s:i8} {g:List (Int × Rat)} (h:VdP s g):j4 s (j2 s g)=true∧∀z,j4 s z=true→k7 g (j2 s g)≤k7 g z:=a0E h.r h.g (a6v h.r h.g h.p h.z)
theorem VdP.has {s:i8} {g:List (Int × Rat)} (h:VdP s g):j4 s (j2 s [])=true:=(a0E h.r rfl h.z).1
theorem b3p {s:i8} {g:List (Int × Rat)} (c:Nat):(zOf s.n.toNat fun j=>G0 (e6 s).length s.n.toNat (m9 s []) 1 (fun _=>0) j+G0 (e6 s).length s.n.toNat (m9 s g) 0 (fun q=>if q=c then 1 else 0) j)=a7z (j2 s []) (a61 s g c):=by
 refine List.ext_getElem? fun j=>?_
 unfold a7z j2 a61 zOf
 simp only [List.getElem?_zipWith,List.getElem?_map]
 by_cases hj:j<s.n.toNat
 ·simp [hj]
 ·simp [hj]
theorem VdP.ray {s:i8} {g:List (Int × Rat)} (h:VdP s g) {c:Nat} (hc:I6 s (w8 g)=.col c):j4 s (a7z (j2 s []) (a61 s (w8 g) c))=true∧0<k7 g (a7z (j2 s []) (a61 s (w8 g) c)):=by
 obtain ⟨h1,h2⟩:=ak0 h.r h.og hc
 refine ⟨aU4 h.has h1,?_⟩
 have h3:=T8 h.has
 have hn:=ah3 h.r
 rw [ad6 (n:=s.n.toNat) (by omega) h1.len h.g]
 rw [a13 (s:=s) (g:=g)] at h2
 have:=h.pos h.has
 grind
theorem aA4 {s:i8} {Y:List Rat} (h:ay7 s (yN Y)) (hl:Y.length=s.rows.length):a2F s Y=true:=by
 unfold a2F
 rw [decide_eq_true hl,Bool.true_and,List.all_eq_true]
 intro i hi
 rw [List.mem_range] at hi
 have hx:s.rows[i]? =some s.rows[i]:=lg0 hi
 obtain ⟨h1,h2⟩:=h i _ hx
 unfold sgB
 rw [T4 hx]
 simp only [Bool.not_eq_true',Bool.or_eq_false_iff,Bool.and_eq_false_iff,decide_eq_false_iff_not]
 refine ⟨?_,?_⟩
 ·by_cases h:s.rows[i].kind=0
  ·exact .inr (Rat.not_lt.2 (h1 h))
  ·exact .inl h
 ·by_cases h:s.rows[i].kind=1
  ·exact .inr (Rat.not_lt.2 (h2 h))
  ·exact .inl h
theorem b2C {s:i8} {g:List (Int × Rat)} {Y:List Rat} {y:Nat→Rat} {v:Rat} (hr:j8 s=true) (hg:j1 (-1) ((s.n.toNat:Nat):Int) g=true) (h:b4S s (y6 g) y v) (hl:Y.length=s.rows.length) (hY:∀i,i<s.rows.length→yN Y i=y i):a4S s g Y=true∧W9 s (yN Y)=v:=by
 have hn:=ah3 hr
 have e1:∀l,Q8 s (yN Y) l=Q8 s y l:=fun l=>g4 fun i hi=>by rw [hY i hi]
 have e2:W9 s (yN Y)=W9 s y:=g4 fun i hi=>by rw [hY i hi]
 refine ⟨?_,by rw [e2,h.val]⟩
 unfold a4S
 rw [aA4 (fun i w hw=>by rw [hY i (lg1 hw).1];exact h.sign i w hw) hl,←hn,hg,Bool.true_and,Bool.true_and,List.all_eq_true]
 intro l hl
 rw [List.mem_range] at hl
 have hl:l<s.n.toNat:=by omega
 rw [e1]
 exact decide_eq_true (h.mix l hl)
theorem aJ8 {n:Nat} {y:Nat→Rat} {i:Nat} (h:i<n):yN (zOf n y) i=y i:=a5o h
theorem a3N {n:Nat} {y:Nat→Rat} {x:Rat} {i:Nat}:yN (zOf n y++[x]) i=if i<n then y i else if i=n then x else 0:=by
 unfold yN
 rw [lg3]
 by_cases h:i<n
 ·rw [if_pos h,List.getElem?_append_left (by rw [H8];exact h)]
  simp [zOf,h]
 ·rw [if_neg h,List.getElem?_append_right (by rw [H8];omega),H8]
  by_cases h2:i=n
  ·subst h2;simp
  ·rw [if_neg h2,List.getElem?_eq_none (by simp;omega)];rfl
theorem a1j {s:i8} {g:List (Int × Rat)} {i:Nat}:E6 (y7 s g) i=if i<s.rows.length then E6 s i else if i=s.rows.length then ⟨g,2,((0:Int):Rat)⟩ else ⟨[],2,0⟩:=by
 unfold E6
 rw [lg3,lg3]
 show ((s.rows++[_])[i]?).getD _=_
 by_cases h:i<s.rows.length
 ·rw [if_pos h,List.getElem?_append_left h]
 ·rw [if_neg h,List.getElem?_append_right (by omega)]
  by_cases h2:i=s.rows.length
  ·subst h2;simp
  ·rw [if_neg h2,List.getElem?_eq_none (by simp;omega)];rfl
theorem af6 {s:i8} {g:List (Int × Rat)} {y:Nat→Rat} (f:B2→Rat):g7 (fun i=>yN (zOf s.rows.length y++[((-1:Int):Rat)]) i*f (E6 (y7 s g) i)) (y7 s g).rows.length=g7 (fun i=>y i*f (E6 s i)) s.rows.length+-(f ⟨g,2,((0:Int):Rat)⟩):=by
 have hl:(y7 s g).rows.length=s.rows.length+1:=by simp [y7]
 rw [hl]
 show g7 _ s.rows.length+yN (zOf s.rows.length y++[((-1:Int):Rat)]) s.rows.length*f (E6 (y7 s g) s.rows.length)=_
 rw [g4 (g:=fun i=>y i*f (E6 s i)) fun i hi=>by rw [a3N,if_pos hi,a1j,if_pos hi]]
 rw [a3N,if_neg (by omega),if_pos rfl,a1j,if_neg (by omega),if_pos rfl]
 have e1:((-1:Int):Rat)=-1:=rfl
 rw [e1];grind
theorem aV3 {s:i8} {g:List (Int × Rat)} {y:Nat→Rat} {v:Rat} (hr:j8 s=true) (h:b4S s (y6 g) y v) (hv:0<v):aI4 (y7 s g) (zOf s.rows.length y++[((-1:Int):Rat)])=true:=by
 have hl:(y7 s g).rows.length=s.rows.length+1:=by simp [y7]
 unfold aI4 a4S
 have m0:W9 (y7 s g) (yN (zOf s.rows.length y++[((-1:Int):Rat)]))=v:=by
  unfold W9
  rw [af6 (f:=B2.value),←h.val]
  show W9 s y+-((0:Int):Rat)=_
  have e1:((0:Int):Rat)=0:=rfl
  rw [e1];grind
 rw [m0,decide_eq_true hv,Bool.and_true,Bool.and_eq_true,Bool.and_eq_true]
 refine ⟨⟨aA4 (fun i w hw=>?_) (by rw [hl];simp [H8]),rfl⟩,?_⟩
 ·rw [a3N]
  have hi:=(lg1 hw).1
  rw [hl] at hi
  by_cases h2:i<s.rows.length
  ·rw [if_pos h2]
   have:(y7 s g).rows[i]? =s.rows[i]?:=List.getElem?_append_left h2
   rw [this] at hw
   exact h.sign i w hw
  ·have hi:i=s.rows.length:=by omega
   subst hi
   have:(y7 s g).rows[s.rows.length]? =some ⟨g,2,((0:Int):Rat)⟩:=by show (s.rows++[_])[s.rows.length]? =_;simp
   rw [this] at hw
   injection hw with hw
   subst hw
   exact ⟨fun (h:(2:Int)=0)=>by omega,fun (h:(2:Int)=1)=>by omega⟩
 ·rw [List.all_eq_true]
  intro l hl
  rw [List.mem_range] at hl
  refine decide_eq_true ?_
  unfold Q8
  rw [af6 (f:=fun w=>y6 w.terms l)]
  have:=h.mix l hl
  have e0:y6 ([]:List (Int × Rat)) l=0:=rfl
  show Q8 s y l+-(y6 g l)≤_
  rw [e0]
  grind
theorem a7Z {s:i8} {g:List (Int × Rat)} {x:List Rat} {is:Bool} (h:j4 s x=true) (h2:0<k7 g x↔is=true):a2C s g x is=true:=by
 unfold a2C
 rw [h,Bool.true_and,beq_iff_eq,Bool.eq_iff_iff,decide_eq_true_iff]
 exact h2
theorem aD4 {s:i8} {g:List (Int × Rat)} (h:VdP s g) (hh:Int):aC7 s g (x3 s g hh)=true:=by
 obtain ⟨h1,h2⟩:=h.least
 have hgl:j1 (-1) ((s.n.toNat:Nat):Int) (w8 g)=true:=h.og
 unfold x3
 by_cases hp:0<k7 g (j2 s g)
 ·rw [if_pos hp]
  show (decide (([]:List Rat).length=0) && a2C s g (j2 s g) true && aI4 _ _)=true
  rw [show (b24 s g hh).pr=zOf s.rows.length (A0 s (m9 s g))++[((-1:Int):Rat)] from rfl,a7Z h1 (by simp [hp]),aV3 h.r (aw8 h.r h.g (a6v h.r h.g h.p h.z)) hp]
  rfl
 ·rw [if_neg hp]
  have so:a2C s g (j2 s g) false=true:=a7Z h1 (by simp [hp])
  rcases ak8 (g:=w8 g) h.r h.z with ho|⟨c,ho⟩
  ·rw [ho]
   simp only
   obtain ⟨p1,p2⟩:=a0E h.r h.og ho
   by_cases hn:k7 (w8 g) (j2 s (w8 g))<0
   ·rw [if_pos hn]
    rw [a13 (s:=s) (g:=g)] at hn
    show (decide (([]:List Rat).length=0) && a2C s g (j2 s (w8 g)) true && a2C s g (j2 s g) false)=true
    rw [so,a7Z p1 (by have:0<k7 g (j2 s (w8 g)):=by grind
                      simp [this])]
    rfl
   ·rw [if_neg hn]
    obtain ⟨b1,b2⟩:=b2C (Y:=zOf s.rows.length (A0 s (m9 s (w8 g)))) h.r h.og (aw8 h.r h.og ho) H8 (fun i hi=>aJ8 hi)
    have hz:k7 (w8 g) (j2 s (w8 g))=0:=by
     rw [a13 (s:=s) (g:=g)] at hn ⊢
     have:=h.pos p1
     grind
    show (decide (([]:List Rat).length=0) && a2C s g (j2 s g) false && (a4S s (w8 g) _ && decide (W9 s _=0)))=true
    rw [show (a7B s g hh).pr=zOf s.rows.length (A0 s (m9 s (w8 g))) from rfl,so,b1,b2,hz]
    rfl
  ·rw [ho]
   simp only
   obtain ⟨r1,r2⟩:=h.ray ho
   show (decide (([]:List Rat).length=0) && a2C s g (a4s s g c hh).w true && a2C s g (j2 s g) false)=true
   rw [show (a4s s g c hh).w=a7z (j2 s []) (a61 s (w8 g) c) from b3p c,so,a7Z r1 (by simp [r2])]
   rfl
theorem T2 {s:i8} {g:List (Int × Rat)} (h:VdP s g) (hh:Int):
 ((x3 s g hh).state=2∧(∀ z,j4 s z=true→0<k7 g z))∨((x3 s g hh).state=0∧(∀ z,j4 s z=true→k7 g z=0))∨((x3 s g hh).state=1∧(∃ z,j4 s z=true∧0<k7 g z)∧∃z,j4 s z=true∧k7 g z=0):=by
 obtain ⟨h1,h2⟩:=h.least
 unfold x3
 by_cases hp:0<k7 g (j2 s g)
 ·rw [if_pos hp]
  exact .inl ⟨rfl,fun z hz=>by have:=h2 z hz;grind⟩
 ·rw [if_neg hp]
  have hz0:k7 g (j2 s g)=0:=by have:=h.pos h1;grind
  rcases ak8 (g:=w8 g) h.r h.z with ho|⟨c,ho⟩
  ·rw [ho]
   simp only
   obtain ⟨p1,p2⟩:=a0E h.r h.og ho
   by_cases hn:k7 (w8 g) (j2 s (w8 g))<0
   ·rw [if_pos hn]
    rw [a13 (s:=s) (g:=g)] at hn
    exact .inr (.inr ⟨rfl,⟨_,p1,by grind⟩,⟨_,h1,hz0⟩⟩)
   ·rw [if_neg hn]
    refine .inr (.inl ⟨rfl,fun z hz=>?_⟩)
    have:=p2 z hz
    rw [a13 (s:=s) (g:=g),a13 (s:=s) (g:=g)] at this
    rw [a13 (s:=s) (g:=g)] at hn
    have:=h.pos p1
    have:=h.pos hz
    grind
  ·rw [ho]
   simp only
   obtain ⟨r1,r2⟩:=h.ray ho
   exact .inr (.inr ⟨rfl,⟨_,r1,r2⟩,⟨_,h1,hz0⟩⟩)
theorem b40 {s:i8} {g:List (Int × Rat)} (hh:Int):(x3 s g hh).hh=hh:=by
 unfold x3
 split
 ·rfl
 ·split
  ·rfl
  ·split<;>rfl
end
section
open Go.RowKit
def a71 (D:Fd):Fd:={ D with V:=fun _=>0 }
theorem a1G {m n:Nat} {D:Fd} {y:Nat→Rat} {c:Rat}:Ids m n (a71 D) y c↔Ids m n D y 0:=by
 constructor
 ·intro h i hi
  have h1:y (D.O i)=c*0 - g7 (fun j=>D.A i j*y (D.F j)) n:=h i hi
  show y (D.O i)=0*D.V i - g7 (fun j=>D.A i j*y (D.F j)) n
  rw [h1];grind
 ·intro h i hi
  have h1:y (D.O i)=0*D.V i - g7 (fun j=>D.A i j*y (D.F j)) n:=h i hi
  show y (D.O i)=c*0 - g7 (fun j=>D.A i j*y (D.F j)) n
  rw [h1];grind
theorem a95 {m n:Nat} {D:Fd} (h:Q5 m n D):Q5 m n (a71 D):=⟨h.oi,h.fi,h.of,h.all,h.ob,h.fb⟩
theorem a7h {s:i8} {g:List (Int × Rat)} {B:Nat} (hI:∀w ∈ s.rows,a3z B w):a4v (e6 s).length s.n.toNat 1 (a71 (g8 s g)) where
 o:=fun i _=>rfl
 f:=fun j _=>rfl
 w:=fun i hi=>by
  obtain ⟨f,hf⟩:∃f,(e6 s)[i]? =some f:=⟨_,lg0 hi⟩
  obtain ⟨x,hx,_⟩:=X9.1 (lg2 hf)
  obtain ⟨h1,h2⟩:=hI x (lg2 hx)
  have hfd:(e6 s).getD i (0,false)=f:=by rw [lg3,hf];rfl
  have eA:∀j,(g8 s g).A i j=O5 f.2 (y6 x.terms j):=fun j=>by show a1l s ((e6 s).getD i (0,false)) j=_;rw [hfd];unfold a1l;rw [hx]
  have hc:∀j,∃c:Int,(g8 s g).A i j=((c:Int):Rat)∧bl c≤1:=fun j=>by
   obtain ⟨c,hc,hb⟩:=a0X h1 x.terms.length j
   obtain ⟨c',hc',hb'⟩:=aS5 (b:=f.2) (x:=y6 x.terms j) hc
   exact ⟨c',by rw [eA,hc'],by omega⟩
  refine ⟨1,0,fun j=>Classical.choose (hc j),by decide,s6 (by decide) (by decide),s6 (by decide) (by decide),fun j hj=>(Classical.choose_spec (hc j)).2,?_,fun j hj=>?_⟩
  ·have e0:((0:Int):Rat)=0:=rfl
   have e1:((1:Int):Rat)=1:=rfl
   show ((1:Int):Rat)*0=((0:Int):Rat)
   rw [e0,e1];grind
  ·show ((1:Int):Rat)*(g8 s g).A i j=((Classical.choose (hc j):Int):Rat)
   have hs:=(Classical.choose_spec (hc j)).1
   generalize Classical.choose (hc j)=x at hs
   rw [hs]
   have h1:((1:Int):Rat)=1:=rfl
   rw [h1];grind
theorem b3v {s:i8} {g:List (Int × Rat)} {B:Nat} (hI:∀w ∈ s.rows,a3z B w) {i j:Nat} (hi:i<(e6 s).length) (hj:j<s.n.toNat):rl ((m9 s g).A i j)≤2 ^ s.n.toNat*3:=by
 have inv:=J2 (s:=s) (g:=g)
 exact aS0 (D:=a71 (m9 s g)) (a7h (g:=g) hI) (by decide) (a95 inv.p) (fun y c=>by rw [a1G,a1G];exact inv.i y 0) hi hj
theorem aM6 {s:i8} {g:List (Int × Rat)} {B:Nat} (hI:∀w ∈ s.rows,a3z B w) (hg:F9 g) {j:Nat} (hj:j<s.n.toNat):rl ((m9 s g).G j)≤2 ^ s.n.toNat*3:=by
 have inv:=J2 (s:=s) (g:=g)
 obtain ⟨z,hz⟩:=inv.g
 have hc:∀j,∃c:Int,y6 g j=((c:Int):Rat)∧bl c≤1:=fun j=>a0X hg g.length j
 have hz0:Y6 s.n.toNat (a71 (m9 s g)) (fun j=>-(y6 g j)) (e6 s).length 0:=fun y c hy=>by
  have:=hz y 0 (a1G.1 hy)
  rw [this]
  show 0*z+_=c*0+_
  have e:g7 (fun j=>(a71 (m9 s g)).G j*y ((a71 (m9 s g)).F j)) s.n.toNat=g7 (fun j=>(m9 s g).G j*y ((m9 s g).F j)) s.n.toNat:=rfl
  rw [e];grind
 refine aT4 (D:=a71 (m9 s g)) (a7h (g:=g) hI) (by decide) (a95 inv.p) (fun y c=>by rw [a1G,a1G];exact inv.i y 0) hz0 (q:=1) (b:=fun l=>-(Classical.choose (hc l))) (by decide) (s6 (by decide) (by decide)) (fun l hl=>?_) (fun l hl=>?_) hj
 ·have:=(Classical.choose_spec (hc l)).2
  show bl (-(Classical.choose (hc l)))≤_
  rw [a22];omega
 ·have hs:=(Classical.choose_spec (hc l)).1
  show ((1:Int):Rat)*-(y6 g l)=((-(Classical.choose (hc l)):Int):Rat)
  generalize Classical.choose (hc l)=x at hs ⊢
  rw [hs]
  have e:((-x:Int):Rat)=-((x:Int):Rat):=by push_cast;rfl
  rw [e]
  have h1:((1:Int):Rat)=1:=rfl
  rw [h1];grind
theorem aD9 {f:Nat→Rat} {C:Nat}:∀n:Nat,(∀ j,j<n→rl (f j)≤C)→rl (g7 f n)≤n*(C+1)+1
 |0,_=>by have:=rl0;show rl 0≤_;omega
 |n+1,h=>by
  have ih:=aD9 n fun j hj=>h j (by omega)
  have h1:=h n (by omega)
  have h2:=Y0 (g7 f n) (f n)
  have e:(n+1)*(C+1)=n*(C+1)+(C+1):=by rw [Nat.add_mul,Nat.one_mul]
  show rl (g7 f n+f n)≤_
  omega
theorem b3D {s:i8} {g:List (Int × Rat)} {B c:Nat} (hI:∀w ∈ s.rows,a3z B w) (hc:c<s.n.toNat) {j:Nat} (hj:j<s.n.toNat):rl (G0 (e6 s).length s.n.toNat (m9 s g) 0 (fun q=>if q=c then 1 else 0) j)≤2 ^ s.n.toNat*3:=by
 have hp:Q5 (e6 s).length s.n.toNat (m9 s g):=J2.p
 have h2:1≤2 ^ s.n.toNat:=Nat.one_le_two_pow
 rw [← aj5 hp hc hj]
 have key:∀k,k≤(e6 s).length→rl (ptK s.n.toNat (m9 s g).O (fun i=>-((m9 s g).A i c)) (fun j=>if (m9 s g).F c<s.n.toNat∧j=(m9 s g).F c then 1 else 0) k j)≤2 ^ s.n.toNat*3:=by
  intro k
  induction k with
  |zero=>
   intro _
   have:=rl0;have:=rl1
   show rl (if _ then (1:Rat) else 0)≤_
   split<;>omega
  |succ k ih=>
   intro hk
   rw [N1]
   simp only
   split
   ·rw [O1];exact b3v hI (by omega) hc
   ·exact ih (by omega)
 exact key _ (Nat.le_refl _)
theorem aY8 {k a:Nat} (v:Rat) (c:Nat→Rat):g7 (fun i=>(if a=i then v else 0)*c i) k=if a<k then v*c a else 0:=by
 by_cases h:a<k
 ·rw [if_pos h,a37 h]
 ·rw [if_neg h]
  exact w6 fun i hi=>by rw [if_neg (by omega)];grind
theorem b1m {s:i8} {w k:Nat} (p:Rat) (c:Nat→Rat) {P C:Nat} (hp:rl p≤P) (hc:∀i,rl (c i)≤C):rl (g7 (fun i=>chg s w p i*c i) k)≤P+C+1:=by
 by_cases h:s.n.toNat≤w
 ·rw [g4 (g:=fun i=>(if (C3 s (w - s.n.toNat)).1=i then -(O5 (C3 s (w - s.n.toNat)).2 p) else 0)*c i) fun i hi=>by
   unfold chg
   by_cases h2:(C3 s (w - s.n.toNat)).1=i
   ·rw [if_pos ⟨h,h2⟩,if_pos h2]
   ·rw [if_neg (fun e=>h2 e.2),if_neg h2]]
  rw [aY8]
  split
  ·have h1:=a4O (-(O5 (C3 s (w - s.n.toNat)).2 p)) (c (C3 s (w - s.n.toNat)).1)
   have h2:=hc (C3 s (w - s.n.toNat)).1
   have h3:rl (-(O5 (C3 s (w - s.n.toNat)).2 p))≤P:=by
    rw [O1]
    cases (C3 s (w - s.n.toNat)).2 with
    |false=>exact hp
    |true=>show rl (-p)≤P;rw [O1];exact hp
   omega
  ·have:=rl0;omega
 ·rw [w6 fun i hi=>by unfold chg;rw [if_neg (fun e=>h e.1)];grind]
  have:=rl0;omega
theorem a9z {s:i8} {g:List (Int × Rat)} {B C:Nat} (hI:∀w ∈ s.rows,a3z B w) (hg:F9 g) (c:Nat→Rat) (hc:∀i,rl (c i)≤C) (k:Nat):
 rl (g7 (fun i=>A0 s (m9 s g) i*c i) k)≤s.n.toNat*(2 ^ s.n.toNat*3+C+2)+1:=by
 have e:g7 (fun i=>A0 s (m9 s g) i*c i) k=g7 (fun j=>g7 (fun i=>chg s ((m9 s g).F j) (-((m9 s g).G j)) i*c i) k) s.n.toNat:=a8M (s:=s)
 rw [e]
 exact aD9 _ fun j hj=>b1m _ c (by rw [O1];exact aM6 hI hg hj) hc
theorem b0Q {s:i8} {g:List (Int × Rat)} {B:Nat} (hI:∀w ∈ s.rows,a3z B w) (hg:F9 g) (i:Nat):rl (A0 s (m9 s g) i)≤s.n.toNat*(2 ^ s.n.toNat*3+1)+1:=by
 refine aD9 _ fun j hj=>?_
 have h:=aM6 (g:=g) hI hg hj
 unfold chg
 split
 ·rw [O1]
  cases (C3 s ((m9 s g).F j - s.n.toNat)).2 with
  |false=>show rl (-((m9 s g).G j))≤_;rw [O1];exact h
  |true=>show rl (- -((m9 s g).G j))≤_;rw [O1,O1];exact h
 ·have:=rl0
  have h2:1≤2 ^ s.n.toNat:=Nat.one_le_two_pow
  omega
theorem at9 {l:List (Int × Rat)} (h:F9 l) (v:Nat):rl (y6 l v)≤1:=by
 obtain ⟨c,hc,hb⟩:=a0X h l.length v
 have e:y6 l v=((c:Int):Rat):=hc
 rw [e,Q7]
 have:=s6 (x:=1) (by decide) (by decide)
 omega
theorem aQ8 {s:i8} {B:Nat} (hI:∀w ∈ s.rows,a3z B w) (hB:1≤B) (i:Nat):F9 (E6 s i).terms∧rl (E6 s i).value≤B:=by
 by_cases h:i<s.rows.length
 ·have hx:s.rows[i]? =some s.rows[i]:=lg0 h
  rw [T4 hx]
  exact hI _ (List.getElem_mem _)
 ·have e:E6 s i=⟨[],2,0⟩:=by unfold E6;rw [lg3,List.getElem?_eq_none (by omega)];rfl
  rw [e]
  exact ⟨fun (t:Int × Rat) (ht:t ∈ [])=>by simp at ht,by have:=rl0;show rl 0≤B;omega⟩
theorem b0F {s:i8} {g:List (Int × Rat)} (c:Nat→Rat) (k:Nat):g7 (fun i=>yN (zOf s.rows.length (A0 s (m9 s g))) i*c i) k=g7 (fun i=>A0 s (m9 s g) i*(if i<s.rows.length then c i else 0)) k:=g4 fun i hi=>by
 by_cases h:i<s.rows.length
 ·rw [aJ8 h,if_pos h]
 ·have:yN (zOf s.rows.length (A0 s (m9 s g))) i=0:=by unfold yN;rw [lg3,List.getElem?_eq_none (by rw [H8];omega)];rfl
  rw [this,if_neg h];grind
theorem a86:∀n,n<9→n*(2 ^ n*3+11+2)+1≤40000∧n*(2 ^ n*3+1)+1≤40000∧n*(2 ^ n*3+1+2)+1≤40000:=by decide
theorem b1x {s:i8} {g:List (Int × Rat)} (hI:∀w ∈ s.rows,a3z 11 w) (hg:F9 g) (hn:s.n.toNat≤8) (l k:Nat):rl (a4b s (yN (zOf s.rows.length (A0 s (m9 s g)))) l k)≤40000:=by
 obtain ⟨p1,p2,p3⟩:=a86 s.n.toNat (by omega)
 unfold a4b
 rw [b0F]
 have:=a9z hI hg (C:=1) (fun i=>if i<s.rows.length then y6 (E6 s i).terms l else 0) (fun i=>by
  split
  ·exact at9 (aQ8 hI (by decide) i).1 l
  ·exact rl0) k
 omega
theorem b0G {s:i8} {g:List (Int × Rat)} (hI:∀w ∈ s.rows,a3z 11 w) (hg:F9 g) (hn:s.n.toNat≤8) (k:Nat):rl (a4p s (yN (zOf s.rows.length (A0 s (m9 s g)))) k)≤40000:=by
 obtain ⟨p1,p2,p3⟩:=a86 s.n.toNat (by omega)
 unfold a4p
 rw [b0F]
 have:=a9z hI hg (C:=11) (fun i=>if i<s.rows.length then (E6 s i).value else 0) (fun i=>by
  split
  ·exact (aQ8 hI (by decide) i).2
  ·have:=rl0;omega) k
 omega
theorem b2a {s:i8} {g:List (Int × Rat)} (hI:∀w ∈ s.rows,a3z 11 w) (hg:F9 g) (hn:s.n.toNat≤8):∀v ∈ zOf s.rows.length (A0 s (m9 s g)),rl v≤40000:=by
 intro v hv
 obtain ⟨p1,p2,p3⟩:=a86 s.n.toNat (by omega)
 obtain ⟨j,hj,rfl⟩:=a5d hv
 have:=b0Q hI hg j
 omega
theorem aV4 {s:i8} {g:List (Int × Rat)} (hI:∀w ∈ s.rows,a3z 11 w) (hg:F9 g) (hn:s.n.toNat≤8) (hm:s.rows.length≤1000000):ai7 s (zOf s.rows.length (A0 s (m9 s g))):=
 ⟨b2a hI hg hn,fun l k=>Nat.le_trans (b1x hI hg hn l k) (by decide),fun k=>Nat.le_trans (b0G hI hg hn k) (by decide),H8,hm⟩
theorem b4f:rl ((-1:Int):Rat)≤1:=by rw [Q7];exact s6 (x:=-1) (by decide) (by decide)
theorem aI9 {s:i8} {g:List (Int × Rat)} (hI:∀w ∈ s.rows,a3z 11 w) (hg:F9 g) (hn:s.n.toNat≤8) (hm:s.rows.length≤100000):ai7 (y7 s g) (zOf s.rows.length (A0 s (m9 s g))++[((-1:Int):Rat)]):=by
 have hl:(y7 s g).rows.length=s.rows.length+1:=by simp [y7]
 have step:∀(f:B2→Rat) (C:Nat),(∀ k,rl (g7 (fun i=>yN (zOf s.rows.length (A0 s (m9 s g))) i*f (E6 s i)) k)≤C)→rl (f ⟨g,2,((0:Int):Rat)⟩)≤1→∀k,rl (g7 (fun i=>yN (zOf s.rows.length (A0 s (m9 s g))++[((-1:Int):Rat)]) i*f (E6 (y7 s g) i)) k)≤C+3:=by
  intro f C hC h1 k
  have lo:∀k,k≤s.rows.length→g7 (fun i=>yN (zOf s.rows.length (A0 s (m9 s g))++[((-1:Int):Rat)]) i*f (E6 (y7 s g) i)) k=g7 (fun i=>yN (zOf s.rows.length (A0 s (m9 s g))) i*f (E6 s i)) k:=fun k hk=>g4 fun i hi=>by
   rw [a3N,if_pos (by omega),a1j,if_pos (by omega),aJ8 (by omega)]
  induction k with
  |zero=>rw [lo 0 (by omega)];have:=hC 0;omega
  |succ k ih=>
   by_cases hk:k<s.rows.length
   ·rw [lo (k+1) (by omega)];have:=hC (k+1);omega
   ·by_cases he:k=s.rows.length
    ·subst he
     show rl (g7 _ s.rows.length+yN (zOf s.rows.length (A0 s (m9 s g))++[((-1:Int):Rat)]) s.rows.length*f (E6 (y7 s g) s.rows.length))≤_
     rw [lo _ (Nat.le_refl _),a3N,if_neg (by omega),if_pos rfl,a1j,if_neg (by omega),if_pos rfl]
     have a1:=hC s.rows.length
     have a2:=a4O ((-1:Int):Rat) (f ⟨g,2,((0:Int):Rat)⟩)
     have a3:=b4f
     have a4:=Y0 (g7 (fun i=>yN (zOf s.rows.length (A0 s (m9 s g))) i*f (E6 s i)) s.rows.length) (((-1:Int):Rat)*f ⟨g,2,((0:Int):Rat)⟩)
     omega
    ·have e:yN (zOf s.rows.length (A0 s (m9 s g))++[((-1:Int):Rat)]) k=0:=by rw [a3N,if_neg hk,if_neg he]
     show rl (g7 _ k+yN (zOf s.rows.length (A0 s (m9 s g))++[((-1:Int):Rat)]) k*f (E6 (y7 s g) k))≤_
     rw [e]
     have e2:∀x y:Rat,x+0*y=x:=fun x y=>by grind
     rw [e2]
     exact ih
 refine ⟨fun v hv=>?_,fun l k=>?_,fun k=>?_,by rw [hl];simp [H8],by omega⟩
 ·rcases List.mem_append.1 hv with h1|h1
  ·exact b2a hI hg hn v h1
  ·have h1:v=((-1:Int):Rat):=List.mem_singleton.1 h1
   subst h1;have:=b4f;omega
 ·exact Nat.le_trans (step (fun w=>y6 w.terms l) 40000 (fun k=>b1x hI hg hn l k) (at9 hg l) k) (by decide)
 ·exact Nat.le_trans (step B2.value 40000 (fun k=>b0G hI hg hn k) rl0 k) (by decide)
theorem aF7 {s:i8} {x:List Rat} {B:Nat} (hr:j8 s=true) (hI:∀w ∈ s.rows,a3z 11 w) (hB:B≤40000) (hn:s.n.toNat*(B+4)+1≤50000) (hl:x.length≤1000000) (hx:∀v ∈ x,rl v≤B):PtB s x:=by
 refine ⟨fun v hv=>Nat.le_trans (hx v hv) hB,fun w hw k=>?_,hl⟩
 obtain ⟨i,hi,rfl⟩:=List.getElem_of_mem hw
 have hrt:=(a3R hr (lg0 hi)).1
 have h1:=a2V (a16 (hI _ hw).1) hx k
 have h2:=C8 hrt
 have h3:s.rows[i].terms.length≤s.n.toNat:=by omega
 have h4:=Nat.mul_le_mul_right (B+4) h3
 omega
theorem aN4 {n B:Nat} {g:List (Int × Rat)} {x:List Rat} (hg:j1 (-1) ((n:Nat):Int) g=true) (hw:F9 g) (hn:n*(B+4)+1≤50000) (hx:∀v ∈ x,rl v≤B) (k:Nat):rl (k7 (g.take k) x)≤50000:=by
 have h1:=a2V (a16 hw) hx k
 have h2:=C8 hg
 have h3:g.length≤n:=by omega
 have h4:=Nat.mul_le_mul_right (B+4) h3
 omega
theorem b2U:∀n,n<9→n*(2 ^ n*15+4)+1≤50000∧n*(2 ^ n*15+2 ^ n*3+1+4)+1≤50000∧2 ^ n*15+2 ^ n*3+1≤40000:=by decide
set_option maxHeartbeats 1000000 in
theorem b5q {t:g9} {kind:Int} (ht:m8 t=0) (hm:t.ev.moves.length≤8) {g:List (Int × Rat)} (hg:j1 (-1) (t.ev.moves.length:Nat) g=true) (hw:F9 g) (hz:I6 (f9 t kind) []=.best) (hh:Int):b8J (f9 t kind) g (x3 (f9 t kind) g hh):=by
 have p:=B6 (kind:=kind) ht hm hg hw
 have q:=B6 (kind:=kind) ht hm (a41 hg) (a44 hw)
 have z:=B6 (kind:=kind) ht hm (g:=[]) rfl (fun t ht=>by cases ht)
 obtain ⟨b1,b2,b3⟩:=b2U t.ev.moves.length (by omega)
 have hI:=b4k (kind:=kind) ht
 have hn:(f9 t kind).n.toNat=t.ev.moves.length:=rfl
 have hr:=p.o.r
 have hR:=p.r
 have pb:=a1P p
 have qb:=a1P q
 have zb:=a1P z
 have e0:PtB (f9 t kind) []:=⟨fun v hv=>(by cases hv),fun w hw k=>(by
  have h:=a2V (B:=1) (z:=[]) (a16 (hI w hw).1) (fun v hv=>by cases hv) k
  obtain ⟨i,hi,rfl⟩:=List.getElem_of_mem hw
  have h2:=C8 (a3R hr (lg0 hi)).1
  have h3:(f9 t kind).rows[i].terms.length≤8:=by omega
  have h4:=Nat.mul_le_mul_right (1+4) h3
  omega),by decide⟩
 have g0:∀k,rl (k7 (g.take k) [])≤50000:=fun k=>aN4 (B:=1) hg hw (by omega) (fun v hv=>by cases hv) k
 have ptp:PtB (f9 t kind) (j2 (f9 t kind) g):=aF7 hr hI (B:=2 ^ t.ev.moves.length*15) (by omega) b1 (by unfold j2;rw [H8];omega) pb
 have ptq:PtB (f9 t kind) (j2 (f9 t kind) (w8 g)):=aF7 hr hI (B:=2 ^ t.ev.moves.length*15) (by omega) b1 (by unfold j2;rw [H8];omega) qb
 have gp:=aN4 hg hw b1 pb
 have gq:=aN4 hg hw b1 qb
 have m0:ai7 (f9 t kind) (zOf (f9 t kind).rows.length (A0 (f9 t kind) (m9 (f9 t kind) (w8 g)))):=aV4 hI (a44 hw) (by omega) (by omega)
 have m1:=aI9 hI hw (by omega) (show (f9 t kind).rows.length≤100000 by omega)
 have hl:(y7 (f9 t kind) g).rows.length=(f9 t kind).rows.length+1:=by simp [y7]
 have nilm:∀s':i8,s'.rows.length≤1000000→([]:List Rat).length=s'.rows.length→ai7 s' []:=fun s' h1 h2=>⟨fun v hv=>(by cases hv),fun l k=>(by
  have h2:s'.rows.length=0:=by simpa using h2.symm
  have e:a4b s' (yN []) l k=0:=w6 fun i hi=>by show (0:Rat)*_=0;grind
  rw [e];have:=rl0;omega),fun k=>(by
  have e:a4p s' (yN []) k=0:=w6 fun i hi=>by show (0:Rat)*_=0;grind
  rw [e];have:=rl0;omega),h2,h1⟩
 unfold x3
 split
 ·exact ⟨ptp,e0,gp,g0,m1.y,by show (zOf _ _++_).length≤_;simp [H8];omega,fun _=>m1,fun h=>by
   have:(zOf (f9 t kind).rows.length (A0 (f9 t kind) (m9 (f9 t kind) g))++[((-1:Int):Rat)]).length=(f9 t kind).rows.length:=h
   simp [H8] at this⟩
 ·split
  ·rename_i c hc
   have hcn:c<(f9 t kind).n.toNat:=(a5b hc).1
   have rb:∀v ∈ (a4s (f9 t kind) g c hh).w,rl v≤2 ^ t.ev.moves.length*15+2 ^ t.ev.moves.length*3+1:=fun v hv=>by
    obtain ⟨j,hj,rfl⟩:=a5d hv
    have h1:rl (G0 (e6 (f9 t kind)).length (f9 t kind).n.toNat (m9 (f9 t kind) []) 1 (fun _=>0) j)≤2 ^ t.ev.moves.length*15:=zb _ (List.mem_map.2 ⟨j,List.mem_range.2 hj,rfl⟩)
    have h2:rl (G0 (e6 (f9 t kind)).length (f9 t kind).n.toNat (m9 (f9 t kind) (w8 g)) 0 (fun q=>if q=c then 1 else 0) j)≤2 ^ t.ev.moves.length*3:=b3D hI hcn hj
    have h3:=Y0 (G0 (e6 (f9 t kind)).length (f9 t kind).n.toNat (m9 (f9 t kind) []) 1 (fun _=>0) j) (G0 (e6 (f9 t kind)).length (f9 t kind).n.toNat (m9 (f9 t kind) (w8 g)) 0 (fun q=>if q=c then 1 else 0) j)
    omega
   exact ⟨aF7 hr hI b3 b2 (by show (zOf _ _).length≤_;rw [H8];omega) rb,ptp,aN4 hg hw b2 rb,gp,fun v hv=>(by cases hv),(by show (0:Nat)≤1000000;decide),fun h=>nilm _ (by omega) h,fun h=>nilm _ (by omega) h⟩
  ·split
   ·exact ⟨ptq,ptp,gq,gp,fun v hv=>(by cases hv),(by show (0:Nat)≤1000000;decide),fun h=>nilm _ (by omega) h,fun h=>nilm _ (by omega) h⟩
   ·exact ⟨e0,ptp,g0,gp,m0.y,by show (zOf _ _).length≤_;rw [H8];omega,fun h=>by
     have h:(zOf (f9 t kind).rows.length (A0 (f9 t kind) (m9 (f9 t kind) (w8 g)))).length=(y7 (f9 t kind) g).rows.length:=h
     rw [H8,hl] at h
     omega,fun _=>m0⟩
end
section
open Go.RowKit
def G1 (f:List H9) (c:List B8):g9:=⟨⟨1,2,0,[⟨0,0,0⟩,⟨0,1,0⟩,⟨1,-1,-1⟩,⟨6,-1,-1⟩],[⟨0,0,2,-1,0,false⟩,⟨0,1,2,-1,0,false⟩,⟨0,2,3,-1,0,true⟩],[],[],[]⟩,f,c⟩
abbrev b5I:S:=.c (.t (.sl 0 .nil []))
theorem aX9:b9 Tryz.prog 56 [b5I,b5I] [] (trS (G1 [] [])) []:=by
 (refine a8 a7 Tryz.func56 rfl (by decide) ?_;(conv=>whnf);repeat (refine zy ?_;conv=>whnf))
 repeat' first|(refine zd ?_ ?_<;>intro h<;>first|exact zc h|(exfalso;omega)|conv=>whnf)|((first|refine zz ?_|refine a34.weak ?_|refine zy ?_);conv=>whnf)
 exact k8 ⟨rfl,rfl,rfl,rfl,rfl,rfl,rfl,rfl,rfl,rfl,trivial⟩
theorem aZ1 (f:List H9):b9 Tryz.prog 56 [.c (.t (.sl 3 .full (f.map H9.row))),b5I] [] (trS (G1 f [])) []:=by
 (refine a8 a7 Tryz.func56 rfl (by decide) ?_;(conv=>whnf);repeat (refine zy ?_;conv=>whnf))
 repeat' first|(refine zd ?_ ?_<;>intro h<;>first|exact zc h|(exfalso;omega)|conv=>whnf)|((first|refine zz ?_|refine a34.weak ?_|refine zy ?_);conv=>whnf)
 exact k8 ⟨rfl,rfl,rfl,rfl,rfl,rfl,rfl,rfl,rfl,rfl,trivial⟩
theorem af7 (f:List H9) (c:List B8):b9 Tryz.prog 56 [.c (.t (.sl 3 .full (f.map H9.row))),.c (.t (.sl 2 .full (c.map B8.row)))] [] (trS (G1 f c)) []:=by
 (refine a8 a7 Tryz.func56 rfl (by decide) ?_;(conv=>whnf);repeat (refine zy ?_;conv=>whnf))
 repeat' first|(refine zd ?_ ?_<;>intro h<;>first|exact zc h|(exfalso;omega)|conv=>whnf)|((first|refine zz ?_|refine a34.weak ?_|refine zy ?_);conv=>whnf)
 exact k8 ⟨rfl,rfl,rfl,rfl,rfl,rfl,rfl,rfl,rfl,rfl,trivial⟩
structure ExP (t:g9) (kind:Int) (n:Nat):Prop where
 s:t.Sized
 e:m8 t=0
 k0:0≤kind
 k1:kind<8
 m:t.ev.moves.length≤8
 h:t.ev.hhs=(n:Nat)
 z:I6 (f9 t kind) []=.best
theorem ExP.vd {t:g9} {kind:Int} {n:Nat} (h:ExP t kind n) (hh:Int):VdP (f9 t kind) (p6 t hh):=by
 have p:=B6 (kind:=kind) h.e h.m (g:=[]) rfl (fun t ht=>by cases ht)
 exact ⟨p.o.r,a6Q t hh,h.z,a08 t hh⟩
theorem aR9 {t:g9} {kind:Int} (ht:m8 t=0) (hm:t.ev.moves.length≤8) {z:List Rat} (hz:j4 (f9 t kind) z=true):I6 (f9 t kind) []=.best:=by
 have p:=B6 (kind:=kind) ht hm (g:=[]) rfl (fun t ht=>by cases ht)
 rcases ao4 p.o.r with h|⟨r,h⟩
 ·exact h
 ·rw [a7H h z] at hz;cases hz
theorem b1s {t:g9} {kind:Int} (ht:m8 t=0) (hm:t.ev.moves.length≤8) (hz:∀z,j4 (f9 t kind) z=false):∃r,I6 (f9 t kind) []=.row r:=by
 have p:=B6 (kind:=kind) ht hm (g:=[]) rfl (fun t ht=>by cases ht)
 rcases ao4 p.o.r with h|h
 ·have:=(a0E p.o.r rfl h).1
  rw [hz] at this;cases this
 ·exact h
theorem a79 {t:g9} {kind:Int} {n:Nat} (h:ExP t kind n) (i:Nat) (hi:i<n):b9 Tryz.prog 31 [trS t,a9 .i64 kind,aD8 (x3 (f9 t kind) (p6 t (i:Int)) (i:Int))] [] (f7 true) []:=by
 have p:=B6 (kind:=kind) h.e h.m (g:=[]) rfl (fun t ht=>by cases ht)
 have e:(x3 (f9 t kind) (p6 t (i:Int)) (i:Int)).hh=i:=b40 _
 have hn:=h.h
 have r:=b1W t kind h.s h.e h.k0 h.k1 (x3 (f9 t kind) (p6 t (i:Int)) (i:Int)) (by rw [e];omega) (by rw [e];omega) (by have:=h.m;omega) (by have:=p.r;omega) p.sb p.o.r
  (by rw [e];exact b5q h.e h.m (a08 t _) (a3j t _) h.z _)
 rw [e,aD4 (h.vd _)] at r
 exact r
set_option maxHeartbeats 2000000 in
theorem b0K {t:g9} (h:ExP t 0 2) (a b:Int) (ha:(x3 (f9 t 0) (p6 t ((0:Nat):Int)) ((0:Nat):Int)).state=a) (hb:(x3 (f9 t 0) (p6 t ((1:Nat):Int)) ((1:Nat):Int)).state=b):
 b9 Tryz.prog 55 [trS t,a9 .i64 a,a9 .i64 b] [] (f7 true) []:=by
 have ve:=R4 t 0 h.s h.e h.k0 h.k1 h.m 2 h.h (by decide) h.z
 have c0:=a79 h 0 (by decide)
 have c1:=a79 h 1 (by decide)
 have e:D3 t 0 2=[x3 (f9 t 0) (p6 t ((0:Nat):Int)) ((0:Nat):Int),x3 (f9 t 0) (p6 t ((1:Nat):Int)) ((1:Nat):Int)]:=rfl
 rw [e] at ve
 generalize x3 (f9 t 0) (p6 t ((0:Nat):Int)) ((0:Nat):Int)=v0 at ve c0 ha
 generalize x3 (f9 t 0) (p6 t ((1:Nat):Int)) ((1:Nat):Int)=v1 at ve c1 hb
 have g0:[v0,v1][0]? =some v0:=rfl
 have g1:[v0,v1][1]? =some v1:=rfl
 have z0:(0:Int)=((0:Nat):Int):=rfl
 have z1:(1:Int)=((1:Nat):Int):=rfl
 (refine a8 a7 Tryz.func55 rfl (by decide) ?_;(conv=>whnf);repeat ((first|refine b0x ?_|refine zy ?_);conv=>whnf))
 repeat' first|(refine zd ?_ ?_<;>intro h<;>first|exact zc h|(exfalso;omega)|conv=>whnf)|((first|refine zz ?_|refine qp ve ?_|refine qp c0 ?_|refine qp c1 ?_|refine qp 5 ?_|refine bl0 [5] ?_|refine W2 z0 g0 ?_|refine W2 z1 g1 ?_|refine zy ?_);conv=>whnf)
 all_goals first
  |(exfalso;omega)
  |(exfalso;contradiction)
  |exact d8 rfl
theorem a0T (f:List H9) (c:List B8) (hf:f.length≤10) (hc:c.length≤10):(G1 f c).Sized:=⟨⟨by simp [G1],by simp [G1],by simp [G1],by simp [G1],by simp [G1]⟩,by simp [G1];omega,by simp [G1];omega⟩
def f22:List H9:=[⟨2,0,5⟩]
def aW4:List H9:=[⟨1,0,5⟩]
def c22:List B8:=[⟨1,0⟩]
def zI (l:List Int):List Rat:=l.map fun x=>((x:Int):Rat)
theorem aM3 {f:List H9} {c:List B8} (hf:f.length≤10) (hc:c.length≤10) (ht:m8 (G1 f c)=0) {z:List Rat} (hz:j4 (f9 (G1 f c) 0) z=true):ExP (G1 f c) 0 2:=
 ⟨a0T f c hf hc,ht,by decide,by decide,by simp [G1],rfl,aR9 ht (by simp [G1]) hz⟩
theorem an6 {t:g9} {kind:Int} {n:Nat} (h:ExP t kind n) (i:Nat) {z y:List Rat} (hz:j4 (f9 t kind) z=true) (hy:j4 (f9 t kind) y=true) (h1:k7 (p6 t (i:Int)) z≠0) (h0:¬0<k7 (p6 t (i:Int)) y):(x3 (f9 t kind) (p6 t (i:Int)) (i:Int)).state=1:=by
 rcases T2 (h.vd (i:Int)) (i:Int) with ⟨_,h2⟩|⟨_,h2⟩|⟨h2,_⟩
 ·exact absurd (h2 y hy) h0
 ·exact absurd (h2 z hz) h1
 ·exact h2
theorem a7K {t:g9} {kind:Int} {n:Nat} (h:ExP t kind n) (i:Nat) (hA:∀z,j4 (f9 t kind) z=true→0<k7 (p6 t (i:Int)) z):(x3 (f9 t kind) (p6 t (i:Int)) (i:Int)).state=2:=by
 rcases T2 (h.vd (i:Int)) (i:Int) with ⟨h2,_⟩|⟨_,h2⟩|⟨_,_,y,h3,h4⟩
 ·exact h2
 ·have h3:=(h.vd (i:Int)).has
  have:=hA _ h3
  rw [h2 _ h3] at this
  exact absurd this (by decide +kernel)
 ·have:=hA _ h3
  rw [h4] at this
  exact absurd this (by decide +kernel)
theorem aF3 {t:g9} {kind:Int} {n:Nat} (h:ExP t kind n) (i:Nat) (hA:∀z,j4 (f9 t kind) z=true→k7 (p6 t (i:Int)) z=0):(x3 (f9 t kind) (p6 t (i:Int)) (i:Int)).state=0:=by
 rcases T2 (h.vd (i:Int)) (i:Int) with ⟨_,h2⟩|⟨h2,_⟩|⟨_,⟨y,h3,h4⟩,_⟩
 ·have h3:=(h.vd (i:Int)).has
  have:=h2 _ h3
  rw [hA _ h3] at this
  exact absurd this (by decide +kernel)
 ·exact h2
 ·rw [hA _ h3] at h4
  exact absurd h4 (by decide +kernel)
theorem b2b:ExP (G1 f22 []) 0 2:=aM3 (by decide) (by decide) (by decide +kernel) (z:=zI [5,0,5]) (by decide +kernel)
theorem b12:ExP (G1 f22 c22) 0 2:=aM3 (by decide) (by decide) (by decide +kernel) (z:=zI [5,0,5]) (by decide +kernel)
theorem b0j:ExP (G1 [] []) 0 2:=aM3 (by decide) (by decide) (by decide +kernel) (z:=zI [1,0,1]) (by decide +kernel)
theorem b8r:(x3 (f9 (G1 f22 []) 0) (p6 (G1 f22 []) ((0:Nat):Int)) ((0:Nat):Int)).state=1:=an6 b2b 0 (z:=zI [5,0,5]) (y:=zI [0,5,5]) (by decide +kernel) (by decide +kernel) (by decide +kernel) (by decide +kernel)
theorem b9D:(x3 (f9 (G1 f22 []) 0) (p6 (G1 f22 []) ((1:Nat):Int)) ((1:Nat):Int)).state=1:=an6 b2b 1 (z:=zI [0,5,5]) (y:=zI [5,0,5]) (by decide +kernel) (by decide +kernel) (by decide +kernel) (by decide +kernel)
theorem b73:(x3 (f9 (G1 [] []) 0) (p6 (G1 [] []) ((0:Nat):Int)) ((0:Nat):Int)).state=1:=an6 b0j 0 (z:=zI [5,0,5]) (y:=zI [0,5,5]) (by decide +kernel) (by decide +kernel) (by decide +kernel) (by decide +kernel)
theorem b71:(x3 (f9 (G1 [] []) 0) (p6 (G1 [] []) ((1:Nat):Int)) ((1:Nat):Int)).state=1:=an6 b0j 1 (z:=zI [0,5,5]) (y:=zI [5,0,5]) (by decide +kernel) (by decide +kernel) (by decide +kernel) (by decide +kernel)
theorem b44 {z:List Rat} (h:z.length=3):∃a b c,z=[a,b,c]:=by
 match z,h with
 |[a,b,c],_=>exact ⟨a,b,c,rfl⟩
instance decRow:DecidableEq B2:=fun a b=>decidable_of_iff (a.terms=b.terms∧a.kind=b.kind∧a.value=b.value) ⟨fun ⟨h1,h2,h3⟩=>by cases a;cases b;simp_all,fun h=>by subst h;exact ⟨rfl,rfl,rfl⟩⟩
instance decSys:DecidableEq i8:=fun a b=>decidable_of_iff (a.n=b.n∧a.rows=b.rows) ⟨fun ⟨h1,h2⟩=>by cases a;cases b;simp_all,fun h=>by subst h;exact ⟨rfl,rfl⟩⟩
abbrev a2E:Rat:=((1:Int):Rat)
def a7V:List B2:=[⟨[((1:Int),a2E)],2,((0:Int):Rat)⟩,⟨[((0:Int),a2E),((1:Int),a2E),((2:Int),((-1:Int):Rat))],2,((0:Int):Rat)⟩,⟨[((2:Int),a2E)],0,((5:Int):Rat)⟩]
def am8:List B2:=[⟨[((1:Int),a2E)],0,((5:Int):Rat)⟩,⟨[((1:Int),a2E)],2,((0:Int):Rat)⟩,⟨[((0:Int),a2E),((1:Int),a2E),((2:Int),((-1:Int):Rat))],2,((0:Int):Rat)⟩]
theorem b4I:f9 (G1 f22 c22) 0=⟨3,a7V⟩:=by decide +kernel
theorem b4O:f9 (G1 aW4 c22) 0=⟨3,am8⟩:=by decide +kernel
theorem aO8 {z:List Rat} (hz:j4 (f9 (G1 f22 c22) 0) z=true):∃a b c,z=[a,b,c]∧0+a2E*b=0∧0+a2E*a+a2E*b+((-1:Int):Rat)*c=0∧5≤0+a2E*c:=by
 rw [b4I] at hz
 obtain ⟨h1,h2,h3,h4⟩:=a3Z.1 hz
 have h2:(z.length:Int)=3:=h2
 obtain ⟨a,b,c,rfl⟩:=b44 (by omega:z.length=3)
 have r1:=h4 _ (show _ ∈ a7V from .head _)
 have r2:=h4 _ (show _ ∈ a7V from .tail _ (.head _))
 have r3:=h4 _ (show _ ∈ a7V from .tail _ (.tail _ (.head _)))
 refine ⟨a,b,c,rfl,?_,?_,?_⟩
 ·have x:=r1.1 (by decide)
  have y:=r1.2 (by decide)
  exact Rat.le_antisymm y x
 ·have x:=r2.1 (by decide)
  have y:=r2.2 (by decide)
  exact Rat.le_antisymm y x
 ·exact r3.1 (by decide)
theorem b2z {z:List Rat}:j4 (f9 (G1 aW4 c22) 0) z=false:=by
 cases hz:j4 (f9 (G1 aW4 c22) 0) z with
 |false=>rfl
 |true=>
  rw [b4O] at hz
  obtain ⟨h1,h2,h3,h4⟩:=a3Z.1 hz
  have h2:(z.length:Int)=3:=h2
  obtain ⟨a,b,c,rfl⟩:=b44 (by omega:z.length=3)
  have r1:=h4 _ (show _ ∈ am8 from .head _)
  have r2:=h4 _ (show _ ∈ am8 from .tail _ (.head _))
  have x:(5:Rat)≤0+a2E*b:=r1.1 (by decide)
  have y:0+a2E*b≤(0:Rat):=r2.2 (by decide)
  have:(5:Rat)≤0:=Rat.le_trans x y
  exact absurd this (by decide +kernel)
theorem b0M (f:List H9) (c:List B8):p6 (G1 f c) ((0:Nat):Int)=[((0:Int),a2E)]:=by
 show a0p (y0 (G1 [] []).ev _ _ _ _)=_
 decide +kernel
theorem b1f (f:List H9) (c:List B8):p6 (G1 f c) ((1:Nat):Int)=[((1:Int),a2E)]:=by
 show a0p (y0 (G1 [] []).ev _ _ _ _)=_
 decide +kernel
theorem b6I:(x3 (f9 (G1 f22 c22) 0) (p6 (G1 f22 c22) ((0:Nat):Int)) ((0:Nat):Int)).state=2:=a7K b12 0 fun z hz=>by
 obtain ⟨a,b,c,rfl,h1,h2,h3⟩:=aO8 hz
 rw [b0M]
 show 0<0+a2E*a
 have e1:a2E=1:=rfl
 have e2:((-1:Int):Rat)=-1:=rfl
 rw [e1] at *
 rw [e2] at h2
 grind
theorem b7K:(x3 (f9 (G1 f22 c22) 0) (p6 (G1 f22 c22) ((1:Nat):Int)) ((1:Nat):Int)).state=0:=aF3 b12 1 fun z hz=>by
 obtain ⟨a,b,c,rfl,h1,h2,h3⟩:=aO8 hz
 rw [b1f]
 exact h1
set_option maxHeartbeats 4000000 in
theorem a8W:b9 Tryz.prog 14 [] [] (f7 true) []:=by
 have e1:=aZ1 f22
 have e2:=af7 f22 c22
 have e3:=aX9
 have e4:=af7 aW4 c22
 have r1:=b0K b2b 1 1 b8r b9D
 have r2:=b0K b12 2 0 b6I b7K
 have r3:=b0K b0j 1 1 b73 b71
 have tD:m8 (G1 aW4 c22)=0:=by decide +kernel
 obtain ⟨r,hr⟩:=b1s (kind:=0) tD (by simp [G1]) (fun z=>b2z)
 have v1:=L0 (G1 aW4 c22) 0 (a0T _ _ (by decide) (by decide)) tD (by decide) (by decide) (by simp [G1]) r hr
 have v2:=V7 (G1 [] []) 8 (a0T _ _ (by decide) (by decide)) (by decide +kernel)
 have g1:=am1 (G1 [] []) (a0T _ _ (by decide) (by decide)) 1 (by decide +kernel)
 have g2:=am1 (G1 [] []) (a0T _ _ (by decide) (by decide)) 2 (by decide +kernel)
 have x1:a4g (G1 [] []) 1=[((1:Int),a2E)]:=by decide +kernel
 have x2:a4g (G1 [] []) 2=[]:=by decide +kernel
 rw [x1] at g1
 rw [x2] at g2
 (refine a8 a7 Tryz.func14 rfl (by decide) ?_;(conv=>whnf);repeat ((first|refine b0x ?_|refine zy ?_);conv=>whnf))
 repeat' first|(refine zd ?_ ?_<;>intro h<;>first|exact zc h|(exfalso;omega)|conv=>whnf)|((first|refine zz ?_|refine qp e1 ?_|refine qp e2 ?_|refine qp e3 ?_|refine qp e4 ?_|refine qp r1 ?_|refine qp r2 ?_|refine qp r3 ?_|refine qp v1 ?_|refine qp v2 ?_|refine qp g1 ?_|refine qp g2 ?_|refine qp 5 ?_|refine bl0 [5] ?_|refine zy ?_);conv=>whnf)
 all_goals first
  |(exfalso;omega)
  |(exfalso;contradiction)
  |exact d8 rfl
end
end Go.Proofs.YtdbogogfeffjlaaGreat
