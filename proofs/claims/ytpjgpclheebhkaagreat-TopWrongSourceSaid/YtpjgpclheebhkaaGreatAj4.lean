/- Part 4. -/
import Derived.RangeFuncBox
import Derived.RangeFuncLeaves
import Derived.Shelf.Abstract
import Derived.Shelf.RegionOpen
import Derived.OwnWalkIn
import Derived.TacticsInMore
import Derived.LoopNIn
import Derived.LoopIn
import Derived.Maps.AppendAt
import Derived.Shelf.Slices.In.SortNone
import Derived.Shelf.Sort.Plain
import Derived.Test.YtpjgpclheebhkaaGreatAj3
namespace Go.Proofs.YtpjgpclheebhkaaGreat
set_option linter.unusedVariables false
set_option linter.unusedSimpArgs false
set_option maxRecDepth 100000
open Go.RowKit
open St1 St2 St3 St4 St5 St6 St7 St8 StA StB
set_option maxHeartbeats 1000000
theorem b6u (m n:Nat) (lm:(dg m).length<=300000) (ln:(dg n).length<=300000):
 a8 Tryz.prog 133 [j1 (dg m),j1 (dg n)] [] (j1 (dg (m+n))) []:=by
 have h:=bh6 (dg m) (dg n) (x7 m) (x7 n) (by omega) (by omega)
 rw [u7,u7,show ((m:Int)+n).toNat=m+n by omega] at h
 exact h
theorem a9T (m n:Nat) (lm:(dg m).length<=300000) (h:n<=m):
 a8 Tryz.prog 134 [j1 (dg m),j1 (dg n)] [] (j1 (dg (m - n))) []:=by
 have h:=bg6 (dg m) (dg n) (x7 m) (x7 n) (by omega) (v7 h) (by rw [u7,u7];omega)
 rw [u7,u7,show ((m:Int) - n).toNat=m - n by omega] at h
 exact h
theorem ba9 (m n:Nat) (lm:(dg m).length<=300000) (ln:(dg n).length<=300000):
 a8 Tryz.prog 164 [j1 (dg m),j1 (dg n)] [] (j1 (dg (m*n))) []:=by
 have h:=b9s (dg m) (dg n) (x7 m) (x7 n) (by omega) (by omega)
 rw [u7,u7,show ((m:Int)*n).toNat=m*n by rw [← a61];rfl] at h
 exact h
theorem ba6 (m n:Nat) (lm:(dg m).length<=300000) (ln:(dg n).length<=300000):
 a8 Tryz.prog 130 [j1 (dg m),j1 (dg n)] [] (a7 .i64 (R5 m n)) []:=by
 have h:=a29 (dg m) (dg n) (a15 m) (a15 n) (by omega) (by omega)
 rw [u7,u7] at h
 exact h
theorem p9 (s:Int) (k:Nat) (h:s=1∨s=-1∨k=0) (lk:(dg k).length<=700000):
 a8 Tryz.prog 123 [a7 .i64 s,j1 (dg k)] [] (bgS (bz (s*k))) []:=by
 have e:=aV0 s (dg k) (by omega)
 rw [b4L (x7 k) (by rw [u7];omega),u7] at e
 exact e
def Sg (s:Int) (m:Nat):Prop:=(s=0∧m=0)∨(s=1∧0<m)∨(s=-1∧0<m)
theorem au0 (x:Int):Sg x.sign x.natAbs:=by
 rcases L6 x with ⟨e,h1⟩|⟨e,h1⟩|⟨e,h1⟩
 ·exact .inl ⟨e,by omega⟩
 ·exact .inr (.inl ⟨e,by omega⟩)
 ·exact .inr (.inr ⟨e,by omega⟩)
theorem aO3 {s:Int} {m:Nat} (h:Sg s m):bz (s*m)=⟨s,dg m⟩:=by
 rcases h with ⟨rfl,rfl⟩|⟨rfl,h⟩|⟨rfl,h⟩
 ·rfl
 ·unfold bz;rw [a82,a1T (by omega)];rfl
 ·unfold bz;rw [a5F (by omega)];congr 2;omega
theorem a0T (s:Int) (m:Nat) (h:Sg s m) (lm:(dg m).length<=300000):a8 Tryz.prog 78 [bgS ⟨s,dg m⟩] [] (d9 true) []:=by
 have:=a2y ⟨s,dg m⟩ (show (dg m).length<=1000000 by omega)
 rw [← aO3 h,a2k,aO3 h] at this
 exact this
theorem aY0 {b b':Bg} {e:Int} {H1:Hp} (h:b=b'):Fin 0 (.tup [bgS b,a7 .i64 e]) H1 (.tup [bgS b',a7 .i64 e]) []:=by
 subst h;exact l9 ⟨⟨rfl,rfl,trivial⟩,rfl,trivial⟩
theorem Y9 {a b c d:Nat} (h:a<=max b c+1) (h2:max b c+1<=d):a<=d:=lbT h h2
theorem b9T (s t:Int) (m n:Nat) (hs:Sg s m) (ht:Sg t n) (lm:(dg m).length<=200000) (ln:(dg n).length<=200000):
 a8 Tryz.prog 86 [bgS ⟨s,dg m⟩,bgS ⟨t,dg n⟩] [] (.tup [bgS (bz (s*m+t*n)),a7 .i64 0]) []:=by
 have r1:=a0T s m hs (by omega)
 have r2:=a0T t n ht (by omega)
 have ad:=b6u m n (by omega) (by omega)
 have c:=ba6 m n (by omega) (by omega)
 have ls:=a64 m n
 have fin:∀(z:Int) (H1:Hp),z=s*m+t*n->Fin 0 (.tup [bgS (if true then bz z else ⟨0,[]⟩),a7 .i64 0]) H1 (.tup [bgS (bz (s*m+t*n)),a7 .i64 0]) []:=fun z H1 h=>aY0 (by rw [h];rfl)
 rcases hs with ⟨rfl,rfl⟩|⟨rfl,h1⟩|⟨rfl,h1⟩<;>rcases ht with ⟨rfl,rfl⟩|⟨rfl,h2⟩|⟨rfl,h2⟩
 case inl.inl=>
  have sg:=p9 (0) _ (by omega) (Y9 ls (by omega))
  have co:=a2M (0) (0)
  (refine ac Tryz.func86 ?_;(conv=>whnf);repeat (refine zy ?_;conv=>whnf))
  repeat' (first|refine zx ?_|refine qp r1 ?_|refine qp r2 ?_|refine qp ad ?_|refine qp sg ?_|refine qp (F4 true _) ?_|refine qp co ?_|refine ⟨_,G8 (y:=0) rfl (by decide) (by decide),?_⟩|refine zd ?_ ?_<;>intro h<;>try omega|fail)<;>conv=>whnf
  all_goals first|omega|exact fin _ _ (by omega)
 case inl.inr.inl=>
  have sg:=p9 (1) _ (by omega) (Y9 ls (by omega))
  have co:=a2M (0) (1)
  (refine ac Tryz.func86 ?_;(conv=>whnf);repeat (refine zy ?_;conv=>whnf))
  repeat' (first|refine zx ?_|refine qp r1 ?_|refine qp r2 ?_|refine qp ad ?_|refine qp sg ?_|refine qp (F4 true _) ?_|refine qp co ?_|refine ⟨_,G8 (y:=0) rfl (by decide) (by decide),?_⟩|refine zd ?_ ?_<;>intro h<;>try omega|fail)<;>conv=>whnf
  all_goals first|omega|exact fin _ _ (by omega)
 case inl.inr.inr=>
  have sg:=p9 (-1) _ (by omega) (Y9 ls (by omega))
  have co:=a2M (0) (-1)
  (refine ac Tryz.func86 ?_;(conv=>whnf);repeat (refine zy ?_;conv=>whnf))
  repeat' (first|refine zx ?_|refine qp r1 ?_|refine qp r2 ?_|refine qp ad ?_|refine qp sg ?_|refine qp (F4 true _) ?_|refine qp co ?_|refine ⟨_,G8 (y:=0) rfl (by decide) (by decide),?_⟩|refine zd ?_ ?_<;>intro h<;>try omega|fail)<;>conv=>whnf
  all_goals first|omega|exact fin _ _ (by omega)
 case inr.inl.inl=>
  have sg:=p9 (1) _ (by omega) (Y9 ls (by omega))
  have co:=a2M (1) (0)
  (refine ac Tryz.func86 ?_;(conv=>whnf);repeat (refine zy ?_;conv=>whnf))
  repeat' (first|refine zx ?_|refine qp r1 ?_|refine qp r2 ?_|refine qp ad ?_|refine qp sg ?_|refine qp (F4 true _) ?_|refine qp co ?_|refine ⟨_,G8 (y:=0) rfl (by decide) (by decide),?_⟩|refine zd ?_ ?_<;>intro h<;>try omega|fail)<;>conv=>whnf
  all_goals first|omega|exact fin _ _ (by omega)
 case inr.inr.inl=>
  have sg:=p9 (-1) _ (by omega) (Y9 ls (by omega))
  have co:=a2M (-1) (0)
  (refine ac Tryz.func86 ?_;(conv=>whnf);repeat (refine zy ?_;conv=>whnf))
  repeat' (first|refine zx ?_|refine qp r1 ?_|refine qp r2 ?_|refine qp ad ?_|refine qp sg ?_|refine qp (F4 true _) ?_|refine qp co ?_|refine ⟨_,G8 (y:=0) rfl (by decide) (by decide),?_⟩|refine zd ?_ ?_<;>intro h<;>try omega|fail)<;>conv=>whnf
  all_goals first|omega|exact fin _ _ (by omega)
 case inr.inl.inr.inl=>
  have sg:=p9 (1) _ (by omega) (Y9 ls (by omega))
  have co:=a2M (1) (1)
  (refine ac Tryz.func86 ?_;(conv=>whnf);repeat (refine zy ?_;conv=>whnf))
  repeat' (first|refine zx ?_|refine qp r1 ?_|refine qp r2 ?_|refine qp ad ?_|refine qp sg ?_|refine qp (F4 true _) ?_|refine qp co ?_|refine ⟨_,G8 (y:=1) rfl (by decide) (by decide),?_⟩|refine zd ?_ ?_<;>intro h<;>try omega|fail)<;>conv=>whnf
  all_goals first|omega|exact fin _ _ (by omega)
 case inr.inr.inr.inr=>
  have sg:=p9 (-1) _ (by omega) (Y9 ls (by omega))
  have co:=a2M (-1) (-1)
  (refine ac Tryz.func86 ?_;(conv=>whnf);repeat (refine zy ?_;conv=>whnf))
  repeat' (first|refine zx ?_|refine qp r1 ?_|refine qp r2 ?_|refine qp ad ?_|refine qp sg ?_|refine qp (F4 true _) ?_|refine qp co ?_|refine ⟨_,G8 (y:=1) rfl (by decide) (by decide),?_⟩|refine zd ?_ ?_<;>intro h<;>try omega|fail)<;>conv=>whnf
  all_goals first|omega|exact fin _ _ (by omega)
 case inr.inl.inr.inr=>
  rcases A6 m n with hmn|hmn
  ·rw [a2K (by omega)] at c
   have l3:=v7 (Nat.sub_le n m)
   (refine ac Tryz.func86 ?_;(conv=>whnf);repeat (refine zy ?_;conv=>whnf))
   repeat' (first|refine zx ?_|refine qp r1 ?_|refine qp r2 ?_|refine qp c ?_|refine qp (a9T n m (by omega) (by omega)) ?_|refine qp (p9 (-1) (n - m) (by omega) (by omega)) ?_|refine qp (F4 true _) ?_|refine ⟨_,G8 (y:=-1) rfl (by decide) (by decide),?_⟩|refine zd ?_ ?_<;>intro h<;>try omega|fail)<;>conv=>whnf
   all_goals first|omega|exact fin _ _ (by omega)
  ·have hc:0<=R5 m n:=by unfold R5;split<;>(try split)<;>omega
   have l3:=v7 (Nat.sub_le m n)
   (refine ac Tryz.func86 ?_;(conv=>whnf);repeat (refine zy ?_;conv=>whnf))
   repeat' (first|refine zx ?_|refine qp r1 ?_|refine qp r2 ?_|refine qp c ?_|refine qp (a9T m n (by omega) (by omega)) ?_|refine qp (p9 (1) (m - n) (by omega) (by omega)) ?_|refine qp (F4 true _) ?_|refine ⟨_,G8 (y:=-1) rfl (by decide) (by decide),?_⟩|refine zd ?_ ?_<;>intro h<;>try omega|fail)<;>conv=>whnf
   all_goals first|omega|exact fin _ _ (by omega)
 case inr.inr.inr.inl=>
  rcases A6 m n with hmn|hmn
  ·rw [a2K (by omega)] at c
   have l3:=v7 (Nat.sub_le n m)
   (refine ac Tryz.func86 ?_;(conv=>whnf);repeat (refine zy ?_;conv=>whnf))
   repeat' (first|refine zx ?_|refine qp r1 ?_|refine qp r2 ?_|refine qp c ?_|refine qp (a9T n m (by omega) (by omega)) ?_|refine qp (p9 (1) (n - m) (by omega) (by omega)) ?_|refine qp (F4 true _) ?_|refine ⟨_,G8 (y:=-1) rfl (by decide) (by decide),?_⟩|refine zd ?_ ?_<;>intro h<;>try omega|fail)<;>conv=>whnf
   all_goals first|omega|exact fin _ _ (by omega)
  ·have hc:0<=R5 m n:=by unfold R5;split<;>(try split)<;>omega
   have l3:=v7 (Nat.sub_le m n)
   (refine ac Tryz.func86 ?_;(conv=>whnf);repeat (refine zy ?_;conv=>whnf))
   repeat' (first|refine zx ?_|refine qp r1 ?_|refine qp r2 ?_|refine qp c ?_|refine qp (a9T m n (by omega) (by omega)) ?_|refine qp (p9 (-1) (m - n) (by omega) (by omega)) ?_|refine qp (F4 true _) ?_|refine ⟨_,G8 (y:=-1) rfl (by decide) (by decide),?_⟩|refine zd ?_ ?_<;>intro h<;>try omega|fail)<;>conv=>whnf
   all_goals first|omega|exact fin _ _ (by omega)
theorem sgm (x:Int):x.sign*x.natAbs=x:=b0A x
theorem a4z (x:Int) (lx:bl x<=300000):a8 Tryz.prog 78 [bgS (bz x)] [] (d9 true) []:=a0T _ _ (au0 x) lx
theorem ba0 (x y:Int) (lx:bl x<=200000) (ly:bl y<=200000):a8 Tryz.prog 86 [bgS (bz x),bgS (bz y)] [] (.tup [bgS (bz (x+y)),a7 .i64 0]) []:=by
 have h:=b9T _ _ _ _ (au0 x) (au0 y) lx ly
 rw [sgm,sgm] at h
 exact h
theorem a7V (x:Int) (lx:bl x<=300000):a8 Tryz.prog 85 [bgS (bz x)] [] (bgS (bz (-x))) []:=by
 have h:=bb8 (bz x) (show bl x<=1000000 by omega)
 unfold b2Z at h
 rw [a2k,a6B] at h
 exact h
abbrev bg2 (s:Int) (l:List Int):S:=.agg [.t (ti s),.t (I3 l)]
theorem bd9 (s t:Int) (m n:Nat) (hs:Sg s m) (ht:Sg t n) (lm:(dg m).length<=200000) (ln:(dg n).length<=200000):
 a8 Tryz.prog 131 [bgS ⟨s,dg m⟩,bgS ⟨t,dg n⟩] [] (.tup [bgS (bz ((s*t)*(m*n:Nat))),a7 .i64 0]) []:=by
 have r1:=a0T s m hs (by omega)
 have r2:=a0T t n ht (by omega)
 have mu:=ba9 m n (by omega) (by omega)
 have ls:=ag8 m n
 have hst:-1<=s*t∧s*t<=1∧(s*t=1∨s*t=-1∨m*n=0):=by
  rcases hs with ⟨rfl,rfl⟩|⟨rfl,h1⟩|⟨rfl,h1⟩<;>rcases ht with ⟨rfl,rfl⟩|⟨rfl,h2⟩|⟨rfl,h2⟩<;>simp
 obtain ⟨q1,q2,q3⟩:=hst
 have sg:=p9 (s*t) (m*n) q3 (by omega)
 have ck:=F4 true (bz ((s*t)*(m*n:Nat)))
 (refine ac Tryz.func131 ?_;(conv=>whnf);repeat (refine zy ?_;conv=>whnf))
 repeat' (first|refine zx ?_|refine qp r1 ?_|refine qp r2 ?_|refine qp mu ?_|refine qp sg ?_|refine qp ck ?_|refine ⟨_,G8 (y:=s*t) rfl (by omega) (by omega),?_⟩|refine zd ?_ ?_<;>intro h<;>try omega|fail)<;>conv=>whnf
 all_goals first|(exfalso;simp_all;done)|exact aY0 rfl
theorem bc0 (x y:Int) (lx:bl x<=200000) (ly:bl y<=200000):a8 Tryz.prog 131 [bgS (bz x),bgS (bz y)] [] (.tup [bgS (bz (x*y)),a7 .i64 0]) []:=by
 have h:=bd9 _ _ _ _ (au0 x) (au0 y) lx ly
 have e:(x.sign*y.sign)*((x.natAbs*y.natAbs:Nat):Int)=x*y:=by
  rw [a61]
  have h1:=sgm x
  have h2:=sgm y
  grind
 rw [e] at h
 exact h
theorem b05 (x y:Int) (lx:bl x<=300000) (ly:bl y<=300000):a8 Tryz.prog 83 [bgS (bz x),bgS (bz y)] [] (a7 .i64 (R5 x y)) []:=by
 have h:=b1h (bz x) (bz y) (show bl x<=1000000 by omega) (show bl y<=1000000 by omega)
 unfold b3r at h
 rw [a2k,a2k,a6B,a6B] at h
 exact h
theorem b7K {b b' c c':Bg} {e:Int} {H1:Hp} (h:b=b') (h2:c=c'):Fin 0 (.tup [bgS b,bgS c,a7 .i64 e]) H1 (.tup [bgS b',bgS c',a7 .i64 e]) []:=by
 subst h h2;exact l9 ⟨⟨rfl,rfl,trivial⟩,⟨rfl,rfl,trivial⟩,rfl,trivial⟩
theorem bf6 (s:Int) (m n:Nat) (hs:Sg s m) (hn:0<n) (lm:(dg m).length<=200000) (ln:(dg n).length<=200000):
 a8 Tryz.prog 135 [bgS ⟨s,dg m⟩,bgS ⟨1,dg n⟩] [] (.tup [bgS (bz (s*m / n)),bgS (bz (s*m % n)),a7 .i64 0]) []:=by
 show a8 Tryz.prog 135 [bg2 s (dg m),bg2 1 (dg n)] [] _ []
 have r1:=a0T s m hs (by omega)
 have r2:=a0T 1 n (.inr (.inl ⟨rfl,hn⟩)) (by omega)
 have dv:=b9l m n hn (by omega) (by omega)
 have lq:=v7 (Nat.div_le_self m n)
 have hr:=ap1 m hn
 have lr:=v7 (Nat.le_of_lt hr)
 have lr2:((dg (m % n)).map i5).length=(dg (m % n)).length:=by simp
 have hz:(dg (m % n)).length=0↔m % n=0:=by rw [a22,Q9]
 have hm:=Nat.div_add_mod m n
 have fin:∀(a b:Int) (H1:Hp),a=s*m / n->b=s*m % n->Fin 0 (.tup [bgS (bz a),bgS (bz b),a7 .i64 0]) H1 (.tup [bgS (bz (s*m / n)),bgS (bz (s*m % n)),a7 .i64 0]) []:=fun a b H1 h1 h2=>b7K (by rw [h1]) (by rw [h2])
 rcases hs with ⟨rfl,rfl⟩|⟨rfl,h1⟩|⟨rfl,h1⟩
 ·have s1:=p9 0 (0 / n) (by simp) (by omega)
  have s2:=p9 0 (0 % n) (by simp) (by omega)
  (refine ac Tryz.func135 ?_;(conv=>whnf);repeat (refine zy ?_;conv=>whnf))
  repeat' (first|refine zx ?_|refine qp r1 ?_|refine qp r2 ?_|refine qp dv ?_|refine qp s1 ?_|refine qp s2 ?_|refine ⟨_,G8 (y:=0) rfl (by decide) (by decide),?_⟩|refine zd ?_ ?_<;>intro h<;>try omega|fail)<;>conv=>whnf
  all_goals first|omega|exact fin _ _ _ (by first|rfl|simp) (by first|rfl|simp)
 ·have s1:=p9 1 (m / n) (by simp) (by omega)
  have s2:=p9 1 (m % n) (by simp) (by omega)
  (refine ac Tryz.func135 ?_;(conv=>whnf);repeat (refine zy ?_;conv=>whnf))
  repeat' (first|refine zx ?_|refine qp r1 ?_|refine qp r2 ?_|refine qp dv ?_|refine qp s1 ?_|refine qp s2 ?_|refine ⟨_,G8 (y:=1) rfl (by decide) (by decide),?_⟩|refine zd ?_ ?_<;>intro h<;>try omega|fail)<;>conv=>whnf
  all_goals first|omega|exact fin _ _ _ (by first|rfl|simp) (by first|rfl|simp)
 ·by_cases h0:m % n=0
  ·have hz0:=hz.2 h0
   have s1:=p9 (-1) (m / n) (by simp) (by omega)
   have s2:=p9 (-1) (m % n) (by simp) (by omega)
   have e1:-1*((m / n:Nat):Int)=-1*(m:Int) / n:=by
    have e:(m:Int)=n*(m / n:Nat):=by rw [← a61];congr 1;omega
    rw [e,show -1*((n:Int)*(m / n:Nat))=n*(-1*(m / n:Nat)) by grind,Int.mul_ediv_cancel_left _ (by omega)]
   have e2:-1*((m % n:Nat):Int)=-1*(m:Int) % n:=by
    have e:(m:Int)=n*(m / n:Nat):=by rw [← a61];congr 1;omega
    rw [h0,e,show -1*((n:Int)*(m / n:Nat))=n*(-1*(m / n:Nat)) by grind,Int.mul_emod_right]
    simp
   (refine ac Tryz.func135 ?_;(conv=>whnf);repeat (refine zy ?_;conv=>whnf))
   repeat' (first|refine zx ?_|refine qp r1 ?_|refine qp r2 ?_|refine qp dv ?_|refine qp s1 ?_|refine qp s2 ?_|refine ⟨_,G8 (y:=-1) rfl (by decide) (by decide),?_⟩|refine zd ?_ ?_<;>intro h<;>try omega|fail)<;>conv=>whnf
   all_goals first|omega|exact fin _ _ _ e1 e2
  ·have hz0:(dg (m % n)).length≠0:=fun h=>h0 (hz.1 h)
   have one:dg 1=[1]:=rfl
   have ad:=b6u (m / n) 1 (by omega) (by simp [one])
   have sb:=a9T n (m % n) (by omega) (by omega)
   have l1:=a64 (m / n) 1
   have l2:=v7 (Nat.sub_le n (m % n))
   have s1:=p9 (-1) (m / n+1) (by simp) (by rw [one] at l1;simp at l1;omega)
   have s2:=p9 1 (n - m % n) (by simp) (by omega)
   have key:(-1*(m:Int))=(n - m % n:Nat)+n*(-1*((m / n+1:Nat):Int)):=by
    have e:(m:Int)=n*(m / n:Nat)+(m % n:Nat):=by rw [← a61];omega
    have e2:((n - m % n:Nat):Int)=n - (m % n:Nat):=by omega
    have e3:((m / n+1:Nat):Int)=(m / n:Nat)+1:=by omega
    rw [e2,e3]
    grind
   have e1:-1*((m / n+1:Nat):Int)=-1*(m:Int) / n:=by
    rw [key,Int.add_mul_ediv_left _ _ (by omega),Int.ediv_eq_zero_of_lt (by omega) (by omega)]
    simp
   have e2:1*((n - m % n:Nat):Int)=-1*(m:Int) % n:=by
    rw [key,Int.add_mul_emod_self_left,ad2 (by omega) (by omega)]
    simp
   (refine ac Tryz.func135 ?_;(conv=>whnf);repeat (refine zy ?_;conv=>whnf))
   repeat' (first|refine zx ?_|refine qp r1 ?_|refine qp r2 ?_|refine qp dv ?_|refine qp s1 ?_|refine qp s2 ?_|refine qp sb ?_|refine .inl ⟨_,_,a69 ad ⟨b1o,a5U (aD0 rfl),trivial⟩ rfl,?_⟩|refine ⟨_,G8 (y:=-1) rfl (by decide) (by decide),?_⟩|refine zd ?_ ?_<;>intro h<;>try omega|fail)<;>conv=>whnf
   all_goals first|omega|exact fin _ _ _ e1 e2
theorem az2 (x y:Int) (hy:0<y) (lx:bl x<=200000) (ly:bl y<=200000):a8 Tryz.prog 135 [bgS (bz x),bgS (bz y)] [] (.tup [bgS (bz (x / y)),bgS (bz (x % y)),a7 .i64 0]) []:=by
 have h:=bf6 _ _ y.natAbs (au0 x) (by omega) lx ly
 rw [sgm,show (y.natAbs:Int)=y by omega] at h
 unfold bz at *
 rw [a1T hy]
 exact h
abbrev b9U:Blk:={ mode:=.live,elem:=81,size:=2,rows:=[[t6 (.int .i64 0),t6 (.slice none 0 0)]],box:=true }
theorem a4W:H4 [[t6 (.int .i64 0),t6 (.slice none 0 0)]]:=by
 intro r hr c hc
 simp at hr
 subst hr
 simp at hc
 rcases hc with rfl|rfl<;>rfl
structure bj3 (x y:Int) (X Y:Nat):Prop where
 g:Nat.gcd X Y=Nat.gcd x.natAbs y.natAbs
 lx:(dg X).length<=200000
 ly:(dg Y).length<=200000
theorem b0P (x y:Int) (lx:bl x<=200000) (ly:bl y<=200000):a8 Tryz.prog 79 [bgS (bz x),bgS (bz y)] [] (.tup [bgS (bz (Int.gcd x y)),a7 .i64 0]) []:=by
 have r1:=a4z x (by omega)
 have r2:=a4z y (by omega)
 have cl:=a9o (bz x).dl (show bl x<=1000000 by omega)
 (refine ac Tryz.func79 ?_;(conv=>whnf);repeat (refine zy ?_;conv=>whnf))
 repeat' (first|refine zx ?_|refine qp r1 ?_|refine qp r2 ?_|refine qp cl ?_|refine zd ?_ ?_<;>intro h<;>try omega|fail)<;>conv=>whnf
 all_goals first
  |(exfalso;simp_all;done)
  |skip
 refine t8 c9 (σ:=Nat × Nat) (fun|(X,Y)=>([J,J,J,J,S.c (C.ptr 0 0 0),J,j1 (dg X),j1 (dg Y)]++Jn 36,[b9U])) (fun s=>bj3 x y s.1 s.2) (fun s=>s.2) (x.natAbs,y.natAbs) [some 2]
  ⟨rfl,lx,ly⟩ ⟨rfl,rfl,⟨⟨rfl,rfl,rfl,.inl ⟨rfl,a4W⟩⟩,trivial⟩,⟨⟨rfl,rfl,rfl⟩,rfl,rfl,trivial⟩⟩ ?_
 rintro ⟨X,Y⟩ hI
 have hI:bj3 x y X Y:=hI
 obtain ⟨g1,g2,g3⟩:=hI
 have l2:((dg Y).map i5).length=(dg Y).length:=by simp
 conv=>whnf
 by_cases hY:0<Y
 ·have hp:(dg Y).length≠0:=by rw [Ne,a22,Q9];omega
  have dv:=b9l X Y hY (by omega) (by omega)
  repeat' (first|refine zx ?_|refine qp dv ?_|refine zd ?_ ?_<;>intro h<;>try omega|fail)<;>conv=>whnf
  all_goals first
   |omega
   |skip
  exact ⟨[some 0],(Y,X % Y),⟨rfl,rfl,⟨⟨rfl,rfl,rfl,.inl ⟨rfl,a4W⟩⟩,trivial⟩,⟨⟨rfl,rfl,rfl⟩,rfl,rfl,trivial⟩⟩,⟨by rw [← g1,Nat.gcd_comm Y,←Nat.gcd_rec,Nat.gcd_comm],g3,lbT (v7 (Nat.le_of_lt (ap1 X hY))) g3⟩,ap1 X hY⟩
 ·have hY:Y=0:=by omega
  subst hY
  have hp:(dg 0).length=0:=rfl
  have c2:=a9o (dg X) (by omega)
  have s1:=p9 1 X (by simp) (by omega)
  have ck:=F4 true (bz (1*X))
  repeat' (first|refine zx ?_|refine qp c2 ?_|refine qp s1 ?_|refine qp ck ?_|refine zd ?_ ?_<;>intro h<;>try omega|fail)<;>conv=>whnf
  all_goals first
   |omega
   |skip
  refine aY0 ?_
  rw [a82,show X=Int.gcd x y by rw [Int.gcd,←g1,Nat.gcd_zero_right]]
  rfl
theorem a0F {x y:Int} (h:x % 18446744073709551616=y):E1 .u64 x y:=by
 unfold E1
 simp only [IntKind.wrap,IntKind.bits,IntKind.signed]
 simp
 omega
theorem b1X (a:Int):a4G .and .u64 a 1048575 (a % 1048576):=(aE0 (a:=a) 20 (by decide)).symm
theorem b73 (a:Int):b1F .u64 a 20 (a / 1048576):=by
 show a / 1048576=a.fdiv 1048576
 exact (Int.fdiv_eq_ediv_of_nonneg _ (by decide)).symm
structure OfI (n:Int) (acc:List Int) (u:Nat):Prop where
 eq:acc++dg u=dg n.natAbs
theorem OfI.len {n:Int} {acc:List Int} {u:Nat} (h:OfI n acc u) (h0:-9223372036854775808<=n) (h1:n<=9223372036854775807):acc.length<=4:=by
 have h2:(dg n.natAbs).length<=4:=M5 (by simp only [pw];omega)
 have h3:=congrArg List.length h.eq
 simp at h3
 omega
theorem OfI.step {n:Int} {acc:List Int} {u:Nat} (h:OfI n acc u) (hu:0<u):OfI n (acc++[(u:Int) % 1048576]) (u / 1048576):=by
 refine ⟨?_⟩
 rw [← h.eq,a6l hu]
 simp
theorem OfI.le {n:Int} {acc:List Int} {u:Nat} (h:OfI n acc u):u<=n.natAbs:=by
 have h1:=congrArg val h.eq
 rw [O4,u7,u7] at h1
 have h2:Okd acc:=fun x hx=>x7 n.natAbs x (by rw [← h.eq];simp [hx])
 have h3:=o7 h2
 have h4:=P3 acc.length
 have h5:=lbX (a:=1) (b:=pw acc.length) (c:=(u:Int)) (by omega) (by omega)
 omega
theorem aR5 {xs:List Int} {x:Int}:(toC (xs.map i5)).take xs.length++toC [[ti x]]=toC ((xs++[x]).map i5):=b7Z (f:=i5)
theorem b2d (n:Int) (h0:-9223372036854775808<=n) (h1:n<=9223372036854775807):a8 Tryz.prog 81 [a7 .i64 n] [] (bgS (bz n)) []:=by
 by_cases hn:n<0
 ·(refine ac Tryz.func81 ?_;(conv=>whnf);repeat (refine zy ?_;conv=>whnf))
  repeat' (first|refine zx ?_|refine ⟨_,a0F (y:=n+18446744073709551616) (by omega),?_⟩|refine ⟨_,a0F (y:=(n.natAbs:Int)) (by omega),?_⟩|refine zd ?_ ?_<;>intro h<;>try omega|fail)<;>conv=>whnf
  refine t8 c9 (σ:=List Int × Nat) (fun|(acc,u)=>([J,J,S.c (C.ptr 0 0 0),a7 .i64 (-1),a7 .u64 u,a3z 1 acc]++Jn 19,[b9U,D4 acc])) (fun s=>OfI n s.1 s.2) (fun s=>s.2) ([],n.natAbs) [some 0,none]
   ⟨rfl⟩ ⟨rfl,rfl,⟨⟨rfl,rfl,rfl,.inl ⟨rfl,a4W⟩⟩,⟨rfl,rfl⟩,trivial⟩,⟨⟨rfl,rfl,rfl⟩,rfl,c7 (by omega),⟨rfl,rfl,rfl⟩,trivial⟩⟩ ?_
  rintro ⟨acc,u⟩ hI
  have hI:OfI n acc u:=hI
  have hl:=hI.len h0 h1
  have hu:=hI.le
  conv=>whnf
  repeat' (first|refine zx ?_|refine qp toC ?_|refine qp toC ?_|refine ⟨_,b1X _,?_⟩|refine ⟨by decide,_,b73 _,?_⟩|refine D7 (by simp [toC]) (by simp [toC];omega) ?_|refine ⟨_,a0F (by omega),?_⟩|refine zd ?_ ?_<;>intro h<;>try omega|fail)<;>conv=>whnf
  ·refine ⟨[some 0,some 2],(acc++[(u:Int) % 1048576],u / 1048576),⟨rfl,rfl,⟨⟨rfl,rfl,rfl,.inl ⟨rfl,a4W⟩⟩,b8 rfl rfl rfl aR5 rfl,trivial⟩,⟨⟨rfl,rfl,rfl⟩,rfl,c7 (by simp),o4 rfl (by simp [toC]),trivial⟩⟩,hI.step (by omega),by show u / 1048576<u;omega⟩
  ·have h0u:u=0:=by omega
   subst h0u
   have e:acc=dg n.natAbs:=by have:=hI.eq;rw [a1D,a1p] at this;exact this
   have sg:=p9 (-1) n.natAbs (by omega) (by rw [← e];omega)
   rw [← e,show (-1)*(n.natAbs:Int)=n by omega] at sg
   refine .inr ⟨_,_,C6 [1] sg ⟨b1o,a5U (y0 (by simp) rfl (by intro h;cases h) rfl rfl (by simp)),trivial⟩ rfl,?_⟩
   conv=>whnf
   exact l9 ⟨rfl,rfl,trivial⟩
 ·(refine ac Tryz.func81 ?_;(conv=>whnf);repeat (refine zy ?_;conv=>whnf))
  repeat' (first|refine zx ?_|refine ⟨_,a0F (y:=(n.natAbs:Int)) (by omega),?_⟩|refine zd ?_ ?_<;>intro h<;>try omega|fail)<;>conv=>whnf
  refine t8 c9 (σ:=List Int × Nat) (fun|(acc,u)=>([J,J,S.c (C.ptr 0 0 0),a7 .i64 1,a7 .u64 u,a3z 1 acc]++Jn 19,[b9U,D4 acc])) (fun s=>OfI n s.1 s.2) (fun s=>s.2) ([],n.natAbs) [some 0,none]
   ⟨rfl⟩ ⟨rfl,rfl,⟨⟨rfl,rfl,rfl,.inl ⟨rfl,a4W⟩⟩,⟨rfl,rfl⟩,trivial⟩,⟨⟨rfl,rfl,rfl⟩,rfl,c7 (by omega),⟨rfl,rfl,rfl⟩,trivial⟩⟩ ?_
  rintro ⟨acc,u⟩ hI
  have hI:OfI n acc u:=hI
  have hl:=hI.len h0 h1
  have hu:=hI.le
  conv=>whnf
  repeat' (first|refine zx ?_|refine qp toC ?_|refine qp toC ?_|refine ⟨_,b1X _,?_⟩|refine ⟨by decide,_,b73 _,?_⟩|refine D7 (by simp [toC]) (by simp [toC];omega) ?_|refine ⟨_,a0F (by omega),?_⟩|refine zd ?_ ?_<;>intro h<;>try omega|fail)<;>conv=>whnf
  ·refine ⟨[some 0,some 2],(acc++[(u:Int) % 1048576],u / 1048576),⟨rfl,rfl,⟨⟨rfl,rfl,rfl,.inl ⟨rfl,a4W⟩⟩,b8 rfl rfl rfl aR5 rfl,trivial⟩,⟨⟨rfl,rfl,rfl⟩,rfl,c7 (by simp),o4 rfl (by simp [toC]),trivial⟩⟩,hI.step (by omega),by show u / 1048576<u;omega⟩
  ·have h0u:u=0:=by omega
   subst h0u
   have e:acc=dg n.natAbs:=by have:=hI.eq;rw [a1D,a1p] at this;exact this
   have sg:=p9 (1) n.natAbs (by omega) (by rw [← e];omega)
   rw [← e,show (1)*(n.natAbs:Int)=n by omega] at sg
   refine .inr ⟨_,_,C6 [1] sg ⟨b1o,a5U (y0 (by simp) rfl (by intro h;cases h) rfl rfl (by simp)),trivial⟩ rfl,?_⟩
   conv=>whnf
   exact l9 ⟨rfl,rfl,trivial⟩
theorem aG1 (i:Nat):pw i=((2 ^ (20*i):Nat):Int):=by
 unfold pw;rw [show (1048576:Int)=((2 ^ 20:Nat):Int) by decide,←Int.natCast_pow,←Nat.pow_mul]
theorem bk9 {d:Int} {i:Nat} {b:Int} (hi:i<=3) (h:0<=d) (h2:d*pw i<18446744073709551616) (hb:b=20*i):E1 .u64 (d*2 ^ min b.toNat (IntKind.bits .u64)) (d*pw i):=by
 have e:min b.toNat (IntKind.bits .u64)=20*i:=by show min b.toNat 64=_;omega
 have hp:=P3 i
 have h3:0<=d*pw i:=lb0 h (by omega)
 rw [e,show (2:Int) ^ (20*i)=pw i by rw [aG1];simp]
 exact aQ8 h3 h2
theorem oru {u d:Int} {i:Nat} (hu:0<=u) (hu2:u<pw i) (h:0<=d) (h2:u+d*pw i<18446744073709551616):a4G .or .u64 u (d*pw i) (u+d*pw i):=by
 obtain ⟨U,rfl⟩:=a5N hu
 obtain ⟨D,rfl⟩:=a5N h
 have hp:=P3 i
 have e2:(U:Int)+D*pw i=((U+2 ^ (20*i)*D:Nat):Int):=by rw [aG1];simp [ak8]
 have e3:(D:Int)*pw i=((2 ^ (20*i)*D:Nat):Int):=by rw [aG1];simp [ak8]
 rw [e2] at h2
 have hU:U<2 ^ (20*i):=by rw [aG1] at hu2;omega
 have k1:(BitVec.ofInt (IntKind.bits .u64) (U:Int) ||| BitVec.ofInt (IntKind.bits .u64) ((2 ^ (20*i)*D:Nat):Int)).toNat=U+2 ^ (20*i)*D:=by
  show (BitVec.ofInt 64 _ ||| BitVec.ofInt 64 _).toNat=_
  rw [BitVec.toNat_or,BitVec.toNat_ofInt,BitVec.toNat_ofInt]
  rw [ad2 (by omega) (by omega),ad2 (by omega) (by omega),lbY,lbY,Nat.or_comm,←Nat.two_pow_add_eq_or_of_lt hU,Nat.add_comm]
 rw [e2,e3]
 unfold a4G
 simp only
 rw [k1]
 exact (ah0 (by omega) h2).symm
structure b1k (n:Nat) (k:Nat) (u:Int):Prop where
 eq:u=val ((dg n).take k)
 le:k<=(dg n).length
 lt:k=4->u<9*1152921504606846976
theorem b1k.rng {n k:Nat} {u:Int} (h:b1k n k u):0<=u∧u<pw k:=by
 have h1:=o7 ((x7 n).take k)
 have h2:=Y1 ((x7 n).take k)
 rw [lbs,a12 h.le,←h.eq] at h2
 rw [← h.eq] at h1
 exact ⟨h1,h2⟩
theorem b1k.step {n k:Nat} {u:Int} (h:b1k n k u) (hk:k<(dg n).length) (hd:k=3->dat (dg n) k<=8):b1k n (k+1) (u+dat (dg n) k*pw k):=by
 have hr:=h.rng
 refine ⟨by rw [p4,h.eq,ak8],hk,fun h4=>?_⟩
 have:k=3:=by omega
 subst this
 have:=hd rfl
 simp only [pw] at hr ⊢
 omega
theorem bc7 {k:Nat} (h:k<=3):pw k<=1152921504606846976:=by
 have:=a1F h
 simp only [pw] at this ⊢
 omega
theorem bb2 {k:Nat} (h:k<=2):pw k<=1099511627776:=by
 have:=a1F h
 simp only [pw] at this ⊢
 omega
theorem aF1 {a a':Int} {b b':Bool} {k:IntKind} {H1:Hp} (h:a=a') (h2:b=b'):Fin 0 (.tup [a7 k a,d9 b]) H1 (.tup [a7 k a',d9 b']) []:=by
 subst h h2;exact l9 ⟨rfl,rfl,trivial⟩
theorem b10 {x:Int} (h1:9223372036854775808<=x) (h2:x<18446744073709551616):E1 .i64 x (x - 18446744073709551616):=by
 unfold E1
 simp only [IntKind.wrap,IntKind.bits,IntKind.signed]
 simp
 omega
abbrev a8k (x:Int):Prop:=-9223372036854775808<=x∧x<=9223372036854775807
theorem b9F (x:Int) (lx:bl x<=200000):a8 Tryz.prog 124 [bgS (bz x)] [] (.tup [a7 .i64 (if a8k x then x else 0),d9 (decide (a8k x))]) []:=by
 have r1:=a4z x (by omega)
 have l1:((bz x).dl.map i5).length=(dg x.natAbs).length:=by simp [bz]
 have l2:(bz x).dl=dg x.natAbs:=rfl
 have hlast:∀k:Nat,k<(dg x.natAbs).length->pw k<=x.natAbs:=fun k hk=>Int.le_trans (a1F (by omega)) (aH6 (by
  rcases a3U x.natAbs with h|h
  ·rw [h,a1D] at hk;simp at hk
  ·exact h))
 (refine ac Tryz.func124 ?_;(conv=>whnf);repeat (refine zy ?_;conv=>whnf))
 repeat' (first|refine zx ?_|refine qp r1 ?_|refine zd ?_ ?_<;>intro h<;>try omega|fail)<;>conv=>whnf
 ·have hl:4<(dg x.natAbs).length:=by omega
  have:=hlast 4 hl
  simp only [pw] at this
  have hn:¬a8k x:=by unfold a8k;omega
  exact aF1 (by rw [if_neg hn]) (by simp [hn])
 ·refine t8 c9 (σ:=Nat × Int) (fun|(k,u)=>([J,S.c (C.ptr 0 0 0),J,J,a7 .u64 u]++Jn 12++[j1 (dg x.natAbs),a7 .i64 (dg x.natAbs).length,a7 .i64 k]++Jn 39,[bgB (bz x)])) (fun s=>b1k x.natAbs s.1 s.2) (fun s=>(dg x.natAbs).length - s.1) (0,0) [some 0]
   ⟨by simp [val],by omega,by omega⟩ ⟨rfl,rfl,⟨⟨rfl,rfl,rfl,.inl ⟨rfl,a4g _⟩⟩,trivial⟩,⟨⟨rfl,rfl,rfl⟩,rfl,i8 rfl,c7 (by omega),rfl,trivial⟩⟩ ?_
  rintro ⟨k,u⟩ hI
  have hI:b1k x.natAbs k u:=hI
  have hr:=hI.rng
  have hle:=hI.le
  have hd:=(x7 x.natAbs).dat k
  have hp:=P3 k
  have hp3:k<=3->pw k<=1152921504606846976:=bc7
  have hdm:0<=dat (dg x.natAbs) k*pw k:=lb0 hd.1 (by omega)
  have l3:((dg x.natAbs).map i5).length=(dg x.natAbs).length:=by simp
  have hp2:k<=2->pw k<=1099511627776:=bb2
  have hA:k<=3->(k=3->dat (dg x.natAbs) k<=8)->u+dat (dg x.natAbs) k*pw k<18446744073709551616:=fun h3 h8=>by
   by_cases hk:k=3
   ·have:=lbX (c:=pw k) (h8 hk) (by omega)
    have:=hp3 h3
    omega
   ·have:=lbX (c:=pw k) (show dat (dg x.natAbs) k<=1048575 by omega) (by omega)
    have:=hp2 (by omega)
    omega
  have hE:k=(dg x.natAbs).length->u=x.natAbs:=fun h=>by
   have:=hI.eq
   rw [h,lbn (lbS _),u7] at this
   exact this
  have hs:=L6 x
  have hsg:(bz x).sg=x.sign:=rfl
  conv=>whnf
  repeat' (first|refine zx ?_|refine d6 (w6 (by omega)) ?_|refine ⟨_,aQ8 (by omega) (by omega),?_⟩|refine ⟨by omega,_,bk9 (i:=k) (by omega) (by omega) (by omega) (by omega),?_⟩|refine ⟨_,oru (by omega) (by omega) (by omega) (by omega),?_⟩|refine ⟨_,a0F (y:=18446744073709551616 - u) (by omega),?_⟩|refine ⟨_,b10 (by omega) (by omega),?_⟩|refine zd ?_ ?_<;>intro h<;>try omega|fail)<;>conv=>whnf
  ·have hk:k=3:=by omega
   have h8:9<=dat (dg x.natAbs) k:=by omega
   have h1:=p4 (dg x.natAbs) k
   have h4:val (dg x.natAbs)=val ((dg x.natAbs).take (k+1)):=by rw [lbn (by omega)]
   rw [u7] at h4
   have h5:=o7 ((x7 x.natAbs).take k)
   have h6:=lbW (a:=9) (b:=dat (dg x.natAbs) k) (c:=pw k) h8 (by omega)
   have h7:pw k=1152921504606846976:=by rw [hk];rfl
   have hn:¬a8k x:=by unfold a8k;omega
   exact aF1 (by rw [if_neg hn]) (by simp [hn])
  ·have hst:=hI.step (by omega) (by omega)
   exact ⟨[some 0],(k+1,u+dat (dg x.natAbs) k*pw k),⟨rfl,rfl,⟨⟨rfl,rfl,rfl,.inl ⟨rfl,a4g _⟩⟩,trivial⟩,⟨⟨rfl,rfl,rfl⟩,rfl,rfl,rfl,c7 (by omega),trivial⟩⟩,hst,by show (dg x.natAbs).length - (k+1)<(dg x.natAbs).length - k;omega⟩
  ·have hst:=hI.step (by omega) (by omega)
   exact ⟨[some 0],(k+1,u+dat (dg x.natAbs) k*pw k),⟨rfl,rfl,⟨⟨rfl,rfl,rfl,.inl ⟨rfl,a4g _⟩⟩,trivial⟩,⟨⟨rfl,rfl,rfl⟩,rfl,rfl,rfl,c7 (by omega),trivial⟩⟩,hst,by show (dg x.natAbs).length - (k+1)<(dg x.natAbs).length - k;omega⟩
  all_goals
   have hu:=hE (by omega)
   first
    |(have hn:a8k x:=by unfold a8k;omega
      exact aF1 (by rw [if_pos hn];omega) (by simp [hn]))
    |(have hn:¬a8k x:=by unfold a8k;omega
      exact aF1 (by rw [if_neg hn]) (by simp [hn]))
abbrev frC (f:Fr):List C:=[.t (ti f.p.sg),.t (I3 f.p.dl),.t (ti f.q.sg),.t (I3 f.q.dl)]
abbrev frS (f:Fr):S:=.agg (frC f)
theorem bj7 (x:Int) (lx:bl x<=200000):a8 Tryz.prog 80 [bgS (bz x)] [] (d9 (x == 1)) []:=by
 have i:=b9F x lx
 by_cases h:a8k x
 ·rw [if_pos h,show decide (a8k x)=true by simp [h]] at i
  (refine ac Tryz.func80 ?_;(conv=>whnf);repeat (refine zy ?_;conv=>whnf))
  repeat' (first|refine zx ?_|refine qp i ?_|refine zd ?_ ?_<;>intro h<;>try omega|fail)<;>conv=>whnf
  all_goals (refine b9 ?_;simp;omega)
 ·rw [if_neg h,show decide (a8k x)=false by simp [h]] at i
  have hx:x≠1:=by rintro rfl;exact h (by decide)
  (refine ac Tryz.func80 ?_;(conv=>whnf);repeat (refine zy ?_;conv=>whnf))
  repeat' (first|refine zx ?_|refine qp i ?_|refine zd ?_ ?_<;>intro h<;>try omega|fail)<;>conv=>whnf
  all_goals (refine b9 ?_;simp;omega)
theorem a4k (f:Fr) (lp:f.p.dl.length<=200000) (lq:f.q.dl.length<=200000):a8 Tryz.prog 34 [frS f] [] (d9 (o6 f)) []:=by
 obtain ⟨p,q⟩:=f
 simp only at lp lq
 have r1:=a2y p (by omega)
 have r2:=a2y q (by omega)
 cases hp:M7 p with
 |false=>
  rw [hp] at r1
  (refine ac Tryz.func34 ?_;(conv=>whnf);repeat (refine zy ?_;conv=>whnf))
  repeat' (first|refine zx ?_|refine qp r1 ?_|refine qp r2 ?_|refine zd ?_ ?_<;>intro h<;>try omega|fail)<;>conv=>whnf
  all_goals (first|(exfalso;simp_all;done)|(refine b9 ?_;unfold o6;simp [hp]))
 |true=>
  rw [hp] at r1
  cases hq:M7 q with
  |false=>
   rw [hq] at r2
   (refine ac Tryz.func34 ?_;(conv=>whnf);repeat (refine zy ?_;conv=>whnf))
   repeat' (first|refine zx ?_|refine qp r1 ?_|refine qp r2 ?_|refine zd ?_ ?_<;>intro h<;>try omega|fail)<;>conv=>whnf
   all_goals (first|(exfalso;simp_all;done)|(refine b9 ?_;unfold o6;simp [hq]))
  |true=>
   rw [hq] at r2
   obtain ⟨x,rfl⟩:=aT5 hp
   obtain ⟨y,rfl⟩:=aT5 hq
   have g:=b0P x y lp lq
   have o:=bj7 (Int.gcd x y) (b0F x y lp lq)
   (refine ac Tryz.func34 ?_;(conv=>whnf);repeat (refine zy ?_;conv=>whnf))
   repeat' (first|refine zx ?_|refine qp r1 ?_|refine qp r2 ?_|refine qp g ?_|refine qp o ?_|refine zd ?_ ?_<;>intro h<;>try omega|fail)<;>conv=>whnf
   all_goals (refine b9 ?_;unfold o6;simp only [a2k,a6B,F7];symm;simp_all<;>omega)
theorem a0v (x y:Int) (lx:bl x<=200000) (ly:bl y<=200000):a8 Tryz.prog 84 [bgS (bz x),bgS (bz y)] [] (bgS (bz (x*y))) []:=by
 have mu:=bc0 x y lx ly
 (refine ac Tryz.func84 ?_;(conv=>whnf);repeat (refine zy ?_;conv=>whnf))
 repeat' (first|refine zx ?_|refine qp mu ?_|refine zd ?_ ?_<;>intro h<;>try omega|fail)<;>conv=>whnf
 exact l9 ⟨rfl,rfl,trivial⟩
theorem a1Q {f f':Fr} {e:Int} {H1:Hp} (h:f=f'):Fin 0 (.tup [frS f,a7 .i64 e]) H1 (.tup [frS f',a7 .i64 e]) []:=by
 subst h;exact l9 ⟨⟨rfl,rfl,rfl,rfl,trivial⟩,rfl,trivial⟩
theorem az3 (p q:Int) (hq:q≠0) (lp:bl p<=200000) (lq:bl q<=200000):a8 Tryz.prog 87 [bgS (bz p),bgS (bz q)] [] (.tup [frS (fz (Rat.divInt p q)),a7 .i64 0]) []:=by
 have r1:=a4z p (by omega)
 have r2:=a4z q (by omega)
 have hs:=L6 q
 have hsg:(bz q).sg=q.sign:=rfl
 by_cases h:q<0
 ·have n1:=a7V p (by omega)
  have n2:=a7V q (by omega)
  have lg:=b0F (-p) (-q) (by rw [a3i];exact lp) (by rw [a3i];exact lq)
  have hg:0<(Int.gcd (-p) (-q):Int):=by have:=Int.gcd_pos_of_ne_zero_right (-p) (b:=-q) (by omega);omega
  have g:=b0P (-p) (-q) (by rw [a3i];exact lp) (by rw [a3i];exact lq)
  have d1:=az2 (-p) _ hg (by rw [a3i];exact lp) lg
  have d2:=az2 (-q) _ hg (by rw [a3i];exact lq) lg
  have e:=ar5 (p:=-p) (q:=-q) (by omega) rfl
  rw [Rat.neg_divInt_neg] at e
  (refine ac Tryz.func87 ?_;(conv=>whnf);repeat (refine zy ?_;conv=>whnf))
  repeat' (first|refine zx ?_|refine qp r1 ?_|refine qp r2 ?_|refine qp n1 ?_|refine qp n2 ?_|refine qp g ?_|refine qp d1 ?_|refine qp d2 ?_|refine zd ?_ ?_<;>intro h<;>try omega|fail)<;>conv=>whnf
  all_goals first
   |(exfalso;simp_all;done)
   |omega
   |exact a1Q e.symm
 ·have lg:=b0F p q lp lq
  have hg:0<(Int.gcd p q:Int):=by have:=Int.gcd_pos_of_ne_zero_right p (b:=q) (by omega);omega
  have g:=b0P p q lp lq
  have d1:=az2 p _ hg lp lg
  have d2:=az2 q _ hg lq lg
  have e:=ar5 (p:=p) (q:=q) (by omega) rfl
  (refine ac Tryz.func87 ?_;(conv=>whnf);repeat (refine zy ?_;conv=>whnf))
  repeat' (first|refine zx ?_|refine qp r1 ?_|refine qp r2 ?_|refine qp g ?_|refine qp d1 ?_|refine qp d2 ?_|refine zd ?_ ?_<;>intro h<;>try omega|fail)<;>conv=>whnf
  all_goals first
   |omega
   |(exfalso;simp_all;done)
   |exact a1Q e.symm
theorem G0 (x:Rat) (lx:rl x<=200000):a8 Tryz.prog 34 [frS (fz x)] [] (d9 true) []:=by
 have h:=a4k (fz x) (lbT (O2 x) lx) (lbT (P1 x) lx)
 rw [a9V] at h
 exact h
theorem a3j (x y:Rat) (lx:rl x<=60000) (ly:rl y<=60000):a8 Tryz.prog 41 [frS (fz x),frS (fz y)] [] (.tup [frS (fz (x+y)),a7 .i64 0]) []:=by
 have r1:=G0 x (by omega)
 have r2:=G0 y (by omega)
 have x1:=O2 x
 have x2:=P1 x
 have y1:=O2 y
 have y2:=P1 y
 have l1:=O1 x.num y.den
 have l2:=O1 y.num x.den
 have l3:=O1 x.den y.den
 have l4:=aF8 (x.num*y.den) (y.num*x.den)
 have t1:=a0v x.num y.den (by omega) (by omega)
 have t2:=a0v y.num x.den (by omega) (by omega)
 have t3:=a0v x.den y.den (by omega) (by omega)
 have a:=ba0 (x.num*y.den) (y.num*x.den) (by omega) (by omega)
 have n:=az3 (x.num*y.den+y.num*x.den) (x.den*y.den) (a9E x y) (by omega) (by omega)
 rw [← b2i] at n
 (refine ac Tryz.func41 ?_;(conv=>whnf);repeat (refine zy ?_;conv=>whnf))
 repeat' (first|refine zx ?_|refine qp r1 ?_|refine qp r2 ?_|refine qp t1 ?_|refine qp t2 ?_|refine qp t3 ?_|refine qp a ?_|refine qp n ?_|refine qp 13 ?_|refine bl0 [13] ?_|refine zd ?_ ?_<;>intro h<;>try omega|fail)<;>conv=>whnf
 all_goals first
  |(exfalso;simp_all;done)
  |exact a1Q rfl
theorem b0T (x y:Rat) (lx:rl x<=60000) (ly:rl y<=60000):a8 Tryz.prog 40 [frS (fz x),frS (fz y)] [] (.tup [frS (fz (x - y)),a7 .i64 0]) []:=by
 have r1:=G0 x (by omega)
 have r2:=G0 y (by omega)
 have y1:=O2 y
 have n:=a7V y.num (by omega)
 have a:=a3j x (-y) lx (by rw [M9];exact ly)
 rw [← Rat.sub_eq_add_neg] at a
 have e:fz (-y)=⟨bz (-y.num),bz y.den⟩:=rfl
 rw [e] at a
 (refine ac Tryz.func40 ?_;(conv=>whnf);repeat (refine zy ?_;conv=>whnf))
 repeat' (first|refine zx ?_|refine qp r1 ?_|refine qp r2 ?_|refine qp n ?_|refine qp a ?_|refine zd ?_ ?_<;>intro h<;>try omega|fail)<;>conv=>whnf
 all_goals first
  |(exfalso;simp_all;done)
  |exact a1Q rfl
theorem aF7 (x y:Rat) (lx:rl x<=60000) (ly:rl y<=60000):a8 Tryz.prog 116 [frS (fz x),frS (fz y)] [] (.tup [frS (fz (x*y)),a7 .i64 0]) []:=by
 have r1:=G0 x (by omega)
 have r2:=G0 y (by omega)
 have x1:=O2 x
 have x2:=P1 x
 have y1:=O2 y
 have y2:=P1 y
 have l1:=O1 x.num y.num
 have l3:=O1 x.den y.den
 have t1:=a0v x.num y.num (by omega) (by omega)
 have t3:=a0v x.den y.den (by omega) (by omega)
 have n:=az3 (x.num*y.num) (x.den*y.den) (a9E x y) (by omega) (by omega)
 rw [← b1N] at n
 (refine ac Tryz.func116 ?_;(conv=>whnf);repeat (refine zy ?_;conv=>whnf))
 repeat' (first|refine zx ?_|refine qp r1 ?_|refine qp r2 ?_|refine qp t1 ?_|refine qp t3 ?_|refine qp n ?_|refine zd ?_ ?_<;>intro h<;>try omega|fail)<;>conv=>whnf
 all_goals first
  |(exfalso;simp_all;done)
  |exact a1Q rfl
theorem b6s (x y:Rat):R5 (x.num*y.den) (y.num*x.den)=X4 x y:=by
 unfold R5 X4
 simp only [← Rat.lt_iff]
theorem J2 (x y:Rat) (lx:rl x<=60000) (ly:rl y<=60000):a8 Tryz.prog 37 [frS (fz x),frS (fz y)] [] (a7 .i64 (X4 x y)) []:=by
 have r1:=G0 x (by omega)
 have r2:=G0 y (by omega)
 have x1:=O2 x
 have x2:=P1 x
 have y1:=O2 y
 have y2:=P1 y
 have l1:=O1 x.num y.den
 have l2:=O1 y.num x.den
 have t1:=a0v x.num y.den (by omega) (by omega)
 have t2:=a0v y.num x.den (by omega) (by omega)
 have c:=b05 (x.num*y.den) (y.num*x.den) (by omega) (by omega)
 rw [b6s] at c
 (refine ac Tryz.func37 ?_;(conv=>whnf);repeat (refine zy ?_;conv=>whnf))
 repeat' (first|refine zx ?_|refine qp r1 ?_|refine qp r2 ?_|refine qp t1 ?_|refine qp t2 ?_|refine qp c ?_|refine zd ?_ ?_<;>intro h<;>try omega|fail)<;>conv=>whnf
 all_goals first
  |(exfalso;simp_all;done)
  |exact n6 rfl
theorem D9 (x:Rat) (lx:rl x<=60000):a8 Tryz.prog 32 [frS (fz x)] [] (a7 .i64 (sgR x)) []:=by
 have r1:=G0 x (by omega)
 (refine ac Tryz.func32 ?_;(conv=>whnf);repeat (refine zy ?_;conv=>whnf))
 repeat' (first|refine zx ?_|refine qp r1 ?_|refine zd ?_ ?_<;>intro h<;>try omega|fail)<;>conv=>whnf
 all_goals first
  |(exfalso;simp_all;done)
  |exact n6 (aj4 x)
theorem bj2 (p q:Int) (hq:q≠0) (p0:-9223372036854775808<=p) (p1:p<=9223372036854775807) (q0:-9223372036854775808<=q) (q1:q<=9223372036854775807):
 a8 Tryz.prog 170 [a7 .i64 p,a7 .i64 q] [] (.tup [frS (fz (Rat.divInt p q)),a7 .i64 0]) []:=by
 have l1:=a0f p0 p1
 have l2:=a0f q0 q1
 have o1:=b2d p p0 p1
 have o2:=b2d q q0 q1
 have n:=az3 p q hq (by omega) (by omega)
 (refine ac Tryz.func170 ?_;(conv=>whnf);repeat (refine zy ?_;conv=>whnf))
 repeat' (first|refine zx ?_|refine qp o1 ?_|refine qp o2 ?_|refine qp n ?_|refine zd ?_ ?_<;>intro h<;>try omega|fail)<;>conv=>whnf
 all_goals exact a1Q rfl
theorem bc5 (n:Int):fz (n:Rat)=⟨bz n,bz 1⟩:=by unfold fz;rw [Rat.num_intCast,Rat.den_intCast];rfl
theorem B3 (n:Int) (p0:-9223372036854775808<=n) (p1:n<=9223372036854775807):a8 Tryz.prog 35 [a7 .i64 n] [] (frS (fz (n:Rat))) []:=by
 have o1:=b2d n p0 p1
 have o2:=b2d 1 (by decide) (by decide)
 rw [bc5]
 (refine ac Tryz.func35 ?_;(conv=>whnf);repeat (refine zy ?_;conv=>whnf))
 repeat' (first|refine zx ?_|refine qp o1 ?_|refine qp o2 ?_|refine zd ?_ ?_<;>intro h<;>try omega|fail)<;>conv=>whnf
 all_goals exact l9 ⟨rfl,rfl,rfl,rfl,trivial⟩
theorem ad3 (x:Int) (lx:bl x<=200000):a8 Tryz.prog 205 [bgS (bz x)] [] (bgS (bz x)) []:=by
 have n1:=a7V x (by omega)
 have n2:=a7V (-x) (by rw [a3i];omega)
 rw [Int.neg_neg] at n2
 (refine ac Tryz.func205 ?_;(conv=>whnf);repeat (refine zy ?_;conv=>whnf))
 repeat' (first|refine zx ?_|refine qp n1 ?_|refine qp n2 ?_|refine zd ?_ ?_<;>intro h<;>try omega|fail)<;>conv=>whnf
 all_goals exact l9 ⟨rfl,rfl,trivial⟩
def a0E (c:L9):Bool:=
 decide (0<=c.since) && decide (c.since<=c.till) && decide (c.till<=100000) && idx c.scale 30 && btw c.grams 0 1099511627776 && btw c.permille 0 1000 && btw c.drift 0 10000000
def Z1 (c:L9) (day:Int):Bool:=a0E c && btw day c.since c.till
def aC8 (cs:List L9) (i:Nat):Int:=((cs[i]?).map (·.since)).getD 0
def a8A (cs:List L9) (o:Option Nat) (c:L9):Bool:=match o with
 |none=>true
 |some b=>decide (aC8 cs b<=c.since)
def P2 (cs:List L9) (scale day:Int):Nat->Option Nat
 |0=>none
 |k+1=>match cs[k]? with
  |none=>P2 cs scale day k
  |some c=>if decide (c.scale=scale) && Z1 c day && a8A cs (P2 cs scale day k) c then some k else P2 cs scale day k
theorem U6 {cs:List L9} {scale day:Int}:∀{k b:Nat},P2 cs scale day k=some b->b<k∧∃c,cs[b]? =some c∧c.scale=scale∧Z1 c day=true
 |0,b,h=>by simp [P2] at h
 |k+1,b,h=>by
  unfold P2 at h
  split at h
  ·obtain ⟨h1,h2⟩:=U6 h;exact ⟨by omega,h2⟩
  ·rename_i c hc
   split at h
   ·rename_i hcc
    injection h with h
    subst h
    simp only [lbO,lbJ] at hcc
    exact ⟨by omega,c,hc,hcc.1.1,hcc.1.2⟩
   ·obtain ⟨h1,h2⟩:=U6 h;exact ⟨by omega,h2⟩
def a9G (rs:List F0) (scale day:Int):Bool:=rs.any fun r=>decide (r.scale=scale) && decide (r.since<=day)
def a7p (c:L9) (reading day:Int):Rat:=Rat.divInt (c.permille*reading) 1000+((c.grams+c.drift*(day - c.since):Int):Rat)
def aX4 (x y:Rat):Rat:=if x<y then y else x
def b4s:L9:=⟨0,0,0,0,0,0⟩
def a48 (cs:List L9) (i:Nat):L9:=(cs[i]?).getD b4s
def S5 (cs:List L9) (rs:List F0) (scale reading day:Int):Option (Rat × Rat):=
 match P2 cs scale day cs.length with
 |none=>none
 |some i=>if a9G rs scale day then none else if btw reading 0 1099511627776 then
   some (aX4 ((reading:Rat) - a7p (a48 cs i) reading day) ((0:Int):Rat),(reading:Rat)+a7p (a48 cs i) reading day) else none
def bl5 (l:List Rat):Rat:=l.foldl (·+·) ((0:Int):Rat)
def hz (H:List (List Rat)):List (List Fr):=H.map (·.map fz)
theorem L5 {l:List Fr} (h:l.all o6=true):∃L:List Rat,l=L.map fz:=by
 induction l with
 |nil=>exact ⟨[],rfl⟩
 |cons f r ih=>
  simp only [a9Q,lbO] at h
  obtain ⟨L,rfl⟩:=ih h.2
  exact ⟨fv f::L,by simp [← bh1 h.1]⟩
structure bi9 (e:Ev) (H:List (List Rat)):Prop where
 len:H.length=e.moves.length
 wid:∀l ∈ H,(l.length:Int)=e.mats
def hAt (H:List (List Rat)) (k m:Nat):Rat:=(H.getD k []).getD m 0
def ae1 (x:t7) (v:Nat->Rat) (f:Nat->Nat->Rat):Nat->Nat->Rat:=fun p m=>if x.src=(p:Int) then f p m - v m else if x.dst=(p:Int) then f p m+v m else f p m
def stk (e:Ev) (H:List (List Rat)):Nat->Nat->Nat->Rat
 |0=>fun _ _=>((0:Int):Rat)
 |k+1=>match e.moves[k]? with
  |none=>stk e H k
  |some x=>ae1 x (hAt H k) (stk e H k)
def inB (iv:Option (Rat × Rat)) (mass:Rat):Bool:=match iv with
 |none=>true
 |some (lo,hi)=>decide (lo<=mass) && decide (mass<=hi)
def bi2 (e:Ev) (x:t7) (mass:Rat):Bool:=if x.scale=-1 then true else inB (S5 e.certs e.recalls x.scale x.reading x.day) mass
theorem b3m {x:t7} {v:Nat->Rat} {f:Nat->Nat->Rat} {B C:Nat} (hv:∀m,rl (v m)<=B) (hf:∀p m,rl (f p m)<=C) (p m:Nat):rl (ae1 x v f p m)<=C+(B+1):=by
 unfold ae1
 have h1:=hf p m
 have h2:=hv m
 have h3:=b0B (f p m) (v m)
 have h4:=Y6 (f p m) (v m)
 split
 ·omega
 ·split<;>omega
theorem a6s:rl ((0:Int):Rat)=1:=by rw [V4];rfl
theorem ba8 {H:List (List Rat)} {B:Nat} (hB:∀l ∈ H,∀x ∈ l,rl x<=B) (h1:1<=B) (k m:Nat):rl (hAt H k m)<=B:=by
 unfold hAt
 rw [lbl,lbl]
 cases hk:H[k]? with
 |none=>
  have:rl 0=1:=a6s
  simp only [Option.getD_none,List.getElem?_nil]
  omega
 |some l=>
  simp only [ac4]
  cases hm:l[m]? with
  |none=>
   have:rl 0=1:=a6s
   simp only [Option.getD_none]
   omega
  |some x=>exact hB l (lbm hk) x (lbm hm)
theorem b5g {e:Ev} {H:List (List Rat)} {B:Nat} (hB:∀l ∈ H,∀x ∈ l,rl x<=B) (h1:1<=B):∀k p m,rl (stk e H k p m)<=k*(B+1)+1
 |0,p,m=>by unfold stk;rw [a6s];omega
 |k+1,p,m=>by
  have ih:=b5g hB h1 (e:=e) k
  unfold stk
  cases hx:e.moves[k]? with
  |none=>have:=ih p m;rw [lbV];simp only;omega
  |some x=>
   simp only
   have:=b3m (x:=x) (ba8 hB h1 k) ih p m
   rw [lbV];omega
theorem a6X {x y:Rat}:X4 x y<0↔x<y:=by unfold X4;split<;>(try split)<;>simp_all
theorem b6l (x y:Rat):-1<=X4 x y∧X4 x y<=1:=by unfold X4;split<;>(try split)<;>omega
theorem b9y (x y:Rat) (lx:rl x<=60000) (ly:rl y<=60000):a8 Tryz.prog 128 [frS (fz x),frS (fz y)] [] (.tup [frS (fz (aX4 x y)),a7 .i64 0]) []:=by
 have e:a8 Tryz.prog 171 [frS (fz x),frS (fz y),a7 .i64 1] [] (.tup [frS (fz (aX4 x y)),a7 .i64 0]) []:=by
  have r1:=G0 x (by omega)
  have r2:=G0 y (by omega)
  have x1:=O2 x
  have x2:=P1 x
  have y1:=O2 y
  have y2:=P1 y
  have c:=J2 x y lx ly
  have hr:=b6l x y
  have s1:=ad3 x.num (by omega)
  have s2:=ad3 x.den (by omega)
  have s3:=ad3 y.num (by omega)
  have s4:=ad3 y.den (by omega)
  (refine ac Tryz.func171 ?_;(conv=>whnf);repeat (refine zy ?_;conv=>whnf))
  repeat' (first|refine zx ?_|refine qp r1 ?_|refine qp r2 ?_|refine qp c ?_|refine qp s1 ?_|refine qp s2 ?_|refine qp s3 ?_|refine qp s4 ?_|refine zd ?_ ?_<;>intro h<;>try omega|fail)<;>conv=>whnf
  ·have h:X4 x y<0:=by omega
   refine a1Q (f:=fz y) ?_
   unfold aX4;rw [if_pos (a6X.1 h)]
  ·have h:¬X4 x y<0:=by omega
   refine a1Q (f:=fz x) ?_
   unfold aX4;rw [if_neg (fun h'=>h (a6X.2 h'))]
 (refine ac Tryz.func128 ?_;(conv=>whnf);repeat (refine zy ?_;conv=>whnf))
 repeat' (first|refine zx ?_|refine qp e ?_|refine zd ?_ ?_<;>intro h<;>try omega|fail)<;>conv=>whnf
 all_goals exact a1Q rfl
theorem a43 (n m:Int):a8 Tryz.prog 169 [a7 .i64 n,a7 .i64 m] [] (d9 (btw n 0 m)) []:=by
 (refine ac Tryz.func169 ?_;(conv=>whnf);repeat (refine zy ?_;conv=>whnf))
 repeat' (first|refine zx ?_|refine zd ?_ ?_<;>intro h<;>try omega|fail)<;>conv=>whnf
 all_goals (refine b9 ?_;unfold btw;simp;omega)
abbrev b5k (c:L9):S:=.agg (c.row.map .t)
theorem b3t (n:Int):btw n 0 29=idx n 30:=b7W n 30
theorem aP0 (c:L9):a8 Tryz.prog 203 [b5k c] [] (d9 (a0E c)) []:=by
 have w1:=a43 c.scale 29
 have w2:=a43 c.grams 1099511627776
 have w3:=a43 c.permille 1000
 have w4:=a43 c.drift 10000000
 rw [b3t] at w1
 unfold a0E
 cases h1:idx c.scale 30<;>cases h2:btw c.grams 0 1099511627776<;>cases h3:btw c.permille 0 1000<;>cases h4:btw c.drift 0 10000000<;>rw [h1] at w1<;>rw [h2] at w2<;>rw [h3] at w3<;>rw [h4] at w4<;>
 ·(refine ac Tryz.func203 ?_;(conv=>whnf);repeat (refine zy ?_;conv=>whnf))
  repeat' (first|refine zx ?_|refine qp w1 ?_|refine qp w2 ?_|refine qp w3 ?_|refine qp w4 ?_|refine zd ?_ ?_<;>intro h<;>try omega|fail)<;>conv=>whnf
  all_goals (refine b9 ?_;simp;try omega)
theorem aO5 (c:L9) (day:Int):a8 Tryz.prog 166 [b5k c,a7 .i64 day] [] (d9 (Z1 c day)) []:=by
 have w1:=aP0 c
 unfold Z1
 cases h1:a0E c<;>rw [h1] at w1<;>
 ·(refine ac Tryz.func166 ?_;(conv=>whnf);repeat (refine zy ?_;conv=>whnf))
  repeat' (first|refine zx ?_|refine qp w1 ?_|refine zd ?_ ?_<;>intro h<;>try omega|fail)<;>conv=>whnf
  all_goals (refine b9 ?_;simp [btw];try omega)
theorem b78 {cs:List L9} {k:Nat} {c:L9} (h:cs[k]? =some c):aC8 cs k=c.since:=by unfold aC8;rw [h];rfl
abbrev b8D (n:Int):T:=.ptr [ti n]
theorem b6c {a b:Bool} {ρ:List (Option Nat)} {H:Hp} (h:a=b):a5Z ρ H (d9 a) (d9 b):=by subst h;exact rfl
def ac3 (o:Option Nat):Nat:=o.getD 0
theorem b9z (cs:List L9) (scale day:Int) (hl:cs.length<=1000000):
 a8 Tryz.prog 125 [.c (.t (a1R cs)),a7 .i64 scale,a7 .i64 day] [] (.tup [a7 .i64 (ac3 (P2 cs scale day cs.length)),d9 (P2 cs scale day cs.length).isSome]) []:=by
 have l1:(cs.map L9.row).length=cs.length:=by simp
 (refine ac Tryz.func125 ?_;(conv=>whnf);repeat (refine zy ?_;conv=>whnf))
 repeat' (first|refine zx ?_|refine zd ?_ ?_<;>intro h<;>try omega|fail)<;>conv=>whnf
 refine i3 c9 (fun k=>([S.c (C.t (a1R cs)),a7 .i64 scale,a7 .i64 day,J,J,J,J,J,a7 .i64 (ac3 (P2 cs scale day k)),d9 (P2 cs scale day k).isSome,J,J,S.c (C.t (a1R cs)),a7 .i64 cs.length,a7 .i64 k]++Jn 31,[])) cs.length (fun _=>True) [] trivial
  ⟨rfl,rfl,trivial,⟨i8 rfl,rfl,rfl,rfl,rfl,i8 rfl,c7 (by simp),rfl,trivial⟩⟩ ?_
 intro k hk _
 by_cases hlt:k<cs.length
 ·obtain ⟨c,hc⟩:∃c,cs[k]? =some c:=⟨_,lbf hlt⟩
  have cv:=aO5 c day
  have hst:P2 cs scale day (k+1)=if decide (c.scale=scale) && Z1 c day && a8A cs (P2 cs scale day k) c then some k else P2 cs scale day k:=by
   conv=>lhs;unfold P2
   rw [hc]
  cases hcv:Z1 c day with
  |false=>
   rw [hcv] at cv hst
   simp only [aA2,a8r,a8N,if_false] at hst
   rw [← hst]
   conv=>whnf
   repeat' (first|refine zx ?_|refine qp cv ?_|refine d6 hc ?_|refine zd ?_ ?_<;>intro h<;>try omega|fail)<;>conv=>whnf
   all_goals first
    |omega
    |exact ⟨hlt,trivial,[],rfl,rfl,trivial,⟨rfl,rfl,rfl,rfl,rfl,rfl,rfl,rfl,trivial⟩⟩
  |true=>
   rw [hcv] at cv hst
   cases hf:P2 cs scale day k with
   |none=>
    rw [hf] at hst
    conv=>whnf
    repeat' (first|refine zx ?_|refine qp cv ?_|refine d6 hc ?_|refine zd ?_ ?_<;>intro h<;>try omega|fail)<;>conv=>whnf
    ·exact ⟨hlt,trivial,[],rfl,rfl,trivial,⟨rfl,rfl,rfl,c7 (by rw [hst];simp [*,a8A,ac3]),b6c (by rw [hst];simp [*,a8A]),rfl,rfl,rfl,trivial⟩⟩
    ·exact ⟨hlt,trivial,[],rfl,rfl,trivial,⟨rfl,rfl,rfl,c7 (by rw [hst];simp [*,a8A,ac3]),b6c (by rw [hst];simp [*,a8A]),rfl,rfl,rfl,trivial⟩⟩
   |some b=>
    rw [hf] at hst
    obtain ⟨hb,cb,hcb,_⟩:=U6 hf
    have hsb:=b78 hcb
    conv=>whnf
    repeat' (first|refine zx ?_|refine qp cv ?_|refine d6 hc ?_|refine d6 hcb ?_|refine zd ?_ ?_<;>intro h<;>try omega|fail)<;>conv=>whnf
    all_goals first
     |exact ⟨hlt,trivial,[],rfl,rfl,trivial,⟨rfl,rfl,rfl,c7 (by rw [hst];simp [*,a8A,ac3]),b6c (by rw [hst];simp [*,a8A]),rfl,rfl,rfl,trivial⟩⟩
     |(exfalso;simp_all;done)
 ·have hke:k=cs.length:=by omega
  subst hke
  conv=>whnf
  repeat' (first|refine zx ?_|refine zd ?_ ?_<;>intro h<;>try omega|fail)<;>conv=>whnf
  all_goals first
   |omega
   |exact l9 ⟨rfl,rfl,trivial⟩
theorem aD1 (r:F0) (scale day:Int):a8 Tryz.prog 168 (.agg (r.row.map .t)::[b8D scale,b8D day].map fun x=>.c (.t x)) [] (d9 (decide (r.scale=scale) && decide (r.since<=day))) []:=by
 (refine ac Tryz.func168 ?_;(conv=>whnf);repeat (refine zy ?_;conv=>whnf))
 repeat' (first|refine zx ?_|refine zd ?_ ?_<;>intro h<;>try omega|fail)<;>conv=>whnf
 all_goals (refine b9 ?_;simp [*];try omega)
abbrev bb4 (r:F0):S:=.agg (r.row.map .t)
def V9 {α:Type} (q:α->Bool):List α->Nat->Int
 |[],_=>-1
 |x::r,k=>if q x then k else V9 q r (k+1)
theorem a6a {α:Type} (q:α->Bool):∀(l:List α) (k:Nat),decide (0<=V9 q l k)=l.any q
 |[],k=>by simp [V9]
 |x::r,k=>by
  unfold V9
  rw [aG0]
  cases h:q x with
  |true=>simp
  |false=>simpa using a6a q r (k+1)
theorem b08 (rs:List F0) (hl:rs.length<=1000000) (g:FuncId) (caps:List T) (q:F0->Bool) (hg:∀r ∈ rs,a8 Tryz.prog g (bb4 r::caps.map fun x=>.c (.t x)) [] (d9 (q r)) []):
 a8 Tryz.prog 204 [.c (.t (P5 rs)),.c (.t (.fn (.func g) caps))] [] (a7 .i64 (V9 q rs 0)) []:=by
 have l1:(rs.map F0.row).length=rs.length:=by simp
 (refine ac Tryz.func204 ?_;(conv=>whnf);repeat (refine zy ?_;conv=>whnf))
 repeat' (first|refine zx ?_|refine zd ?_ ?_<;>intro h<;>try omega|fail)<;>conv=>whnf
 refine i3 c9 (fun k=>([S.c (C.t (P5 rs)),S.c (C.t (T.fn (.func g) caps)),J,J,J,J,J,a7 .i64 rs.length,a7 .i64 k]++Jn 10,[])) rs.length (fun k=>V9 q (rs.drop k) k=V9 q rs 0) [] rfl
  ⟨rfl,rfl,trivial,⟨i8 rfl,i8 rfl,c7 (by simp),rfl,trivial⟩⟩ ?_
 intro k hk hI
 by_cases hlt:k<rs.length
 ·obtain ⟨r,hr⟩:∃r,rs[k]? =some r:=⟨_,lbf hlt⟩
  have hd:rs.drop k=r::rs.drop (k+1):=by
   rw [a8p hlt]
   rw [lbf hlt] at hr
   injection hr with hr
   rw [hr]
  have hgr:=hg r (lbm hr)
  have ha:(bb4 r::caps.map fun x=>S.c (C.t x)).all S.isT=true:=by simp [S.isT,C.isT,F0.row]
  rw [hd] at hI
  have hI:(if q r then (k:Int) else V9 q (rs.drop (k+1)) (k+1))=V9 q rs 0:=hI
  cases hq:q r with
  |true=>
   rw [hq] at hgr hI
   conv=>whnf
   repeat' (first|refine zx ?_|refine .inl ⟨_,_,F9 hgr ha rfl,?_⟩|refine d6 hr ?_|refine zd ?_ ?_<;>intro h<;>try omega|fail)<;>conv=>whnf
   all_goals first
    |omega
    |exact n6 hI
  |false=>
   rw [hq] at hgr hI
   conv=>whnf
   repeat' (first|refine zx ?_|refine .inl ⟨_,_,F9 hgr ha rfl,?_⟩|refine d6 hr ?_|refine zd ?_ ?_<;>intro h<;>try omega|fail)<;>conv=>whnf
   all_goals first
    |omega
    |exact ⟨hlt,by simpa using hI,[],rfl,rfl,trivial,⟨rfl,rfl,rfl,rfl,trivial⟩⟩
 ·have hke:k=rs.length:=by omega
  subst hke
  rw [lbo (lbS _)] at hI
  conv=>whnf
  repeat' (first|refine zx ?_|refine zd ?_ ?_<;>intro h<;>try omega|fail)<;>conv=>whnf
  all_goals first
   |omega
   |exact n6 hI
theorem an1 (rs:List F0) (hl:rs.length<=1000000) (g:FuncId) (caps:List T) (q:F0->Bool) (hg:∀r ∈ rs,a8 Tryz.prog g (bb4 r::caps.map fun x=>.c (.t x)) [] (d9 (q r)) []):
 a8 Tryz.prog 167 [.c (.t (P5 rs)),.c (.t (.fn (.func g) caps))] [] (d9 (rs.any q)) []:=by
 have ix:=b08 rs hl g caps q hg
 (refine ac Tryz.func167 ?_;(conv=>whnf);repeat (refine zy ?_;conv=>whnf))
 repeat' (first|refine zx ?_|refine qp ix ?_|refine zd ?_ ?_<;>intro h<;>try omega|fail)<;>conv=>whnf
 all_goals (refine b9 ?_;rw [← a6a q rs 0];simp;omega)
theorem b0H (rs:List F0) (hl:rs.length<=1000000) (scale day:Int):a8 Tryz.prog 126 [.c (.t (P5 rs)),a7 .i64 scale,a7 .i64 day] [] (d9 (a9G rs scale day)) []:=by
 have ct:=an1 rs hl 168 [b8D scale,b8D day] _ (fun r _=>aD1 r scale day)
 (refine ac Tryz.func126 ?_;(conv=>whnf);repeat ((first|refine b0x ?_|refine zy ?_);conv=>whnf))
 repeat' (first|refine zx ?_|refine qp ct ?_|refine zd ?_ ?_<;>intro h<;>try omega|fail)<;>conv=>whnf
 all_goals (refine b9 ?_;symm;assumption)
theorem a5z {c:L9} {day:Int} (h:Z1 c day=true):0<=c.since∧c.since<=day∧day<=c.till∧c.till<=100000∧0<=c.grams∧c.grams<=1099511627776∧0<=c.permille∧c.permille<=1000∧0<=c.drift∧c.drift<=10000000:=by
 unfold Z1 a0E btw at h
 simp only [lbO,lbJ] at h
 omega
abbrev J3:Fr:=⟨⟨0,[]⟩,⟨0,[]⟩⟩
theorem bb6 {f f':Fr} {b b':Bool} {H1:Hp} (h:f=f') (h2:b=b'):Fin 0 (.tup [frS f,d9 b]) H1 (.tup [frS f',d9 b']) []:=by
 subst h h2;exact l9 ⟨⟨rfl,rfl,rfl,rfl,trivial⟩,rfl,trivial⟩
structure b8S (c:L9) (reading day:Int):Prop where
 p0:0<=c.permille*reading
 p1:c.permille*reading<=1000*1099511627776
 d0:0<=c.drift*(day - c.since)
 d1:c.drift*(day - c.since)<=10000000*100000
theorem b8S.of {c:L9} {reading day:Int} (h:Z1 c day=true) (hr:btw reading 0 1099511627776=true):b8S c reading day:=by
 have hc:=a5z h
 rw [a2X] at hr
 exact ⟨lb0 (by omega) (by omega),a6i (by omega) (by omega) (by omega) (by omega),lb0 (by omega) (by omega),a6i (by omega) (by omega) (by omega) (by omega)⟩
theorem b5b {c:L9} {reading day:Int} (h:Z1 c day=true) (hr:btw reading 0 1099511627776=true):rl (a7p c reading day)<=9:=by
 have i:=b8S.of h hr
 have hc:=a5z h
 obtain ⟨p0,p1,d0,d1⟩:=i
 unfold a7p
 have h1:=Y6 (Rat.divInt (c.permille*reading) 1000) ((c.grams+c.drift*(day - c.since):Int):Rat)
 have h2:rl (Rat.divInt (c.permille*reading) 1000)<=4:=lbT (a0y (by decide)) (by have:=a0f (x:=c.permille*reading) (by omega) (by omega);have:=a0f (x:=1000) (by decide) (by decide);omega)
 have h3:rl ((c.grams+c.drift*(day - c.since):Int):Rat)<=4:=by rw [V4];have:=a0f (x:=c.grams+c.drift*(day - c.since)) (by omega) (by omega);omega
 omega
theorem b7p (c:L9) (reading day:Int) (h:Z1 c day=true):a8 Tryz.prog 127 [b5k c,a7 .i64 reading,a7 .i64 day] []
 (.tup [frS (if btw reading 0 1099511627776 then fz (a7p c reading day) else J3),d9 (btw reading 0 1099511627776)]) []:=by
 have cv:=aO5 c day
 have wi:=a43 reading 1099511627776
 rw [h] at cv
 have hc:=a5z h
 cases hr:btw reading 0 1099511627776 with
 |false=>
  rw [hr] at wi
  (refine ac Tryz.func127 ?_;(conv=>whnf);repeat (refine zy ?_;conv=>whnf))
  repeat' (first|refine zx ?_|refine qp cv ?_|refine qp wi ?_|refine zd ?_ ?_<;>intro h<;>try omega|fail)<;>conv=>whnf
  all_goals first
   |(exfalso;simp_all;done)
   |exact l9 ⟨⟨rfl,rfl,rfl,rfl,trivial⟩,rfl,trivial⟩
 |true=>
  rw [hr] at wi
  obtain ⟨p0,p1,d0,d1⟩:=b8S.of h hr
  rw [a2X] at hr
  have fo:=bj2 (c.permille*reading) 1000 (by decide) (by omega) (by omega) (by decide) (by decide)
  have fi:=B3 (c.grams+c.drift*(day - c.since)) (by omega) (by omega)
  have h2:rl (Rat.divInt (c.permille*reading) 1000)<=4:=lbT (a0y (by decide)) (by have:=a0f (x:=c.permille*reading) (by omega) (by omega);have:=a0f (x:=1000) (by decide) (by decide);omega)
  have h3:rl ((c.grams+c.drift*(day - c.since):Int):Rat)<=4:=by rw [V4];have:=a0f (x:=c.grams+c.drift*(day - c.since)) (by omega) (by omega);omega
  have ad:=a3j (Rat.divInt (c.permille*reading) 1000) ((c.grams+c.drift*(day - c.since):Int):Rat) (by omega) (by omega)
  (refine ac Tryz.func127 ?_;(conv=>whnf);repeat (refine zy ?_;conv=>whnf))
  repeat' (first|refine zx ?_|refine qp cv ?_|refine qp wi ?_|refine qp fo ?_|refine qp fi ?_|refine qp ad ?_|refine qp 7 ?_|refine qp 15 ?_|refine bl0 [7] ?_|refine bl0 [15] ?_|refine zd ?_ ?_<;>intro h<;>try omega|fail)<;>conv=>whnf
  all_goals first
   |(exfalso;simp_all;done)
   |exact bb6 rfl rfl
abbrev ivL (o:Option (Rat × Rat)):List S:=match o with
 |some (lo,hi)=>[frS (fz lo),frS (fz hi),d9 true]
 |none=>[frS J3,frS J3,d9 false]
theorem b7R {x y:Rat} {n:Nat} (h1:rl x<=n) (h2:rl y<=n):rl (aX4 x y)<=n:=by unfold aX4;split<;>assumption
theorem aN0 {cs:List L9} {rs:List F0} {scale reading day:Int} {lo hi:Rat} (h:S5 cs rs scale reading day=some (lo,hi)):rl lo<=20∧rl hi<=20:=by
 unfold S5 at h
 split at h
 ·cases h
 ·rename_i i hi
  obtain ⟨hb,c,hc,_,hcv⟩:=U6 hi
  have e:a48 cs i=c:=by unfold a48;rw [hc];rfl
  rw [e] at h
  split at h
  ·cases h
  ·split at h
   ·rename_i hr
    injection h with h
    injection h with h1 h2
    have l1:=b5b hcv hr
    rw [a2X] at hr
    have l2:rl (reading:Rat)<=4:=by rw [V4];have:=a0f (x:=reading) (by omega) (by omega);omega
    have l3:=Y6 (reading:Rat) (a7p c reading day)
    have l4:=b0B (reading:Rat) (a7p c reading day)
    refine ⟨?_,by rw [← h2];omega⟩
    rw [← h1]
    exact b7R (by omega) (by rw [a6s];omega)
   ·cases h
theorem b0U (cs:List L9) (rs:List F0) (hl:cs.length<=1000000) (hl2:rs.length<=1000000) (scale reading day:Int):
 a8 Tryz.prog 82 [.c (.t (a1R cs)),.c (.t (P5 rs)),a7 .i64 scale,a7 .i64 reading,a7 .i64 day] [] (.tup (ivL (S5 cs rs scale reading day))) []:=by
 have f:=b9z cs scale day hl
 have r:=b0H rs hl2 scale day
 unfold S5
 cases hf:P2 cs scale day cs.length with
 |none=>
  rw [hf] at f
  (refine ac Tryz.func82 ?_;(conv=>whnf);repeat (refine zy ?_;conv=>whnf))
  repeat' (first|refine zx ?_|refine qp f ?_|refine qp r ?_|refine qp 1 ?_|refine qp 6 ?_|refine bl0 [1] ?_|refine bl0 [6] ?_|refine zd ?_ ?_<;>intro h<;>try omega|fail)<;>conv=>whnf
  all_goals first
   |(exfalso;simp_all;done)
   |exact l9 ⟨⟨rfl,rfl,rfl,rfl,trivial⟩,⟨rfl,rfl,rfl,rfl,trivial⟩,rfl,trivial⟩
 |some i=>
  rw [hf] at f
  obtain ⟨hb,c,hc,_,hcv⟩:=U6 hf
  have e:a48 cs i=c:=by unfold a48;rw [hc];rfl
  have er:=b7p c reading day hcv
  simp only [e]
  cases hrec:a9G rs scale day with
  |true=>
   rw [hrec] at r
   (refine ac Tryz.func82 ?_;(conv=>whnf);repeat (refine zy ?_;conv=>whnf))
   repeat' (first|refine zx ?_|refine qp f ?_|refine qp r ?_|refine qp 1 ?_|refine qp 6 ?_|refine bl0 [1] ?_|refine bl0 [6] ?_|refine zd ?_ ?_<;>intro h<;>try omega|fail)<;>conv=>whnf
   all_goals first
    |(exfalso;simp_all;done)
    |exact l9 ⟨⟨rfl,rfl,rfl,rfl,trivial⟩,⟨rfl,rfl,rfl,rfl,trivial⟩,rfl,trivial⟩
  |false=>
   rw [hrec] at r
   cases hr:btw reading 0 1099511627776 with
   |false=>
    rw [hr] at er
    (refine ac Tryz.func82 ?_;(conv=>whnf);repeat (refine zy ?_;conv=>whnf))
    repeat' (first|refine zx ?_|refine qp f ?_|refine qp r ?_|refine qp er ?_|refine qp 1 ?_|refine qp 9 ?_|refine d6 hc ?_|refine bl0 [1] ?_|refine bl0 [9] ?_|refine zd ?_ ?_<;>intro h<;>try omega|fail)<;>conv=>whnf
    all_goals first
     |exact l9 ⟨⟨rfl,rfl,rfl,rfl,trivial⟩,⟨rfl,rfl,rfl,rfl,trivial⟩,rfl,trivial⟩
     |(exfalso;simp_all;done)
   |true=>
    have l1:=b5b hcv hr
    rw [hr] at er
    rw [a2X] at hr
    have l2:rl (reading:Rat)<=4:=by rw [V4];have:=a0f (x:=reading) (by omega) (by omega);omega
    have fi:=B3 reading (by omega) (by omega)
    have f0:=B3 0 (by omega) (by omega)
    have sb:=b0T (reading:Rat) (a7p c reading day) (by omega) (by omega)
    have ad:=a3j (reading:Rat) (a7p c reading day) (by omega) (by omega)
    have l4:=b0B (reading:Rat) (a7p c reading day)
    have mx:=b9y ((reading:Rat) - a7p c reading day) ((0:Int):Rat) (by omega) (by rw [a6s];omega)
    (refine ac Tryz.func82 ?_;(conv=>whnf);repeat (refine zy ?_;conv=>whnf))
    repeat' (first|refine zx ?_|refine qp f ?_|refine qp r ?_|refine qp er ?_|refine qp fi ?_|refine qp f0 ?_|refine qp sb ?_|refine qp ad ?_|refine qp mx ?_|refine qp 1 ?_|refine qp 9 ?_|refine qp 5 ?_|refine d6 hc ?_|refine bl0 [1] ?_|refine bl0 [9] ?_|refine bl0 [5] ?_|refine zd ?_ ?_<;>intro h<;>try omega|fail)<;>conv=>whnf
    all_goals first
     |exact l9 ⟨⟨rfl,rfl,rfl,rfl,trivial⟩,⟨rfl,rfl,rfl,rfl,trivial⟩,rfl,trivial⟩
     |(exfalso;simp_all;done)
def j0 (f:Fr):List T:=[ti f.p.sg,I3 f.p.dl,ti f.q.sg,I3 f.q.dl]
abbrev M8 (l:List Fr):T:=.sl 4 .any (l.map j0)
abbrev k8 (l:List Fr):S:=.c (.t (M8 l))
theorem a2x (l:List Rat) {k:Nat} {x:Rat} (h:l[k]? =some x):(l.map fz)[k]? =some (fz x):=by rw [lba,h];rfl
theorem b9o {f f':Fr} {H1:Hp} (h:f=f'):Fin 0 (frS f) H1 (frS f') []:=by subst h;exact l9 ⟨rfl,rfl,rfl,rfl,trivial⟩
abbrev frB (f:Fr):Blk:={ mode:=.live,elem:=83,size:=4,rows:=[frC f],box:=true }
theorem A8 (f:Fr):H4 [frC f]:=by
 intro r hr c hc
 simp at hr
 subst hr
 simp [frC] at hc
 rcases hc with rfl|rfl|rfl|rfl<;>rfl
theorem b1Q {x:Rat}:sgR x<0↔x<0:=by unfold sgR;split<;>(try split)<;>simp_all
theorem b2k {x y:Rat}:X4 x y<=0↔x<=y:=by
 unfold X4
 split
 ·simp;grind
 ·split
  ·simp;grind
  ·simp;grind
theorem a04 {x y:Rat}:X4 x y > 0↔y<x:=by
 have:=b2k (x:=x) (y:=y)
 constructor
 ·intro h;have h2:¬x<=y:=fun h'=>by have:=this.2 h';omega
  grind
 ·intro h;have h2:¬X4 x y<=0:=fun h'=>by have:=this.1 h';grind
  omega
def f8 (f:Nat->Rat):Nat->Rat
 |0=>((0:Int):Rat)
 |n+1=>f8 f n+f n
theorem S8:((0:Int):Rat)=0:=rfl
theorem e8 {f g:Nat->Rat}:∀{n:Nat},(∀ m,m<n->f m=g m)->f8 f n=f8 g n
 |0,_=>rfl
 |n+1,h=>by simp only [f8];rw [e8 fun m hm=>h m (by omega),h n (by omega)]
theorem getD_some {l:List Rat} {m:Nat} (h:m<l.length):l[m]? =some (l.getD m 0):=by rw [lbl,lbf h];rfl
theorem a7s {α:Type} {p:Nat->α->Bool} {l:List α}:∀{k:Nat} {x:Int},x ∈ o5 p k l↔∃i m,l[i]? =some m∧p (k+i) m=true∧x=((k+i:Nat):Int):=by
 induction l with
 |nil=>intro k x;simp [o5]
 |cons a r ih=>
  intro k x
  have step:x ∈ o5 p (k+1) r↔∃i m,(a::r)[i+1]? =some m∧p (k+(i+1)) m=true∧x=((k+(i+1):Nat):Int):=by
   rw [ih]
   constructor
   ·rintro ⟨i,m,h1,h2,h3⟩
    exact ⟨i,m,by simpa using h1,by rw [show k+(i+1)=k+1+i from by omega];exact h2,by rw [h3];omega⟩
   ·rintro ⟨i,m,h1,h2,h3⟩
    exact ⟨i,m,by simpa using h1,by rw [show k+1+i=k+(i+1) from by omega];exact h2,by rw [h3];omega⟩
  unfold o5
  by_cases hp:p k a=true
  ·rw [if_pos hp,lbB,step]
   constructor
   ·rintro (rfl|⟨i,m,h⟩)
    ·exact ⟨0,a,rfl,hp,rfl⟩
    ·exact ⟨i+1,m,h⟩
   ·rintro ⟨i,m,h1,h2,h3⟩
    cases i with
    |zero=>left;simpa using h3
    |succ i=>right;exact ⟨i,m,h1,h2,h3⟩
  ·rw [if_neg hp,step]
   constructor
   ·rintro ⟨i,m,h⟩
    exact ⟨i+1,m,h⟩
   ·rintro ⟨i,m,h1,h2,h3⟩
    cases i with
    |zero=>simp at h1;subst h1;exact absurd h2 hp
    |succ i=>exact ⟨i,m,h1,h2,h3⟩
theorem a9i {α:Type} (p:Nat->α->Bool) (l:List α):∀k,(o5 p k l).Pairwise (·<·):=by
 induction l with
 |nil=>intro k;simp [o5]
 |cons a r ih=>
  intro k
  unfold o5
  split
  ·rw [List.pairwise_cons]
   refine ⟨fun x hx=>?_,ih (k+1)⟩
   obtain ⟨i,m,_,_,rfl⟩:=a7s.1 hx
   omega
  ·exact ih (k+1)
def Asc (l:List Int) (n:Int):Prop:=(∀ (i:Nat) (x:Int),l[i]? =some x->0<=x∧x<n)∧∀(i:Nat) (x y:Int),l[i]? =some x->l[i+1]? =some y->x<y
theorem Asc.of_sorted {l:List Int} {n:Int} (h1:l.Pairwise (·<·)) (h2:∀x ∈ l,0<=x∧x<n):Asc l n:=by
 refine ⟨fun i x hx=>h2 x (lbm hx),fun i x y hx hy=>?_⟩
 obtain ⟨hi,rfl⟩:=lbe.1 hx
 obtain ⟨hj,rfl⟩:=lbe.1 hy
 exact List.pairwise_iff_getElem.1 h1 i (i+1) hi hj (by omega)
theorem aC4 {α:Type} (p:Nat->α->Bool) (l:List α):Asc (o5 p 0 l) l.length:=by
 refine Asc.of_sorted (a9i p l 0) (fun x hx=>?_)
 obtain ⟨i,m,hm,_,rfl⟩:=a7s.1 hx
 have:=(lbe.1 hm).1
 omega
theorem b7Q (n:Int):Asc [] n:=⟨fun i x h=>by simp at h,fun i x y h=>by simp at h⟩
theorem a7S (e:Ev) (hh mat lo hi:Int):Asc (E6 e hh mat lo hi) e.moves.length:=by
 unfold E6;split
 ·exact aC4 _ _
 ·exact b7Q _
theorem b6Q {e:Ev} {G:List (List Rat)} {k:Nat} {x:t7} (hx:e.moves[k]? =some x):stk e G (k+1)=ae1 x (hAt G k) (stk e G k):=by
 conv=>lhs;unfold stk
 rw [hx]
theorem b7i {e:Ev} {G:List (List Rat)} {k:Nat} (hx:e.moves[k]? =none):stk e G (k+1)=stk e G k:=by
 conv=>lhs;unfold stk
 rw [hx]
theorem b0l {e:Ev} {x:t7} (h:T7 e x=true) (ha:x.all=true):A7 e x.src≠0:=by
 unfold T7 at h
 simp only [lbO,lbJ] at h
 have:=h.1.1.2
 rw [ha] at this
 simpa using this
def K9 (e:Ev) (x:t7):Option (Rat × Rat):=if x.scale=-1 then none else S5 e.certs e.recalls x.scale x.reading x.day
structure a4D where
 mv:Int
 kind:Int
 grams:Int
structure a02 where
 mv:Int
 kind:Int
structure j9 where
 ev:Ev
 finds:List a4D
 cleans:List a02
def a3t (e:Ev) (mv kind:Int):Int:=if mv<0∨(e.moves.length:Int)<=mv then 4 else if kind<0∨8<=kind then 1 else 0
def T6 (e:Ev):List a4D->Int
 |[]=>0
 |f::r=>if a3t e f.mv f.kind≠0 then a3t e f.mv f.kind else if f.grams<1∨1099511627776<f.grams then 3 else T6 e r
def Z9 (e:Ev):List a02->Int
 |[]=>0
 |c::r=>if a3t e c.mv c.kind≠0 then a3t e c.mv c.kind else Z9 e r
def q9 (t:j9):Int:=
 if J4 t.ev≠0 then J4 t.ev else if 20<t.finds.length∨50<t.cleans.length then 6
 else if T6 t.ev t.finds≠0 then T6 t.ev t.finds else Z9 t.ev t.cleans
def g9 (l:List a4D) (kind:Int) (i:Nat):List Int:=(l.filter fun f=>decide (f.kind=kind) && decide (f.mv=(i:Int))).map (·.grams)
def j7 (l:List a02) (kind:Int) (i:Nat):Nat:=(l.filter fun c=>decide (c.kind=kind) && decide (c.mv=(i:Int))).length
def col (z:List Rat):List (List Rat):=z.map fun v=>[v]
theorem b7J (z:List Rat) (k:Nat):hAt (col z) k 0=z.getD k 0:=by
 unfold hAt col
 cases h:z[k]?<;>simp [lbl,h]
def D6 (e:Ev) (z:List Rat) (k p:Nat):Rat:=stk e (col z) k p 0
def aQ2 (iv:Option (Rat × Rat)) (v:Rat):Bool:=match iv with
 |none=>true
 |some (_,hi)=>decide (v<=hi)
def Z7 (t:j9) (kind:Int) (i:Nat) (x:t7) (v:Rat):Int:=
 if aQ2 (K9 t.ev x) v=false then 20 else if (g9 t.finds kind i).any (fun g=>decide (v<(g:Rat))) then 24
 else if 0<j7 t.cleans kind i∧v≠0 then 13 else 0
def as1 (e:Ev) (x:t7) (v f:Rat):Int:=if v<0 then 3 else if A7 e x.src≠0∧f<v then 4 else if x.all=true∧v≠f then 7 else 0
def X9 (t:j9) (kind:Int) (i:Nat) (x:t7) (v f:Rat):Int:=if as1 t.ev x v f≠0 then as1 t.ev x v f else Z7 t kind i x v
def tAt (t:j9) (kind:Int) (z:List Rat) (i:Nat) (x:t7):Int:=X9 t kind i x (z.getD i 0) (D6 t.ev z i x.src.toNat)
def S9 (t:j9) (kind:Int) (z:List Rat):Nat->List t7->Int
 |_,[]=>0
 |k,x::r=>if tAt t kind z k x≠0 then tAt t kind z k x else S9 t kind z (k+1) r
def P9 (t:j9) (kind:Int) (z:List Fr):Int:=
 if q9 t≠0∨kind<0∨8<=kind then 1 else if z.length≠t.ev.moves.length then 2
 else if z.all o6 then S9 t kind (z.map fv) 0 t.ev.moves else 2
theorem a2J {t:j9} {kind:Int} {z:List Rat}:∀{ms:List t7} {k:Nat},S9 t kind z k ms=0↔∀j x,ms[j]? =some x->tAt t kind z (k+j) x=0
 |[],k=>by simp [S9]
 |y::r,k=>by
  unfold S9
  constructor
  ·intro h j x hx
   by_cases h0:tAt t kind z k y=0
   ·rw [if_neg (by simpa using h0)] at h
    cases j with
    |zero=>simp at hx;subst hx;exact h0
    |succ j=>rw [show k+(j+1)=k+1+j by omega];exact a2J.1 h j x (by simpa using hx)
   ·rw [if_pos h0] at h;exact absurd h h0
  ·intro h
   have h0:=h 0 y rfl
   rw [if_neg (by simpa using h0)]
   exact a2J.2 fun j x hx=>by rw [show k+1+j=k+(j+1) by omega];exact h (j+1) x (by simpa using hx)
structure b7x (e:Ev) (x:t7) (v f:Rat):Prop where
 pos:0<=v
 most:A7 e x.src≠0->v<=f
 all:x.all=true->v=f
theorem aj3 {e:Ev} {x:t7} {v f:Rat}:as1 e x v f=0↔b7x e x v f:=by
 unfold as1
 by_cases h1:v<0
 ·rw [if_pos h1];exact ⟨fun h=>(by cases h),fun h=>absurd h.pos (by grind)⟩
 ·rw [if_neg h1]
  by_cases h2:A7 e x.src≠0∧f<v
  ·rw [if_pos h2];exact ⟨fun h=>(by cases h),fun h=>absurd (h.most h2.1) (by grind)⟩
  ·rw [if_neg h2]
   by_cases h3:x.all=true∧v≠f
   ·rw [if_pos h3];exact ⟨fun h=>(by cases h),fun h=>absurd (h.all h3.1) h3.2⟩
   ·rw [if_neg h3]
    refine ⟨fun _=>⟨lb3.1 h1,fun h=>lb3.1 fun h'=>h2 ⟨h,h'⟩,fun h=>?_⟩,fun _=>rfl⟩
    by_cases h4:v=f
    ·exact h4
    ·exact absurd ⟨h,h4⟩ h3
structure aI4 (t:j9) (kind:Int) (i:Nat) (x:t7) (v:Rat):Prop where
 cap:aQ2 (K9 t.ev x) v=true
 fin:∀g ∈ g9 t.finds kind i,(g:Rat)<=v
 cln:0<j7 t.cleans kind i->v=0
theorem aG6 {t:j9} {kind:Int} {i:Nat} {x:t7} {v:Rat}:Z7 t kind i x v=0↔aI4 t kind i x v:=by
 unfold Z7
 by_cases h1:aQ2 (K9 t.ev x) v=false
 ·rw [if_pos h1];exact ⟨fun h=>(by cases h),fun h=>(by rw [h.cap] at h1;cases h1)⟩
 ·rw [if_neg h1]
  by_cases h2:(g9 t.finds kind i).any (fun g=>decide (v<(g:Rat)))=true
  ·rw [if_pos h2]
   obtain ⟨g,hg,hv⟩:=lbx.1 h2
   exact ⟨fun h=>(by cases h),fun h=>absurd (h.fin g hg) (by have:=lbM hv;grind)⟩
  ·rw [if_neg h2]
   by_cases h3:0<j7 t.cleans kind i∧v≠0
   ·rw [if_pos h3];exact ⟨fun h=>(by cases h),fun h=>absurd (h.cln h3.1) h3.2⟩
   ·rw [if_neg h3]
    refine ⟨fun _=>⟨by simpa using h1,fun g hg=>lb3.1 fun h'=>h2 (lbx.2 ⟨g,hg,lbI h'⟩),fun h=>?_⟩,fun _=>rfl⟩
    by_cases h4:v=0
    ·exact h4
    ·exact absurd ⟨h,h4⟩ h3
theorem a8S {t:j9} {kind:Int} {i:Nat} {x:t7} {v f:Rat}:X9 t kind i x v f=0↔b7x t.ev x v f∧aI4 t kind i x v:=by
 unfold X9
 by_cases h:as1 t.ev x v f≠0
 ·rw [if_pos h];exact ⟨fun h'=>absurd h' h,fun h'=>absurd (aj3.2 h'.1) h⟩
 ·rw [if_neg h,aG6]
  exact ⟨fun h'=>⟨aj3.1 (by simpa using h),h'⟩,fun h'=>h'.2⟩
structure bh0 (t:j9) (kind:Int) (z:List Rat):Prop where
 tr:q9 t=0
 k0:0<=kind
 k1:kind<8
 len:z.length=t.ev.moves.length
 step:∀i x,t.ev.moves[i]? =some x->b7x t.ev x (z.getD i 0) (D6 t.ev z i x.src.toNat)∧aI4 t kind i x (z.getD i 0)
theorem O7 (z:List Rat):(z.map fz).map fv=z:=by
 rw [a4b]
 conv=>rhs;rw [← List.map_id z]
 exact lbp fun x _=>bi4 x
theorem aV5 {t:j9} {kind:Int} {z:List Fr}:P9 t kind z=0↔∃Z:List Rat,z=Z.map fz∧bh0 t kind Z:=by
 unfold P9
 by_cases h1:q9 t≠0∨kind<0∨8<=kind
 ·rw [if_pos h1]
  refine ⟨fun h=>(by cases h),fun ⟨Z,_,h⟩=>?_⟩
  have:=h.tr;have:=h.k0;have:=h.k1
  omega
 rw [if_neg h1]
 by_cases h2:z.length≠t.ev.moves.length
 ·rw [if_pos h2]
  refine ⟨fun h=>(by cases h),fun ⟨Z,hz,h⟩=>?_⟩
  subst hz
  exact absurd (by rw [lbr];exact h.len) h2
 rw [if_neg h2]
 by_cases h3:z.all o6=true
 ·rw [if_pos h3]
  obtain ⟨Z,rfl⟩:=L5 h3
  rw [O7,a2J]
  constructor
  ·intro h
   refine ⟨Z,rfl,by omega,by omega,by omega,by simpa using h2,fun i x hx=>?_⟩
   have:=h i x hx
   rw [y3] at this
   exact a8S.1 this
  ·rintro ⟨Y,hy,h⟩
   have e:Z=Y:=by rw [← O7 Z,←O7 Y,hy]
   subst e
   intro j x hx
   rw [y3]
   exact a8S.2 (h.step j x hx)
 ·rw [if_neg h3]
  refine ⟨fun h=>(by cases h),fun ⟨Z,hz,h⟩=>?_⟩
  subst hz
  exact absurd (lbw.2 fun f hf=>by obtain ⟨x,_,rfl⟩:=lby.1 hf;exact a9V x) h3
theorem O9 {t:j9} (h:q9 t=0):J4 t.ev=0∧t.finds.length<=20∧t.cleans.length<=50∧T6 t.ev t.finds=0∧Z9 t.ev t.cleans=0:=by
 unfold q9 at h
 by_cases h1:J4 t.ev≠0
 ·rw [if_pos h1] at h;exact absurd h h1
 rw [if_neg h1] at h
 by_cases h2:20<t.finds.length∨50<t.cleans.length
 ·rw [if_pos h2] at h;cases h
 rw [if_neg h2] at h
 by_cases h3:T6 t.ev t.finds≠0
 ·rw [if_pos h3] at h;exact absurd h h3
 rw [if_neg h3] at h
 exact ⟨by simpa using h1,by omega,by omega,by simpa using h3,h⟩
theorem U0 {e:Ev}:∀{l:List a4D},T6 e l=0->∀f ∈ l,0<=f.mv∧f.mv<e.moves.length∧0<=f.kind∧f.kind<8∧1<=f.grams∧f.grams<=1099511627776
 |[],_,f,hf=>by cases hf
 |g::r,h,f,hf=>by
  unfold T6 at h
  by_cases h1:a3t e g.mv g.kind≠0
  ·rw [if_pos h1] at h;exact absurd h h1
  rw [if_neg h1] at h
  by_cases h2:g.grams<1∨1099511627776<g.grams
  ·rw [if_pos h2] at h;cases h
  rw [if_neg h2] at h
  rcases lbB.1 hf with rfl|hf
  ·unfold a3t at h1
   by_cases h3:f.mv<0∨(e.moves.length:Int)<=f.mv
   ·rw [if_pos h3] at h1;exact absurd (by decide) h1
   rw [if_neg h3] at h1
   by_cases h4:f.kind<0∨8<=f.kind
   ·rw [if_pos h4] at h1;exact absurd (by decide) h1
   omega
  ·exact U0 h f hf
theorem ay0 (l:List a4D) (f:a4D) (kind:Int) (i:Nat):g9 (l++[f]) kind i=g9 l kind i++(if f.kind=kind∧f.mv=(i:Int) then [f.grams] else []):=by
 unfold g9
 rw [lb7,lbD]
 by_cases h:f.kind=kind∧f.mv=(i:Int)
 ·rw [if_pos h];simp [h.1,h.2]
 ·rw [if_neg h]
  have:(decide (f.kind=kind) && decide (f.mv=(i:Int)))=false:=by
   rw [← lbR];simp only [lbO,lbJ];exact h
  simp [this]
theorem a21 (l:List a02) (c:a02) (kind:Int) (i:Nat):j7 (l++[c]) kind i=j7 l kind i+(if c.kind=kind∧c.mv=(i:Int) then 1 else 0):=by
 unfold j7
 rw [lb7,lbq]
 by_cases h:c.kind=kind∧c.mv=(i:Int)
 ·rw [if_pos h];simp [h.1,h.2]
 ·rw [if_neg h]
  have:(decide (c.kind=kind) && decide (c.mv=(i:Int)))=false:=by
   rw [← lbR];simp only [lbO,lbJ];exact h
  simp [this]
theorem ap4 {e:Ev} {z:List Rat} {k:Nat} {x:t7} (hx:e.moves[k]? =some x) (p:Nat):D6 e z (k+1) p=if x.src=(p:Int) then D6 e z k p - z.getD k 0 else if x.dst=(p:Int) then D6 e z k p+z.getD k 0 else D6 e z k p:=by
 unfold D6
 rw [b6Q hx]
 unfold ae1
 rw [b7J]
theorem b69 {e:Ev} {z:List Rat} {k:Nat} (hx:e.moves[k]? =none) (p:Nat):D6 e z (k+1) p=D6 e z k p:=by
 unfold D6
 rw [b7i hx]
theorem a3V {f:Nat->Rat}:∀{n:Nat},(∀ p,p<n->0<=f p)->0<=f8 f n
 |0,_=>lb2
 |n+1,h=>by
  have h1:=a3V (n:=n) fun p hp=>h p (by omega)
  have h2:=h n (by omega)
  simp only [f8];grind
structure B8 where
 terms:List (Int × Rat)
 kind:Int
 value:Rat
structure d7 where
 n:Int
 rows:List B8
def i9 (l:List (Int × Rat)) (z:List Rat):Rat:=l.foldl (fun a t=>a+t.2*z.getD t.1.toNat 0) ((0:Int):Rat)
theorem Q6 (l:List (Int × Rat)) (t:Int × Rat) (z:List Rat):i9 (l++[t]) z=i9 l z+t.2*z.getD t.1.toNat 0:=by unfold i9;rw [List.foldl_append];rfl
def d8:Int->Int->List (Int × Rat)->Bool
 |_,_,[]=>true
 |last,n,t::r=>decide (last<t.1) && decide (t.1<n) && decide (t.2≠0) && d8 t.1 n r
def y9 (n:Int) (w:B8):Bool:=d8 (-1) n w.terms && decide (0<=w.kind) && decide (w.kind<3)
def g7 (s:d7):Bool:=decide (0<=s.n) && decide (s.n<=1500) && decide (s.rows.length<=6000) && s.rows.all (y9 s.n)
def V7 (w:B8) (z:List Rat):Bool:=!((decide (i9 w.terms z<w.value) && decide (w.kind≠1)) || (decide (w.value<i9 w.terms z) && decide (w.kind≠0)))
def j2 (s:d7) (z:List Rat):Bool:=g7 s && decide ((z.length:Int)=s.n) && z.all (fun v=>decide (0<=v)) && s.rows.all (fun w=>V7 w z)
def k9 (e:Ev) (p:Int):Nat->List (Int × Rat)
 |0=>[]
 |k+1=>match e.moves[k]? with
  |none=>k9 e p k
  |some y=>if y.dst=p then k9 e p k++[((k:Int),((1:Int):Rat))] else if y.src=p then k9 e p k++[((k:Int),((-1:Int):Rat))] else k9 e p k
def w9 (e:Ev) (i:Nat) (x:t7):B8:=⟨k9 e x.src i++[((i:Int),((-1:Int):Rat))],if x.all then 2 else 0,((0:Int):Rat)⟩
def u4 (i:Nat) (kind:Int) (v:Rat):B8:=⟨[((i:Int),((1:Int):Rat))],kind,v⟩
def N0 (iv:Option (Rat × Rat)) (i:Nat):List B8:=match iv with
 |none=>[]
 |some (_,hi)=>[u4 i 1 hi]
def K2 (t:j9) (kind:Int) (i:Nat) (x:t7):List B8:=
 (if A7 t.ev x.src=0 then [] else [w9 t.ev i x])++N0 (K9 t.ev x) i++(g9 t.finds kind i).map (fun g:Int=>u4 i 0 (g:Rat))++List.replicate (j7 t.cleans kind i) (u4 i 2 ((0:Int):Rat))
def o9 (t:j9) (kind:Int):Nat->List B8
 |0=>[]
 |k+1=>match t.ev.moves[k]? with
  |none=>o9 t kind k
  |some x=>o9 t kind k++K2 t kind k x
def g4 (t:j9) (kind:Int):d7:=⟨t.ev.moves.length,o9 t kind t.ev.moves.length⟩
theorem aa6 {e:Ev} (h0:J4 e=0) (z:List Rat) (p:Nat):∀k,i9 (k9 e p k) z=D6 e z k p
 |0=>rfl
 |k+1=>by
  have ih:=aa6 h0 z p k
  unfold k9
  cases hx:e.moves[k]? with
  |none=>rw [b69 hx];exact ih
  |some y=>
   have hm:=Y3 h0 (lbm hx)
   have hne:y.src≠y.dst:=by unfold T7 at hm;simp only [lbO,lbJ] at hm;exact hm.1.1.1.1.1.2
   rw [ap4 hx]
   simp only
   by_cases c1:y.dst=(p:Int)
   ·rw [if_pos c1,if_neg (by omega),if_pos c1,Q6,ih]
    simp only [lbY]
    have:((1:Int):Rat)=1:=rfl
    rw [this];grind
   ·rw [if_neg c1]
    by_cases c2:y.src=(p:Int)
    ·rw [if_pos c2,if_pos c2,Q6,ih]
     simp only [lbY]
     have:((-1:Int):Rat)=-1:=rfl
     rw [this];grind
    ·rw [if_neg c2,if_neg c2,if_neg c1];exact ih
theorem a2C {w:B8} {z:List Rat}:V7 w z=true↔(i9 w.terms z<w.value->w.kind=1)∧(w.value<i9 w.terms z->w.kind=0):=by
 unfold V7
 simp only [a2T,a5l,lbQ,lbL,Classical.not_not]
 constructor
 ·rintro ⟨h1,h2⟩
  exact ⟨fun h=>h1.resolve_left (fun h'=>h' h),fun h=>h2.resolve_left (fun h'=>h' h)⟩
 ·rintro ⟨h1,h2⟩
  refine ⟨?_,?_⟩
  ·by_cases h:i9 w.terms z<w.value
   ·exact .inr (h1 h)
   ·exact .inl h
  ·by_cases h:w.value<i9 w.terms z
   ·exact .inr (h2 h)
   ·exact .inl h
theorem aG7 (i:Nat) (kind:Int) (v:Rat) (z:List Rat):i9 (u4 i kind v).terms z=z.getD i 0:=by
 show ((0:Int):Rat)+((1:Int):Rat)*z.getD ((i:Int)).toNat 0=_
 rw [lbY]
 have h0:((0:Int):Rat)=0:=rfl
 have h1:((1:Int):Rat)=1:=rfl
 rw [h0,h1];grind
theorem b4v {i:Nat} {v:Rat} {z:List Rat}:V7 (u4 i 1 v) z=true↔z.getD i 0<=v:=by
 rw [a2C,aG7]
 show (_->(1:Int)=1)∧(v<z.getD i 0->(1:Int)=0)↔_
 constructor
 ·rintro ⟨_,h⟩;exact lb3.1 fun h'=>absurd (h h') (by decide)
 ·intro h;exact ⟨fun _=>rfl,fun h'=>absurd h' (lb3.2 h)⟩
theorem at5 {i:Nat} {v:Rat} {z:List Rat}:V7 (u4 i 0 v) z=true↔v<=z.getD i 0:=by
 rw [a2C,aG7]
 show (z.getD i 0<v->(0:Int)=1)∧(_->(0:Int)=0)↔_
 constructor
 ·rintro ⟨h,_⟩;exact lb3.1 fun h'=>absurd (h h') (by decide)
 ·intro h;exact ⟨fun h'=>absurd h' (lb3.2 h),fun _=>rfl⟩
theorem ao9 {i:Nat} {v:Rat} {z:List Rat}:V7 (u4 i 2 v) z=true↔z.getD i 0=v:=by
 rw [a2C,aG7]
 show (z.getD i 0<v->(2:Int)=1)∧(v<z.getD i 0->(2:Int)=0)↔_
 constructor
 ·rintro ⟨h,h2⟩
  have q1:¬z.getD i 0<v:=fun h'=>absurd (h h') (by decide)
  have q2:¬v<z.getD i 0:=fun h'=>absurd (h2 h') (by decide)
  grind
 ·intro h;exact ⟨fun h'=>by grind,fun h'=>by grind⟩
theorem stock_holds {e:Ev} (h0:J4 e=0) {i:Nat} {x:t7} (hx:e.moves[i]? =some x) {z:List Rat}:V7 (w9 e i x) z=true↔z.getD i 0<=D6 e z i x.src.toNat∧(x.all=true->z.getD i 0=D6 e z i x.src.toNat):=by
 have hm:=Y3 h0 (lbm hx)
 have ms:=a2I hm
 have hv:i9 (w9 e i x).terms z=D6 e z i x.src.toNat - z.getD i 0:=by
  unfold w9
  simp only
  rw [Q6,show k9 e x.src i=k9 e ((x.src.toNat:Nat):Int) i by rw [show ((x.src.toNat:Nat):Int)=x.src by omega],aa6 h0]
  simp only [lbY]
  have:((-1:Int):Rat)=-1:=rfl
  rw [this];grind
 have hz:(w9 e i x).value=0:=rfl
 have hk:(w9 e i x).kind=if x.all then 2 else 0:=rfl
 rw [a2C,hv,hz,hk]
 cases hal:x.all with
 |true=>
  simp only [if_true]
  constructor
  ·rintro ⟨h,h2⟩
   have q1:¬D6 e z i x.src.toNat - z.getD i 0<0:=fun h'=>absurd (h h') (by decide)
   have q2:¬0<D6 e z i x.src.toNat - z.getD i 0:=fun h'=>absurd (h2 h') (by decide)
   exact ⟨by grind,fun _=>by grind⟩
  ·rintro ⟨h,h2⟩
   have h2:=h2 trivial
   exact ⟨fun h'=>by grind,fun h'=>by grind⟩
 |false=>
  simp only [a8N,if_false]
  constructor
  ·rintro ⟨h,h2⟩
   have q1:¬D6 e z i x.src.toNat - z.getD i 0<0:=fun h'=>absurd (h h') (by decide)
   exact ⟨by grind,fun h=>(by cases h)⟩
  ·rintro ⟨h,_⟩
   exact ⟨fun h'=>by grind,fun _=>trivial⟩
theorem move_holds {t:j9} {kind:Int} (h0:J4 t.ev=0) {i:Nat} {x:t7} (hx:t.ev.moves[i]? =some x) {z:List Rat} (hz:0<=z.getD i 0):
 (K2 t kind i x).all (fun w=>V7 w z)=true↔b7x t.ev x (z.getD i 0) (D6 t.ev z i x.src.toNat)∧aI4 t kind i x (z.getD i 0):=by
 have hmo:=Y3 h0 (lbm hx)
 unfold K2
 simp only [a10,lbO,List.all_map]
 have e1:(if A7 t.ev x.src=0 then ([]:List B8) else [w9 t.ev i x]).all (fun w=>V7 w z)=true↔(A7 t.ev x.src≠0->z.getD i 0<=D6 t.ev z i x.src.toNat∧(x.all=true->z.getD i 0=D6 t.ev z i x.src.toNat)):=by
  by_cases hb:A7 t.ev x.src=0
  ·rw [if_pos hb];exact ⟨fun _ h=>absurd hb h,fun _=>rfl⟩
  ·rw [if_neg hb]
   simp only [a9Q,List.all_nil,a2F]
   rw [stock_holds h0 hx]
   exact ⟨fun h _=>h,fun h=>h hb⟩
 have e2:(N0 (K9 t.ev x) i).all (fun w=>V7 w z)=true↔aQ2 (K9 t.ev x) (z.getD i 0)=true:=by
  cases hiv:K9 t.ev x with
  |none=>exact ⟨fun _=>rfl,fun _=>rfl⟩
  |some p=>
   obtain ⟨lo,hi⟩:=p
   simp only [N0,aQ2,a9Q,List.all_nil,a2F,lbJ]
   exact b4v
 have e3:(g9 t.finds kind i).all ((fun w=>V7 w z) ∘ fun g:Int=>u4 i 0 (g:Rat))=true↔∀g ∈ g9 t.finds kind i,(g:Rat)<=z.getD i 0:=by
  rw [lbw]
  exact ⟨fun h g hg=>at5.1 (h g hg),fun h g hg=>at5.2 (h g hg)⟩
 have e4:(List.replicate (j7 t.cleans kind i) (u4 i 2 ((0:Int):Rat))).all (fun w=>V7 w z)=true↔(0<j7 t.cleans kind i->z.getD i 0=0):=by
  rw [lbw]
  constructor
  ·intro h hc;exact ao9.1 (h _ (a8Z.2 ⟨by omega,rfl⟩))
  ·intro h w hw
   obtain ⟨h1,rfl⟩:=a8Z.1 hw
   exact ao9.2 (h (by omega))
 rw [e1,e2,e3,e4]
 constructor
 ·rintro ⟨⟨⟨q1,q2⟩,q3⟩,q4⟩
  exact ⟨⟨hz,fun h=>(q1 h).1,fun h=>(q1 (b0l hmo h)).2 h⟩,⟨q2,q3,q4⟩⟩
 ·rintro ⟨p1,p2⟩
  exact ⟨⟨⟨fun h=>⟨p1.most h,p1.all⟩,p2.cap⟩,p2.fin⟩,p2.cln⟩
theorem U5 {t:j9} {kind:Int} {q:B8->Bool}:∀n,n<=t.ev.moves.length->((o9 t kind n).all q=true↔∀i x,i<n->t.ev.moves[i]? =some x->(K2 t kind i x).all q=true)
 |0,_=>⟨fun _ i x h=>by omega,fun _=>rfl⟩
 |n+1,h=>by
  obtain ⟨y,hy⟩:∃y,t.ev.moves[n]? =some y:=⟨_,lbf (by omega)⟩
  unfold o9
  rw [hy]
  simp only [a10,lbO]
  rw [U5 n (by omega)]
  constructor
  ·rintro ⟨h1,h2⟩ i x hi hx
   rcases A6 i n with h3|h3
   ·exact h1 i x h3 hx
   ·obtain rfl:i=n:=by omega
    rw [hy] at hx;injection hx with hx;subst hx;exact h2
  ·intro h1
   exact ⟨fun i x hi hx=>h1 i x (by omega) hx,h1 n y (by omega) hy⟩
theorem ag7 {last n i:Int} {c:Rat} (h1:last<i) (h2:i<n) (h3:c≠0):d8 last n [(i,c)]=true:=by
 unfold d8
 simp [h1,h2,h3,d8]
theorem a4l {n:Int} {c:Rat} {i:Int} (h2:i<n) (h3:c≠0):∀{l:List (Int × Rat)} {last:Int},d8 last n l=true->last<i->(∀ t ∈ l,t.1<i)->d8 last n (l++[(i,c)])=true
 |[],last,_,h,_=>ag7 h h2 h3
 |t::r,last,h,h1,ht=>by
  unfold d8 at h
  simp only [lbO,lbJ] at h
  show d8 last n (t::(r++[(i,c)]))=true
  unfold d8
  simp only [lbO,lbJ]
  exact ⟨h.1,a4l h2 h3 h.2 (ht t (by simp)) fun u hu=>ht u (by simp [hu])⟩
theorem ak9:((1:Int):Rat)≠0:=by decide
theorem a8I:((-1:Int):Rat)≠0:=by decide
theorem a5s {e:Ev} {p:Int} {n:Int}:∀k:Nat,(k:Int)<=n->d8 (-1) n (k9 e p k)=true∧∀t ∈ k9 e p k,t.1<(k:Int)
 |0,_=>⟨rfl,fun t ht=>by cases ht⟩
 |k+1,h=>by
  obtain ⟨h1,h2⟩:=a5s (e:=e) (p:=p) (n:=n) k (by omega)
  have h3:∀c:Rat,c≠0->d8 (-1) n (k9 e p k++[((k:Int),c)])=true∧∀t ∈ k9 e p k++[((k:Int),c)],t.1<((k+1:Nat):Int):=fun c hc=>
   ⟨a4l (by omega) hc h1 (by omega) h2,fun t ht=>by
     rcases lbA.1 ht with ht|ht
     ·have:=h2 t ht;omega
     ·simp at ht;subst ht;simp;omega⟩
  unfold k9
  cases hx:e.moves[k]? with
  |none=>exact ⟨h1,fun t ht=>by have:=h2 t ht;omega⟩
  |some y=>
   simp only
   split
   ·exact h3 _ ak9
   ·split
    ·exact h3 _ a8I
    ·exact ⟨h1,fun t ht=>by have:=h2 t ht;omega⟩
theorem aY9 {t:j9} {kind:Int} {i:Nat} {x:t7} {n:Int} (hi:(i:Int)<n):(K2 t kind i x).all (y9 n)=true:=by
 have ho:∀(k:Int) (v:Rat),0<=k->k<3->y9 n (u4 i k v)=true:=fun k v h1 h2=>by
  unfold y9 u4
  simp only [lbO,lbJ]
  exact ⟨⟨ag7 (by omega) hi ak9,h1⟩,h2⟩
 unfold K2
 simp only [a10,lbO,lbw]
 refine ⟨⟨⟨fun w hw=>?_,fun w hw=>?_⟩,fun w hw=>?_⟩,fun w hw=>?_⟩
 ·by_cases hb:A7 t.ev x.src=0
  ·rw [if_pos hb] at hw;cases hw
  ·rw [if_neg hb] at hw
   simp at hw
   subst hw
   obtain ⟨h1,h2⟩:=a5s (e:=t.ev) (p:=x.src) (n:=n) i (by omega)
   unfold y9 w9
   simp only [lbO,lbJ]
   refine ⟨⟨a4l hi a8I h1 (by omega) h2,?_⟩,?_⟩<;>split<;>decide
 ·cases hiv:K9 t.ev x with
  |none=>rw [hiv] at hw;cases hw
  |some p=>
   obtain ⟨lo,hi⟩:=p
   rw [hiv] at hw
   simp [N0] at hw
   subst hw
   exact ho 1 hi (by decide) (by decide)
 ·obtain ⟨g,_,rfl⟩:=lby.1 hw
  exact ho 0 _ (by decide) (by decide)
 ·obtain ⟨_,rfl⟩:=a8Z.1 hw
  exact ho 2 _ (by decide) (by decide)
theorem aH5 {t:j9} {kind:Int} {i:Nat} {x:t7}:(K2 t kind i x).length<=2+t.finds.length+t.cleans.length:=by
 unfold K2
 have h1:(N0 (K9 t.ev x) i).length<=1:=by unfold N0;split<;>simp
 have h2:(g9 t.finds kind i).length<=t.finds.length:=by unfold g9;rw [lbr];exact lbt _ _
 have h3:j7 t.cleans kind i<=t.cleans.length:=lbt _ _
 have h4:(if A7 t.ev x.src=0 then ([]:List B8) else [w9 t.ev i x]).length<=1:=by split<;>simp
 simp only [lbq,lbr,List.length_replicate]
 omega
theorem a1G {t:j9} {kind:Int}:∀n,(o9 t kind n).length<=n*(2+t.finds.length+t.cleans.length)
 |0=>by simp [o9]
 |n+1=>by
  have ih:=a1G (t:=t) (kind:=kind) n
  unfold o9
  rw [lbV]
  cases hx:t.ev.moves[n]? with
  |none=>simp only;omega
  |some x=>
   have:=aH5 (t:=t) (kind:=kind) (i:=n) (x:=x)
   simp only [lbq]
   omega
theorem aq4 {t:j9} {kind:Int} (hm:t.ev.moves.length<=14) (hf:t.finds.length<=20) (hc:t.cleans.length<=50):g7 (g4 t kind)=true:=by
 unfold g7 g4
 have h1:=a1G (t:=t) (kind:=kind) t.ev.moves.length
 have h2:t.ev.moves.length*(2+t.finds.length+t.cleans.length)<=14*72:=Nat.mul_le_mul hm (by omega)
 simp only [lbO,lbJ]
 refine ⟨⟨⟨by omega,by omega⟩,by omega⟩,?_⟩
 rw [U5 _ (lbS _)]
 intro i x hi hx
 exact aY9 (by omega)
theorem sys_holds {t:j9} {kind:Int} {z:List Rat} (ht:q9 t=0) (k0:0<=kind) (k1:kind<8) (hm:t.ev.moves.length<=14):j2 (g4 t kind) z=true↔bh0 t kind z:=by
 obtain ⟨q1,q2,q3,q4,q5⟩:=O9 ht
 unfold j2
 rw [aq4 hm q2 q3]
 simp only [F7,lbO,lbJ]
 constructor
 ·rintro ⟨⟨h1,h2⟩,h3⟩
  have hl:z.length=t.ev.moves.length:=by have:(z.length:Int)=t.ev.moves.length:=h1;omega
  refine ⟨ht,k0,k1,hl,fun i x hx=>?_⟩
  have hi:i<t.ev.moves.length:=(lbe.1 hx).1
  have hz:0<=z.getD i 0:=lbM (lbw.1 h2 _ (lbm (getD_some (by omega))))
  exact (move_holds q1 hx hz).1 ((U5 _ (lbS _)).1 h3 i x hi hx)
 ·intro h
  refine ⟨⟨?_,?_⟩,?_⟩
  ·show (z.length:Int)=t.ev.moves.length
   rw [h.len]
  ·rw [lbw]
   intro v hv
   obtain ⟨i,hi,rfl⟩:=a0Y hv
   obtain ⟨x,hx⟩:∃x,t.ev.moves[i]? =some x:=⟨_,lbf (by rw [← h.len];exact hi)⟩
   have:=(h.step i x hx).1.pos
   rw [lbl,lbf hi] at this
   exact lbI this
  ·show (o9 t kind t.ev.moves.length).all _=true
   rw [U5 _ (lbS _)]
   intro i x hi hx
   obtain ⟨a,b⟩:=h.step i x hx
   exact (move_holds q1 hx a.pos).2 ⟨a,b⟩
def a4D.row (f:a4D):List T:=[ti f.mv,ti f.kind,ti f.grams]
def a02.row (c:a02):List T:=[ti c.mv,ti c.kind]
abbrev ag4 (l:List a4D):T:=.sl 3 .any (l.map a4D.row)
abbrev a77 (l:List a02):T:=.sl 2 .any (l.map a02.row)
def trT (t:j9):List T:=[ti t.ev.mats,ti t.ev.hhs,ti t.ev.scs,a5d t.ev.places,a2Z t.ev.moves,a1R t.ev.certs,P5 t.ev.recalls,a0G t.ev.purities,ag4 t.finds,a77 t.cleans]
def trC (t:j9):List C:=[.t (ti t.ev.mats),.t (ti t.ev.hhs),.t (ti t.ev.scs),.t (a5d t.ev.places),.t (a2Z t.ev.moves),.t (a1R t.ev.certs),.t (P5 t.ev.recalls),.t (a0G t.ev.purities),.t (ag4 t.finds),.t (a77 t.cleans)]
abbrev trS (t:j9):S:=.agg (trC t)
structure j9.Sized (t:j9):Prop where
 ev:t.ev.Sized
 f:t.finds.length<=1000000
 c:t.cleans.length<=1000000
theorem a16 {x:Rat}:sgR x=0↔x=0:=by unfold sgR;split<;>(try split)<;>simp_all<;>grind
theorem b4U (e:Ev) (mv kind:Int):a8 Tryz.prog 77 [evS e,a7 .i64 mv,a7 .i64 kind] [] (a7 .i64 (a3t e mv kind)) []:=by
 have l2:(e.moves.map t7.row).length=e.moves.length:=by simp
 (refine ac Tryz.func77 ?_;(conv=>whnf);repeat ((first|refine b0x ?_|refine zy ?_);conv=>whnf))
 repeat' (first|refine zx ?_|refine zd ?_ ?_<;>intro h<;>try omega|fail)<;>conv=>whnf
 all_goals (refine n6 ?_;unfold a3t;(repeat' split)<;>first|rfl|omega)
theorem a6E (t:j9) (hs:t.Sized):a8 Tryz.prog 33 [trS t] [] (a7 .i64 (q9 t)) []:=by
 have l1:=hs.f
 have l2:=hs.c
 have ck:=b2w t.ev hs.ev
 have m1:(t.finds.map a4D.row).length=t.finds.length:=by simp
 have m2:(t.cleans.map a02.row).length=t.cleans.length:=by simp
 by_cases h0:J4 t.ev≠0
 ·have e1:q9 t=J4 t.ev:=by unfold q9;rw [if_pos h0]
  rw [e1]
  (refine ac Tryz.func33 ?_;(conv=>whnf);repeat ((first|refine b0x ?_|refine zy ?_);conv=>whnf))
  repeat' (first|refine zx ?_|refine qp ck ?_|refine zd ?_ ?_<;>intro h<;>try omega|fail)<;>conv=>whnf
  all_goals first
   |omega
   |exact n6 rfl
 have h0:J4 t.ev=0:=by omega
 rw [h0] at ck
 by_cases h1:20<t.finds.length∨50<t.cleans.length
 ·have e1:q9 t=6:=by unfold q9;rw [if_neg (by omega),if_pos h1]
  rw [e1]
  (refine ac Tryz.func33 ?_;(conv=>whnf);repeat ((first|refine b0x ?_|refine zy ?_);conv=>whnf))
  repeat' (first|refine zx ?_|refine qp ck ?_|refine zd ?_ ?_<;>intro h<;>try omega|fail)<;>conv=>whnf
  all_goals first
   |omega
   |exact n6 rfl
 have e1:q9 t=if T6 t.ev t.finds≠0 then T6 t.ev t.finds else Z9 t.ev t.cleans:=by unfold q9;rw [if_neg (by omega),if_neg h1]
 rw [e1]
 (refine ac Tryz.func33 ?_;(conv=>whnf);repeat ((first|refine b0x ?_|refine zy ?_);conv=>whnf))
 repeat' (first|refine zx ?_|refine qp ck ?_|refine zd ?_ ?_<;>intro h<;>try omega|fail)<;>conv=>whnf
 all_goals try omega
 refine i3 c9 (fun k=>([J,S.c (C.t (T.ptr (trT t)))]++Jn 25++[S.c (C.t (ag4 t.finds)),a7 .i64 t.finds.length,a7 .i64 k]++Jn 40,[])) t.finds.length (fun k=>T6 t.ev t.finds=T6 t.ev (t.finds.drop k)) [] rfl
  ⟨rfl,rfl,trivial,⟨rfl,rfl,c7 (by simp),rfl,trivial⟩⟩ ?_
 intro k hk hI
 by_cases hlt:k<t.finds.length
 ·obtain ⟨f,hf⟩:∃f,t.finds[k]? =some f:=⟨_,lbf hlt⟩
  have mk:=b4U t.ev f.mv f.kind
  rw [a3K hf,T6] at hI
  by_cases hm:a3t t.ev f.mv f.kind≠0
  ·rw [if_pos hm] at hI
   rw [hI,if_pos hm]
   conv=>whnf
   repeat' (first|refine zx ?_|refine qp mk ?_|refine d6 hf ?_|refine zd ?_ ?_<;>intro h<;>try omega|fail)<;>conv=>whnf
   all_goals first
    |omega
    |exact n6 rfl
  ·rw [if_neg hm] at hI
   by_cases hg:f.grams<1∨1099511627776<f.grams
   ·rw [if_pos hg] at hI
    rw [hI]
    conv=>whnf
    repeat' (first|refine zx ?_|refine qp mk ?_|refine d6 hf ?_|refine zd ?_ ?_<;>intro h<;>try omega|fail)<;>conv=>whnf
    all_goals first
     |omega
     |exact n6 rfl
   ·rw [if_neg hg] at hI
    conv=>whnf
    repeat' (first|refine zx ?_|refine qp mk ?_|refine d6 hf ?_|refine zd ?_ ?_<;>intro h<;>try omega|fail)<;>conv=>whnf
    all_goals first
     |omega
     |exact ⟨hlt,hI,[],rfl,rfl,trivial,⟨rfl,rfl,rfl,rfl,trivial⟩⟩
 ·rw [lbo (by omega)] at hI
  have hI:T6 t.ev t.finds=0:=hI
  rw [hI,if_neg (by omega)]
  conv=>whnf
  repeat' (first|refine zx ?_|refine zd ?_ ?_<;>intro h<;>try omega|fail)<;>conv=>whnf
  all_goals try omega
  refine i3 c9 (fun k=>([J,S.c (C.t (T.ptr (trT t)))]++Jn 51++[S.c (C.t (a77 t.cleans)),a7 .i64 t.cleans.length,a7 .i64 k]++Jn 14,[])) t.cleans.length (fun k=>Z9 t.ev t.cleans=Z9 t.ev (t.cleans.drop k)) [] rfl
   ⟨rfl,rfl,trivial,⟨rfl,rfl,c7 (by simp),rfl,trivial⟩⟩ ?_
  intro j hj hJ
  by_cases hjt:j<t.cleans.length
  ·obtain ⟨c,hc⟩:∃c,t.cleans[j]? =some c:=⟨_,lbf hjt⟩
   have mk:=b4U t.ev c.mv c.kind
   rw [a3K hc,Z9] at hJ
   by_cases hm:a3t t.ev c.mv c.kind≠0
   ·rw [if_pos hm] at hJ
    rw [hJ]
    conv=>whnf
    repeat' (first|refine zx ?_|refine qp mk ?_|refine d6 hc ?_|refine zd ?_ ?_<;>intro h<;>try omega|fail)<;>conv=>whnf
    all_goals first
     |omega
     |exact n6 rfl
   ·rw [if_neg hm] at hJ
    conv=>whnf
    repeat' (first|refine zx ?_|refine qp mk ?_|refine d6 hc ?_|refine zd ?_ ?_<;>intro h<;>try omega|fail)<;>conv=>whnf
    all_goals first
     |omega
     |exact ⟨hjt,hJ,[],rfl,rfl,trivial,⟨rfl,rfl,rfl,rfl,trivial⟩⟩
  ·rw [lbo (by omega)] at hJ
   have hJ:Z9 t.ev t.cleans=0:=hJ
   rw [hJ]
   conv=>whnf
   repeat' (first|refine zx ?_|refine zd ?_ ?_<;>intro h<;>try omega|fail)<;>conv=>whnf
   all_goals first
    |omega
    |exact n6 rfl
theorem b9v (e:Ev) {i:Nat} {x:t7} (h0:J4 e=0) (hx:e.moves[i]? =some x):a8 Tryz.prog 38 [evS e,a7 .i64 i] [] (d9 (decide (A7 e x.src=0))) []:=by
 have hm:=Y3 h0 (lbm hx)
 have ms:=a2I hm
 obtain ⟨s,hsn⟩:∃s:Nat,x.src=s:=⟨x.src.toNat,by omega⟩
 obtain ⟨pl,hpl⟩:∃pl,e.places[s]? =some pl:=⟨_,lbf (by omega)⟩
 have hkd:A7 e x.src=pl.kind:=by rw [hsn];exact b4g hpl
 rw [hkd]
 (refine ac Tryz.func38 ?_;(conv=>whnf);repeat ((first|refine b0x ?_|refine zy ?_);conv=>whnf))
 repeat' (first|refine zx ?_|refine d6 hx ?_|refine G1 hsn hpl ?_|refine zd ?_ ?_<;>intro h<;>try omega|fail)<;>conv=>whnf
 all_goals (refine b9 ?_;simp [*])
def u6 (x:Int × Rat):List T:=ti x.1::j0 (fz x.2)
abbrev aE4 (l:List (Int × Rat)):T:=.sl 5 .any (l.map u6)
def u0 (w:B8):List T:=aE4 w.terms::ti w.kind::j0 (fz w.value)
def bk8 (w:B8):List C:=.t (aE4 w.terms)::.t (ti w.kind)::frC (fz w.value)
abbrev ba5 (w:B8):S:=.agg (bk8 w)
abbrev K0 (l:List B8):T:=.sl 6 .any (l.map u0)
abbrev K3 (s:d7):S:=.agg [.t (ti s.n),.t (K0 s.rows)]
def a5S (w:Nat) (g:Nat->Rat):List Fr:=(List.range w).map fun m=>fz (g m)
theorem ak0 (w:Nat) (g:Nat->Rat):(a5S w g).length=w:=by simp [a5S]
theorem a7o {w:Nat} {g:Nat->Rat} {m:Nat} (h:m<w):(a5S w g)[m]? =some (fz (g m)):=by simp [a5S,h]
theorem aQ9 {w:Nat} {g:Nat->Rat} {m:Nat} {v:Rat} (h:m<w):(a5S w g).set m (fz v)=a5S w (fun j=>if j=m then v else g j):=by
 apply I6
 intro j
 by_cases hj:j<w
 ·rw [a7o hj,lbg,ak0]
  by_cases hjm:m=j
  ·subst hjm;simp [h]
  ·rw [if_neg hjm,a7o hj,if_neg (by omega)]
 ·rw [lbd (by simp [ak0];omega),lbd (by simp [ak0];omega)]
abbrev b84 (l:List Fr):Blk:={ mode:=.live,elem:=83,size:=4,rows:=toC (l.map j0),box:=false }
theorem b54 {row:List Fr} {i n:Nat} {y:Fr} (h:n=i):p5 (b84 row) ((toC (row.map j0)).set n (frC y))=b84 (row.set i y):=by
 subst h
 unfold p5
 simp [toC,a2Y,j0]
abbrev zR:Rat:=((0:Int):Rat)
def a1m (m w:Nat):List Fr:=(List.range w).map fun j=>if j<m then fz zR else J3
theorem a4N (m w:Nat):(a1m m w).length=w:=by simp [a1m]
theorem a4H {m w j:Nat} (h:j<w):(a1m m w)[j]? =some (if j<m then fz zR else J3):=by simp [a1m,h]
theorem b3c {m w:Nat} (h:m<w):(a1m m w).set m (fz zR)=a1m (m+1) w:=by
 apply I6
 intro j
 by_cases hj:j<w
 ·rw [a4H hj,lbg,a4N]
  by_cases hjk:m=j
  ·subst hjk;simp [h]
  ·rw [if_neg hjk,a4H hj]
   have:(j<m+1)↔(j<m):=by omega
   simp only [this]
 ·rw [lbd (by simp [a4N];omega),lbd (by simp [a4N];omega)]
theorem b2V (w:Nat):a1m w w=a5S w (fun _=>zR):=by
 unfold a1m a5S
 refine lbp fun j hj=>?_
 rw [if_pos (lbC.1 hj)]
theorem b1m (w:Nat):a1m 0 w=List.replicate w J3:=by
 apply I6
 intro j
 by_cases hj:j<w
 ·rw [a4H hj];simp [hj]
 ·rw [lbd (by simp [a4N];omega),lbd (by simp;omega)]
theorem a0s {e:Ev} (h:J4 e=0):1<=e.mats∧e.mats<=6∧e.places.length<=100∧e.moves.length<=200:=by
 obtain ⟨h1,h2,_⟩:=a5X h
 unfold al4 at h1
 simp only [a5l,lbL] at h1
 omega
abbrev j4 (l:List (Int × Rat)):S:=.c (.t (aE4 l))
def ak3 (l:List (Int × Rat)):Nat->Int
 |0=>-1
 |k+1=>((l[k]?).map (·.1)).getD 0
theorem a9R {l:List (Int × Rat)} {k:Nat} {t:Int × Rat} (h:l[k]? =some t):ak3 l (k+1)=t.1:=by simp [ak3,h]
theorem I0 (l:List (Int × Rat)) (n:Int) (hl:l.length<=1000000) (hB:∀t ∈ l,rl t.2<=200):a8 Tryz.prog 72 [j4 l,a7 .i64 n] [] (d9 (decide (0<=n) && d8 (-1) n l)) []:=by
 have m1:(l.map u6).length=l.length:=by simp
 by_cases h0:n<0
 ·rw [lbK (by omega),a8r]
  (refine ac Tryz.func72 ?_;(conv=>whnf);repeat ((first|refine b0x ?_|refine zy ?_);conv=>whnf))
  repeat' (first|refine zx ?_|refine zd ?_ ?_<;>intro h<;>try omega|fail)<;>conv=>whnf
  all_goals first
   |omega
   |exact b9 rfl
 rw [lbI (by omega),F7]
 (refine ac Tryz.func72 ?_;(conv=>whnf);repeat ((first|refine b0x ?_|refine zy ?_);conv=>whnf))
 repeat' (first|refine zx ?_|refine zd ?_ ?_<;>intro h<;>try omega|fail)<;>conv=>whnf
 all_goals try omega
 refine i3 c9 (fun k=>([J,a7 .i64 n,J,J,J,a7 .i64 (ak3 l k),J,J,J,J,j4 l,a7 .i64 l.length,a7 .i64 k]++Jn 22,[])) l.length (fun k=>d8 (-1) n l=d8 (ak3 l k) n (l.drop k)) [] rfl
  ⟨rfl,rfl,trivial,⟨rfl,rfl,rfl,c7 (by simp),rfl,trivial⟩⟩ ?_
 intro k hk hI
 by_cases hlt:k<l.length
 ·obtain ⟨t,ht⟩:∃t,l[k]? =some t:=⟨_,lbf hlt⟩
  obtain ⟨v,c⟩:=t
  have bc:=hB _ (lbm ht)
  simp only at bc
  have sg:=D9 c (by omega)
  have sz:=a16 (x:=c)
  rw [a3K ht,d8] at hI
  simp only at hI
  by_cases hok:ak3 l k<v∧v<n∧c≠0
  ·rw [lbI hok.1,lbI hok.2.1,lbI hok.2.2] at hI
   simp only [F7] at hI
   have hne:sgR c≠0:=fun h=>hok.2.2 (sz.1 h)
   obtain ⟨q1,q2,_⟩:=hok
   conv=>whnf
   repeat' (first|refine zx ?_|refine qp sg ?_|refine d6 ht ?_|refine zd ?_ ?_<;>intro h<;>try omega|fail)<;>conv=>whnf
   all_goals first
    |omega
    |exact ⟨hlt,by rw [a9R ht];exact hI,[],rfl,rfl,trivial,⟨rfl,c7 (by rw [a9R ht]),rfl,rfl,rfl,trivial⟩⟩
  ·have hF:d8 (-1) n l=false:=by
    rw [hI]
    rw [← lbR]
    simp only [lbO,lbJ]
    exact fun h=>hok ⟨h.1.1.1,h.1.1.2,h.1.2⟩
   rw [hF]
   have hor:v<=ak3 l k∨n<=v∨sgR c=0:=by
    by_cases q1:ak3 l k<v
    ·by_cases q2:v<n
     ·refine .inr (.inr (sz.2 ?_))
      by_cases q3:c=0
      ·exact q3
      ·exact absurd ⟨q1,q2,q3⟩ hok
     ·exact .inr (.inl (by omega))
    ·exact .inl (by omega)
   clear hI hok
   conv=>whnf
   repeat' (first|refine zx ?_|refine qp sg ?_|refine d6 ht ?_|refine zd ?_ ?_<;>intro h<;>try omega|fail)<;>conv=>whnf
   all_goals first
    |omega
    |exact b9 rfl
 ·rw [lbo (by omega)] at hI
  have hI:d8 (-1) n l=true:=hI
  rw [hI]
  conv=>whnf
  repeat' (first|refine zx ?_|refine zd ?_ ?_<;>intro h<;>try omega|fail)<;>conv=>whnf
  all_goals first
   |omega
   |exact b9 rfl
structure a0K (s:d7):Prop where
 n0:s.rows.length<=1000000
 t:∀w ∈ s.rows,w.terms.length<=100∧(∀ t ∈ w.terms,rl t.2<=200)∧rl w.value<=200
theorem a2p (s:d7) (hb:a0K s):a8 Tryz.prog 113 [K3 s] [] (d9 (g7 s)) []:=by
 have m1:(s.rows.map u0).length=s.rows.length:=by simp
 have l1:=hb.n0
 by_cases h0:¬(0<=s.n∧s.n<=1500∧s.rows.length<=6000)
 ·have e1:g7 s=false:=by
   unfold g7
   rw [← lbR]
   simp only [lbO,lbJ]
   exact fun h=>h0 ⟨h.1.1.1,h.1.1.2,h.1.2⟩
  rw [e1]
  (refine ac Tryz.func113 ?_;(conv=>whnf);repeat ((first|refine b0x ?_|refine zy ?_);conv=>whnf))
  repeat' (first|refine zx ?_|refine zd ?_ ?_<;>intro h<;>try omega|fail)<;>conv=>whnf
  all_goals first
   |omega
   |exact b9 rfl
 obtain ⟨c1,c2,c3⟩:=Decidable.not_not.1 h0
 have e1:g7 s=s.rows.all (y9 s.n):=by
  unfold g7
  rw [lbI c1,lbI c2,lbI c3];rfl
 rw [e1]
 clear h0
 (refine ac Tryz.func113 ?_;(conv=>whnf);repeat ((first|refine b0x ?_|refine zy ?_);conv=>whnf))
 repeat' (first|refine zx ?_|refine zd ?_ ?_<;>intro h<;>try omega|fail)<;>conv=>whnf
 all_goals try omega
 refine i3 c9 (fun k=>([J,S.c (C.t (T.ptr [ti s.n,K0 s.rows]))]++Jn 18++[S.c (C.t (K0 s.rows)),a7 .i64 s.rows.length,a7 .i64 k]++Jn 26,[])) s.rows.length (fun k=>(s.rows.take k).all (y9 s.n)=true) [] rfl
  ⟨rfl,rfl,trivial,⟨rfl,rfl,c7 (by simp),rfl,trivial⟩⟩ ?_
 intro k hk hI
 by_cases hlt:k<s.rows.length
 ·obtain ⟨w,hw⟩:∃w,s.rows[k]? =some w:=⟨_,lbf hlt⟩
  obtain ⟨b1,b2,b3⟩:=hb.t w (lbm hw)
  have rt:=I0 w.terms s.n (by omega) b2
  rw [lbI c1,F7] at rt
  have rv:=G0 w.value (by omega)
  cases hrt:d8 (-1) s.n w.terms with
  |false=>
   rw [hrt] at rt
   have hF:y9 s.n w=false:=by unfold y9;rw [hrt];rfl
   rw [C2 hw hF]
   conv=>whnf
   repeat' (first|refine zx ?_|refine qp rt ?_|refine qp rv ?_|refine d6 hw ?_|refine zd ?_ ?_<;>intro h<;>try omega|fail)<;>conv=>whnf
   all_goals first
    |omega
    |(exfalso;simp_all;done)
    |exact b9 rfl
  |true=>
   rw [hrt] at rt
   by_cases hk3:0<=w.kind∧w.kind<3
   ·have hT:y9 s.n w=true:=by unfold y9;rw [hrt,lbI hk3.1,lbI hk3.2];rfl
    conv=>whnf
    repeat' (first|refine zx ?_|refine qp rt ?_|refine qp rv ?_|refine d6 hw ?_|refine zd ?_ ?_<;>intro h<;>try omega|fail)<;>conv=>whnf
    all_goals first
     |omega
     |(exfalso;simp_all;done)
     |exact ⟨hlt,by rw [x8 hw,hI,hT];rfl,[],rfl,rfl,trivial,⟨rfl,rfl,rfl,rfl,trivial⟩⟩
   ·have hF:y9 s.n w=false:=by
     unfold y9
     rw [← lbR]
     simp only [lbO,lbJ]
     exact fun h=>hk3 ⟨h.1.2,h.2⟩
    rw [C2 hw hF]
    conv=>whnf
    repeat' (first|refine zx ?_|refine qp rt ?_|refine qp rv ?_|refine d6 hw ?_|refine zd ?_ ?_<;>intro h<;>try omega|fail)<;>conv=>whnf
    all_goals first
     |omega
     |(exfalso;simp_all;done)
     |exact b9 rfl
 ·rw [lbn (by omega)] at hI
  rw [hI]
  conv=>whnf
  repeat' (first|refine zx ?_|refine zd ?_ ?_<;>intro h<;>try omega|fail)<;>conv=>whnf
  all_goals first
   |omega
   |exact b9 rfl
theorem b4l (rs:List Fr) (hl:rs.length<=1000000) (g:FuncId) (caps:List T) (q:Fr->Bool) (hg:∀r ∈ rs,a8 Tryz.prog g (frS r::caps.map fun x=>.c (.t x)) [] (d9 (q r)) []):
 a8 Tryz.prog 202 [.c (.t (M8 rs)),.c (.t (.fn (.func g) caps))] [] (a7 .i64 (V9 q rs 0)) []:=by
 have l1:(rs.map j0).length=rs.length:=by simp
 (refine ac Tryz.func202 ?_;(conv=>whnf);repeat (refine zy ?_;conv=>whnf))
 repeat' (first|refine zx ?_|refine zd ?_ ?_<;>intro h<;>try omega|fail)<;>conv=>whnf
 refine i3 c9 (fun k=>([S.c (C.t (M8 rs)),S.c (C.t (T.fn (.func g) caps)),J,J,J,J,J,a7 .i64 rs.length,a7 .i64 k]++Jn 10,[])) rs.length (fun k=>V9 q (rs.drop k) k=V9 q rs 0) [] rfl
  ⟨rfl,rfl,trivial,⟨i8 rfl,i8 rfl,c7 (by simp),rfl,trivial⟩⟩ ?_
 intro k hk hI
 by_cases hlt:k<rs.length
 ·obtain ⟨r,hr⟩:∃r,rs[k]? =some r:=⟨_,lbf hlt⟩
  have hd:rs.drop k=r::rs.drop (k+1):=by
   rw [a8p hlt]
   rw [lbf hlt] at hr
   injection hr with hr
   rw [hr]
  have hgr:=hg r (lbm hr)
  have ha:(frS r::caps.map fun x=>S.c (C.t x)).all S.isT=true:=by simp [S.isT,C.isT,j0]
  rw [hd] at hI
  have hI:(if q r then (k:Int) else V9 q (rs.drop (k+1)) (k+1))=V9 q rs 0:=hI
  cases hq:q r with
  |true=>
   rw [hq] at hgr hI
   conv=>whnf
   repeat' (first|refine zx ?_|refine .inl ⟨_,_,F9 hgr ha rfl,?_⟩|refine d6 hr ?_|refine zd ?_ ?_<;>intro h<;>try omega|fail)<;>conv=>whnf
   all_goals first
    |omega
    |exact n6 hI
  |false=>
   rw [hq] at hgr hI
   conv=>whnf
   repeat' (first|refine zx ?_|refine .inl ⟨_,_,F9 hgr ha rfl,?_⟩|refine d6 hr ?_|refine zd ?_ ?_<;>intro h<;>try omega|fail)<;>conv=>whnf
   all_goals first
    |omega
    |exact ⟨hlt,by simpa using hI,[],rfl,rfl,trivial,⟨rfl,rfl,rfl,rfl,trivial⟩⟩
 ·have hke:k=rs.length:=by omega
  subst hke
  rw [lbo (lbS _)] at hI
  conv=>whnf
  repeat' (first|refine zx ?_|refine zd ?_ ?_<;>intro h<;>try omega|fail)<;>conv=>whnf
  all_goals first
   |omega
   |exact n6 hI
theorem aI3 (rs:List Fr) (hl:rs.length<=1000000) (g:FuncId) (caps:List T) (q:Fr->Bool) (hg:∀r ∈ rs,a8 Tryz.prog g (frS r::caps.map fun x=>.c (.t x)) [] (d9 (q r)) []):
 a8 Tryz.prog 159 [.c (.t (M8 rs)),.c (.t (.fn (.func g) caps))] [] (d9 (rs.any q)) []:=by
 have ix:=b4l rs hl g caps q hg
 (refine ac Tryz.func159 ?_;(conv=>whnf);repeat (refine zy ?_;conv=>whnf))
 repeat' (first|refine zx ?_|refine qp ix ?_|refine zd ?_ ?_<;>intro h<;>try omega|fail)<;>conv=>whnf
 all_goals (refine b9 ?_;rw [← a6a q rs 0];simp;omega)
theorem b4O (f:Fr) (lp:f.p.dl.length<=200000) (lq:f.q.dl.length<=200000):a8 Tryz.prog 160 (frS f::[].map fun x=>.c (.t x)) [] (d9 (!o6 f)) []:=by
 have r:=a4k f lp lq
 (refine ac Tryz.func160 ?_;(conv=>whnf);repeat ((first|refine b0x ?_|refine zy ?_);conv=>whnf))
 repeat' (first|refine zx ?_|refine qp r ?_|refine zd ?_ ?_<;>intro h<;>try omega|fail)<;>conv=>whnf
 all_goals (refine b9 ?_;simp [*])
theorem a9x (z:List Fr) (hl:z.length<=1000000) (hd:∀f ∈ z,f.p.dl.length<=200000∧f.q.dl.length<=200000):a8 Tryz.prog 111 [k8 z] [] (d9 (z.all o6)) []:=by
 have ct:=aI3 z hl 160 [] _ (fun f hf=>b4O f (hd f hf).1 (hd f hf).2)
 have e:(z.any fun f=>!o6 f)=!(z.all o6):=by rw [List.not_all_eq_any_not]
 rw [e] at ct
 cases hz:z.all o6<;>rw [hz] at ct<;>
 ·(refine ac Tryz.func111 ?_;(conv=>whnf);repeat ((first|refine b0x ?_|refine zy ?_);conv=>whnf))
  repeat' (first|refine zx ?_|refine qp ct ?_|refine zd ?_ ?_<;>intro h<;>try omega|fail)<;>conv=>whnf
  all_goals exact b9 rfl
theorem at8 {n:Int}:∀{l:List (Int × Rat)} {last:Int},d8 last n l=true->∀t ∈ l,last<t.1∧t.1<n
 |[],_,_,t,ht=>by cases ht
 |u::r,last,h,t,ht=>by
  unfold d8 at h
  simp only [lbO,lbJ] at h
  rcases lbB.1 ht with rfl|ht
  ·exact ⟨h.1.1.1,h.1.1.2⟩
  ·have:=at8 h.2 t ht
   omega
structure OrP where
 kind:Int
 mv:Int
 mat:Int
 idx:Int
def b7I (e:Ev) (i m:Nat):Int:=(i:Int)*e.mats+m
def b8c (e:Ev) (G:List (List Rat)) (z:List Rat):Prop:=∀i m:Nat,i<e.moves.length->(m:Int)<e.mats->z.getD (b7I e i m).toNat 0=hAt G i m
theorem aU2 {α:Type} {w:Nat}:∀{G:List (List α)} (i m:Nat),(∀ l ∈ G,l.length=w)->m<w->G.flatten[i*w+m]? =(G[i]?).bind (·[m]?)
 |[],i,m,_,_=>by simp
 |l::r,0,m,h,hm=>by
  have hl:=h l (by simp)
  rw [a9Y,y3,aC5,lbb (by omega)];simp
 |l::r,i+1,m,h,hm=>by
  have hl:=h l (by simp)
  have ih:=aU2 (G:=r) i m (fun l hl=>h l (T9 _ hl)) hm
  rw [aC5,lbc (by rw [lbV];omega),show (i+1)*w+m - l.length=i*w+m by rw [lbV];omega,ih];simp
theorem flat_holds {e:Ev} {G:List (List Rat)} (sG:bi9 e G):b8c e G G.flatten:=by
 intro i m hi hm
 have hw:∀l ∈ G,l.length=e.mats.toNat:=fun l hl=>by have:=sG.wid l hl;omega
 have e1:(b7I e i m).toNat=i*e.mats.toNat+m:=by
  have h0:(e.mats.toNat:Int)=e.mats:=lbZ (by omega)
  have:b7I e i m=((i*e.mats.toNat+m:Nat):Int):=by unfold b7I;rw [← h0];simp
  rw [this,lbY]
 rw [e1,lbl,aU2 i m hw (by omega)]
 unfold hAt
 rw [lbl,lbl]
 cases h:G[i]? with
 |none=>simp
 |some l=>simp
structure bj5 where
 mv:Int
 mat:Int
def bj5.row (p:bj5):List T:=[ti p.mv,ti p.mat]
def aX3 (n:Int) (f:Fr):Bool:=decide ((f.p.dl.length:Int)<=n) && decide ((f.q.dl.length:Int)<=n)
theorem b9C (f:Fr) (n:Int):a8 Tryz.prog 18 [frS f,a7 .i64 n] [] (d9 (aX3 n f)) []:=by
 have l1:(f.p.dl.map i5).length=f.p.dl.length:=by simp
 have l2:(f.q.dl.map i5).length=f.q.dl.length:=by simp
 (refine ac Tryz.func18 ?_;(conv=>whnf);repeat ((first|refine b0x ?_|refine zy ?_);conv=>whnf))
 repeat' (first|refine zx ?_|refine zd ?_ ?_<;>intro h<;>try omega|fail)<;>conv=>whnf
 all_goals (refine b9 ?_;unfold aX3;simp;omega)
section
open Go.RowKit Go.Shelf
attribute [local go_sem] Oper.semAt_some
structure C9 (B n:Nat) (w w':World):Prop where
 os:w'.os=w.os
 tape:w'.tape=w.tape
 output:w'.output=w.output
 size:w.heap.size<=w'.heap.size
 block:∀k,k<n->k≠B->w'.heap[k]? =w.heap[k]?
theorem C9.refl (B n:Nat) (w:World):C9 B n w w:=⟨rfl,rfl,rfl,lbS _,fun _ _ _=>rfl⟩
theorem C9.trans {B n:Nat} {a b c:World} (h:C9 B n a b) (k:C9 B n b c):C9 B n a c:=
 ⟨k.os.trans h.os,k.tape.trans h.tape,k.output.trans h.output,lbT h.size k.size,fun i hi hB=>(k.block i hi hB).trans (h.block i hi hB)⟩
theorem C9.of {B n:Nat} {a b:World} (h:Below n a b):C9 B n a b:=⟨h.os,h.tape,h.output,h.size,fun k hk _=>h.block k hk⟩
theorem C9.cell {B n:Nat} {w w':World} (h:C9 B n w w') {p:Addr} (hp:p.block<n) (hB:p.block≠B):w'.cell? p=w.cell? p:=World.cell?_of_block (w:=w) (h.block p.block hp hB)
theorem C9.low {B n:Nat} {w w':World} (h:C9 B n w w') {m:Nat} (hm:m<=n) (hB:m<=B):Below m w w':=⟨h.os,h.tape,h.output,h.size,fun k hk=>h.block k (by omega) (by omega)⟩
end
open Go.RowKit Go.Shelf
theorem aJ7 (w:World) (ι:Io) (M:Ms):j3 w ι M []:=
 ⟨fun id k h=>by simp at h,fun id k h=>by simp at h,fun id k h=>by simp at h,fun id id' k k' h=>by simp at h,fun id id' k k' h=>by simp at h⟩
theorem aN7 {w w':World} {ι:Io} {M:Ms} {s:S} {v:Value} (h:RS w' ι M s v) (hb:Below w.heap.size w w') (hMB:MB w M) (hF:a1c ι 0):B4 w ι M [] s [] v w':=
 ⟨ι,M,h,aJ7 _ _ _,fun b hm=>lb9 (hMB b hm) hb.size,hF,
   ⟨hb.os,hb.tape,hb.output,hb.size,fun b hb' _=>hb.block b hb',fun _ _=>rfl,fun b h=>.inl h,fun b h=>.inl h,fun b h=>by obtain ⟨id,k,c,s,hk,_⟩:=h;simp at hk,lbS _⟩⟩
theorem b1y {α β:Type} (l:List α) (f:α->List β) (i j:Nat):at2 (l.map f) i j=(l[i]?).bind fun a=>(f a)[j]?:=by
 simp [at2]
 cases l[i]?<;>rfl
section
open Go.RowKit Go.Shelf
attribute [local go_sem] Oper.semAt_some
theorem aa0 {β:Type} {X n₀ B:Nat} {w₀:World} (hn:n₀<=w₀.heap.size) (hB:n₀<=B):OwnFrom B (fun (_:β) W=>C9 X n₀ w₀ W):=
 fun _ _ _ _ hs hg hr=>hs.trans ⟨hg.os,hg.tape,hg.output,hg.size,fun k hk _=>hg.block k (by have:=hs.size;omega) (fun e=>by have:=(hr k e.symm).1;omega)⟩
theorem b2H {W:World} {base:Nat} {e:TypeId} {size:Nat} {v:Value} {k:Nat} {xs:List Value} (h:W.ownsRow base e size v k xs):W.ownsRow 0 e size v k xs:=
 ⟨h.1,h.2.imp id fun ⟨g,cap,cur,h1,_,h2⟩=>⟨g,cap,cur,h1,D5 _,h2⟩⟩
theorem b4j {W w1:World} {n₀ B:Nat} {t e:TypeId} {size:Nat} {v v':Value} {k m:Nat} {xs ys:List Value} {tmp:Obj}
 (hv:Boxed W B t v) (hte:t≠e) (hrow:W.ownsRow n₀ e size v k xs) (hn₀:n₀<=W.heap.size)
 (hown':w1.ownsRow n₀ e size v' m ys) (hgrow:(W.alloc tmp).grownBy w1 v.ownBlock):
 Boxed w1 B t v∧Boxed (w1.setCell ⟨B,0,none⟩ v') B t v'∧(w1.setCell ⟨B,0,none⟩ v').ownsRow n₀ e size v' m ys∧KeepsOthers W (w1.setCell ⟨B,0,none⟩ v')∧C9 B n₀ W (w1.setCell ⟨B,0,none⟩ v'):=by
 obtain ⟨h1,h2,_,h4,_⟩:=hv.appended (n₀:=0) hte (b2H hrow) (D5 _) (D5 _) (b2H hown') hgrow
 refine ⟨h1,h2,hown'.kept (grownBy_setCell' w1 B v') (.inr (h1.not_row hte hown').symm),h4,?_⟩
 refine (C9.of (((Below.refl n₀ W).alloc hn₀ tmp).grown hgrow (by simp;omega) fun j ej=>?_)).trans ⟨rfl,rfl,rfl,by simp [World.setCell],fun k _ hk=>Below.heap_setCell _ _ _ _ hk⟩
 rcases hrow.2 with ⟨rfl,_⟩|⟨g,cap,cur,rfl,hb,_,_⟩
 ·simp [Value.ownBlock] at ej
 ·obtain rfl:g=j:=by simpa [Value.ownBlock] using ej
  exact hb
end
section
open Go.RowKit Go.Shelf Go.Lib Go.Sort
attribute [local go_sem] Oper.semAt_some
set_option maxRecDepth 100000 in
set_option maxHeartbeats 2000000 in
theorem b8b (F:Fence) (n:Nat) (hF:F.fn 110) (hro:F.round=none) (hn:1<=n) (l X Bs Bo n₀ b off cap:Nat) (A:Option Addr) (xs:List Int) (hBs:Bs<n₀) (xBs:Bs≠X) (hb:xs≠[]->b<n₀∧b≠X∧A=some ⟨b,off,none⟩) (hl:xs.length<=1000) (hcap:xs.length<=cap)
 (J Jx:List Int->World->Prop)
 (hY:∀pre x W,J pre W->pre.length<xs.length->YieldAt F (n - 1) Tryz.prog l #[.int .i64 x] W fun e W'=>
   (e=.returned (.bool true)∧J (pre++[x]) W'∧C9 X n₀ W W')∨(e=.returned (.bool false)∧Jx (pre++[x]) W'))
 (W:World) (h1:W.cell? ⟨Bs,Bo,none⟩=some (.slice A xs.length cap)) (hc:∀i x,xs[i]? =some x->W.cell? ⟨b,off+i,none⟩=some (.int .i64 x)) (h0:J [] W):
 CallsIn F n Tryz.prog 110 #[.func (.yield l) #[] #[],.pointer (some ⟨Bs,Bo,none⟩)] W fun e W'=>(∃ v,e=.returned v)∧
  ((∃ ys,ys=xs∧J ys W')∨(∃ pre,(pre <+: xs)∧Jx pre W')):=by
 refine callsIn_of_wp Tryz.func110 rfl hF ?_ hro
 simp only [Tryz.ntmps110,a8R,lbu,a5n,Nat.reduceAdd,Nat.reduceSub,Array.replicate_succ,Array.replicate_zero,List.push_toArray,List.append_toArray,a8T,ag2]
 gi_wp2
 gi_loopw [7] (fun i wr=>∃k:Nat,k<=xs.length∧i=.int .i64 (k:Int)∧J (xs.take k) wr∧C9 X n₀ W wr)
  (fun i _=>xs.length - (intOf i).toNat)
 case atStart=>exact ⟨0,D5 _,rfl,by simpa using h0,C9.refl _ _ _⟩
 case round=>
  obtain ⟨k,hk,rfl,hJs,hnx⟩:=hrel
  by_cases hlt:k<xs.length
  ·obtain ⟨x,hx⟩:∃x,xs[k]? =some x:=⟨_,lbf hlt⟩
   have hne:xs≠[]:=by intro h;rw [h] at hlt;simp at hlt
   obtain ⟨b1,b2,rfl⟩:=hb hne
   have q1:=(hnx.cell (p:=⟨b,off+k,none⟩) b1 b2).trans (hc k x hx)
   have tk:xs.take (k+1)=xs.take k++[x]:=by rw [lbH,hx];rfl
   obtain ⟨fn,tmps,assign,body,hy,hR⟩:=hY _ x wr hJs (by rw [lbs];omega)
   gi_wp2
   all_goals try omega
   all_goals
    refine hR.mono ?_
    rintro e W3 (⟨rfl,hJ3,hk3⟩|⟨rfl,hJx3⟩)
    ·have hnx3:C9 X n₀ W W3:=hnx.trans hk3
     gi_wp2
     go_roundw
     case rel=>exact ⟨k+1,by omega,rfl,by rw [tk];exact hJ3,hnx3⟩
     case measure=>simp [intOf];omega
    ·gi_wp2
     refine bodyPost_ret (results_none rfl _ _ _) rfl ?_
     exact ⟨⟨_,rfl⟩,.inr ⟨_,by rw [← tk];exact List.take_prefix _ _,hJx3⟩⟩
  ·obtain rfl:k=xs.length:=by omega
   gi_wp2
   all_goals try omega
   go_end0
   exact ⟨⟨_,rfl⟩,.inl ⟨_,rfl,by simpa using hJs⟩⟩
theorem aZ2 (F:Fence) (n:Nat) (hF:F.fn 110) (hro:F.round=none) (hn:1<=n) (X Bs Bo n₀ b off cap:Nat) (A:Option Addr) (xs:List Int) (hBs:Bs<n₀) (xBs:Bs≠X) (hb:xs≠[]->b<n₀∧b≠X∧A=some ⟨b,off,none⟩) (hl:xs.length<=1000) (hcap:xs.length<=cap)
 (w:World) (hn₀:n₀<=w.heap.size) (h1:w.cell? ⟨Bs,Bo,none⟩=some (.slice A xs.length cap)) (hc:∀i x,xs[i]? =some x->w.cell? ⟨b,off+i,none⟩=some (.int .i64 x)):
 SeqStopsK F n Tryz.prog 110 #[.pointer (some ⟨Bs,Bo,none⟩)] (fun i:Int=>#[.int .i64 i]) (C9 X n₀) (fun ys=>ys=xs) (fun pre=>pre <+: xs) xs.length w:=fun l J Jx W hW hJ _ hY h0=>by
 have q1:=(hW.cell (p:=⟨Bs,Bo,none⟩) (by show Bs<w.heap.size;omega)).trans h1
 refine (b8b F n hF hro hn l X Bs Bo n₀ b off cap A xs hBs xBs hb hl hcap J Jx hY W q1 (fun i x hx=>?_) h0).mono ?_
 ·have hne:xs≠[]:=by intro h;rw [h] at hx;simp at hx
  exact (hW.cell (p:=⟨b,off+i,none⟩) (by show b<w.heap.size;have:=(hb hne).1;omega)).trans (hc i x hx)
 ·rintro e W' ⟨he,⟨ys,rfl,hj⟩|⟨pre,hp,hj⟩⟩
  ·exact ⟨he,.inl ⟨_,rfl,hj⟩⟩
  ·exact ⟨he,.inr ⟨_,hp,hj⟩⟩
theorem bd6 {W:World} {a b:Nat} {e:TypeId} {size:Nat} {v:Value} {k:Nat} {xs:List Value} (hab:a<=b) (h:W.ownsRow b e size v k xs):W.ownsRow a e size v k xs:=
 ⟨h.1,h.2.imp id fun ⟨g,cap,cur,h1,h2,h3⟩=>⟨g,cap,cur,h1,lbT hab h2,h3⟩⟩
theorem b7r:(Tryz.prog.info? 3).map (fun i=>(i.zero,i.size,i.bytes))=some (some (.int .i64 0),1,8):=by kernel_rfl
set_option maxRecDepth 100000 in
set_option maxHeartbeats 4000000 in
theorem a9J (b off cap:Nat) (A:Option Addr) (xs:List Int) (hl:xs.length<=1000) (hcap:xs.length<=cap) (Bs Bo:Nat) (w:World) (hBs:Bs<w.heap.size) (hb:xs≠[]->b<w.heap.size∧A=some ⟨b,off,none⟩) (h1:w.cell? ⟨Bs,Bo,none⟩=some (.slice A xs.length cap)) (hc:∀i x,xs[i]? =some x->w.cell? ⟨b,off+i,none⟩=some (.int .i64 x)):
 Calls Tryz.prog 156 #[.slice none 0 0,.func (.func 110) #[] #[.pointer (some ⟨Bs,Bo,none⟩)]] w fun ee w'=>∃v,ee=.returned v∧w'.ownsRow w.heap.size 3 1 v xs.length (xs.map (Value.int .i64))∧Below w.heap.size w w':=by
 obtain ⟨i0,hi,hz0,hz1,hz2⟩:=info_parts b7r
 have hml:(1000:Nat)<=maxLen:=by decide
 refine (callsIn_wide (n:=5)).1 ?_
 refine callsIn_of_wp_marks Tryz.func156 rfl trivial ?_ rfl
 simp only [Tryz.ntmps156,a8R,lbu,a5n,Nat.reduceAdd,Nat.reduceSub,Array.replicate_succ,Array.replicate_zero,List.push_toArray,List.append_toArray,a8T,ag2]
 have bO:=Boxed.new w 60 (.slice none 0 0)
 have hB1:Below w.heap.size w (w.alloc (.cells #[.slice none 0 0] 60)):=(Below.refl _ _).alloc (lbS _) _
 have s1:(w.alloc (.cells #[.slice none 0 0] 60)).heap.size=w.heap.size+1:=by simp
 obtain ⟨W1,hW1⟩:∃W1,w.alloc (.cells #[.slice none 0 0] 60)=W1:=⟨_,rfl⟩
 rw [hW1] at bO hB1 s1
 have q1:=(hB1.cell (p:=⟨Bs,Bo,none⟩) hBs).trans h1
 have qc:∀i x,xs[i]? =some x->W1.cell? ⟨b,off+i,none⟩=some (.int .i64 x):=fun i x hx=>by
  have hne:xs≠[]:=by intro h;rw [h] at hx;simp at hx
  exact (hB1.cell (p:=⟨b,off+i,none⟩) (hb hne).1).trans (hc i x hx)
 gi_wp2
 refine wpIn_rangeFunc_ownG (n:=5) rfl (by omega) (gf:=110) (lb:=#[.pointer (some ⟨Bs,Bo,none⟩)]) rfl trivial (enters_of Tryz.func110 (by kernel_rfl) rfl)
  (aZ2 Fence.wide _ trivial rfl (by omega) w.heap.size Bs Bo W1.heap.size b off cap A xs (by omega) (by omega) (fun h=>⟨by have:=(hb h).1;omega,by have:=(hb h).1;omega,(hb h).2⟩) hl hcap W1 (lbS _) q1 qc)
  C9.trans (fun W l o o' h1 h2 h3 h4=>C9.of (belowK_b (lbS _) W l o o' h1 h2 h3 h4)) (Below.refl _ _) (fun _=>rfl)
  (fun pre W=>(∃ v,Boxed W w.heap.size 60 v∧W.ownsRow W1.heap.size 3 1 v pre.length (pre.map (Value.int .i64))∧True)∧C9 w.heap.size W1.heap.size W1 W)
  (fun _ _ _=>False)
  (OwnFrom.and (Own.from (holdsRow_own W1.heap.size w.heap.size 60 3 1 (fun pre:List Int=>pre.length) (fun pre:List Int=>pre.map (Value.int .i64)) (fun _ _=>True)) _) (aa0 (lbS _) (lbS _)))
  (fun _ _ _ _ _ hs _ _=>hs)
  ⟨⟨_,bO,World.ownsRow_nil _ _ _ _,trivial⟩,C9.refl _ _ _⟩
  (fun i=>{ tmps:=#[.slice none 0 0,.func (.func 110) #[] #[.pointer (some ⟨Bs,Bo,none⟩)],.pointer (some ⟨w.heap.size,0,none⟩),undef,.slice none 0 0,.int .i64 i,.func (.func 110) #[] #[.pointer (some ⟨Bs,Bo,none⟩)],.int .i64 i,undef,undef,undef,undef,undef],defers:=[] }) ?assign ?body ?done ?stop
 case assign=>
  intro l i W K hK
  gi_wp2
  exact hK
 case body=>
  rintro l pre i W ⟨⟨v,hv,hrow,-⟩,hB⟩ hlt
  have hcl:=hv.cell
  gi_wp2_with (gi_at_builtin;refine wpListIn_append_own _ rfl _ _ 60 rfl W1.heap.size 3 i0 (.int .i64 0) 1 8 Tryz.underlying60 hi hz0 hz1 hz2 rfl (by decide) _ _ _ rfl (hrow.alloc _) ⟨W.heap.size,0,none⟩ 1 1 [.int .i64 i] rfl rfl (cell_one_new _ _ _) (by simp [Value.oneCell']) (by omega) (by omega) (by have:=hB.size;simp;omega) ?_;intro v' w1 hown' hgrow _;obtain ⟨g',cap',rfl⟩:=ownsRow_succ hown';obtain ⟨hv1,hv2,hr2,hk2,hb2⟩:=b4j hv (by decide) hrow hB.size hown' hgrow;have hc1:=hv1.cell;have hf1:=hv1.frozen)
  exact ⟨hk2.from _,hb2,⟨_,hv2,by rw [lbq,lbD];exact hr2,trivial⟩,hB.trans hb2⟩
 case done=>
  rintro D ys W hD rfl ⟨⟨v,hv,hrow,-⟩,hB⟩ hK
  have hcl:=hv.cell
  gi_wp2
  refine ⟨by simp,.inl ⟨_,_,rfl,run_takeDeferred hK,?_⟩⟩
  have hfin:C9 w.heap.size W1.heap.size W1 (W.putObj D (.deferred none)):=hB.trans (C9.of (belowK_b (w:=W1) (lbS _) W D _ _ hD hK rfl rfl))
  exact ⟨_,results_tmp rfl _ _ _,v,rfl,bd6 (by omega) (ownsRow_putObj hrow _ hK rfl),hB1.trans (hfin.low (by omega) (by omega))⟩
 case stop=>
  rintro D c pre W _ _ h _
  exact h.elim
end
inductive VY (H:Hp) (p:Nat->Prop):C->T->Prop
 |vc {x:C} {y:T} (h:VC H p x y):VY H p x y
 |own {id lo len:Nat} {app:Bool} {size:Nat} {k:Blk} {rows:List (List T)} (hp:p id) (hk:H[id]? =some k) (hd:¬k.mode.gone) (hs:k.size=size) (hl:rows.length=len)
   (hw:∀r ∈ rows,r.length=size) (g:Nat->Nat->C) (hc:∀i j c,at2 rows i j=some c->at2 k.rows (lo+i) j=some (g i j))
   (hx:∀i j c,at2 rows i j=some c->VY H p (g i j) c) (hm:k.mp=false:=by rfl):VY H p (.own id lo len app) (.sl size .any rows)
 |ptr {id r o:Nat} {k:Blk} {row:List C} {cells:List T} (hp:p id) (hk:H[id]? =some k) (hd:¬k.mode.gone) (hr:k.rows[r]? =some row)
   (g:Nat->C) (hc:∀j c,cells[j]? =some c->row[o+j]? =some (g j)) (hx:∀j c,cells[j]? =some c->VY H p (g j) c) (hm:k.mp=false:=by rfl):VY H p (.ptr id r o) (.ptr cells)
 |fn {f:Fn} {caps:List C} {caps':List T} (hl:caps.length=caps'.length) (g:Nat->C) (hc:∀j c,caps'[j]? =some c->caps[j]? =some (g j))
   (hx:∀j c,caps'[j]? =some c->VY H p (g j) c):VY H p (.fn f caps) (.fn f caps')
def VYL (H:Hp) (p:Nat->Prop):List C->List T->Prop
 |[],[]=>True
 |x::r,y::r'=>VY H p x y∧VYL H p r r'
 |_,_=>False
theorem VYL.get {H:Hp} {p:Nat->Prop}:∀{xs:List C} {ys:List T},VYL H p xs ys->xs.length=ys.length∧∀(j:Nat) (c:T),ys[j]? =some c->∃x,xs[j]? =some x∧VY H p x c
 |[],[],_=>⟨rfl,by simp⟩
 |x::xs,y::ys,h=>by
  obtain ⟨h1,h2⟩:=VYL.get h.2
  refine ⟨by simp [h1],fun j c hc=>?_⟩
  cases j with
  |zero=>simp at hc;subst hc;exact ⟨x,rfl,h.1⟩
  |succ j=>simpa using h2 j c (by simpa using hc)
 |[],_::_,h=>h.elim
 |_::_,[],h=>h.elim
theorem b7b {H:Hp} {p:Nat->Prop} {x:T}:VY H p (.t x) x:=.vc (aD0 (U4 x))
theorem ai7 {H:Hp} {p:Nat->Prop} {id r o:Nat} {k:Blk} {row:List C} {cells:List T} (hp:p id) (hk:H[id]? =some k) (hd:¬k.mode.gone) (hr:k.rows[r]? =some row) (h:VYL H p (row.drop o) cells) (hm:k.mp=false:=by rfl):VY H p (.ptr id r o) (.ptr cells):=by
 obtain ⟨h1,h2⟩:=h.get
 refine .ptr hp hk hd hr (fun j=>(row.drop o).getD j (.t (.ptr []))) (fun j c hc=>?_) (fun j c hc=>?_) hm
 ·obtain ⟨x,hx,_⟩:=h2 j c hc
  rw [lbj] at hx
  rw [lbl,lbj,hx];rfl
 ·obtain ⟨x,hx,hv⟩:=h2 j c hc
  rw [lbl,hx];exact hv
theorem aQ7 {H:Hp} {p:Nat->Prop} {f:Fn} {caps:List C} {caps':List T} (h:VYL H p caps caps'):VY H p (.fn f caps) (.fn f caps'):=by
 obtain ⟨h1,h2⟩:=h.get
 refine .fn h1 (fun j=>caps.getD j (.t (.ptr []))) (fun j c hc=>?_) (fun j c hc=>?_)
 ·obtain ⟨x,hx,_⟩:=h2 j c hc
  rw [lbl,hx];rfl
 ·obtain ⟨x,hx,hv⟩:=h2 j c hc
  rw [lbl,hx];exact hv
theorem b5N {H:Hp} {p:Nat->Prop} {id len size:Nat} {app:Bool} {k:Blk} {rows:List (List T)} (hp:p id) (hk:H[id]? =some k) (hd:¬k.mode.gone) (hs:k.size=size) (hl:rows.length=len)
 (hw:∀r ∈ rows,r.length=size) (h:∀(i:Nat) (r:List T),rows[i]? =some r->∃row,k.rows[i]? =some row∧VYL H p row r) (hm:k.mp=false:=by rfl):VY H p (.own id 0 len app) (.sl size .any rows):=by
 have key:∀i j c,at2 rows i j=some c->∃x,at2 k.rows i j=some x∧VY H p x c:=fun i j c hc=>by
  obtain ⟨r,h1,h2⟩:=x5 hc
  obtain ⟨row,h3,h4⟩:=h i r h1
  obtain ⟨x,h5,h6⟩:=h4.get.2 j c h2
  exact ⟨x,p8 h3 h5,h6⟩
 refine .own hp hk hd hs hl hw (fun i j=>(at2 k.rows i j).getD (.t (.ptr []))) (fun i j c hc=>?_) (fun i j c hc=>?_) hm
 ·obtain ⟨x,hx,_⟩:=key i j c hc
  rw [y3,hx];rfl
 ·obtain ⟨x,hx,hv⟩:=key i j c hc
  rw [hx];exact hv
theorem VY.rt {H:Hp} {p:Nat->Prop} {w:World} {ι:Io} {M M':Ms} (hH:j3 w ι M H) (hM:∀b,M' b->M b) (hp:∀id k b cap size,p id->H[id]? =some k->¬k.mode.gone->ι id=some (.blk b cap size)->¬M' b)
 {x:C} {y:T} (h:VY H p x y):∀{v:Value},RC w ι M x v->RT w M' y v:=by
 induction h with
 |vc h=>intro v hr;exact VC.rt hH hM hp _ _ _ h hr
 |@own id lo len app size k rows hpi hk hd hs hl hw g hc hx hmp ih=>
  intro v hr
  cases hr with
  |@own _ _ _ _ b cap sz A cap' hi q1 q2 q3 q4 q5=>
   subst hl
   have hbr:=hH.blk id k hk (fun e=>hd (by rw [e];trivial)) _ hi
   obtain ⟨r1,r2,r3,r4,r5,cur,r6,r7,r8⟩:=hbr
   rw [B7 hmp] at r6
   have hnm:=hp id k b cap sz hpi hk hd hi
   have hse:sz=size:=by rw [← hs,r1]
   subst hse
   have hat:∀(i j:Nat) (c:T),at2 rows i j=some c->∃u,cur[(lo+i)*sz+j]? =some u∧RT w M' c u:=fun i j c hij=>by
    obtain ⟨u,t1,t2⟩:=r8 _ _ _ (hc i j c hij)
    exact ⟨u,t1,ih i j c hij t2⟩
   refine .sl (b:=b) (off:=lo*sz) (fun i j=>cur.getD ((lo+i)*sz+j) undef) hw q3 q4 (by intro h;cases h) (by intro h;cases h) (fun hne=>q2 (af7.2 hne)) ?_ ?_
   ·intro i j c hc'
    obtain ⟨u,s1,s2⟩:=hat i j c hc'
    refine ⟨?_,hnm⟩
    have e:lo*sz+(i*sz+j)=(lo+i)*sz+j:=by rw [N4,a1g]
    simp only [World.cell?]
    rw [r6,e]
    simp [s1]
   ·intro i j c hc'
    obtain ⟨u,s1,s2⟩:=hat i j c hc'
    have:cur.getD ((lo+i)*sz+j) undef=u:=by simp [s1]
    rw [this];exact s2
  |nil hi=>
   have hr0:rows=[]:=lbG hl
   subst hr0
   exact .sl (b:=0) (off:=0) (fun _ _=>undef) (by simp) (by simp) (by unfold maxLen;omega) (by simp) (by simp) (by simp) (by simp [at2]) (by simp [at2])
 |@ptr id r o k row cells hpi hk hd hrow g hc hx hmp ih=>
  intro v hr
  cases hr with
  |@ptr _ _ _ b cap size hi=>
   have hb:=(hH.blk id k hk (fun e=>hd (by rw [e];trivial)) _ hi).row hmp hrow
   have hnm:=hp id k b cap size hpi hk hd hi
   refine .ptr (fun j=>(w.cell? ⟨b,r*size+o+j,none⟩).getD undef) (fun j c hj=>?_) (fun j c hj=>?_)
   ·obtain ⟨u,h1,h2⟩:=hb _ _ (hc j c hj)
    rw [a1g,h1]
    exact ⟨rfl,hnm⟩
   ·obtain ⟨u,h1,h2⟩:=hb _ _ (hc j c hj)
    rw [a1g,h1]
    exact ih j c hj h2
 |@fn f caps caps' hl g hc hx ih=>
  intro v hr
  cases hr with
  |fn vs hl' hr=>
   exact .fn vs (by omega) fun j c hj=>ih j c hj (hr j _ (hc j c hj))
def VYS (H:Hp) (p:Nat->Prop) (s s':S):Prop:=
 match s' with
 |.junk=>True
 |.c y=>match s,y with
  |.c x,.t y=>VY H p x y
  |_,_=>False
 |.agg ys=>match s with
  |.agg xs=>∃ts,ys=ts.map C.t∧VYL H p xs ts
  |_=>False
 |_=>False
theorem VYS.rs {H:Hp} {p:Nat->Prop} {w:World} {ι ι':Io} {M M':Ms} (hH:j3 w ι M H) (hM:∀b,M' b->M b) (hp:∀id k b cap size,p id->H[id]? =some k->¬k.mode.gone->ι id=some (.blk b cap size)->¬M' b)
 {x y:S} {v:Value} (h:VYS H p x y) (hr:RS w ι M x v):RS w ι' M' y v:=by
 cases y with
 |junk=>exact .junk
 |c y=>
  cases x with
  |c x=>
   cases y with
   |t y=>
    cases hr with
    |c hr=>exact .c (.t (VY.rt hH hM hp h hr))
   |_=>exact False.elim h
  |_=>exact False.elim h
 |agg ys=>
  cases x with
  |agg xs=>
   obtain ⟨ts,rfl,h⟩:=h
   obtain ⟨h1,h2⟩:=h.get
   cases hr with
   |agg vs hl hr=>
    refine .agg vs (by simp;omega) fun j c hj=>?_
    rw [lba] at hj
    cases hj':ts[j]? with
    |none=>rw [hj'] at hj;cases hj
    |some c'=>
     rw [hj'] at hj
     injection hj with hj
     subst hj
     obtain ⟨x,hx,hv⟩:=h2 j c' hj'
     exact .t (VY.rt hH hM hp hv (hr j x hx))
  |_=>exact False.elim h
 |tup _=>exact False.elim h
 |ifc _ _=>exact False.elim h
def X2 (H:Hp) (p:Nat->Prop):List S->List S->Prop
 |[],[]=>True
 |s::r,s'::r'=>VYS H p s s'∧X2 H p r r'
 |_,_=>False
theorem X2.get {H:Hp} {p:Nat->Prop}:∀{l l':List S},X2 H p l l'->l.length=l'.length∧∀(j:Nat) (s':S),l'[j]? =some s'->∃s,l[j]? =some s∧VYS H p s s'
 |[],[],_=>⟨rfl,by simp⟩
 |s::r,s'::r',h=>by
  obtain ⟨h1,h2⟩:=X2.get h.2
  refine ⟨by simp [h1],fun j t ht=>?_⟩
  cases j with
  |zero=>simp at ht;subst ht;exact ⟨s,rfl,h.1⟩
  |succ j=>simpa using h2 j t (by simpa using ht)
 |[],_::_,h=>h.elim
 |_::_,[],h=>h.elim
theorem k5 {P:Program} {g:FuncId} {args args':List S} {H:Hp} {r:S} (h:a8 P g args' [] r []) (ha:X2 H (fun _=>True) args args') (hr:r.flat=true):N1 P g args H r []:=by
 refine ⟨h.1,fun w ι M vals hl hv hH hM hf=>?_⟩
 obtain ⟨hlen,hget⟩:=X2.get ha
 have:=h.2 w (fun _=>none) (fun _=>False) vals (by omega) (fun j s hj=>by
  obtain ⟨x,hx,hs⟩:=hget j s hj
  exact hs.rs hH (fun _ h=>h.elim) (fun _ _ _ _ _ _ _ _ _ h=>h) (hv j x hx))
  .none (fun _ h=>h.elim) (fun _ _=>rfl)
 refine Calls.mono this ?_
 rintro e w' ⟨v,rfl,ι',M',h1,h2,h3,h4,h5⟩
 exact ⟨v,rfl,C5.of_none (h1.flat hr) ⟨h5.os,h5.tape,h5.output,h5.size,fun b hb=>h5.keep b hb (by rintro ⟨id,k,_,_,hk,_⟩;simp at hk)⟩⟩
section
structure Fd where
 V:Nat->Rat
 A:Nat->Nat->Rat
 G:Nat->Rat
 O:Nat->Nat
 F:Nat->Nat
namespace Fd
def pRow (D:Fd) (r s j:Nat):Rat:=if j=s then 1 / D.A r s else D.A r j / D.A r s
def exch (D:Fd) (r s:Nat):Fd where
 V:=fun i=>if i=r then D.V r / D.A r s else D.V i - D.A i s*(D.V r / D.A r s)
 A:=fun i j=>if i=r then D.pRow r s j else if j=s then 0 - D.A i s*D.pRow r s s else D.A i j - D.A i s*D.pRow r s j
 G:=fun j=>if j=s then 0 - D.G s*D.pRow r s s else D.G j - D.G s*D.pRow r s j
 O:=fun i=>if i=r then D.F s else D.O i
 F:=fun j=>if j=s then D.O r else D.F j
end Fd
theorem C3 {f:Nat->Rat} {s:Nat}:∀{n:Nat},s<n->f8 f n=f8 (fun j=>if j=s then 0 else f j) n+f s
 |0,h=>by omega
 |n+1,h=>by
  simp only [f8]
  by_cases hs:s=n
  ·subst hs
   rw [if_pos rfl,e8 (n:=s) (f:=fun j=>if j=s then 0 else f j) (g:=f) fun m hm=>by rw [if_neg (by omega)]]
   grind
  ·rw [if_neg (show ¬n=s by omega),C3 (f:=f) (s:=s) (n:=n) (by omega)];grind
theorem E9 {f:Nat->Rat} (k:Rat):∀n:Nat,f8 (fun j=>k*f j) n=k*f8 f n
 |0=>by simp only [f8,S8];grind
 |n+1=>by simp only [f8];rw [E9 k n];grind
theorem a1E {f g:Nat->Rat}:∀n:Nat,f8 (fun j=>f j+g j) n=f8 f n+f8 g n
 |0=>by simp only [f8,S8];grind
 |n+1=>by simp only [f8];rw [a1E n];grind
theorem s7 {f:Nat->Rat}:∀{n:Nat},(∀ j,j<n->f j=0)->f8 f n=0
 |0,_=>by simp only [f8,S8]
 |n+1,h=>by simp only [f8];rw [s7 fun j hj=>h j (by omega),h n (by omega)];grind
theorem a6t {f:Nat->Rat}:∀{n:Nat},(∀ j,j<n->f j<=0)->f8 f n<=0
 |0,_=>by simp only [f8,S8];grind
 |n+1,h=>by
  simp only [f8]
  have h1:=a6t (f:=f) (n:=n) fun j hj=>h j (by omega)
  have h2:=h n (by omega)
  grind
theorem b96 {f:Nat->Rat} {n s:Nat} (h:∀j,j<n->f j<=0) (hs:s<n) (h0:f s<0):f8 f n<0:=by
 rw [C3 hs]
 have:=a6t (f:=fun j=>if j=s then 0 else f j) (n:=n) fun j hj=>by split;grind;exact h j hj
 grind
theorem b8M {f:Nat->Rat} {n s:Nat} (h:∀j,j<n->0<=f j) (hs:s<n) (h0:0<f s):0<f8 f n:=by
 rw [C3 hs]
 have:=a3V (f:=fun j=>if j=s then 0 else f j) (n:=n) fun j hj=>by
  by_cases hj2:j=s
  ·simp only [hj2,if_true];grind
  ·simp only [if_neg hj2];exact h j hj
 grind
def Ids (m n:Nat) (D:Fd) (y:Nat->Rat) (c:Rat):Prop:=∀i,i<m->y (D.O i)=c*D.V i - f8 (fun j=>D.A i j*y (D.F j)) n
theorem a9H {D:Fd} {r s n:Nat} {y:Nat->Rat} (hs:s<n) (f:Nat->Rat) (f':Nat->Rat) (k:Rat) (hf:∀j,j≠s->f' j=f j - k*D.pRow r s j):
 f8 (fun j=>f' j*y ((D.exch r s).F j)) n=f8 (fun j=>if j=s then 0 else f j*y (D.F j)) n - k*f8 (fun j=>if j=s then 0 else D.pRow r s j*y (D.F j)) n+f' s*y (D.O r):=by
 rw [C3 hs]
 have h1:(D.exch r s).F s=D.O r:=by show (if s=s then D.O r else D.F s)=_;rw [if_pos rfl]
 rw [h1]
 have h2:f8 (fun j=>if j=s then 0 else f' j*y ((D.exch r s).F j)) n=f8 (fun j=>(if j=s then 0 else f j*y (D.F j))+(-k)*(if j=s then 0 else D.pRow r s j*y (D.F j))) n:=e8 fun j hj=>by
  by_cases h:j=s
  ·rw [if_pos h,if_pos h,if_pos h];grind
  ·rw [if_neg h,if_neg h,if_neg h,hf j h]
   have:(D.exch r s).F j=D.F j:=by show (if j=s then D.O r else D.F j)=_;rw [if_neg h]
   rw [this];grind
 rw [h2,a1E,E9];grind
theorem al2 {D:Fd} {r s n:Nat} {y:Nat->Rat} {c:Rat} (hs:s<n) (hp:D.A r s≠0):
 y (D.O r)=c*D.V r - f8 (fun j=>D.A r j*y (D.F j)) n↔y (D.F s)=c*(D.V r / D.A r s) - f8 (fun j=>if j=s then 0 else D.pRow r s j*y (D.F j)) n - 1 / D.A r s*y (D.O r):=by
 have e1:f8 (fun j=>D.A r j*y (D.F j)) n=D.A r s*f8 (fun j=>if j=s then 0 else D.pRow r s j*y (D.F j)) n+D.A r s*y (D.F s):=by
  rw [C3 hs,←E9]
  congr 1
  refine e8 fun j hj=>?_
  by_cases h:j=s
  ·simp only [if_pos h];grind
  ·simp only [if_neg h]
   unfold Fd.pRow
   rw [if_neg h];grind
 rw [e1]
 generalize f8 (fun j=>if j=s then 0 else D.pRow r s j*y (D.F j)) n=R
 generalize y (D.F s)=a
 generalize y (D.O r)=b
 generalize D.V r=v
 generalize D.A r s=p at *
 constructor
 ·intro h;rw [h];grind
 ·intro h;rw [h];grind
theorem ad1 {m n:Nat} {D:Fd} {r s:Nat} {y:Nat->Rat} {c:Rat} (hr:r<m) (hs:s<n) (hp:D.A r s≠0):Ids m n D y c↔Ids m n (D.exch r s) y c:=by
 have hO:(D.exch r s).O r=D.F s:=by show (if r=r then D.F s else D.O r)=_;rw [if_pos rfl]
 have hV:(D.exch r s).V r=D.V r / D.A r s:=by show (if r=r then _ else _)=_;rw [if_pos rfl]
 have hA:∀j,(D.exch r s).A r j=D.pRow r s j:=fun j=>by show (if r=r then _ else _)=_;rw [if_pos rfl]
 have hps:D.pRow r s s=1 / D.A r s:=by unfold Fd.pRow;rw [if_pos rfl]
 have rowr:(y ((D.exch r s).O r)=c*(D.exch r s).V r - f8 (fun j=>(D.exch r s).A r j*y ((D.exch r s).F j)) n)↔y (D.O r)=c*D.V r - f8 (fun j=>D.A r j*y (D.F j)) n:=by
  rw [al2 hs hp,hO,hV]
  have h:=a9H (D:=D) (r:=r) (y:=y) hs (fun _=>0) ((D.exch r s).A r) (-1) (fun j hj=>by rw [hA];grind)
  rw [h,hA,hps,s7 (f:=fun j=>if j=s then 0 else 0*y (D.F j)) (fun j _=>by split<;>grind)]
  constructor
  ·intro h;rw [h];grind
  ·intro h;rw [h];grind
 have rowi:∀i,i≠r->y (D.O r)=c*D.V r - f8 (fun j=>D.A r j*y (D.F j)) n->
  ((y ((D.exch r s).O i)=c*(D.exch r s).V i - f8 (fun j=>(D.exch r s).A i j*y ((D.exch r s).F j)) n)↔y (D.O i)=c*D.V i - f8 (fun j=>D.A i j*y (D.F j)) n):=fun i hi h0=>by
  rw [al2 hs hp] at h0
  have h1:(D.exch r s).O i=D.O i:=by show (if i=r then _ else _)=_;rw [if_neg hi]
  have h2:(D.exch r s).V i=D.V i - D.A i s*(D.V r / D.A r s):=by show (if i=r then _ else _)=_;rw [if_neg hi]
  have h3:∀j,j≠s->(D.exch r s).A i j=D.A i j - D.A i s*D.pRow r s j:=fun j hj=>by show (if i=r then _ else _)=_;rw [if_neg hi,if_neg hj]
  have h4:(D.exch r s).A i s=0 - D.A i s*D.pRow r s s:=by show (if i=r then _ else _)=_;rw [if_neg hi,if_pos rfl]
  rw [h1,h2,a9H hs (D.A i) ((D.exch r s).A i) (D.A i s) h3,h4,hps,C3 (f:=fun j=>D.A i j*y (D.F j)) hs,h0]
  constructor
  ·intro h;rw [h];grind
  ·intro h;rw [h];grind
 constructor
 ·intro h i hi
  by_cases hir:i=r
  ·subst hir;exact rowr.2 (h i hi)
  ·exact (rowi i hir (h r hr)).2 (h i hi)
 ·intro h i hi
  have h0:=rowr.1 (h r hr)
  by_cases hir:i=r
  ·subst hir;exact h0
  ·exact (rowi i hir h0).1 (h i hi)
def Y2 (n:Nat) (D:Fd) (g0:Nat->Rat) (m:Nat) (z:Rat):Prop:=∀y c,Ids m n D y c->f8 (fun j=>g0 j*y j) n=c*z+f8 (fun j=>D.G j*y (D.F j)) n
theorem as4 {m n:Nat} {D:Fd} {r s:Nat} {g0:Nat->Rat} {z:Rat} (hr:r<m) (hs:s<n) (hp:D.A r s≠0) (h:Y2 n D g0 m z):Y2 n (D.exch r s) g0 m (z+D.G s*(D.V r / D.A r s)):=by
 intro y c hy
 have hy:=(ad1 hr hs hp).2 hy
 rw [h y c hy]
 have h0:=(al2 hs hp).1 (hy r hr)
 have hps:D.pRow r s s=1 / D.A r s:=by unfold Fd.pRow;rw [if_pos rfl]
 have h3:∀j,j≠s->(D.exch r s).G j=D.G j - D.G s*D.pRow r s j:=fun j hj=>by show (if j=s then _ else _)=_;rw [if_neg hj]
 have h4:(D.exch r s).G s=0 - D.G s*D.pRow r s s:=by show (if s=s then _ else _)=_;rw [if_pos rfl]
 rw [a9H hs D.G (D.exch r s).G (D.G s) h3,h4,hps,C3 (f:=fun j=>D.G j*y (D.F j)) hs,h0]
 grind
end
def am2 (f:Nat->Nat) (w:Nat):Nat->Option Nat
 |0=>none
 |k+1=>match am2 f w k with
  |some i=>some i
  |none=>if f k=w then some k else none
theorem a52 {f:Nat->Nat} {w:Nat}:∀{k i:Nat},am2 f w k=some i->i<k∧f i=w
 |0,i,h=>by cases h
 |k+1,i,h=>by
  unfold am2 at h
  split at h
  ·rename_i i' hi;injection h with h;subst h;have:=a52 hi;exact ⟨by omega,this.2⟩
  ·split at h
   ·injection h with h;subst h;exact ⟨by omega,by assumption⟩
   ·cases h
theorem a84 {f:Nat->Nat} {w:Nat}:∀{k:Nat},am2 f w k=none->∀i,i<k->f i≠w
 |0,_,i,hi=>by omega
 |k+1,h,i,hi=>by
  unfold am2 at h
  split at h
  ·cases h
  ·rename_i hn
   split at h
   ·cases h
   ·by_cases hik:i=k
    ·subst hik;assumption
    ·exact a84 hn i (by omega)
structure Q1 (m n:Nat) (D:Fd):Prop where
 oi:∀i i',i<m->i'<m->D.O i=D.O i'->i=i'
 fi:∀j j',j<n->j'<n->D.F j=D.F j'->j=j'
 of:∀i j,i<m->j<n->D.O i≠D.F j
 all:∀w,w<n+m->(∃ i,i<m∧D.O i=w)∨(∃ j,j<n∧D.F j=w)
 ob:∀i,i<m->D.O i<n+m
 fb:∀j,j<n->D.F j<n+m
theorem a7U {D:Fd} {r s i:Nat}:(D.exch r s).O i=if i=r then D.F s else D.O i:=rfl
theorem a1W {D:Fd} {r s j:Nat}:(D.exch r s).F j=if j=s then D.O r else D.F j:=rfl
theorem aq2 {m n:Nat} {D:Fd} {r s:Nat} (hr:r<m) (hs:s<n) (h:Q1 m n D):Q1 m n (D.exch r s) where
 oi:=fun i i' hi hi' he=>by
  rw [a7U,a7U] at he
  by_cases h1:i=r<;>by_cases h2:i'=r
  ·omega
  ·rw [if_pos h1,if_neg h2] at he;exact absurd he.symm (h.of i' s hi' hs)
  ·rw [if_neg h1,if_pos h2] at he;exact absurd he (h.of i s hi hs)
  ·rw [if_neg h1,if_neg h2] at he;exact h.oi i i' hi hi' he
 fi:=fun j j' hj hj' he=>by
  rw [a1W,a1W] at he
  by_cases h1:j=s<;>by_cases h2:j'=s
  ·omega
  ·rw [if_pos h1,if_neg h2] at he;exact absurd he (h.of r j' hr hj')
  ·rw [if_neg h1,if_pos h2] at he;exact absurd he.symm (h.of r j hr hj)
  ·rw [if_neg h1,if_neg h2] at he;exact h.fi j j' hj hj' he
 of:=fun i j hi hj he=>by
  rw [a7U,a1W] at he
  by_cases h1:i=r<;>by_cases h2:j=s
  ·rw [if_pos h1,if_pos h2] at he;exact h.of r s hr hs he.symm
  ·rw [if_pos h1,if_neg h2] at he;exact h2 (h.fi s j hs hj he).symm
  ·rw [if_neg h1,if_pos h2] at he;exact h1 (h.oi i r hi hr he)
  ·rw [if_neg h1,if_neg h2] at he;exact h.of i j hi hj he
 all:=fun w hw=>by
  rcases h.all w hw with ⟨i,hi,he⟩|⟨j,hj,he⟩
  ·by_cases h1:i=r
   ·exact .inr ⟨s,hs,by rw [a1W,if_pos rfl,←h1];exact he⟩
   ·exact .inl ⟨i,hi,by rw [a7U,if_neg h1];exact he⟩
  ·by_cases h1:j=s
   ·exact .inl ⟨r,hr,by rw [a7U,if_pos rfl,←h1];exact he⟩
   ·exact .inr ⟨j,hj,by rw [a1W,if_neg h1];exact he⟩
 ob:=fun i hi=>by rw [a7U];split;exact h.fb s hs;exact h.ob i hi
 fb:=fun j hj=>by rw [a1W];split;exact h.ob r hr;exact h.fb j hj
def F2 (m n:Nat) (D:Fd) (c:Rat) (t:Nat->Rat) (w:Nat):Rat:=match am2 D.F w n with
 |some j=>t j
 |none=>match am2 D.O w m with
  |some i=>c*D.V i - f8 (fun j=>D.A i j*t j) n
  |none=>0
theorem X6 {m n:Nat} {D:Fd} (h:Q1 m n D) {c:Rat} {t:Nat->Rat} {j:Nat} (hj:j<n):F2 m n D c t (D.F j)=t j:=by
 unfold F2
 cases hi:am2 D.F (D.F j) n with
 |none=>exact absurd rfl (a84 hi j hj)
 |some i=>obtain ⟨h1,h2⟩:=a52 hi;rw [h.fi i j h1 hj h2]
theorem a3n {m n:Nat} {D:Fd} (h:Q1 m n D) {c:Rat} {t:Nat->Rat} {i:Nat} (hi:i<m):F2 m n D c t (D.O i)=c*D.V i - f8 (fun j=>D.A i j*t j) n:=by
 unfold F2
 cases hj:am2 D.F (D.O i) n with
 |some j=>obtain ⟨h1,h2⟩:=a52 hj;exact absurd h2.symm (h.of i j hi h1)
 |none=>
  cases hk:am2 D.O (D.O i) m with
  |none=>exact absurd rfl (a84 hk i hi)
  |some k=>obtain ⟨h1,h2⟩:=a52 hk;rw [h.oi k i h1 hi h2]
theorem R0 {m n:Nat} {D:Fd} (h:Q1 m n D) (c:Rat) (t:Nat->Rat):Ids m n D (F2 m n D c t) c:=fun i hi=>by
 rw [a3n h hi]
 congr 1
 exact e8 fun j hj=>by rw [X6 h hj]
def S6 (f:Nat->Nat) (p:Nat->Bool):Nat->Option Nat
 |0=>none
 |k+1=>match S6 f p k with
  |none=>if p k then some k else none
  |some a=>if p k && decide (f k<f a) then some k else some a
theorem a03 {f:Nat->Nat} {p:Nat->Bool}:∀{k:Nat},S6 f p k=none->∀i,i<k->p i=false
 |0,_,i,hi=>by omega
 |k+1,h,i,hi=>by
  unfold S6 at h
  split at h
  ·rename_i hn
   split at h
   ·cases h
   ·rename_i hp
    by_cases hik:i=k
    ·subst hik;simpa using hp
    ·exact a03 hn i (by omega)
  ·split at h<;>cases h
theorem E4 {f:Nat->Nat} {p:Nat->Bool}:∀{k a:Nat},S6 f p k=some a->a<k∧p a=true∧∀i,i<k->p i=true->f a<=f i
 |0,a,h=>by cases h
 |k+1,a,h=>by
  unfold S6 at h
  split at h
  ·rename_i hn
   split at h
   ·rename_i hp
    injection h with h;subst h
    refine ⟨by omega,hp,fun i hi hpi=>?_⟩
    by_cases hik:i=k
    ·subst hik;omega
    ·rw [a03 hn i (by omega)] at hpi;cases hpi
   ·cases h
  ·rename_i b hb
   obtain ⟨h1,h2,h3⟩:=E4 hb
   split at h
   ·rename_i hc
    injection h with h;subst h
    simp only [lbO,lbJ] at hc
    refine ⟨by omega,hc.1,fun i hi hpi=>?_⟩
    by_cases hik:i=k
    ·subst hik;omega
    ·have:=h3 i (by omega) hpi;omega
   ·rename_i hc
    injection h with h;subst h
    refine ⟨by omega,h2,fun i hi hpi=>?_⟩
    by_cases hik:i=k
    ·subst hik
     have:¬(f i<f b):=fun h=>hc (by simp [hpi,h])
     omega
    ·exact h3 i (by omega) hpi
inductive b62 where
 |best
 |row (r:Nat)
 |col (s:Nat)
 |next (r s:Nat)
def a0o (n:Nat) (D:Fd) (r:Nat):b62:=match S6 D.F (fun j=>decide (D.A r j<0)) n with
 |none=>.row r
 |some s=>.next r s
def a0q (m:Nat) (D:Fd) (s:Nat):b62:=match S6 D.O (fun i=>decide (0<D.A i s)) m with
 |none=>.col s
 |some r=>.next r s
def y7 (m n:Nat) (D:Fd):b62:=match S6 D.O (fun i=>decide (D.V i<0)) m,S6 D.F (fun j=>decide (0<D.G j)) n with
 |none,none=>.best
 |some r,none=>a0o n D r
 |none,some s=>a0q m D s
 |some r,some s=>if D.O r<D.F s then a0o n D r else a0q m D s
structure as7 (m n:Nat) (D:Fd) (r s:Nat):Prop where
 v:D.V r<0
 a:D.A r s<0
 f:∀j,j<n->D.F j<D.F s->0<=D.A r j
 o:∀i,i<m->D.O i<D.O r->0<=D.V i
 g:∀j,j<n->D.F j<D.O r->D.G j<=0
structure ax1 (m n:Nat) (D:Fd) (r s:Nat):Prop where
 g:0<D.G s
 a:0<D.A r s
 o:∀i,i<m->D.O i<D.O r->D.A i s<=0
 f:∀j,j<n->D.F j<D.F s->D.G j<=0
 v:∀i,i<m->D.O i<D.F s->0<=D.V i
theorem aR6 {m n:Nat} {D:Fd} {r r' s:Nat} (hr:S6 D.O (fun i=>decide (D.V i<0)) m=some r) (hg:∀j,j<n->D.F j<D.O r->D.G j<=0) (h:a0o n D r=.next r' s):r'<m∧s<n∧as7 m n D r' s:=by
 obtain ⟨a1,a2,a3⟩:=E4 hr
 unfold a0o at h
 split at h
 ·cases h
 ·rename_i s' hs'
  injection h with h1 h2;subst h1;subst h2
  obtain ⟨b1,b2,b3⟩:=E4 hs'
  refine ⟨a1,b1,lbM a2,lbM b2,fun j hj hlt=>?_,fun i hi hlt=>?_,hg⟩
  ·exact lb3.1 fun h=>by have:=b3 j hj (lbI h);omega
  ·exact lb3.1 fun h=>by have:=a3 i hi (lbI h);omega
theorem aW7 {m n:Nat} {D:Fd} {s s' r:Nat} (hs:S6 D.F (fun j=>decide (0<D.G j)) n=some s) (hv:∀i,i<m->D.O i<D.F s->0<=D.V i) (h:a0q m D s=.next r s'):r<m∧s'<n∧ax1 m n D r s':=by
 obtain ⟨a1,a2,a3⟩:=E4 hs
 unfold a0q at h
 split at h
 ·cases h
 ·rename_i r' hr'
  injection h with h1 h2;subst h1;subst h2
  obtain ⟨b1,b2,b3⟩:=E4 hr'
  refine ⟨b1,a1,lbM a2,lbM b2,fun i hi hlt=>?_,fun j hj hlt=>?_,hv⟩
  ·exact lb3.1 fun h=>by have:=b3 i hi (lbI h);omega
  ·exact lb3.1 fun h=>by have:=a3 j hj (lbI h);omega
theorem a87 {m n:Nat} {D:Fd} {r s:Nat} (h:y7 m n D=.next r s):r<m∧s<n∧(as7 m n D r s∨ax1 m n D r s):=by
 unfold y7 at h
 cases hr:S6 D.O (fun i=>decide (D.V i<0)) m with
 |none=>
  have hv:∀i,i<m->0<=D.V i:=fun i hi=>lb3.1 (lbN (a03 hr i hi))
  cases hs:S6 D.F (fun j=>decide (0<D.G j)) n with
  |none=>rw [hr,hs] at h;cases h
  |some s'=>
   rw [hr,hs] at h
   obtain ⟨q1,q2,q3⟩:=aW7 hs (fun i hi _=>hv i hi) h
   exact ⟨q1,q2,.inr q3⟩
 |some r'=>
  obtain ⟨a1,a2,a3⟩:=E4 hr
  cases hs:S6 D.F (fun j=>decide (0<D.G j)) n with
  |none=>
   rw [hr,hs] at h
   obtain ⟨q1,q2,q3⟩:=aR6 (n:=n) hr (fun j hj _=>lb3.1 (lbN (a03 hs j hj))) h
   exact ⟨q1,q2,.inl q3⟩
  |some s'=>
   rw [hr,hs] at h
   obtain ⟨b1,b2,b3⟩:=E4 hs
   simp only at h
   split at h
   ·rename_i hlt
    obtain ⟨q1,q2,q3⟩:=aR6 (n:=n) hr (fun j hj hj2=>lb3.1 fun h=>by have:=b3 j hj (lbI h);omega) h
    exact ⟨q1,q2,.inl q3⟩
   ·rename_i hlt
    obtain ⟨q1,q2,q3⟩:=aW7 hs (fun i hi hi2=>lb3.1 fun h=>by have:=a3 i hi (lbI h);omega) h
    exact ⟨q1,q2,.inr q3⟩
theorem a9s {m n:Nat} {D:Fd} {r s:Nat} (h:as7 m n D r s∨ax1 m n D r s):D.A r s≠0:=by
 rcases h with h|h
 ·have:=h.a;intro h0;rw [h0] at this;exact absurd this (by grind)
 ·have:=h.a;intro h0;rw [h0] at this;exact absurd this (by grind)
theorem b5i {m n:Nat} {D D':Fd} {g0:Nat->Rat} {z z':Rat} (hP:Q1 m n D) (hP':Q1 m n D') (hI:∀y c,Ids m n D y c↔Ids m n D' y c) (hG:Y2 n D g0 m z) (hG':Y2 n D' g0 m z')
 {r s r' s' q:Nat} (hr:r<m) (hs:s<n) (hr':r'<m) (hs':s'<n) (h:as7 m n D r s∨ax1 m n D r s) (h':as7 m n D' r' s'∨ax1 m n D' r' s') (hq:D.F s=q) (hq':D'.O r'=q)
 (hrq:D.O r<q) (hsq:D'.F s'<q) (hst:∀w,q<w->((∃ j,j<n∧D.F j=w)↔∃j,j<n∧D'.F j=w)):False:=by
 have hfree:∀j,j<n->q<D.F j->∃k,k<n∧D'.F k=D.F j:=fun j hj hlt=>(hst _ hlt).1 ⟨j,hj,rfl⟩
 -- a vector of the second dictionary
 obtain ⟨c,y,hc,hy,ypos,yq,yfree,hobj⟩:∃(c:Rat) (y:Nat->Rat),(c=0∨c=1)∧Ids m n D' y c∧(∀ w,w<n+m->w<q->0<=y w)∧y q<0∧(∀ j,j<n->q<D.F j->y (D.F j)=0)∧
  ((c=0∧0<f8 (fun j=>g0 j*y j) n)∨(c=1∧f8 (fun j=>g0 j*y j) n=z'∧∀j,j<n->D'.F j<q->D'.G j<=0)):=by
  rcases h' with h'|h'
  ·refine ⟨1,F2 m n D' 1 (fun _=>0),.inr rfl,R0 hP' 1 _,fun w hw hwq=>?_,?_,fun j hj hlt=>?_,.inr ⟨rfl,?_,fun j hj hlt=>h'.g j hj (by rw [hq'];exact hlt)⟩⟩
   ·rcases hP'.all w hw with ⟨i,hi,rfl⟩|⟨j,hj,rfl⟩
    ·rw [a3n hP' hi,s7 fun j _=>by grind]
     have:=h'.o i hi (by rw [hq'];exact hwq)
     grind
    ·rw [X6 hP' hj];grind
   ·rw [← hq',a3n hP' hr',s7 fun j _=>by grind]
    have:=h'.v
    grind
   ·obtain ⟨k,hk,he⟩:=hfree j hj hlt
    rw [← he,X6 hP' hk]
   ·rw [hG' _ 1 (R0 hP' 1 _),s7 fun j hj=>by rw [X6 hP' hj];grind];grind
  ·refine ⟨0,F2 m n D' 0 (fun j=>if j=s' then 1 else 0),.inl rfl,R0 hP' 0 _,fun w hw hwq=>?_,?_,fun j hj hlt=>?_,.inl ⟨rfl,?_⟩⟩
   ·have hone:∀i,f8 (fun j=>D'.A i j*(if j=s' then 1 else 0)) n=D'.A i s':=fun i=>by
     rw [C3 hs',s7 fun j _=>by by_cases hj:j=s'<;>simp [hj]]
     simp;grind
    rcases hP'.all w hw with ⟨i,hi,rfl⟩|⟨j,hj,rfl⟩
    ·rw [a3n hP' hi,hone]
     have:=h'.o i hi (by rw [hq'];exact hwq)
     grind
    ·rw [X6 hP' hj];split<;>grind
   ·have hone:f8 (fun j=>D'.A r' j*(if j=s' then 1 else 0)) n=D'.A r' s':=by
     rw [C3 hs',s7 fun j _=>by by_cases hj:j=s'<;>simp [hj]]
     simp;grind
    rw [← hq',a3n hP' hr',hone]
    have:=h'.a
    grind
   ·obtain ⟨k,hk,he⟩:=hfree j hj hlt
    rw [← he,X6 hP' hk,if_neg]
    intro hks
    rw [hks] at he;omega
   ·rw [hG' _ 0 (R0 hP' 0 _)]
    have:f8 (fun j=>D'.G j*F2 m n D' 0 (fun j=>if j=s' then 1 else 0) (D'.F j)) n=D'.G s':=by
     rw [e8 (g:=fun j=>D'.G j*(if j=s' then 1 else 0)) fun j hj=>by rw [X6 hP' hj],C3 hs',s7 fun j _=>by by_cases hj:j=s'<;>simp [hj]]
     simp;grind
    rw [this]
    have:=h'.g
    grind
 have hy2:=(hI y c).2 hy
 -- the terms of the first dictionary
 have hF:∀j,j<n->(D.F j<q∧0<=y (D.F j))∨(j=s∧y (D.F j)<0)∨y (D.F j)=0:=fun j hj=>by
  rcases aB1 (D.F j) q with hlt|heq|hgt
  ·exact .inl ⟨hlt,ypos _ (hP.fb j hj) hlt⟩
  ·refine .inr (.inl ⟨hP.fi j s hj hs (by omega),by rw [heq];exact yq⟩)
  ·exact .inr (.inr (yfree j hj hgt))
 rcases h with h|h
 · -- by its row
   have hid:=hy2 r hr
   have h1:0<f8 (fun j=>D.A r j*y (D.F j)) n:=b8M (s:=s) (fun j hj=>by
    rcases hF j hj with ⟨a,b⟩|⟨rfl,b⟩|b
    ·exact lb1 (h.f j hj (by rw [hq];exact a)) b
    ·have:=h.a;exact Rat.le_of_lt (by have:=Rat.mul_pos (a:=-D.A r j) (b:=-y (D.F j)) (by grind) (by grind);grind)
    ·rw [b];grind) hs (by
    have:=h.a
    have hyq:y (D.F s)<0:=by rw [hq];exact yq
    have:=Rat.mul_pos (a:=-D.A r s) (b:=-y (D.F s)) (by grind) (by grind);grind)
   have h2:0<=y (D.O r):=ypos _ (hP.ob r hr) hrq
   have h3:=h.v
   rcases hc with rfl|rfl
   ·grind
   ·grind
 · -- by its goal
   have h1:f8 (fun j=>D.G j*y (D.F j)) n<0:=b96 (s:=s) (fun j hj=>by
    rcases hF j hj with ⟨a,b⟩|⟨rfl,b⟩|b
    ·have:=h.f j hj (by rw [hq];exact a)
     have:=lb1 (a:=-D.G j) (b:=y (D.F j)) (by grind) b
     grind
    ·have:=h.g
     have:=Rat.mul_pos (a:=D.G j) (b:=-y (D.F j)) (by grind) (by grind)
     grind
    ·rw [b];grind) hs (by
    have:=h.g
    have hyq:y (D.F s)<0:=by rw [hq];exact yq
    have:=Rat.mul_pos (a:=D.G s) (b:=-y (D.F s)) (by grind) (by grind)
    grind)
   have hg:=hG y c hy2
   rcases hobj with ⟨rfl,ho⟩|⟨rfl,ho,hneg⟩
   ·grind
   · -- the basic point of the first dictionary
     have k1:=hG (F2 m n D 1 (fun _=>0)) 1 (R0 hP 1 _)
     rw [s7 (f:=fun j=>D.G j*F2 m n D 1 (fun _=>0) (D.F j)) fun j hj=>by rw [X6 hP hj];grind] at k1
     have k2:=hG' (F2 m n D 1 (fun _=>0)) 1 ((hI _ 1).1 (R0 hP 1 _))
     have k3:f8 (fun j=>D'.G j*F2 m n D 1 (fun _=>0) (D'.F j)) n<=0:=a6t fun j hj=>by
      have hv:∀w,w<n+m->w<q->0<=F2 m n D 1 (fun _=>0) w:=fun w hw hwq=>by
       rcases hP.all w hw with ⟨i,hi,rfl⟩|⟨k,hk,rfl⟩
       ·rw [a3n hP hi,s7 fun j _=>by grind]
        have:=h.v i hi (by rw [hq];exact hwq)
        grind
       ·rw [X6 hP hk];grind
      rcases aB1 (D'.F j) q with hlt|heq|hgt
      ·have a1:=hneg j hj hlt
       have a2:=hv _ (hP'.fb j hj) hlt
       have:=lb1 (a:=-D'.G j) (by grind) a2
       grind
      ·exact absurd (hq'.trans heq.symm) (hP'.of r' j hr' hj)
      ·obtain ⟨k,hk,he⟩:=(hst _ hgt).2 ⟨j,hj,rfl⟩
       rw [← he,X6 hP hk];grind
     grind
def E0 (m n:Nat) (D:Fd):Option Fd:=match y7 m n D with
 |.next r s=>some (D.exch r s)
 |_=>none
theorem ah7 {m n:Nat} {D D':Fd} (h:E0 m n D=some D'):∃r s,y7 m n D=.next r s∧D'=D.exch r s:=by
 unfold E0 at h
 split at h
 ·rename_i r s hs;injection h with h;exact ⟨r,s,hs,h.symm⟩
 ·cases h
theorem ai1 {P:Nat->Nat->Prop}:∀N:Nat,(∀ w,w<N->∃T,∀k,T<=k->¬P k w)->∃T,∀w,w<N->∀k,T<=k->¬P k w
 |0,_=>⟨0,fun w hw=>by omega⟩
 |N+1,h=>by
  obtain ⟨T,hT⟩:=ai1 (P:=P) N fun w hw=>h w (by omega)
  obtain ⟨T',hT'⟩:=h N (by omega)
  refine ⟨max T T',fun w hw k hk=>?_⟩
  by_cases hwn:w=N
  ·subst hwn;exact hT' k (by omega)
  ·exact hT w (by omega) k (by omega)
theorem ak2 {p:Nat->Prop}:∀N:Nat,(∃ w,w<N∧p w)->∃q,q<N∧p q∧∀w,q<w->w<N->¬p w
 |0,⟨w,hw,_⟩=>by omega
 |N+1,⟨w,hw,hp⟩=>by
  by_cases h:p N
  ·exact ⟨N,by omega,h,fun w h1 h2=>by omega⟩
  ·have hwN:w≠N:=fun e=>h (e ▸ hp)
   obtain ⟨q,h1,h2,h3⟩:=ak2 N ⟨w,by omega,hp⟩
   refine ⟨q,by omega,h2,fun w h4 h5=>?_⟩
   by_cases hw2:w=N
   ·subst hw2;exact h
   ·exact h3 w h4 (by omega)
theorem a2R (p:Nat->Prop) (h:∃n,p n):∃n,p n∧∀m,p m->n<=m:=by
 obtain ⟨n,hn⟩:=h
 induction n using Nat.strongRecOn with
 |_ n ih=>
  by_cases hex:∃m,m<n∧p m
  ·obtain ⟨m,hm,hp⟩:=hex
   exact ih m hm hp
  ·exact ⟨n,hn,fun m hm=>aG4 fun h=>hex ⟨m,h,hm⟩⟩
theorem b9D {m n:Nat} {f:Nat->Fd} {g0:Nat->Rat} (hP0:Q1 m n (f 0)) (hG0:∃z,Y2 n (f 0) g0 m z) (hf:∀k,E0 m n (f k)=some (f (k+1))):False:=by
 have hstep:∀k,∃rs:Nat × Nat,rs.1<m∧rs.2<n∧(as7 m n (f k) rs.1 rs.2∨ax1 m n (f k) rs.1 rs.2)∧f (k+1)=(f k).exch rs.1 rs.2:=fun k=>by
  obtain ⟨r,s,h1,h2⟩:=ah7 (hf k)
  obtain ⟨a,b,c⟩:=a87 h1
  exact ⟨(r,s),a,b,c,h2⟩
 obtain ⟨W,hW⟩:=Classical.axiomOfChoice hstep
 have hP:∀k,Q1 m n (f k):=fun k=>by
  induction k with
  |zero=>exact hP0
  |succ k ih=>obtain ⟨a,b,_,d⟩:=hW k;rw [d];exact aq2 a b ih
 have hI:∀k y c,Ids m n (f 0) y c↔Ids m n (f k) y c:=fun k=>by
  induction k with
  |zero=>exact fun _ _=>Iff.rfl
  |succ k ih=>obtain ⟨a,b,c',d⟩:=hW k;rw [d];exact fun y c=>(ih y c).trans (ad1 a b (a9s c'))
 have hG:∀k,∃z,Y2 n (f k) g0 m z:=fun k=>by
  induction k with
  |zero=>exact hG0
  |succ k ih=>obtain ⟨a,b,c',d⟩:=hW k;obtain ⟨z,hz⟩:=ih;rw [d];exact ⟨_,as4 a b (a9s c') hz⟩
 let E:Nat->Nat:=fun k=>(f k).F (W k).2
 let L:Nat->Nat:=fun k=>(f k).O (W k).1
 have hE:∀k,E k<n+m:=fun k=>(hP k).fb _ (hW k).2.1
 have hL:∀k,L k<n+m:=fun k=>(hP k).ob _ (hW k).1
 have hEL:∀k,L k≠E k:=fun k=>(hP k).of _ _ (hW k).1 (hW k).2.1
 let fre:Nat->Nat->Prop:=fun k w=>∃j,j<n∧(f k).F j=w
 have hfre:∀k w,w≠E k->w≠L k->(fre (k+1) w↔fre k w):=fun k w h1 h2=>by
  obtain ⟨a,b,_,d⟩:=hW k
  show (∃ j,j<n∧(f (k+1)).F j=w)↔∃j,j<n∧(f k).F j=w
  rw [d]
  constructor
  ·rintro ⟨j,hj,he⟩
   rw [a1W] at he
   by_cases hjs:j=(W k).2
   ·rw [if_pos hjs] at he;exact absurd he.symm h2
   ·rw [if_neg hjs] at he;exact ⟨j,hj,he⟩
  ·rintro ⟨j,hj,he⟩
   have hjs:j≠(W k).2:=fun h=>h1 (by rw [← he,h])
   exact ⟨j,hj,by rw [a1W,if_neg hjs];exact he⟩
 have hin:∀k,fre k (E k):=fun k=>⟨_,(hW k).2.1,rfl⟩
 have hout:∀k,¬fre k (L k):=fun k=>by rintro ⟨j,hj,he⟩;exact (hP k).of _ _ (hW k).1 hj he.symm
 have hin2:∀k,fre (k+1) (L k):=fun k=>by
  obtain ⟨a,b,_,d⟩:=hW k
  show ∃j,j<n∧(f (k+1)).F j=L k
  rw [d];exact ⟨_,b,by rw [a1W,if_pos rfl]⟩
 have hout2:∀k,¬fre (k+1) (E k):=fun k=>by
  obtain ⟨a,b,_,d⟩:=hW k
  show ¬∃j,j<n∧(f (k+1)).F j=E k
  rw [d]
  rintro ⟨j,hj,he⟩
  rw [a1W] at he
  by_cases hjs:j=(W k).2
  ·rw [if_pos hjs] at he;exact hEL k he
  ·rw [if_neg hjs] at he;exact hjs ((hP k).fi _ _ hj b he)
 let mv:Nat->Nat->Prop:=fun k w=>E k=w∨L k=w
 obtain ⟨q,hqN,hio,hmax⟩:=ak2 (p:=fun w=>∀T,∃k,T<=k∧mv k w) (n+m) (lb8 fun hno=>by
  have h1:∀w,w<n+m->∃T,∀k,T<=k->¬mv k w:=fun w hw=>lb8 fun h=>hno ⟨w,hw,fun T=>lb8 fun h'=>h ⟨T,fun k hk hm=>h' ⟨k,hk,hm⟩⟩⟩
  obtain ⟨T,hT⟩:=ai1 (P:=mv) _ h1
  exact hT _ (hE T) T (lbS _) (.inl rfl))
 obtain ⟨T,hT⟩:∃T,∀w,q<w->∀k,T<=k->¬mv k w:=by
  obtain ⟨T,hT⟩:=ai1 (P:=fun k w=>q<w∧mv k w) (n+m) fun w hw=>by
   by_cases hqw:q<w
   ·have:=hmax w hqw hw
    obtain ⟨T,hT⟩:=Classical.not_forall.1 this
    exact ⟨T,fun k hk ⟨_,hm⟩=>hT ⟨k,hk,hm⟩⟩
   ·exact ⟨0,fun k _ ⟨h,_⟩=>hqw h⟩
  refine ⟨T,fun w hqw k hk hm=>?_⟩
  have hw:w<n+m:=by rcases hm with hm|hm<;>rw [← hm];exact hE k;exact hL k
  exact hT w hw k hk ⟨hqw,hm⟩
 have hEq:∀k,T<=k->E k<=q:=fun k hk=>aG4 fun h=>hT _ h k hk (.inl rfl)
 have hLq:∀k,T<=k->L k<=q:=fun k hk=>aG4 fun h=>hT _ h k hk (.inr rfl)
 have hconst:∀w,q<w->∀d,fre (T+d) w↔fre T w:=fun w hw d=>by
  induction d with
  |zero=>exact Iff.rfl
  |succ d ih=>
   have h1:=hEq (T+d) (by omega)
   have h2:=hLq (T+d) (by omega)
   exact (hfre (T+d) w (by omega) (by omega)).trans ih
 have hsame:∀w,q<w->∀t u,T<=t->T<=u->(fre t w↔fre u w):=fun w hw t u ht hu=>by
  have h1:=hconst w hw (t - T)
  have h2:=hconst w hw (u - T)
  rw [show T+(t - T)=t by omega] at h1
  rw [show T+(u - T)=u by omega] at h2
  exact h1.trans h2.symm
 -- q enters at some time, and leaves at some time
 have hnext:∀k1,T<=k1->mv k1 q->∃k2,T<=k2∧mv k2 q∧(fre k2 q↔fre (k1+1) q):=fun k1 h1 _=>by
  obtain ⟨k2,⟨h2,h3⟩,hleast⟩:=a2R (fun k=>k1+1<=k∧mv k q) (hio (k1+1))
  refine ⟨k2,by omega,h3,?_⟩
  have key:∀d,k1+1+d<=k2->(fre (k1+1+d) q↔fre (k1+1) q):=fun d=>by
   induction d with
   |zero=>exact fun _=>Iff.rfl
   |succ d ih=>
    intro hd
    have hnm:¬mv (k1+1+d) q:=fun h=>by have:=hleast (k1+1+d) ⟨by omega,h⟩;omega
    exact (hfre (k1+1+d) q (fun h=>hnm (.inl h.symm)) (fun h=>hnm (.inr h.symm))).trans (ih (by omega))
  have:=key (k2 - (k1+1)) (by omega)
  rwa [show k1+1+(k2 - (k1+1))=k2 by omega] at this
 have hboth:∃t u,T<=t∧T<=u∧E t=q∧L u=q:=by
  obtain ⟨k1,h1,hm1⟩:=hio T
  obtain ⟨k2,h2,hm2,hs⟩:=hnext k1 h1 hm1
  rcases hm1 with hm1|hm1
  ·rcases hm2 with hm2|hm2
   ·have a:=hin k2
    rw [hm2] at a
    have b:=hout2 k1
    rw [hm1] at b
    exact absurd (hs.1 a) b
   ·exact ⟨k1,k2,h1,h2,hm1,hm2⟩
  ·rcases hm2 with hm2|hm2
   ·exact ⟨k2,k1,h2,h1,hm2,hm1⟩
   ·have a:=hout k2
    rw [hm2] at a
    have b:=hin2 k1
    rw [hm1] at b
    exact absurd (hs.2 b) a
 obtain ⟨t,u,ht,hu,het,hlu⟩:=hboth
 obtain ⟨z,hz⟩:=hG t
 obtain ⟨z',hz'⟩:=hG u
 obtain ⟨a1,a2,a3,_⟩:=hW t
 obtain ⟨b1,b2,b3,_⟩:=hW u
 have hl:L t<q:=by have:=hLq t ht;have:=hEL t;omega
 have he:E u<q:=by have:=hEq u hu;have:=hEL u;omega
 exact b5i (hP t) (hP u) (fun y c=>(hI t y c).symm.trans (hI u y c)) hz hz' a1 a2 b1 b2 a3 b3 het hlu hl he (fun w hw=>hsame w hw t u ht hu)
def itS (m n:Nat):Nat->Fd->Option Fd
 |0,D=>some D
 |k+1,D=>match E0 m n D with
  |none=>none
  |some D'=>itS m n k D'
theorem a06 {m n:Nat}:∀(k:Nat) (D:Fd),itS m n (k+1) D=(itS m n k D).bind (E0 m n)
 |0,D=>by
  show (match E0 m n D with|none=>none|some D'=>some D')=E0 m n D
  cases E0 m n D<;>rfl
 |k+1,D=>by
  show (match E0 m n D with|none=>none|some D'=>itS m n (k+1) D')=(match E0 m n D with|none=>none|some D'=>itS m n k D').bind (E0 m n)
  cases E0 m n D with
  |none=>rfl
  |some D'=>exact a06 k D'
theorem b9q {m n:Nat} {D:Fd} {g0:Nat->Rat} (hP:Q1 m n D) (hG:∃z,Y2 n D g0 m z):∃k,itS m n k D=none:=lb8 fun h=>by
 have h1:∀k,∃D',itS m n k D=some D':=fun k=>by
  cases hk:itS m n k D with
  |none=>exact absurd ⟨k,hk⟩ h
  |some D'=>exact ⟨D',rfl⟩
 obtain ⟨f,hf⟩:=Classical.axiomOfChoice h1
 have hf:∀k,itS m n k D=some (f k):=hf
 have h0:f 0=D:=by have:=hf 0;injection this with this;exact this.symm
 refine b9D (f:=f) (g0:=g0) (by rw [h0];exact hP) (by rw [h0];exact hG) fun k=>?_
 have h2:=a06 (m:=m) (n:=n) k D
 rw [hf k,hf (k+1)] at h2
 exact h2.symm
noncomputable def a8K (m n:Nat) (D:Fd):Nat:=Classical.epsilon fun k=>itS m n k D=none∧∀j,itS m n j D=none->k<=j
theorem b1c {m n:Nat} {D D':Fd} (h:∃k,itS m n k D=none) (hn:E0 m n D=some D'):a8K m n D'<a8K m n D:=by
 have hD:=b1u (a2R _ h)
 have h':∃k,itS m n k D'=none:=by
  obtain ⟨k,hk⟩:=h
  cases k with
  |zero=>cases hk
  |succ k=>
   have hk:(match E0 m n D with|none=>none|some D'=>itS m n k D')=none:=hk
   rw [hn] at hk;exact ⟨k,hk⟩
 have hD':=b1u (a2R _ h')
 have e:a8K m n D=Classical.epsilon fun k=>itS m n k D=none∧∀j,itS m n j D=none->k<=j:=rfl
 have e':a8K m n D'=Classical.epsilon fun k=>itS m n k D'=none∧∀j,itS m n j D'=none->k<=j:=rfl
 rw [← e] at hD
 rw [← e'] at hD'
 obtain ⟨a1,a2⟩:=hD
 obtain ⟨b1,b2⟩:=hD'
 generalize a8K m n D=k at a1 a2
 cases k with
 |zero=>cases a1
 |succ k=>
  have a1:(match E0 m n D with|none=>none|some D'=>itS m n k D')=none:=a1
  rw [hn] at a1
  have:=b2 k a1
  omega
structure EqI where
 co:Nat->Int
 rhs:Int
def a8b (k:Nat) (e:EqI) (u:Nat->Rat):Prop:=f8 (fun l=>((e.co l:Int):Rat)*u l) (k+1)=((e.rhs:Int):Rat)
theorem b8P {f g:Nat->Rat} (a b:Rat) (n:Nat):f8 (fun j=>a*f j - b*g j) n=a*f8 f n - b*f8 g n:=by
 rw [← E9 a,←E9 b]
 have:f8 (fun j=>a*f j - b*g j) n=f8 (fun j=>a*f j+(-1)*(b*g j)) n:=e8 fun j _=>by grind
 rw [this,a1E,E9 (-1)];grind
def af9 (k:Nat) (e0 e:EqI):EqI:=⟨fun l=>e0.co (k+1)*e.co l - e.co (k+1)*e0.co l,e0.co (k+1)*e.rhs - e.co (k+1)*e0.rhs⟩
theorem aW3 {k:Nat} {e0 e:EqI} {u:Nat->Rat}:f8 (fun l=>(((af9 k e0 e).co l:Int):Rat)*u l) (k+1)=
 ((e0.co (k+1):Int):Rat)*f8 (fun l=>((e.co l:Int):Rat)*u l) (k+1) - ((e.co (k+1):Int):Rat)*f8 (fun l=>((e0.co l:Int):Rat)*u l) (k+1):=by
 rw [← b8P]
 refine e8 fun l _=>?_
 unfold af9
 simp only
 rw [Rat.intCast_sub,aF3,aF3];grind
theorem aO6 {k:Nat} {e0 e:EqI}:(((af9 k e0 e).rhs:Int):Rat)=((e0.co (k+1):Int):Rat)*((e.rhs:Int):Rat) - ((e.co (k+1):Int):Rat)*((e0.rhs:Int):Rat):=by
 unfold af9
 simp only
 rw [Rat.intCast_sub,aF3,aF3]
theorem b8U {k:Nat} {e0 e:EqI} {s:Nat} (h0:(∀ l,l<=k+1->bl (e0.co l)<=s)∧bl e0.rhs<=s) (h:(∀ l,l<=k+1->bl (e.co l)<=s)∧bl e.rhs<=s):(∀ l,l<=k->bl ((af9 k e0 e).co l)<=2*s+1)∧bl (af9 k e0 e).rhs<=2*s+1:=by
 have key:∀a b c d:Int,bl a<=s->bl b<=s->bl c<=s->bl d<=s->bl (a*b - c*d)<=2*s+1:=fun a b c d ha hb hc hd=>by
  have h1:=O1 a b
  have h2:=O1 c d
  have h3:=aF8 (a*b) (-(c*d))
  rw [a3i,←Int.sub_eq_add_neg] at h3
  omega
 exact ⟨fun l hl=>key _ _ _ _ (h0.1 _ (by omega)) (h.1 _ (by omega)) (h.1 _ (by omega)) (h0.1 _ (by omega)),key _ _ _ _ (h0.1 _ (by omega)) h.2 (h.1 _ (by omega)) h0.2⟩
theorem a67:∀(k s:Nat) (E:List EqI) (u:Nat->Rat),(∀ e ∈ E,(∀ l,l<=k->bl (e.co l)<=s)∧bl e.rhs<=s)->(∀ e ∈ E,a8b k e u)->(∀ u',(∀ e ∈ E,a8b k e u')->u' 0=u 0)->rl (u 0)<=2 ^ k*(s+1)
 |0,s,E,u,hb,hu,hq=>by
  by_cases hex:∃e ∈ E,e.co 0≠0
  ·obtain ⟨e,he,hc⟩:=hex
   have h1:((0:Int):Rat)+((e.co 0:Int):Rat)*u 0=((e.rhs:Int):Rat):=hu e he
   have hne:((e.co 0:Int):Rat)≠0:=fun h=>hc (by exact_mod_cast h)
   have h2:u 0=Rat.divInt e.rhs (e.co 0):=by
    rw [Rat.divInt_eq_div,←h1]
    have:((0:Int):Rat)=0:=rfl
    rw [this];grind
   rw [h2]
   have h3:=(hb e he).1 0 (lbS _)
   have h4:=(hb e he).2
   have:=a0y (p:=e.rhs) (q:=e.co 0) hc
   omega
  ·have hz:∀e ∈ E,e.co 0=0:=fun e he=>lb8 fun h=>hex ⟨e,he,h⟩
   have:=hq (fun _=>u 0+1) fun e he=>by
    have h1:((0:Int):Rat)+((e.co 0:Int):Rat)*u 0=((e.rhs:Int):Rat):=hu e he
    show ((0:Int):Rat)+((e.co 0:Int):Rat)*(u 0+1)=((e.rhs:Int):Rat)
    rw [← h1,hz e he]
    have:((0:Int):Rat)=0:=rfl
    rw [this];grind
   grind
 |k+1,s,E,u,hb,hu,hq=>by
  have hlast:∀(e:EqI) (v:Nat->Rat),f8 (fun l=>((e.co l:Int):Rat)*v l) (k+1+1)=f8 (fun l=>((e.co l:Int):Rat)*v l) (k+1)+((e.co (k+1):Int):Rat)*v (k+1):=fun e v=>rfl
  by_cases hex:∃e ∈ E,e.co (k+1)≠0
  ·obtain ⟨e0,he0,hc⟩:=hex
   have hne:((e0.co (k+1):Int):Rat)≠0:=fun h=>hc (by exact_mod_cast h)
   have ih:=a67 k (2*s+1) (E.map (af9 k e0)) u (fun e he=>by
    obtain ⟨e1,he1,rfl⟩:=lby.1 he
    exact b8U (hb e0 he0) (hb e1 he1)) (fun e he=>by
    obtain ⟨e1,he1,rfl⟩:=lby.1 he
    have a1:f8 _ (k+1+1)=_:=hu e0 he0
    have a2:f8 _ (k+1+1)=_:=hu e1 he1
    rw [hlast] at a1 a2
    unfold a8b
    rw [aW3,aO6,←a1,←a2];grind) (fun u' hu'=>by
    have hnew:=hq (fun l=>if l=k+1 then (((e0.rhs:Int):Rat) - f8 (fun l=>((e0.co l:Int):Rat)*u' l) (k+1)) / ((e0.co (k+1):Int):Rat) else u' l) fun e he=>by
     have b1:=hu' _ (lby.2 ⟨e,he,rfl⟩)
     unfold a8b at b1 ⊢
     rw [aW3,aO6] at b1
     rw [hlast,e8 (g:=fun l=>((e.co l:Int):Rat)*u' l) fun l hl=>by rw [if_neg (by omega)],if_pos rfl]
     generalize f8 (fun l=>((e.co l:Int):Rat)*u' l) (k+1)=X at *
     generalize f8 (fun l=>((e0.co l:Int):Rat)*u' l) (k+1)=Y at *
     generalize ((e0.co (k+1):Int):Rat)=c at *
     generalize ((e.co (k+1):Int):Rat)=d at *
     generalize ((e.rhs:Int):Rat)=r at *
     generalize ((e0.rhs:Int):Rat)=r0 at *
     have h1:c*(X+d*((r0 - Y) / c))=c*r:=by
      have:c*((r0 - Y) / c)=r0 - Y:=by grind
      have h2:c*(X+d*((r0 - Y) / c))=c*X+d*(c*((r0 - Y) / c)):=by grind
      rw [h2,this];grind
     grind
    rw [if_neg (by omega)] at hnew
    exact hnew)
   have e1:2 ^ (k+1)*(s+1)=2 ^ k*(2*s+1+1):=by rw [Nat.pow_succ,Nat.mul_assoc,show 2*(s+1)=2*s+1+1 by omega]
   rw [e1];exact ih
  ·have hz:∀e ∈ E,e.co (k+1)=0:=fun e he=>lb8 fun h=>hex ⟨e,he,h⟩
   have hiff:∀e ∈ E,∀v,a8b (k+1) e v↔a8b k e v:=fun e he v=>by
    unfold a8b
    rw [hlast,hz e he]
    have:((0:Int):Rat)=0:=rfl
    rw [this]
    constructor
    ·intro h;rw [← h];grind
    ·intro h;rw [← h];grind
   have ih:=a67 k s E u (fun e he=>⟨fun l hl=>(hb e he).1 l (by omega),(hb e he).2⟩) (fun e he=>(hiff e he u).1 (hu e he)) fun u' hu'=>hq u' fun e he=>(hiff e he u').2 (hu' e he)
   have:2 ^ k<=2 ^ (k+1):=aa5 (by decide) (by omega)
   exact lbT ih (lbU _ this)
structure a5t (m n s:Nat) (D:Fd):Prop where
 o:∀i,i<m->D.O i=n+i
 f:∀j,j<n->D.F j=j
 w:∀i,i<m->∃(q v:Int) (a:Nat->Int),q≠0∧bl q<=s∧bl v<=s∧(∀ j,j<n->bl (a j)<=s)∧((q:Int):Rat)*D.V i=((v:Int):Rat)∧∀j,j<n->((q:Int):Rat)*D.A i j=((a j:Int):Rat)
theorem a33 (x:Int):bl (-x)=bl x:=by unfold bl;rw [Int.natAbs_neg]
theorem b4R (x y:Int):bl (x - y)<=max (bl x) (bl y)+1:=by
 have:=aF8 x (-y)
 rw [a33] at this
 rw [Int.sub_eq_add_neg];exact this
theorem au6 {f:Nat->Rat}:∀n:Nat,f8 f (n+1)=f 0+f8 (fun l=>f (l+1)) n
 |0=>by simp only [f8];grind
 |n+1=>by
  have ih:=au6 (f:=f) n
  have e:f8 f (n+1+1)=f8 f (n+1)+f (n+1):=rfl
  rw [e,ih]
  simp only [f8];grind
def b3x (q0:Int) (b:Nat->Int) (r:Int):EqI:=⟨fun l=>match l with|0=>q0|l+1=>b l,r⟩
theorem ac5 {n:Nat} {q0 r:Int} {b:Nat->Int} {u:Nat->Rat}:a8b n (b3x q0 b r) u↔((q0:Int):Rat)*u 0+f8 (fun l=>((b l:Int):Rat)*u (l+1)) n=((r:Int):Rat):=by
 unfold a8b b3x
 simp only
 rw [au6]
theorem a3b {n v:Nat} {u:Nat->Rat} (hv:v<n):f8 (fun l=>(((if l=v then (1:Int) else 0):Int):Rat)*u l) n=u v:=by
 rw [C3 hv,s7 fun j hj=>?_]
 ·simp only [if_true]
  have:((1:Int):Rat)=1:=rfl
  rw [this];grind
 ·by_cases h:j=v
  ·simp only [h,if_true]
  ·simp only [if_neg h]
   have:((0:Int):Rat)=0:=rfl
   rw [this];grind
theorem b9j {s:Nat} (hs:1<=s) (b:Prop) [Decidable b]:bl (if b then (1:Int) else 0)<=s:=by
 split
 ·exact lbT (n8 (by decide) (by decide)) hs
 ·exact lbT (n8 (by decide) (by decide)) hs
theorem a4s {m n s:Nat} {D0 D:Fd} (h0:a5t m n s D0) (hs:1<=s) (hP:Q1 m n D) (hI:∀y c,Ids m n D0 y c↔Ids m n D y c) {c:Int} {t:Nat->Int} (hc:c=0∨c=1) (ht:∀j,t j=0∨t j=1)
 {q r:Int} {b:Nat->Int} {φ:Rat} (hq:q≠0) (hqs:bl q<=s) (hr:bl r<=s) (hb:∀l,l<n->bl (b l)<=s)
 (hφ:((q:Int):Rat)*φ=((r:Int):Rat)*((c:Int):Rat)+f8 (fun l=>((b l:Int):Rat)*F2 m n D ((c:Int):Rat) (fun j=>((t j:Int):Rat)) l) n):rl φ<=2 ^ n*(s+2):=by
 obtain ⟨y,hy⟩:∃y,y=F2 m n D ((c:Int):Rat) (fun j=>((t j:Int):Rat)):=⟨_,rfl⟩
 rw [← hy] at hφ
 have hyD:Ids m n D y ((c:Int):Rat):=by rw [hy];exact R0 hP _ _
 have hy0:=(hI y _).2 hyD
 have hyF:∀j,j<n->y (D.F j)=((t j:Int):Rat):=fun j hj=>by rw [hy];exact X6 hP hj
 -- the equations of the columns
 have eqs:∀j,j<n->∃e:EqI,(∀ l,l<=n->bl (e.co l)<=s+1)∧bl e.rhs<=s+1∧
  ∀(y' u':Nat->Rat),(∀ l,l<n->u' (l+1)=y' l)->Ids m n D0 y' ((c:Int):Rat)->(a8b n e u'↔y' (D.F j)=((t j:Int):Rat)):=by
  intro j hj
  have htb:bl (t j)<=1:=by rcases ht j with h|h<;>rw [h]<;>exact n8 (by decide) (by decide)
  by_cases hv:D.F j<n
  ·refine ⟨b3x 0 (fun l=>if l=D.F j then 1 else 0) (t j),fun l hl=>?_,lbT htb (by omega),fun y' u' hu hy'=>?_⟩
   ·cases l with
    |zero=>exact lbT (n8 (x:=0) (by decide) (by decide)) (by omega)
    |succ l=>exact b9j (by omega) _
   ·rw [ac5]
    rw [e8 (g:=fun l=>(((if l=D.F j then (1:Int) else 0):Int):Rat)*y' l) fun l hl=>by rw [hu l hl],a3b hv]
    have:((0:Int):Rat)=0:=rfl
    rw [this]
    constructor<;>intro h<;>grind
  ·have hb1:=hP.fb j hj
   obtain ⟨i,hi⟩:∃i,D.F j=n+i:=⟨D.F j - n,by omega⟩
   have him:i<m:=by omega
   obtain ⟨qi,vi,ai,q1,q2,q3,q4,q5,q6⟩:=h0.w i him
   have hrhs:bl (vi*c - qi*t j)<=s+1:=by
    have h1:bl (vi*c)<=s:=by rcases hc with h|h<;>rw [h]<;>simp<;>first|exact q3|exact lbT (n8 (x:=0) (by decide) (by decide)) hs
    have h2:bl (qi*t j)<=s:=by rcases ht j with h|h<;>rw [h]<;>simp<;>first|exact q2|exact lbT (n8 (x:=0) (by decide) (by decide)) hs
    have:=b4R (vi*c) (qi*t j)
    omega
   refine ⟨b3x 0 ai (vi*c - qi*t j),fun l hl=>?_,hrhs,fun y' u' hu hy'=>?_⟩
   ·cases l with
    |zero=>exact lbT (n8 (x:=0) (by decide) (by decide)) (by omega)
    |succ l=>exact lbT (q4 l (by omega)) (by omega)
   ·rw [ac5,hi]
    have hid:=hy' i him
    rw [h0.o i him] at hid
    have hsum:f8 (fun l=>((ai l:Int):Rat)*u' (l+1)) n=((qi:Int):Rat)*f8 (fun j=>D0.A i j*y' (D0.F j)) n:=by
     rw [← E9]
     refine e8 fun l hl=>?_
     rw [hu l hl,h0.f l hl,←q6 l hl];grind
    rw [hsum]
    have e0:((0:Int):Rat)=0:=rfl
    have e1:((vi*c - qi*t j:Int):Rat)=((vi:Int):Rat)*((c:Int):Rat) - ((qi:Int):Rat)*((t j:Int):Rat):=by push_cast;rfl
    rw [e0,e1,←q5]
    have hqn:((qi:Int):Rat)≠0:=by intro h;exact q1 (by exact_mod_cast h)
    constructor
    ·intro h
     have:((qi:Int):Rat)*(y' (n+i) - ((t j:Int):Rat))=0:=by rw [hid];grind
     have:=(Rat.mul_eq_zero.1 this).resolve_left hqn
     grind
    ·intro h
     rw [← h,hid];grind
 -- the equation of the value
 obtain ⟨E,hE⟩:∃E:Nat->EqI,∀j,(hj:j<n)->E j=Classical.choose (eqs j hj):=⟨fun j=>if hj:j<n then Classical.choose (eqs j hj) else ⟨fun _=>0,0⟩,fun j hj=>by simp [hj]⟩
 have hEs:∀j,j<n->(∀ l,l<=n->bl ((E j).co l)<=s+1)∧bl (E j).rhs<=s+1∧
  ∀(y' u':Nat->Rat),(∀ l,l<n->u' (l+1)=y' l)->Ids m n D0 y' ((c:Int):Rat)->(a8b n (E j) u'↔y' (D.F j)=((t j:Int):Rat)):=fun j hj=>by
  rw [hE j hj];exact a0W (eqs j hj)
 let e0:EqI:=b3x q (fun l=>0 - b l) (r*c)
 have he0:∀(y' u':Nat->Rat),(∀ l,l<n->u' (l+1)=y' l)->(a8b n e0 u'↔((q:Int):Rat)*u' 0=((r:Int):Rat)*((c:Int):Rat)+f8 (fun l=>((b l:Int):Rat)*y' l) n):=by
  intro y' u' hu
  show a8b n (b3x q (fun l=>0 - b l) (r*c)) u'↔_
  rw [ac5]
  have e1:f8 (fun l=>(((0 - b l:Int)):Rat)*u' (l+1)) n=0 - f8 (fun l=>((b l:Int):Rat)*y' l) n:=by
   have:f8 (fun l=>(((0 - b l:Int)):Rat)*u' (l+1)) n=f8 (fun l=>(-1:Rat)*(((b l:Int):Rat)*y' l)) n:=e8 fun l hl=>by
    rw [hu l hl];push_cast;grind
   rw [this,E9];grind
  rw [e1]
  have e2:((r*c:Int):Rat)=((r:Int):Rat)*((c:Int):Rat):=by push_cast;rfl
  rw [e2]
  constructor<;>intro h<;>grind
 let u:Nat->Rat:=fun l=>match l with|0=>φ|l+1=>y l
 have hu:∀l,l<n->u (l+1)=y l:=fun l _=>rfl
 have key:=a67 n (s+1) (e0::(List.range n).map E) u (fun e he=>?_) (fun e he=>?_) (fun u' hu'=>?_)
 ·exact key
 ·rcases lbB.1 he with rfl|he
  ·refine ⟨fun l hl=>?_,?_⟩
   ·cases l with
    |zero=>exact lbT hqs (by omega)
    |succ l=>
     show bl (0 - b l)<=s+1
     have:=hb l (by omega)
     have h1:=b4R 0 (b l)
     have h2:=n8 (x:=0) (by decide) (by decide)
     omega
   ·show bl (r*c)<=s+1
    rcases hc with h|h<;>rw [h]<;>simp
    ·exact lbT (n8 (x:=0) (by decide) (by decide)) (by omega)
    ·omega
  ·obtain ⟨j,hj,rfl⟩:=lby.1 he
   have:=hEs j (lbC.1 hj)
   exact ⟨this.1,this.2.1⟩
 ·rcases lbB.1 he with rfl|he
  ·exact (he0 y u hu).2 hφ
  ·obtain ⟨j,hj,rfl⟩:=lby.1 he
   have hj:=lbC.1 hj
   exact ((hEs j hj).2.2 y u hu hy0).2 (hyF j hj)
 ·let y':Nat->Rat:=fun w=>if w<n then u' (w+1) else ((c:Int):Rat)*D0.V (w - n) - f8 (fun j=>D0.A (w - n) j*u' (j+1)) n
  have huy:∀l,l<n->u' (l+1)=y' l:=fun l hl=>by show _=if l<n then _ else _;rw [if_pos hl]
  have hy':Ids m n D0 y' ((c:Int):Rat):=by
   intro i hi
   rw [h0.o i hi]
   show (if n+i<n then _ else _)=_
   rw [if_neg (by omega),show n+i - n=i by omega]
   congr 1
   refine e8 fun j hj=>?_
   rw [h0.f j hj,huy j hj]
  have hyD':=(hI y' _).1 hy'
  have hF':∀j,j<n->y' (D.F j)=((t j:Int):Rat):=fun j hj=>((hEs j hj).2.2 y' u' huy hy').1 (hu' _ (T9 _ (lby.2 ⟨j,lbC.2 hj,rfl⟩)))
  have same:∀w,w<n+m->y' w=y w:=by
   intro w hw
   rcases hP.all w hw with ⟨i,hi,rfl⟩|⟨j,hj,rfl⟩
   ·rw [hyD' i hi,hyD i hi]
    congr 1
    exact e8 fun j hj=>by rw [hF' j hj,hyF j hj]
   ·rw [hF' j hj,hyF j hj]
  have h1:=(he0 y' u' huy).1 (hu' e0 (R3))
  have h2:f8 (fun l=>((b l:Int):Rat)*y' l) n=f8 (fun l=>((b l:Int):Rat)*y l) n:=e8 fun l hl=>by rw [same l (by omega)]
  rw [h2,←hφ] at h1
  have hqn:((q:Int):Rat)≠0:=by intro h;exact hq (by exact_mod_cast h)
  show u' 0=φ
  have h3:((q:Int):Rat)*(u' 0 - φ)=0:=by grind
  have:=(Rat.mul_eq_zero.1 h3).resolve_left hqn
  grind
theorem ax5 {m n s:Nat} {D0 D:Fd} (h0:a5t m n s D0) (hs:1<=s) (hP:Q1 m n D) (hI:∀y c,Ids m n D0 y c↔Ids m n D y c) {c:Int} {t:Nat->Int} (hc:c=0∨c=1) (ht:∀j,t j=0∨t j=1) {w:Nat} (hw:w<n+m):
 rl (F2 m n D ((c:Int):Rat) (fun j=>((t j:Int):Rat)) w)<=2 ^ n*(s+2):=by
 by_cases hv:w<n
 ·refine a4s h0 hs hP hI hc ht (q:=1) (r:=0) (b:=fun l=>if l=w then 1 else 0) (by decide) (lbT (n8 (by decide) (by decide)) hs) (lbT (n8 (by decide) (by decide)) hs) (fun l hl=>b9j hs _) ?_
  rw [a3b hv]
  have e0:((0:Int):Rat)=0:=rfl
  have e1:((1:Int):Rat)=1:=rfl
  rw [e0,e1];grind
 ·obtain ⟨i,rfl⟩:∃i,w=n+i:=⟨w - n,by omega⟩
  have him:i<m:=by omega
  obtain ⟨qi,vi,ai,q1,q2,q3,q4,q5,q6⟩:=h0.w i him
  have hy0:=(hI _ _).2 (R0 hP ((c:Int):Rat) (fun j=>((t j:Int):Rat))) i him
  rw [h0.o i him] at hy0
  refine a4s h0 (lbT hs (lbS _)) hP hI hc ht (q:=qi) (r:=vi) (b:=fun l=>0 - ai l) q1 q2 q3 (fun l hl=>?_) ?_
  ·rw [show (0:Int) - ai l=-(ai l) by omega,a33];exact q4 l hl
  ·rw [hy0,←q5]
   have e1:f8 (fun l=>(((0 - ai l:Int)):Rat)*F2 m n D ((c:Int):Rat) (fun j=>((t j:Int):Rat)) l) n=0 - ((qi:Int):Rat)*f8 (fun j=>D0.A i j*F2 m n D ((c:Int):Rat) (fun j=>((t j:Int):Rat)) (D0.F j)) n:=by
    have:f8 (fun l=>(((0 - ai l:Int)):Rat)*F2 m n D ((c:Int):Rat) (fun j=>((t j:Int):Rat)) l) n=f8 (fun l=>(0 - ((qi:Int):Rat))*(D0.A i l*F2 m n D ((c:Int):Rat) (fun j=>((t j:Int):Rat)) (D0.F l))) n:=e8 fun l hl=>by
     rw [h0.f l hl]
     have:=q6 l hl
     have e:((0 - ai l:Int):Rat)=0 - ((ai l:Int):Rat):=by push_cast;rfl
     rw [e,←this];grind
    rw [this,E9];grind
   rw [e1];grind
theorem b8N {m n s:Nat} {D0 D:Fd} (h0:a5t m n s D0) (hs:1<=s) (hP:Q1 m n D) (hI:∀y c,Ids m n D0 y c↔Ids m n D y c) {i:Nat} (hi:i<m):rl (D.V i)<=2 ^ n*(s+2):=by
 have:=ax5 h0 hs hP hI (c:=1) (t:=fun _=>0) (.inr rfl) (fun _=>.inl rfl) (hP.ob i hi)
 rw [a3n hP hi] at this
 have e:f8 (fun j=>D.A i j*(((fun _=>(0:Int)) j:Int):Rat)) n=0:=s7 fun j hj=>by
  show D.A i j*((0:Int):Rat)=0
  have e0:((0:Int):Rat)=0:=rfl
  rw [e0];grind
 rw [e] at this
 have e2:((1:Int):Rat)*D.V i - 0=D.V i:=by have e1:((1:Int):Rat)=1:=rfl;rw [e1];grind
 rw [e2] at this
 exact this
theorem b1V {m n s:Nat} {D0 D:Fd} (h0:a5t m n s D0) (hs:1<=s) (hP:Q1 m n D) (hI:∀y c,Ids m n D0 y c↔Ids m n D y c) {i j:Nat} (hi:i<m) (hj:j<n):rl (D.A i j)<=2 ^ n*(s+2):=by
 have:=ax5 h0 hs hP hI (c:=0) (t:=fun l=>if l=j then 1 else 0) (.inl rfl) (fun l=>by by_cases h:l=j;exact .inr (if_pos h);exact .inl (if_neg h)) (hP.ob i hi)
 rw [a3n hP hi] at this
 have e:f8 (fun l=>D.A i l*(((if l=j then (1:Int) else 0):Int):Rat)) n=D.A i j:=by
  rw [e8 (g:=fun l=>(((if l=j then (1:Int) else 0):Int):Rat)*D.A i l) fun l hl=>by grind,a3b (u:=fun l=>D.A i l) hj]
 rw [e] at this
 have e2:((0:Int):Rat)*D.V i - D.A i j=-(D.A i j):=by have e1:((0:Int):Rat)=0:=rfl;rw [e1];grind
 rw [e2,M9] at this
 exact this
theorem b1O {m n s:Nat} {D0 D:Fd} (h0:a5t m n s D0) (hs:1<=s) (hP:Q1 m n D) (hI:∀y c,Ids m n D0 y c↔Ids m n D y c) {g0:Nat->Rat} {z:Rat} (hG:Y2 n D g0 m z) {q:Int} {b:Nat->Int} (hq:q≠0) (hqs:bl q<=s) (hb:∀l,l<n->bl (b l)<=s) (hg:∀l,l<n->((q:Int):Rat)*g0 l=((b l:Int):Rat)) {j:Nat} (hj:j<n):rl (D.G j)<=2 ^ n*(s+2):=by
 have h1:=hG _ _ (R0 hP ((0:Int):Rat) (fun l=>(((if l=j then (1:Int) else 0):Int):Rat)))
 have e:f8 (fun l=>D.G l*F2 m n D ((0:Int):Rat) (fun l=>(((if l=j then (1:Int) else 0):Int):Rat)) (D.F l)) n=D.G j:=by
  rw [e8 (g:=fun l=>(((if l=j then (1:Int) else 0):Int):Rat)*D.G l) fun l hl=>by rw [X6 hP hl];grind,a3b (u:=fun l=>D.G l) hj]
 rw [e] at h1
 refine a4s h0 hs hP hI (c:=0) (t:=fun l=>if l=j then 1 else 0) (.inl rfl) (fun l=>by by_cases h:l=j;exact .inr (if_pos h);exact .inl (if_neg h)) (q:=q) (r:=0) (b:=b) hq hqs (lbT (n8 (by decide) (by decide)) hs) hb ?_
 have e0:((0:Int):Rat)=0:=rfl
 have h2:D.G j=f8 (fun l=>g0 l*F2 m n D ((0:Int):Rat) (fun l=>(((if l=j then (1:Int) else 0):Int):Rat)) l) n:=by
  rw [h1];simp only [e0];grind
 rw [h2,←E9]
 have h3:f8 (fun l=>((b l:Int):Rat)*F2 m n D ((0:Int):Rat) (fun l=>(((if l=j then (1:Int) else 0):Int):Rat)) l) n=f8 (fun l=>((q:Int):Rat)*(g0 l*F2 m n D ((0:Int):Rat) (fun l=>(((if l=j then (1:Int) else 0):Int):Rat)) l)) n:=e8 fun l hl=>by rw [← hg l hl];grind
 rw [h3];grind
def b3R (m n:Nat) (y:Nat->Rat):Prop:=∀w,w<n+m->0<=y w
theorem aK5 {m n:Nat} {D:Fd} {g0:Nat->Rat} {z:Rat} (hP:Q1 m n D) (hG:Y2 n D g0 m z) (hv:∀i,i<m->0<=D.V i) (hg:∀j,j<n->D.G j<=0):
 (∃ y,Ids m n D y 1∧b3R m n y∧f8 (fun j=>g0 j*y j) n=z∧y=F2 m n D 1 (fun _=>0))∧∀y,Ids m n D y 1->b3R m n y->f8 (fun j=>g0 j*y j) n<=z:=by
 refine ⟨⟨_,R0 hP 1 (fun _=>0),fun w hw=>?_,?_,rfl⟩,fun y hy hp=>?_⟩
 ·rcases hP.all w hw with ⟨i,hi,rfl⟩|⟨j,hj,rfl⟩
  ·rw [a3n hP hi,s7 fun j hj=>by grind]
   have:=hv i hi;grind
  ·rw [X6 hP hj];grind
 ·rw [hG _ _ (R0 hP 1 (fun _=>0)),s7 fun j hj=>by rw [X6 hP hj];grind];grind
 ·rw [hG _ _ hy]
  have:f8 (fun j=>D.G j*y (D.F j)) n<=0:=a6t fun j hj=>by
   have h1:=hg j hj
   have h2:=hp (D.F j) (hP.fb j hj)
   have:=lb1 (show 0<=-(D.G j) by grind) h2
   grind
  grind
theorem b87 {m n:Nat} {D:Fd} (hP:Q1 m n D) {r:Nat} (hr:r<m) (hv:D.V r<0) (ha:∀j,j<n->0<=D.A r j):∀y,Ids m n D y 1->¬b3R m n y:=by
 intro y hy hp
 have h1:=hy r hr
 have h2:=hp (D.O r) (hP.ob r hr)
 have h3:0<=f8 (fun j=>D.A r j*y (D.F j)) n:=a3V fun j hj=>lb1 (ha j hj) (hp _ (hP.fb j hj))
 grind
theorem b8d {m n:Nat} {D:Fd} {g0:Nat->Rat} {z:Rat} (hP:Q1 m n D) (hG:Y2 n D g0 m z) {s:Nat} (hs:s<n) (hg:0<D.G s) (ha:∀i,i<m->D.A i s<=0):
 ∃y,Ids m n D y 0∧b3R m n y∧0<f8 (fun j=>g0 j*y j) n∧y=F2 m n D 0 (fun j=>if j=s then 1 else 0):=by
 have hsum:∀f:Nat->Rat,f8 (fun j=>f j*(if j=s then (1:Rat) else 0)) n=f s:=fun f=>by
  rw [C3 hs,s7 fun j hj=>by by_cases h:j=s;simp only [h,if_true];simp only [if_neg h];grind]
  simp only [if_true];grind
 refine ⟨_,R0 hP 0 _,fun w hw=>?_,?_,rfl⟩
 ·rcases hP.all w hw with ⟨i,hi,rfl⟩|⟨j,hj,rfl⟩
  ·rw [a3n hP hi,hsum]
   have:=ha i hi;grind
  ·rw [X6 hP hj];split<;>grind
 ·rw [hG _ _ (R0 hP 0 _),e8 (g:=fun j=>D.G j*(if j=s then (1:Rat) else 0)) fun j hj=>by rw [X6 hP hj],hsum]
  grind
def J0 (l:List (Int × Rat)):Nat->Nat->Rat
 |0=>fun _=>0
 |k+1=>match l[k]? with
  |none=>J0 l k
  |some t=>fun j=>if j=t.1.toNat then t.2 else J0 l k j
def w7 (l:List (Int × Rat)):Nat->Rat:=J0 l l.length
theorem G6 {l:List (Int × Rat)} {k:Nat} {t:Int × Rat} (h:l[k]? =some t):J0 l (k+1)=fun j=>if j=t.1.toNat then t.2 else J0 l k j:=by rw [J0,h]
theorem Z0 {l:List (Int × Rat)} {v:Nat}:∀k,(∀ i t,i<k->l[i]? =some t->t.1.toNat≠v)->J0 l k v=0
 |0,_=>rfl
 |k+1,h=>by
  have ih:=Z0 (l:=l) (v:=v) k fun i t hi ht=>h i t (by omega) ht
  cases hk:l[k]? with
  |none=>rw [J0,hk];exact ih
  |some t=>
   rw [G6 hk]
   simp only
   rw [if_neg (fun e=>h k t (by omega) hk e.symm),ih]
theorem o8:∀{last n:Int} {l:List (Int × Rat)},d8 last n l=true->∀t ∈ l,last<t.1∧t.1<n∧t.2≠0
 |_,_,[],_,t,ht=>by cases ht
 |last,n,a::r,h,t,ht=>by
  unfold d8 at h
  simp only [lbO,lbJ] at h
  rcases lbB.1 ht with rfl|ht
  ·exact ⟨h.1.1.1,h.1.1.2,h.1.2⟩
  ·have:=o8 h.2 t ht
   exact ⟨by omega,this.2⟩
theorem a1h:∀{last n:Int} {l:List (Int × Rat)},d8 last n l=true->∀(i j:Nat) (t u:Int × Rat),i<j->l[i]? =some t->l[j]? =some u->t.1<u.1
 |_,_,[],_,i,j,t,u,_,ht,_=>by simp at ht
 |last,n,a::r,h,i,j,t,u,hij,ht,hu=>by
  unfold d8 at h
  simp only [lbO,lbJ] at h
  cases j with
  |zero=>omega
  |succ j=>
   simp only [List.getElem?_cons_succ] at hu
   cases i with
   |zero=>
    simp only [List.getElem?_cons_zero] at ht
    injection ht with ht;subst ht
    exact (o8 h.2 u (lbm hu)).1
   |succ i=>
    simp only [List.getElem?_cons_succ] at ht
    exact a1h h.2 i j t u (by omega) ht hu
theorem b04 {α:Type} {l:List α} {k:Nat} {x:α} (h:l[k]? =some x):l.take (k+1)=l.take k++[x]:=by rw [lbH,h];rfl
theorem aT3 {n:Nat} {l:List (Int × Rat)} (h:d8 (-1) (n:Int) l=true) (z:List Rat):∀k,k<=l.length->i9 (l.take k) z=f8 (fun j=>J0 l k j*z.getD j 0) n
 |0,_=>by
  rw [as2,s7 fun j hj=>by show (0:Rat)*_=0;grind]
  rfl
 |k+1,hk=>by
  have ih:=aT3 h z k (by omega)
  obtain ⟨t,ht⟩:∃t,l[k]? =some t:=⟨_,lbf (by omega)⟩
  have hm:=o8 h t (lbm ht)
  have hv:t.1.toNat<n:=by omega
  have h0:J0 l k t.1.toNat=0:=Z0 k fun i u hi hu=>by
   have:=a1h h i k u t hi hu ht
   have h2:=o8 h u (lbm hu)
   omega
  rw [b04 ht,Q6,ih,G6 ht]
  rw [C3 (f:=fun j=>(if j=t.1.toNat then t.2 else J0 l k j)*z.getD j 0) hv,C3 (f:=fun j=>J0 l k j*z.getD j 0) hv]
  simp only [if_true,h0]
  rw [e8 (f:=fun j=>if j=t.1.toNat then 0 else (if j=t.1.toNat then t.2 else J0 l k j)*z.getD j 0) (g:=fun j=>if j=t.1.toNat then 0 else J0 l k j*z.getD j 0) fun j hj=>by
   by_cases hj:j=t.1.toNat
   ·rw [if_pos hj,if_pos hj]
   ·rw [if_neg hj,if_neg hj,if_neg hj]]
  grind
theorem V3 {n:Nat} {l:List (Int × Rat)} (h:d8 (-1) (n:Int) l=true) (z:List Rat):i9 l z=f8 (fun j=>w7 l j*z.getD j 0) n:=by
 have:=aT3 h z l.length (lbS _)
 rw [Y8] at this
 exact this
def H8 (s:d7):Nat->List (Nat × Bool)
 |0=>[]
 |k+1=>match s.rows[k]? with
  |none=>H8 s k
  |some w=>H8 s k++(if w.kind≠0 then [(k,false)] else [])++(if w.kind≠1 then [(k,true)] else [])
def c6 (s:d7):List (Nat × Bool):=H8 s s.rows.length
def O6 (b:Bool) (x:Rat):Rat:=if b then -x else x
def a3s (s:d7) (f:Nat × Bool):Rat:=match s.rows[f.1]? with
 |none=>0
 |some w=>O6 f.2 w.value
def a1o (s:d7) (f:Nat × Bool) (j:Nat):Rat:=match s.rows[f.1]? with
 |none=>0
 |some w=>O6 f.2 (w7 w.terms j)
def f7 (s:d7) (g:List (Int × Rat)):Fd where
 V:=fun i=>a3s s ((c6 s).getD i (0,false))
 A:=fun i j=>a1o s ((c6 s).getD i (0,false)) j
 G:=fun j=>-(w7 g j)
 O:=fun i=>s.n.toNat+i
 F:=fun j=>j
theorem as5 {s:d7} {f:Nat × Bool}:∀k,f ∈ H8 s k↔f.1<k∧∃w,s.rows[f.1]? =some w∧(f.2=false->w.kind≠0)∧(f.2=true->w.kind≠1)
 |0=>by simp [H8]
 |k+1=>by
  have ih:=as5 (s:=s) (f:=f) k
  unfold H8
  cases hw:s.rows[k]? with
  |none=>
   simp only
   rw [ih]
   constructor
   ·rintro ⟨h1,h2⟩;exact ⟨by omega,h2⟩
   ·rintro ⟨h1,w,h2,h3⟩
    refine ⟨?_,w,h2,h3⟩
    by_cases he:f.1=k
    ·rw [he,hw] at h2;cases h2
    ·omega
  |some w=>
   simp only
   rw [lbA,lbA,ih]
   obtain ⟨a,b⟩:=f
   simp only
   constructor
   ·rintro ((⟨h1,h2⟩|h)|h)
    ·exact ⟨by omega,h2⟩
    ·split at h
     ·rename_i hk
      simp at h
      obtain ⟨rfl,rfl⟩:=h
      exact ⟨by omega,w,hw,fun _=>hk,fun h=>by cases h⟩
     ·simp at h
    ·split at h
     ·rename_i hk
      simp at h
      obtain ⟨rfl,rfl⟩:=h
      exact ⟨by omega,w,hw,fun h=>(by cases h),fun _=>hk⟩
     ·simp at h
   ·rintro ⟨h1,w',h2,h3,h4⟩
    by_cases he:a=k
    ·subst he
     rw [hw] at h2;injection h2 with h2;subst h2
     cases b with
     |false=>rw [if_pos (h3 rfl)];simp
     |true=>rw [if_pos (h4 rfl)];simp
    ·exact .inl (.inl ⟨by omega,w',h2,h3,h4⟩)
theorem Y0 {s:d7} {f:Nat × Bool}:f ∈ c6 s↔∃w,s.rows[f.1]? =some w∧(f.2=false->w.kind≠0)∧(f.2=true->w.kind≠1):=by
 unfold c6
 rw [as5]
 constructor
 ·rintro ⟨_,h⟩;exact h
 ·rintro ⟨w,h⟩;exact ⟨(lbe.1 h.1).1,w,h⟩
theorem b0b {s:d7} {g:List (Int × Rat)}:Q1 (c6 s).length s.n.toNat (f7 s g) where
 oi:=fun i i' _ _ h=>by have:s.n.toNat+i=s.n.toNat+i':=h;omega
 fi:=fun j j' _ _ h=>h
 of:=fun i j _ hj h=>by have:s.n.toNat+i=j:=h;omega
 all:=fun w hw=>by
  by_cases h:w<s.n.toNat
  ·exact .inr ⟨w,h,rfl⟩
  ·exact .inl ⟨w - s.n.toNat,by omega,by show s.n.toNat+(w - s.n.toNat)=w;omega⟩
 ob:=fun i hi=>by show s.n.toNat+i<_;omega
 fb:=fun j hj=>by show j<_;omega
theorem aW9 {s:d7} {g:List (Int × Rat)}:Y2 s.n.toNat (f7 s g) (fun j=>-(w7 g j)) (c6 s).length 0:=by
 intro y c _
 have:c*(0:Rat)=0:=by grind
 rw [this]
 have e:f8 (fun j=>(f7 s g).G j*y ((f7 s g).F j)) s.n.toNat=f8 (fun j=>-(w7 g j)*y j) s.n.toNat:=rfl
 rw [e];grind
def a5K (s:d7) (g:List (Int × Rat)) (z:List Rat) (w:Nat):Rat:=if w<s.n.toNat then z.getD w 0 else (f7 s g).V (w - s.n.toNat) - f8 (fun j=>(f7 s g).A (w - s.n.toNat) j*z.getD j 0) s.n.toNat
theorem b2N {s:d7} {g:List (Int × Rat)} (z:List Rat):Ids (c6 s).length s.n.toNat (f7 s g) (a5K s g z) 1:=by
 intro i hi
 show a5K s g z (s.n.toNat+i)=_
 unfold a5K
 rw [if_neg (by omega),show s.n.toNat+i - s.n.toNat=i by omega]
 have:(1:Rat)*(f7 s g).V i=(f7 s g).V i:=by grind
 rw [this]
 congr 1
 refine e8 fun j hj=>?_
 show _=(f7 s g).A i j*(if j<s.n.toNat then z.getD j 0 else _)
 rw [if_pos hj]
theorem aw0 {s:d7} {g:List (Int × Rat)} (hr:g7 s=true) {z:List Rat} {i:Nat} {f:Nat × Bool} {w:B8} (hf:(c6 s)[i]? =some f) (hw:s.rows[f.1]? =some w):a5K s g z (s.n.toNat+i)=O6 f.2 (w.value - i9 w.terms z):=by
 unfold a5K
 rw [if_neg (by omega),show s.n.toNat+i - s.n.toNat=i by omega]
 have hfd:(c6 s).getD i (0,false)=f:=by rw [lbl,hf];rfl
 show a3s s ((c6 s).getD i (0,false)) - f8 (fun j=>a1o s ((c6 s).getD i (0,false)) j*z.getD j 0) s.n.toNat=_
 rw [hfd]
 have hrow:y9 s.n w=true:=by
  unfold g7 at hr
  simp only [lbO,lbJ,lbw] at hr
  exact hr.2 w (lbm hw)
 have hn:(s.n.toNat:Int)=s.n:=by
  unfold g7 at hr
  simp only [lbO,lbJ] at hr
  omega
 unfold y9 at hrow
 simp only [lbO,lbJ] at hrow
 have hrt:=hrow.1.1
 rw [← hn] at hrt
 have e1:a3s s f=O6 f.2 w.value:=by unfold a3s;rw [hw]
 have e2:∀j,a1o s f j=O6 f.2 (w7 w.terms j):=fun j=>by unfold a1o;rw [hw]
 rw [e1,V3 hrt z]
 cases hb:f.2 with
 |false=>
  rw [e8 (g:=fun j=>w7 w.terms j*z.getD j 0) fun j hj=>by rw [e2 j,hb];rfl]
  rfl
 |true=>
  rw [e8 (g:=fun j=>(-1:Rat)*(w7 w.terms j*z.getD j 0)) fun j hj=>by rw [e2 j,hb];show -(w7 w.terms j)*_=_;grind,E9]
  show -w.value - _=-(w.value - _)
  grind
theorem first_holds {s:d7} {g:List (Int × Rat)} (hr:g7 s=true) {z:List Rat} (hl:(z.length:Int)=s.n):j2 s z=true↔b3R (c6 s).length s.n.toNat (a5K s g z):=by
 have hn:z.length=s.n.toNat:=by omega
 unfold j2
 rw [hr,lbI hl]
 simp only [F7,lbO,lbw,lbJ]
 constructor
 ·rintro ⟨h1,h2⟩ w hw
  by_cases hv:w<s.n.toNat
  ·unfold a5K
   rw [if_pos hv,lbl,lbf (by omega)]
   exact h1 _ (lbF _)
  ·obtain ⟨i,rfl⟩:∃i,w=s.n.toNat+i:=⟨w - s.n.toNat,by omega⟩
   have hi:i<(c6 s).length:=by omega
   obtain ⟨f,hf⟩:∃f,(c6 s)[i]? =some f:=⟨_,lbf hi⟩
   obtain ⟨x,hx,hk1,hk2⟩:=Y0.1 (lbm hf)
   rw [aw0 hr hf hx]
   have hb:=h2 x (lbm hx)
   unfold V7 at hb
   simp only [a2T,a5l,lbQ,lbL] at hb
   cases hfb:f.2 with
   |false=>
    have:=hk1 hfb
    show 0<=x.value - i9 x.terms z
    rcases hb.2 with h|h
    ·grind
    ·exact absurd this h
   |true=>
    have:=hk2 hfb
    show 0<=-(x.value - i9 x.terms z)
    rcases hb.1 with h|h
    ·grind
    ·exact absurd this h
 ·intro hp
  refine ⟨fun v hv=>?_,fun x hx=>?_⟩
  ·obtain ⟨j,hj,rfl⟩:=a0Y hv
   have:=hp j (by omega)
   unfold a5K at this
   rw [if_pos (by omega),lbl,lbf hj] at this
   exact this
  ·obtain ⟨k,hk,hkx⟩:=a0Y hx
   have hxk:s.rows[k]? =some x:=by rw [lbf hk,hkx]
   have side:∀b:Bool,(b=false->x.kind≠0)->(b=true->x.kind≠1)->0<=O6 b (x.value - i9 x.terms z):=by
    intro b h1 h2
    have hm:((k,b):Nat × Bool) ∈ c6 s:=Y0.2 ⟨x,hxk,h1,h2⟩
    obtain ⟨i,hi,hif⟩:=a0Y hm
    have hf:(c6 s)[i]? =some (k,b):=by rw [lbf hi,hif]
    have:=hp (s.n.toNat+i) (by omega)
    rw [aw0 hr hf hxk] at this
    exact this
   unfold V7
   simp only [a2T,a5l,lbQ,lbL]
   constructor
   ·by_cases h:x.kind≠1
    ·left
     have:=side true (fun h=>by cases h) (fun _=>h)
     have h2:0<=-(x.value - i9 x.terms z):=this
     grind
    ·right;exact h
   ·by_cases h:x.kind≠0
    ·left
     have:=side false (fun _=>h) (fun h=>by cases h)
     have h2:0<=x.value - i9 x.terms z:=this
     grind
    ·right;exact h
theorem b1U (x:Rat):((x.den:Int):Rat)*x=((x.num:Int):Rat):=by
 have hq:((x.den:Int):Rat)≠0:=by
  intro h
  have:(x.den:Int)=0:=by exact_mod_cast h
  have:=x.den_pos;omega
 have h1:x=((x.num:Int):Rat) / ((x.den:Int):Rat):=by rw [← Rat.divInt_eq_div,Rat.num_divInt_den]
 have h2:((x.den:Int):Rat)*(((x.num:Int):Rat) / ((x.den:Int):Rat))=((x.num:Int):Rat):=by
  rw [Rat.div_def,Rat.mul_comm,Rat.mul_assoc,Rat.inv_mul_cancel _ hq,Rat.mul_one]
 rw [← h1] at h2
 exact h2
def a3O (B:Nat) (w:B8):Prop:=(∀ t ∈ w.terms,∃c:Int,t.2=((c:Int):Rat)∧bl c<=1)∧rl w.value<=B
theorem a0U {l:List (Int × Rat)} (h:∀t ∈ l,∃c:Int,t.2=((c:Int):Rat)∧bl c<=1):∀(k j:Nat),∃c:Int,J0 l k j=((c:Int):Rat)∧bl c<=1
 |0,j=>⟨0,rfl,n8 (by decide) (by decide)⟩
 |k+1,j=>by
  cases hk:l[k]? with
  |none=>rw [J0,hk];exact a0U h k j
  |some t=>
   rw [G6 hk]
   simp only
   split
   ·exact h t (lbm hk)
   ·exact a0U h k j
theorem b2O {b:Bool} {x:Rat} {c:Int} (h:x=((c:Int):Rat)):∃c':Int,O6 b x=((c':Int):Rat)∧bl c'=bl c:=by
 cases b with
 |false=>exact ⟨c,h,rfl⟩
 |true=>exact ⟨-c,by show -x=_;rw [h];push_cast;rfl,a33 c⟩
theorem b3z {s:d7} {g:List (Int × Rat)} {B:Nat} (hI:∀w ∈ s.rows,a3O B w):a5t (c6 s).length s.n.toNat (B+2) (f7 s g) where
 o:=fun i _=>rfl
 f:=fun j _=>rfl
 w:=fun i hi=>by
  obtain ⟨f,hf⟩:∃f,(c6 s)[i]? =some f:=⟨_,lbf hi⟩
  obtain ⟨x,hx,_⟩:=Y0.1 (lbm hf)
  obtain ⟨h1,h2⟩:=hI x (lbm hx)
  have hfd:(c6 s).getD i (0,false)=f:=by rw [lbl,hf];rfl
  have eV:(f7 s g).V i=O6 f.2 x.value:=by show a3s s ((c6 s).getD i (0,false))=_;rw [hfd];unfold a3s;rw [hx]
  have eA:∀j,(f7 s g).A i j=O6 f.2 (w7 x.terms j):=fun j=>by show a1o s ((c6 s).getD i (0,false)) j=_;rw [hfd];unfold a1o;rw [hx]
  have hc:∀j,∃c:Int,(f7 s g).A i j=((c:Int):Rat)∧bl c<=1:=fun j=>by
   obtain ⟨c,hc,hb⟩:=a0U h1 x.terms.length j
   obtain ⟨c',hc',hb'⟩:=b2O (b:=f.2) (x:=w7 x.terms j) hc
   exact ⟨c',by rw [eA,hc'],by omega⟩
  refine ⟨(x.value.den:Int),if f.2 then -x.value.num else x.value.num,fun j=>(x.value.den:Int)*Classical.choose (hc j),?_,?_,?_,fun j hj=>?_,?_,fun j hj=>?_⟩
  ·have:=x.value.den_pos;omega
  ·have:=P1 x.value;omega
  ·have:=O2 x.value
   split
   ·rw [a33];omega
   ·omega
  ·have hb:=(a0W (hc j)).2
   have h3:=O1 (x.value.den:Int) (Classical.choose (hc j))
   have h4:=P1 x.value
   have e5:bl ((x.value.den:Int)*Classical.choose (hc j))<=B+2:=by omega
   exact e5
  ·rw [eV]
   cases hb:f.2 with
   |false=>exact b1U x.value
   |true=>
    show _*(-x.value)=((-x.value.num:Int):Rat)
    have:=b1U x.value
    have e:((-x.value.num:Int):Rat)=-((x.value.num:Int):Rat):=by push_cast;rfl
    rw [e,←this];grind
  ·have hs:=(a0W (hc j)).1
   conv=>lhs;rw [hs]
   push_cast;rfl
instance:Inhabited Fd:=⟨⟨fun _=>0,fun _ _=>0,fun _=>0,fun _=>0,fun _=>0⟩⟩
structure a7T (m n:Nat) (D0:Fd) (g0:Nat->Rat) (D:Fd):Prop where
 p:Q1 m n D
 i:∀y c,Ids m n D0 y c↔Ids m n D y c
 g:∃z,Y2 n D g0 m z
theorem b6G {m n r s:Nat} {D0 D:Fd} {g0:Nat->Rat} (h:a7T m n D0 g0 D) (hs:y7 m n D=.next r s):a7T m n D0 g0 (D.exch r s):=by
 obtain ⟨hr,hsn,hb⟩:=a87 hs
 have hp:=a9s hb
 obtain ⟨z,hz⟩:=h.g
 exact ⟨aq2 hr hsn h.p,fun y c=>(h.i y c).trans (ad1 hr hsn hp),_,as4 hr hsn hp hz⟩
def W4 (m n:Nat) (D0 D:Fd):Prop:=∃k,itS m n k D0=some D
theorem b0j {m n:Nat} {D0:Fd}:W4 m n D0 D0:=⟨0,rfl⟩
theorem af2 {m n:Nat} {D0 D D':Fd} (h:W4 m n D0 D) (hn:E0 m n D=some D'):W4 m n D0 D':=by
 obtain ⟨k,hk⟩:=h
 exact ⟨k+1,by rw [a06,hk];exact hn⟩
theorem a4S {m n:Nat} {D0:Fd} {g0:Nat->Rat} (h0:a7T m n D0 g0 D0):∀{k:Nat} {D:Fd},itS m n k D0=some D->a7T m n D0 g0 D
 |0,D,h=>by injection h with h;subst h;exact h0
 |k+1,D,h=>by
  rw [a06] at h
  cases hk:itS m n k D0 with
  |none=>rw [hk] at h;cases h
  |some D1=>
   rw [hk] at h
   have h:E0 m n D1=some D:=h
   obtain ⟨r,s,hs,rfl⟩:=ah7 h
   exact b6G (a4S h0 hk) hs
theorem ac6 {m n:Nat} {D0:Fd} {k:Nat} (h:itS m n k D0=none):∀j,itS m n (k+j) D0=none
 |0=>h
 |j+1=>by rw [show k+(j+1)=(k+j)+1 by omega,a06,ac6 h j];rfl
theorem b0E {m n:Nat} {D0 D D':Fd} (h:W4 m n D0 D) (hn:E0 m n D=none) (h':W4 m n D0 D') (hn':E0 m n D'=none):D=D':=by
 obtain ⟨k,hk⟩:=h
 obtain ⟨l,hl⟩:=h'
 have a1:itS m n (k+1) D0=none:=by rw [a06,hk];exact hn
 have a2:itS m n (l+1) D0=none:=by rw [a06,hl];exact hn'
 have hkl:k=l:=by
  rcases aB1 k l with h|h|h
  ·have:=ac6 a1 (l - (k+1))
   rw [show k+1+(l - (k+1))=l by omega,hl] at this;cases this
  ·exact h
  ·have:=ac6 a2 (k - (l+1))
   rw [show l+1+(k - (l+1))=k by omega,hk] at this;cases this
 subst hkl
 rw [hk] at hl;injection hl
theorem bc4 {m n:Nat} {D0:Fd} {g0:Nat->Rat} (h0:a7T m n D0 g0 D0):∃D,W4 m n D0 D∧E0 m n D=none:=by
 obtain ⟨k,hk,hmin⟩:=a2R (fun k=>itS m n k D0=none) (b9q h0.p h0.g)
 cases k with
 |zero=>cases hk
 |succ k=>
  cases hk':itS m n k D0 with
  |none=>have:=hmin k hk';omega
  |some D=>
   rw [a06,hk'] at hk
   exact ⟨D,⟨k,hk'⟩,hk⟩
noncomputable def ak4 (m n:Nat) (D0:Fd):Fd:=Classical.epsilon fun D=>W4 m n D0 D∧E0 m n D=none
theorem a4E {m n:Nat} {D0:Fd} {g0:Nat->Rat} (h0:a7T m n D0 g0 D0):W4 m n D0 (ak4 m n D0)∧E0 m n (ak4 m n D0)=none:=b1u (bc4 h0)
theorem bb7 {m n:Nat} {D0 D:Fd} {g0:Nat->Rat} (h0:a7T m n D0 g0 D0) (h:W4 m n D0 D) (hn:E0 m n D=none):D=ak4 m n D0:=b0E h hn (a4E h0).1 (a4E h0).2
theorem b9b {m n:Nat} {D0:Fd} {g0:Nat->Rat} (h0:a7T m n D0 g0 D0):a7T m n D0 g0 (ak4 m n D0):=by
 obtain ⟨k,hk⟩:=(a4E h0).1
 exact a4S h0 hk
theorem ar2 {m n:Nat} {D:Fd} (h:y7 m n D=.best):(∀ i,i<m->0<=D.V i)∧∀j,j<n->D.G j<=0:=by
 unfold y7 at h
 split at h
 ·rename_i h1 h2
  refine ⟨fun i hi=>?_,fun j hj=>?_⟩
  ·have:=a03 h1 i hi;simp at this;grind
  ·have:=a03 h2 j hj;simp at this;grind
 ·unfold a0o at h;split at h<;>cases h
 ·unfold a0q at h;split at h<;>cases h
 ·split at h
  ·unfold a0o at h;split at h<;>cases h
  ·unfold a0q at h;split at h<;>cases h
theorem ax6 {n r r':Nat} {D:Fd} (h:a0o n D r=.row r'):r'=r∧∀j,j<n->0<=D.A r j:=by
 unfold a0o at h
 split at h
 ·rename_i h1
  injection h with h
  exact ⟨h.symm,fun j hj=>by have:=a03 h1 j hj;simp at this;grind⟩
 ·cases h
theorem aq6 {m s s':Nat} {D:Fd} (h:a0q m D s=.col s'):s'=s∧∀i,i<m->D.A i s<=0:=by
 unfold a0q at h
 split at h
 ·rename_i h1
  injection h with h
  exact ⟨h.symm,fun i hi=>by have:=a03 h1 i hi;simp at this;grind⟩
 ·cases h
theorem aW5 {m n r:Nat} {D:Fd} (h:y7 m n D=.row r):r<m∧D.V r<0∧∀j,j<n->0<=D.A r j:=by
 unfold y7 at h
 split at h
 ·cases h
 ·rename_i r0 h1 h2
  obtain ⟨rfl,h4⟩:=ax6 h
  have h3:=E4 h1
  exact ⟨h3.1,by simpa using h3.2.1,h4⟩
 ·unfold a0q at h;split at h<;>cases h
 ·rename_i r0 s0 h1 h2
  split at h
  ·obtain ⟨rfl,h4⟩:=ax6 h
   have h3:=E4 h1
   exact ⟨h3.1,by simpa using h3.2.1,h4⟩
  ·unfold a0q at h;split at h<;>cases h
theorem a7q {m n s:Nat} {D:Fd} (h:y7 m n D=.col s):s<n∧0<D.G s∧∀i,i<m->D.A i s<=0:=by
 unfold y7 at h
 split at h
 ·cases h
 ·unfold a0o at h;split at h<;>cases h
 ·rename_i s0 h1 h2
  obtain ⟨rfl,h4⟩:=aq6 h
  have h3:=E4 h2
  exact ⟨h3.1,by simpa using h3.2.1,h4⟩
 ·rename_i r0 s0 h1 h2
  split at h
  ·unfold a0o at h;split at h<;>cases h
  ·obtain ⟨rfl,h4⟩:=aq6 h
   have h3:=E4 h2
   exact ⟨h3.1,by simpa using h3.2.1,h4⟩
theorem b5D {m n:Nat} {D:Fd} (h:E0 m n D=none):y7 m n D=.best∨(∃ r,y7 m n D=.row r)∨∃s,y7 m n D=.col s:=by
 unfold E0 at h
 cases hs:y7 m n D with
 |best=>exact .inl rfl
 |row r=>exact .inr (.inl ⟨r,rfl⟩)
 |col s=>exact .inr (.inr ⟨s,rfl⟩)
 |next r s=>rw [hs] at h;cases h
end Go.Proofs.YtpjgpclheebhkaaGreat
