/- Part 4. -/
import Derived.Test.YtdbogogfeffjlaaGreatQs3
namespace Go.Proofs.YtdbogogfeffjlaaGreat
set_option linter.unusedVariables false
set_option linter.unusedSimpArgs false
set_option maxRecDepth 100000
open Go.RowKit
open St1 St2 St3 St4 St5 St6 St7 St8
theorem b5Z (l:List Int) (hl:l.length<=1000000):a9 Tryz.prog 265 [a0G 0 l] [o5 l] (.c (.own 0 0 (F7 l).length true)) [o5 l]:=by
 (refine ac Tryz.func265 ?_;(conv=>whnf);repeat (refine zy ?_;conv=>whnf))
 repeat' (first|refine zz ?_|refine zd ?_ ?_<;>intro h<;>try omega|refine zy ?_|fail)<;>conv=>whnf
 refine k5 c8 (σ:=Nat) (fun n=>([a0G 0 l,J,J,a7 .i64 n,J,J,J,J,J,J,J,J,J,J,J,J,J,J,J,J,J],[o5 l])) (fun n=>n<=l.length∧∀j x,n<=j->l[j]? =some x->x=0) (fun n=>n) l.length [some 0]
  ⟨Nat.le_refl _,fun j x hj hx=>by rw [List.getElem?_eq_none hj] at hx;cases hx⟩ ⟨rfl,rfl,⟨a8 rfl rfl rfl rfl rfl,trivial⟩,⟨j8 rfl rfl,c6 rfl,trivial⟩⟩ ?_
 rintro n ⟨hn,hz⟩
 have hn:n<=l.length:=hn
 have hg:0<n->l[0+((n:Int) - 1).toNat]? =some (dat l (n - 1)):=fun h=>by rw [Nat.zero_add];exact a1n h hn
 conv=>whnf
 repeat' (first|refine zz ?_|refine n7 (hg (by omega)) ?_|refine T0 (by omega) (by omega) (by omega) ?_|refine zd ?_ ?_<;>intro h<;>try omega|refine zy ?_|fail)<;>conv=>whnf
 ·have h0:dat l (n - 1)=0:=by assumption
  have h1:0<n:=by omega
  refine ⟨[some 0],n - 1,⟨rfl,rfl,⟨a8 rfl rfl rfl rfl rfl,trivial⟩,⟨j8 rfl rfl,c6 (by omega),trivial⟩⟩,⟨by omega,fun j x hj hxj=>?_⟩,by show n - 1<n;omega⟩
  by_cases hj2:j=n - 1
  ·subst hj2;rw [s7 (by omega)] at hxj;injection hxj with hx;rw [← hx];exact h0
  ·exact hz j x (by omega) hxj
 all_goals
  have e:l.take n=F7 l:=a33 hz (fun x h0 hx=>by
   first
    |omega
    |(rw [s7 (by omega)] at hx;injection hx with hx;rw [← hx];assumption)) hn
  have e2:(F7 l).length=n:=by rw [← e];simp;omega
  exact ⟨⟨[some 0],rfl,rfl,⟨a8 rfl rfl rfl rfl rfl,trivial⟩,⟨rfl,rfl,by rw [e2];omega,fun h=>h⟩⟩⟩
theorem as5 {n:Nat} {K:Prop} (h:0<n) (k:K):0<n∧K:=⟨h,k⟩
theorem a8w (l:List Int) (hl:l.length<=1000000):a9 Tryz.prog 207 [d9 l] [] (d9 l) []:=by
 have l2:(l.map e7).length=l.length:=by simp
 cases l with
 |nil=>
  refine ah0 0 rfl ?_ ?_
  ·(refine ac Tryz.func207 ?_;(conv=>whnf);repeat (refine zy ?_;conv=>whnf))
   repeat' (first|refine zz ?_|refine zd ?_ ?_<;>intro h<;>try omega|refine zy ?_|fail)<;>conv=>whnf
   exact j2 (show a8i [] _ _ _ from rfl)
  ·(refine ac Tryz.func207 ?_;(conv=>whnf);repeat (refine zy ?_;conv=>whnf))
   repeat' (first|refine zz ?_|refine qp toC ?_|refine as5 (by simp) ?_|refine sl3_ok (by omega) (by omega) rfl (by omega) ?_|refine a6C rfl (by simp [toC]) ?_|refine zd ?_ ?_<;>intro h<;>try omega|refine zy ?_|fail)<;>conv=>whnf
   exact R8 rfl (by intro h;cases h) rfl rfl (by simp [toC])
 |cons a r=>
  (refine ac Tryz.func207 ?_;(conv=>whnf);repeat (refine zy ?_;conv=>whnf))
  repeat' (first|refine zz ?_|refine qp toC ?_|refine as5 (by simp) ?_|refine sl3_ok (by omega) (by omega) rfl (by omega) ?_|refine a6C rfl (by simp [toC] at *;omega) ?_|refine zd ?_ ?_<;>intro h<;>try omega|refine zy ?_|fail)<;>conv=>whnf
  exact R8 rfl (by intro h;cases h) rfl rfl (by simp [toC])
theorem b4t (l:List Int) (hl:l.length<=1000000):a9 Tryz.prog 207 [d9 l] [] (a0G 0 l) [o5 l]:=by
 have l2:(l.map e7).length=l.length:=by simp
 cases l with
 |nil=>
  refine ah0 0 rfl ?_ ?_
  ·(refine ac Tryz.func207 ?_;(conv=>whnf);repeat (refine zy ?_;conv=>whnf))
   repeat' (first|refine zz ?_|refine zd ?_ ?_<;>intro h<;>try omega|refine zy ?_|fail)<;>conv=>whnf
   exact ⟨⟨[none],rfl,rfl,⟨⟨rfl,rfl⟩,trivial⟩,⟨rfl,rfl,rfl⟩⟩⟩
  ·(refine ac Tryz.func207 ?_;(conv=>whnf);repeat (refine zy ?_;conv=>whnf))
   repeat' (first|refine zz ?_|refine qp toC ?_|refine as5 (by simp) ?_|refine sl3_ok (by omega) (by omega) rfl (by omega) ?_|refine a6C rfl (by simp [toC]) ?_|refine zd ?_ ?_<;>intro h<;>try omega|refine zy ?_|fail)<;>conv=>whnf
   exact ⟨⟨[some 0],rfl,rfl,⟨a8 rfl rfl rfl rfl rfl,trivial⟩,⟨rfl,rfl,by simp [toC],fun h=>h⟩⟩⟩
 |cons a r=>
  (refine ac Tryz.func207 ?_;(conv=>whnf);repeat (refine zy ?_;conv=>whnf))
  repeat' (first|refine zz ?_|refine qp toC ?_|refine as5 (by simp) ?_|refine sl3_ok (by omega) (by omega) rfl (by omega) ?_|refine a6C rfl (by simp [toC] at *;omega) ?_|refine zd ?_ ?_<;>intro h<;>try omega|refine zy ?_|fail)<;>conv=>whnf
  exact ⟨⟨[some 0],rfl,rfl,⟨a8 rfl rfl rfl rfl rfl,trivial⟩,⟨rfl,rfl,by simp [toC],fun h=>h⟩⟩⟩
theorem b4L (x:Int):a9 Tryz.prog 268 [a7 .i64 x] [] (d6 false) []:=by
 (refine ac Tryz.func268 ?_;(conv=>whnf);repeat (refine zy ?_;conv=>whnf))
 repeat' (first|refine zz ?_|refine zd ?_ ?_<;>intro h<;>try omega|refine zy ?_|fail)<;>conv=>whnf
 all_goals first
  |omega
  |exact b7 rfl
def L8 (x y:Int):Int:=if x<y then -1 else if x > y then 1 else 0
theorem a2L (x y:Int):a9 Tryz.prog 211 [a7 .i64 x,a7 .i64 y] [] (a7 .i64 (L8 x y)) []:=by
 (refine ac Tryz.func211 ?_;(conv=>whnf);repeat (refine zy ?_;conv=>whnf))
 repeat' (first|refine zz ?_|refine qp (b4L _) ?_|refine zd ?_ ?_<;>intro h<;>try omega|refine zy ?_|fail)<;>conv=>whnf
 all_goals first
  |(exfalso;simp_all;done)
  |(refine j1 ?_;unfold L8;split<;>first|omega|(split<;>omega))
theorem a2P (x y:Int):a9 Tryz.prog 214 [.c (.t (.sl 1 .full ([x,y].map e7)))] [] (a7 .i64 (if x=0 then y else x)) []:=by
 (refine ac Tryz.func214 ?_;(conv=>whnf);repeat (refine zy ?_;conv=>whnf))
 repeat' (first|refine zz ?_|refine zd ?_ ?_<;>intro h<;>try omega|refine zy ?_|fail)<;>conv=>whnf
 refine d7 c8 (fun k=>([J,J,J,a7 .i64 0,J,J,S.c (C.t (T.sl 1 .full ([x,y].map e7))),a7 .i64 2,a7 .i64 k,J,J,J,J,J,J,J,J,J],[])) 2 (fun k=>∀v ∈ [x,y].take k,v=0) [] (by simp)
  ⟨rfl,rfl,trivial,⟨rfl,g7 rfl,c6 rfl,c6 rfl,trivial⟩⟩ ?_
 intro k hk hI
 conv=>whnf
 repeat' (first|refine zz ?_|refine zd ?_ ?_<;>intro h<;>try omega|refine zy ?_|fail)<;>conv=>whnf
 ·have hlt:k<2:=by omega
  obtain ⟨v,hv⟩:∃v,[x,y][k]? =some v:=⟨_,lg0 (by simpa using hlt)⟩
  refine b9 hv ?_
  conv=>whnf
  repeat' (first|refine zz ?_|refine zd ?_ ?_<;>intro h<;>try omega|refine zy ?_|fail)<;>conv=>whnf
  ·refine j1 ?_
   match k,hlt with
   |0,_=>simp at hv;subst hv;rw [if_neg (by assumption)]
   |1,_=>simp at hv;subst hv;rw [if_pos (hI x (by simp))]
  ·refine ⟨hlt,?_,[],rfl,rfl,trivial,⟨rfl,rfl,rfl,rfl,trivial⟩⟩
   intro u hu
   rw [List.take_add_one,hv] at hu
   rcases List.mem_append.1 hu with hu|hu
   ·exact hI u hu
   ·simp at hu;subst hu;omega
 ·have h1:=hI x (by rw [lg4 (by simp;omega)];simp)
  have h2:=hI y (by rw [lg4 (by simp;omega)];simp)
  refine j1 ?_
  rw [if_pos h1,h2]
def sgn (s:Int) (l:List Int):Bg:=if (F7 l).length=0 then ⟨0,[]⟩ else ⟨s,F7 l⟩
theorem aJ1 (s:Int) (l:List Int) (hl:l.length<=1000000):a9 Tryz.prog 209 [a7 .i64 s,d9 l] [] (bgS (sgn s l)) []:=by
 (refine ac Tryz.func209 ?_;(conv=>whnf);repeat (refine zy ?_;conv=>whnf))
 repeat' (first|refine zz ?_|refine qp (a37 l hl) ?_|refine zd ?_ ?_<;>intro h<;>try omega|refine zy ?_|fail)<;>conv=>whnf
 ·have h0:(F7 l).length=0:=by simp at *;assumption
  unfold sgn
  rw [if_pos h0]
  exact j2 ⟨rfl,rfl,trivial⟩
 ·have h0:¬(F7 l).length=0:=by simp at *;assumption
  unfold sgn
  rw [if_neg h0]
  exact j2 ⟨rfl,rfl,trivial⟩
theorem G6 (r:Bool) (b:Bg):a9 Tryz.prog 206 [d6 r,bgS b] [] (.tup [bgS (if r then b else ⟨0,[]⟩),a7 .i64 (if r then 0 else 1)]) []:=by
 cases r<;>
 ·(refine ac Tryz.func206 ?_;(conv=>whnf);repeat (refine zy ?_;conv=>whnf))
  repeat' (first|refine zz ?_|refine zd ?_ ?_<;>intro h<;>try omega|refine zy ?_|fail)<;>conv=>whnf
  exact j2 ⟨⟨rfl,rfl,trivial⟩,rfl,trivial⟩
theorem a2Q {x y:Int} (h:x<y):L8 x y=-1:=by unfold L8;rw [if_pos h]
theorem a8C {x y:Int} (h:y<x):L8 x y=1:=by unfold L8;rw [if_neg (by omega),if_pos h]
theorem b6n {x y:Int} (h:x=y):L8 x y=0:=by unfold L8;rw [if_neg (by omega),if_neg (by omega)]
theorem aL0 {s:Int} {l:List Int} (h:Okd l) (hs:s=1∨s=-1∨val l=0):sgn s l=bz (s*val l):=by
 have hv:=t8 h
 unfold sgn bz
 rw [J3 h]
 by_cases h0:val l=0
 ·rw [h0,Int.mul_zero];rfl
 ·have h1:(dg (val l).toNat).length≠0:=by rw [Ne,List.length_eq_zero_iff,O7];omega
  rw [if_neg h1]
  rcases hs with rfl|rfl|h2
  ·rw [Int.sign_eq_one_of_pos (by omega)]
   congr 2;omega
  ·rw [Int.sign_eq_neg_one_of_neg (by omega)]
   congr 2;omega
  ·exact absurd h2 h0
theorem a2s (a b:List Int) (ha:Can a) (hb:Can b) (la:a.length<=1000000) (lb:b.length<=1000000):
 a9 Tryz.prog 212 [d9 a,d9 b] [] (a7 .i64 (L8 (val a) (val b))) []:=by
 have l1:(a.map e7).length=a.length:=by simp
 have l2:(b.map e7).length=b.length:=by simp
 have key:∀{x y:List Int},Can x->Can y->x.length<y.length->val x<val y:=fun {x y} hx hy h=>by
  rw [aR3 hx,aR3 hy] at h
  have:=av1 h
  have:=t8 hx.1
  omega
 by_cases hl:a.length=b.length
 ·(refine ac Tryz.func212 ?_;(conv=>whnf);repeat (refine zy ?_;conv=>whnf))
  repeat' (first|refine zz ?_|refine zd ?_ ?_<;>intro h<;>try omega|refine zy ?_|fail)<;>conv=>whnf
  refine k5 c8 (σ:=Nat) (fun k=>([d9 a,d9 b,J,J,J,a7 .i64 ((k:Int) - 1),J,J,J,J,J,J,J,J,J,J,J,J,J,J,J,J,J,J,J,J,J,J,J,J,J,J,J,J,J,J,J,J,J,J,J],[])) (fun k=>k<=a.length∧a.drop k=b.drop k) (fun k=>k) a.length []
   ⟨Nat.le_refl _,by rw [List.drop_of_length_le (Nat.le_refl _),List.drop_of_length_le (by omega)]⟩ ⟨rfl,rfl,trivial,⟨g7 rfl,g7 rfl,c6 (by simp),trivial⟩⟩ ?_
  rintro k ⟨hk,hd⟩
  have hk:k<=a.length:=hk
  have hd:a.drop k=b.drop k:=hd
  conv=>whnf
  repeat' (first|refine zz ?_|refine qp (a2L _ _) ?_|refine p9 (by omega) (a1n (by omega) hk) ?_|refine p9 (by omega) (a1n (by omega) (hl ▸ hk)) ?_|refine zd ?_ ?_<;>intro h<;>try omega|refine zy ?_|fail)<;>conv=>whnf
  all_goals first
   |(have hp:0<k:=by omega
     have e:k - 1+1=k:=by omega
     have gx:=s7 (l:=a) (i:=k - 1) (by omega)
     have gy:=s7 (l:=b) (i:=k - 1) (by omega)
     refine j1 ?_
     rcases Int.lt_trichotomy (dat a (k - 1)) (dat b (k - 1)) with h|h|h
     ·rw [a2Q h,a2Q (a7Z ha.1 hb.1 hl gx gy (by rw [e];exact hd) h)]
     ·exfalso;simp_all;done
     ·rw [a8C h,a8C (a7Z hb.1 ha.1 hl.symm gy gx (by rw [e];exact hd.symm) h)])
   |(have hp:0<k:=by omega
     have hq:dat a (k - 1)=dat b (k - 1):=by omega
     refine ⟨[],k - 1,⟨rfl,rfl,trivial,⟨rfl,rfl,c6 (by omega),trivial⟩⟩,⟨by omega,?_⟩,by show k - 1<k;omega⟩
     rw [List.drop_eq_getElem_cons (by omega:k - 1<a.length),List.drop_eq_getElem_cons (by omega:k - 1<b.length),show k - 1+1=k by omega,hd]
     congr 1
     have gx:=s7 (l:=a) (i:=k - 1) (by omega)
     have gy:=s7 (l:=b) (i:=k - 1) (by omega)
     rw [lg0 (by omega)] at gx gy
     injection gx with gx
     injection gy with gy
     rw [gx,gy,hq])
   |(have:k=0:=by omega
     subst this
     simp only [List.drop_zero] at hd
     refine j1 ?_
     rw [hd,b6n rfl])
 ·(refine ac Tryz.func212 ?_;(conv=>whnf);repeat (refine zy ?_;conv=>whnf))
  repeat' (first|refine zz ?_|refine qp (a2L _ _) ?_|refine zd ?_ ?_<;>intro h<;>try omega|refine zy ?_|fail)<;>conv=>whnf
  all_goals first
   |omega
   |(refine j1 ?_
     rcases Nat.lt_or_gt_of_ne hl with h|h
     ·rw [a2Q (by omega),a2Q (key ha hb h)]
     ·rw [a8C (by omega),a8C (key hb ha h)])
def b0z (a b:Bg):Int:=if H7 a && H7 b then L8 (bv a) (bv b) else 0
theorem aP0 (x:Int):Can (bz x).dl:=a1e _
theorem av7 (x:Int):val (bz x).dl=x.natAbs:=k6 _
theorem C1 (x:Int):x.sign=0∧x=0∨x.sign=1∧0<x∨x.sign=-1∧x<0:=by
 rcases Int.lt_trichotomy x 0 with h|h|h
 ·exact .inr (.inr ⟨Int.sign_eq_neg_one_of_neg h,h⟩)
 ·subst h;exact .inl ⟨rfl,rfl⟩
 ·exact .inr (.inl ⟨Int.sign_eq_one_of_pos h,h⟩)
theorem b10 {x y:Int} (h:x.sign≠y.sign):L8 x.sign y.sign=L8 x y:=by
 rcases C1 x with ⟨e,h1⟩|⟨e,h1⟩|⟨e,h1⟩<;>rcases C1 y with ⟨f,h2⟩|⟨f,h2⟩|⟨f,h2⟩<;>rw [e,f] at h ⊢<;>unfold L8<;>(repeat' split)<;>omega
theorem b3j {x y:Int} (h:x.sign=y.sign):x.sign*L8 x.natAbs y.natAbs=L8 x y:=by
 rcases C1 x with ⟨e,h1⟩|⟨e,h1⟩|⟨e,h1⟩<;>rcases C1 y with ⟨f,h2⟩|⟨f,h2⟩|⟨f,h2⟩<;>rw [e,f] at h<;>try omega
 all_goals (rw [e];unfold L8;(repeat' split)<;>omega)
theorem b4d (x y:Int):-1<=L8 x y∧L8 x y<=1:=by unfold L8;split<;>(try split)<;>omega
theorem a9s {b:Bg} (h:H7 b=true):∃z,b=bz z:=⟨_,b3L h⟩
theorem aJ7 (a b:Bg) (la:a.dl.length<=1000000) (lb:b.dl.length<=1000000):
 a9 Tryz.prog 139 [bgS a,bgS b] [] (a7 .i64 (b0z a b)) []:=by
 have r1:=a2l a la
 have r2:=a2l b lb
 cases ha:H7 a with
 |false=>
  rw [ha] at r1
  (refine ac Tryz.func139 ?_;(conv=>whnf);repeat (refine zy ?_;conv=>whnf))
  repeat' (first|refine zz ?_|refine qp r1 ?_|refine qp r2 ?_|refine zd ?_ ?_<;>intro h<;>try omega|refine zy ?_|fail)<;>conv=>whnf
  all_goals (first|(exfalso;simp_all;done)|(refine j1 ?_;unfold b0z;rw [ha];rfl))
 |true=>
  rw [ha] at r1
  cases hb:H7 b with
  |false=>
   rw [hb] at r2
   (refine ac Tryz.func139 ?_;(conv=>whnf);repeat (refine zy ?_;conv=>whnf))
   repeat' (first|refine zz ?_|refine qp r1 ?_|refine qp r2 ?_|refine zd ?_ ?_<;>intro h<;>try omega|refine zy ?_|fail)<;>conv=>whnf
   all_goals (first|(exfalso;simp_all;done)|(refine j1 ?_;unfold b0z;rw [ha,hb];rfl))
  |true=>
   rw [hb] at r2
   obtain ⟨x,rfl⟩:=a9s ha
   obtain ⟨y,rfl⟩:=a9s hb
   have c:=a2s (bz x).dl (bz y).dl (aP0 x) (aP0 y) la lb
   rw [av7,av7] at c
   have e:b0z (bz x) (bz y)=L8 x y:=by unfold b0z;rw [ha,hb,a3B,a3B];rfl
   rw [e]
   have hr:=b4d x y
   by_cases hs:x.sign=y.sign
   ·have hs':(bz x).sg=(bz y).sg:=hs
    have e2:=b3j hs
    (refine ac Tryz.func139 ?_;(conv=>whnf);repeat (refine zy ?_;conv=>whnf))
    repeat' (first|refine zz ?_|refine qp r1 ?_|refine qp r2 ?_|refine qp c ?_|refine ⟨_,B3 e2 (by omega) (by omega),?_⟩|refine zd ?_ ?_<;>intro h<;>try omega|refine zy ?_|fail)<;>conv=>whnf
    all_goals first
     |omega
     |(exfalso;simp_all;done)
     |exact j1 rfl
   ·have hs':(bz x).sg≠(bz y).sg:=hs
    (refine ac Tryz.func139 ?_;(conv=>whnf);repeat (refine zy ?_;conv=>whnf))
    repeat' (first|refine zz ?_|refine qp r1 ?_|refine qp r2 ?_|refine qp (a2L _ _) ?_|refine zd ?_ ?_<;>intro h<;>try omega|refine zy ?_|fail)<;>conv=>whnf
    all_goals first
     |omega
     |(exfalso;simp_all;done)
     |exact j1 (b10 hs)
def b0Q (a:Bg):Bg:=if H7 a then bz (-bv a) else ⟨0,[]⟩
theorem b7V (a:Bg) (la:a.dl.length<=1000000):a9 Tryz.prog 141 [bgS a] [] (bgS (b0Q a)) []:=by
 have r1:=a2l a la
 cases ha:H7 a with
 |false=>
  rw [ha] at r1
  have e:b0Q a=⟨0,[]⟩:=by unfold b0Q;rw [ha];rfl
  rw [e]
  (refine ac Tryz.func141 ?_;(conv=>whnf);repeat (refine zy ?_;conv=>whnf))
  repeat' (first|refine zz ?_|refine qp r1 ?_|refine zd ?_ ?_<;>intro h<;>try omega|refine zy ?_|fail)<;>conv=>whnf
  all_goals (first|(exfalso;simp_all;done)|exact j2 ⟨rfl,rfl,trivial⟩)
 |true=>
  rw [ha] at r1
  obtain ⟨x,rfl⟩:=a9s ha
  have e:b0Q (bz x)=sgn (0 - (bz x).sg) (bz x).dl:=by
   rw [Int.zero_sub]
   unfold b0Q
   rw [ha,aL0 (aP0 x).1 (by rcases C1 x with ⟨h,h1⟩|⟨h,h1⟩|⟨h,h1⟩<;>rw [a9W,h]<;>simp [h1,av7]),a3B,av7,a9W]
   show bz (-x)=_
   congr 1
   rw [Int.neg_mul,Int.sign_mul_natAbs]
  rw [e]
  have hs:-1<=(bz x).sg∧(bz x).sg<=1:=by rcases C1 x with ⟨h,h1⟩|⟨h,h1⟩|⟨h,h1⟩<;>rw [a9W,h]<;>decide
  (refine ac Tryz.func141 ?_;(conv=>whnf);repeat (refine zy ?_;conv=>whnf))
  repeat' (first|refine zz ?_|refine qp r1 ?_|refine qp (a8w _ la) ?_|refine qp (aJ1 _ _ la) ?_|refine zd ?_ ?_<;>intro h<;>try omega|refine zy ?_|fail)<;>conv=>whnf
  all_goals (first|(exfalso;simp_all;done)|exact j2 ⟨rfl,rfl,trivial⟩)
theorem a5R {a:Int} (j:Nat) (hj:j<=62):IntKind.wrap .i64 (BitVec.ofInt (IntKind.bits .i64) a &&& BitVec.ofInt (IntKind.bits .i64) ((2 ^ j - 1:Nat):Int)).toNat=a % ((2 ^ j:Nat):Int):=by
 rw [aG1 rfl a j hj]
 have hp:(2:Nat) ^ j<=2 ^ 62:=Nat.pow_le_pow_right (by decide) hj
 have h0:0<(2:Nat) ^ j:=Nat.pow_pos (by decide)
 have h1:0<=a % ((2 ^ j:Nat):Int):=Int.emod_nonneg _ (by omega)
 have h2:a % ((2 ^ j:Nat):Int)<((2 ^ j:Nat):Int):=Int.emod_lt_of_pos _ (by omega)
 rw [Int.toNat_of_nonneg h1]
 exact (show F9 .i64 _ _ from a4G (by omega) (by omega)).symm
structure av0 (m n:Int):Prop where
 ok:∀a:Int,V6 .and .i64 a m (a % n)
theorem a5r:av0 1048575 1048576:=⟨fun a=>(a5R (a:=a) 20 (by decide)).symm⟩
theorem a98:av0 1 2:=⟨fun a=>(a5R (a:=a) 1 (by decide)).symm⟩
theorem aa2 (a:Int):aY3 .i64 a 20 (a / 1048576):=by
 show a / 1048576=a.fdiv 1048576
 exact (Int.fdiv_eq_ediv_of_nonneg _ (by decide)).symm
theorem K2 {l:List Int} {i:Nat} {n:Int} {v:Int} (h:0+n.toNat=i):(toC (l.map e7)).set (0+n.toNat) [C.t (ti v)]=toC ((l.set i v).map e7):=by
 rw [h];simp [toC,e7,List.map_set]
theorem L9 {l:List Int} {n:Int} {i:Nat} (h:n.toNat=i) (hi:i<l.length):l[0+n.toNat]? =some (dat l i):=by rw [Nat.zero_add,h];exact s7 hi
theorem b7j (a b:List Int) (ha:Okd a) (hb:Okd b) (la:a.length<=400000) (lb:b.length<=400000) (hab:b.length<=a.length):
 a9 Tryz.prog 215 [d9 a,d9 b] [] (d9 (dg (val a+val b).toNat)) []:=by
 have l1:(a.map e7).length=a.length:=by simp
 have l2:(b.map e7).length=b.length:=by simp
 (refine ac Tryz.func215 ?_;(conv=>whnf);repeat (refine zy ?_;conv=>whnf))
 repeat' (first|refine zz ?_|refine a3y (by omega) (by omega) (by omega) (by decide) ?_|refine zd ?_ ?_<;>intro h<;>try omega|refine zy ?_|fail)<;>conv=>whnf
 refine k5 c8 (σ:=Nat × List Int × Int) (fun|(k,out,c)=>([d9 a,d9 b,J,J,J,a0G 0 out,a7 .i64 c,J,J,J,J,J,J,J,J,J,J,J,J,J,d9 a,a7 .i64 a.length,a7 .i64 k,J,J,J,J,J,J,J,J,J,J,J,J,J,J,J,J,J,J,J,J,J,J,J,J,J,J,J,J,J,J,J,J],[o5 out])) (fun x=>a7g a b x.1 x.2.1 x.2.2) (fun x=>a.length - x.1) (0,List.replicate (a.length+1) 0,0) [some 0]
  (a7g.init _ _) ⟨rfl,rfl,⟨a8 rfl rfl rfl ?_ rfl,trivial⟩,⟨g7 rfl,g7 rfl,j8 rfl (by simp),rfl,g7 rfl,c6 (by simp),rfl,trivial⟩⟩ ?_
 ·show List.replicate _ _=_
  simp [toC,e7,C4]
 rintro ⟨k,out,c⟩ hI
 have hI:a7g a b k out c:=hI
 have hlen:=hI.len
 have hle:=hI.le
 have hc0:=hI.c0
 have hc1:=hI.c1
 conv=>whnf
 have hda:=ha.dat k
 have hdb:=hb.dat k
 repeat' (first|refine zz ?_|refine b9 (s7 (by omega)) ?_|refine a0l (by omega) (by show _<((out.length:Nat):Int);omega) ?_|refine n7 (L9 rfl (by omega)) ?_|refine ⟨_,av0.ok (by first|exact a5r|exact a98) _,?_⟩|refine ⟨by decide,_,aa2 _,?_⟩|refine zd ?_ ?_<;>intro h<;>try omega|refine zy ?_|fail)<;>conv=>whnf
 ·refine ⟨[some 0],(k+1,out.set k ((c+dat a k+dat b k) % 1048576),(c+dat a k+dat b k) / 1048576),⟨rfl,rfl,⟨a8 rfl rfl rfl (K2 (by omega)) rfl,trivial⟩,⟨rfl,rfl,j8 rfl (by simp),rfl,rfl,rfl,c6 (by omega),trivial⟩⟩,hI.step ha hb (by omega),?_⟩
  show a.length - (k+1)<a.length - k
  omega
 ·have e:dat b k=0:=O1 (by omega)
  have hst:=hI.step ha hb (by omega)
  rw [e,Int.add_zero] at hst
  refine ⟨[some 0],(k+1,out.set k ((c+dat a k) % 1048576),(c+dat a k) / 1048576),⟨rfl,rfl,⟨a8 rfl rfl rfl (K2 (by omega)) rfl,trivial⟩,⟨rfl,rfl,j8 rfl (by simp),rfl,rfl,rfl,c6 (by omega),trivial⟩⟩,hst,?_⟩
  show a.length - (k+1)<a.length - k
  omega
 ·have hk:k=a.length:=by omega
  subst hk
  have hf:=hI.fin (by omega)
  have t:=a37 (out.set a.length c) (by simp;omega)
  rw [hf] at t
  refine .inr ⟨_,_,u7 [0] t ⟨a0I (s8 (by simp) rfl (by intro h;cases h) rfl (K2 (by omega)) (by simp)),trivial⟩ rfl,?_⟩
  conv=>whnf
  exact aa1 (by rw [Int.add_comm])
theorem b8f (a b:List Int) (ha:Okd a) (hb:Okd b) (la:a.length<=400000) (lb:b.length<=400000) (hab:a.length<b.length):
 a9 Tryz.prog 215 [d9 a,d9 b] [] (d9 (dg (val a+val b).toNat)) []:=by
 have l1:(a.map e7).length=a.length:=by simp
 have l2:(b.map e7).length=b.length:=by simp
 (refine ac Tryz.func215 ?_;(conv=>whnf);repeat (refine zy ?_;conv=>whnf))
 repeat' (first|refine zz ?_|refine a3y (by omega) (by omega) (by omega) (by decide) ?_|refine zd ?_ ?_<;>intro h<;>try omega|refine zy ?_|fail)<;>conv=>whnf
 refine k5 c8 (σ:=Nat × List Int × Int) (fun|(k,out,c)=>([d9 b,d9 a,J,J,J,a0G 0 out,a7 .i64 c,J,J,J,J,J,J,J,J,J,J,J,J,J,d9 b,a7 .i64 b.length,a7 .i64 k,J,J,J,J,J,J,J,J,J,J,J,J,J,J,J,J,J,J,J,J,J,J,J,J,J,J,J,J,J,J,J,J],[o5 out])) (fun x=>a7g b a x.1 x.2.1 x.2.2) (fun x=>b.length - x.1) (0,List.replicate (b.length+1) 0,0) [some 0]
  (a7g.init _ _) ⟨rfl,rfl,⟨a8 rfl rfl rfl ?_ rfl,trivial⟩,⟨g7 rfl,g7 rfl,j8 rfl (by simp),rfl,g7 rfl,c6 (by simp),rfl,trivial⟩⟩ ?_
 ·show List.replicate _ _=_
  simp [toC,e7,C4]
 rintro ⟨k,out,c⟩ hI
 have hI:a7g b a k out c:=hI
 have hlen:=hI.len
 have hle:=hI.le
 have hc0:=hI.c0
 have hc1:=hI.c1
 conv=>whnf
 have hda:=hb.dat k
 have hdb:=ha.dat k
 repeat' (first|refine zz ?_|refine b9 (s7 (by omega)) ?_|refine a0l (by omega) (by show _<((out.length:Nat):Int);omega) ?_|refine n7 (L9 rfl (by omega)) ?_|refine ⟨_,av0.ok (by first|exact a5r|exact a98) _,?_⟩|refine ⟨by decide,_,aa2 _,?_⟩|refine zd ?_ ?_<;>intro h<;>try omega|refine zy ?_|fail)<;>conv=>whnf
 ·refine ⟨[some 0],(k+1,out.set k ((c+dat b k+dat a k) % 1048576),(c+dat b k+dat a k) / 1048576),⟨rfl,rfl,⟨a8 rfl rfl rfl (K2 (by omega)) rfl,trivial⟩,⟨rfl,rfl,j8 rfl (by simp),rfl,rfl,rfl,c6 (by omega),trivial⟩⟩,hI.step hb ha (by omega),?_⟩
  show b.length - (k+1)<b.length - k
  omega
 ·have e:dat a k=0:=O1 (by omega)
  have hst:=hI.step hb ha (by omega)
  rw [e,Int.add_zero] at hst
  refine ⟨[some 0],(k+1,out.set k ((c+dat b k) % 1048576),(c+dat b k) / 1048576),⟨rfl,rfl,⟨a8 rfl rfl rfl (K2 (by omega)) rfl,trivial⟩,⟨rfl,rfl,j8 rfl (by simp),rfl,rfl,rfl,c6 (by omega),trivial⟩⟩,hst,?_⟩
  show b.length - (k+1)<b.length - k
  omega
 ·have hk:k=b.length:=by omega
  subst hk
  have hf:=hI.fin (by omega)
  have t:=a37 (out.set b.length c) (by simp;omega)
  rw [hf] at t
  refine .inr ⟨_,_,u7 [0] t ⟨a0I (s8 (by simp) rfl (by intro h;cases h) rfl (K2 (by omega)) (by simp)),trivial⟩ rfl,?_⟩
  conv=>whnf
  exact aa1 (by rw [Int.add_comm])
theorem b9d (a b:List Int) (ha:Okd a) (hb:Okd b) (la:a.length<=400000) (lb:b.length<=400000):
 a9 Tryz.prog 215 [d9 a,d9 b] [] (d9 (dg (val a+val b).toNat)) []:=by
 rcases Nat.lt_or_ge a.length b.length with h|h
 ·exact b8f a b ha hb la lb h
 ·exact b7j a b ha hb la lb h
theorem b8l (a b:List Int) (ha:Okd a) (hb:Okd b) (la:a.length<=400000) (lb:b.length<=a.length) (hv:val b<=val a):
 a9 Tryz.prog 216 [d9 a,d9 b] [] (d9 (dg (val a - val b).toNat)) []:=by
 have l1:(a.map e7).length=a.length:=by simp
 have l2:(b.map e7).length=b.length:=by simp
 (refine ac Tryz.func216 ?_;(conv=>whnf);repeat (refine zy ?_;conv=>whnf))
 repeat' (first|refine zz ?_|refine zd ?_ ?_<;>intro h<;>try omega|refine zy ?_|fail)<;>conv=>whnf
 refine .inr ⟨_,_,al4 (b4t a (by omega)) rfl rfl rfl rfl,?_⟩
 conv=>whnf
 repeat' (first|refine zz ?_|refine zd ?_ ?_<;>intro h<;>try omega|refine zy ?_|fail)<;>conv=>whnf
 refine k5 c8 (σ:=Nat × List Int × Int) (fun|(k,out,c)=>([J,d9 b,J,J,J,a0G 0 out,a7 .i64 c,J,J,J,J,J,a7 .i64 a.length,a7 .i64 k,J,J,J,J,J,J,J,J,J,J,J,J,J,J,J,J,J,J,J,J,J,J,J,J,J,J,J,J,J],[o5 out])) (fun x=>ad8 a b x.1 x.2.1 x.2.2) (fun x=>a.length - x.1) (0,a,0) [some 0]
  (ad8.init ha) ⟨rfl,rfl,⟨a8 rfl rfl rfl rfl rfl,trivial⟩,⟨g7 rfl,j8 rfl rfl,rfl,c6 (by simp),rfl,trivial⟩⟩ ?_
 rintro ⟨k,out,c⟩ hI
 have hI:ad8 a b k out c:=hI
 have hlen:=hI.len
 have hle:=hI.le
 have hc0:=hI.c0
 have hc1:=hI.c1
 conv=>whnf
 have hda:=hI.ok.dat k
 have hdb:=hb.dat k
 repeat' (first|refine zz ?_|refine b9 (s7 (by omega)) ?_|refine a0l (by omega) (by show _<((out.length:Nat):Int);omega) ?_|refine n7 (L9 (i:=k) rfl (by omega)) ?_|refine ⟨_,av0.ok (by first|exact a5r|exact a98) _,?_⟩|refine ⟨by decide,_,aa2 _,?_⟩|refine zd ?_ ?_<;>intro h<;>try omega|refine zy ?_|fail)<;>conv=>whnf
 ·refine ⟨[some 0],(k+1,out.set k ((dat out k - c - dat b k) % 1048576),(dat out k - c - dat b k) / 1048576 % 2),⟨rfl,rfl,⟨a8 rfl rfl rfl (K2 (by omega)) rfl,trivial⟩,⟨rfl,j8 rfl (by simp),rfl,rfl,c6 (by omega),trivial⟩⟩,hI.step ha hb (by omega),?_⟩
  show a.length - (k+1)<a.length - k
  omega
 ·have e:dat b k=0:=O1 (by omega)
  have hst:=hI.step ha hb (by omega)
  rw [e,Int.sub_zero] at hst
  refine ⟨[some 0],(k+1,out.set k ((dat out k - c) % 1048576),(dat out k - c) / 1048576 % 2),⟨rfl,rfl,⟨a8 rfl rfl rfl (K2 (by omega)) rfl,trivial⟩,⟨rfl,j8 rfl (by simp),rfl,rfl,c6 (by omega),trivial⟩⟩,hst,?_⟩
  show a.length - (k+1)<a.length - k
  omega
 ·have hk:k=a.length:=by omega
  subst hk
  have hf:=hI.fin (by omega) hv
  have t:=a37 out (by omega)
  rw [hf] at t
  refine .inr ⟨_,_,u7 [0] t ⟨a0I (s8 (by simp) rfl (by intro h;cases h) rfl rfl (by simp)),trivial⟩ rfl,?_⟩
  conv=>whnf
  exact aa1 rfl
set_option maxHeartbeats 1000000 in
theorem b6A (a b:List Int) (ha:Okd a) (hb:Okd b) (la:a.length<=400000) (lb:b.length<=400000):
 a9 Tryz.prog 266 [d9 a,d9 b] [] (d9 (dg (val a*val b).toNat)) []:=by
 have l1:(a.map e7).length=a.length:=by simp
 have l2:(b.map e7).length=b.length:=by simp
 (refine ac Tryz.func266 ?_;(conv=>whnf);repeat (refine zy ?_;conv=>whnf))
 repeat' (first|refine zz ?_|refine a3y (by omega) (by omega) (by omega) (by decide) ?_|refine zd ?_ ?_<;>intro h<;>try omega|refine zy ?_|fail)<;>conv=>whnf
 refine k5 c8 (σ:=Nat × List Int) (fun|(i,out)=>([J,d9 b,J,J,J,a0G 0 out,J,J,J,J,J,J,J,J,J,J,J,J,d9 a,a7 .i64 a.length,a7 .i64 i,J,J,J,J,J,J,J,J,J,J,J,J,J,J,J,J,J,J,J,J,J,J,J,J,J,J,J,J,J,J,J,J,J,J,J,J,J,J,J,J,J,J,J,J,J,J],[o5 out])) (fun x=>a3N a b x.1 x.2) (fun x=>a.length - x.1) (0,List.replicate (a.length+b.length) 0) [some 0]
  (a3N.init a b) ⟨rfl,rfl,⟨a8 rfl rfl rfl ?_ rfl,trivial⟩,⟨g7 rfl,j8 rfl (by simp;omega),g7 rfl,c6 (by simp),rfl,trivial⟩⟩ ?_
 ·show List.replicate _ _=_
  rw [show ((((a.map e7).length:Nat):Int)+((b.map e7).length:Nat)).toNat=a.length+b.length by omega]
  simp [toC,e7,C4]
 rintro ⟨i,out⟩ hI
 have hI:a3N a b i out:=hI
 have hlen:=hI.len
 have hle:=hI.le
 conv=>whnf
 repeat' (first|refine zz ?_|refine b9 (s7 (by omega)) ?_|refine zd ?_ ?_<;>intro h<;>try omega|refine zy ?_|fail)<;>conv=>whnf
 ·have hi:i<a.length:=by omega
  refine k5 c8 (σ:=Nat × List Int × Int) (fun|(k,out,c)=>([J,d9 b,J,J,J,a0G 0 out,a7 .i64 i,a7 .i64 (dat a i),a7 .i64 c,J,J,J,J,J,J,J,J,J,d9 a,a7 .i64 a.length,a7 .i64 i,J,J,J,J,d9 b,a7 .i64 b.length,a7 .i64 k,J,J,J,J,J,J,J,J,J,J,J,J,J,J,J,J,J,J,J,J,J,J,J,J,J,J,J,J,J,J,J,J,J,J,J,J,J,J,J],[o5 out])) (fun x=>a96 a b i x.1 x.2.1 x.2.2) (fun x=>b.length - x.1) (0,out,0) [some 0]
   hI.start ⟨rfl,rfl,⟨a8 rfl rfl rfl rfl rfl,trivial⟩,⟨g7 rfl,j8 rfl rfl,rfl,rfl,rfl,g7 rfl,rfl,rfl,g7 rfl,c6 (by simp),rfl,trivial⟩⟩ ?_
  rintro ⟨k,out,c⟩ hK
  have hK:a96 a b i k out c:=hK
  have hlen:=hK.len
  have hle:=hK.le
  have hc0:=hK.c0
  have hc1:=hK.c1
  conv=>whnf
  have hdo:=hK.ok.dat (i+k)
  have hm:=a2W (ha.dat i) (hb.dat k)
  have e1:((i:Int)+k).toNat=i+k:=by omega
  have e2:((i:Int)+b.length).toNat=i+b.length:=by omega
  have e3:((i:Int)+((b.map e7).length:Nat)).toNat=i+b.length:=by omega
  have hz:=hK.zero (i+b.length) (Nat.le_refl _)
  repeat' (first|refine zz ?_|refine b9 (s7 (by omega)) ?_|refine a0l (by omega) (by show _<((out.length:Nat):Int);omega) ?_|refine n7 (L9 e1 (by omega)) ?_|refine n7 (L9 e3 (by omega)) ?_|refine ⟨_,av0.ok (by first|exact a5r|exact a98) _,?_⟩|refine ⟨by decide,_,aa2 _,?_⟩|refine zd ?_ ?_<;>intro h<;>try omega|refine zy ?_|fail)<;>conv=>whnf
  ·refine ⟨[some 0],(k+1,out.set (i+k) ((dat out (i+k)+dat a i*dat b k+c) % 1048576),(dat out (i+k)+dat a i*dat b k+c) / 1048576),⟨rfl,rfl,⟨a8 rfl rfl rfl (K2 (by omega)) rfl,trivial⟩,⟨rfl,j8 rfl (by simp),rfl,rfl,rfl,rfl,rfl,rfl,rfl,rfl,c6 (by omega),trivial⟩⟩,hK.step ha hb hi (by omega),?_⟩
   show b.length - (k+1)<b.length - k
   omega
  ·have hk:k=b.length:=by omega
   subst hk
   refine ⟨[some 0],(i+1,out.set (i+b.length) (dat out (i+b.length)+c)),⟨rfl,rfl,⟨a8 rfl rfl rfl (K2 (by omega)) rfl,trivial⟩,⟨rfl,j8 rfl (by simp),rfl,rfl,c6 (by omega),trivial⟩⟩,hK.done ha hb hi,?_⟩
   show a.length - (i+1)<a.length - i
   omega
 ·have hi:i=a.length:=by omega
  subst hi
  have hf:=hI.fin
  have t:=a37 out (by omega)
  rw [hf] at t
  refine .inr ⟨_,_,u7 [0] t ⟨a0I (s8 (by simp) rfl (by intro h;cases h) rfl rfl (by simp)),trivial⟩ rfl,?_⟩
  conv=>whnf
  exact aa1 rfl
set_option maxHeartbeats 1000000 in
theorem b87 (a b:List Int) (ha:Okd a) (hb:Okd b) (la:a.length<=400000) (lb:b.length<=400000):
 a9 Tryz.prog 266 [d9 a,d9 b] [] (.c (.own 0 0 (dg (val a*val b).toNat).length true)) [o5 (a01 (a.length+b.length) (dg (val a*val b).toNat))]:=by
 have l1:(a.map e7).length=a.length:=by simp
 have l2:(b.map e7).length=b.length:=by simp
 (refine ac Tryz.func266 ?_;(conv=>whnf);repeat (refine zy ?_;conv=>whnf))
 repeat' (first|refine zz ?_|refine a3y (by omega) (by omega) (by omega) (by decide) ?_|refine zd ?_ ?_<;>intro h<;>try omega|refine zy ?_|fail)<;>conv=>whnf
 refine k5 c8 (σ:=Nat × List Int) (fun|(i,out)=>([J,d9 b,J,J,J,a0G 0 out,J,J,J,J,J,J,J,J,J,J,J,J,d9 a,a7 .i64 a.length,a7 .i64 i,J,J,J,J,J,J,J,J,J,J,J,J,J,J,J,J,J,J,J,J,J,J,J,J,J,J,J,J,J,J,J,J,J,J,J,J,J,J,J,J,J,J,J,J,J,J],[o5 out])) (fun x=>a3N a b x.1 x.2) (fun x=>a.length - x.1) (0,List.replicate (a.length+b.length) 0) [some 0]
  (a3N.init a b) ⟨rfl,rfl,⟨a8 rfl rfl rfl ?_ rfl,trivial⟩,⟨g7 rfl,j8 rfl (by simp;omega),g7 rfl,c6 (by simp),rfl,trivial⟩⟩ ?_
 ·show List.replicate _ _=_
  rw [show ((((a.map e7).length:Nat):Int)+((b.map e7).length:Nat)).toNat=a.length+b.length by omega]
  simp [toC,e7,C4]
 rintro ⟨i,out⟩ hI
 have hI:a3N a b i out:=hI
 have hlen:=hI.len
 have hle:=hI.le
 conv=>whnf
 repeat' (first|refine zz ?_|refine b9 (s7 (by omega)) ?_|refine zd ?_ ?_<;>intro h<;>try omega|refine zy ?_|fail)<;>conv=>whnf
 ·have hi:i<a.length:=by omega
  refine k5 c8 (σ:=Nat × List Int × Int) (fun|(k,out,c)=>([J,d9 b,J,J,J,a0G 0 out,a7 .i64 i,a7 .i64 (dat a i),a7 .i64 c,J,J,J,J,J,J,J,J,J,d9 a,a7 .i64 a.length,a7 .i64 i,J,J,J,J,d9 b,a7 .i64 b.length,a7 .i64 k,J,J,J,J,J,J,J,J,J,J,J,J,J,J,J,J,J,J,J,J,J,J,J,J,J,J,J,J,J,J,J,J,J,J,J,J,J,J,J],[o5 out])) (fun x=>a96 a b i x.1 x.2.1 x.2.2) (fun x=>b.length - x.1) (0,out,0) [some 0]
   hI.start ⟨rfl,rfl,⟨a8 rfl rfl rfl rfl rfl,trivial⟩,⟨g7 rfl,j8 rfl rfl,rfl,rfl,rfl,g7 rfl,rfl,rfl,g7 rfl,c6 (by simp),rfl,trivial⟩⟩ ?_
  rintro ⟨k,out,c⟩ hK
  have hK:a96 a b i k out c:=hK
  have hlen:=hK.len
  have hle:=hK.le
  have hc0:=hK.c0
  have hc1:=hK.c1
  conv=>whnf
  have hdo:=hK.ok.dat (i+k)
  have hm:=a2W (ha.dat i) (hb.dat k)
  have e1:((i:Int)+k).toNat=i+k:=by omega
  have e2:((i:Int)+b.length).toNat=i+b.length:=by omega
  have e3:((i:Int)+((b.map e7).length:Nat)).toNat=i+b.length:=by omega
  have hz:=hK.zero (i+b.length) (Nat.le_refl _)
  repeat' (first|refine zz ?_|refine b9 (s7 (by omega)) ?_|refine a0l (by omega) (by show _<((out.length:Nat):Int);omega) ?_|refine n7 (L9 e1 (by omega)) ?_|refine n7 (L9 e3 (by omega)) ?_|refine ⟨_,av0.ok (by first|exact a5r|exact a98) _,?_⟩|refine ⟨by decide,_,aa2 _,?_⟩|refine zd ?_ ?_<;>intro h<;>try omega|refine zy ?_|fail)<;>conv=>whnf
  ·refine ⟨[some 0],(k+1,out.set (i+k) ((dat out (i+k)+dat a i*dat b k+c) % 1048576),(dat out (i+k)+dat a i*dat b k+c) / 1048576),⟨rfl,rfl,⟨a8 rfl rfl rfl (K2 (by omega)) rfl,trivial⟩,⟨rfl,j8 rfl (by simp),rfl,rfl,rfl,rfl,rfl,rfl,rfl,rfl,c6 (by omega),trivial⟩⟩,hK.step ha hb hi (by omega),?_⟩
   show b.length - (k+1)<b.length - k
   omega
  ·have hk:k=b.length:=by omega
   subst hk
   refine ⟨[some 0],(i+1,out.set (i+b.length) (dat out (i+b.length)+c)),⟨rfl,rfl,⟨a8 rfl rfl rfl (K2 (by omega)) rfl,trivial⟩,⟨rfl,j8 rfl (by simp),rfl,rfl,c6 (by omega),trivial⟩⟩,hK.done ha hb hi,?_⟩
   show a.length - (i+1)<a.length - i
   omega
 ·have hi:i=a.length:=by omega
  subst hi
  have hf:=hI.fin
  have t:=b5Z out (by omega)
  have hp:=ah2 out
  rw [hf] at t hp
  refine .inr ⟨_,_,t,?_⟩
  conv=>whnf
  have hq:a01 (a.length+b.length) (dg (val a*val b).toNat)=out:=by unfold a01;rw [← hlen];exact hp
  rw [hq]
  exact ⟨⟨[some 0],rfl,rfl,⟨a8 rfl rfl rfl rfl rfl,trivial⟩,⟨rfl,rfl,rfl,fun h=>h⟩⟩⟩
theorem b37 {r:Int} (h0:0<=r) (h1:r<4398046511104):F9 .i64 (r*2 ^ min (20:Int).toNat (IntKind.bits .i64)) (r*1048576):=by
 show F9 .i64 (r*1048576) (r*1048576)
 exact a4G (by omega) (by omega)
theorem b75 {k:IntKind} (hk:k.bits=64) (R X:Nat) (h1:R<4398046511104) (hx:X<1048576):(BitVec.ofInt k.bits ((R:Int)*1048576) ||| BitVec.ofInt k.bits (X:Int)).toNat=R*1048576+X:=by
 rw [hk,BitVec.toNat_or,BitVec.toNat_ofInt,BitVec.toNat_ofInt]
 have e1:(((R:Int)*1048576) % ((2 ^ 64:Nat):Int)).toNat=R <<< 20:=by
  rw [Nat.shiftLeft_eq];omega
 have e2:((X:Int) % ((2 ^ 64:Nat):Int)).toNat=X:=by omega
 rw [e1,e2,←Nat.shiftLeft_add_eq_or_of_lt (by omega),Nat.shiftLeft_eq]
theorem b80 {r x:Int} (h0:0<=r) (h1:r<4398046511104) (hx0:0<=x) (hx1:x<1048576):V6 .or .i64 (r*1048576) x (r*1048576+x):=by
 obtain ⟨R,rfl⟩:=Int.eq_ofNat_of_zero_le h0
 obtain ⟨X,rfl⟩:=Int.eq_ofNat_of_zero_le hx0
 unfold V6
 simp only
 rw [b75 rfl R X (by omega) (by omega)]
 have e:((R*1048576+X:Nat):Int)=(R:Int)*1048576+X:=by simp
 rw [e]
 exact (show F9 .i64 ((R:Int)*1048576+X) _ from a4G (by omega) (by omega))
theorem b3Y {a b:Int} (h0:0<=a) (h1:a<=9223372036854775807) (hb:0<b):F9 .i64 (a.tdiv b) (a / b):=by
 rw [Int.tdiv_eq_ediv_of_nonneg h0]
 have h2:0<=a / b:=Int.ediv_nonneg h0 (by omega)
 have h3:a / b<=a:=Int.ediv_le_self _ h0
 exact a4G (by omega) (by omega)
theorem b1w {l:List Int} {n:Nat} (h:0<n) (hn:n<=l.length):l[0+((n:Int) - 1).toNat]? =some (dat l (n - 1)):=by rw [Nat.zero_add];exact a1n h hn
theorem aV3 (a:List Int) (d:Int) (ha:Okd a) (la:a.length<=1000000) (hd:0<d) (hd2:d<1048576):
 a9 Tryz.prog 264 [d9 a,a7 .i64 d] [] (.tup [d9 (dg (val a / d).toNat),a7 .i64 (val a % d)]) []:=by
 have l1:(a.map e7).length=a.length:=by simp
 (refine ac Tryz.func264 ?_;(conv=>whnf);repeat (refine zy ?_;conv=>whnf))
 repeat' (first|refine zz ?_|refine a3y (by omega) (by omega) (by omega) (by decide) ?_|refine zd ?_ ?_<;>intro h<;>try omega|refine zy ?_|fail)<;>conv=>whnf
 refine k5 c8 (σ:=Nat × List Int × Int) (fun|(j,out,r)=>([d9 a,a7 .i64 d,J,J,J,J,a0G 0 out,a7 .i64 r,a7 .i64 ((j:Int) - 1),J,J,J,J,J,J,J,J,J,J,J,J,J,J,J,J,J,J,J,J,J,J,J,J,J,J,J,J,J],[o5 out])) (fun x=>a06 a d x.1 x.2.1 x.2.2) (fun x=>x.1) (a.length,List.replicate a.length 0,0) [some 0]
  (a06.init a hd) ⟨rfl,rfl,⟨a8 rfl rfl rfl ?_ rfl,trivial⟩,⟨g7 rfl,rfl,j8 rfl (by simp),rfl,c6 (by simp),trivial⟩⟩ ?_
 ·show List.replicate _ _=_
  simp [toC,e7,C4]
 rintro ⟨j,out,r⟩ hI
 have hI:a06 a d j out r:=hI
 have hlen:=hI.len
 have hle:=hI.le
 have hr0:=hI.r0
 have hr1:=hI.r1
 have hda:=ha.dat (j - 1)
 conv=>whnf
 repeat' (first|refine zz ?_|refine p9 (by omega) (a1n (by omega) hle) ?_|refine a0l (by omega) (by show _<((out.length:Nat):Int);omega) ?_|refine n7 (b1w (by omega) (by omega)) ?_|refine ⟨by decide,_,b37 (by omega) (by omega),?_⟩|refine ⟨_,b80 (by omega) (by omega) (by omega) (by omega),?_⟩|refine ⟨by omega,_,b3Y (by omega) (by omega) (by omega),?_⟩|refine ah5 (by omega) ?_|refine zd ?_ ?_<;>intro h<;>try omega|refine zy ?_|fail)<;>conv=>whnf
 ·obtain ⟨j,rfl⟩:∃i,j=i+1:=⟨j - 1,by omega⟩
  simp only [Nat.add_sub_cancel] at *
  have hst:=hI.step ha hd
  rw [← Int.tmod_eq_emod_of_nonneg (by omega)] at hst
  refine ⟨[some 0],(j,out.set j ((r*1048576+dat a j) / d),(r*1048576+dat a j).tmod d),⟨rfl,rfl,⟨a8 rfl rfl rfl (K2 (by omega)) rfl,trivial⟩,⟨rfl,rfl,j8 rfl (by simp),rfl,c6 (by omega),trivial⟩⟩,hst,?_⟩
  show j<j+1
  omega
 ·have hj:j=0:=by omega
  subst hj
  obtain ⟨hf,hr⟩:=hI.fin ha hd
  have t:=a37 out (by omega)
  rw [hf] at t
  refine .inr ⟨_,_,u7 [0] t ⟨a0I (s8 (by simp) rfl (by intro h;cases h) rfl rfl (by simp)),trivial⟩ rfl,?_⟩
  conv=>whnf
  repeat' (first|refine zz ?_|refine zd ?_ ?_<;>intro h<;>try omega|refine zy ?_|fail)<;>conv=>whnf
  exact j2 ⟨rfl,c6 hr,trivial⟩
theorem aZ4 {pre out post:List Int} {k:Nat} (h:k<out.length):(pre++out++post)[pre.length+(k:Int).toNat]? =some (dat out k):=by
 rw [List.append_assoc,List.getElem?_append_right (by omega),show pre.length+(k:Int).toNat - pre.length=k by omega,List.getElem?_append_left h]
 exact s7 h
theorem a6G {pre out post:List Int} {k:Nat} {v:Int} (h:k<out.length):(toC ((pre++out++post).map e7)).set (pre.length+(k:Int).toNat) [C.t (ti v)]=toC ((pre++out.set k v++post).map e7):=by
 have e:(pre++out++post).set (pre.length+k) v=pre++out.set k v++post:=by
  rw [List.append_assoc,List.set_append_right _ _ (by omega),show pre.length+k - pre.length=k by omega,List.set_append_left _ _ h,List.append_assoc]
 rw [← e]
 show (toC ((pre++out++post).map e7)).set (pre.length+k) _=_
 simp [toC,e7,List.map_set]
def U1 (w v g:Int):Int:=if g*v<=w then g else g - 1
theorem b3c (pre w post v:List Int) (g:Int) (hw:Okd w) (hv:Okd v) (lw:w.length<=1000000) (lv:v.length<=w.length) (hg:0<=g∧g<1048576) (hgv:g*val v<=val w+val v):
 a9 Tryz.prog 267 [.c (.own 0 pre.length w.length false),d9 v,a7 .i64 g] [o5 (pre++w++post)] (a7 .i64 (U1 (val w) (val v) g))
  [o5 (pre++a01 w.length (dg (val w - U1 (val w) (val v) g*val v).toNat)++post)]:=by
 have l1:(v.map e7).length=v.length:=by simp
 (refine ac Tryz.func267 ?_;(conv=>whnf);repeat (refine zy ?_;conv=>whnf))
 repeat' (first|refine zz ?_|refine zd ?_ ?_<;>intro h<;>try omega|refine zy ?_|fail)<;>conv=>whnf
 refine k5 c8 (σ:=Nat × List Int × Int) (fun|(k,out,c)=>([S.c (C.own 0 pre.length w.length false),d9 v,a7 .i64 g,J,J,J,J,a7 .i64 c,J,J,J,J,J,a7 .i64 w.length,a7 .i64 k,J,J,J,J,J,J,J,J,J,J,J,J,J,J,J,J,J,J,J,J,J,J,J,J,J,J,J,J,J,J,J,J,J,J,J,J,J,J,J,J,J,J,J,J,J,J,J,J,J,J,J,J,J,J,J,J,J,J,J,J,J,J,J],[o5 (pre++out++post)])) (fun x=>a8n w v g x.1 x.2.1 x.2.2) (fun x=>w.length - x.1) (0,w,0) [some 0]
  (a8n.init g hw) ⟨rfl,rfl,⟨a8 rfl rfl rfl rfl rfl,trivial⟩,⟨⟨rfl,rfl,rfl,fun h=>h⟩,g7 rfl,rfl,rfl,rfl,rfl,trivial⟩⟩ ?_
 rintro ⟨k,out,c⟩ hI
 have hI:a8n w v g k out c:=hI
 have hlen:=hI.len
 have hle:=hI.le
 have hc0:=hI.c0
 have hc1:=hI.c1
 have hdo:=hI.ok.dat k
 have hm:=a2W hg (hv.dat k)
 conv=>whnf
 repeat' (first|refine zz ?_|refine b9 (s7 (by omega)) ?_|refine n7 (aZ4 (by omega)) ?_|refine ⟨_,av0.ok (by first|exact a5r|exact a98) _,?_⟩|refine ⟨by decide,_,aa2 _,?_⟩|refine zd ?_ ?_<;>intro h<;>try omega|refine zy ?_|fail)<;>conv=>whnf
 ·have hst:=hI.step hv hg (by omega)
  refine ⟨[some 0],(k+1,out.set k ((dat out k - c - g*dat v k) % 1048576),-((dat out k - c - g*dat v k) / 1048576)),⟨rfl,rfl,⟨a8 rfl rfl rfl (a6G (by omega)) rfl,trivial⟩,⟨⟨rfl,rfl,rfl,fun h=>h⟩,rfl,rfl,c6 (Int.zero_sub _),rfl,c6 (by omega),trivial⟩⟩,hst,?_⟩
  show w.length - (k+1)<w.length - k
  omega
 ·have hst:=hI.step hv hg (by omega)
  rw [O1 (l:=v) (i:=k) (by omega),Int.mul_zero,Int.sub_zero] at hst
  refine ⟨[some 0],(k+1,out.set k ((dat out k - c) % 1048576),-((dat out k - c) / 1048576)),⟨rfl,rfl,⟨a8 rfl rfl rfl (a6G (by omega)) rfl,trivial⟩,⟨⟨rfl,rfl,rfl,fun h=>h⟩,rfl,rfl,c6 (Int.zero_sub _),rfl,c6 (by omega),trivial⟩⟩,hst,?_⟩
  show w.length - (k+1)<w.length - k
  omega
 ·have hk:k=w.length:=by omega
  subst hk
  have hc:c=0:=by assumption
  obtain ⟨h1,h2⟩:=hI.zero lv hw hv hg.1
  have hq:U1 (val w) (val v) g=g:=by unfold U1;rw [if_pos (h1.1 hc)]
  rw [hq,←h2 hc,←aY6 hI.ok hlen]
  exact ⟨⟨[some 0],rfl,rfl,⟨a8 rfl rfl rfl rfl rfl,trivial⟩,rfl⟩⟩
 ·have hk:k=w.length:=by omega
  subst hk
  have hc:¬c=0:=by assumption
  obtain ⟨h1,h2⟩:=hI.zero lv hw hv hg.1
  have hlt:¬g*val v<=val w:=fun h=>hc (h1.2 h)
  have hq:U1 (val w) (val v) g=g - 1:=by unfold U1;rw [if_neg hlt]
  have hvl:=V3 hv
  have hpw:=a0S lv
  rw [hq]
  refine k5 c8 (σ:=Nat × List Int × Int) (fun|(k,o,c)=>([S.c (C.own 0 pre.length w.length false),d9 v,a7 .i64 g,J,J,J,J,J,J,J,a7 .i64 c,J,J,J,J,J,J,J,J,J,J,J,J,J,J,J,J,J,J,J,J,J,J,J,J,J,J,J,J,J,J,J,J,J,J,J,J,J,a7 .i64 w.length,a7 .i64 k,J,J,J,J,J,J,J,J,J,J,J,J,J,J,J,J,J,J,J,J,J,J,J,J,J,J,J,J],[o5 (pre++o++post)])) (fun x=>a60 out v x.1 x.2.1 x.2.2) (fun x=>w.length - x.1) (0,out,0) [some 0]
   (a60.init hI.ok) ⟨rfl,rfl,⟨a8 rfl rfl rfl rfl rfl,trivial⟩,⟨⟨rfl,rfl,rfl,fun h=>h⟩,g7 rfl,rfl,rfl,rfl,rfl,trivial⟩⟩ ?_
  rintro ⟨k,o,c'⟩ hB
  have hB:a60 out v k o c':=hB
  have hlen2:=hB.len
  have hle2:=hB.le
  have hb0:=hB.c0
  have hb1:=hB.c1
  have hdo:=hB.ok.dat k
  have hdv:=hv.dat k
  conv=>whnf
  repeat' (first|refine zz ?_|refine b9 (s7 (by omega)) ?_|refine n7 (aZ4 (by omega)) ?_|refine ⟨_,av0.ok (by first|exact a5r|exact a98) _,?_⟩|refine ⟨by decide,_,aa2 _,?_⟩|refine zd ?_ ?_<;>intro h<;>try omega|refine zy ?_|fail)<;>conv=>whnf
  ·have hst:=hB.step hv (by omega)
   refine ⟨[some 0],(k+1,o.set k ((c'+dat o k+dat v k) % 1048576),(c'+dat o k+dat v k) / 1048576),⟨rfl,rfl,⟨a8 rfl rfl rfl (a6G (by omega)) rfl,trivial⟩,⟨⟨rfl,rfl,rfl,fun h=>h⟩,rfl,rfl,rfl,rfl,c6 (by omega),trivial⟩⟩,hst,?_⟩
   show w.length - (k+1)<w.length - k
   omega
  ·have hst:=hB.step hv (by omega)
   rw [O1 (l:=v) (i:=k) (by omega),Int.add_zero] at hst
   refine ⟨[some 0],(k+1,o.set k ((c'+dat o k) % 1048576),(c'+dat o k) / 1048576),⟨rfl,rfl,⟨a8 rfl rfl rfl (a6G (by omega)) rfl,trivial⟩,⟨⟨rfl,rfl,rfl,fun h=>h⟩,rfl,rfl,rfl,rfl,c6 (by omega),trivial⟩⟩,hst,?_⟩
   show w.length - (k+1)<w.length - k
   omega
  ·have hk:k=w.length:=by omega
   subst hk
   have e:=hI.back hB lv (by omega) (by omega)
   have e2:val w - (g - 1)*val v=val w - g*val v+val v:=by rw [Int.sub_mul];omega
   rw [e2,←e,←aY6 hB.ok (by omega)]
   exact ⟨⟨[some 0],rfl,rfl,⟨a8 rfl rfl rfl rfl rfl,trivial⟩,rfl⟩⟩
abbrev aK5 (m n:Nat):S:=.tup [d9 (dg (m / n)),d9 (dg (m % n))]
theorem b6P (m n:Nat) (hn:0<n) (h:m<n) (lm:(dg m).length<=400000) (ln:(dg n).length<=400000):
 a9 Tryz.prog 208 [d9 (dg m),d9 (dg n)] [] (aK5 m n) []:=by
 have c:=a2s (dg m) (dg n) (a1e m) (a1e n) (by omega) (by omega)
 rw [k6,k6,a2Q (by omega)] at c
 have e1:m / n=0:=Nat.div_eq_of_lt h
 have e2:m % n=m:=Nat.mod_eq_of_lt h
 unfold aK5
 rw [e1,e2,U0]
 (refine ac Tryz.func208 ?_;(conv=>whnf);repeat (refine zy ?_;conv=>whnf))
 repeat' (first|refine zz ?_|refine qp c ?_|refine qp (a8w _ (by omega)) ?_|refine zd ?_ ?_<;>intro h<;>try omega|refine zy ?_|fail)<;>conv=>whnf
 exact j2 ⟨rfl,rfl,trivial⟩
theorem b7q (m n:Nat) (hn:0<n) (h:n<=m) (hl:(dg n).length=1) (lm:(dg m).length<=400000):
 a9 Tryz.prog 208 [d9 (dg m),d9 (dg n)] [] (aK5 m n) []:=by
 have l2:((dg n).map e7).length=(dg n).length:=by simp
 have c:=a2s (dg m) (dg n) (a1e m) (a1e n) (by omega) (by omega)
 rw [k6,k6] at c
 have hc:0<=L8 m n:=by unfold L8;split<;>(try split)<;>omega
 have hn2:=L3 n
 rw [hl] at hn2
 have hn3:(n:Int)<1048576:=by simpa [pw] using hn2
 have hd:dg n=[(n:Int)]:=by
  rw [a5E hn,show n / 1048576=0 by omega,show n % 1048576=n by omega];rfl
 have sh:=aV3 (dg m) n (p7 m) (by omega) (by omega) hn3
 rw [k6] at sh
 have e1:((m:Int) / n).toNat=m / n:=by rw [← Int.natCast_ediv];rfl
 have e2:(m:Int) % n=((m % n:Nat):Int):=by simp
 rw [e1,e2] at sh
 have hr:m % n<n:=Nat.mod_lt _ hn
 have t:=a37 [((m % n:Nat):Int)] (by simp)
 rw [J3 (by intro x hx;simp at hx;omega)] at t
 have e3:(val [((m % n:Nat):Int)]).toNat=m % n:=by simp only [val];omega
 rw [e3] at t
 (refine ac Tryz.func208 ?_;(conv=>whnf);repeat (refine zy ?_;conv=>whnf))
 repeat' (first|refine zz ?_|refine qp c ?_|refine qp sh ?_|refine qp hd ?_|refine p9 (x:=(n:Int)) (by omega) (by rw [hd];rfl) ?_|refine .inl ⟨_,_,a04 t ⟨a0I (aC4 rfl),trivial⟩ rfl,?_⟩|refine zd ?_ ?_<;>intro h<;>try omega|refine zy ?_|fail)<;>conv=>whnf
 all_goals (first|omega|exact j2 ⟨rfl,rfl,trivial⟩)
theorem b6T {n k:Nat} {top:Int} (hn:0<n) (ht:dat (dg n) ((dg n).length - 1)=top) (hk:k<=19) (h1:top*2 ^ k<1048576) (h2:¬top*2 ^ k<524288):
 (dg (n*2 ^ k)).length=(dg n).length∧524288<=dat (dg (n*2 ^ k)) ((dg n).length - 1):=by
 have hl:(dg n).length≠0:=by rw [Ne,List.length_eq_zero_iff,O7];omega
 obtain ⟨l,hl'⟩:∃l,(dg n).length=l+1:=⟨(dg n).length - 1,by omega⟩
 rw [hl',Nat.add_sub_cancel] at ht ⊢
 have e1:=o8 (dg n) l
 rw [lg4 (by omega),k6,ht] at e1
 have a1:=t8 ((p7 n).take l)
 have a2:=V3 ((p7 n).take l)
 rw [List.length_take,Nat.min_eq_left (by omega)] at a2
 have t0:=(p7 n).dat l
 rw [ht] at t0
 obtain ⟨T,rfl⟩:=Int.eq_ofNat_of_zero_le t0.1
 have hp:(0:Int)<2 ^ k:=Int.pow_pos (by decide)
 have hpp:=P2 l
 have e2:(2:Int) ^ k*2 ^ (20 - k)=1048576:=by rw [← Int.pow_add,show k+(20 - k)=20 by omega];rfl
 have h3:(T:Int)<2 ^ (20 - k):=by
  refine Int.lt_of_mul_lt_mul_left (a:=(2:Int) ^ k) ?_ (Int.le_of_lt hp)
  rw [e2,Int.mul_comm];exact h1
 have h4:((T:Int)+1)*2 ^ k<=1048576:=by
  have:=Int.mul_le_mul_of_nonneg_left (a:=(T:Int)+1) (b:=2 ^ (20 - k)) (c:=2 ^ k) (by omega) (Int.le_of_lt hp)
  rw [e2,Int.mul_comm] at this;exact this
 have hV:(((n*2 ^ k:Nat)):Int)=n*2 ^ k:=by simp
 have h5:((n*2 ^ k:Nat):Int)<pw (l+1):=by
  rw [hV,F0]
  have b1:(n:Int)+1<=pw l*(T+1):=by rw [Int.mul_add];omega
  have b2:=Int.mul_le_mul_of_nonneg_right (c:=(2:Int) ^ k) b1 (Int.le_of_lt hp)
  have b3:=Int.mul_le_mul_of_nonneg_left (c:=pw l) h4 (Int.le_of_lt hpp)
  rw [← Int.mul_assoc] at b3
  rw [Int.add_mul] at b2
  omega
 have h6:pw l*524288<=((n*2 ^ k:Nat):Int):=by
  rw [hV]
  have b1:pw l*T<=(n:Int):=by omega
  have b2:=Int.mul_le_mul_of_nonneg_right (c:=(2:Int) ^ k) b1 (Int.le_of_lt hp)
  have b3:=Int.mul_le_mul_of_nonneg_left (a:=524288) (b:=(T:Int)*2 ^ k) (c:=pw l) (by omega) (Int.le_of_lt hpp)
  rw [← Int.mul_assoc] at b3
  omega
 have h7:(dg (n*2 ^ k)).length=l+1:=by
  have c1:=N1 h5
  rcases Nat.lt_or_ge (dg (n*2 ^ k)).length (l+1) with c2|c2
  ·have c3:=L3 (n*2 ^ k)
   have c4:=a0S (show (dg (n*2 ^ k)).length<=l by omega)
   omega
  ·omega
 refine ⟨h7,?_⟩
 have f1:=o8 (dg (n*2 ^ k)) l
 rw [lg4 (by omega),k6] at f1
 have f2:=V3 ((p7 (n*2 ^ k)).take l)
 rw [List.length_take,Nat.min_eq_left (by omega)] at f2
 rcases Int.lt_or_le (dat (dg (n*2 ^ k)) l) 524288 with c|c
 ·exfalso
  have:=Int.mul_le_mul_of_nonneg_left (a:=dat (dg (n*2 ^ k)) l+1) (b:=524288) (c:=pw l) (by omega) (Int.le_of_lt hpp)
  rw [Int.mul_add] at this
  omega
 ·exact c
theorem b2S {a a' b b':Nat} {x y:S} (h1:a=a') (h2:b=b'):[S.c (.own 0 a b false),x,y]=[S.c (.own 0 a' b' false),x,y]:=by rw [h1,h2]
theorem aM2 {V W v1 top g r:Int} (hG:W7 V W v1 top g r) (hV:0<V) (hW:0<=W) (h1:g<1048576) (h2:g*V<=W+V):
 0<=U1 W V g∧U1 W V g<1048576∧0<=W - U1 W V g*V∧W - U1 W V g*V<V:=by
 have h3:=hG.hi
 have h4:=hG.g0
 rw [Int.add_mul,Int.one_mul] at h3
 unfold U1
 by_cases hc:g*V<=W
 ·rw [if_pos hc];omega
 ·rw [if_neg hc,Int.sub_mul,Int.one_mul]
  have:g≠0:=by rintro rfl;simp at hc;omega
  omega
set_option maxHeartbeats 4000000 in
theorem b7r (m n:Nat) (hn:0<n) (hmn:n<=m) (hl:2<=(dg n).length) (lm:(dg m).length<=300000) (ln:(dg n).length<=300000):
 a9 Tryz.prog 208 [d9 (dg m),d9 (dg n)] [] (aK5 m n) []:=by
 have l1:((dg m).map e7).length=(dg m).length:=by simp
 have l2:((dg n).map e7).length=(dg n).length:=by simp
 have c:=a2s (dg m) (dg n) (a1e m) (a1e n) (by omega) (by omega)
 rw [k6,k6] at c
 have hc:0<=L8 m n:=by unfold L8;split<;>(try split)<;>omega
 have ht0:=(p7 n).dat ((dg n).length - 1)
 have ht1:dat (dg n) ((dg n).length - 1)≠0:=(a1e n).2 _ (s7 (by omega))
 generalize htop:dat (dg n) ((dg n).length - 1)=top at ht0 ht1
 (refine ac Tryz.func208 ?_;(conv=>whnf);repeat (refine zy ?_;conv=>whnf))
 repeat' (first|refine zz ?_|refine qp c ?_|refine zd ?_ ?_<;>intro h<;>try omega|refine zy ?_|fail)<;>conv=>whnf
 refine k5 c8 (σ:=Nat) (fun k=>([d9 (dg m),d9 (dg n),J,J,J,J,J,J,a7 .i64 (2 ^ k),J,J,J,J,J,J,J,J,J,J,J,J,J,J,J,J,J,J,J,J,J,J,J,J,J,J,J,J,J,J,J,J,J,J,J,J,J,J,J,J,J,J,J,J,J,J,J,J,J,J,J,J,J,J,J,J,J,J,J,J,J,J,J,J,J,J,J,J,J,J,J,J,J,J,J,J,J,J,J,J,J,J,J,J,J,J,J,J,J,J,J,J,J,J,J,J,J,J,J,J,J,J,J,J,J,J,J,J,J,J,J,J,J,J,J,J,J,J,J,J,J,J,J,J,J,J,J,J,J,J,J,J,J,J,J,J,J,J,J,J,J,J,J,J,J,J,J,J,J,J,J,J,J,J,J,J,J,J,J,J,J],[])) (fun k=>k<=19∧top*2 ^ k<1048576) (fun k=>20 - k) 0 []
  ⟨by omega,by omega⟩ ⟨rfl,rfl,trivial,⟨g7 rfl,g7 rfl,rfl,trivial⟩⟩ ?_
 rintro k ⟨hk1,hk2⟩
 have hk1:k<=19:=hk1
 have hk2:top*2 ^ k<1048576:=hk2
 have hp0:(0:Int)<2 ^ k:=Int.pow_pos (by decide)
 have hpt:0<top*2 ^ k:=Int.mul_pos (by omega) hp0
 have hpk:(2:Int) ^ k<=524288:=by
  have:=Nat.pow_le_pow_right (n:=2) (by decide) hk1
  have e:((2 ^ k:Nat):Int)=2 ^ k:=by simp
  omega
 have hgl:(dg n)[(((((dg n).map e7).length:Nat):Int) - 1).toNat]? =some top:=by rw [l2,←htop];exact a6p (by omega)
 conv=>whnf
 repeat' (first|refine zz ?_|refine p9 (by omega) hgl ?_|refine zd ?_ ?_<;>intro h<;>try omega|refine zy ?_|fail)<;>conv=>whnf
 ·have hlt:top*2 ^ k<524288:=by omega
  refine ⟨[],k+1,⟨rfl,rfl,trivial,⟨rfl,rfl,c6 (Int.pow_succ _ _).symm,trivial⟩⟩,⟨?_,?_⟩,?_⟩
  ·rcases Nat.lt_or_ge k 19 with h1|h1
   ·exact h1
   ·have:k=19:=by omega
    subst this
    omega
  ·rw [Int.pow_succ,←Int.mul_assoc];omega
  ·show 20 - (k+1)<20 - k
   omega
 ·have hsh:Okd [(2:Int) ^ k]:=by intro x hx;simp at hx;omega
  have mu:=b87 (dg m) [2 ^ k] (p7 m) hsh (by omega) (by simp)
  have mv:=b6A (dg n) [2 ^ k] (p7 n) hsh (by omega) (by simp)
  have ev:val [(2:Int) ^ k]=2 ^ k:=by simp [val]
  rw [ev,k6] at mu mv
  generalize hU:((m:Int)*2 ^ k).toNat=U at mu
  generalize hV:((n:Int)*2 ^ k).toNat=V at mv
  refine .inr ⟨_,_,al4 (aU7 mu ⟨ae2,a0I (aC4 rfl),trivial⟩) rfl rfl rfl rfl,?_⟩
  conv=>whnf
  have hVe:V=n*2 ^ k:=by
   have e:((n:Int)*2 ^ k)=((n*2 ^ k:Nat):Int):=by simp
   rw [← hV,e];exact Int.toNat_natCast _
  have hUe:U=m*2 ^ k:=by
   have e:((m:Int)*2 ^ k)=((m*2 ^ k:Nat):Int):=by simp
   rw [← hU,e];exact Int.toNat_natCast _
  obtain ⟨lV,hvt⟩:=b6T hn htop hk1 hk2 h
  rw [← hVe] at lV hvt
  have hp1:0<2 ^ k:=Nat.pow_pos (by decide)
  have lU3:(dg m).length<=(dg U).length:=m9 (by rw [hUe];exact Nat.le_mul_of_pos_right m hp1)
  have lU2:(dg U).length<=(dg m).length+1:=N1 (by
   have h1:=L3 m
   rw [F0,hUe]
   have h2:=Int.mul_le_mul_of_nonneg_left (a:=2 ^ k) (b:=1048576) (c:=(m:Int)+1) (by omega) (by omega)
   have h3:(((m*2 ^ k:Nat)):Int)=m*2 ^ k:=by simp
   rw [Int.add_mul] at h2
   omega)
  have lU1:(a01 ((dg m).length+[(2:Int) ^ k].length) (dg U)).length<=300001:=by rw [af7 (by simpa using lU2)];simp;omega
  have l3:((dg V).map e7).length=(dg V).length:=by simp
  have lmn:(dg n).length<=(dg m).length:=m9 hmn
  have l4:(toC [[T.atm (Value.int .i64 0)]]).length=1:=rfl
  repeat' (first|refine zz ?_|refine qp (toC,a01) ?_|refine qp toC ?_|refine o6 (by simp [toC,a01]) (by simp [toC];omega) ?_|refine .inl ⟨_,_,a04 mv ⟨ae2,a0I (aC4 rfl),trivial⟩ rfl,?_⟩|refine a3y (by omega) (by omega) (by omega) (by decide) ?_|refine zd ?_ ?_<;>intro h<;>try omega|refine zy ?_|fail)<;>conv=>whnf
  have hV0:0<V:=by rw [hVe];exact Nat.mul_pos hn hp1
  refine k5 c8 (σ:=Nat × List Int × List Int) (fun|(j,u,q)=>([J,J,J,J,J,J,J,J,a7 .i64 (2 ^ k),a0G 0 u,d9 (dg V),a7 .i64 (dg V).length,a0G 1 q,a7 .i64 ((j:Int) - 1),J,J,J,J,J,J,J,J,J,J,J,J,J,J,J,J,J,J,J,J,J,J,J,J,J,J,J,J,J,J,J,J,J,J,J,J,J,J,J,J,J,J,J,J,J,J,J,J,J,J,J,J,J,J,J,J,J,J,J,J,J,J,J,J,J,J,J,J,J,J,J,J,J,J,J,J,J,J,J,J,J,J,J,J,J,J,J,J,J,J,J,J,J,J,J,J,J,J,J,J,J,J,J,J,J,J,J,J,J,J,J,J,J,J,J,J,J,J,J,J,J,J,J,J,J,J,J,J,J,J,J,J,J,J,J,J,J,J,J,J,J,J,J,J,J,J,J,J,J,J,J,J,J,J,J,J],[o5 u,o5 q])) (fun x=>a8s U V ((dg U).length+1) (dg V).length x.1 x.2.1 x.2.2) (fun x=>x.1)
   ((dg U).length+1 - (dg V).length,dg U++[0],List.replicate ((dg U).length+1 - (dg V).length) 0) [some 1,some 2]
   (a8s.init hV0 (by omega)) ⟨rfl,rfl,⟨a8 rfl rfl rfl ?_ rfl,a8 rfl rfl rfl ?_ rfl,trivial⟩,⟨rfl,j8 rfl ?_,g7 rfl,c6 (by omega),j8 rfl ?_,c6 ?_,trivial⟩⟩ ?_
  ·simp [toC,E3,a01,List.map_append,List.take_append,e7]
  ·show List.replicate _ _=_
   simp [toC,e7,C4]
  ·simp [toC]
  ·simp [toC]
  ·simp [toC]
  rintro ⟨j,u,q⟩ hD
  have hD:a8s U V ((dg U).length+1) (dg V).length j u q:=hD
  have hlu:=hD.lu
  have hlq:=hD.lq
  have hle:=hD.le
  have hdt:0<j->dat u (j - 1+(dg V).length)=dat u (j - 1+(dg V).length):=fun _=>rfl
  have gu0:0<j->u[0+(((j:Int) - 1)+(dg V).length).toNat]? =some (dat u (j - 1+(dg V).length)):=fun h=>L9 (by omega) (by omega)
  have gu1:0<j->u[0+(((j:Int) - 1)+(dg V).length - 1).toNat]? =some (dat u (j - 1+(dg V).length - 1)):=fun h=>L9 (by omega) (by omega)
  have d0:=hD.oku.dat (j - 1+(dg V).length)
  have d1:=hD.oku.dat (j - 1+(dg V).length - 1)
  have dv:=(p7 V).dat ((dg V).length - 1)
  have hvt2:524288<=dat (dg V) ((dg V).length - 1):=by rw [lV];exact hvt
  conv=>whnf
  repeat' (first|refine zz ?_|refine a0l (by omega) (by show _<((u.length:Nat):Int);omega) ?_|refine n7 (gu0 (by omega)) ?_|refine n7 (gu1 (by omega)) ?_|refine ⟨by decide,_,b37 (by omega) (by omega),?_⟩|refine ⟨_,b80 (by omega) (by omega) (by omega) (by omega),?_⟩|refine p9 (by omega) (a6p (by omega)) ?_|refine ⟨by omega,_,b3Y (by omega) (by omega) (by omega),?_⟩|refine ah5 (by omega) ?_|refine zd ?_ ?_<;>intro h<;>try omega|refine zy ?_|fail)<;>conv=>whnf
  ·have hj:0<j:=by omega
   obtain ⟨i,rfl⟩:∃i,j=i+1:=⟨j - 1,by omega⟩
   simp only [Nat.add_sub_cancel] at *
   obtain ⟨L,hL⟩:∃L,(dg V).length=L+2:=⟨(dg V).length - 2,by omega⟩
   obtain ⟨w3,w2,w0,wv,wz,wlt⟩:=hD.window rfl
   generalize hw:(u.drop i).take ((dg V).length+1)=w at w3 w2 wv wlt
   have hwo:Okd w:=by rw [← hw];exact (hD.oku.drop i).take _
   have dw:∀t,t<=(dg V).length->dat w t=dat u (i+t):=fun t ht=>by
    rw [← hw];unfold dat
    rw [lg3,List.getElem?_take,if_pos (by omega),List.getElem?_drop,←lg3]
   have win:=Win.of (p7 V) hwo hL (by omega) (by rw [hL] at hvt2;exact hvt2) (by rw [k6];exact wlt)
   rw [dw (L+2) (by omega),dw (L+1) (by omega),dw L (by omega),k6] at win
   have eL1:(dg V).length - 1=L+1:=by omega
   have eu0:i+(L+2)=i+(dg V).length:=by omega
   have eu1:i+(L+1)=i+(dg V).length - 1:=by omega
   rw [eu0,eu1] at win
   generalize ht:dat u (i+(dg V).length)*1048576+dat u (i+(dg V).length - 1)=top2 at win
   have win':=win
   have ht0:=win.t0
   refine k5 c8 (σ:=Int × Int) (fun|(g,r)=>([J,J,J,J,J,J,J,J,a7 .i64 (2 ^ k),a0G 0 u,d9 (dg V),a7 .i64 (dg V).length,a0G 1 q,a7 .i64 i,J,a7 .i64 g,a7 .i64 r,J,J,J,J,J,J,J,J,J,J,J,J,J,J,J,J,J,J,J,J,J,J,J,J,J,J,J,J,J,J,J,J,J,J,J,J,J,J,J,J,J,J,J,J,J,J,J,J,J,J,J,J,J,J,J,J,J,J,J,J,J,J,J,J,J,J,J,J,J,J,J,J,J,J,J,J,J,J,J,J,J,J,J,J,J,J,J,J,J,J,J,J,J,J,J,J,J,J,J,J,J,J,J,J,J,J,J,J,J,J,J,J,J,J,J,J,J,J,J,J,J,J,J,J,J,J,J,J,J,J,J,J,J,J,J,J,J,J,J,J,J,J,J,J,J,J,J,J,J,J,J,J,J],[o5 u,o5 q])) (fun x=>W7 V (val w) (dat (dg V) (L+1)) top2 x.1 x.2) (fun x=>x.1.toNat)
    (top2 / dat (dg V) (L+1),top2 % dat (dg V) (L+1)) [some 0,some 1]
    (W7.init win) ⟨rfl,rfl,⟨a8 rfl rfl rfl rfl rfl,a8 rfl rfl rfl rfl rfl,trivial⟩,⟨rfl,j8 rfl rfl,g7 rfl,rfl,j8 rfl rfl,c6 (by omega),c6 ?_,c6 ?_,trivial⟩⟩ ?_
   ·rw [eL1]
   ·rw [eL1,Int.tmod_eq_emod_of_nonneg ht0]
   rintro ⟨g,r⟩ hG
   have hG:W7 V (val w) (dat (dg V) (L+1)) top2 g r:=hG
   have hg0:=hG.g0
   have hgu:=hG.gu
   have hr0:=hG.r0
   have hru:=hG.ru
   have dv2:=(p7 V).dat L
   have dv1:=(p7 V).dat (L+1)
   have du2:=hD.oku.dat (i+L)
   have hgm:0<=g*dat (dg V) L∧g*dat (dg V) L<=2097152*1048576:=⟨Int.mul_nonneg hg0 dv2.1,Int.mul_le_mul hgu (by omega) dv2.1 (by omega)⟩
   have gv2:(dg V)[((((dg V).length:Nat):Int) - 2).toNat]? =some (dat (dg V) L):=by rw [show ((((dg V).length:Nat):Int) - 2).toNat=L by omega];exact s7 (by omega)
   have gv1:(dg V)[((((dg V).length:Nat):Int) - 1).toNat]? =some (dat (dg V) (L+1)):=by rw [show ((((dg V).length:Nat):Int) - 1).toNat=L+1 by omega];exact s7 (by omega)
   have gu2:u[0+((i:Int)+((dg V).length:Nat) - 2).toNat]? =some (dat u (i+L)):=L9 (by omega) (by omega)
   conv=>whnf
   repeat' (first|refine zz ?_|refine a0l (by omega) (by show _<((u.length:Nat):Int);omega) ?_|refine p9 (by omega) gv2 ?_|refine p9 (by omega) gv1 ?_|refine n7 gu2 ?_|refine ⟨by decide,_,b37 (by omega) (by omega),?_⟩|refine ⟨_,b80 (by omega) (by omega) (by omega) (by omega),?_⟩|refine T0 (by omega) (by omega) (by show _<=((u.length:Nat):Int);omega) ?_|refine zd ?_ ?_<;>intro h<;>try omega|refine zy ?_|fail)<;>conv=>whnf
   ·have hgc:1048576<=g:=by omega
    have hst:=W7.step win hG (.inl hgc) (t8 hwo)
    exact ⟨[some 0,some 1],(g - 1,r+dat (dg V) (L+1)),⟨rfl,rfl,⟨a8 rfl rfl rfl rfl rfl,a8 rfl rfl rfl rfl rfl,trivial⟩,⟨rfl,j8 rfl rfl,rfl,rfl,j8 rfl rfl,rfl,rfl,rfl,trivial⟩⟩,hst,by have:=hst.g0;show (g - 1).toNat<g.toNat;omega⟩
   ·have hgc:r<1048576∧r*1048576+dat u (i+L)<g*dat (dg V) L:=by omega
    have hst:=W7.step win hG (.inr hgc) (t8 hwo)
    exact ⟨[some 0,some 1],(g - 1,r+dat (dg V) (L+1)),⟨rfl,rfl,⟨a8 rfl rfl rfl rfl rfl,a8 rfl rfl rfl rfl rfl,trivial⟩,⟨rfl,j8 rfl rfl,rfl,rfl,j8 rfl rfl,rfl,rfl,rfl,trivial⟩⟩,hst,by have:=hst.g0;show (g - 1).toNat<g.toNat;omega⟩
   all_goals
    have hgc:¬(1048576<=g∨(r<1048576∧r*1048576+dat u (i+L)<g*dat (dg V) L)):=by omega
    obtain ⟨hg1,hgV⟩:=W7.fin win hG hgc (by
     have h1:=win.Vl
     have h3:=win.v1l
     have h2:=Int.mul_le_mul_of_nonneg_left (a:=1048576) (b:=dat (dg V) (L+1)*1048576+dat (dg V) L) (by omega) (Int.le_of_lt win.P0)
     omega)
    have st:=b3c (u.take i) w (u.drop (i+((dg V).length+1))) (dg V) g hwo (p7 V) (by omega) (by omega) ⟨hg0,hg1⟩ (by rw [k6];exact hgV)
    rw [k6] at st
    obtain ⟨q0,q1,q2,q3⟩:=aM2 hG (by omega) (t8 hwo) hg1 hgV
    have hds:=hD.step rfl hV0 ⟨q0,q1⟩ (by rw [hw];exact q2) (by rw [hw];exact q3)
    rw [hw] at hds
    generalize U1 (val w) V g=Q at st q0 q1 q2 q3 hds
    rw [← w3,w2] at st
    generalize hu':u.take i++a01 ((dg V).length+1) (dg (val w - Q*V).toNat)++u.drop (i+((dg V).length+1))=u' at st hds
    refine .inr ⟨_,_,X2 (H':=[o5 u',o5 q]) [0] st (b2S (by rw [w0];omega) (by omega)) rfl rfl (by decide) ?_ (by simp) (by simp) rfl rfl rfl ?_ ?_,?_⟩
    ·intro i k hk
     match i,hk with
     |0,hk=>
      injection hk with hk
      subst hk
      exact ⟨rfl,rfl,a35 _,_,rfl,E9 rfl⟩
    ·intro i k hk
     match i,hk with
     |0,hk=>
      injection hk with hk
      subst hk
      exact ⟨_,rfl,E9 rfl⟩
    ·intro j hj hn
     match j,hj with
     |0,_=>simp at hn
     |1,_=>rfl
    conv=>whnf
    have hlu':=hds.lu
    refine zz ?_
    conv=>whnf
    repeat' (first|refine zz ?_|refine n7 (L9 rfl (by omega)) ?_|refine zd ?_ ?_<;>intro h<;>try omega|refine zy ?_|fail)<;>conv=>whnf
    exact ⟨[some 0,some 1],(i,u',q.set i Q),⟨rfl,rfl,⟨a8 rfl rfl rfl rfl rfl,a8 rfl rfl rfl (K2 (i:=i) (n:=(i:Int)) (by simp)) rfl,trivial⟩,⟨rfl,j8 rfl (hlu.trans hlu'.symm),rfl,rfl,j8 rfl (by simp),rfl,trivial⟩⟩,hds,by show i<i+1;omega⟩
  ·have hj:j=0:=by omega
   subst hj
   obtain ⟨fq,fu⟩:=hD.fin hV0
   have tu:=a37 u (by omega)
   rw [J3 hD.oku,fu,Int.toNat_natCast] at tu
   have tq:=a37 q (by omega)
   rw [J3 hD.okq,fq,Int.toNat_natCast] at tq
   have lUV:(dg (U % V)).length<=(dg U).length:=m9 (Nat.mod_le _ _)
   have sh:=aV3 (dg (U % V)) (2 ^ k) (p7 _) (by omega) (by omega) (by omega)
   have e1:U % V / 2 ^ k=m % n:=by rw [hUe,hVe,Nat.mul_mod_mul_right,Nat.mul_div_cancel _ hp1]
   have e2:U / V=m / n:=by rw [hUe,hVe,Nat.mul_div_mul_right _ _ hp1]
   have e3:((U % V:Nat):Int) / 2 ^ k=((m % n:Nat):Int):=by rw [← e1];simp
   rw [k6,e3,Int.toNat_natCast] at sh
   rw [e2] at tq
   refine .inr ⟨_,_,u7 [0] tu ⟨a0I (s8 (by simp) rfl (by intro h;cases h) rfl rfl (by simp)),trivial⟩ rfl,?_⟩
   conv=>whnf
   repeat' (first|refine zz ?_|refine qp sh ?_|refine zd ?_ ?_<;>intro h<;>try omega|refine zy ?_|fail)<;>conv=>whnf
   refine .inr ⟨_,_,u7 [1] tq ⟨a0I (s8 (by simp) rfl (by intro h;cases h) rfl rfl (by simp)),trivial⟩ rfl,?_⟩
   conv=>whnf
   exact j2 ⟨rfl,rfl,trivial⟩
theorem b6C (m n:Nat) (hn:0<n) (lm:(dg m).length<=300000) (ln:(dg n).length<=300000):
 a9 Tryz.prog 208 [d9 (dg m),d9 (dg n)] [] (aK5 m n) []:=by
 rcases Nat.lt_or_ge m n with h|h
 ·exact b6P m n hn h (by omega) (by omega)
 ·have h1:(dg n).length≠0:=by rw [Ne,List.length_eq_zero_iff,O7];omega
  by_cases hl:(dg n).length=1
  ·exact b7q m n hn h hl (by omega)
  ·exact b7r m n hn h (by omega) lm ln
set_option maxHeartbeats 1000000
theorem b42 (m n:Nat) (lm:(dg m).length<=300000) (ln:(dg n).length<=300000):
 a9 Tryz.prog 215 [d9 (dg m),d9 (dg n)] [] (d9 (dg (m+n))) []:=by
 have h:=b9d (dg m) (dg n) (p7 m) (p7 n) (by omega) (by omega)
 rw [k6,k6,show ((m:Int)+n).toNat=m+n by omega] at h
 exact h
theorem a9r (m n:Nat) (lm:(dg m).length<=300000) (h:n<=m):
 a9 Tryz.prog 216 [d9 (dg m),d9 (dg n)] [] (d9 (dg (m - n))) []:=by
 have h:=b8l (dg m) (dg n) (p7 m) (p7 n) (by omega) (m9 h) (by rw [k6,k6];omega)
 rw [k6,k6,show ((m:Int) - n).toNat=m - n by omega] at h
 exact h
theorem b78 (m n:Nat) (lm:(dg m).length<=300000) (ln:(dg n).length<=300000):
 a9 Tryz.prog 266 [d9 (dg m),d9 (dg n)] [] (d9 (dg (m*n))) []:=by
 have h:=b6A (dg m) (dg n) (p7 m) (p7 n) (by omega) (by omega)
 rw [k6,k6,show ((m:Int)*n).toNat=m*n by rw [← Int.natCast_mul];rfl] at h
 exact h
theorem b6N (m n:Nat) (lm:(dg m).length<=300000) (ln:(dg n).length<=300000):
 a9 Tryz.prog 212 [d9 (dg m),d9 (dg n)] [] (a7 .i64 (L8 m n)) []:=by
 have h:=a2s (dg m) (dg n) (a1e m) (a1e n) (by omega) (by omega)
 rw [k6,k6] at h
 exact h
theorem v6 (s:Int) (k:Nat) (h:s=1∨s=-1∨k=0) (lk:(dg k).length<=700000):
 a9 Tryz.prog 209 [a7 .i64 s,d9 (dg k)] [] (bgS (bz (s*k))) []:=by
 have e:=aJ1 s (dg k) (by omega)
 rw [aL0 (p7 k) (by rw [k6];omega),k6] at e
 exact e
def Sg (s:Int) (m:Nat):Prop:=(s=0∧m=0)∨(s=1∧0<m)∨(s=-1∧0<m)
theorem a5d (x:Int):Sg x.sign x.natAbs:=by
 rcases C1 x with ⟨e,h1⟩|⟨e,h1⟩|⟨e,h1⟩
 ·exact .inl ⟨e,by omega⟩
 ·exact .inr (.inl ⟨e,by omega⟩)
 ·exact .inr (.inr ⟨e,by omega⟩)
theorem a6E {s:Int} {m:Nat} (h:Sg s m):bz (s*m)=⟨s,dg m⟩:=by
 rcases h with ⟨rfl,rfl⟩|⟨rfl,h⟩|⟨rfl,h⟩
 ·rfl
 ·unfold bz;rw [Int.one_mul,Int.sign_eq_one_of_pos (by omega)];rfl
 ·unfold bz;rw [Int.sign_eq_neg_one_of_neg (by omega)];congr 2;omega
theorem a14 (s:Int) (m:Nat) (h:Sg s m) (lm:(dg m).length<=300000):a9 Tryz.prog 135 [bgS ⟨s,dg m⟩] [] (d6 true) []:=by
 have:=a2l ⟨s,dg m⟩ (show (dg m).length<=1000000 by omega)
 rw [← a6E h,Y8,a6E h] at this
 exact this
theorem a5I {b b':Bg} {e:Int} {H1:Hp} (h:b=b'):Fin 0 (.tup [bgS b,a7 .i64 e]) H1 (.tup [bgS b',a7 .i64 e]) []:=by
 subst h;exact j2 ⟨⟨rfl,rfl,trivial⟩,rfl,trivial⟩
theorem E8 {a b c d:Nat} (h:a<=max b c+1) (h2:max b c+1<=d):a<=d:=Nat.le_trans h h2
theorem b79 (s t:Int) (m n:Nat) (hs:Sg s m) (ht:Sg t n) (lm:(dg m).length<=200000) (ln:(dg n).length<=200000):
 a9 Tryz.prog 142 [bgS ⟨s,dg m⟩,bgS ⟨t,dg n⟩] [] (.tup [bgS (bz (s*m+t*n)),a7 .i64 0]) []:=by
 have r1:=a14 s m hs (by omega)
 have r2:=a14 t n ht (by omega)
 have ad:=b42 m n (by omega) (by omega)
 have c:=b6N m n (by omega) (by omega)
 have ls:=a2R m n
 have fin:∀(z:Int) (H1:Hp),z=s*m+t*n->Fin 0 (.tup [bgS (if true then bz z else ⟨0,[]⟩),a7 .i64 0]) H1 (.tup [bgS (bz (s*m+t*n)),a7 .i64 0]) []:=fun z H1 h=>a5I (by rw [h];rfl)
 rcases hs with ⟨rfl,rfl⟩|⟨rfl,h1⟩|⟨rfl,h1⟩<;>rcases ht with ⟨rfl,rfl⟩|⟨rfl,h2⟩|⟨rfl,h2⟩
 case inl.inl=>
  have sg:=v6 (0) _ (by omega) (E8 ls (by omega))
  have co:=a2P (0) (0)
  (refine ac Tryz.func142 ?_;(conv=>whnf);repeat (refine zy ?_;conv=>whnf))
  repeat' (first|refine zz ?_|refine qp r1 ?_|refine qp r2 ?_|refine qp ad ?_|refine qp sg ?_|refine qp (G6 true _) ?_|refine qp co ?_|refine ⟨_,B3 (y:=0) rfl (by decide) (by decide),?_⟩|refine zd ?_ ?_<;>intro h<;>try omega|refine zy ?_|fail)<;>conv=>whnf
  all_goals first|omega|exact fin _ _ (by omega)
 case inl.inr.inl=>
  have sg:=v6 (1) _ (by omega) (E8 ls (by omega))
  have co:=a2P (0) (1)
  (refine ac Tryz.func142 ?_;(conv=>whnf);repeat (refine zy ?_;conv=>whnf))
  repeat' (first|refine zz ?_|refine qp r1 ?_|refine qp r2 ?_|refine qp ad ?_|refine qp sg ?_|refine qp (G6 true _) ?_|refine qp co ?_|refine ⟨_,B3 (y:=0) rfl (by decide) (by decide),?_⟩|refine zd ?_ ?_<;>intro h<;>try omega|refine zy ?_|fail)<;>conv=>whnf
  all_goals first|omega|exact fin _ _ (by omega)
 case inl.inr.inr=>
  have sg:=v6 (-1) _ (by omega) (E8 ls (by omega))
  have co:=a2P (0) (-1)
  (refine ac Tryz.func142 ?_;(conv=>whnf);repeat (refine zy ?_;conv=>whnf))
  repeat' (first|refine zz ?_|refine qp r1 ?_|refine qp r2 ?_|refine qp ad ?_|refine qp sg ?_|refine qp (G6 true _) ?_|refine qp co ?_|refine ⟨_,B3 (y:=0) rfl (by decide) (by decide),?_⟩|refine zd ?_ ?_<;>intro h<;>try omega|refine zy ?_|fail)<;>conv=>whnf
  all_goals first|omega|exact fin _ _ (by omega)
 case inr.inl.inl=>
  have sg:=v6 (1) _ (by omega) (E8 ls (by omega))
  have co:=a2P (1) (0)
  (refine ac Tryz.func142 ?_;(conv=>whnf);repeat (refine zy ?_;conv=>whnf))
  repeat' (first|refine zz ?_|refine qp r1 ?_|refine qp r2 ?_|refine qp ad ?_|refine qp sg ?_|refine qp (G6 true _) ?_|refine qp co ?_|refine ⟨_,B3 (y:=0) rfl (by decide) (by decide),?_⟩|refine zd ?_ ?_<;>intro h<;>try omega|refine zy ?_|fail)<;>conv=>whnf
  all_goals first|omega|exact fin _ _ (by omega)
 case inr.inr.inl=>
  have sg:=v6 (-1) _ (by omega) (E8 ls (by omega))
  have co:=a2P (-1) (0)
  (refine ac Tryz.func142 ?_;(conv=>whnf);repeat (refine zy ?_;conv=>whnf))
  repeat' (first|refine zz ?_|refine qp r1 ?_|refine qp r2 ?_|refine qp ad ?_|refine qp sg ?_|refine qp (G6 true _) ?_|refine qp co ?_|refine ⟨_,B3 (y:=0) rfl (by decide) (by decide),?_⟩|refine zd ?_ ?_<;>intro h<;>try omega|refine zy ?_|fail)<;>conv=>whnf
  all_goals first|omega|exact fin _ _ (by omega)
 case inr.inl.inr.inl=>
  have sg:=v6 (1) _ (by omega) (E8 ls (by omega))
  have co:=a2P (1) (1)
  (refine ac Tryz.func142 ?_;(conv=>whnf);repeat (refine zy ?_;conv=>whnf))
  repeat' (first|refine zz ?_|refine qp r1 ?_|refine qp r2 ?_|refine qp ad ?_|refine qp sg ?_|refine qp (G6 true _) ?_|refine qp co ?_|refine ⟨_,B3 (y:=1) rfl (by decide) (by decide),?_⟩|refine zd ?_ ?_<;>intro h<;>try omega|refine zy ?_|fail)<;>conv=>whnf
  all_goals first|omega|exact fin _ _ (by omega)
 case inr.inr.inr.inr=>
  have sg:=v6 (-1) _ (by omega) (E8 ls (by omega))
  have co:=a2P (-1) (-1)
  (refine ac Tryz.func142 ?_;(conv=>whnf);repeat (refine zy ?_;conv=>whnf))
  repeat' (first|refine zz ?_|refine qp r1 ?_|refine qp r2 ?_|refine qp ad ?_|refine qp sg ?_|refine qp (G6 true _) ?_|refine qp co ?_|refine ⟨_,B3 (y:=1) rfl (by decide) (by decide),?_⟩|refine zd ?_ ?_<;>intro h<;>try omega|refine zy ?_|fail)<;>conv=>whnf
  all_goals first|omega|exact fin _ _ (by omega)
 case inr.inl.inr.inr=>
  rcases Nat.lt_or_ge m n with hmn|hmn
  ·rw [a2Q (by omega)] at c
   have l3:=m9 (Nat.sub_le n m)
   (refine ac Tryz.func142 ?_;(conv=>whnf);repeat (refine zy ?_;conv=>whnf))
   repeat' (first|refine zz ?_|refine qp r1 ?_|refine qp r2 ?_|refine qp c ?_|refine qp (a9r n m (by omega) (by omega)) ?_|refine qp (v6 (-1) (n - m) (by omega) (by omega)) ?_|refine qp (G6 true _) ?_|refine ⟨_,B3 (y:=-1) rfl (by decide) (by decide),?_⟩|refine zd ?_ ?_<;>intro h<;>try omega|refine zy ?_|fail)<;>conv=>whnf
   all_goals first|omega|exact fin _ _ (by omega)
  ·have hc:0<=L8 m n:=by unfold L8;split<;>(try split)<;>omega
   have l3:=m9 (Nat.sub_le m n)
   (refine ac Tryz.func142 ?_;(conv=>whnf);repeat (refine zy ?_;conv=>whnf))
   repeat' (first|refine zz ?_|refine qp r1 ?_|refine qp r2 ?_|refine qp c ?_|refine qp (a9r m n (by omega) (by omega)) ?_|refine qp (v6 (1) (m - n) (by omega) (by omega)) ?_|refine qp (G6 true _) ?_|refine ⟨_,B3 (y:=-1) rfl (by decide) (by decide),?_⟩|refine zd ?_ ?_<;>intro h<;>try omega|refine zy ?_|fail)<;>conv=>whnf
   all_goals first|omega|exact fin _ _ (by omega)
 case inr.inr.inr.inl=>
  rcases Nat.lt_or_ge m n with hmn|hmn
  ·rw [a2Q (by omega)] at c
   have l3:=m9 (Nat.sub_le n m)
   (refine ac Tryz.func142 ?_;(conv=>whnf);repeat (refine zy ?_;conv=>whnf))
   repeat' (first|refine zz ?_|refine qp r1 ?_|refine qp r2 ?_|refine qp c ?_|refine qp (a9r n m (by omega) (by omega)) ?_|refine qp (v6 (1) (n - m) (by omega) (by omega)) ?_|refine qp (G6 true _) ?_|refine ⟨_,B3 (y:=-1) rfl (by decide) (by decide),?_⟩|refine zd ?_ ?_<;>intro h<;>try omega|refine zy ?_|fail)<;>conv=>whnf
   all_goals first|omega|exact fin _ _ (by omega)
  ·have hc:0<=L8 m n:=by unfold L8;split<;>(try split)<;>omega
   have l3:=m9 (Nat.sub_le m n)
   (refine ac Tryz.func142 ?_;(conv=>whnf);repeat (refine zy ?_;conv=>whnf))
   repeat' (first|refine zz ?_|refine qp r1 ?_|refine qp r2 ?_|refine qp c ?_|refine qp (a9r m n (by omega) (by omega)) ?_|refine qp (v6 (-1) (m - n) (by omega) (by omega)) ?_|refine qp (G6 true _) ?_|refine ⟨_,B3 (y:=-1) rfl (by decide) (by decide),?_⟩|refine zd ?_ ?_<;>intro h<;>try omega|refine zy ?_|fail)<;>conv=>whnf
   all_goals first|omega|exact fin _ _ (by omega)
theorem sgm (x:Int):x.sign*x.natAbs=x:=Int.sign_mul_natAbs x
theorem a43 (x:Int) (lx:bl x<=300000):a9 Tryz.prog 135 [bgS (bz x)] [] (d6 true) []:=a14 _ _ (a5d x) lx
theorem b7P (x y:Int) (lx:bl x<=200000) (ly:bl y<=200000):a9 Tryz.prog 142 [bgS (bz x),bgS (bz y)] [] (.tup [bgS (bz (x+y)),a7 .i64 0]) []:=by
 have h:=b79 _ _ _ _ (a5d x) (a5d y) lx ly
 rw [sgm,sgm] at h
 exact h
theorem a73 (x:Int) (lx:bl x<=300000):a9 Tryz.prog 141 [bgS (bz x)] [] (bgS (bz (-x))) []:=by
 have h:=b7V (bz x) (show bl x<=1000000 by omega)
 unfold b0Q at h
 rw [Y8,a3B] at h
 exact h
abbrev bg2 (s:Int) (l:List Int):S:=.agg [.t (ti s),.t (I1 l)]
theorem b6O (s t:Int) (m n:Nat) (hs:Sg s m) (ht:Sg t n) (lm:(dg m).length<=200000) (ln:(dg n).length<=200000):
 a9 Tryz.prog 213 [bgS ⟨s,dg m⟩,bgS ⟨t,dg n⟩] [] (.tup [bgS (bz ((s*t)*(m*n:Nat))),a7 .i64 0]) []:=by
 have r1:=a14 s m hs (by omega)
 have r2:=a14 t n ht (by omega)
 have mu:=b78 m n (by omega) (by omega)
 have ls:=a3l m n
 have hst:-1<=s*t∧s*t<=1∧(s*t=1∨s*t=-1∨m*n=0):=by
  rcases hs with ⟨rfl,rfl⟩|⟨rfl,h1⟩|⟨rfl,h1⟩<;>rcases ht with ⟨rfl,rfl⟩|⟨rfl,h2⟩|⟨rfl,h2⟩<;>simp
 obtain ⟨q1,q2,q3⟩:=hst
 have sg:=v6 (s*t) (m*n) q3 (by omega)
 have ck:=G6 true (bz ((s*t)*(m*n:Nat)))
 (refine ac Tryz.func213 ?_;(conv=>whnf);repeat (refine zy ?_;conv=>whnf))
 repeat' (first|refine zz ?_|refine qp r1 ?_|refine qp r2 ?_|refine qp mu ?_|refine qp sg ?_|refine qp ck ?_|refine ⟨_,B3 (y:=s*t) rfl (by omega) (by omega),?_⟩|refine zd ?_ ?_<;>intro h<;>try omega|refine zy ?_|fail)<;>conv=>whnf
 all_goals first|(exfalso;simp_all;done)|exact a5I rfl
theorem b7t (x y:Int) (lx:bl x<=200000) (ly:bl y<=200000):a9 Tryz.prog 213 [bgS (bz x),bgS (bz y)] [] (.tup [bgS (bz (x*y)),a7 .i64 0]) []:=by
 have h:=b6O _ _ _ _ (a5d x) (a5d y) lx ly
 have e:(x.sign*y.sign)*((x.natAbs*y.natAbs:Nat):Int)=x*y:=by
  rw [Int.natCast_mul]
  have h1:=sgm x
  have h2:=sgm y
  grind
 rw [e] at h
 exact h
theorem aN7 (x y:Int) (lx:bl x<=300000) (ly:bl y<=300000):a9 Tryz.prog 139 [bgS (bz x),bgS (bz y)] [] (a7 .i64 (L8 x y)) []:=by
 have h:=aJ7 (bz x) (bz y) (show bl x<=1000000 by omega) (show bl y<=1000000 by omega)
 unfold b0z at h
 rw [Y8,Y8,a3B,a3B] at h
 exact h
theorem aZ6 {b b' c c':Bg} {e:Int} {H1:Hp} (h:b=b') (h2:c=c'):Fin 0 (.tup [bgS b,bgS c,a7 .i64 e]) H1 (.tup [bgS b',bgS c',a7 .i64 e]) []:=by
 subst h h2;exact j2 ⟨⟨rfl,rfl,trivial⟩,⟨rfl,rfl,trivial⟩,rfl,trivial⟩
theorem b7C (s:Int) (m n:Nat) (hs:Sg s m) (hn:0<n) (lm:(dg m).length<=200000) (ln:(dg n).length<=200000):
 a9 Tryz.prog 217 [bgS ⟨s,dg m⟩,bgS ⟨1,dg n⟩] [] (.tup [bgS (bz (s*m / n)),bgS (bz (s*m % n)),a7 .i64 0]) []:=by
 show a9 Tryz.prog 217 [bg2 s (dg m),bg2 1 (dg n)] [] _ []
 have r1:=a14 s m hs (by omega)
 have r2:=a14 1 n (.inr (.inl ⟨rfl,hn⟩)) (by omega)
 have dv:=b6C m n hn (by omega) (by omega)
 have lq:=m9 (Nat.div_le_self m n)
 have hr:=Nat.mod_lt m hn
 have lr:=m9 (Nat.le_of_lt hr)
 have lr2:((dg (m % n)).map e7).length=(dg (m % n)).length:=by simp
 have hz:(dg (m % n)).length=0↔m % n=0:=by rw [List.length_eq_zero_iff,O7]
 have hm:=Nat.div_add_mod m n
 have fin:∀(a b:Int) (H1:Hp),a=s*m / n->b=s*m % n->Fin 0 (.tup [bgS (bz a),bgS (bz b),a7 .i64 0]) H1 (.tup [bgS (bz (s*m / n)),bgS (bz (s*m % n)),a7 .i64 0]) []:=fun a b H1 h1 h2=>aZ6 (by rw [h1]) (by rw [h2])
 rcases hs with ⟨rfl,rfl⟩|⟨rfl,h1⟩|⟨rfl,h1⟩
 ·have s1:=v6 0 (0 / n) (by simp) (by omega)
  have s2:=v6 0 (0 % n) (by simp) (by omega)
  (refine ac Tryz.func217 ?_;(conv=>whnf);repeat (refine zy ?_;conv=>whnf))
  repeat' (first|refine zz ?_|refine qp r1 ?_|refine qp r2 ?_|refine qp dv ?_|refine qp s1 ?_|refine qp s2 ?_|refine ⟨_,B3 (y:=0) rfl (by decide) (by decide),?_⟩|refine zd ?_ ?_<;>intro h<;>try omega|refine zy ?_|fail)<;>conv=>whnf
  all_goals first|omega|exact fin _ _ _ (by first|rfl|simp) (by first|rfl|simp)
 ·have s1:=v6 1 (m / n) (by simp) (by omega)
  have s2:=v6 1 (m % n) (by simp) (by omega)
  (refine ac Tryz.func217 ?_;(conv=>whnf);repeat (refine zy ?_;conv=>whnf))
  repeat' (first|refine zz ?_|refine qp r1 ?_|refine qp r2 ?_|refine qp dv ?_|refine qp s1 ?_|refine qp s2 ?_|refine ⟨_,B3 (y:=1) rfl (by decide) (by decide),?_⟩|refine zd ?_ ?_<;>intro h<;>try omega|refine zy ?_|fail)<;>conv=>whnf
  all_goals first|omega|exact fin _ _ _ (by first|rfl|simp) (by first|rfl|simp)
 ·by_cases h0:m % n=0
  ·have hz0:=hz.2 h0
   have s1:=v6 (-1) (m / n) (by simp) (by omega)
   have s2:=v6 (-1) (m % n) (by simp) (by omega)
   have e1:-1*((m / n:Nat):Int)=-1*(m:Int) / n:=by
    have e:(m:Int)=n*(m / n:Nat):=by rw [← Int.natCast_mul];congr 1;omega
    rw [e,show -1*((n:Int)*(m / n:Nat))=n*(-1*(m / n:Nat)) by grind,Int.mul_ediv_cancel_left _ (by omega)]
   have e2:-1*((m % n:Nat):Int)=-1*(m:Int) % n:=by
    have e:(m:Int)=n*(m / n:Nat):=by rw [← Int.natCast_mul];congr 1;omega
    rw [h0,e,show -1*((n:Int)*(m / n:Nat))=n*(-1*(m / n:Nat)) by grind,Int.mul_emod_right]
    simp
   (refine ac Tryz.func217 ?_;(conv=>whnf);repeat (refine zy ?_;conv=>whnf))
   repeat' (first|refine zz ?_|refine qp r1 ?_|refine qp r2 ?_|refine qp dv ?_|refine qp s1 ?_|refine qp s2 ?_|refine ⟨_,B3 (y:=-1) rfl (by decide) (by decide),?_⟩|refine zd ?_ ?_<;>intro h<;>try omega|refine zy ?_|fail)<;>conv=>whnf
   all_goals first|omega|exact fin _ _ _ e1 e2
  ·have hz0:(dg (m % n)).length≠0:=fun h=>h0 (hz.1 h)
   have one:dg 1=[1]:=rfl
   have ad:=b42 (m / n) 1 (by omega) (by simp [one])
   have sb:=a9r n (m % n) (by omega) (by omega)
   have l1:=a2R (m / n) 1
   have l2:=m9 (Nat.sub_le n (m % n))
   have s1:=v6 (-1) (m / n+1) (by simp) (by rw [one] at l1;simp at l1;omega)
   have s2:=v6 1 (n - m % n) (by simp) (by omega)
   have key:(-1*(m:Int))=(n - m % n:Nat)+n*(-1*((m / n+1:Nat):Int)):=by
    have e:(m:Int)=n*(m / n:Nat)+(m % n:Nat):=by rw [← Int.natCast_mul];omega
    have e2:((n - m % n:Nat):Int)=n - (m % n:Nat):=by omega
    have e3:((m / n+1:Nat):Int)=(m / n:Nat)+1:=by omega
    rw [e2,e3]
    grind
   have e1:-1*((m / n+1:Nat):Int)=-1*(m:Int) / n:=by
    rw [key,Int.add_mul_ediv_left _ _ (by omega),Int.ediv_eq_zero_of_lt (by omega) (by omega)]
    simp
   have e2:1*((n - m % n:Nat):Int)=-1*(m:Int) % n:=by
    rw [key,Int.add_mul_emod_self_left,Int.emod_eq_of_lt (by omega) (by omega)]
    simp
   (refine ac Tryz.func217 ?_;(conv=>whnf);repeat (refine zy ?_;conv=>whnf))
   repeat' (first|refine zz ?_|refine qp r1 ?_|refine qp r2 ?_|refine qp dv ?_|refine qp s1 ?_|refine qp s2 ?_|refine qp sb ?_|refine .inl ⟨_,_,a04 ad ⟨ae2,a0I (aC4 rfl),trivial⟩ rfl,?_⟩|refine ⟨_,B3 (y:=-1) rfl (by decide) (by decide),?_⟩|refine zd ?_ ?_<;>intro h<;>try omega|refine zy ?_|fail)<;>conv=>whnf
   all_goals first|omega|exact fin _ _ _ e1 e2
theorem aq9 (x y:Int) (hy:0<y) (lx:bl x<=200000) (ly:bl y<=200000):a9 Tryz.prog 217 [bgS (bz x),bgS (bz y)] [] (.tup [bgS (bz (x / y)),bgS (bz (x % y)),a7 .i64 0]) []:=by
 have h:=b7C _ _ y.natAbs (a5d x) (by omega) lx ly
 rw [sgm,show (y.natAbs:Int)=y by omega] at h
 unfold bz at *
 rw [Int.sign_eq_one_of_pos hy]
 exact h
abbrev b1k:Blk:={ mode:=.live,elem:=81,size:=2,rows:=[[C4 (.int .i64 0),C4 (.slice none 0 0)]],box:=true }
theorem T1:I2 [[C4 (.int .i64 0),C4 (.slice none 0 0)]]:=by
 intro r hr c hc
 simp at hr
 subst hr
 simp at hc
 rcases hc with rfl|rfl<;>rfl
structure b6f (x y:Int) (X Y:Nat):Prop where
 g:Nat.gcd X Y=Nat.gcd x.natAbs y.natAbs
 lx:(dg X).length<=200000
 ly:(dg Y).length<=200000
theorem aP5 (x y:Int) (lx:bl x<=200000) (ly:bl y<=200000):a9 Tryz.prog 136 [bgS (bz x),bgS (bz y)] [] (.tup [bgS (bz (Int.gcd x y)),a7 .i64 0]) []:=by
 have r1:=a43 x (by omega)
 have r2:=a43 y (by omega)
 have cl:=a8w (bz x).dl (show bl x<=1000000 by omega)
 (refine ac Tryz.func136 ?_;(conv=>whnf);repeat (refine zy ?_;conv=>whnf))
 repeat' (first|refine zz ?_|refine qp r1 ?_|refine qp r2 ?_|refine qp cl ?_|refine zd ?_ ?_<;>intro h<;>try omega|refine zy ?_|fail)<;>conv=>whnf
 all_goals first
  |(exfalso;simp_all;done)
  |skip
 refine k5 c8 (σ:=Nat × Nat) (fun|(X,Y)=>([J,J,J,J,S.c (C.ptr 0 0 0),J,d9 (dg X),d9 (dg Y),J,J,J,J,J,J,J,J,J,J,J,J,J,J,J,J,J,J,J,J,J,J,J,J,J,J,J,J,J,J,J,J,J,J,J,J],[b1k])) (fun s=>b6f x y s.1 s.2) (fun s=>s.2) (x.natAbs,y.natAbs) [some 2]
  ⟨rfl,lx,ly⟩ ⟨rfl,rfl,⟨⟨rfl,rfl,rfl,.inl ⟨rfl,T1⟩⟩,trivial⟩,⟨⟨rfl,rfl,rfl⟩,rfl,rfl,trivial⟩⟩ ?_
 rintro ⟨X,Y⟩ hI
 have hI:b6f x y X Y:=hI
 obtain ⟨g1,g2,g3⟩:=hI
 have l2:((dg Y).map e7).length=(dg Y).length:=by simp
 conv=>whnf
 by_cases hY:0<Y
 ·have hp:(dg Y).length≠0:=by rw [Ne,List.length_eq_zero_iff,O7];omega
  have dv:=b6C X Y hY (by omega) (by omega)
  repeat' (first|refine zz ?_|refine qp dv ?_|refine zd ?_ ?_<;>intro h<;>try omega|refine zy ?_|fail)<;>conv=>whnf
  all_goals first
   |omega
   |skip
  exact ⟨[some 0],(Y,X % Y),⟨rfl,rfl,⟨⟨rfl,rfl,rfl,.inl ⟨rfl,T1⟩⟩,trivial⟩,⟨⟨rfl,rfl,rfl⟩,rfl,rfl,trivial⟩⟩,⟨by rw [← g1,Nat.gcd_comm Y,←Nat.gcd_rec,Nat.gcd_comm],g3,Nat.le_trans (m9 (Nat.le_of_lt (Nat.mod_lt X hY))) g3⟩,Nat.mod_lt X hY⟩
 ·have hY:Y=0:=by omega
  subst hY
  have hp:(dg 0).length=0:=rfl
  have c2:=a8w (dg X) (by omega)
  have s1:=v6 1 X (by simp) (by omega)
  have ck:=G6 true (bz (1*X))
  repeat' (first|refine zz ?_|refine qp c2 ?_|refine qp s1 ?_|refine qp ck ?_|refine zd ?_ ?_<;>intro h<;>try omega|refine zy ?_|fail)<;>conv=>whnf
  all_goals first
   |omega
   |skip
  refine a5I ?_
  rw [Int.one_mul,show X=Int.gcd x y by rw [Int.gcd,←g1,Nat.gcd_zero_right]]
  rfl
theorem a0Y {x y:Int} (h:x % 18446744073709551616=y):F9 .u64 x y:=by
 unfold F9
 simp only [IntKind.wrap,IntKind.bits,IntKind.signed]
 simp
 omega
theorem aZ8 (a:Int):V6 .and .u64 a 1048575 (a % 1048576):=(ao3 (a:=a) 20 (by decide)).symm
theorem b43 (a:Int):aY3 .u64 a 20 (a / 1048576):=by
 show a / 1048576=a.fdiv 1048576
 exact (Int.fdiv_eq_ediv_of_nonneg _ (by decide)).symm
structure OfI (n:Int) (acc:List Int) (u:Nat):Prop where
 eq:acc++dg u=dg n.natAbs
theorem OfI.len {n:Int} {acc:List Int} {u:Nat} (h:OfI n acc u) (h0:-9223372036854775808<=n) (h1:n<=9223372036854775807):acc.length<=4:=by
 have h2:(dg n.natAbs).length<=4:=N1 (by simp only [pw];omega)
 have h3:=congrArg List.length h.eq
 simp at h3
 omega
theorem OfI.step {n:Int} {acc:List Int} {u:Nat} (h:OfI n acc u) (hu:0<u):OfI n (acc++[(u:Int) % 1048576]) (u / 1048576):=by
 refine ⟨?_⟩
 rw [← h.eq,a5E hu]
 simp
theorem OfI.le {n:Int} {acc:List Int} {u:Nat} (h:OfI n acc u):u<=n.natAbs:=by
 have h1:=congrArg val h.eq
 rw [K6,k6,k6] at h1
 have h2:Okd acc:=fun x hx=>p7 n.natAbs x (by rw [← h.eq];simp [hx])
 have h3:=t8 h2
 have h4:=P2 acc.length
 have h5:=Int.mul_le_mul_of_nonneg_right (a:=1) (b:=pw acc.length) (c:=(u:Int)) (by omega) (by omega)
 omega
theorem a16 {xs:List Int} {x:Int}:(toC (xs.map e7)).take xs.length++toC [[ti x]]=toC ((xs++[x]).map e7):=b6m (f:=e7)
theorem b01 (n:Int) (h0:-9223372036854775808<=n) (h1:n<=9223372036854775807):a9 Tryz.prog 138 [a7 .i64 n] [] (bgS (bz n)) []:=by
 by_cases hn:n<0
 ·(refine ac Tryz.func138 ?_;(conv=>whnf);repeat (refine zy ?_;conv=>whnf))
  repeat' (first|refine zz ?_|refine ⟨_,a0Y (y:=n+18446744073709551616) (by omega),?_⟩|refine ⟨_,a0Y (y:=(n.natAbs:Int)) (by omega),?_⟩|refine zd ?_ ?_<;>intro h<;>try omega|refine zy ?_|fail)<;>conv=>whnf
  refine k5 c8 (σ:=List Int × Nat) (fun|(acc,u)=>([J,J,S.c (C.ptr 0 0 0),a7 .i64 (-1),a7 .u64 u,a0G 1 acc,J,J,J,J,J,J,J,J,J,J,J,J,J,J,J,J,J,J,J],[b1k,o5 acc])) (fun s=>OfI n s.1 s.2) (fun s=>s.2) ([],n.natAbs) [some 0,none]
   ⟨rfl⟩ ⟨rfl,rfl,⟨⟨rfl,rfl,rfl,.inl ⟨rfl,T1⟩⟩,⟨rfl,rfl⟩,trivial⟩,⟨⟨rfl,rfl,rfl⟩,rfl,c6 (by omega),⟨rfl,rfl,rfl⟩,trivial⟩⟩ ?_
  rintro ⟨acc,u⟩ hI
  have hI:OfI n acc u:=hI
  have hl:=hI.len h0 h1
  have hu:=hI.le
  conv=>whnf
  repeat' (first|refine zz ?_|refine qp toC ?_|refine qp toC ?_|refine ⟨_,aZ8 _,?_⟩|refine ⟨by decide,_,b43 _,?_⟩|refine o6 (by simp [toC]) (by simp [toC];omega) ?_|refine ⟨_,a0Y (by omega),?_⟩|refine zd ?_ ?_<;>intro h<;>try omega|refine zy ?_|fail)<;>conv=>whnf
  ·refine ⟨[some 0,some 2],(acc++[(u:Int) % 1048576],u / 1048576),⟨rfl,rfl,⟨⟨rfl,rfl,rfl,.inl ⟨rfl,T1⟩⟩,a8 rfl rfl rfl a16 rfl,trivial⟩,⟨⟨rfl,rfl,rfl⟩,rfl,c6 (by simp),j8 rfl (by simp [toC]),trivial⟩⟩,hI.step (by omega),by show u / 1048576<u;omega⟩
  ·have h0u:u=0:=by omega
   subst h0u
   have e:acc=dg n.natAbs:=by have:=hI.eq;rw [U0,List.append_nil] at this;exact this
   have sg:=v6 (-1) n.natAbs (by omega) (by rw [← e];omega)
   rw [← e,show (-1)*(n.natAbs:Int)=n by omega] at sg
   refine .inr ⟨_,_,u7 [1] sg ⟨ae2,a0I (s8 (by simp) rfl (by intro h;cases h) rfl rfl (by simp)),trivial⟩ rfl,?_⟩
   conv=>whnf
   exact j2 ⟨rfl,rfl,trivial⟩
 ·(refine ac Tryz.func138 ?_;(conv=>whnf);repeat (refine zy ?_;conv=>whnf))
  repeat' (first|refine zz ?_|refine ⟨_,a0Y (y:=(n.natAbs:Int)) (by omega),?_⟩|refine zd ?_ ?_<;>intro h<;>try omega|refine zy ?_|fail)<;>conv=>whnf
  refine k5 c8 (σ:=List Int × Nat) (fun|(acc,u)=>([J,J,S.c (C.ptr 0 0 0),a7 .i64 1,a7 .u64 u,a0G 1 acc,J,J,J,J,J,J,J,J,J,J,J,J,J,J,J,J,J,J,J],[b1k,o5 acc])) (fun s=>OfI n s.1 s.2) (fun s=>s.2) ([],n.natAbs) [some 0,none]
   ⟨rfl⟩ ⟨rfl,rfl,⟨⟨rfl,rfl,rfl,.inl ⟨rfl,T1⟩⟩,⟨rfl,rfl⟩,trivial⟩,⟨⟨rfl,rfl,rfl⟩,rfl,c6 (by omega),⟨rfl,rfl,rfl⟩,trivial⟩⟩ ?_
  rintro ⟨acc,u⟩ hI
  have hI:OfI n acc u:=hI
  have hl:=hI.len h0 h1
  have hu:=hI.le
  conv=>whnf
  repeat' (first|refine zz ?_|refine qp toC ?_|refine qp toC ?_|refine ⟨_,aZ8 _,?_⟩|refine ⟨by decide,_,b43 _,?_⟩|refine o6 (by simp [toC]) (by simp [toC];omega) ?_|refine ⟨_,a0Y (by omega),?_⟩|refine zd ?_ ?_<;>intro h<;>try omega|refine zy ?_|fail)<;>conv=>whnf
  ·refine ⟨[some 0,some 2],(acc++[(u:Int) % 1048576],u / 1048576),⟨rfl,rfl,⟨⟨rfl,rfl,rfl,.inl ⟨rfl,T1⟩⟩,a8 rfl rfl rfl a16 rfl,trivial⟩,⟨⟨rfl,rfl,rfl⟩,rfl,c6 (by simp),j8 rfl (by simp [toC]),trivial⟩⟩,hI.step (by omega),by show u / 1048576<u;omega⟩
  ·have h0u:u=0:=by omega
   subst h0u
   have e:acc=dg n.natAbs:=by have:=hI.eq;rw [U0,List.append_nil] at this;exact this
   have sg:=v6 (1) n.natAbs (by omega) (by rw [← e];omega)
   rw [← e,show (1)*(n.natAbs:Int)=n by omega] at sg
   refine .inr ⟨_,_,u7 [1] sg ⟨ae2,a0I (s8 (by simp) rfl (by intro h;cases h) rfl rfl (by simp)),trivial⟩ rfl,?_⟩
   conv=>whnf
   exact j2 ⟨rfl,rfl,trivial⟩
theorem as6 (i:Nat):pw i=((2 ^ (20*i):Nat):Int):=by
 unfold pw;rw [show (1048576:Int)=((2 ^ 20:Nat):Int) by decide,←Int.natCast_pow,←Nat.pow_mul]
theorem b9u {d:Int} {i:Nat} {b:Int} (hi:i<=3) (h:0<=d) (h2:d*pw i<18446744073709551616) (hb:b=20*i):F9 .u64 (d*2 ^ min b.toNat (IntKind.bits .u64)) (d*pw i):=by
 have e:min b.toNat (IntKind.bits .u64)=20*i:=by show min b.toNat 64=_;omega
 have hp:=P2 i
 have h3:0<=d*pw i:=Int.mul_nonneg h (by omega)
 rw [e,show (2:Int) ^ (20*i)=pw i by rw [as6];simp]
 exact aB0 h3 h2
theorem oru {u d:Int} {i:Nat} (hu:0<=u) (hu2:u<pw i) (h:0<=d) (h2:u+d*pw i<18446744073709551616):V6 .or .u64 u (d*pw i) (u+d*pw i):=by
 obtain ⟨U,rfl⟩:=Int.eq_ofNat_of_zero_le hu
 obtain ⟨D,rfl⟩:=Int.eq_ofNat_of_zero_le h
 have hp:=P2 i
 have e2:(U:Int)+D*pw i=((U+2 ^ (20*i)*D:Nat):Int):=by rw [as6];simp [Int.mul_comm]
 have e3:(D:Int)*pw i=((2 ^ (20*i)*D:Nat):Int):=by rw [as6];simp [Int.mul_comm]
 rw [e2] at h2
 have hU:U<2 ^ (20*i):=by rw [as6] at hu2;omega
 have k1:(BitVec.ofInt (IntKind.bits .u64) (U:Int) ||| BitVec.ofInt (IntKind.bits .u64) ((2 ^ (20*i)*D:Nat):Int)).toNat=U+2 ^ (20*i)*D:=by
  show (BitVec.ofInt 64 _ ||| BitVec.ofInt 64 _).toNat=_
  rw [BitVec.toNat_or,BitVec.toNat_ofInt,BitVec.toNat_ofInt]
  rw [Int.emod_eq_of_lt (by omega) (by omega),Int.emod_eq_of_lt (by omega) (by omega),Int.toNat_natCast,Int.toNat_natCast,Nat.or_comm,←Nat.two_pow_add_eq_or_of_lt hU,Nat.add_comm]
 rw [e2,e3]
 unfold V6
 simp only
 rw [k1]
 exact (a9T (by omega) h2).symm
structure aS4 (n:Nat) (k:Nat) (u:Int):Prop where
 eq:u=val ((dg n).take k)
 le:k<=(dg n).length
 lt:k=4->u<9*1152921504606846976
theorem aS4.rng {n k:Nat} {u:Int} (h:aS4 n k u):0<=u∧u<pw k:=by
 have h1:=t8 ((p7 n).take k)
 have h2:=V3 ((p7 n).take k)
 rw [List.length_take,Nat.min_eq_left h.le,←h.eq] at h2
 rw [← h.eq] at h1
 exact ⟨h1,h2⟩
theorem aS4.step {n k:Nat} {u:Int} (h:aS4 n k u) (hk:k<(dg n).length) (hd:k=3->dat (dg n) k<=8):aS4 n (k+1) (u+dat (dg n) k*pw k):=by
 have hr:=h.rng
 refine ⟨by rw [o8,h.eq,Int.mul_comm],hk,fun h4=>?_⟩
 have:k=3:=by omega
 subst this
 have:=hd rfl
 simp only [pw] at hr ⊢
 omega
theorem b7l {k:Nat} (h:k<=3):pw k<=1152921504606846976:=by
 have:=a0S h
 simp only [pw] at this ⊢
 omega
theorem b6R {k:Nat} (h:k<=2):pw k<=1099511627776:=by
 have:=a0S h
 simp only [pw] at this ⊢
 omega
theorem ar9 {a a':Int} {b b':Bool} {k:IntKind} {H1:Hp} (h:a=a') (h2:b=b'):Fin 0 (.tup [a7 k a,d6 b]) H1 (.tup [a7 k a',d6 b']) []:=by
 subst h h2;exact j2 ⟨rfl,rfl,trivial⟩
theorem aL4 {x:Int} (h1:9223372036854775808<=x) (h2:x<18446744073709551616):F9 .i64 x (x - 18446744073709551616):=by
 unfold F9
 simp only [IntKind.wrap,IntKind.bits,IntKind.signed]
 simp
 omega
abbrev a6Q (x:Int):Prop:=-9223372036854775808<=x∧x<=9223372036854775807
theorem b7i (x:Int) (lx:bl x<=200000):a9 Tryz.prog 210 [bgS (bz x)] [] (.tup [a7 .i64 (if a6Q x then x else 0),d6 (decide (a6Q x))]) []:=by
 have r1:=a43 x (by omega)
 have l1:((bz x).dl.map e7).length=(dg x.natAbs).length:=by simp [bz]
 have l2:(bz x).dl=dg x.natAbs:=rfl
 have hlast:∀k:Nat,k<(dg x.natAbs).length->pw k<=x.natAbs:=fun k hk=>Int.le_trans (a0S (by omega)) (ar2 (by
  rcases Nat.eq_zero_or_pos x.natAbs with h|h
  ·rw [h,U0] at hk;simp at hk
  ·exact h))
 (refine ac Tryz.func210 ?_;(conv=>whnf);repeat (refine zy ?_;conv=>whnf))
 repeat' (first|refine zz ?_|refine qp r1 ?_|refine zd ?_ ?_<;>intro h<;>try omega|refine zy ?_|fail)<;>conv=>whnf
 ·have hl:4<(dg x.natAbs).length:=by omega
  have:=hlast 4 hl
  simp only [pw] at this
  have hn:¬a6Q x:=by unfold a6Q;omega
  exact ar9 (by rw [if_neg hn]) (by simp [hn])
 ·refine k5 c8 (σ:=Nat × Int) (fun|(k,u)=>([J,S.c (C.ptr 0 0 0),J,J,a7 .u64 u,J,J,J,J,J,J,J,J,J,J,J,J,d9 (dg x.natAbs),a7 .i64 (dg x.natAbs).length,a7 .i64 k,J,J,J,J,J,J,J,J,J,J,J,J,J,J,J,J,J,J,J,J,J,J,J,J,J,J,J,J,J,J,J,J,J,J,J,J,J,J,J],[bgB (bz x)])) (fun s=>aS4 x.natAbs s.1 s.2) (fun s=>(dg x.natAbs).length - s.1) (0,0) [some 0]
   ⟨by simp [val],by omega,by omega⟩ ⟨rfl,rfl,⟨⟨rfl,rfl,rfl,.inl ⟨rfl,a45 _⟩⟩,trivial⟩,⟨⟨rfl,rfl,rfl⟩,rfl,g7 rfl,c6 (by omega),rfl,trivial⟩⟩ ?_
  rintro ⟨k,u⟩ hI
  have hI:aS4 x.natAbs k u:=hI
  have hr:=hI.rng
  have hle:=hI.le
  have hd:=(p7 x.natAbs).dat k
  have hp:=P2 k
  have hp3:k<=3->pw k<=1152921504606846976:=b7l
  have hdm:0<=dat (dg x.natAbs) k*pw k:=Int.mul_nonneg hd.1 (by omega)
  have l3:((dg x.natAbs).map e7).length=(dg x.natAbs).length:=by simp
  have hp2:k<=2->pw k<=1099511627776:=b6R
  have hA:k<=3->(k=3->dat (dg x.natAbs) k<=8)->u+dat (dg x.natAbs) k*pw k<18446744073709551616:=fun h3 h8=>by
   by_cases hk:k=3
   ·have:=Int.mul_le_mul_of_nonneg_right (c:=pw k) (h8 hk) (by omega)
    have:=hp3 h3
    omega
   ·have:=Int.mul_le_mul_of_nonneg_right (c:=pw k) (show dat (dg x.natAbs) k<=1048575 by omega) (by omega)
    have:=hp2 (by omega)
    omega
  have hE:k=(dg x.natAbs).length->u=x.natAbs:=fun h=>by
   have:=hI.eq
   rw [h,lg4 (Nat.le_refl _),k6] at this
   exact this
  have hs:=C1 x
  have hsg:(bz x).sg=x.sign:=rfl
  conv=>whnf
  repeat' (first|refine zz ?_|refine b9 (s7 (by omega)) ?_|refine ⟨_,aB0 (by omega) (by omega),?_⟩|refine ⟨by omega,_,b9u (i:=k) (by omega) (by omega) (by omega) (by omega),?_⟩|refine ⟨_,oru (by omega) (by omega) (by omega) (by omega),?_⟩|refine ⟨_,a0Y (y:=18446744073709551616 - u) (by omega),?_⟩|refine ⟨_,aL4 (by omega) (by omega),?_⟩|refine zd ?_ ?_<;>intro h<;>try omega|refine zy ?_|fail)<;>conv=>whnf
  ·have hk:k=3:=by omega
   have h8:9<=dat (dg x.natAbs) k:=by omega
   have h1:=o8 (dg x.natAbs) k
   have h4:val (dg x.natAbs)=val ((dg x.natAbs).take (k+1)):=by rw [lg4 (by omega)]
   rw [k6] at h4
   have h5:=t8 ((p7 x.natAbs).take k)
   have h6:=Int.mul_le_mul_of_nonneg_left (a:=9) (b:=dat (dg x.natAbs) k) (c:=pw k) h8 (by omega)
   have h7:pw k=1152921504606846976:=by rw [hk];rfl
   have hn:¬a6Q x:=by unfold a6Q;omega
   exact ar9 (by rw [if_neg hn]) (by simp [hn])
  ·have hst:=hI.step (by omega) (by omega)
   exact ⟨[some 0],(k+1,u+dat (dg x.natAbs) k*pw k),⟨rfl,rfl,⟨⟨rfl,rfl,rfl,.inl ⟨rfl,a45 _⟩⟩,trivial⟩,⟨⟨rfl,rfl,rfl⟩,rfl,rfl,rfl,c6 (by omega),trivial⟩⟩,hst,by show (dg x.natAbs).length - (k+1)<(dg x.natAbs).length - k;omega⟩
  ·have hst:=hI.step (by omega) (by omega)
   exact ⟨[some 0],(k+1,u+dat (dg x.natAbs) k*pw k),⟨rfl,rfl,⟨⟨rfl,rfl,rfl,.inl ⟨rfl,a45 _⟩⟩,trivial⟩,⟨⟨rfl,rfl,rfl⟩,rfl,rfl,rfl,c6 (by omega),trivial⟩⟩,hst,by show (dg x.natAbs).length - (k+1)<(dg x.natAbs).length - k;omega⟩
  all_goals
   have hu:=hE (by omega)
   first
    |(have hn:a6Q x:=by unfold a6Q;omega
      exact ar9 (by rw [if_pos hn];omega) (by simp [hn]))
    |(have hn:¬a6Q x:=by unfold a6Q;omega
      exact ar9 (by rw [if_neg hn]) (by simp [hn]))
abbrev frC (f:Fr):List C:=[.t (ti f.p.sg),.t (I1 f.p.dl),.t (ti f.q.sg),.t (I1 f.q.dl)]
abbrev frS (f:Fr):S:=.agg (frC f)
theorem b8S (x:Int) (lx:bl x<=200000):a9 Tryz.prog 137 [bgS (bz x)] [] (d6 (x == 1)) []:=by
 have i:=b7i x lx
 by_cases h:a6Q x
 ·rw [if_pos h,show decide (a6Q x)=true by simp [h]] at i
  (refine ac Tryz.func137 ?_;(conv=>whnf);repeat (refine zy ?_;conv=>whnf))
  repeat' (first|refine zz ?_|refine qp i ?_|refine zd ?_ ?_<;>intro h<;>try omega|refine zy ?_|fail)<;>conv=>whnf
  all_goals (refine b7 ?_;simp;omega)
 ·rw [if_neg h,show decide (a6Q x)=false by simp [h]] at i
  have hx:x≠1:=by rintro rfl;exact h (by decide)
  (refine ac Tryz.func137 ?_;(conv=>whnf);repeat (refine zy ?_;conv=>whnf))
  repeat' (first|refine zz ?_|refine qp i ?_|refine zd ?_ ?_<;>intro h<;>try omega|refine zy ?_|fail)<;>conv=>whnf
  all_goals (refine b7 ?_;simp;omega)
theorem a6O (f:Fr) (lp:f.p.dl.length<=200000) (lq:f.q.dl.length<=200000):a9 Tryz.prog 65 [frS f] [] (d6 (x4 f)) []:=by
 obtain ⟨p,q⟩:=f
 simp only at lp lq
 have r1:=a2l p (by omega)
 have r2:=a2l q (by omega)
 cases hp:H7 p with
 |false=>
  rw [hp] at r1
  (refine ac Tryz.func65 ?_;(conv=>whnf);repeat (refine zy ?_;conv=>whnf))
  repeat' (first|refine zz ?_|refine qp r1 ?_|refine qp r2 ?_|refine zd ?_ ?_<;>intro h<;>try omega|refine zy ?_|fail)<;>conv=>whnf
  all_goals (first|(exfalso;simp_all;done)|(refine b7 ?_;unfold x4;simp [hp]))
 |true=>
  rw [hp] at r1
  cases hq:H7 q with
  |false=>
   rw [hq] at r2
   (refine ac Tryz.func65 ?_;(conv=>whnf);repeat (refine zy ?_;conv=>whnf))
   repeat' (first|refine zz ?_|refine qp r1 ?_|refine qp r2 ?_|refine zd ?_ ?_<;>intro h<;>try omega|refine zy ?_|fail)<;>conv=>whnf
   all_goals (first|(exfalso;simp_all;done)|(refine b7 ?_;unfold x4;simp [hq]))
  |true=>
   rw [hq] at r2
   obtain ⟨x,rfl⟩:=a9s hp
   obtain ⟨y,rfl⟩:=a9s hq
   have g:=aP5 x y lp lq
   have o:=b8S (Int.gcd x y) (a9x x y lp lq)
   (refine ac Tryz.func65 ?_;(conv=>whnf);repeat (refine zy ?_;conv=>whnf))
   repeat' (first|refine zz ?_|refine qp r1 ?_|refine qp r2 ?_|refine qp g ?_|refine qp o ?_|refine zd ?_ ?_<;>intro h<;>try omega|refine zy ?_|fail)<;>conv=>whnf
   all_goals (refine b7 ?_;unfold x4;simp only [Y8,a3B,Bool.true_and];symm;simp_all<;>omega)
theorem a0V (x y:Int) (lx:bl x<=200000) (ly:bl y<=200000):a9 Tryz.prog 140 [bgS (bz x),bgS (bz y)] [] (bgS (bz (x*y))) []:=by
 have mu:=b7t x y lx ly
 (refine ac Tryz.func140 ?_;(conv=>whnf);repeat (refine zy ?_;conv=>whnf))
 repeat' (first|refine zz ?_|refine qp mu ?_|refine zd ?_ ?_<;>intro h<;>try omega|refine zy ?_|fail)<;>conv=>whnf
 exact j2 ⟨rfl,rfl,trivial⟩
theorem U9 {f f':Fr} {e:Int} {H1:Hp} (h:f=f'):Fin 0 (.tup [frS f,a7 .i64 e]) H1 (.tup [frS f',a7 .i64 e]) []:=by
 subst h;exact j2 ⟨⟨rfl,rfl,rfl,rfl,trivial⟩,rfl,trivial⟩
theorem aq3 (p q:Int) (hq:q≠0) (lp:bl p<=200000) (lq:bl q<=200000):a9 Tryz.prog 143 [bgS (bz p),bgS (bz q)] [] (.tup [frS (fz (Rat.divInt p q)),a7 .i64 0]) []:=by
 have r1:=a43 p (by omega)
 have r2:=a43 q (by omega)
 have hs:=C1 q
 have hsg:(bz q).sg=q.sign:=rfl
 by_cases h:q<0
 ·have n1:=a73 p (by omega)
  have n2:=a73 q (by omega)
  have lg:=a9x (-p) (-q) (by rw [a1F];exact lp) (by rw [a1F];exact lq)
  have hg:0<(Int.gcd (-p) (-q):Int):=by have:=Int.gcd_pos_of_ne_zero_right (-p) (b:=-q) (by omega);omega
  have g:=aP5 (-p) (-q) (by rw [a1F];exact lp) (by rw [a1F];exact lq)
  have d1:=aq9 (-p) _ hg (by rw [a1F];exact lp) lg
  have d2:=aq9 (-q) _ hg (by rw [a1F];exact lq) lg
  have e:=a77 (p:=-p) (q:=-q) (by omega) rfl
  rw [Rat.neg_divInt_neg] at e
  (refine ac Tryz.func143 ?_;(conv=>whnf);repeat (refine zy ?_;conv=>whnf))
  repeat' (first|refine zz ?_|refine qp r1 ?_|refine qp r2 ?_|refine qp n1 ?_|refine qp n2 ?_|refine qp g ?_|refine qp d1 ?_|refine qp d2 ?_|refine zd ?_ ?_<;>intro h<;>try omega|refine zy ?_|fail)<;>conv=>whnf
  all_goals first
   |(exfalso;simp_all;done)
   |omega
   |exact U9 e.symm
 ·have lg:=a9x p q lp lq
  have hg:0<(Int.gcd p q:Int):=by have:=Int.gcd_pos_of_ne_zero_right p (b:=q) (by omega);omega
  have g:=aP5 p q lp lq
  have d1:=aq9 p _ hg lp lg
  have d2:=aq9 q _ hg lq lg
  have e:=a77 (p:=p) (q:=q) (by omega) rfl
  (refine ac Tryz.func143 ?_;(conv=>whnf);repeat (refine zy ?_;conv=>whnf))
  repeat' (first|refine zz ?_|refine qp r1 ?_|refine qp r2 ?_|refine qp g ?_|refine qp d1 ?_|refine qp d2 ?_|refine zd ?_ ?_<;>intro h<;>try omega|refine zy ?_|fail)<;>conv=>whnf
  all_goals first
   |omega
   |(exfalso;simp_all;done)
   |exact U9 e.symm
theorem G9 (x:Rat) (lx:rl x<=200000):a9 Tryz.prog 65 [frS (fz x)] [] (d6 true) []:=by
 have h:=a6O (fz x) (Nat.le_trans (D8 x) lx) (Nat.le_trans (F4 x) lx)
 rw [a91] at h
 exact h
theorem a28 (x y:Rat) (lx:rl x<=60000) (ly:rl y<=60000):a9 Tryz.prog 73 [frS (fz x),frS (fz y)] [] (.tup [frS (fz (x+y)),a7 .i64 0]) []:=by
 have r1:=G9 x (by omega)
 have r2:=G9 y (by omega)
 have x1:=D8 x
 have x2:=F4 x
 have y1:=D8 y
 have y2:=F4 y
 have l1:=D7 x.num y.den
 have l2:=D7 y.num x.den
 have l3:=D7 x.den y.den
 have l4:=a7D (x.num*y.den) (y.num*x.den)
 have t1:=a0V x.num y.den (by omega) (by omega)
 have t2:=a0V y.num x.den (by omega) (by omega)
 have t3:=a0V x.den y.den (by omega) (by omega)
 have a:=b7P (x.num*y.den) (y.num*x.den) (by omega) (by omega)
 have n:=aq3 (x.num*y.den+y.num*x.den) (x.den*y.den) (a8J x y) (by omega) (by omega)
 rw [← a8L] at n
 (refine ac Tryz.func73 ?_;(conv=>whnf);repeat (refine zy ?_;conv=>whnf))
 repeat' (first|refine zz ?_|refine qp r1 ?_|refine qp r2 ?_|refine qp t1 ?_|refine qp t2 ?_|refine qp t3 ?_|refine qp a ?_|refine qp n ?_|refine qp 13 ?_|refine bl0 [13] ?_|refine zd ?_ ?_<;>intro h<;>try omega|refine zy ?_|fail)<;>conv=>whnf
 all_goals first
  |(exfalso;simp_all;done)
  |exact U9 rfl
theorem b3J (x y:Rat) (lx:rl x<=60000) (ly:rl y<=60000):a9 Tryz.prog 72 [frS (fz x),frS (fz y)] [] (.tup [frS (fz (x - y)),a7 .i64 0]) []:=by
 have r1:=G9 x (by omega)
 have r2:=G9 y (by omega)
 have y1:=D8 y
 have n:=a73 y.num (by omega)
 have a:=a28 x (-y) lx (by rw [P9];exact ly)
 rw [← Rat.sub_eq_add_neg] at a
 have e:fz (-y)=⟨bz (-y.num),bz y.den⟩:=rfl
 rw [e] at a
 (refine ac Tryz.func72 ?_;(conv=>whnf);repeat (refine zy ?_;conv=>whnf))
 repeat' (first|refine zz ?_|refine qp r1 ?_|refine qp r2 ?_|refine qp n ?_|refine qp a ?_|refine zd ?_ ?_<;>intro h<;>try omega|refine zy ?_|fail)<;>conv=>whnf
 all_goals first
  |(exfalso;simp_all;done)
  |exact U9 rfl
theorem a75 (x y:Rat) (lx:rl x<=60000) (ly:rl y<=60000):a9 Tryz.prog 179 [frS (fz x),frS (fz y)] [] (.tup [frS (fz (x*y)),a7 .i64 0]) []:=by
 have r1:=G9 x (by omega)
 have r2:=G9 y (by omega)
 have x1:=D8 x
 have x2:=F4 x
 have y1:=D8 y
 have y2:=F4 y
 have l1:=D7 x.num y.num
 have l3:=D7 x.den y.den
 have t1:=a0V x.num y.num (by omega) (by omega)
 have t3:=a0V x.den y.den (by omega) (by omega)
 have n:=aq3 (x.num*y.num) (x.den*y.den) (a8J x y) (by omega) (by omega)
 rw [← au3] at n
 (refine ac Tryz.func179 ?_;(conv=>whnf);repeat (refine zy ?_;conv=>whnf))
 repeat' (first|refine zz ?_|refine qp r1 ?_|refine qp r2 ?_|refine qp t1 ?_|refine qp t3 ?_|refine qp n ?_|refine zd ?_ ?_<;>intro h<;>try omega|refine zy ?_|fail)<;>conv=>whnf
 all_goals first
  |(exfalso;simp_all;done)
  |exact U9 rfl
theorem aC9 (x y:Rat):L8 (x.num*y.den) (y.num*x.den)=a0E x y:=by
 unfold L8 a0E
 simp only [← Rat.lt_iff]
theorem U4 (x y:Rat) (lx:rl x<=60000) (ly:rl y<=60000):a9 Tryz.prog 68 [frS (fz x),frS (fz y)] [] (a7 .i64 (a0E x y)) []:=by
 have r1:=G9 x (by omega)
 have r2:=G9 y (by omega)
 have x1:=D8 x
 have x2:=F4 x
 have y1:=D8 y
 have y2:=F4 y
 have l1:=D7 x.num y.den
 have l2:=D7 y.num x.den
 have t1:=a0V x.num y.den (by omega) (by omega)
 have t2:=a0V y.num x.den (by omega) (by omega)
 have c:=aN7 (x.num*y.den) (y.num*x.den) (by omega) (by omega)
 rw [aC9] at c
 (refine ac Tryz.func68 ?_;(conv=>whnf);repeat (refine zy ?_;conv=>whnf))
 repeat' (first|refine zz ?_|refine qp r1 ?_|refine qp r2 ?_|refine qp t1 ?_|refine qp t2 ?_|refine qp c ?_|refine zd ?_ ?_<;>intro h<;>try omega|refine zy ?_|fail)<;>conv=>whnf
 all_goals first
  |(exfalso;simp_all;done)
  |exact j1 rfl
theorem Z4 (x:Rat) (lx:rl x<=60000):a9 Tryz.prog 69 [frS (fz x)] [] (a7 .i64 (sgR x)) []:=by
 have r1:=G9 x (by omega)
 (refine ac Tryz.func69 ?_;(conv=>whnf);repeat (refine zy ?_;conv=>whnf))
 repeat' (first|refine zz ?_|refine qp r1 ?_|refine zd ?_ ?_<;>intro h<;>try omega|refine zy ?_|fail)<;>conv=>whnf
 all_goals first
  |(exfalso;simp_all;done)
  |exact j1 (a6t x)
theorem b36 (p q:Int) (hq:q≠0) (p0:-9223372036854775808<=p) (p1:p<=9223372036854775807) (q0:-9223372036854775808<=q) (q1:q<=9223372036854775807):
 a9 Tryz.prog 222 [a7 .i64 p,a7 .i64 q] [] (.tup [frS (fz (Rat.divInt p q)),a7 .i64 0]) []:=by
 have l1:=S0 p0 p1
 have l2:=S0 q0 q1
 have o1:=b01 p p0 p1
 have o2:=b01 q q0 q1
 have n:=aq3 p q hq (by omega) (by omega)
 (refine ac Tryz.func222 ?_;(conv=>whnf);repeat (refine zy ?_;conv=>whnf))
 repeat' (first|refine zz ?_|refine qp o1 ?_|refine qp o2 ?_|refine qp n ?_|refine zd ?_ ?_<;>intro h<;>try omega|refine zy ?_|fail)<;>conv=>whnf
 all_goals exact U9 rfl
theorem b7Y (n:Int):fz (n:Rat)=⟨bz n,bz 1⟩:=by unfold fz;rw [Rat.num_intCast,Rat.den_intCast];rfl
theorem I3 (n:Int) (p0:-9223372036854775808<=n) (p1:n<=9223372036854775807):a9 Tryz.prog 66 [a7 .i64 n] [] (frS (fz (n:Rat))) []:=by
 have o1:=b01 n p0 p1
 have o2:=b01 1 (by decide) (by decide)
 rw [b7Y]
 (refine ac Tryz.func66 ?_;(conv=>whnf);repeat (refine zy ?_;conv=>whnf))
 repeat' (first|refine zz ?_|refine qp o1 ?_|refine qp o2 ?_|refine zd ?_ ?_<;>intro h<;>try omega|refine zy ?_|fail)<;>conv=>whnf
 all_goals exact j2 ⟨rfl,rfl,rfl,rfl,trivial⟩
theorem a9o (x:Int) (lx:bl x<=200000):a9 Tryz.prog 290 [bgS (bz x)] [] (bgS (bz x)) []:=by
 have n1:=a73 x (by omega)
 have n2:=a73 (-x) (by rw [a1F];omega)
 rw [Int.neg_neg] at n2
 (refine ac Tryz.func290 ?_;(conv=>whnf);repeat (refine zy ?_;conv=>whnf))
 repeat' (first|refine zz ?_|refine qp n1 ?_|refine qp n2 ?_|refine zd ?_ ?_<;>intro h<;>try omega|refine zy ?_|fail)<;>conv=>whnf
 all_goals exact j2 ⟨rfl,rfl,trivial⟩
theorem a8H {x y:Rat}:a0E x y<0↔x<y:=by unfold a0E;split<;>(try split)<;>simp_all
theorem b2p (x y:Rat):-1<=a0E x y∧a0E x y<=1:=by unfold a0E;split<;>(try split)<;>omega
theorem b7E (x y:Rat) (lx:rl x<=60000) (ly:rl y<=60000):a9 Tryz.prog 193 [frS (fz x),frS (fz y)] [] (.tup [frS (fz (au4 x y)),a7 .i64 0]) []:=by
 have e:a9 Tryz.prog 252 [frS (fz x),frS (fz y),a7 .i64 1] [] (.tup [frS (fz (au4 x y)),a7 .i64 0]) []:=by
  have r1:=G9 x (by omega)
  have r2:=G9 y (by omega)
  have x1:=D8 x
  have x2:=F4 x
  have y1:=D8 y
  have y2:=F4 y
  have c:=U4 x y lx ly
  have hr:=b2p x y
  have s1:=a9o x.num (by omega)
  have s2:=a9o x.den (by omega)
  have s3:=a9o y.num (by omega)
  have s4:=a9o y.den (by omega)
  (refine ac Tryz.func252 ?_;(conv=>whnf);repeat (refine zy ?_;conv=>whnf))
  repeat' (first|refine zz ?_|refine qp r1 ?_|refine qp r2 ?_|refine qp c ?_|refine qp s1 ?_|refine qp s2 ?_|refine qp s3 ?_|refine qp s4 ?_|refine zd ?_ ?_<;>intro h<;>try omega|refine zy ?_|fail)<;>conv=>whnf
  ·have h:a0E x y<0:=by omega
   refine U9 (f:=fz y) ?_
   unfold au4;rw [if_pos (a8H.1 h)]
  ·have h:¬a0E x y<0:=by omega
   refine U9 (f:=fz x) ?_
   unfold au4;rw [if_neg (fun h'=>h (a8H.2 h'))]
 (refine ac Tryz.func193 ?_;(conv=>whnf);repeat (refine zy ?_;conv=>whnf))
 repeat' (first|refine zz ?_|refine qp e ?_|refine zd ?_ ?_<;>intro h<;>try omega|refine zy ?_|fail)<;>conv=>whnf
 all_goals exact U9 rfl
theorem a3X (n m:Int):a9 Tryz.prog 251 [a7 .i64 n,a7 .i64 m] [] (d6 (btw n 0 m)) []:=by
 (refine ac Tryz.func251 ?_;(conv=>whnf);repeat (refine zy ?_;conv=>whnf))
 repeat' (first|refine zz ?_|refine zd ?_ ?_<;>intro h<;>try omega|refine zy ?_|fail)<;>conv=>whnf
 all_goals (refine b7 ?_;unfold btw;simp;omega)
abbrev aA6 (c:I6):S:=.agg (c.row.map .t)
theorem ah8 (n:Int):btw n 0 29=idx n 30:=aX7 n 30
theorem aH2 (c:I6):a9 Tryz.prog 288 [aA6 c] [] (d6 (N0 c)) []:=by
 have w1:=a3X c.scale 29
 have w2:=a3X c.grams 1099511627776
 have w3:=a3X c.permille 1000
 have w4:=a3X c.drift 10000000
 rw [ah8] at w1
 unfold N0
 cases h1:idx c.scale 30<;>cases h2:btw c.grams 0 1099511627776<;>cases h3:btw c.permille 0 1000<;>cases h4:btw c.drift 0 10000000<;>rw [h1] at w1<;>rw [h2] at w2<;>rw [h3] at w3<;>rw [h4] at w4<;>
 ·(refine ac Tryz.func288 ?_;(conv=>whnf);repeat (refine zy ?_;conv=>whnf))
  repeat' (first|refine zz ?_|refine qp w1 ?_|refine qp w2 ?_|refine qp w3 ?_|refine qp w4 ?_|refine zd ?_ ?_<;>intro h<;>try omega|refine zy ?_|fail)<;>conv=>whnf
  all_goals (refine b7 ?_;simp;try omega)
theorem aE9 (c:I6) (day:Int):a9 Tryz.prog 248 [aA6 c,a7 .i64 day] [] (d6 (G7 c day)) []:=by
 have w1:=aH2 c
 unfold G7
 cases h1:N0 c<;>rw [h1] at w1<;>
 ·(refine ac Tryz.func248 ?_;(conv=>whnf);repeat (refine zy ?_;conv=>whnf))
  repeat' (first|refine zz ?_|refine qp w1 ?_|refine zd ?_ ?_<;>intro h<;>try omega|refine zy ?_|fail)<;>conv=>whnf
  all_goals (refine b7 ?_;simp [btw];try omega)
theorem aC5 {cs:List I6} {k:Nat} {c:I6} (h:cs[k]? =some c):ap7 cs k=c.since:=by unfold ap7;rw [h];rfl
abbrev aw2 (n:Int):T:=.ptr [ti n]
theorem aV8 {a b:Bool} {ρ:List (Option Nat)} {H:Hp} (h:a=b):a3U ρ H (d6 a) (d6 b):=by subst h;exact rfl
def a7I (o:Option Nat):Nat:=o.getD 0
theorem b8e (cs:List I6) (scale day:Int) (hl:cs.length<=1000000):
 a9 Tryz.prog 190 [.c (.t (Y3 cs)),a7 .i64 scale,a7 .i64 day] [] (.tup [a7 .i64 (a7I (y9 cs scale day cs.length)),d6 (y9 cs scale day cs.length).isSome]) []:=by
 have l1:(cs.map I6.row).length=cs.length:=by simp
 (refine ac Tryz.func190 ?_;(conv=>whnf);repeat (refine zy ?_;conv=>whnf))
 repeat' (first|refine zz ?_|refine zd ?_ ?_<;>intro h<;>try omega|refine zy ?_|fail)<;>conv=>whnf
 refine d7 c8 (fun k=>([S.c (C.t (Y3 cs)),a7 .i64 scale,a7 .i64 day,J,J,J,J,J,a7 .i64 (a7I (y9 cs scale day k)),d6 (y9 cs scale day k).isSome,J,J,S.c (C.t (Y3 cs)),a7 .i64 cs.length,a7 .i64 k,J,J,J,J,J,J,J,J,J,J,J,J,J,J,J,J,J,J,J,J,J,J,J,J,J,J,J,J,J,J,J],[])) cs.length (fun _=>True) [] trivial
  ⟨rfl,rfl,trivial,⟨g7 rfl,rfl,rfl,rfl,rfl,g7 rfl,c6 (by simp),rfl,trivial⟩⟩ ?_
 intro k hk _
 by_cases hlt:k<cs.length
 ·obtain ⟨c,hc⟩:∃c,cs[k]? =some c:=⟨_,lg0 hlt⟩
  have cv:=aE9 c day
  have hst:y9 cs scale day (k+1)=if decide (c.scale=scale) && G7 c day && a3z cs (y9 cs scale day k) c then some k else y9 cs scale day k:=by
   conv=>lhs;unfold y9
   rw [hc]
  cases hcv:G7 c day with
  |false=>
   rw [hcv] at cv hst
   simp only [Bool.and_false,Bool.false_and,Bool.false_eq_true,if_false] at hst
   rw [← hst]
   conv=>whnf
   repeat' (first|refine zz ?_|refine qp cv ?_|refine b9 hc ?_|refine zd ?_ ?_<;>intro h<;>try omega|refine zy ?_|fail)<;>conv=>whnf
   all_goals first
    |omega
    |exact ⟨hlt,trivial,[],rfl,rfl,trivial,⟨rfl,rfl,rfl,rfl,rfl,rfl,rfl,rfl,trivial⟩⟩
  |true=>
   rw [hcv] at cv hst
   cases hf:y9 cs scale day k with
   |none=>
    rw [hf] at hst
    conv=>whnf
    repeat' (first|refine zz ?_|refine qp cv ?_|refine b9 hc ?_|refine zd ?_ ?_<;>intro h<;>try omega|refine zy ?_|fail)<;>conv=>whnf
    ·exact ⟨hlt,trivial,[],rfl,rfl,trivial,⟨rfl,rfl,rfl,c6 (by rw [hst];simp [*,a3z,a7I]),aV8 (by rw [hst];simp [*,a3z]),rfl,rfl,rfl,trivial⟩⟩
    ·exact ⟨hlt,trivial,[],rfl,rfl,trivial,⟨rfl,rfl,rfl,c6 (by rw [hst];simp [*,a3z,a7I]),aV8 (by rw [hst];simp [*,a3z]),rfl,rfl,rfl,trivial⟩⟩
   |some b=>
    rw [hf] at hst
    obtain ⟨hb,cb,hcb,_⟩:=K3 hf
    have hsb:=aC5 hcb
    conv=>whnf
    repeat' (first|refine zz ?_|refine qp cv ?_|refine b9 hc ?_|refine b9 hcb ?_|refine zd ?_ ?_<;>intro h<;>try omega|refine zy ?_|fail)<;>conv=>whnf
    all_goals first
     |exact ⟨hlt,trivial,[],rfl,rfl,trivial,⟨rfl,rfl,rfl,c6 (by rw [hst];simp [*,a3z,a7I]),aV8 (by rw [hst];simp [*,a3z]),rfl,rfl,rfl,trivial⟩⟩
     |(exfalso;simp_all;done)
 ·have hke:k=cs.length:=by omega
  subst hke
  conv=>whnf
  repeat' (first|refine zz ?_|refine zd ?_ ?_<;>intro h<;>try omega|refine zy ?_|fail)<;>conv=>whnf
  all_goals first
   |omega
   |exact j2 ⟨rfl,rfl,trivial⟩
theorem av3 (r:B4) (scale day:Int):a9 Tryz.prog 250 (.agg (r.row.map .t)::[aw2 scale,aw2 day].map fun x=>.c (.t x)) [] (d6 (decide (r.scale=scale) && decide (r.since<=day))) []:=by
 (refine ac Tryz.func250 ?_;(conv=>whnf);repeat (refine zy ?_;conv=>whnf))
 repeat' (first|refine zz ?_|refine zd ?_ ?_<;>intro h<;>try omega|refine zy ?_|fail)<;>conv=>whnf
 all_goals (refine b7 ?_;simp [*];try omega)
abbrev b7S (r:B4):S:=.agg (r.row.map .t)
def C9 {α:Type} (q:α->Bool):List α->Nat->Int
 |[],_=>-1
 |x::r,k=>if q x then k else C9 q r (k+1)
theorem a3e {α:Type} (q:α->Bool):∀(l:List α) (k:Nat),decide (0<=C9 q l k)=l.any q
 |[],k=>by simp [C9]
 |x::r,k=>by
  unfold C9
  rw [List.any_cons]
  cases h:q x with
  |true=>simp
  |false=>simpa using a3e q r (k+1)
theorem aR0 (rs:List B4) (hl:rs.length<=1000000) (g:FuncId) (caps:List T) (q:B4->Bool) (hg:∀r ∈ rs,a9 Tryz.prog g (b7S r::caps.map fun x=>.c (.t x)) [] (d6 (q r)) []):
 a9 Tryz.prog 289 [.c (.t (G8 rs)),.c (.t (.fn (.func g) caps))] [] (a7 .i64 (C9 q rs 0)) []:=by
 have l1:(rs.map B4.row).length=rs.length:=by simp
 (refine ac Tryz.func289 ?_;(conv=>whnf);repeat (refine zy ?_;conv=>whnf))
 repeat' (first|refine zz ?_|refine zd ?_ ?_<;>intro h<;>try omega|refine zy ?_|fail)<;>conv=>whnf
 refine d7 c8 (fun k=>([S.c (C.t (G8 rs)),S.c (C.t (T.fn (.func g) caps)),J,J,J,J,J,a7 .i64 rs.length,a7 .i64 k,J,J,J,J,J,J,J,J,J,J],[])) rs.length (fun k=>C9 q (rs.drop k) k=C9 q rs 0) [] rfl
  ⟨rfl,rfl,trivial,⟨g7 rfl,g7 rfl,c6 (by simp),rfl,trivial⟩⟩ ?_
 intro k hk hI
 by_cases hlt:k<rs.length
 ·obtain ⟨r,hr⟩:∃r,rs[k]? =some r:=⟨_,lg0 hlt⟩
  have hd:rs.drop k=r::rs.drop (k+1):=by
   rw [List.drop_eq_getElem_cons hlt]
   rw [lg0 hlt] at hr
   injection hr with hr
   rw [hr]
  have hgr:=hg r (lg2 hr)
  have ha:(b7S r::caps.map fun x=>S.c (C.t x)).all S.isT=true:=by simp [S.isT,C.isT,B4.row]
  rw [hd] at hI
  have hI:(if q r then (k:Int) else C9 q (rs.drop (k+1)) (k+1))=C9 q rs 0:=hI
  cases hq:q r with
  |true=>
   rw [hq] at hgr hI
   conv=>whnf
   repeat' (first|refine zz ?_|refine .inl ⟨_,_,z6 hgr ha rfl,?_⟩|refine b9 hr ?_|refine zd ?_ ?_<;>intro h<;>try omega|refine zy ?_|fail)<;>conv=>whnf
   all_goals first
    |omega
    |exact j1 hI
  |false=>
   rw [hq] at hgr hI
   conv=>whnf
   repeat' (first|refine zz ?_|refine .inl ⟨_,_,z6 hgr ha rfl,?_⟩|refine b9 hr ?_|refine zd ?_ ?_<;>intro h<;>try omega|refine zy ?_|fail)<;>conv=>whnf
   all_goals first
    |omega
    |exact ⟨hlt,by simpa using hI,[],rfl,rfl,trivial,⟨rfl,rfl,rfl,rfl,trivial⟩⟩
 ·have hke:k=rs.length:=by omega
  subst hke
  rw [List.drop_of_length_le (Nat.le_refl _)] at hI
  conv=>whnf
  repeat' (first|refine zz ?_|refine zd ?_ ?_<;>intro h<;>try omega|refine zy ?_|fail)<;>conv=>whnf
  all_goals first
   |omega
   |exact j1 hI
theorem ad9 (rs:List B4) (hl:rs.length<=1000000) (g:FuncId) (caps:List T) (q:B4->Bool) (hg:∀r ∈ rs,a9 Tryz.prog g (b7S r::caps.map fun x=>.c (.t x)) [] (d6 (q r)) []):
 a9 Tryz.prog 249 [.c (.t (G8 rs)),.c (.t (.fn (.func g) caps))] [] (d6 (rs.any q)) []:=by
 have ix:=aR0 rs hl g caps q hg
 (refine ac Tryz.func249 ?_;(conv=>whnf);repeat (refine zy ?_;conv=>whnf))
 repeat' (first|refine zz ?_|refine qp ix ?_|refine zd ?_ ?_<;>intro h<;>try omega|refine zy ?_|fail)<;>conv=>whnf
 all_goals (refine b7 ?_;rw [← a3e q rs 0];simp;omega)
theorem aU8 (rs:List B4) (hl:rs.length<=1000000) (scale day:Int):a9 Tryz.prog 191 [.c (.t (G8 rs)),a7 .i64 scale,a7 .i64 day] [] (d6 (a1G rs scale day)) []:=by
 have ct:=ad9 rs hl 250 [aw2 scale,aw2 day] _ (fun r _=>av3 r scale day)
 (refine ac Tryz.func191 ?_;(conv=>whnf);repeat ((first|refine b0x ?_|refine zy ?_);conv=>whnf))
 repeat' (first|refine zz ?_|refine qp ct ?_|refine zd ?_ ?_<;>intro h<;>try omega|refine zy ?_|fail)<;>conv=>whnf
 all_goals (refine b7 ?_;symm;assumption)
theorem a32 {c:I6} {day:Int} (h:G7 c day=true):0<=c.since∧c.since<=day∧day<=c.till∧c.till<=100000∧0<=c.grams∧c.grams<=1099511627776∧0<=c.permille∧c.permille<=1000∧0<=c.drift∧c.drift<=10000000:=by
 unfold G7 N0 btw at h
 simp only [Bool.and_eq_true,decide_eq_true_eq] at h
 omega
abbrev E5:Fr:=⟨⟨0,[]⟩,⟨0,[]⟩⟩
theorem b3p {f f':Fr} {b b':Bool} {H1:Hp} (h:f=f') (h2:b=b'):Fin 0 (.tup [frS f,d6 b]) H1 (.tup [frS f',d6 b']) []:=by
 subst h h2;exact j2 ⟨⟨rfl,rfl,rfl,rfl,trivial⟩,rfl,trivial⟩
structure b1W (c:I6) (reading day:Int):Prop where
 p0:0<=c.permille*reading
 p1:c.permille*reading<=1000*1099511627776
 d0:0<=c.drift*(day - c.since)
 d1:c.drift*(day - c.since)<=10000000*100000
theorem b1W.of {c:I6} {reading day:Int} (h:G7 c day=true) (hr:btw reading 0 1099511627776=true):b1W c reading day:=by
 have hc:=a32 h
 rw [T7] at hr
 exact ⟨Int.mul_nonneg (by omega) (by omega),Int.mul_le_mul (by omega) (by omega) (by omega) (by omega),Int.mul_nonneg (by omega) (by omega),Int.mul_le_mul (by omega) (by omega) (by omega) (by omega)⟩
theorem aP9 {c:I6} {reading day:Int} (h:G7 c day=true) (hr:btw reading 0 1099511627776=true):rl (a25 c reading day)<=9:=by
 have i:=b1W.of h hr
 have hc:=a32 h
 obtain ⟨p0,p1,d0,d1⟩:=i
 unfold a25
 have h1:=a3Z (Rat.divInt (c.permille*reading) 1000) ((c.grams+c.drift*(day - c.since):Int):Rat)
 have h2:rl (Rat.divInt (c.permille*reading) 1000)<=4:=Nat.le_trans (O5 (by decide)) (by have:=S0 (x:=c.permille*reading) (by omega) (by omega);have:=S0 (x:=1000) (by decide) (by decide);omega)
 have h3:rl ((c.grams+c.drift*(day - c.since):Int):Rat)<=4:=by rw [a2c];have:=S0 (x:=c.grams+c.drift*(day - c.since)) (by omega) (by omega);omega
 omega
theorem b57 (c:I6) (reading day:Int) (h:G7 c day=true):a9 Tryz.prog 192 [aA6 c,a7 .i64 reading,a7 .i64 day] []
 (.tup [frS (if btw reading 0 1099511627776 then fz (a25 c reading day) else E5),d6 (btw reading 0 1099511627776)]) []:=by
 have cv:=aE9 c day
 have wi:=a3X reading 1099511627776
 rw [h] at cv
 have hc:=a32 h
 cases hr:btw reading 0 1099511627776 with
 |false=>
  rw [hr] at wi
  (refine ac Tryz.func192 ?_;(conv=>whnf);repeat (refine zy ?_;conv=>whnf))
  repeat' (first|refine zz ?_|refine qp cv ?_|refine qp wi ?_|refine zd ?_ ?_<;>intro h<;>try omega|refine zy ?_|fail)<;>conv=>whnf
  all_goals first
   |(exfalso;simp_all;done)
   |exact j2 ⟨⟨rfl,rfl,rfl,rfl,trivial⟩,rfl,trivial⟩
 |true=>
  rw [hr] at wi
  obtain ⟨p0,p1,d0,d1⟩:=b1W.of h hr
  rw [T7] at hr
  have fo:=b36 (c.permille*reading) 1000 (by decide) (by omega) (by omega) (by decide) (by decide)
  have fi:=I3 (c.grams+c.drift*(day - c.since)) (by omega) (by omega)
  have h2:rl (Rat.divInt (c.permille*reading) 1000)<=4:=Nat.le_trans (O5 (by decide)) (by have:=S0 (x:=c.permille*reading) (by omega) (by omega);have:=S0 (x:=1000) (by decide) (by decide);omega)
  have h3:rl ((c.grams+c.drift*(day - c.since):Int):Rat)<=4:=by rw [a2c];have:=S0 (x:=c.grams+c.drift*(day - c.since)) (by omega) (by omega);omega
  have ad:=a28 (Rat.divInt (c.permille*reading) 1000) ((c.grams+c.drift*(day - c.since):Int):Rat) (by omega) (by omega)
  (refine ac Tryz.func192 ?_;(conv=>whnf);repeat (refine zy ?_;conv=>whnf))
  repeat' (first|refine zz ?_|refine qp cv ?_|refine qp wi ?_|refine qp fo ?_|refine qp fi ?_|refine qp ad ?_|refine qp 7 ?_|refine qp 15 ?_|refine bl0 [7] ?_|refine bl0 [15] ?_|refine zd ?_ ?_<;>intro h<;>try omega|refine zy ?_|fail)<;>conv=>whnf
  all_goals first
   |(exfalso;simp_all;done)
   |exact b3p rfl rfl
abbrev ivL (o:Option (Rat × Rat)):List S:=match o with
 |some (lo,hi)=>[frS (fz lo),frS (fz hi),d6 true]
 |none=>[frS E5,frS E5,d6 false]
theorem b6c {x y:Rat} {n:Nat} (h1:rl x<=n) (h2:rl y<=n):rl (au4 x y)<=n:=by unfold au4;split<;>assumption
theorem aA0 {cs:List I6} {rs:List B4} {scale reading day:Int} {lo hi:Rat} (h:H4 cs rs scale reading day=some (lo,hi)):rl lo<=20∧rl hi<=20:=by
 unfold H4 at h
 split at h
 ·cases h
 ·rename_i i hi
  obtain ⟨hb,c,hc,_,hcv⟩:=K3 hi
  have e:a0D cs i=c:=by unfold a0D;rw [hc];rfl
  rw [e] at h
  split at h
  ·cases h
  ·split at h
   ·rename_i hr
    injection h with h
    injection h with h1 h2
    have l1:=aP9 hcv hr
    rw [T7] at hr
    have l2:rl (reading:Rat)<=4:=by rw [a2c];have:=S0 (x:=reading) (by omega) (by omega);omega
    have l3:=a3Z (reading:Rat) (a25 c reading day)
    have l4:=aM8 (reading:Rat) (a25 c reading day)
    refine ⟨?_,by rw [← h2];omega⟩
    rw [← h1]
    exact b6c (by omega) (by rw [b0b];omega)
   ·cases h
theorem aP4 (cs:List I6) (rs:List B4) (hl:cs.length<=1000000) (hl2:rs.length<=1000000) (scale reading day:Int):
 a9 Tryz.prog 116 [.c (.t (Y3 cs)),.c (.t (G8 rs)),a7 .i64 scale,a7 .i64 reading,a7 .i64 day] [] (.tup (ivL (H4 cs rs scale reading day))) []:=by
 have f:=b8e cs scale day hl
 have r:=aU8 rs hl2 scale day
 unfold H4
 cases hf:y9 cs scale day cs.length with
 |none=>
  rw [hf] at f
  (refine ac Tryz.func116 ?_;(conv=>whnf);repeat (refine zy ?_;conv=>whnf))
  repeat' (first|refine zz ?_|refine qp f ?_|refine qp r ?_|refine qp 1 ?_|refine qp 6 ?_|refine bl0 [1] ?_|refine bl0 [6] ?_|refine zd ?_ ?_<;>intro h<;>try omega|refine zy ?_|fail)<;>conv=>whnf
  all_goals first
   |(exfalso;simp_all;done)
   |exact j2 ⟨⟨rfl,rfl,rfl,rfl,trivial⟩,⟨rfl,rfl,rfl,rfl,trivial⟩,rfl,trivial⟩
 |some i=>
  rw [hf] at f
  obtain ⟨hb,c,hc,_,hcv⟩:=K3 hf
  have e:a0D cs i=c:=by unfold a0D;rw [hc];rfl
  have er:=b57 c reading day hcv
  simp only [e]
  cases hrec:a1G rs scale day with
  |true=>
   rw [hrec] at r
   (refine ac Tryz.func116 ?_;(conv=>whnf);repeat (refine zy ?_;conv=>whnf))
   repeat' (first|refine zz ?_|refine qp f ?_|refine qp r ?_|refine qp 1 ?_|refine qp 6 ?_|refine bl0 [1] ?_|refine bl0 [6] ?_|refine zd ?_ ?_<;>intro h<;>try omega|refine zy ?_|fail)<;>conv=>whnf
   all_goals first
    |(exfalso;simp_all;done)
    |exact j2 ⟨⟨rfl,rfl,rfl,rfl,trivial⟩,⟨rfl,rfl,rfl,rfl,trivial⟩,rfl,trivial⟩
  |false=>
   rw [hrec] at r
   cases hr:btw reading 0 1099511627776 with
   |false=>
    rw [hr] at er
    (refine ac Tryz.func116 ?_;(conv=>whnf);repeat (refine zy ?_;conv=>whnf))
    repeat' (first|refine zz ?_|refine qp f ?_|refine qp r ?_|refine qp er ?_|refine qp 1 ?_|refine qp 9 ?_|refine b9 hc ?_|refine bl0 [1] ?_|refine bl0 [9] ?_|refine zd ?_ ?_<;>intro h<;>try omega|refine zy ?_|fail)<;>conv=>whnf
    all_goals first
     |exact j2 ⟨⟨rfl,rfl,rfl,rfl,trivial⟩,⟨rfl,rfl,rfl,rfl,trivial⟩,rfl,trivial⟩
     |(exfalso;simp_all;done)
   |true=>
    have l1:=aP9 hcv hr
    rw [hr] at er
    rw [T7] at hr
    have l2:rl (reading:Rat)<=4:=by rw [a2c];have:=S0 (x:=reading) (by omega) (by omega);omega
    have fi:=I3 reading (by omega) (by omega)
    have f0:=I3 0 (by omega) (by omega)
    have sb:=b3J (reading:Rat) (a25 c reading day) (by omega) (by omega)
    have ad:=a28 (reading:Rat) (a25 c reading day) (by omega) (by omega)
    have l4:=aM8 (reading:Rat) (a25 c reading day)
    have mx:=b7E ((reading:Rat) - a25 c reading day) ((0:Int):Rat) (by omega) (by rw [b0b];omega)
    (refine ac Tryz.func116 ?_;(conv=>whnf);repeat (refine zy ?_;conv=>whnf))
    repeat' (first|refine zz ?_|refine qp f ?_|refine qp r ?_|refine qp er ?_|refine qp fi ?_|refine qp f0 ?_|refine qp sb ?_|refine qp ad ?_|refine qp mx ?_|refine qp 1 ?_|refine qp 9 ?_|refine qp 5 ?_|refine b9 hc ?_|refine bl0 [1] ?_|refine bl0 [9] ?_|refine bl0 [5] ?_|refine zd ?_ ?_<;>intro h<;>try omega|refine zy ?_|fail)<;>conv=>whnf
    all_goals first
     |exact j2 ⟨⟨rfl,rfl,rfl,rfl,trivial⟩,⟨rfl,rfl,rfl,rfl,trivial⟩,rfl,trivial⟩
     |(exfalso;simp_all;done)
def k7 (f:Fr):List T:=[ti f.p.sg,I1 f.p.dl,ti f.q.sg,I1 f.q.dl]
abbrev C6 (l:List Fr):T:=.sl 4 .any (l.map k7)
abbrev i8 (l:List Fr):S:=.c (.t (C6 l))
def S8 (l:List Fr):List T:=[C6 l]
abbrev b6J (h:List (List Fr)):T:=.sl 1 .any (h.map S8)
abbrev a1R (h:List (List Fr)):S:=.c (.t (b6J h))
theorem Q7 (l:List Rat) {k:Nat} {x:Rat} (h:l[k]? =some x):(l.map fz)[k]? =some (fz x):=by rw [List.getElem?_map,h];rfl
theorem af6 {f f':Fr} {H1:Hp} (h:f=f'):Fin 0 (frS f) H1 (frS f') []:=by subst h;exact j2 ⟨rfl,rfl,rfl,rfl,trivial⟩
abbrev frB (f:Fr):Blk:={ mode:=.live,elem:=83,size:=4,rows:=[frC f],box:=true }
theorem u3 (f:Fr):I2 [frC f]:=by
 intro r hr c hc
 simp at hr
 subst hr
 simp [frC] at hc
 rcases hc with rfl|rfl|rfl|rfl<;>rfl
theorem b0n {x:Rat}:sgR x<0↔x<0:=by unfold sgR;split<;>(try split)<;>simp_all
theorem b5c {x y:Rat}:a0E x y<=0↔x<=y:=by
 unfold a0E
 split
 ·simp;grind
 ·split
  ·simp;grind
  ·simp;grind
theorem a0A {x y:Rat}:a0E x y > 0↔y<x:=by
 have:=b5c (x:=x) (y:=y)
 constructor
 ·intro h;have h2:¬x<=y:=fun h'=>by have:=this.2 h';omega
  grind
 ·intro h;have h2:¬a0E x y<=0:=fun h'=>by have:=this.1 h';grind
  omega
def I8.row (f:I8):List T:=[ti f.mv,ti f.kind,ti f.grams]
def R9.row (c:R9):List T:=[ti c.mv,ti c.kind]
abbrev ab2 (l:List I8):T:=.sl 3 .any (l.map I8.row)
abbrev a1N (l:List R9):T:=.sl 2 .any (l.map R9.row)
def trT (t:f5):List T:=[ti t.ev.mats,ti t.ev.hhs,ti t.ev.scs,a0T t.ev.places,a1v t.ev.moves,Y3 t.ev.certs,G8 t.ev.recalls,a0f t.ev.purities,ab2 t.finds,a1N t.cleans]
def trC (t:f5):List C:=[.t (ti t.ev.mats),.t (ti t.ev.hhs),.t (ti t.ev.scs),.t (a0T t.ev.places),.t (a1v t.ev.moves),.t (Y3 t.ev.certs),.t (G8 t.ev.recalls),.t (a0f t.ev.purities),.t (ab2 t.finds),.t (a1N t.cleans)]
abbrev trS (t:f5):S:=.agg (trC t)
structure f5.Sized (t:f5):Prop where
 ev:t.ev.Sized
 f:t.finds.length<=1000000
 c:t.cleans.length<=1000000
theorem a2p {x:Rat}:sgR x=0↔x=0:=by unfold sgR;split<;>(try split)<;>simp_all<;>grind
theorem b3T (e:Ev) (mv kind:Int):a9 Tryz.prog 59 [evS e,a7 .i64 mv,a7 .i64 kind] [] (a7 .i64 (a0N e mv kind)) []:=by
 have l2:(e.moves.map x8.row).length=e.moves.length:=by simp
 (refine ac Tryz.func59 ?_;(conv=>whnf);repeat ((first|refine b0x ?_|refine zy ?_);conv=>whnf))
 repeat' (first|refine zz ?_|refine zd ?_ ?_<;>intro h<;>try omega|refine zy ?_|fail)<;>conv=>whnf
 all_goals (refine j1 ?_;unfold a0N;(repeat' split)<;>first|rfl|omega)
theorem aw9 (t:f5) (hs:t.Sized):a9 Tryz.prog 16 [trS t] [] (a7 .i64 (u0 t)) []:=by
 have l1:=hs.f
 have l2:=hs.c
 have ck:=b6b t.ev hs.ev
 have m1:(t.finds.map I8.row).length=t.finds.length:=by simp
 have m2:(t.cleans.map R9.row).length=t.cleans.length:=by simp
 by_cases h0:B7 t.ev≠0
 ·have e1:u0 t=B7 t.ev:=by unfold u0;rw [if_pos h0]
  rw [e1]
  (refine ac Tryz.func16 ?_;(conv=>whnf);repeat ((first|refine b0x ?_|refine zy ?_);conv=>whnf))
  repeat' (first|refine zz ?_|refine qp ck ?_|refine zd ?_ ?_<;>intro h<;>try omega|refine zy ?_|fail)<;>conv=>whnf
  all_goals first
   |omega
   |exact j1 rfl
 have h0:B7 t.ev=0:=by omega
 rw [h0] at ck
 by_cases h1:20<t.finds.length∨50<t.cleans.length
 ·have e1:u0 t=6:=by unfold u0;rw [if_neg (by omega),if_pos h1]
  rw [e1]
  (refine ac Tryz.func16 ?_;(conv=>whnf);repeat ((first|refine b0x ?_|refine zy ?_);conv=>whnf))
  repeat' (first|refine zz ?_|refine qp ck ?_|refine zd ?_ ?_<;>intro h<;>try omega|refine zy ?_|fail)<;>conv=>whnf
  all_goals first
   |omega
   |exact j1 rfl
 have e1:u0 t=if L5 t.ev t.finds≠0 then L5 t.ev t.finds else K9 t.ev t.cleans:=by unfold u0;rw [if_neg (by omega),if_neg h1]
 rw [e1]
 (refine ac Tryz.func16 ?_;(conv=>whnf);repeat ((first|refine b0x ?_|refine zy ?_);conv=>whnf))
 repeat' (first|refine zz ?_|refine qp ck ?_|refine zd ?_ ?_<;>intro h<;>try omega|refine zy ?_|fail)<;>conv=>whnf
 all_goals try omega
 refine d7 c8 (fun k=>([J,S.c (C.t (T.ptr (trT t))),J,J,J,J,J,J,J,J,J,J,J,J,J,J,J,J,J,J,J,J,J,J,J,J,J,S.c (C.t (ab2 t.finds)),a7 .i64 t.finds.length,a7 .i64 k,J,J,J,J,J,J,J,J,J,J,J,J,J,J,J,J,J,J,J,J,J,J,J,J,J,J,J,J,J,J,J,J,J,J,J,J,J,J,J,J],[])) t.finds.length (fun k=>L5 t.ev t.finds=L5 t.ev (t.finds.drop k)) [] rfl
  ⟨rfl,rfl,trivial,⟨rfl,rfl,c6 (by simp),rfl,trivial⟩⟩ ?_
 intro k hk hI
 by_cases hlt:k<t.finds.length
 ·obtain ⟨f,hf⟩:∃f,t.finds[k]? =some f:=⟨_,lg0 hlt⟩
  have mk:=b3T t.ev f.mv f.kind
  rw [a0p hf,L5] at hI
  by_cases hm:a0N t.ev f.mv f.kind≠0
  ·rw [if_pos hm] at hI
   rw [hI,if_pos hm]
   conv=>whnf
   repeat' (first|refine zz ?_|refine qp mk ?_|refine b9 hf ?_|refine zd ?_ ?_<;>intro h<;>try omega|refine zy ?_|fail)<;>conv=>whnf
   all_goals first
    |omega
    |exact j1 rfl
  ·rw [if_neg hm] at hI
   by_cases hg:f.grams<1∨1099511627776<f.grams
   ·rw [if_pos hg] at hI
    rw [hI]
    conv=>whnf
    repeat' (first|refine zz ?_|refine qp mk ?_|refine b9 hf ?_|refine zd ?_ ?_<;>intro h<;>try omega|refine zy ?_|fail)<;>conv=>whnf
    all_goals first
     |omega
     |exact j1 rfl
   ·rw [if_neg hg] at hI
    conv=>whnf
    repeat' (first|refine zz ?_|refine qp mk ?_|refine b9 hf ?_|refine zd ?_ ?_<;>intro h<;>try omega|refine zy ?_|fail)<;>conv=>whnf
    all_goals first
     |omega
     |exact ⟨hlt,hI,[],rfl,rfl,trivial,⟨rfl,rfl,rfl,rfl,trivial⟩⟩
 ·rw [List.drop_of_length_le (by omega)] at hI
  have hI:L5 t.ev t.finds=0:=hI
  rw [hI,if_neg (by omega)]
  conv=>whnf
  repeat' (first|refine zz ?_|refine zd ?_ ?_<;>intro h<;>try omega|refine zy ?_|fail)<;>conv=>whnf
  all_goals try omega
  refine d7 c8 (fun k=>([J,S.c (C.t (T.ptr (trT t))),J,J,J,J,J,J,J,J,J,J,J,J,J,J,J,J,J,J,J,J,J,J,J,J,J,J,J,J,J,J,J,J,J,J,J,J,J,J,J,J,J,J,J,J,J,J,J,J,J,J,J,S.c (C.t (a1N t.cleans)),a7 .i64 t.cleans.length,a7 .i64 k,J,J,J,J,J,J,J,J,J,J,J,J,J,J],[])) t.cleans.length (fun k=>K9 t.ev t.cleans=K9 t.ev (t.cleans.drop k)) [] rfl
   ⟨rfl,rfl,trivial,⟨rfl,rfl,c6 (by simp),rfl,trivial⟩⟩ ?_
  intro j hj hJ
  by_cases hjt:j<t.cleans.length
  ·obtain ⟨c,hc⟩:∃c,t.cleans[j]? =some c:=⟨_,lg0 hjt⟩
   have mk:=b3T t.ev c.mv c.kind
   rw [a0p hc,K9] at hJ
   by_cases hm:a0N t.ev c.mv c.kind≠0
   ·rw [if_pos hm] at hJ
    rw [hJ]
    conv=>whnf
    repeat' (first|refine zz ?_|refine qp mk ?_|refine b9 hc ?_|refine zd ?_ ?_<;>intro h<;>try omega|refine zy ?_|fail)<;>conv=>whnf
    all_goals first
     |omega
     |exact j1 rfl
   ·rw [if_neg hm] at hJ
    conv=>whnf
    repeat' (first|refine zz ?_|refine qp mk ?_|refine b9 hc ?_|refine zd ?_ ?_<;>intro h<;>try omega|refine zy ?_|fail)<;>conv=>whnf
    all_goals first
     |omega
     |exact ⟨hjt,hJ,[],rfl,rfl,trivial,⟨rfl,rfl,rfl,rfl,trivial⟩⟩
  ·rw [List.drop_of_length_le (by omega)] at hJ
   have hJ:K9 t.ev t.cleans=0:=hJ
   rw [hJ]
   conv=>whnf
   repeat' (first|refine zz ?_|refine zd ?_ ?_<;>intro h<;>try omega|refine zy ?_|fail)<;>conv=>whnf
   all_goals first
    |omega
    |exact j1 rfl
theorem b8P (e:Ev) {i:Nat} {x:x8} (h0:B7 e=0) (hx:e.moves[i]? =some x):a9 Tryz.prog 70 [evS e,a7 .i64 i] [] (d6 (decide (u4 e x.src=0))) []:=by
 have hm:=N4 h0 (lg2 hx)
 have ms:=a1g hm
 obtain ⟨s,hsn⟩:∃s:Nat,x.src=s:=⟨x.src.toNat,by omega⟩
 obtain ⟨pl,hpl⟩:∃pl,e.places[s]? =some pl:=⟨_,lg0 (by omega)⟩
 have hkd:u4 e x.src=pl.kind:=by rw [hsn];exact an2 hpl
 rw [hkd]
 (refine ac Tryz.func70 ?_;(conv=>whnf);repeat ((first|refine b0x ?_|refine zy ?_);conv=>whnf))
 repeat' (first|refine zz ?_|refine b9 hx ?_|refine u5 hsn hpl ?_|refine zd ?_ ?_<;>intro h<;>try omega|refine zy ?_|fail)<;>conv=>whnf
 all_goals (refine b7 ?_;simp [*])
def i9 (x:Int × Rat):List T:=ti x.1::k7 (fz x.2)
abbrev a6U (l:List (Int × Rat)):T:=.sl 5 .any (l.map i9)
def w5 (w:C2):List T:=a6U w.terms::ti w.kind::k7 (fz w.value)
def b9q (w:C2):List C:=.t (a6U w.terms)::.t (ti w.kind)::frC (fz w.value)
abbrev ax5 (w:C2):S:=.agg (b9q w)
abbrev E1 (l:List C2):T:=.sl 6 .any (l.map w5)
abbrev Q3 (s:f8):S:=.agg [.t (ti s.n),.t (E1 s.rows)]
abbrev zR:Rat:=((0:Int):Rat)
theorem X9 {e:Ev} (h:B7 e=0):1<=e.mats∧e.mats<=6∧e.places.length<=100∧e.moves.length<=200:=by
 obtain ⟨h1,h2,_⟩:=a9B h
 unfold a1h at h1
 simp only [Bool.or_eq_false_iff,decide_eq_false_iff_not] at h1
 omega
abbrev j7 (l:List (Int × Rat)):S:=.c (.t (a6U l))
def a2z (l:List (Int × Rat)):Nat->Int
 |0=>-1
 |k+1=>((l[k]?).map (·.1)).getD 0
theorem Q6 {l:List (Int × Rat)} {k:Nat} {t:Int × Rat} (h:l[k]? =some t):a2z l (k+1)=t.1:=by simp [a2z,h]
theorem J8 (l:List (Int × Rat)) (n:Int) (hl:l.length<=1000000) (hB:∀t ∈ l,rl t.2<=200):a9 Tryz.prog 161 [j7 l,a7 .i64 n] [] (d6 (decide (0<=n) && e8 (-1) n l)) []:=by
 have m1:(l.map i9).length=l.length:=by simp
 by_cases h0:n<0
 ·rw [decide_eq_false (by omega),Bool.false_and]
  (refine ac Tryz.func161 ?_;(conv=>whnf);repeat ((first|refine b0x ?_|refine zy ?_);conv=>whnf))
  repeat' (first|refine zz ?_|refine zd ?_ ?_<;>intro h<;>try omega|refine zy ?_|fail)<;>conv=>whnf
  all_goals first
   |omega
   |exact b7 rfl
 rw [decide_eq_true (by omega),Bool.true_and]
 (refine ac Tryz.func161 ?_;(conv=>whnf);repeat ((first|refine b0x ?_|refine zy ?_);conv=>whnf))
 repeat' (first|refine zz ?_|refine zd ?_ ?_<;>intro h<;>try omega|refine zy ?_|fail)<;>conv=>whnf
 all_goals try omega
 refine d7 c8 (fun k=>([J,a7 .i64 n,J,J,J,a7 .i64 (a2z l k),J,J,J,J,j7 l,a7 .i64 l.length,a7 .i64 k,J,J,J,J,J,J,J,J,J,J,J,J,J,J,J,J,J,J,J,J,J,J],[])) l.length (fun k=>e8 (-1) n l=e8 (a2z l k) n (l.drop k)) [] rfl
  ⟨rfl,rfl,trivial,⟨rfl,rfl,rfl,c6 (by simp),rfl,trivial⟩⟩ ?_
 intro k hk hI
 by_cases hlt:k<l.length
 ·obtain ⟨t,ht⟩:∃t,l[k]? =some t:=⟨_,lg0 hlt⟩
  obtain ⟨v,c⟩:=t
  have bc:=hB _ (lg2 ht)
  simp only at bc
  have sg:=Z4 c (by omega)
  have sz:=a2p (x:=c)
  rw [a0p ht,e8] at hI
  simp only at hI
  by_cases hok:a2z l k<v∧v<n∧c≠0
  ·rw [decide_eq_true hok.1,decide_eq_true hok.2.1,decide_eq_true hok.2.2] at hI
   simp only [Bool.true_and] at hI
   have hne:sgR c≠0:=fun h=>hok.2.2 (sz.1 h)
   obtain ⟨q1,q2,_⟩:=hok
   conv=>whnf
   repeat' (first|refine zz ?_|refine qp sg ?_|refine b9 ht ?_|refine zd ?_ ?_<;>intro h<;>try omega|refine zy ?_|fail)<;>conv=>whnf
   all_goals first
    |omega
    |exact ⟨hlt,by rw [Q6 ht];exact hI,[],rfl,rfl,trivial,⟨rfl,c6 (by rw [Q6 ht]),rfl,rfl,rfl,trivial⟩⟩
  ·have hF:e8 (-1) n l=false:=by
    rw [hI]
    rw [← Bool.not_eq_true]
    simp only [Bool.and_eq_true,decide_eq_true_eq]
    exact fun h=>hok ⟨h.1.1.1,h.1.1.2,h.1.2⟩
   rw [hF]
   have hor:v<=a2z l k∨n<=v∨sgR c=0:=by
    by_cases q1:a2z l k<v
    ·by_cases q2:v<n
     ·refine .inr (.inr (sz.2 ?_))
      by_cases q3:c=0
      ·exact q3
      ·exact absurd ⟨q1,q2,q3⟩ hok
     ·exact .inr (.inl (by omega))
    ·exact .inl (by omega)
   clear hI hok
   conv=>whnf
   repeat' (first|refine zz ?_|refine qp sg ?_|refine b9 ht ?_|refine zd ?_ ?_<;>intro h<;>try omega|refine zy ?_|fail)<;>conv=>whnf
   all_goals first
    |omega
    |exact b7 rfl
 ·rw [List.drop_of_length_le (by omega)] at hI
  have hI:e8 (-1) n l=true:=hI
  rw [hI]
  conv=>whnf
  repeat' (first|refine zz ?_|refine zd ?_ ?_<;>intro h<;>try omega|refine zy ?_|fail)<;>conv=>whnf
  all_goals first
   |omega
   |exact b7 rfl
structure a39 (s:f8):Prop where
 n0:s.rows.length<=1000000
 t:∀w ∈ s.rows,w.terms.length<=100∧(∀ t ∈ w.terms,rl t.2<=200)∧rl w.value<=200
theorem a3W (s:f8) (hb:a39 s):a9 Tryz.prog 108 [Q3 s] [] (d6 (g6 s)) []:=by
 have m1:(s.rows.map w5).length=s.rows.length:=by simp
 have l1:=hb.n0
 by_cases h0:¬(0<=s.n∧s.n<=1500∧s.rows.length<=6000)
 ·have e1:g6 s=false:=by
   unfold g6
   rw [← Bool.not_eq_true]
   simp only [Bool.and_eq_true,decide_eq_true_eq]
   exact fun h=>h0 ⟨h.1.1.1,h.1.1.2,h.1.2⟩
  rw [e1]
  (refine ac Tryz.func108 ?_;(conv=>whnf);repeat ((first|refine b0x ?_|refine zy ?_);conv=>whnf))
  repeat' (first|refine zz ?_|refine zd ?_ ?_<;>intro h<;>try omega|refine zy ?_|fail)<;>conv=>whnf
  all_goals first
   |omega
   |exact b7 rfl
 obtain ⟨c1,c2,c3⟩:=Decidable.not_not.1 h0
 have e1:g6 s=s.rows.all (s9 s.n):=by
  unfold g6
  rw [decide_eq_true c1,decide_eq_true c2,decide_eq_true c3];rfl
 rw [e1]
 clear h0
 (refine ac Tryz.func108 ?_;(conv=>whnf);repeat ((first|refine b0x ?_|refine zy ?_);conv=>whnf))
 repeat' (first|refine zz ?_|refine zd ?_ ?_<;>intro h<;>try omega|refine zy ?_|fail)<;>conv=>whnf
 all_goals try omega
 refine d7 c8 (fun k=>([J,S.c (C.t (T.ptr [ti s.n,E1 s.rows])),J,J,J,J,J,J,J,J,J,J,J,J,J,J,J,J,J,J,S.c (C.t (E1 s.rows)),a7 .i64 s.rows.length,a7 .i64 k,J,J,J,J,J,J,J,J,J,J,J,J,J,J,J,J,J,J,J,J,J,J,J,J,J,J],[])) s.rows.length (fun k=>(s.rows.take k).all (s9 s.n)=true) [] rfl
  ⟨rfl,rfl,trivial,⟨rfl,rfl,c6 (by simp),rfl,trivial⟩⟩ ?_
 intro k hk hI
 by_cases hlt:k<s.rows.length
 ·obtain ⟨w,hw⟩:∃w,s.rows[k]? =some w:=⟨_,lg0 hlt⟩
  obtain ⟨b1,b2,b3⟩:=hb.t w (lg2 hw)
  have rt:=J8 w.terms s.n (by omega) b2
  rw [decide_eq_true c1,Bool.true_and] at rt
  have rv:=G9 w.value (by omega)
  cases hrt:e8 (-1) s.n w.terms with
  |false=>
   rw [hrt] at rt
   have hF:s9 s.n w=false:=by unfold s9;rw [hrt];rfl
   rw [t7 hw hF]
   conv=>whnf
   repeat' (first|refine zz ?_|refine qp rt ?_|refine qp rv ?_|refine b9 hw ?_|refine zd ?_ ?_<;>intro h<;>try omega|refine zy ?_|fail)<;>conv=>whnf
   all_goals first
    |omega
    |(exfalso;simp_all;done)
    |exact b7 rfl
  |true=>
   rw [hrt] at rt
   by_cases hk3:0<=w.kind∧w.kind<3
   ·have hT:s9 s.n w=true:=by unfold s9;rw [hrt,decide_eq_true hk3.1,decide_eq_true hk3.2];rfl
    conv=>whnf
    repeat' (first|refine zz ?_|refine qp rt ?_|refine qp rv ?_|refine b9 hw ?_|refine zd ?_ ?_<;>intro h<;>try omega|refine zy ?_|fail)<;>conv=>whnf
    all_goals first
     |omega
     |(exfalso;simp_all;done)
     |exact ⟨hlt,by rw [n6 hw,hI,hT];rfl,[],rfl,rfl,trivial,⟨rfl,rfl,rfl,rfl,trivial⟩⟩
   ·have hF:s9 s.n w=false:=by
     unfold s9
     rw [← Bool.not_eq_true]
     simp only [Bool.and_eq_true,decide_eq_true_eq]
     exact fun h=>hk3 ⟨h.1.2,h.2⟩
    rw [t7 hw hF]
    conv=>whnf
    repeat' (first|refine zz ?_|refine qp rt ?_|refine qp rv ?_|refine b9 hw ?_|refine zd ?_ ?_<;>intro h<;>try omega|refine zy ?_|fail)<;>conv=>whnf
    all_goals first
     |omega
     |(exfalso;simp_all;done)
     |exact b7 rfl
 ·rw [lg4 (by omega)] at hI
  rw [hI]
  conv=>whnf
  repeat' (first|refine zz ?_|refine zd ?_ ?_<;>intro h<;>try omega|refine zy ?_|fail)<;>conv=>whnf
  all_goals first
   |omega
   |exact b7 rfl
theorem b0O (rs:List Fr) (hl:rs.length<=1000000) (g:FuncId) (caps:List T) (q:Fr->Bool) (hg:∀r ∈ rs,a9 Tryz.prog g (frS r::caps.map fun x=>.c (.t x)) [] (d6 (q r)) []):
 a9 Tryz.prog 243 [.c (.t (C6 rs)),.c (.t (.fn (.func g) caps))] [] (a7 .i64 (C9 q rs 0)) []:=by
 have l1:(rs.map k7).length=rs.length:=by simp
 (refine ac Tryz.func243 ?_;(conv=>whnf);repeat (refine zy ?_;conv=>whnf))
 repeat' (first|refine zz ?_|refine zd ?_ ?_<;>intro h<;>try omega|refine zy ?_|fail)<;>conv=>whnf
 refine d7 c8 (fun k=>([S.c (C.t (C6 rs)),S.c (C.t (T.fn (.func g) caps)),J,J,J,J,J,a7 .i64 rs.length,a7 .i64 k,J,J,J,J,J,J,J,J,J,J],[])) rs.length (fun k=>C9 q (rs.drop k) k=C9 q rs 0) [] rfl
  ⟨rfl,rfl,trivial,⟨g7 rfl,g7 rfl,c6 (by simp),rfl,trivial⟩⟩ ?_
 intro k hk hI
 by_cases hlt:k<rs.length
 ·obtain ⟨r,hr⟩:∃r,rs[k]? =some r:=⟨_,lg0 hlt⟩
  have hd:rs.drop k=r::rs.drop (k+1):=by
   rw [List.drop_eq_getElem_cons hlt]
   rw [lg0 hlt] at hr
   injection hr with hr
   rw [hr]
  have hgr:=hg r (lg2 hr)
  have ha:(frS r::caps.map fun x=>S.c (C.t x)).all S.isT=true:=by simp [S.isT,C.isT,k7]
  rw [hd] at hI
  have hI:(if q r then (k:Int) else C9 q (rs.drop (k+1)) (k+1))=C9 q rs 0:=hI
  cases hq:q r with
  |true=>
   rw [hq] at hgr hI
   conv=>whnf
   repeat' (first|refine zz ?_|refine .inl ⟨_,_,z6 hgr ha rfl,?_⟩|refine b9 hr ?_|refine zd ?_ ?_<;>intro h<;>try omega|refine zy ?_|fail)<;>conv=>whnf
   all_goals first
    |omega
    |exact j1 hI
  |false=>
   rw [hq] at hgr hI
   conv=>whnf
   repeat' (first|refine zz ?_|refine .inl ⟨_,_,z6 hgr ha rfl,?_⟩|refine b9 hr ?_|refine zd ?_ ?_<;>intro h<;>try omega|refine zy ?_|fail)<;>conv=>whnf
   all_goals first
    |omega
    |exact ⟨hlt,by simpa using hI,[],rfl,rfl,trivial,⟨rfl,rfl,rfl,rfl,trivial⟩⟩
 ·have hke:k=rs.length:=by omega
  subst hke
  rw [List.drop_of_length_le (Nat.le_refl _)] at hI
  conv=>whnf
  repeat' (first|refine zz ?_|refine zd ?_ ?_<;>intro h<;>try omega|refine zy ?_|fail)<;>conv=>whnf
  all_goals first
   |omega
   |exact j1 hI
theorem at8 (rs:List Fr) (hl:rs.length<=1000000) (g:FuncId) (caps:List T) (q:Fr->Bool) (hg:∀r ∈ rs,a9 Tryz.prog g (frS r::caps.map fun x=>.c (.t x)) [] (d6 (q r)) []):
 a9 Tryz.prog 177 [.c (.t (C6 rs)),.c (.t (.fn (.func g) caps))] [] (d6 (rs.any q)) []:=by
 have ix:=b0O rs hl g caps q hg
 (refine ac Tryz.func177 ?_;(conv=>whnf);repeat (refine zy ?_;conv=>whnf))
 repeat' (first|refine zz ?_|refine qp ix ?_|refine zd ?_ ?_<;>intro h<;>try omega|refine zy ?_|fail)<;>conv=>whnf
 all_goals (refine b7 ?_;rw [← a3e q rs 0];simp;omega)
theorem b4c (f:Fr) (lp:f.p.dl.length<=200000) (lq:f.q.dl.length<=200000):a9 Tryz.prog 178 (frS f::[].map fun x=>.c (.t x)) [] (d6 (!x4 f)) []:=by
 have r:=a6O f lp lq
 (refine ac Tryz.func178 ?_;(conv=>whnf);repeat ((first|refine b0x ?_|refine zy ?_);conv=>whnf))
 repeat' (first|refine zz ?_|refine qp r ?_|refine zd ?_ ?_<;>intro h<;>try omega|refine zy ?_|fail)<;>conv=>whnf
 all_goals (refine b7 ?_;simp [*])
theorem au5 (z:List Fr) (hl:z.length<=1000000) (hd:∀f ∈ z,f.p.dl.length<=200000∧f.q.dl.length<=200000):a9 Tryz.prog 109 [i8 z] [] (d6 (z.all x4)) []:=by
 have ct:=at8 z hl 178 [] _ (fun f hf=>b4c f (hd f hf).1 (hd f hf).2)
 have e:(z.any fun f=>!x4 f)=!(z.all x4):=by rw [List.not_all_eq_any_not]
 rw [e] at ct
 cases hz:z.all x4<;>rw [hz] at ct<;>
 ·(refine ac Tryz.func109 ?_;(conv=>whnf);repeat ((first|refine b0x ?_|refine zy ?_);conv=>whnf))
  repeat' (first|refine zz ?_|refine qp ct ?_|refine zd ?_ ?_<;>intro h<;>try omega|refine zy ?_|fail)<;>conv=>whnf
  all_goals exact b7 rfl
theorem a7v {n:Int}:∀{l:List (Int × Rat)} {last:Int},e8 last n l=true->∀t ∈ l,last<t.1∧t.1<n
 |[],_,_,t,ht=>by cases ht
 |u::r,last,h,t,ht=>by
  unfold e8 at h
  simp only [Bool.and_eq_true,decide_eq_true_eq] at h
  rcases List.mem_cons.1 ht with rfl|ht
  ·exact ⟨h.1.1.1,h.1.1.2⟩
  ·have:=a7v h.2 t ht
   omega
def rF (n:Nat) (g:Nat->Rat):List Fr:=(List.range n).map fun j=>fz (g j)
def mF (m n:Nat) (A:Nat->Nat->Rat):List (List Fr):=(List.range m).map fun i=>rF n (A i)
theorem N7 (n:Nat) (g:Nat->Rat):(rF n g).length=n:=by simp [rF]
theorem b8 (m n:Nat) (A:Nat->Nat->Rat):(mF m n A).length=m:=by simp [mF]
theorem D4 {n:Nat} {g:Nat->Rat} {j:Nat} (h:j<n):(rF n g)[j]? =some (fz (g j)):=by simp [rF,h]
theorem O9 {m n:Nat} {A:Nat->Nat->Rat} {i:Nat} (h:i<m):(mF m n A)[i]? =some (rF n (A i)):=by simp [mF,h]
theorem P1 {n:Nat} {g:Nat->Rat} {s:Nat} {v:Rat} (h:s<n):(rF n g).set s (fz v)=rF n (fun j=>if j=s then v else g j):=by
 apply List.ext_getElem?
 intro j
 by_cases hj:j<n
 ·rw [D4 hj,List.getElem?_set,N7]
  by_cases hjm:s=j
  ·subst hjm;simp [h]
  ·rw [if_neg hjm,D4 hj,if_neg (by omega)]
 ·rw [List.getElem?_eq_none (by simp [N7];omega),List.getElem?_eq_none (by simp [N7];omega)]
theorem w6 {n:Nat} {g h:Nat->Rat} (e:∀j,j<n->g j=h j):rF n g=rF n h:=List.map_congr_left fun j hj=>by rw [e j (List.mem_range.1 hj)]
theorem aC8 {m n:Nat} {A B:Nat->Nat->Rat} (e:∀i,i<m->∀j,j<n->A i j=B i j):mF m n A=mF m n B:=List.map_congr_left fun i hi=>w6 (e i (List.mem_range.1 hi))
theorem b3A {m n:Nat} {A:Nat->Nat->Rat} {r:Nat} {g:Nat->Rat} (h:r<m):(mF m n A).set r (rF n g)=mF m n (fun i=>if i=r then g else A i):=by
 apply List.ext_getElem?
 intro j
 by_cases hj:j<m
 ·rw [O9 hj,List.getElem?_set,b8]
  by_cases hjm:r=j
  ·subst hjm;simp [h]
  ·rw [if_neg hjm,O9 hj,if_neg (by omega)]
 ·rw [List.getElem?_eq_none (by simp [b8];omega),List.getElem?_eq_none (by simp [b8];omega)]
abbrev flB (l:List Fr):Blk:={ mode:=.live,elem:=83,size:=4,rows:=toC (l.map k7),box:=false }
theorem E6 {row:List Fr} {i n:Nat} {y:Fr} (h:n=i):u6 (flB row) ((toC (row.map k7)).set n (frC y))=flB (row.set i y):=by
 subst h
 unfold u6
 simp [toC,List.map_set,k7]
def P7 (b m n:Nat) (V:Nat->Rat):List (List C):=(List.range m).map fun i=>frC (fz (V i))++[C.own (i+b) 0 n true]
def a0H (m:Nat) (O:Nat->Nat):List (List T):=(List.range m).map fun i=>[ti (O i)]
def Z8 (l:List (Nat × Bool)):List (List T):=l.map fun f=>[ti f.1,tb f.2]
theorem A8 (b m n:Nat) (V:Nat->Rat):(P7 b m n V).length=m:=by simp [P7]
theorem w7 (m:Nat) (O:Nat->Nat):(a0H m O).length=m:=by simp [a0H]
theorem a2E {b m n:Nat} {V:Nat->Rat} {i:Nat} (h:i<m):(P7 b m n V)[i]? =some (frC (fz (V i))++[C.own (i+b) 0 n true]):=by simp [P7,h]
theorem a5Q {m:Nat} {O:Nat->Nat} {i:Nat} (h:i<m):(a0H m O)[i]? =some [ti (O i)]:=by simp [a0H,h]
theorem b1t {b m n:Nat} {V:Nat->Rat} {r:Nat} {v:Rat} (h:r<m):(P7 b m n V).set r (frC (fz v)++[C.own (r+b) 0 n true])=P7 b m n (fun i=>if i=r then v else V i):=by
 apply List.ext_getElem?
 intro j
 by_cases hj:j<m
 ·rw [a2E hj,List.getElem?_set,A8]
  by_cases hjm:r=j
  ·subst hjm;simp [h]
  ·rw [if_neg hjm,a2E hj,if_neg (by omega)]
 ·rw [List.getElem?_eq_none (by simp [A8];omega),List.getElem?_eq_none (by simp [A8];omega)]
theorem b46 {m:Nat} {O:Nat->Nat} {r v:Nat} (h:r<m):(a0H m O).set r [ti v]=a0H m (fun i=>if i=r then v else O i):=by
 apply List.ext_getElem?
 intro j
 by_cases hj:j<m
 ·rw [a5Q hj,List.getElem?_set,w7]
  by_cases hjm:r=j
  ·subst hjm;simp [h]
  ·rw [if_neg hjm,a5Q hj,if_neg (by omega)]
 ·rw [List.getElem?_eq_none (by simp [w7];omega),List.getElem?_eq_none (by simp [w7];omega)]
abbrev aN4 (m n k:Nat):Blk:={ mode:=.live,elem:=256,size:=6,rows:=[[C.t (ti n),.own 1 0 m true,.own 2 0 n true,.own 3 0 m true,.own 4 0 n true,.own 5 0 k true]],box:=true }
abbrev a0v (b m n:Nat) (V:Nat->Rat):Blk:={ mode:=.live,elem:=259,size:=5,rows:=P7 b m n V,box:=false }
abbrev X5 (m:Nat) (O:Nat->Nat):Blk:={ mode:=.live,elem:=3,size:=1,rows:=toC (a0H m O),box:=false }
abbrev a1E (l:List (Nat × Bool)):Blk:={ mode:=.live,elem:=284,size:=2,rows:=toC (Z8 l),box:=false }
abbrev Z0 (m n:Nat) (fr:List (Nat × Bool)) (D:Fd):Hp:=
 aN4 m n fr.length::a0v 6 m n D.V::flB (rF n D.G)::X5 m D.O::X5 n D.F::a1E fr::(mF m n D.A).map flB
theorem a2v {m n:Nat} {fr:List (Nat × Bool)} {D:Fd}:(Z0 m n fr D).length=m+6:=by simp [b8]
theorem a9k {b m n N:Nat} {V:Nat->Rat} (h:m+b<=N):okB N (a0v b m n V):=by
 intro r hr c hc
 obtain ⟨i,hi,rfl⟩:=List.mem_map.1 hr
 have:=List.mem_range.1 hi
 simp [frC] at hc
 rcases hc with rfl|rfl|rfl|rfl|rfl<;>first|trivial|(simp only;omega)
theorem aZ1 {m n k N:Nat} (h:6<=N):okB N (aN4 m n k):=by
 intro r hr c hc
 simp at hr
 subst hr
 simp at hc
 rcases hc with rfl|rfl|rfl|rfl|rfl|rfl<;>first|trivial|(simp only;omega)
theorem a6q {m n:Nat} {fr:List (Nat × Bool)} {D:Fd}:∀k ∈ Z0 m n fr D,okB (m+6) k:=by
 intro k hk
 simp only [List.mem_cons] at hk
 rcases hk with rfl|rfl|rfl|rfl|rfl|rfl|hk
 ·exact aZ1 (by omega)
 ·exact a9k (Nat.le_refl _)
 ·exact E7 rfl
 ·exact E7 rfl
 ·exact E7 rfl
 ·exact E7 rfl
 ·obtain ⟨l,_,rfl⟩:=List.mem_map.1 hk
  exact E7 rfl
theorem aZ5 (x:Rat):(fz x).p.sg=0↔x=0:=by
 show x.num.sign=0↔_
 rw [Int.sign_eq_zero_iff_zero,Rat.num_eq_zero]
theorem rl0:rl 0<=1:=by
 have h0:=o7 (x:=0) (by decide) (by decide)
 have h1:=o7 (x:=1) (by decide) (by decide)
 show max (bl 0) (bl 1)<=1
 omega
theorem rl1:rl 1<=1:=by
 have h1:=o7 (x:=1) (by decide) (by decide)
 show max (bl 1) (bl 1)<=1
 omega
theorem b7R (x y:Rat) (hy:y≠0) (lx:rl x<=60000) (ly:rl y<=60000):a9 Tryz.prog 301 [frS (fz x),frS (fz y)] [] (.tup [frS (fz (x / y)),a7 .i64 0]) []:=by
 have r1:=G9 x (by omega)
 have r2:=G9 y (by omega)
 have x1:=D8 x
 have x2:=F4 x
 have y1:=D8 y
 have y2:=F4 y
 have hn:y.num≠0:=fun h=>hy (Rat.num_eq_zero.1 h)
 have hs:y.num.sign≠0:=fun h=>hn (Int.sign_eq_zero_iff_zero.1 h)
 have hsg:=aZ5 y
 have l1:=D7 x.num y.den
 have l3:=D7 x.den y.num
 have t1:=a0V x.num y.den (by omega) (by omega)
 have t3:=a0V x.den y.num (by omega) (by omega)
 have n:=aq3 (x.num*y.den) (x.den*y.num) (Int.mul_ne_zero (aP2 x) hn) (by omega) (by omega)
 rw [← b4T] at n
 (refine ac Tryz.func301 ?_;(conv=>whnf);repeat (refine zy ?_;conv=>whnf))
 repeat' (first|refine zz ?_|refine qp r1 ?_|refine qp r2 ?_|refine qp t1 ?_|refine qp t3 ?_|refine qp n ?_|refine zd ?_ ?_<;>intro h<;>try omega|refine zy ?_|fail)<;>conv=>whnf
 all_goals first
  |(exfalso;simp_all;done)
  |exact U9 rfl
theorem a31 (x:Rat) (lx:rl x<=60000):a9 Tryz.prog 256 [frS (fz x)] [] (frS (fz (-x))) []:=by
 have r1:=G9 x (by omega)
 have x1:=D8 x
 have x2:=F4 x
 have n:=a73 x.num (by omega)
 have s:=a9o x.den (by omega)
 have e:fz (-x)=⟨bz (-x.num),bz x.den⟩:=rfl
 rw [e]
 (refine ac Tryz.func256 ?_;(conv=>whnf);repeat (refine zy ?_;conv=>whnf))
 repeat' (first|refine zz ?_|refine qp r1 ?_|refine qp n ?_|refine qp s ?_|refine zd ?_ ?_<;>intro h<;>try omega|refine zy ?_|fail)<;>conv=>whnf
 all_goals first
  |(exfalso;simp_all;done)
  |exact j2 ⟨rfl,rfl,rfl,rfl,trivial⟩
theorem a8P (x:Rat):a9 Tryz.prog 294 [frS (fz x)] [] (d6 (decide (x=0))) []:=by
 have h:=aZ5 x
 (refine ac Tryz.func294 ?_;(conv=>whnf);repeat (refine zy ?_;conv=>whnf))
 repeat' (first|refine zz ?_|refine zd ?_ ?_<;>intro h<;>try omega|refine zy ?_|fail)<;>conv=>whnf
 all_goals (refine b7 ?_;simp_all)
theorem aU3 (a b c:Rat) (la:rl a<=60000) (lb:rl b<=30000) (lc:rl c<=30000):a9 Tryz.prog 295 [frS (fz a),frS (fz b),frS (fz c)] [] (frS (fz (a - b*c))) []:=by
 have z1:=a8P b
 have z2:=a8P c
 have m:=a75 b c (by omega) (by omega)
 have lm:=a29 b c
 have s:=b3J a (b*c) la (by omega)
 by_cases hb:b=0
 ·have e:a - b*c=a:=by rw [hb];grind
  rw [e]
  (refine ac Tryz.func295 ?_;(conv=>whnf);repeat (refine zy ?_;conv=>whnf))
  repeat' (first|refine zz ?_|refine qp z1 ?_|refine qp z2 ?_|refine qp m ?_|refine qp s ?_|refine zd ?_ ?_<;>intro h<;>try omega|refine zy ?_|fail)<;>conv=>whnf
  all_goals first
   |(exfalso;simp_all;done)
   |exact j2 ⟨rfl,rfl,rfl,rfl,trivial⟩
 ·by_cases hc:c=0
  ·have e:a - b*c=a:=by rw [hc];grind
   rw [e]
   (refine ac Tryz.func295 ?_;(conv=>whnf);repeat (refine zy ?_;conv=>whnf))
   repeat' (first|refine zz ?_|refine qp z1 ?_|refine qp z2 ?_|refine qp m ?_|refine qp s ?_|refine zd ?_ ?_<;>intro h<;>try omega|refine zy ?_|fail)<;>conv=>whnf
   all_goals first
    |(exfalso;simp_all;done)
    |exact j2 ⟨rfl,rfl,rfl,rfl,trivial⟩
  ·(refine ac Tryz.func295 ?_;(conv=>whnf);repeat (refine zy ?_;conv=>whnf))
   repeat' (first|refine zz ?_|refine qp z1 ?_|refine qp z2 ?_|refine qp m ?_|refine qp s ?_|refine zd ?_ ?_<;>intro h<;>try omega|refine zy ?_|fail)<;>conv=>whnf
   all_goals first
    |(exfalso;simp_all;done)
    |exact j2 ⟨rfl,rfl,rfl,rfl,trivial⟩
theorem aQ2 (a b:Rat) (hb:b≠0) (la:rl a<=60000) (lb:rl b<=60000):a9 Tryz.prog 293 [frS (fz a),frS (fz b)] [] (frS (fz (a / b))) []:=by
 have d:=b7R a b hb la lb
 (refine ac Tryz.func293 ?_;(conv=>whnf);repeat (refine zy ?_;conv=>whnf))
 repeat' (first|refine zz ?_|refine qp d ?_|refine zd ?_ ?_<;>intro h<;>try omega|refine zy ?_|fail)<;>conv=>whnf
 all_goals exact j2 ⟨rfl,rfl,rfl,rfl,trivial⟩
def tkF (a row:Nat->Rat) (s k:Nat):Nat->Rat:=fun j=>if j<k∧j≠s then a j - a s*row j else a j
def tkA (a row:Nat->Rat) (s:Nat):Nat->Rat:=fun j=>if j=s then 0 - a s*row s else a j - a s*row j
def pZ (k n:Nat):List Fr:=(List.range n).map fun j=>if j<k then fz 0 else E5
theorem a93 (k n:Nat):(pZ k n).length=n:=by simp [pZ]
theorem a78 {k n j:Nat} (h:j<n):(pZ k n)[j]? =some (if j<k then fz 0 else E5):=by simp [pZ,h]
theorem b2U {k n:Nat} (h:k<n):(pZ k n).set k (fz 0)=pZ (k+1) n:=by
 apply List.ext_getElem?
 intro j
 by_cases hj:j<n
 ·rw [a78 hj,List.getElem?_set,a93]
  by_cases hjk:k=j
  ·subst hjk;simp [h]
  ·rw [if_neg hjk,a78 hj]
   have:(j<k+1)↔(j<k):=by omega
   simp only [this]
 ·rw [List.getElem?_eq_none (by simp [a93];omega),List.getElem?_eq_none (by simp [a93];omega)]
theorem b44 (n:Nat):pZ n n=rF n (fun _=>0):=List.map_congr_left fun j hj=>by rw [if_pos (List.mem_range.1 hj)]
theorem b6i (n:Nat) (hn:n<=1000):a9 Tryz.prog 254 [a7 .i64 n] [] (.c (.own 0 0 n true)) [flB (rF n fun _=>0)]:=by
 have i0:=I3 0 (by decide) (by decide)
 have hnn:(n:Int).toNat=n:=by omega
 (refine ac Tryz.func254 ?_;(conv=>whnf);repeat (refine zy ?_;conv=>whnf))
 repeat' (first|refine zz ?_|refine a3y (by omega) (by omega) (by omega) (by decide) ?_|refine zd ?_ ?_<;>intro h<;>try omega|refine zy ?_|fail)<;>conv=>whnf
 refine d7 c8 (fun k=>([a7 .i64 n,J,J,S.c (C.own 0 0 n true),J,J,J,J,a7 .i64 n,a7 .i64 k,J,J,J,J,J,J,J,J],[flB (pZ k n)])) n (fun _=>True) [some 0] trivial
  ⟨rfl,rfl,⟨⟨rfl,rfl,rfl,.inr (a5Z ?_ ?_)⟩,trivial⟩,⟨g7 rfl,⟨rfl,rfl,by omega,fun h=>h⟩,c6 (by omega),c6 rfl,trivial⟩⟩ ?_
 ·simp [E3,toC,a93]
 ·intro i x y hx hy
  simp only [E3,List.getElem?_replicate] at hx
  split at hx
  ·rename_i hi
   injection hx with hx
   subst hx
   have hy:(toC ((pZ 0 n).map k7))[i]? =some y:=hy
   rw [toC,List.getElem?_map,List.getElem?_map,a78 (by omega),if_neg (by omega)] at hy
   injection hy with hy
   subst hy
   exact ⟨rfl,rfl,rfl,rfl,trivial⟩
  ·cases hx
 intro k hk _
 by_cases hlt:k<n
 ·obtain ⟨pf,hpf⟩:∃pf,(pZ k n)[k]? =some pf:=⟨_,a78 hlt⟩
  have gp:(pZ k n)[0+(k:Int).toNat]? =some pf:=by rw [Nat.zero_add,show (k:Int).toNat=k by omega];exact hpf
  have eM:0+(k:Int).toNat=k:=by omega
  conv=>whnf
  repeat' (first|refine zz ?_|refine qp i0 ?_|refine n7 gp ?_|refine zd ?_ ?_<;>intro h<;>try omega|refine zy ?_|fail)<;>conv=>whnf
  all_goals first
   |omega
   |(refine ⟨hlt,trivial,[some 0],rfl,rfl,⟨a8 (rows:=(pZ (k+1) n).map k7) rfl rfl rfl ?_ rfl,trivial⟩,⟨rfl,⟨rfl,rfl,rfl,fun h=>h⟩,rfl,c6 (by omega),trivial⟩⟩
     have e:=E6 (row:=pZ k n) (y:=fz 0) eM
     rw [b2U hlt] at e
     exact congrArg Blk.rows e)
 ·have hke:k=n:=by omega
  subst hke
  conv=>whnf
  repeat' (first|refine zz ?_|refine zd ?_ ?_<;>intro h<;>try omega|refine zy ?_|fail)<;>conv=>whnf
  all_goals first
   |omega
   |exact ⟨[some 0],rfl,rfl,⟨a8 (rows:=(rF k fun _=>0).map k7) rfl rfl rfl (by rw [← b44]) rfl,trivial⟩,⟨rfl,rfl,rfl,fun h=>h⟩⟩
theorem b3w (a row:Nat->Rat) (s:Nat):tkF a row s 0=a:=by funext j;unfold tkF;rw [if_neg (by omega)]
theorem b7n (a row:Nat->Rat) (s k:Nat):tkF a row s k k=a k:=by unfold tkF;rw [if_neg (by omega)]
theorem b8T (a row:Nat->Rat) (s k:Nat):tkF a row s k s=a s:=by unfold tkF;rw [if_neg (by omega)]
theorem b2W {a row:Nat->Rat} {s k:Nat} (h:k≠s):(fun j=>if j=k then a k - a s*row k else tkF a row s k j)=tkF a row s (k+1):=by
 funext j
 by_cases hj:j=k
 ·subst hj;rw [if_pos rfl];unfold tkF;rw [if_pos ⟨by omega,h⟩]
 ·rw [if_neg hj];unfold tkF
  have:(j<k∧j≠s)↔(j<k+1∧j≠s):=by omega
  simp only [this]
theorem b2y {a row:Nat->Rat} {s:Nat}:tkF a row s s=tkF a row s (s+1):=by
 funext j;unfold tkF
 have:(j<s∧j≠s)↔(j<s+1∧j≠s):=by omega
 simp only [this]
theorem b5n {a row:Nat->Rat} {s n:Nat}:rF n (fun j=>if j=s then 0 - a s*row s else tkF a row s n j)=rF n (tkA a row s):=w6 fun j hj=>by
 unfold tkA tkF
 by_cases h:j=s
 ·rw [if_pos h,if_pos h]
 ·rw [if_neg h,if_neg h,if_pos ⟨hj,h⟩]
abbrev frX (x:Rat):Blk:={ mode:=.live,elem:=83,size:=4,rows:=[frC (fz x)],box:=true }
theorem aQ6 {ρ:List (Option Nat)} {H:Hp} (x:Rat):a4j ρ H (frX x) (frX x):=⟨rfl,rfl,rfl,.inl ⟨rfl,c7 [k7 (fz x)]⟩⟩
theorem b7a (n s:Nat) (a row:Nat->Rat) (hn:n<=1000) (hs:s<n) (ha:∀j,j<n->rl (a j)<=30000) (hr:∀j,j<n->rl (row j)<=30000):
 a9 Tryz.prog 296 [.c (.own 0 0 n true),.c (.own 1 0 n true),a7 .i64 s] [flB (rF n a),flB (rF n row)] (.tup []) [flB (rF n (tkA a row s)),flB (rF n row)]:=by
 have i0:=I3 0 (by decide) (by decide)
 have ls:=ha s hs
 have eS:0+(s:Int).toNat=s:=by omega
 have gs:(rF n a)[0+(s:Int).toNat]? =some (fz (a s)):=by rw [eS,D4 hs]
 (refine ac Tryz.func296 ?_;(conv=>whnf);repeat (refine zy ?_;conv=>whnf))
 repeat' (first|refine zz ?_|refine n7 gs ?_|refine zd ?_ ?_<;>intro h<;>try omega|refine zy ?_|fail)<;>conv=>whnf
 refine d7 c8 (fun k=>([S.c (C.own 0 0 n true),S.c (C.own 1 0 n true),a7 .i64 s,J,J,J,S.c (C.ptr 2 0 0),J,J,J,J,J,J,a7 .i64 n,a7 .i64 k,J,J,J,J,J,J,J,J,J,J,J,J,J,J,J,J,J,J,J,J,J,J,J,J,J,J,J,J,J],[flB (rF n (tkF a row s k)),flB (rF n row),frX (a s)])) n (fun _=>True) [some 0,some 1,some 2] trivial
  ⟨rfl,rfl,⟨a8 (rows:=(rF n a).map k7) rfl rfl rfl rfl (by rw [b3w]),a8 rfl rfl rfl rfl rfl,aQ6 _,trivial⟩,⟨⟨rfl,rfl,rfl,fun h=>h⟩,⟨rfl,rfl,rfl,fun h=>h⟩,rfl,⟨rfl,rfl,rfl⟩,c6 rfl,c6 rfl,trivial⟩⟩ ?_
 intro k hk _
 by_cases hlt:k<n
 ·have eM:0+(k:Int).toNat=k:=by omega
  have lk:=ha k hlt
  have lr:=hr k hlt
  have g1:(rF n (tkF a row s k))[0+(k:Int).toNat]? =some (fz (a k)):=by rw [eM,D4 hlt,b7n]
  have g2:(rF n row)[0+(k:Int).toNat]? =some (fz (row k)):=by rw [eM,D4 hlt]
  have le:=aU3 (a k) (a s) (row k) (by omega) (by omega) (by omega)
  by_cases hks:k=s
  ·subst hks
   conv=>whnf
   repeat' (first|refine zz ?_|refine qp le ?_|refine n7 g1 ?_|refine n7 g2 ?_|refine zd ?_ ?_<;>intro h<;>try omega|refine zy ?_|fail)<;>conv=>whnf
   all_goals first
    |omega
    |exact ⟨hlt,trivial,[some 0,some 1,some 2],rfl,rfl,⟨a8 (rows:=(rF n (tkF a row k k)).map k7) rfl rfl rfl rfl (by rw [b2y]),a8 rfl rfl rfl rfl rfl,aQ6 _,trivial⟩,⟨⟨rfl,rfl,rfl,fun h=>h⟩,⟨rfl,rfl,rfl,fun h=>h⟩,rfl,⟨rfl,rfl,rfl⟩,c6 rfl,c6 rfl,trivial⟩⟩
  ·conv=>whnf
   repeat' (first|refine zz ?_|refine qp le ?_|refine n7 g1 ?_|refine n7 g2 ?_|refine zd ?_ ?_<;>intro h<;>try omega|refine zy ?_|fail)<;>conv=>whnf
   all_goals first
    |omega
    |(refine ⟨hlt,trivial,[some 0,some 1,some 2],rfl,rfl,⟨a8 (rows:=(rF n (tkF a row s (k+1))).map k7) rfl rfl rfl ?_ rfl,a8 rfl rfl rfl rfl rfl,aQ6 _,trivial⟩,⟨⟨rfl,rfl,rfl,fun h=>h⟩,⟨rfl,rfl,rfl,fun h=>h⟩,rfl,⟨rfl,rfl,rfl⟩,c6 rfl,c6 rfl,trivial⟩⟩
      have e:=E6 (row:=rF n (tkF a row s k)) (y:=fz (a k - a s*row k)) eM
      rw [P1 hlt,b2W hks] at e
      exact congrArg Blk.rows e)
 ·have hke:k=n:=by omega
  subst hke
  have g2:(rF k row)[0+(s:Int).toNat]? =some (fz (row s)):=by rw [eS,D4 hs]
  have lr:=hr s hs
  have le:=aU3 0 (a s) (row s) (by have:=rl0;omega) (by omega) (by omega)
  have le:a9 Tryz.prog 295 [frS (fz ((0:Int):Rat)),frS (fz (a s)),frS (fz (row s))] [] (frS (fz (0 - a s*row s))) []:=le
  conv=>whnf
  have g1:(rF k (tkF a row s k))[0+(s:Int).toNat]? =some (fz (a s)):=by rw [eS,D4 hs,b8T]
  repeat' (first|refine zz ?_|refine qp i0 ?_|refine qp le ?_|refine n7 g2 ?_|refine n7 g1 ?_|refine zd ?_ ?_<;>intro h<;>try omega|refine zy ?_|fail)<;>conv=>whnf
  all_goals first
   |omega
   |(refine ⟨[some 0,some 1],rfl,rfl,⟨a8 (rows:=(rF k (tkA a row s)).map k7) rfl rfl rfl ?_ rfl,a8 rfl rfl rfl rfl rfl,trivial⟩,trivial⟩
     have e:=E6 (row:=rF k (tkF a row s k)) (y:=fz (0 - a s*row s)) eS
     rw [P1 hs,b5n] at e
     exact congrArg Blk.rows e)
def leI:Option Nat->Int
 |none=>-1
 |some a=>a
theorem a4S (f:Nat->Nat) (p:Nat->Bool) (k:Nat):S3 f p (k+1)=match S3 f p k with
 |none=>if p k then some k else none
 |some a=>if p k && decide (f k<f a) then some k else some a:=rfl
theorem L2 {m:Nat} {f:Nat->Nat} {n:Int} {i:Nat} {K:List T->Prop} (e:n=i) (h:i<m) (k:K [ti (f i)]):∃row,0<=n∧(a0H m f)[n.toNat]? =some row∧K row:=by
 subst e;exact ⟨_,by omega,by rw [show (i:Int).toNat=i by omega,a5Q h],k⟩
abbrev a7z (m:Nat) (f:Nat->Nat):S:=.c (.t (.sl 1 .any (a0H m f)))
set_option maxHeartbeats 1000000 in
theorem a4L (m:Nat) (hm:m<=100000) (f:Nat->Nat) (p:Nat->Bool) (g:FuncId) (caps:List T) (hg:∀i:Nat,i<m->a9 Tryz.prog g (a7 .i64 i::caps.map fun x=>.c (.t x)) [] (d6 (p i)) []):
 a9 Tryz.prog 257 [a7z m f,.c (.t (.fn (.func g) caps))] [] (a7 .i64 (leI (S3 f p m))) []:=by
 have m1:(a0H m f).length=m:=w7 m f
 (refine ac Tryz.func257 ?_;(conv=>whnf);repeat (refine zy ?_;conv=>whnf))
 repeat' (first|refine zz ?_|refine zd ?_ ?_<;>intro h<;>try omega|refine zy ?_|fail)<;>conv=>whnf
 refine d7 c8 (fun k=>([a7z m f,S.c (C.t (T.fn (.func g) caps)),J,J,J,a7 .i64 (leI (S3 f p k)),J,J,a7z m f,a7 .i64 m,a7 .i64 k,J,J,J,J,J,J,J,J,J,J,J,J,J,J,J,J,J,J,J,J,J,J],[])) m (fun _=>True) [] trivial
  ⟨rfl,rfl,trivial,⟨g7 rfl,g7 rfl,c6 rfl,g7 rfl,c6 (by omega),c6 rfl,trivial⟩⟩ ?_
 intro k hk _
 by_cases hlt:k<m
 ·have hgr:=hg k hlt
  have ha:(a7 .i64 (k:Int)::caps.map fun x=>S.c (C.t x)).all S.isT=true:=by simp [S.isT,C.isT,a7]
  cases hp:p k with
  |false=>
   rw [hp] at hgr
   have e1:leI (S3 f p k)=leI (S3 f p (k+1)):=by
    rw [a4S,hp];cases S3 f p k<;>rfl
   conv=>whnf
   repeat' (first|refine zz ?_|refine .inl ⟨_,_,z6 hgr ha rfl,?_⟩|refine L2 rfl hlt ?_|refine zd ?_ ?_<;>intro h<;>try omega|refine zy ?_|fail)<;>conv=>whnf
   all_goals first
    |omega
    |exact ⟨hlt,trivial,[],rfl,rfl,trivial,⟨rfl,rfl,c6 e1,rfl,rfl,c6 rfl,trivial⟩⟩
  |true=>
   rw [hp] at hgr
   cases hl:S3 f p k with
   |none=>
    have hle:leI none=-1:=rfl
    have e1:(k:Int)=leI (S3 f p (k+1)):=by rw [a4S,hl,hp];rfl
    conv=>whnf
    repeat' (first|refine zz ?_|refine .inl ⟨_,_,z6 hgr ha rfl,?_⟩|refine L2 rfl hlt ?_|refine zd ?_ ?_<;>intro h<;>try omega|refine zy ?_|fail)<;>conv=>whnf
    all_goals first
     |omega
     |exact ⟨hlt,trivial,[],rfl,rfl,trivial,⟨rfl,rfl,c6 e1,rfl,rfl,c6 rfl,trivial⟩⟩
   |some b=>
    have hb:=(F5 hl).1
    have hle:leI (some b)=b:=rfl
    by_cases hc:f k<f b
    ·have e1:(k:Int)=leI (S3 f p (k+1)):=by rw [a4S,hl,hp];simp [hc,leI]
     conv=>whnf
     repeat' (first|refine zz ?_|refine .inl ⟨_,_,z6 hgr ha rfl,?_⟩|refine L2 rfl hlt ?_|refine L2 (i:=b) hle (by omega) ?_|refine zd ?_ ?_<;>intro h<;>try omega|refine zy ?_|fail)<;>conv=>whnf
     all_goals first
      |omega
      |exact ⟨hlt,trivial,[],rfl,rfl,trivial,⟨rfl,rfl,c6 e1,rfl,rfl,c6 rfl,trivial⟩⟩
    ·have e1:leI (some b)=leI (S3 f p (k+1)):=by rw [a4S,hl,hp];simp [hc,leI]
     conv=>whnf
     repeat' (first|refine zz ?_|refine .inl ⟨_,_,z6 hgr ha rfl,?_⟩|refine L2 rfl hlt ?_|refine L2 (i:=b) hle (by omega) ?_|refine zd ?_ ?_<;>intro h<;>try omega|refine zy ?_|fail)<;>conv=>whnf
     all_goals first
      |omega
      |exact ⟨hlt,trivial,[],rfl,rfl,trivial,⟨rfl,rfl,c6 e1,rfl,rfl,c6 rfl,trivial⟩⟩
 ·have hke:k=m:=by omega
  subst hke
  conv=>whnf
  repeat' (first|refine zz ?_|refine zd ?_ ?_<;>intro h<;>try omega|refine zy ?_|fail)<;>conv=>whnf
  all_goals first
   |omega
   |exact j1 rfl
def a80 (m n:Nat) (D:Fd):List (List T):=(List.range m).map fun i=>k7 (fz (D.V i))++[T.sl 4 .any ((rF n (D.A i)).map k7)]
def b5M (m n:Nat) (fr:List (Nat × Bool)) (D:Fd):List T:=[ti n,.sl 5 .any (a80 m n D),.sl 4 .any ((rF n D.G).map k7),.sl 1 .any (a0H m D.O),.sl 1 .any (a0H n D.F),.sl 2 .any (Z8 fr)]
theorem a7A {m n:Nat} {D:Fd} {i:Nat} (h:i<m):(a80 m n D)[i]? =some (k7 (fz (D.V i))++[T.sl 4 .any ((rF n (D.A i)).map k7)]):=by simp [a80,h]
theorem a4N (m n:Nat) (D:Fd):(a80 m n D).length=m:=by simp [a80]
theorem a2w {m n:Nat} {D:Fd} {x:Int} {i:Nat} {K:List T->Prop} (e:x=i) (h:i<m) (k:K (k7 (fz (D.V i))++[T.sl 4 .any ((rF n (D.A i)).map k7)])):∃row,0<=x∧(a80 m n D)[x.toNat]? =some row∧K row:=by
 subst e;exact ⟨_,by omega,by rw [show (i:Int).toNat=i by omega,a7A h],k⟩
theorem a4c {n:Nat} {g:Nat->Rat} {x:Int} {j:Nat} {K:List T->Prop} (e:x=j) (h:j<n) (k:K (k7 (fz (g j)))):∃row,0<=x∧((rF n g).map k7)[x.toNat]? =some row∧K row:=by
 subst e;exact ⟨_,by omega,by rw [show (j:Int).toNat=j by omega,List.getElem?_map,D4 h];rfl,k⟩
theorem b3h (x:Rat):(fz x).p.sg<0↔x<0:=by
 show x.num.sign<0↔_
 rw [a6t];unfold sgR;split<;>(try split)<;>simp_all
theorem b3k (x:Rat):(fz x).p.sg > 0↔0<x:=by
 show x.num.sign > 0↔_
 rw [a6t];unfold sgR
 split
 ·constructor
  ·intro h;omega
  ·intro h;grind
 ·split<;>simp_all
abbrev a5s (m n:Nat) (fr:List (Nat × Bool)) (D:Fd):T:=.ptr [.ptr (b5M m n fr D)]
theorem b0F (m n:Nat) (fr:List (Nat × Bool)) (D:Fd) (i:Nat) (hi:i<m):
 a9 Tryz.prog 258 (a7 .i64 i::[a5s m n fr D].map fun x=>.c (.t x)) [] (d6 (decide (D.V i<0))) []:=by
 have h:=b3h (D.V i)
 (refine ac Tryz.func258 ?_;(conv=>whnf);repeat (refine zy ?_;conv=>whnf))
 repeat' (first|refine zz ?_|refine a2w rfl hi ?_|refine zd ?_ ?_<;>intro h<;>try omega|refine zy ?_|fail)<;>conv=>whnf
 all_goals (refine b7 ?_;simp_all)
theorem b0H (m n:Nat) (fr:List (Nat × Bool)) (D:Fd) (j:Nat) (hj:j<n):
 a9 Tryz.prog 259 (a7 .i64 j::[a5s m n fr D].map fun x=>.c (.t x)) [] (d6 (decide (0<D.G j))) []:=by
 have h:=b3k (D.G j)
 (refine ac Tryz.func259 ?_;(conv=>whnf);repeat (refine zy ?_;conv=>whnf))
 repeat' (first|refine zz ?_|refine a4c rfl hj ?_|refine zd ?_ ?_<;>intro h<;>try omega|refine zy ?_|fail)<;>conv=>whnf
 all_goals (refine b7 ?_;simp_all)
theorem ak0 (m n:Nat) (fr:List (Nat × Bool)) (D:Fd) (r j:Nat) (hr:r<m) (hj:j<n):
 a9 Tryz.prog 260 (a7 .i64 j::[a5s m n fr D,T.ptr [ti r]].map fun x=>.c (.t x)) [] (d6 (decide (D.A r j<0))) []:=by
 have h:=b3h (D.A r j)
 (refine ac Tryz.func260 ?_;(conv=>whnf);repeat (refine zy ?_;conv=>whnf))
 repeat' (first|refine zz ?_|refine a2w rfl hr ?_|refine a4c rfl hj ?_|refine zd ?_ ?_<;>intro h<;>try omega|refine zy ?_|fail)<;>conv=>whnf
 all_goals (refine b7 ?_;simp_all)
theorem aj7 (m n:Nat) (fr:List (Nat × Bool)) (D:Fd) (i s:Nat) (hi:i<m) (hs:s<n):
 a9 Tryz.prog 261 (a7 .i64 i::[a5s m n fr D,T.ptr [ti s]].map fun x=>.c (.t x)) [] (d6 (decide (0<D.A i s))) []:=by
 have h:=b3k (D.A i s)
 (refine ac Tryz.func261 ?_;(conv=>whnf);repeat (refine zy ?_;conv=>whnf))
 repeat' (first|refine zz ?_|refine a2w rfl hi ?_|refine a4c rfl hs ?_|refine zd ?_ ?_<;>intro h<;>try omega|refine zy ?_|fail)<;>conv=>whnf
 all_goals (refine b7 ?_;simp_all)
theorem aX5 {H:Hp} {ia ir n s:Nat} {a row:Nat->Rat} (hne:ia≠ir) (ga:H[ia]? =some (flB (rF n a))) (gr:H[ir]? =some (flB (rF n row))) (hn:n<=1000) (hs:s<n) (ha:∀j,j<n->rl (a j)<=30000) (hr:∀j,j<n->rl (row j)<=30000):
 a9 Tryz.prog 296 [.c (.own ia 0 n true),.c (.own ir 0 n true),a7 .i64 s] H (.tup []) (H.set ia (flB (rF n (tkA a row s)))):=by
 have la:ia<H.length:=(lg1 ga).1
 refine X2 [ia,ir] (b7a n s a row hn hs ha hr) rfl rfl rfl (by simp;exact hne) ?_ ?_ (by simp) rfl rfl (by simp) ?_ ?_
 ·intro i k hk
  match i,hk with
  |0,hk=>injection hk with hk;subst hk;exact ⟨rfl,rfl,a35 _,_,ga,E9 rfl⟩
  |1,hk=>injection hk with hk;subst hk;exact ⟨rfl,rfl,a35 _,_,gr,E9 rfl⟩
 ·intro k hk
  simp at hk
  rcases hk with rfl|rfl<;>(intro h;cases h)
 ·intro i k hk
  match i,hk with
  |0,hk=>
   injection hk with hk;subst hk
   refine ⟨_,?_,E9 rfl⟩
   show (H.set ia _)[ia]? =_
   rw [List.getElem?_set,if_pos rfl,if_pos la]
  |1,hk=>
   injection hk with hk;subst hk
   refine ⟨_,?_,E9 rfl⟩
   show (H.set ia _)[ir]? =_
   rw [List.getElem?_set,if_neg hne];exact gr
 ·intro j hj hjn
  simp at hjn
  rw [List.getElem?_set,if_neg (fun h=>hjn.1 h.symm)]
theorem a2a {b m n i r:Nat} {V:Nat->Rat} {K:List C->Prop} (e:i=r) (h:r<m) (k:K (frC (fz (V r))++[C.own (r+b) 0 n true])):∃row,(P7 b m n V)[i]? =some row∧K row:=by
 subst e;exact ⟨_,a2E h,k⟩
theorem aX8 {rows:List (List C)} {i:Nat} {x:List C} {K:List C->Prop} (h:i<rows.length) (k:K x):∃row,(rows.set i x)[i]? =some row∧K row:=⟨x,List.getElem?_set_self h,k⟩
theorem b5s {rows:List (List C)} {i j:Nat} {x:List C} {K:List C->Prop} (h:i≠j) (k:∃row,rows[j]? =some row∧K row):∃row,(rows.set i x)[j]? =some row∧K row:=by
 rw [List.getElem?_set_ne h];exact k
def a3P (a:Nat->Rat) (p:Rat) (s k:Nat):Nat->Rat:=fun j=>if j<k∧j≠s then a j / p else a j
def A1 (D:Fd) (r s k:Nat):Nat->Nat->Rat:=fun i=>if i=r then a3P (D.A r) (D.A r s) s k else D.A i
theorem b8Y {D:Fd} {r s k:Nat}:A1 D r s k r k=D.A r k:=by unfold A1 a3P;rw [if_pos rfl,if_neg (by omega)]
theorem b9j {D:Fd} {r s k:Nat}:A1 D r s k r s=D.A r s:=by unfold A1 a3P;rw [if_pos rfl,if_neg (by omega)]
theorem b5o {D:Fd} {r s k:Nat} (h:k≠s):(fun i=>if i=r then (fun j=>if j=k then D.A r k / D.A r s else A1 D r s k r j) else A1 D r s k i)=A1 D r s (k+1):=by
 funext i j
 by_cases hi:i=r
 ·subst hi
  simp only [if_true]
  unfold A1 a3P
  simp only [if_true]
  by_cases hj:j=k
  ·subst hj;rw [if_pos rfl,if_pos ⟨by omega,h⟩]
  ·rw [if_neg hj]
   have:(j<k∧j≠s)↔(j<k+1∧j≠s):=by omega
   simp only [this]
 ·rw [if_neg hi];unfold A1;rw [if_neg hi,if_neg hi]
theorem b5h {D:Fd} {r s:Nat}:A1 D r s s=A1 D r s (s+1):=by
 funext i j;unfold A1 a3P
 have:(j<s∧j≠s)↔(j<s+1∧j≠s):=by omega
 split
 ·simp only [this]
 ·rfl
theorem b69 {D:Fd} {r s k:Nat} (h:D.A r k=0):A1 D r s k=A1 D r s (k+1):=by
 funext i j;unfold A1 a3P
 split
 ·show (if j<k∧j≠s then D.A r j / D.A r s else D.A r j)=if j<k+1∧j≠s then D.A r j / D.A r s else D.A r j
  by_cases hj:j=k
  ·subst hj
   rw [if_neg (show ¬(j<j∧j≠s) by omega)]
   split
   ·rw [h];grind
   ·rfl
  ·have:(j<k∧j≠s)↔(j<k+1∧j≠s):=by omega
   simp only [this]
 ·rfl
theorem b03 {m n r:Nat} {A B:Nat->Nat->Rat} {g:Nat->Rat} (h:r<m) (e:(fun i=>if i=r then g else A i)=B):(mF m n A).set r (rF n g)=mF m n B:=by rw [b3A h,e]
def V1 (D:Fd) (r s:Nat):Nat->Rat:=fun i=>if i=r then D.V r / D.A r s else D.V i
def V2 (D:Fd) (r s k:Nat):Nat->Rat:=fun i=>if i=r then D.V r / D.A r s else if i<k then D.V i - D.A i s*(D.V r / D.A r s) else D.V i
def A2 (D:Fd) (r s k:Nat):Nat->Nat->Rat:=fun i=>if i=r then D.pRow r s else if i<k then tkA (D.A i) (D.pRow r s) s else D.A i
theorem ay7 {a row:Nat->Rat} {s:Nat} (h:a s=0):tkA a row s=a:=by
 funext j;unfold tkA
 by_cases hj:j=s
 ·rw [if_pos hj,hj,h];grind
 ·rw [if_neg hj,h];grind
theorem a0M {m i r:Nat} {f:Nat->Nat} {K:List C->Prop} (e:i=r) (h:r<m) (k:K [C.t (ti (f r))]):∃row,(toC (a0H m f))[i]? =some row∧K row:=by
 subst e;exact ⟨_,by simp [toC,a5Q h],k⟩
theorem J6 {α β:Type} {f:β->α} {M:List β} {T:List α} {i:Nat} {x:β} (h:M[i]? =some x):(M.map f++T)[i]? =some (f x):=by
 rw [List.getElem?_append_left (by simpa using (lg1 h).1),List.getElem?_map,h];rfl
theorem b45 {α β:Type} {f:β->α} {M:List β} {T:List α} {i:Nat} {x:β} (h:i<M.length):(M.map f++T).set i (f x)=(M.set i x).map f++T:=by
 rw [List.set_append_left _ _ (by simpa using h),←List.map_set]
theorem b5U {m n:Nat} {D:Fd} {r s:Nat} (hr:r<m) (hs:s<n):(mF m n (A1 D r s n)).set r ((rF n (A1 D r s n r)).set s (fz (((1:Int):Rat) / D.A r s)))=mF m n (A2 D r s 0):=by
 rw [P1 hs,b3A hr]
 refine aC8 fun i hi j hj=>?_
 unfold A2
 by_cases hir:i=r
 ·rw [if_pos hir,if_pos hir]
  unfold Fd.pRow A1 a3P
  rw [if_pos rfl]
  by_cases hjs:j=s
  ·rw [if_pos hjs,if_pos hjs];rfl
  ·rw [if_neg hjs,if_neg hjs,if_pos ⟨hj,hjs⟩]
 ·rw [if_neg hir,if_neg hir,if_neg (by omega)];unfold A1;rw [if_neg hir]
theorem b5v {D:Fd} {r s:Nat}:V2 D r s 0=V1 D r s:=by
 funext i;unfold V2 V1;split
 ·rfl
 ·rw [if_neg (by omega)]
theorem b8z {D:Fd} {r s k:Nat}:V2 D r s k r=D.V r / D.A r s:=by unfold V2;rw [if_pos rfl]
theorem b3g {D:Fd} {r s k:Nat} (h:k≠r):V2 D r s k k=D.V k:=by unfold V2;rw [if_neg h,if_neg (by omega)]
theorem b9n {D:Fd} {r s k:Nat}:A2 D r s k r=D.pRow r s:=by unfold A2;rw [if_pos rfl]
theorem b6y {D:Fd} {r s k:Nat} (h:k≠r):A2 D r s k k=D.A k:=by unfold A2;rw [if_neg h,if_neg (by omega)]
theorem b0j {D:Fd} {r s k:Nat} (h:k≠r):(fun i=>if i=k then D.V k - D.A k s*(D.V r / D.A r s) else V2 D r s k i)=V2 D r s (k+1):=by
 funext i
 by_cases hi:i=k
 ·subst hi;rw [if_pos rfl];unfold V2;rw [if_neg h,if_pos (by omega)]
 ·rw [if_neg hi];unfold V2
  have:(i<k)↔(i<k+1):=by omega
  simp only [this]
theorem b0h {D:Fd} {r s k:Nat} (h:k≠r):(fun i=>if i=k then tkA (D.A k) (D.pRow r s) s else A2 D r s k i)=A2 D r s (k+1):=by
 funext i
 by_cases hi:i=k
 ·subst hi;rw [if_pos rfl];unfold A2;rw [if_neg h,if_pos (by omega)]
 ·rw [if_neg hi];unfold A2
  have:(i<k)↔(i<k+1):=by omega
  simp only [this]
theorem b5G {D:Fd} {r s:Nat}:V2 D r s r=V2 D r s (r+1):=by
 funext i;unfold V2
 by_cases h:i=r
 ·rw [if_pos h,if_pos h]
 ·have:(i<r)↔(i<r+1):=by omega
  simp only [this]
theorem b6a {D:Fd} {r s:Nat}:A2 D r s r=A2 D r s (r+1):=by
 funext i;unfold A2
 by_cases h:i=r
 ·rw [if_pos h,if_pos h]
 ·have:(i<r)↔(i<r+1):=by omega
  simp only [this]
theorem b4R {D:Fd} {r s k:Nat} (h:k≠r) (hz:D.A k s=0):V2 D r s k=V2 D r s (k+1):=by
 rw [← b0j h,hz];funext i
 by_cases hi:i=k
 ·subst hi;rw [if_pos rfl,b3g h];grind
 ·rw [if_neg hi]
theorem b68 {D:Fd} {r s k:Nat} (h:k≠r) (hz:D.A k s=0):A2 D r s k=A2 D r s (k+1):=by
 rw [← b0h h,ay7 hz];funext i
 by_cases hi:i=k
 ·subst hi;rw [if_pos rfl,b6y h]
 ·rw [if_neg hi]
theorem b6Q {D:Fd} {r s m i:Nat} (h:i<m):V2 D r s m i=(D.exch r s).V i:=by
 unfold V2 Fd.exch;simp only
 split
 ·rfl
 ·first|rfl|rw [if_pos h]
theorem b7T {D:Fd} {r s m i j:Nat} (h:i<m):A2 D r s m i j=(D.exch r s).A i j:=by
 unfold A2 Fd.exch;simp only
 split
 ·rfl
 ·first|rfl|(rw [if_pos h];rfl)
abbrev K0 (m n:Nat) (fr:List (Nat × Bool)) (V:Nat->Rat) (G:Nat->Rat) (O F:Nat->Nat) (A:Nat->Nat->Rat) (T:Hp):Hp:=
 aN4 m n fr.length::a0v 6 m n V::flB (rF n G)::X5 m O::X5 n F::a1E fr::((mF m n A).map flB++T)
structure BdD (m n B:Nat) (D:Fd):Prop where
 v:∀i,i<m->rl (D.V i)<=B
 a:∀i,i<m->∀j,j<n->rl (D.A i j)<=B
 g:∀j,j<n->rl (D.G j)<=B
theorem aL3 {b m n r i:Nat} {V:Nat->Rat} {x:List C} {v:Rat} (e:i=r) (h:r<m) (hx:x=frC (fz v)++[C.own (r+b) 0 n true]):(P7 b m n V).set i x=P7 b m n (fun i=>if i=r then v else V i):=by
 subst e hx;exact b1t h
theorem ay9 {m n:Nat} {fr:List (Nat × Bool)} {V G:Nat->Rat} {O F:Nat->Nat} {A:Nat->Nat->Rat} {T T':Hp}:K0 m n fr V G O F A (T++T')=K0 m n fr V G O F A T++T':=by
 show aN4 m n fr.length::a0v 6 m n V::flB (rF n G)::X5 m O::X5 n F::a1E fr::((mF m n A).map flB++(T++T'))=aN4 m n fr.length::a0v 6 m n V::flB (rF n G)::X5 m O::X5 n F::a1E fr::(((mF m n A).map flB++T)++T')
 rw [List.append_assoc]
theorem a5Y {m n:Nat} {fr:List (Nat × Bool)} {V G:Nat->Rat} {O F:Nat->Nat} {A:Nat->Nat->Rat} {T:Hp}:(K0 m n fr V G O F A T).length=m+6+T.length:=by simp [b8];omega
theorem aW5 {m n N:Nat} {fr:List (Nat × Bool)} {V G:Nat->Rat} {O F:Nat->Nat} {A:Nat->Nat->Rat} {T:Hp} (h:m+6<=N) (hT:∀k ∈ T,okB N k):∀k ∈ K0 m n fr V G O F A T,okB N k:=by
 intro k hk
 simp only [List.mem_cons,List.mem_append] at hk
 rcases hk with rfl|rfl|rfl|rfl|rfl|rfl|hk|hk
 ·exact aZ1 (by omega)
 ·exact a9k h
 ·exact E7 rfl
 ·exact E7 rfl
 ·exact E7 rfl
 ·exact E7 rfl
 ·obtain ⟨l,_,rfl⟩:=List.mem_map.1 hk
  exact E7 rfl
 ·exact hT k hk
theorem S7 {n0 N m n:Nat} {fr:List (Nat × Bool)} {V G:Nat->Rat} {O F:Nat->Nat} {A:Nat->Nat->Rat} {T T' H:Hp} {env env':Env} (hH:H=K0 m n fr V G O F A (T++T')) (hN:m+6+T.length=N) (h0:n0<=N) (hT:∀k ∈ T,okB N k)
 (hE:a0B (idR N) H env env'):Ent n0 (idR N) env H env' (K0 m n fr V G O F A T):=by
 refine a6T (by rw [a5Y];exact hN) h0 (aW5 (by omega) hT) (fun i hi=>?_) hE
 rw [hH,ay9,List.getElem?_append_left (by rw [a5Y];omega)]
theorem a8Z {n0 N m n:Nat} {fr:List (Nat × Bool)} {V G:Nat->Rat} {O F:Nat->Nat} {A:Nat->Nat->Rat} {T H:Hp} {r s:S} (hH:H=K0 m n fr V G O F A T) (hN:m+6=N) (h0:n0<=N) (hE:a8i (idR N) H r s):
 Fin n0 r H s (K0 m n fr V G O F A []):=by
 refine ak1 (by rw [a5Y];exact hN) h0 (aW5 (by omega) (by simp)) (fun i hi=>?_) hE
 have e:K0 m n fr V G O F A T=K0 m n fr V G O F A []++T:=ay9 (T:=[]) (T':=T)
 rw [hH,e,List.getElem?_append_left (by rw [a5Y];simp;omega)]
theorem a0J {b0 b1 b2 b3 b4 b5 c0 c1 c2 c3 c4 c5:Blk} {L L':Hp} (h0:b0=c0) (h1:b1=c1) (h2:b2=c2) (h3:b3=c3) (h4:b4=c4) (h5:b5=c5) (h6:L=L'):b0::b1::b2::b3::b4::b5::L=c0::c1::c2::c3::c4::c5::L':=by
 subst h0 h1 h2 h3 h4 h5 h6;rfl
theorem af5 {b m n r i:Nat} {V V':Nat->Rat} {x:List C} {v:Rat} (e:i=r) (h:r<m) (hx:x=frC (fz v)++[C.own (r+b) 0 n true]) (hV:(fun i=>if i=r then v else V i)=V'):u6 (a0v b m n V) ((a0v b m n V).rows.set i x)=a0v b m n V':=by
 have:=aL3 (V:=V) e h hx
 subst hV
 unfold u6
 simp only [this]
theorem a6h {m r i v:Nat} {O:Nat->Nat} (e:i=r) (h:r<m):u6 (X5 m O) ((X5 m O).rows.set i [C.t (ti v)])=X5 m (fun i=>if i=r then v else O i):=by
 subst e
 have:(toC (a0H m O)).set i [C.t (ti v)]=toC (a0H m (fun j=>if j=i then v else O j)):=by
  rw [← b46 h];simp [toC,List.map_set]
 unfold u6
 simp only [this]
theorem aq8 {N:Nat} {x:Rat}:okB N (frX x):=E7 (rows:=[k7 (fz x)]) rfl
set_option maxHeartbeats 4000000 in
theorem aM6 (m n:Nat) (fr:List (Nat × Bool)) (D:Fd) (r s:Nat) (hm:m<=100000) (hn:n<=1000) (hr:r<m) (hs:s<n) (hp:D.A r s≠0) (hB:BdD m n 30000 D) (hB':BdD m n 30000 (D.exch r s)):
 a9 Tryz.prog 262 [.c (.ptr 0 0 0),a7 .i64 r,a7 .i64 s] (Z0 m n fr D) (.tup []) (Z0 m n fr (D.exch r s)):=by
 have eR:0+(r:Int).toNat=r:=by omega
 have eS:0+(s:Int).toNat=s:=by omega
 have gA:(mF m n D.A)[r]? =some (rF n (D.A r)):=O9 hr
 have gs:(rF n (D.A r))[0+(s:Int).toNat]? =some (fz (D.A r s)):=by rw [eS,D4 hs]
 have bp:=hB.a r hr s hs
 have ov:=aQ2 (D.V r) (D.A r s) hp (by have:=hB.v r hr;omega) (by omega)
 (refine ac Tryz.func262 ?_;(conv=>whnf);repeat (refine zy ?_;conv=>whnf))
 repeat' (first|refine zz ?_|refine qp ov ?_|refine qp A8 ?_|refine a4v (b8 _ _ _) ?_|refine F6 ?_|refine a3a ?_|refine a2a eR hr ?_|refine aG4 gA ?_|refine V9 gA ?_|refine C7 (b8 _ _ _) ?_|refine a6S (b8 _ _ _) ?_|refine n7 gs ?_|refine aX8 (by show _<(P7 _ _ _ _).length;rw [A8];omega) ?_|refine zd ?_ ?_<;>intro h<;>try omega|refine zy ?_|fail)<;>conv=>whnf
 refine d7 c8 (fun k=>([S.c (C.ptr 0 0 0),a7 .i64 r,a7 .i64 s,J,J,J,S.c (C.ptr 1 r 0),S.c (C.ptr (m+6) 0 0),J,J,J,J,J,J,J,J,J,J,J,J,J,J,J,J,J,J,J,J,J,J,J,J,J,J,J,J,J,a7 .i64 n,a7 .i64 k,J,J,J,J,J,J,J,J,J,J,J,J,J,J,J,J,J,J,J,J,J,J,J,J,J,J,J,J,J,J,J,J,J,J,J,J,J,J,J,J,J,J,J,J,J,J,J,J,J,J,J,J,J,J,J,J,J,J,J,J,J,J,J,J,J,J,J,J,J,J,J,J,J,J,J,J,J,J,J,J,J,J,J,J,J,J,J,J,J,J,J,J,J,J,J,J,J,J,J,J,J,J,J,J,J,J,J,J,J,J,J,J,J,J,J,J,J,J,J,J,J,J,J,J,J,J,J,J,J,J,J,J,J,J,J,J,J,J,J,J,J,J,J,J],K0 m n fr (V1 D r s) D.G D.O D.F (A1 D r s k) [frX (D.A r s)])) n (fun _=>True) (idR (m+7)) trivial ?_ ?_
 ·refine S7 (T':=[]) ?_ rfl (by simp [b8]) (by intro k hk;simp at hk;subst hk;exact aq8) ?_
  ·refine a0J rfl (af5 eR hr rfl rfl) rfl rfl rfl rfl ?_
   have:A1 D r s 0=D.A:=by funext i j;unfold A1 a3P;split<;>simp_all
   rw [this];rfl
  ·exact ⟨⟨k9 (by omega),rfl,rfl⟩,rfl,rfl,⟨k9 (by omega),eR,rfl⟩,⟨k9 (by omega),rfl,rfl⟩,c6 (by omega),c6 rfl,trivial⟩
 intro k hk _
 have gA1:(mF m n (A1 D r s k))[r]? =some (rF n (A1 D r s k r)):=O9 hr
 have lA:r<(mF m n (A1 D r s k)).length:=by rw [b8];exact hr
 by_cases hlt:k<n
 ·have eK:0+(k:Int).toNat=k:=by omega
  have gk:(rF n (A1 D r s k r))[0+(k:Int).toNat]? =some (fz (D.A r k)):=by rw [eK,D4 hlt,b8Y]
  have bk:=hB.a r hr k hlt
  have ze:=a8P (D.A r k)
  have ovk:=aQ2 (D.A r k) (D.A r s) hp (by omega) (by omega)
  by_cases hks:k=s
  ·subst hks
   conv=>whnf
   repeat' (first|refine zz ?_|refine qp ze ?_|refine qp ovk ?_|refine j4 (b8 _ _ _) ?_|refine F6 ?_|refine j3 ?_|refine a2a rfl hr ?_|refine V9 gA1 ?_|refine C7 (b8 _ _ _) ?_|refine n7 gk ?_|refine zd ?_ ?_<;>intro h<;>try omega|refine zy ?_|fail)<;>conv=>whnf
   all_goals first
    |omega
    |exact ⟨hlt,trivial,idR (m+7),S7 (T':=[]) (a0J rfl rfl rfl rfl rfl rfl (by rw [← b5h];rfl)) rfl (by simp [b8]) (by intro k hk;simp at hk;subst hk;exact aq8) ⟨⟨k9 (by omega),rfl,rfl⟩,rfl,rfl,⟨k9 (by omega),rfl,rfl⟩,⟨k9 (by omega),rfl,rfl⟩,rfl,c6 (by omega),trivial⟩⟩
  ·by_cases hz:D.A r k=0
   ·rw [decide_eq_true hz] at ze
    conv=>whnf
    repeat' (first|refine zz ?_|refine qp ze ?_|refine qp ovk ?_|refine j4 (b8 _ _ _) ?_|refine F6 ?_|refine j3 ?_|refine a2a rfl hr ?_|refine V9 gA1 ?_|refine C7 (b8 _ _ _) ?_|refine n7 gk ?_|refine zd ?_ ?_<;>intro h<;>try omega|refine zy ?_|fail)<;>conv=>whnf
    all_goals first
     |omega
     |exact ⟨hlt,trivial,idR (m+7),S7 (T':=[]) (a0J rfl rfl rfl rfl rfl rfl (by rw [← b69 hz];rfl)) rfl (by simp [b8]) (by intro k hk;simp at hk;subst hk;exact aq8) ⟨⟨k9 (by omega),rfl,rfl⟩,rfl,rfl,⟨k9 (by omega),rfl,rfl⟩,⟨k9 (by omega),rfl,rfl⟩,rfl,c6 (by omega),trivial⟩⟩
   ·rw [decide_eq_false hz] at ze
    conv=>whnf
    repeat' (first|refine zz ?_|refine qp ze ?_|refine qp ovk ?_|refine j4 (b8 _ _ _) ?_|refine F6 ?_|refine j3 ?_|refine a2a rfl hr ?_|refine V9 gA1 ?_|refine C7 (b8 _ _ _) ?_|refine n7 gk ?_|refine ag5 lA (E6 (y:=fz (D.A r k / D.A r s)) eK) ?_|refine zd ?_ ?_<;>intro h<;>try omega|refine zy ?_|fail)<;>conv=>whnf
    all_goals first
     |omega
     |exact ⟨hlt,trivial,idR (m+7),S7 (T':=[]) (a0J rfl rfl rfl rfl rfl rfl (by rw [P1 hlt,b03 hr (b5o hks)];rfl)) rfl (by simp [b8]) (by intro k hk;simp at hk;subst hk;exact aq8) ⟨⟨k9 (by omega),rfl,rfl⟩,rfl,rfl,⟨k9 (by omega),rfl,rfl⟩,⟨k9 (by omega),rfl,rfl⟩,rfl,c6 (by omega),trivial⟩⟩
 ·have hke:k=n:=by omega
  subst hke
  have gs1:(rF k (A1 D r s k r))[0+(s:Int).toNat]? =some (fz (D.A r s)):=by rw [eS,D4 hs,b9j]
  have i1:=I3 1 (by decide) (by decide)
  have ov1:=aQ2 ((1:Int):Rat) (D.A r s) hp (by have:=rl1;show rl 1<=_;omega) (by omega)
  conv=>whnf
  repeat' (first|refine zz ?_|refine qp i1 ?_|refine qp ov1 ?_|refine j4 (b8 _ _ _) ?_|refine F6 ?_|refine j3 ?_|refine a2a rfl hr ?_|refine V9 gA1 ?_|refine C7 (b8 _ _ _) ?_|refine n7 gs1 ?_|refine ag5 lA (E6 (y:=fz (((1:Int):Rat) / D.A r s)) eS) ?_|refine zd ?_ ?_<;>intro h<;>try omega|refine zy ?_|fail)<;>conv=>whnf
  all_goals try omega
  refine d7 c8 (fun q=>([S.c (C.ptr 0 0 0),a7 .i64 r,a7 .i64 s,J,J,J,S.c (C.ptr 1 r 0),J,J,J,J,J,J,J,J,J,J,J,J,J,J,J,J,J,J,J,J,J,J,J,J,J,J,J,J,J,J,J,J,J,J,J,J,J,J,J,J,J,J,J,J,J,J,J,J,J,J,J,J,J,J,J,J,J,J,J,J,J,J,J,J,J,J,J,J,J,J,J,J,J,J,J,J,J,a7 .i64 m,a7 .i64 q,J,J,J,J,J,J,J,J,J,J,J,J,J,J,J,J,J,J,J,J,J,J,J,J,J,J,J,J,J,J,J,J,J,J,J,J,J,J,J,J,J,J,J,J,J,J,J,J,J,J,J,J,J,J,J,J,J,J,J,J,J,J,J,J,J,J,J,J,J,J,J,J,J,J,J,J,J,J,J,J,J,J,J,J,J,J,J,J,J,J,J,J,J,J,J,J,J],K0 m k fr (V2 D r s q) D.G D.O D.F (A2 D r s q) [])) m (fun _=>True) (idR (m+6)) trivial ?_ ?_
  ·refine S7 (T:=[]) (T':=[frX (D.A r s)]) (a0J rfl (by rw [b5v]) rfl rfl rfl rfl (by rw [b5U hr hs];rfl)) rfl (by simp [b8]) (by simp) ⟨⟨k9 (by omega),rfl,rfl⟩,rfl,rfl,⟨k9 (by omega),rfl,rfl⟩,c6 (by omega),c6 rfl,trivial⟩
  have eP:∀j,(D.exch r s).A r j=D.pRow r s j:=fun j=>by show (if r=r then _ else _)=_;rw [if_pos rfl]
  have har:∀j,j<k->rl (D.pRow r s j)<=30000:=fun j hj=>by rw [← eP];exact hB'.a r hr j hj
  intro q hq _
  have gAr:(mF m k (A2 D r s q))[r]? =some (rF k (D.pRow r s)):=by rw [O9 hr,b9n]
  by_cases hqm:q<m
  ·have eQ:0+(q:Int).toNat=q:=by omega
   have lQ:q<(mF m k (A2 D r s q)).length:=by rw [b8];exact hqm
   have ze:=a8P (D.A q s)
   by_cases hqr:q=r
   ·subst hqr
    conv=>whnf
    repeat' (first|refine zz ?_|refine j4 (b8 _ _ _) ?_|refine F6 ?_|refine j3 ?_|refine zd ?_ ?_<;>intro h<;>try omega|refine zy ?_|fail)<;>conv=>whnf
    all_goals first
     |omega
     |exact ⟨hqm,trivial,idR (m+6),S7 (T:=[]) (T':=[]) (a0J rfl (by rw [← b5G]) rfl rfl rfl rfl (by rw [← b6a];rfl)) rfl (by simp [b8]) (by simp) ⟨⟨k9 (by omega),rfl,rfl⟩,rfl,rfl,⟨k9 (by omega),rfl,rfl⟩,rfl,c6 (by omega),trivial⟩⟩
   ·have gAq:(mF m k (A2 D r s q))[q]? =some (rF k (D.A q)):=by rw [O9 hqm,b6y hqr]
    have gqs:(rF k (D.A q))[0+(s:Int).toNat]? =some (fz (D.A q s)):=by rw [eS,D4 hs]
    by_cases hz:D.A q s=0
    ·rw [decide_eq_true hz] at ze
     conv=>whnf
     repeat' (first|refine zz ?_|refine qp ze ?_|refine j4 (b8 _ _ _) ?_|refine F6 ?_|refine j3 ?_|refine a2a eQ hqm ?_|refine V9 gAq ?_|refine n7 gqs ?_|refine zd ?_ ?_<;>intro h<;>try omega|refine zy ?_|fail)<;>conv=>whnf
     all_goals first
      |omega
      |exact ⟨hqm,trivial,idR (m+6),S7 (T:=[]) (T':=[]) (a0J rfl (by rw [← b4R hqr hz]) rfl rfl rfl rfl (by rw [← b68 hqr hz];rfl)) rfl (by simp [b8]) (by simp) ⟨⟨k9 (by omega),rfl,rfl⟩,rfl,rfl,⟨k9 (by omega),rfl,rfl⟩,rfl,c6 (by omega),trivial⟩⟩
    ·rw [decide_eq_false hz] at ze
     have b1:=hB.v q hqm
     have b2:=hB.a q hqm s hs
     have b3:=hB'.v r hr
     have haq:∀j,j<k->rl (D.A q j)<=30000:=hB.a q hqm
     have le:=aU3 (V2 D r s q q) (D.A q s) (V2 D r s q r) (by rw [b3g hqr];omega) (by omega) (by rw [b8z];have e:(D.exch r s).V r=D.V r / D.A r s:=(by show (if r=r then _ else _)=_;rw [if_pos rfl]);rw [← e];omega)
     conv=>whnf
     repeat' (first|refine zz ?_|refine qp ze ?_|refine qp le ?_|refine qp A8 ?_|refine j4 (b8 _ _ _) ?_|refine F6 ?_|refine j3 ?_|refine a2a eQ hqm ?_|refine a2a rfl hr ?_|refine V9 gAq ?_|refine n7 gqs ?_|refine aX8 (by show _<(P7 _ _ _ _).length;rw [A8];omega) ?_|refine b5s (by omega) (a2a rfl hr ?_)|refine .inr ⟨_,_,aX5 (ia:=q+6) (ir:=r+6) (by omega) (J6 gAq) (J6 gAr) hn hs haq har,?_⟩|refine zd ?_ ?_<;>intro h<;>try omega|refine zy ?_|fail)<;>conv=>whnf
     all_goals first
      |omega
      |exact ⟨hqm,trivial,idR (m+6),S7 (T:=[]) (T':=[]) (a0J rfl (af5 (v:=V2 D r s q q - D.A q s*V2 D r s q r) eQ hqm rfl (by rw [b3g hqr,b8z];exact b0j hqr)) rfl rfl rfl rfl (by rw [b45 lQ,b03 hqm (b0h hqr)];rfl)) rfl (by simp [b8]) (by simp) ⟨⟨k9 (by omega),rfl,rfl⟩,rfl,rfl,⟨k9 (by omega),rfl,rfl⟩,rfl,c6 (by omega),trivial⟩⟩
  ·have hqe:q=m:=by omega
   subst hqe
   have ggs:(rF k D.G)[0+(s:Int).toNat]? =some (fz (D.G s)):=by rw [eS,D4 hs]
   have ze:=a8P (D.G s)
   have eL:a0v 6 q k (V2 D r s q)=a0v 6 q k (D.exch r s).V:=by
    have:P7 6 q k (V2 D r s q)=P7 6 q k (D.exch r s).V:=List.map_congr_left fun i hi=>by rw [b6Q (List.mem_range.1 hi)]
    unfold a0v;rw [this]
   have eA:mF q k (A2 D r s q)=mF q k (D.exch r s).A:=aC8 fun i hi j _=>b7T hi
   have eO:a0H q (fun i=>if i=r then D.F s else D.O i)=a0H q (D.exch r s).O:=rfl
   have eF:a0H k (fun j=>if j=s then D.O r else D.F j)=a0H k (D.exch r s).F:=rfl
   have e0:Z0 q k fr (D.exch r s)=K0 q k fr (D.exch r s).V (D.exch r s).G (D.exch r s).O (D.exch r s).F (D.exch r s).A []:=by
    show _::_::_::_::_::_::_=_::_::_::_::_::_::(_++[])
    rw [List.append_nil]
   by_cases hz:D.G s=0
   ·have eG:(D.exch r s).G=D.G:=by have:=ay7 (row:=D.pRow r s) hz;exact this
    rw [decide_eq_true hz] at ze
    conv=>whnf
    repeat' (first|refine zz ?_|refine qp ze ?_|refine qp 9 ?_|refine j4 (b8 _ _ _) ?_|refine F6 ?_|refine j3 ?_|refine n7 ggs ?_|refine a0M eR hr ?_|refine a0M eS hs ?_|refine bl0 [9] ?_|refine zd ?_ ?_<;>intro h<;>try omega|refine zy ?_|fail)<;>conv=>whnf
    all_goals first
     |omega
     |(rw [e0];exact a8Z (T:=[]) (a0J rfl eL (by rw [eG]) (a6h eR hr) (a6h eS hs) rfl (by rw [eA])) rfl (by simp [b8]) trivial)
   ·have eG:(D.exch r s).G=tkA D.G (D.pRow r s) s:=rfl
    rw [decide_eq_false hz] at ze
    conv=>whnf
    repeat' (first|refine zz ?_|refine qp ze ?_|refine qp 9 ?_|refine j4 (b8 _ _ _) ?_|refine F6 ?_|refine j3 ?_|refine n7 ggs ?_|refine a2a rfl hr ?_|refine a0M eR hr ?_|refine a0M eS hs ?_|refine bl0 [9] ?_|refine .inr ⟨_,_,aX5 (ia:=2) (ir:=r+6) (by omega) rfl (J6 gAr) hn hs hB.g har,?_⟩|refine zd ?_ ?_<;>intro h<;>try omega|refine zy ?_|fail)<;>conv=>whnf
    all_goals first
     |omega
     |(rw [e0];exact a8Z (T:=[]) (a0J rfl eL (by rw [eG]) (a6h eR hr) (a6h eS hs) rfl (by rw [eA])) rfl (by simp [b8]) trivial)
theorem as7 {H:Hp} {p:Nat->Prop} {ys:List C} {us:List T} (h2:VYL H p ys us):∀{ts:List T},VYL H p (ts.map C.t++ys) (ts++us)
 |[]=>h2
 |t::r=>⟨b0G,as7 h2⟩
theorem b4Q {m n:Nat} {fr:List (Nat × Bool)} {D:Fd} {X:Hp}:VY (K0 m n fr D.V D.G D.O D.F D.A X) (fun _=>True) (.own 1 0 m true) (.sl 5 .any (a80 m n D)):=by
 refine b1X (k:=a0v 6 m n D.V) trivial rfl (fun h=>h) rfl (a4N m n D) ?_ ?_
 ·intro r hr
  obtain ⟨i,_,rfl⟩:=List.mem_map.1 hr
  rfl
 ·intro i r hi
  have him:i<m:=by have:=(lg1 hi).1;rwa [a4N] at this
  rw [a7A him] at hi
  injection hi with hi
  subst hi
  refine ⟨_,a2E him,?_⟩
  show VYL _ _ ((k7 (fz (D.V i))).map C.t++[C.own (i+6) 0 n true]) _
  have hv:VY (K0 m n fr D.V D.G D.O D.F D.A X) (fun _=>True) (C.own (i+6) 0 n true) (T.sl 4 .any ((rF n (D.A i)).map k7)):=
   .vc (s8 (k:=flB (rF n (D.A i))) trivial (J6 (O9 him)) (fun h=>h) rfl rfl (by simp [N7]))
  exact as7 (ys:=[C.own (i+6) 0 n true]) (us:=[T.sl 4 .any ((rF n (D.A i)).map k7)]) (show _∧True from ⟨hv,trivial⟩)
theorem b7s {m n:Nat} {fr:List (Nat × Bool)} {D:Fd} {X:Hp}:VY (K0 m n fr D.V D.G D.O D.F D.A X) (fun _=>True) (.ptr 0 0 0) (.ptr (b5M m n fr D)):=by
 refine a8Y (k:=aN4 m n fr.length) trivial rfl (fun h=>h) rfl ⟨b0G,b4Q,?_,?_,?_,?_,trivial⟩
 ·exact .vc (s8 (k:=flB (rF n D.G)) trivial rfl (fun h=>h) rfl rfl (by simp [N7]))
 ·exact .vc (s8 (k:=X5 m D.O) trivial rfl (fun h=>h) rfl rfl (by simp [w7]))
 ·exact .vc (s8 (k:=X5 n D.F) trivial rfl (fun h=>h) rfl rfl (by simp [w7]))
 ·exact .vc (s8 (k:=a1E fr) trivial rfl (fun h=>h) rfl rfl (by simp [Z8]))
abbrev bxD:Blk:={ mode:=.live,elem:=217,size:=1,rows:=[[.ptr 0 0 0]],box:=true }
abbrev bxI (i:Int):Blk:={ mode:=.live,elem:=3,size:=1,rows:=[[.t (ti i)]],box:=true }
theorem as3 {m n:Nat} {fr:List (Nat × Bool)} {D:Fd} {X:Hp}:VY (K0 m n fr D.V D.G D.O D.F D.A (bxD::X)) (fun _=>True) (.ptr (m+6) 0 0) (a5s m n fr D):=by
 refine a8Y (k:=bxD) trivial ?_ (fun h=>h) rfl ⟨b7s,trivial⟩
 show (((mF m n D.A).map flB)++bxD::X)[m]? =_
 rw [List.getElem?_append_right (by simp [b8])]
 simp [b8]
theorem b2h {m n t:Nat} {fr:List (Nat × Bool)} {D:Fd} {X:Hp} {i:Int} (h:X[t]? =some (bxI i)):VY (K0 m n fr D.V D.G D.O D.F D.A X) (fun _=>True) (.ptr (m+6+t) 0 0) (.ptr [ti i]):=by
 refine a8Y (k:=bxI i) trivial ?_ (fun h=>h) rfl ⟨b0G,trivial⟩
 show (K0 m n fr D.V D.G D.O D.F D.A X)[m+6+t]? =_
 rw [show m+6+t=m+t+6 by omega]
 show (((mF m n D.A).map flB)++X)[m+t]? =_
 rw [List.getElem?_append_right (by simp [b8])]
 simpa [b8] using h
theorem b8y {m n:Nat} {fr:List (Nat × Bool)} {D:Fd} {X:Hp}:VYS (K0 m n fr D.V D.G D.O D.F D.A X) (fun _=>True) (.c (.own 3 0 m true)) (a7z m D.O):=.vc (s8 (k:=X5 m D.O) trivial rfl (fun h=>h) rfl rfl (by simp [w7]))
theorem b8n {m n:Nat} {fr:List (Nat × Bool)} {D:Fd} {X:Hp}:VYS (K0 m n fr D.V D.G D.O D.F D.A X) (fun _=>True) (.c (.own 4 0 n true)) (a7z n D.F):=.vc (s8 (k:=X5 n D.F) trivial rfl (fun h=>h) rfl rfl (by simp [w7]))
theorem a8v {m n:Nat} {fr:List (Nat × Bool)} {D:Fd} {r s:Nat} (X:Hp) (h:a9 Tryz.prog 262 [.c (.ptr 0 0 0),a7 .i64 r,a7 .i64 s] (Z0 m n fr D) (.tup []) (Z0 m n fr (D.exch r s))):
 a9 Tryz.prog 262 [.c (.ptr 0 0 0),a7 .i64 r,a7 .i64 s] (K0 m n fr D.V D.G D.O D.F D.A X) (.tup []) (K0 m n fr (D.exch r s).V (D.exch r s).G (D.exch r s).O (D.exch r s).F (D.exch r s).A X):=by
 have hl:∀{D:Fd},∀k ∈ Z0 m n fr D,k.mode=.live∧k.app=false:=by
  intro D k hk
  simp only [List.mem_cons] at hk
  rcases hk with rfl|rfl|rfl|rfl|rfl|rfl|hk
  ·exact ⟨rfl,rfl⟩
  ·exact ⟨rfl,rfl⟩
  ·exact ⟨rfl,rfl⟩
  ·exact ⟨rfl,rfl⟩
  ·exact ⟨rfl,rfl⟩
  ·exact ⟨rfl,rfl⟩
  ·obtain ⟨l,_,rfl⟩:=List.mem_map.1 hk
   exact ⟨rfl,rfl⟩
 exact a7L (n:=m+6) X h a2v a2v (by simp [okS,okC,a7,Nat.blt_eq]) (fun k hk=>⟨(hl k hk).1,(hl k hk).2,a6q k hk⟩) (fun k hk=>⟨(by rw [(hl k hk).1];intro h;cases h),a6q k hk⟩) rfl rfl
def aJ9:b4x->Int × Int
 |.best=>(-1,-1)
 |.row r=>(r,-1)
 |.col s=>(-1,s)
 |.next r s=>(r,s)
theorem b1K {N:Nat} (h:0<N):okB N bxD:=by
 intro r hr c hc
 simp at hr;subst hr
 simp at hc;subst hc
 exact h
set_option maxHeartbeats 4000000 in
theorem b1H (m n:Nat) (fr:List (Nat × Bool)) (D0:Fd) (g0:Nat->Rat) (hm:m<=100000) (hn:n<=1000) (h0:a5n m n D0 g0 D0) (hB:∀D,U5 m n D0 D->BdD m n 30000 D):
 a9 Tryz.prog 200 [.c (.ptr 0 0 0)] (Z0 m n fr D0) (.tup [a7 .i64 (aJ9 (B2 m n (a9l m n D0))).1,a7 .i64 (aJ9 (B2 m n (a9l m n D0))).2]) (Z0 m n fr (a9l m n D0)):=by
 (refine ac Tryz.func200 ?_;(conv=>whnf);repeat (refine zy ?_;conv=>whnf))
 repeat' (first|refine zz ?_|refine a4v (b8 _ _ _) ?_|refine a3a ?_|refine zd ?_ ?_<;>intro h<;>try omega|refine zy ?_|fail)<;>conv=>whnf
 refine k5 c8 (σ:=Fd) (fun D=>([J,S.c (C.ptr (m+6) 0 0),J,J,J,J,J,J,J,J,J,J,J,J,J,J,J,J,J,J,J,J,J,J,J,J,J,J,J,J,J,J,J,J,J,J,J,J,J,J,J,J,J,J,J,J,J,J,J,J,J,J,J,J,J,J,J,J,J,J,J,J,J,J,J,J,J,J,J,J,J],K0 m n fr D.V D.G D.O D.F D.A [bxD])) (fun D=>U5 m n D0 D) (fun D=>a7Q m n D) D0 (idR (m+7)) aR5 ?_ ?_
 ·refine S7 (T':=[]) (a0J rfl rfl rfl rfl rfl rfl (by rw [List.append_nil,List.append_nil];rfl)) rfl (by simp [b8]) (by intro k hk;simp at hk;subst hk;exact b1K (by omega)) ⟨⟨k9 (by omega),rfl,rfl⟩,trivial⟩
 intro D hD
 have bd:=hB D hD
 have inv:a5n m n D0 g0 D:=by obtain ⟨k,hk⟩:=hD;exact a2r h0 hk
 have l1:=a4L m hm D.O (fun i=>decide (D.V i<0)) 258 [a5s m n fr D] (fun i hi=>b0F m n fr D i hi)
 have l2:=a4L n (by omega) D.F (fun j=>decide (0<D.G j)) 259 [a5s m n fr D] (fun j hj=>b0H m n fr D j hj)
 have va1:∀X,a1i (K0 m n fr D.V D.G D.O D.F D.A (bxD::X)) (fun _=>True) [.c (.own 3 0 m true),.c (.fn (.func 258) [.ptr (m+6) 0 0])] [a7z m D.O,.c (.t (.fn (.func 258) [a5s m n fr D]))]:=
  fun X=>⟨b8y,aG0 (show _∧True from ⟨as3,trivial⟩),trivial⟩
 have va2:∀X,a1i (K0 m n fr D.V D.G D.O D.F D.A (bxD::X)) (fun _=>True) [.c (.own 4 0 n true),.c (.fn (.func 259) [.ptr (m+6) 0 0])] [a7z n D.F,.c (.t (.fn (.func 259) [a5s m n fr D]))]:=
  fun X=>⟨b8n,aG0 (show _∧True from ⟨as3,trivial⟩),trivial⟩
 have va3:∀X (r:Nat),a1i (K0 m n fr D.V D.G D.O D.F D.A (bxD::bxI r::X)) (fun _=>True) [.c (.own 4 0 n true),.c (.fn (.func 260) [.ptr (m+6) 0 0,.ptr (m+7) 0 0])] [a7z n D.F,.c (.t (.fn (.func 260) [a5s m n fr D,.ptr [ti r]]))]:=
  fun X r=>⟨b8n,aG0 (show _∧_∧True from ⟨as3,b2h (t:=1) rfl,trivial⟩),trivial⟩
 have va4:∀X (x:Int) (s:Nat),a1i (K0 m n fr D.V D.G D.O D.F D.A (bxD::bxI x::bxI s::X)) (fun _=>True) [.c (.own 3 0 m true),.c (.fn (.func 261) [.ptr (m+6) 0 0,.ptr (m+8) 0 0])] [a7z m D.O,.c (.t (.fn (.func 261) [a5s m n fr D,.ptr [ti s]]))]:=
  fun X x s=>⟨b8y,aG0 (show _∧_∧True from ⟨as3,b2h (t:=2) rfl,trivial⟩),trivial⟩
 have fin0:∀(X:Hp) (r c:Int),D9 m n D=none->(r,c)=aJ9 (B2 m n D)->Fin (Z0 m n fr D0).length (.tup [a7 .i64 r,a7 .i64 c]) (K0 m n fr D.V D.G D.O D.F D.A X) (.tup [a7 .i64 (aJ9 (B2 m n (a9l m n D0))).1,a7 .i64 (aJ9 (B2 m n (a9l m n D0))).2]) (Z0 m n fr (a9l m n D0)):=by
  intro X r c hn ho
  have e:=b7p h0 hD hn
  rw [← e,←ho]
  have e0:Z0 m n fr D=K0 m n fr D.V D.G D.O D.F D.A []:=by
   show _::_::_::_::_::_::_=_::_::_::_::_::_::(_++[])
   rw [List.append_nil]
  rw [e0]
  exact a8Z (N:=m+6) rfl rfl (by simp [b8]) ⟨rfl,rfl,trivial⟩
 have go:∀(X:Hp) (env:Env) (r s:Nat),B2 m n D=.next r s->a0B (idR (m+7)) (K0 m n fr (D.exch r s).V (D.exch r s).G (D.exch r s).O (D.exch r s).F (D.exch r s).A (bxD::X)) env ([J,S.c (C.ptr (m+6) 0 0),J,J,J,J,J,J,J,J,J,J,J,J,J,J,J,J,J,J,J,J,J,J,J,J,J,J,J,J,J,J,J,J,J,J,J,J,J,J,J,J,J,J,J,J,J,J,J,J,J,J,J,J,J,J,J,J,J,J,J,J,J,J,J,J,J,J,J,J,J])->
  ∃ρ x',Ent (Z0 m n fr D0).length ρ env (K0 m n fr (D.exch r s).V (D.exch r s).G (D.exch r s).O (D.exch r s).F (D.exch r s).A (bxD::X)) ([J,S.c (C.ptr (m+6) 0 0),J,J,J,J,J,J,J,J,J,J,J,J,J,J,J,J,J,J,J,J,J,J,J,J,J,J,J,J,J,J,J,J,J,J,J,J,J,J,J,J,J,J,J,J,J,J,J,J,J,J,J,J,J,J,J,J,J,J,J,J,J,J,J,J,J,J,J,J,J]) (K0 m n fr x'.V x'.G x'.O x'.F x'.A [bxD])∧U5 m n D0 x'∧a7Q m n x'<a7Q m n D:=by
  intro X env r s hs hE
  have hnx:D9 m n D=some (D.exch r s):=by unfold D9;rw [hs]
  exact ⟨idR (m+7),D.exch r s,S7 (T:=[bxD]) (T':=X) rfl rfl (by simp [b8]) (by intro k hk;simp at hk;subst hk;exact b1K (by omega)) hE,a9D hD hnx,aS5 (b6v inv.p inv.g) hnx⟩
 have exc:∀r s:Nat,B2 m n D=.next r s->a9 Tryz.prog 262 [.c (.ptr 0 0 0),a7 .i64 r,a7 .i64 s] (Z0 m n fr D) (.tup []) (Z0 m n fr (D.exch r s)):=fun r s hs=>by
  obtain ⟨q1,q2,q3⟩:=a4U hs
  exact aM6 m n fr D r s hm hn q1 q2 (a5S q3) bd (hB _ (a9D hD (by unfold D9;rw [hs])))
 cases hR:S3 D.O (fun i=>decide (D.V i<0)) m with
 |none=>
  rw [hR,show leI none=-1 from rfl] at l1
  cases hS:S3 D.F (fun j=>decide (0<D.G j)) n with
  |none=>
   rw [hS,show leI none=-1 from rfl] at l2
   have hst:B2 m n D=.best:=by unfold B2;rw [hR,hS]
   conv=>whnf
   repeat' (first|refine zz ?_|refine .inl ⟨_,_,j6 l1 (va1 _) rfl,?_⟩|refine .inl ⟨_,_,j6 l2 (va2 _) rfl,?_⟩|refine j4 (b8 _ _ _) ?_|refine j3 ?_|refine C7 (b8 _ _ _) ?_|refine g9 (t:=1) (b8 _ _ _) ?_|refine g9 (t:=2) (b8 _ _ _) ?_|refine i5 (t:=1) (b8 _ _ _) ?_|refine i5 (t:=2) (b8 _ _ _) ?_|refine zd ?_ ?_<;>intro h<;>try omega|refine zy ?_|fail)<;>conv=>whnf
   all_goals first
    |omega
    |exact fin0 _ _ _ (by unfold D9;rw [hst]) (by rw [hst];rfl)
  |some ss=>
   rw [hS,show leI (some ss)=ss from rfl] at l2
   have hss:=(F5 hS).1
   have l4:=a4L m hm D.O (fun i=>decide (0<D.A i ss)) 261 [a5s m n fr D,T.ptr [ti ss]] (fun i hi=>aj7 m n fr D i ss hi hss)
   cases hC:S3 D.O (fun i=>decide (0<D.A i ss)) m with
   |none=>
    rw [hC,show leI none=-1 from rfl] at l4
    have hst:B2 m n D=.col ss:=by unfold B2;rw [hR,hS];show a0P m D ss=_;unfold a0P;rw [hC]
    conv=>whnf
    repeat' (first|refine zz ?_|refine .inl ⟨_,_,j6 l1 (va1 _) rfl,?_⟩|refine .inl ⟨_,_,j6 l2 (va2 _) rfl,?_⟩|refine .inl ⟨_,_,j6 l4 (va4 _ _ ss) rfl,?_⟩|refine j4 (b8 _ _ _) ?_|refine j3 ?_|refine C7 (b8 _ _ _) ?_|refine g9 (t:=1) (b8 _ _ _) ?_|refine g9 (t:=2) (b8 _ _ _) ?_|refine i5 (t:=1) (b8 _ _ _) ?_|refine i5 (t:=2) (b8 _ _ _) ?_|refine zd ?_ ?_<;>intro h<;>try omega|refine zy ?_|fail)<;>conv=>whnf
    all_goals first
     |omega
     |exact fin0 _ _ _ (by unfold D9;rw [hst]) (by rw [hst];rfl)
   |some rq=>
    rw [hC,show leI (some rq)=rq from rfl] at l4
    have hst:B2 m n D=.next rq ss:=by unfold B2;rw [hR,hS];show a0P m D ss=_;unfold a0P;rw [hC]
    have exr:=exc _ _ hst
    conv=>whnf
    repeat' (first|refine zz ?_|refine .inl ⟨_,_,j6 l1 (va1 _) rfl,?_⟩|refine .inl ⟨_,_,j6 l2 (va2 _) rfl,?_⟩|refine .inl ⟨_,_,j6 l4 (va4 _ _ ss) rfl,?_⟩|refine .inr ⟨_,_,a8v _ exr,?_⟩|refine j4 (b8 _ _ _) ?_|refine j3 ?_|refine C7 (b8 _ _ _) ?_|refine g9 (t:=1) (b8 _ _ _) ?_|refine g9 (t:=2) (b8 _ _ _) ?_|refine i5 (t:=1) (b8 _ _ _) ?_|refine i5 (t:=2) (b8 _ _ _) ?_|refine zd ?_ ?_<;>intro h<;>try omega|refine zy ?_|fail)<;>conv=>whnf
    all_goals first
     |omega
     |exact go _ _ _ _ hst ⟨⟨k9 (by omega),rfl,rfl⟩,trivial⟩
 |some rr=>
  rw [hR,show leI (some rr)=rr from rfl] at l1
  cases hS:S3 D.F (fun j=>decide (0<D.G j)) n with
  |none=>
   rw [hS,show leI none=-1 from rfl] at l2
   have hrr:=(F5 hR).1
   have l3:=a4L n (by omega) D.F (fun j=>decide (D.A rr j<0)) 260 [a5s m n fr D,T.ptr [ti rr]] (fun j hj=>ak0 m n fr D rr j hrr hj)
   cases hC:S3 D.F (fun j=>decide (D.A rr j<0)) n with
   |none=>
    rw [hC,show leI none=-1 from rfl] at l3
    have hst:B2 m n D=.row rr:=by unfold B2;rw [hR,hS];show a0Q n D rr=_;unfold a0Q;rw [hC]
    conv=>whnf
    repeat' (first|refine zz ?_|refine .inl ⟨_,_,j6 l1 (va1 _) rfl,?_⟩|refine .inl ⟨_,_,j6 l2 (va2 _) rfl,?_⟩|refine .inl ⟨_,_,j6 l3 (va3 _ rr) rfl,?_⟩|refine j4 (b8 _ _ _) ?_|refine j3 ?_|refine C7 (b8 _ _ _) ?_|refine g9 (t:=1) (b8 _ _ _) ?_|refine g9 (t:=2) (b8 _ _ _) ?_|refine i5 (t:=1) (b8 _ _ _) ?_|refine i5 (t:=2) (b8 _ _ _) ?_|refine zd ?_ ?_<;>intro h<;>try omega|refine zy ?_|fail)<;>conv=>whnf
    all_goals first
     |omega
     |exact fin0 _ _ _ (by unfold D9;rw [hst]) (by rw [hst];rfl)
   |some sq=>
    rw [hC,show leI (some sq)=sq from rfl] at l3
    have hst:B2 m n D=.next rr sq:=by unfold B2;rw [hR,hS];show a0Q n D rr=_;unfold a0Q;rw [hC]
    have exr:=exc _ _ hst
    conv=>whnf
    repeat' (first|refine zz ?_|refine .inl ⟨_,_,j6 l1 (va1 _) rfl,?_⟩|refine .inl ⟨_,_,j6 l2 (va2 _) rfl,?_⟩|refine .inl ⟨_,_,j6 l3 (va3 _ rr) rfl,?_⟩|refine .inr ⟨_,_,a8v _ exr,?_⟩|refine j4 (b8 _ _ _) ?_|refine j3 ?_|refine C7 (b8 _ _ _) ?_|refine g9 (t:=1) (b8 _ _ _) ?_|refine g9 (t:=2) (b8 _ _ _) ?_|refine i5 (t:=1) (b8 _ _ _) ?_|refine i5 (t:=2) (b8 _ _ _) ?_|refine zd ?_ ?_<;>intro h<;>try omega|refine zy ?_|fail)<;>conv=>whnf
    all_goals first
     |omega
     |exact go _ _ _ _ hst ⟨⟨k9 (by omega),rfl,rfl⟩,trivial⟩
  |some ss=>
   rw [hS,show leI (some ss)=ss from rfl] at l2
   have hrr:=(F5 hR).1
   have hss:=(F5 hS).1
   by_cases hlt:D.O rr<D.F ss
   ·skip
    have l3:=a4L n (by omega) D.F (fun j=>decide (D.A rr j<0)) 260 [a5s m n fr D,T.ptr [ti rr]] (fun j hj=>ak0 m n fr D rr j hrr hj)
    cases hC:S3 D.F (fun j=>decide (D.A rr j<0)) n with
    |none=>
     rw [hC,show leI none=-1 from rfl] at l3
     have hst:B2 m n D=.row rr:=by unfold B2 a0Q;rw [hR,hS];simp only [if_pos hlt];rw [hC]
     conv=>whnf
     repeat' (first|refine zz ?_|refine .inl ⟨_,_,j6 l1 (va1 _) rfl,?_⟩|refine .inl ⟨_,_,j6 l2 (va2 _) rfl,?_⟩|refine .inl ⟨_,_,j6 l3 (va3 _ rr) rfl,?_⟩|refine j4 (b8 _ _ _) ?_|refine j3 ?_|refine C7 (b8 _ _ _) ?_|refine g9 (t:=1) (b8 _ _ _) ?_|refine g9 (t:=2) (b8 _ _ _) ?_|refine i5 (t:=1) (b8 _ _ _) ?_|refine i5 (t:=2) (b8 _ _ _) ?_|refine a0M (r:=rr) (by omega) hrr ?_|refine a0M (r:=ss) (by omega) hss ?_|refine zd ?_ ?_<;>intro h<;>try omega|refine zy ?_|fail)<;>conv=>whnf
     all_goals first
      |omega
      |exact fin0 _ _ _ (by unfold D9;rw [hst]) (by rw [hst];rfl)
    |some sq=>
     rw [hC,show leI (some sq)=sq from rfl] at l3
     have hst:B2 m n D=.next rr sq:=by unfold B2 a0Q;rw [hR,hS];simp only [if_pos hlt];rw [hC]
     have exr:=exc _ _ hst
     conv=>whnf
     repeat' (first|refine zz ?_|refine .inl ⟨_,_,j6 l1 (va1 _) rfl,?_⟩|refine .inl ⟨_,_,j6 l2 (va2 _) rfl,?_⟩|refine .inl ⟨_,_,j6 l3 (va3 _ rr) rfl,?_⟩|refine .inr ⟨_,_,a8v _ exr,?_⟩|refine j4 (b8 _ _ _) ?_|refine j3 ?_|refine C7 (b8 _ _ _) ?_|refine g9 (t:=1) (b8 _ _ _) ?_|refine g9 (t:=2) (b8 _ _ _) ?_|refine i5 (t:=1) (b8 _ _ _) ?_|refine i5 (t:=2) (b8 _ _ _) ?_|refine a0M (r:=rr) (by omega) hrr ?_|refine a0M (r:=ss) (by omega) hss ?_|refine zd ?_ ?_<;>intro h<;>try omega|refine zy ?_|fail)<;>conv=>whnf
     all_goals first
      |omega
      |exact go _ _ _ _ hst ⟨⟨k9 (by omega),rfl,rfl⟩,trivial⟩
   ·skip
    have l4:=a4L m hm D.O (fun i=>decide (0<D.A i ss)) 261 [a5s m n fr D,T.ptr [ti ss]] (fun i hi=>aj7 m n fr D i ss hi hss)
    cases hC:S3 D.O (fun i=>decide (0<D.A i ss)) m with
    |none=>
     rw [hC,show leI none=-1 from rfl] at l4
     have hst:B2 m n D=.col ss:=by unfold B2 a0P;rw [hR,hS];simp only [if_neg hlt];rw [hC]
     conv=>whnf
     repeat' (first|refine zz ?_|refine .inl ⟨_,_,j6 l1 (va1 _) rfl,?_⟩|refine .inl ⟨_,_,j6 l2 (va2 _) rfl,?_⟩|refine .inl ⟨_,_,j6 l4 (va4 _ _ ss) rfl,?_⟩|refine j4 (b8 _ _ _) ?_|refine j3 ?_|refine C7 (b8 _ _ _) ?_|refine g9 (t:=1) (b8 _ _ _) ?_|refine g9 (t:=2) (b8 _ _ _) ?_|refine i5 (t:=1) (b8 _ _ _) ?_|refine i5 (t:=2) (b8 _ _ _) ?_|refine a0M (r:=rr) (by omega) hrr ?_|refine a0M (r:=ss) (by omega) hss ?_|refine zd ?_ ?_<;>intro h<;>try omega|refine zy ?_|fail)<;>conv=>whnf
     all_goals first
      |omega
      |exact fin0 _ _ _ (by unfold D9;rw [hst]) (by rw [hst];rfl)
    |some rq=>
     rw [hC,show leI (some rq)=rq from rfl] at l4
     have hst:B2 m n D=.next rq ss:=by unfold B2 a0P;rw [hR,hS];simp only [if_neg hlt];rw [hC]
     have exr:=exc _ _ hst
     conv=>whnf
     repeat' (first|refine zz ?_|refine .inl ⟨_,_,j6 l1 (va1 _) rfl,?_⟩|refine .inl ⟨_,_,j6 l2 (va2 _) rfl,?_⟩|refine .inl ⟨_,_,j6 l4 (va4 _ _ ss) rfl,?_⟩|refine .inr ⟨_,_,a8v _ exr,?_⟩|refine j4 (b8 _ _ _) ?_|refine j3 ?_|refine C7 (b8 _ _ _) ?_|refine g9 (t:=1) (b8 _ _ _) ?_|refine g9 (t:=2) (b8 _ _ _) ?_|refine i5 (t:=1) (b8 _ _ _) ?_|refine i5 (t:=2) (b8 _ _ _) ?_|refine a0M (r:=rr) (by omega) hrr ?_|refine a0M (r:=ss) (by omega) hss ?_|refine zd ?_ ?_<;>intro h<;>try omega|refine zy ?_|fail)<;>conv=>whnf
     all_goals first
      |omega
      |exact go _ _ _ _ hst ⟨⟨k9 (by omega),rfl,rfl⟩,trivial⟩
end Go.Proofs.YtdbogogfeffjlaaGreat
