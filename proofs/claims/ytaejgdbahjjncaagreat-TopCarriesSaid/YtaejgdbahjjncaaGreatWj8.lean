/- Part 8. -/
import Derived.Test.YtaejgdbahjjncaaGreatWj7
namespace Go.Proofs.YtaejgdbahjjncaaGreat
set_option linter.unusedVariables false
set_option linter.unusedSimpArgs false
set_option maxRecDepth 100000
set_option maxHeartbeats 8000000
open Go.RowKit
open St1 St2 St3 St4 St5 St6 St7 St8 StA StB
theorem az3 (i:Nat):pw i=((2 ^ (20*i):Nat):Int):=by
 unfold pw;rw [show (1048576:Int)=((2 ^ 20:Nat):Int) by decide,←Int.natCast_pow,←Nat.pow_mul]
theorem ba9 {d:Int} {i:Nat} {b:Int} (hi:i<=3) (h:0<=d) (h2:d*pw i<18446744073709551616) (hb:b=20*i):G0 .u64 (d*2 ^ min b.toNat (IntKind.bits .u64)) (d*pw i):=by
 have e:min b.toNat (IntKind.bits .u64)=20*i:=by show min b.toNat 64=_;omega
 have hp:=Q1 i
 have h3:0<=d*pw i:=lbZ h (by omega)
 rw [e,show (2:Int) ^ (20*i)=pw i by rw [az3];simp]
 exact aI3 h3 h2
theorem oru {u d:Int} {i:Nat} (hu:0<=u) (hu2:u<pw i) (h:0<=d) (h2:u+d*pw i<18446744073709551616):a4n .or .u64 u (d*pw i) (u+d*pw i):=by
 obtain ⟨U,rfl⟩:=ad1 hu
 obtain ⟨D,rfl⟩:=ad1 h
 have hp:=Q1 i
 have e2:(U:Int)+D*pw i=((U+2 ^ (20*i)*D:Nat):Int):=by rw [az3];simp [ab9]
 have e3:(D:Int)*pw i=((2 ^ (20*i)*D:Nat):Int):=by rw [az3];simp [ab9]
 rw [e2] at h2
 have hU:U<2 ^ (20*i):=by rw [az3] at hu2;omega
 have k1:(BitVec.ofInt (IntKind.bits .u64) (U:Int) ||| BitVec.ofInt (IntKind.bits .u64) ((2 ^ (20*i)*D:Nat):Int)).toNat=U+2 ^ (20*i)*D:=by
  show (BitVec.ofInt 64 _ ||| BitVec.ofInt 64 _).toNat=_
  rw [BitVec.toNat_or,BitVec.toNat_ofInt,BitVec.toNat_ofInt]
  rw [aD9 (by omega) (by omega),aD9 (by omega) (by omega),lbX,lbX,Nat.or_comm,←Nat.two_pow_add_eq_or_of_lt hU,Nat.add_comm]
 rw [e2,e3]
 unfold a4n
 simp only
 rw [k1]
 exact (ae8 (by omega) h2).symm
structure aX9 (n:Nat) (k:Nat) (u:Int):Prop where
 eq:u=val ((dg n).take k)
 le:k<=(dg n).length
 lt:k=4->u<9*1152921504606846976
theorem aX9.rng {n k:Nat} {u:Int} (h:aX9 n k u):0<=u∧u<pw k:=by
 have h1:=p8 ((B5 n).take k)
 have h2:=a02 ((B5 n).take k)
 rw [lbs,a1h h.le,←h.eq] at h2
 rw [← h.eq] at h1
 exact ⟨h1,h2⟩
theorem aX9.step {n k:Nat} {u:Int} (h:aX9 n k u) (hk:k<(dg n).length) (hd:k=3->dat (dg n) k<=8):aX9 n (k+1) (u+dat (dg n) k*pw k):=by
 have hr:=h.rng
 refine ⟨by rw [s6,h.eq,ab9],hk,fun h4=>?_⟩
 have:k=3:=by omega
 subst this
 have:=hd rfl
 simp only [pw] at hr ⊢
 omega
theorem b8N {k:Nat} (h:k<=3):pw k<=1152921504606846976:=by
 have:=a1T h
 simp only [pw] at this ⊢
 omega
theorem b8p {k:Nat} (h:k<=2):pw k<=1099511627776:=by
 have:=a1T h
 simp only [pw] at this ⊢
 omega
theorem ay9 {a a':Int} {b b':Bool} {k:IntKind} {H1:Hp} (h:a=a') (h2:b=b'):Fin 0 (.tup [a7 k a,d9 b]) H1 (.tup [a7 k a',d9 b']) []:=by
 subst h h2;exact j2 ⟨rfl,rfl,trivial⟩
theorem aW0 {x:Int} (h1:9223372036854775808<=x) (h2:x<18446744073709551616):G0 .i64 x (x - 18446744073709551616):=by
 unfold G0
 simp only [IntKind.wrap,IntKind.bits,IntKind.signed]
 simp
 omega
abbrev a89 (x:Int):Prop:=-9223372036854775808<=x∧x<=9223372036854775807
theorem b7W (x:Int) (lx:bl x<=200000):a8 Tryz.prog 210 [bgS (bz x)] [] (.tup [a7 .i64 (if a89 x then x else 0),d9 (decide (a89 x))]) []:=by
 have r1:=a4g x (by omega)
 have l1:((bz x).dl.map d7).length=(dg x.natAbs).length:=by simp [bz]
 have l2:(bz x).dl=dg x.natAbs:=rfl
 have hlast:∀k:Nat,k<(dg x.natAbs).length->pw k<=x.natAbs:=fun k hk=>Int.le_trans (a1T (by omega)) (aA3 (by
  rcases a3m x.natAbs with h|h
  ·rw [h,a1S] at hk;simp at hk
  ·exact h))
 (refine ac Tryz.func210 ?_;(conv=>whnf);repeat (refine zy ?_;conv=>whnf))
 repeat' (first|refine zx ?_|refine qp r1 ?_|refine zd ?_ ?_<;>intro h<;>try omega|fail)<;>conv=>whnf
 ·have hl:4<(dg x.natAbs).length:=by omega
  have:=hlast 4 hl
  simp only [pw] at this
  have hn:¬a89 x:=by unfold a89;omega
  exact ay9 (by rw [if_neg hn]) (by simp [hn])
 ·refine s7 b9 (σ:=Nat × Int) (fun|(k,u)=>([J,S.c (C.ptr 0 0 0),J,J,a7 .u64 u]++Jn 12++[e8 (dg x.natAbs),a7 .i64 (dg x.natAbs).length,a7 .i64 k]++Jn 39,[bgB (bz x)])) (fun s=>aX9 x.natAbs s.1 s.2) (fun s=>(dg x.natAbs).length - s.1) (0,0) [some 0]
   ⟨by simp [val],by omega,by omega⟩ ⟨rfl,rfl,⟨⟨rfl,rfl,rfl,.inl ⟨rfl,a43 _⟩⟩,trivial⟩,⟨⟨rfl,rfl,rfl⟩,rfl,g9 rfl,c7 (by omega),rfl,trivial⟩⟩ ?_
  rintro ⟨k,u⟩ hI
  have hI:aX9 x.natAbs k u:=hI
  have hr:=hI.rng
  have hle:=hI.le
  have hd:=(B5 x.natAbs).dat k
  have hp:=Q1 k
  have hp3:k<=3->pw k<=1152921504606846976:=b8N
  have hdm:0<=dat (dg x.natAbs) k*pw k:=lbZ hd.1 (by omega)
  have l3:((dg x.natAbs).map d7).length=(dg x.natAbs).length:=by simp
  have hp2:k<=2->pw k<=1099511627776:=b8p
  have hA:k<=3->(k=3->dat (dg x.natAbs) k<=8)->u+dat (dg x.natAbs) k*pw k<18446744073709551616:=fun h3 h8=>by
   by_cases hk:k=3
   ·have:=lbW (c:=pw k) (h8 hk) (by omega)
    have:=hp3 h3
    omega
   ·have:=lbW (c:=pw k) (show dat (dg x.natAbs) k<=1048575 by omega) (by omega)
    have:=hp2 (by omega)
    omega
  have hE:k=(dg x.natAbs).length->u=x.natAbs:=fun h=>by
   have:=hI.eq
   rw [h,lbn (lbQ _),x3] at this
   exact this
  have hs:=N6 x
  have hsg:(bz x).sg=x.sign:=rfl
  conv=>whnf
  repeat' (first|refine zx ?_|refine f9 (x9 (by omega)) ?_|refine ⟨_,aI3 (by omega) (by omega),?_⟩|refine ⟨by omega,_,ba9 (i:=k) (by omega) (by omega) (by omega) (by omega),?_⟩|refine ⟨_,oru (by omega) (by omega) (by omega) (by omega),?_⟩|refine ⟨_,a17 (y:=18446744073709551616 - u) (by omega),?_⟩|refine ⟨_,aW0 (by omega) (by omega),?_⟩|refine zd ?_ ?_<;>intro h<;>try omega|fail)<;>conv=>whnf
  ·have hk:k=3:=by omega
   have h8:9<=dat (dg x.natAbs) k:=by omega
   have h1:=s6 (dg x.natAbs) k
   have h4:val (dg x.natAbs)=val ((dg x.natAbs).take (k+1)):=by rw [lbn (by omega)]
   rw [x3] at h4
   have h5:=p8 ((B5 x.natAbs).take k)
   have h6:=lbV (a:=9) (b:=dat (dg x.natAbs) k) (c:=pw k) h8 (by omega)
   have h7:pw k=1152921504606846976:=by rw [hk];rfl
   have hn:¬a89 x:=by unfold a89;omega
   exact ay9 (by rw [if_neg hn]) (by simp [hn])
  ·have hst:=hI.step (by omega) (by omega)
   exact ⟨[some 0],(k+1,u+dat (dg x.natAbs) k*pw k),⟨rfl,rfl,⟨⟨rfl,rfl,rfl,.inl ⟨rfl,a43 _⟩⟩,trivial⟩,⟨⟨rfl,rfl,rfl⟩,rfl,rfl,rfl,c7 (by omega),trivial⟩⟩,hst,by show (dg x.natAbs).length - (k+1)<(dg x.natAbs).length - k;omega⟩
  ·have hst:=hI.step (by omega) (by omega)
   exact ⟨[some 0],(k+1,u+dat (dg x.natAbs) k*pw k),⟨rfl,rfl,⟨⟨rfl,rfl,rfl,.inl ⟨rfl,a43 _⟩⟩,trivial⟩,⟨⟨rfl,rfl,rfl⟩,rfl,rfl,rfl,c7 (by omega),trivial⟩⟩,hst,by show (dg x.natAbs).length - (k+1)<(dg x.natAbs).length - k;omega⟩
  all_goals
   have hu:=hE (by omega)
   first
    |(have hn:a89 x:=by unfold a89;omega
      exact ay9 (by rw [if_pos hn];omega) (by simp [hn]))
    |(have hn:¬a89 x:=by unfold a89;omega
      exact ay9 (by rw [if_neg hn]) (by simp [hn]))
abbrev frC (f:Fr):List C:=[.t (ti f.p.sg),.t (M4 f.p.dl),.t (ti f.q.sg),.t (M4 f.q.dl)]
abbrev frS (f:Fr):S:=.agg (frC f)
theorem b9Y (x:Int) (lx:bl x<=200000):a8 Tryz.prog 133 [bgS (bz x)] [] (d9 (x == 1)) []:=by
 have i:=b7W x lx
 by_cases h:a89 x
 ·rw [if_pos h,show decide (a89 x)=true by simp [h]] at i
  (refine ac Tryz.func133 ?_;(conv=>whnf);repeat (refine zy ?_;conv=>whnf))
  repeat' (first|refine zx ?_|refine qp i ?_|refine zd ?_ ?_<;>intro h<;>try omega|fail)<;>conv=>whnf
  all_goals (refine c9 ?_;simp;omega)
 ·rw [if_neg h,show decide (a89 x)=false by simp [h]] at i
  have hx:x≠1:=by rintro rfl;exact h (by decide)
  (refine ac Tryz.func133 ?_;(conv=>whnf);repeat (refine zy ?_;conv=>whnf))
  repeat' (first|refine zx ?_|refine qp i ?_|refine zd ?_ ?_<;>intro h<;>try omega|fail)<;>conv=>whnf
  all_goals (refine c9 ?_;simp;omega)
theorem a6z (f:Fr) (lp:f.p.dl.length<=200000) (lq:f.q.dl.length<=200000):a8 Tryz.prog 59 [frS f] [] (d9 (R4 f)) []:=by
 obtain ⟨p,q⟩:=f
 simp only at lp lq
 have r1:=a2H p (by omega)
 have r2:=a2H q (by omega)
 cases hp:O4 p with
 |false=>
  rw [hp] at r1
  (refine ac Tryz.func59 ?_;(conv=>whnf);repeat (refine zy ?_;conv=>whnf))
  repeat' (first|refine zx ?_|refine qp r1 ?_|refine qp r2 ?_|refine zd ?_ ?_<;>intro h<;>try omega|fail)<;>conv=>whnf
  all_goals (first|(exfalso;simp_all;done)|(refine c9 ?_;unfold R4;simp [hp]))
 |true=>
  rw [hp] at r1
  cases hq:O4 q with
  |false=>
   rw [hq] at r2
   (refine ac Tryz.func59 ?_;(conv=>whnf);repeat (refine zy ?_;conv=>whnf))
   repeat' (first|refine zx ?_|refine qp r1 ?_|refine qp r2 ?_|refine zd ?_ ?_<;>intro h<;>try omega|fail)<;>conv=>whnf
   all_goals (first|(exfalso;simp_all;done)|(refine c9 ?_;unfold R4;simp [hq]))
  |true=>
   rw [hq] at r2
   obtain ⟨x,rfl⟩:=aL0 hp
   obtain ⟨y,rfl⟩:=aL0 hq
   have g:=aV1 x y lp lq
   have o:=b9Y (Int.gcd x y) (aU4 x y lp lq)
   (refine ac Tryz.func59 ?_;(conv=>whnf);repeat (refine zy ?_;conv=>whnf))
   repeat' (first|refine zx ?_|refine qp r1 ?_|refine qp r2 ?_|refine qp g ?_|refine qp o ?_|refine zd ?_ ?_<;>intro h<;>try omega|fail)<;>conv=>whnf
   all_goals (refine c9 ?_;unfold R4;simp only [a2v,a8p,N9];symm;simp_all<;>omega)
theorem a0Y (x y:Int) (lx:bl x<=200000) (ly:bl y<=200000):a8 Tryz.prog 81 [bgS (bz x),bgS (bz y)] [] (bgS (bz (x*y))) []:=by
 have mu:=b8E x y lx ly
 (refine ac Tryz.func81 ?_;(conv=>whnf);repeat (refine zy ?_;conv=>whnf))
 repeat' (first|refine zx ?_|refine qp mu ?_|refine zd ?_ ?_<;>intro h<;>try omega|fail)<;>conv=>whnf
 exact j2 ⟨rfl,rfl,trivial⟩
theorem a21 {f f':Fr} {e:Int} {H1:Hp} (h:f=f'):Fin 0 (.tup [frS f,a7 .i64 e]) H1 (.tup [frS f',a7 .i64 e]) []:=by
 subst h;exact j2 ⟨⟨rfl,rfl,rfl,rfl,trivial⟩,rfl,trivial⟩
theorem at9 (p q:Int) (hq:q≠0) (lp:bl p<=200000) (lq:bl q<=200000):a8 Tryz.prog 63 [bgS (bz p),bgS (bz q)] [] (.tup [frS (fz (Rat.divInt p q)),a7 .i64 0]) []:=by
 have r1:=a4g p (by omega)
 have r2:=a4g q (by omega)
 have hs:=N6 q
 have hsg:(bz q).sg=q.sign:=rfl
 by_cases h:q<0
 ·have n1:=a7L p (by omega)
  have n2:=a7L q (by omega)
  have lg:=aU4 (-p) (-q) (by rw [a4m];exact lp) (by rw [a4m];exact lq)
  have hg:0<(Int.gcd (-p) (-q):Int):=by have:=Int.gcd_pos_of_ne_zero_right (-p) (b:=-q) (by omega);omega
  have g:=aV1 (-p) (-q) (by rw [a4m];exact lp) (by rw [a4m];exact lq)
  have d1:=at7 (-p) _ hg (by rw [a4m];exact lp) lg
  have d2:=at7 (-q) _ hg (by rw [a4m];exact lq) lg
  have e:=an7 (p:=-p) (q:=-q) (by omega) rfl
  rw [Rat.neg_divInt_neg] at e
  (refine ac Tryz.func63 ?_;(conv=>whnf);repeat (refine zy ?_;conv=>whnf))
  repeat' (first|refine zx ?_|refine qp r1 ?_|refine qp r2 ?_|refine qp n1 ?_|refine qp n2 ?_|refine qp g ?_|refine qp d1 ?_|refine qp d2 ?_|refine zd ?_ ?_<;>intro h<;>try omega|fail)<;>conv=>whnf
  all_goals first
   |(exfalso;simp_all;done)
   |omega
   |exact a21 e.symm
 ·have lg:=aU4 p q lp lq
  have hg:0<(Int.gcd p q:Int):=by have:=Int.gcd_pos_of_ne_zero_right p (b:=q) (by omega);omega
  have g:=aV1 p q lp lq
  have d1:=at7 p _ hg lp lg
  have d2:=at7 q _ hg lq lg
  have e:=an7 (p:=p) (q:=q) (by omega) rfl
  (refine ac Tryz.func63 ?_;(conv=>whnf);repeat (refine zy ?_;conv=>whnf))
  repeat' (first|refine zx ?_|refine qp r1 ?_|refine qp r2 ?_|refine qp g ?_|refine qp d1 ?_|refine qp d2 ?_|refine zd ?_ ?_<;>intro h<;>try omega|fail)<;>conv=>whnf
  all_goals first
   |omega
   |(exfalso;simp_all;done)
   |exact a21 e.symm
theorem I4 (x:Rat) (lx:rl x<=200000):a8 Tryz.prog 59 [frS (fz x)] [] (d9 true) []:=by
 have h:=a6z (fz x) (lbR (K0 x) lx) (lbR (M3 x) lx)
 rw [a9E] at h
 exact h
theorem a4o (x y:Rat) (lx:rl x<=60000) (ly:rl y<=60000):a8 Tryz.prog 55 [frS (fz x),frS (fz y)] [] (.tup [frS (fz (x+y)),a7 .i64 0]) []:=by
 have r1:=I4 x (by omega)
 have r2:=I4 y (by omega)
 have x1:=K0 x
 have x2:=M3 x
 have y1:=K0 y
 have y2:=M3 y
 have l1:=X8 x.num y.den
 have l2:=X8 y.num x.den
 have l3:=X8 x.den y.den
 have l4:=b4H (x.num*y.den) (y.num*x.den)
 have t1:=a0Y x.num y.den (by omega) (by omega)
 have t2:=a0Y y.num x.den (by omega) (by omega)
 have t3:=a0Y x.den y.den (by omega) (by omega)
 have a:=b8d (x.num*y.den) (y.num*x.den) (by omega) (by omega)
 have n:=at9 (x.num*y.den+y.num*x.den) (x.den*y.den) (a9g x y) (by omega) (by omega)
 rw [← b0I] at n
 (refine ac Tryz.func55 ?_;(conv=>whnf);repeat (refine zy ?_;conv=>whnf))
 repeat' (first|refine zx ?_|refine qp r1 ?_|refine qp r2 ?_|refine qp t1 ?_|refine qp t2 ?_|refine qp t3 ?_|refine qp a ?_|refine qp n ?_|refine qp 13 ?_|refine bl0 [13] ?_|refine zd ?_ ?_<;>intro h<;>try omega|fail)<;>conv=>whnf
 all_goals first
  |(exfalso;simp_all;done)
  |exact a21 rfl
theorem b4O (x y:Rat) (lx:rl x<=60000) (ly:rl y<=60000):a8 Tryz.prog 66 [frS (fz x),frS (fz y)] [] (.tup [frS (fz (x - y)),a7 .i64 0]) []:=by
 have r1:=I4 x (by omega)
 have r2:=I4 y (by omega)
 have y1:=K0 y
 have n:=a7L y.num (by omega)
 have a:=a4o x (-y) lx (by rw [R9];exact ly)
 rw [← Rat.sub_eq_add_neg] at a
 have e:fz (-y)=⟨bz (-y.num),bz y.den⟩:=rfl
 rw [e] at a
 (refine ac Tryz.func66 ?_;(conv=>whnf);repeat (refine zy ?_;conv=>whnf))
 repeat' (first|refine zx ?_|refine qp r1 ?_|refine qp r2 ?_|refine qp n ?_|refine qp a ?_|refine zd ?_ ?_<;>intro h<;>try omega|fail)<;>conv=>whnf
 all_goals first
  |(exfalso;simp_all;done)
  |exact a21 rfl
theorem az2 (x y:Rat) (lx:rl x<=60000) (ly:rl y<=60000):a8 Tryz.prog 57 [frS (fz x),frS (fz y)] [] (.tup [frS (fz (x*y)),a7 .i64 0]) []:=by
 have r1:=I4 x (by omega)
 have r2:=I4 y (by omega)
 have x1:=K0 x
 have x2:=M3 x
 have y1:=K0 y
 have y2:=M3 y
 have l1:=X8 x.num y.num
 have l3:=X8 x.den y.den
 have t1:=a0Y x.num y.num (by omega) (by omega)
 have t3:=a0Y x.den y.den (by omega) (by omega)
 have n:=at9 (x.num*y.num) (x.den*y.den) (a9g x y) (by omega) (by omega)
 rw [← b0e] at n
 (refine ac Tryz.func57 ?_;(conv=>whnf);repeat (refine zy ?_;conv=>whnf))
 repeat' (first|refine zx ?_|refine qp r1 ?_|refine qp r2 ?_|refine qp t1 ?_|refine qp t3 ?_|refine qp n ?_|refine zd ?_ ?_<;>intro h<;>try omega|fail)<;>conv=>whnf
 all_goals first
  |(exfalso;simp_all;done)
  |exact a21 rfl
theorem b4K (x y:Rat):S6 (x.num*y.den) (y.num*x.den)=a1G x y:=by
 unfold S6 a1G
 simp only [← Rat.lt_iff]
theorem Q5 (x y:Rat) (lx:rl x<=60000) (ly:rl y<=60000):a8 Tryz.prog 29 [frS (fz x),frS (fz y)] [] (a7 .i64 (a1G x y)) []:=by
 have r1:=I4 x (by omega)
 have r2:=I4 y (by omega)
 have x1:=K0 x
 have x2:=M3 x
 have y1:=K0 y
 have y2:=M3 y
 have l1:=X8 x.num y.den
 have l2:=X8 y.num x.den
 have t1:=a0Y x.num y.den (by omega) (by omega)
 have t2:=a0Y y.num x.den (by omega) (by omega)
 have c:=aS0 (x.num*y.den) (y.num*x.den) (by omega) (by omega)
 rw [b4K] at c
 (refine ac Tryz.func29 ?_;(conv=>whnf);repeat (refine zy ?_;conv=>whnf))
 repeat' (first|refine zx ?_|refine qp r1 ?_|refine qp r2 ?_|refine qp t1 ?_|refine qp t2 ?_|refine qp c ?_|refine zd ?_ ?_<;>intro h<;>try omega|fail)<;>conv=>whnf
 all_goals first
  |(exfalso;simp_all;done)
  |exact A6 rfl
theorem T8 (x:Rat) (lx:rl x<=60000):a8 Tryz.prog 19 [frS (fz x)] [] (a7 .i64 (sgR x)) []:=by
 have r1:=I4 x (by omega)
 (refine ac Tryz.func19 ?_;(conv=>whnf);repeat (refine zy ?_;conv=>whnf))
 repeat' (first|refine zx ?_|refine qp r1 ?_|refine zd ?_ ?_<;>intro h<;>try omega|fail)<;>conv=>whnf
 all_goals first
  |(exfalso;simp_all;done)
  |exact A6 (ag5 x)
theorem b9S (p q:Int) (hq:q≠0) (p0:-9223372036854775808<=p) (p1:p<=9223372036854775807) (q0:-9223372036854775808<=q) (q1:q<=9223372036854775807):
 a8 Tryz.prog 22 [a7 .i64 p,a7 .i64 q] [] (.tup [frS (fz (Rat.divInt p q)),a7 .i64 0]) []:=by
 have l1:=a2U p0 p1
 have l2:=a2U q0 q1
 have o1:=b0B p p0 p1
 have o2:=b0B q q0 q1
 have n:=at9 p q hq (by omega) (by omega)
 (refine ac Tryz.func22 ?_;(conv=>whnf);repeat (refine zy ?_;conv=>whnf))
 repeat' (first|refine zx ?_|refine qp o1 ?_|refine qp o2 ?_|refine qp n ?_|refine zd ?_ ?_<;>intro h<;>try omega|fail)<;>conv=>whnf
 all_goals exact a21 rfl
theorem b8L (n:Int):fz (n:Rat)=⟨bz n,bz 1⟩:=by unfold fz;rw [Rat.num_intCast,Rat.den_intCast];rfl
theorem H4 (n:Int) (p0:-9223372036854775808<=n) (p1:n<=9223372036854775807):a8 Tryz.prog 17 [a7 .i64 n] [] (frS (fz (n:Rat))) []:=by
 have o1:=b0B n p0 p1
 have o2:=b0B 1 (by decide) (by decide)
 rw [b8L]
 (refine ac Tryz.func17 ?_;(conv=>whnf);repeat (refine zy ?_;conv=>whnf))
 repeat' (first|refine zx ?_|refine qp o1 ?_|refine qp o2 ?_|refine zd ?_ ?_<;>intro h<;>try omega|fail)<;>conv=>whnf
 all_goals exact j2 ⟨rfl,rfl,rfl,rfl,trivial⟩
theorem ab2 (x:Int) (lx:bl x<=200000):a8 Tryz.prog 136 [bgS (bz x)] [] (bgS (bz x)) []:=by
 have n1:=a7L x (by omega)
 have n2:=a7L (-x) (by rw [a4m];omega)
 rw [Int.neg_neg] at n2
 (refine ac Tryz.func136 ?_;(conv=>whnf);repeat (refine zy ?_;conv=>whnf))
 repeat' (first|refine zx ?_|refine qp n1 ?_|refine qp n2 ?_|refine zd ?_ ?_<;>intro h<;>try omega|fail)<;>conv=>whnf
 all_goals exact j2 ⟨rfl,rfl,trivial⟩
theorem ay0 {x y:Rat}:a1G x y<0↔x<y:=by unfold a1G;split<;>(try split)<;>simp_all
theorem b4C (x y:Rat):-1<=a1G x y∧a1G x y<=1:=by unfold a1G;split<;>(try split)<;>omega
theorem b7N (x y:Rat) (lx:rl x<=60000) (ly:rl y<=60000):a8 Tryz.prog 218 [frS (fz x),frS (fz y)] [] (.tup [frS (fz (b1l x y)),a7 .i64 0]) []:=by
 have e:a8 Tryz.prog 269 [frS (fz x),frS (fz y),a7 .i64 1] [] (.tup [frS (fz (b1l x y)),a7 .i64 0]) []:=by
  have r1:=I4 x (by omega)
  have r2:=I4 y (by omega)
  have x1:=K0 x
  have x2:=M3 x
  have y1:=K0 y
  have y2:=M3 y
  have c:=Q5 x y lx ly
  have hr:=b4C x y
  have s1:=ab2 x.num (by omega)
  have s2:=ab2 x.den (by omega)
  have s3:=ab2 y.num (by omega)
  have s4:=ab2 y.den (by omega)
  (refine ac Tryz.func269 ?_;(conv=>whnf);repeat (refine zy ?_;conv=>whnf))
  repeat' (first|refine zx ?_|refine qp r1 ?_|refine qp r2 ?_|refine qp c ?_|refine qp s1 ?_|refine qp s2 ?_|refine qp s3 ?_|refine qp s4 ?_|refine zd ?_ ?_<;>intro h<;>try omega|fail)<;>conv=>whnf
  ·have h:a1G x y<0:=by omega
   refine a21 (f:=fz y) ?_
   unfold b1l;rw [if_pos (ay0.1 h)]
  ·have h:¬a1G x y<0:=by omega
   refine a21 (f:=fz x) ?_
   unfold b1l;rw [if_neg (fun h'=>h (ay0.2 h'))]
 (refine ac Tryz.func218 ?_;(conv=>whnf);repeat (refine zy ?_;conv=>whnf))
 repeat' (first|refine zx ?_|refine qp e ?_|refine zd ?_ ?_<;>intro h<;>try omega|fail)<;>conv=>whnf
 all_goals exact a21 rfl
theorem a3Q (n m:Int):a8 Tryz.prog 268 [a7 .i64 n,a7 .i64 m] [] (d9 (btw n 0 m)) []:=by
 (refine ac Tryz.func268 ?_;(conv=>whnf);repeat (refine zy ?_;conv=>whnf))
 repeat' (first|refine zx ?_|refine zd ?_ ?_<;>intro h<;>try omega|fail)<;>conv=>whnf
 all_goals (refine c9 ?_;unfold btw;simp;omega)
abbrev b3s (c:D7):S:=.agg (c.row.map .t)
theorem b1L (n:Int):btw n 0 29=idx n 30:=b6b n 30
theorem aH1 (c:D7):a8 Tryz.prog 303 [b3s c] [] (d9 (a0d c)) []:=by
 have w1:=a3Q c.scale 29
 have w2:=a3Q c.grams 1099511627776
 have w3:=a3Q c.permille 1000
 have w4:=a3Q c.drift 10000000
 rw [b1L] at w1
 unfold a0d
 cases h1:idx c.scale 30<;>cases h2:btw c.grams 0 1099511627776<;>cases h3:btw c.permille 0 1000<;>cases h4:btw c.drift 0 10000000<;>rw [h1] at w1<;>rw [h2] at w2<;>rw [h3] at w3<;>rw [h4] at w4<;>
 ·(refine ac Tryz.func303 ?_;(conv=>whnf);repeat (refine zy ?_;conv=>whnf))
  repeat' (first|refine zx ?_|refine qp w1 ?_|refine qp w2 ?_|refine qp w3 ?_|refine qp w4 ?_|refine zd ?_ ?_<;>intro h<;>try omega|fail)<;>conv=>whnf
  all_goals (refine c9 ?_;simp;try omega)
theorem aG8 (c:D7) (day:Int):a8 Tryz.prog 265 [b3s c,a7 .i64 day] [] (d9 (Z2 c day)) []:=by
 have w1:=aH1 c
 unfold Z2
 cases h1:a0d c<;>rw [h1] at w1<;>
 ·(refine ac Tryz.func265 ?_;(conv=>whnf);repeat (refine zy ?_;conv=>whnf))
  repeat' (first|refine zx ?_|refine qp w1 ?_|refine zd ?_ ?_<;>intro h<;>try omega|fail)<;>conv=>whnf
  all_goals (refine c9 ?_;simp [btw];try omega)
theorem b5m {cs:List D7} {k:Nat} {c:D7} (h:cs[k]? =some c):ax0 cs k=c.since:=by unfold ax0;rw [h];rfl
abbrev b6R (n:Int):T:=.ptr [ti n]
theorem b4t {a b:Bool} {ρ:List (Option Nat)} {H:Hp} (h:a=b):a4X ρ H (d9 a) (d9 b):=by subst h;exact rfl
def a9Y (o:Option Nat):Nat:=o.getD 0
theorem b7O (cs:List D7) (scale day:Int) (hl:cs.length<=1000000):
 a8 Tryz.prog 215 [.c (.t (a0G cs)),a7 .i64 scale,a7 .i64 day] [] (.tup [a7 .i64 (a9Y (Q0 cs scale day cs.length)),d9 (Q0 cs scale day cs.length).isSome]) []:=by
 have l1:(cs.map D7.row).length=cs.length:=by simp
 (refine ac Tryz.func215 ?_;(conv=>whnf);repeat (refine zy ?_;conv=>whnf))
 repeat' (first|refine zx ?_|refine zd ?_ ?_<;>intro h<;>try omega|fail)<;>conv=>whnf
 refine g8 b9 (fun k=>([S.c (C.t (a0G cs)),a7 .i64 scale,a7 .i64 day,J,J,J,J,J,a7 .i64 (a9Y (Q0 cs scale day k)),d9 (Q0 cs scale day k).isSome,J,J,S.c (C.t (a0G cs)),a7 .i64 cs.length,a7 .i64 k]++Jn 31,[])) cs.length (fun _=>True) [] trivial
  ⟨rfl,rfl,trivial,⟨g9 rfl,rfl,rfl,rfl,rfl,g9 rfl,c7 (by simp),rfl,trivial⟩⟩ ?_
 intro k hk _
 by_cases hlt:k<cs.length
 ·obtain ⟨c,hc⟩:∃c,cs[k]? =some c:=⟨_,lbf hlt⟩
  have cv:=aG8 c day
  have hst:Q0 cs scale day (k+1)=if decide (c.scale=scale) && Z2 c day && a8n cs (Q0 cs scale day k) c then some k else Q0 cs scale day k:=by
   conv=>lhs;unfold Q0
   rw [hc]
  cases hcv:Z2 c day with
  |false=>
   rw [hcv] at cv hst
   simp only [Bool.and_false,aB5,a5R,if_false] at hst
   rw [← hst]
   conv=>whnf
   repeat' (first|refine zx ?_|refine qp cv ?_|refine f9 hc ?_|refine zd ?_ ?_<;>intro h<;>try omega|fail)<;>conv=>whnf
   all_goals first
    |omega
    |exact ⟨hlt,trivial,[],rfl,rfl,trivial,⟨rfl,rfl,rfl,rfl,rfl,rfl,rfl,rfl,trivial⟩⟩
  |true=>
   rw [hcv] at cv hst
   cases hf:Q0 cs scale day k with
   |none=>
    rw [hf] at hst
    conv=>whnf
    repeat' (first|refine zx ?_|refine qp cv ?_|refine f9 hc ?_|refine zd ?_ ?_<;>intro h<;>try omega|fail)<;>conv=>whnf
    ·exact ⟨hlt,trivial,[],rfl,rfl,trivial,⟨rfl,rfl,rfl,c7 (by rw [hst];simp [*,a8n,a9Y]),b4t (by rw [hst];simp [*,a8n]),rfl,rfl,rfl,trivial⟩⟩
    ·exact ⟨hlt,trivial,[],rfl,rfl,trivial,⟨rfl,rfl,rfl,c7 (by rw [hst];simp [*,a8n,a9Y]),b4t (by rw [hst];simp [*,a8n]),rfl,rfl,rfl,trivial⟩⟩
   |some b=>
    rw [hf] at hst
    obtain ⟨hb,cb,hcb,_⟩:=W9 hf
    have hsb:=b5m hcb
    conv=>whnf
    repeat' (first|refine zx ?_|refine qp cv ?_|refine f9 hc ?_|refine f9 hcb ?_|refine zd ?_ ?_<;>intro h<;>try omega|fail)<;>conv=>whnf
    all_goals first
     |exact ⟨hlt,trivial,[],rfl,rfl,trivial,⟨rfl,rfl,rfl,c7 (by rw [hst];simp [*,a8n,a9Y]),b4t (by rw [hst];simp [*,a8n]),rfl,rfl,rfl,trivial⟩⟩
     |(exfalso;simp_all;done)
 ·have hke:k=cs.length:=by omega
  subst hke
  conv=>whnf
  repeat' (first|refine zx ?_|refine zd ?_ ?_<;>intro h<;>try omega|fail)<;>conv=>whnf
  all_goals first
   |omega
   |exact j2 ⟨rfl,rfl,trivial⟩
theorem ax1 (r:s8) (scale day:Int):a8 Tryz.prog 267 (.agg (r.row.map .t)::[b6R scale,b6R day].map fun x=>.c (.t x)) [] (d9 (decide (r.scale=scale) && decide (r.since<=day))) []:=by
 (refine ac Tryz.func267 ?_;(conv=>whnf);repeat (refine zy ?_;conv=>whnf))
 repeat' (first|refine zx ?_|refine zd ?_ ?_<;>intro h<;>try omega|fail)<;>conv=>whnf
 all_goals (refine c9 ?_;simp [*];try omega)
abbrev b8r (r:s8):S:=.agg (r.row.map .t)
def E4 {α:Type} (q:α->Bool):List α->Nat->Int
 |[],_=>-1
 |x::r,k=>if q x then k else E4 q r (k+1)
theorem a3b {α:Type} (q:α->Bool):∀(l:List α) (k:Nat),decide (0<=E4 q l k)=l.any q
 |[],k=>by simp [E4]
 |x::r,k=>by
  unfold E4
  rw [List.any_cons]
  cases h:q x with
  |true=>simp
  |false=>simpa using a3b q r (k+1)
theorem aS4 (rs:List s8) (hl:rs.length<=1000000) (g:FuncId) (caps:List T) (q:s8->Bool) (hg:∀r ∈ rs,a8 Tryz.prog g (b8r r::caps.map fun x=>.c (.t x)) [] (d9 (q r)) []):
 a8 Tryz.prog 304 [.c (.t (M5 rs)),.c (.t (.fn (.func g) caps))] [] (a7 .i64 (E4 q rs 0)) []:=by
 have l1:(rs.map s8.row).length=rs.length:=by simp
 (refine ac Tryz.func304 ?_;(conv=>whnf);repeat (refine zy ?_;conv=>whnf))
 repeat' (first|refine zx ?_|refine zd ?_ ?_<;>intro h<;>try omega|fail)<;>conv=>whnf
 refine g8 b9 (fun k=>([S.c (C.t (M5 rs)),S.c (C.t (T.fn (.func g) caps)),J,J,J,J,J,a7 .i64 rs.length,a7 .i64 k]++Jn 10,[])) rs.length (fun k=>E4 q (rs.drop k) k=E4 q rs 0) [] rfl
  ⟨rfl,rfl,trivial,⟨g9 rfl,g9 rfl,c7 (by simp),rfl,trivial⟩⟩ ?_
 intro k hk hI
 by_cases hlt:k<rs.length
 ·obtain ⟨r,hr⟩:∃r,rs[k]? =some r:=⟨_,lbf hlt⟩
  have hd:rs.drop k=r::rs.drop (k+1):=by
   rw [a52 hlt]
   rw [lbf hlt] at hr
   injection hr with hr
   rw [hr]
  have hgr:=hg r (lbm hr)
  have ha:(b8r r::caps.map fun x=>S.c (C.t x)).all S.isT=true:=by simp [S.isT,C.isT,s8.row]
  rw [hd] at hI
  have hI:(if q r then (k:Int) else E4 q (rs.drop (k+1)) (k+1))=E4 q rs 0:=hI
  cases hq:q r with
  |true=>
   rw [hq] at hgr hI
   conv=>whnf
   repeat' (first|refine zx ?_|refine .inl ⟨_,_,D9 hgr ha rfl,?_⟩|refine f9 hr ?_|refine zd ?_ ?_<;>intro h<;>try omega|fail)<;>conv=>whnf
   all_goals first
    |omega
    |exact A6 hI
  |false=>
   rw [hq] at hgr hI
   conv=>whnf
   repeat' (first|refine zx ?_|refine .inl ⟨_,_,D9 hgr ha rfl,?_⟩|refine f9 hr ?_|refine zd ?_ ?_<;>intro h<;>try omega|fail)<;>conv=>whnf
   all_goals first
    |omega
    |exact ⟨hlt,by simpa using hI,[],rfl,rfl,trivial,⟨rfl,rfl,rfl,rfl,trivial⟩⟩
 ·have hke:k=rs.length:=by omega
  subst hke
  rw [lbo (lbQ _)] at hI
  conv=>whnf
  repeat' (first|refine zx ?_|refine zd ?_ ?_<;>intro h<;>try omega|fail)<;>conv=>whnf
  all_goals first
   |omega
   |exact A6 hI
theorem aj6 (rs:List s8) (hl:rs.length<=1000000) (g:FuncId) (caps:List T) (q:s8->Bool) (hg:∀r ∈ rs,a8 Tryz.prog g (b8r r::caps.map fun x=>.c (.t x)) [] (d9 (q r)) []):
 a8 Tryz.prog 266 [.c (.t (M5 rs)),.c (.t (.fn (.func g) caps))] [] (d9 (rs.any q)) []:=by
 have ix:=aS4 rs hl g caps q hg
 (refine ac Tryz.func266 ?_;(conv=>whnf);repeat (refine zy ?_;conv=>whnf))
 repeat' (first|refine zx ?_|refine qp ix ?_|refine zd ?_ ?_<;>intro h<;>try omega|fail)<;>conv=>whnf
 all_goals (refine c9 ?_;rw [← a3b q rs 0];simp;omega)
theorem aU6 (rs:List s8) (hl:rs.length<=1000000) (scale day:Int):a8 Tryz.prog 216 [.c (.t (M5 rs)),a7 .i64 scale,a7 .i64 day] [] (d9 (a9i rs scale day)) []:=by
 have ct:=aj6 rs hl 267 [b6R scale,b6R day] _ (fun r _=>ax1 r scale day)
 (refine ac Tryz.func216 ?_;(conv=>whnf);repeat ((first|refine b0x ?_|refine zy ?_);conv=>whnf))
 repeat' (first|refine zx ?_|refine qp ct ?_|refine zd ?_ ?_<;>intro h<;>try omega|fail)<;>conv=>whnf
 all_goals (refine c9 ?_;symm;assumption)
theorem a5m {c:D7} {day:Int} (h:Z2 c day=true):0<=c.since∧c.since<=day∧day<=c.till∧c.till<=100000∧0<=c.grams∧c.grams<=1099511627776∧0<=c.permille∧c.permille<=1000∧0<=c.drift∧c.drift<=10000000:=by
 unfold Z2 a0d btw at h
 simp only [lbM,lbI] at h
 omega
abbrev M6:Fr:=⟨⟨0,[]⟩,⟨0,[]⟩⟩
theorem b8w {f f':Fr} {b b':Bool} {H1:Hp} (h:f=f') (h2:b=b'):Fin 0 (.tup [frS f,d9 b]) H1 (.tup [frS f',d9 b']) []:=by
 subst h h2;exact j2 ⟨⟨rfl,rfl,rfl,rfl,trivial⟩,rfl,trivial⟩
structure b78 (c:D7) (reading day:Int):Prop where
 p0:0<=c.permille*reading
 p1:c.permille*reading<=1000*1099511627776
 d0:0<=c.drift*(day - c.since)
 d1:c.drift*(day - c.since)<=10000000*100000
theorem b78.of {c:D7} {reading day:Int} (h:Z2 c day=true) (hr:btw reading 0 1099511627776=true):b78 c reading day:=by
 have hc:=a5m h
 rw [a30] at hr
 exact ⟨lbZ (by omega) (by omega),a0P (by omega) (by omega) (by omega) (by omega),lbZ (by omega) (by omega),a0P (by omega) (by omega) (by omega) (by omega)⟩
theorem b89 {c:D7} {reading day:Int} (h:Z2 c day=true) (hr:btw reading 0 1099511627776=true):rl (a5U c reading day)<=9:=by
 have i:=b78.of h hr
 have hc:=a5m h
 obtain ⟨p0,p1,d0,d1⟩:=i
 unfold a5U
 have h1:=a3Z (Rat.divInt (c.permille*reading) 1000) ((c.grams+c.drift*(day - c.since):Int):Rat)
 have h2:rl (Rat.divInt (c.permille*reading) 1000)<=4:=lbR (a2k (by decide)) (by have:=a2U (x:=c.permille*reading) (by omega) (by omega);have:=a2U (x:=1000) (by decide) (by decide);omega)
 have h3:rl ((c.grams+c.drift*(day - c.since):Int):Rat)<=4:=by rw [a7e];have:=a2U (x:=c.grams+c.drift*(day - c.since)) (by omega) (by omega);omega
 omega
theorem b5K (c:D7) (reading day:Int) (h:Z2 c day=true):a8 Tryz.prog 217 [b3s c,a7 .i64 reading,a7 .i64 day] []
 (.tup [frS (if btw reading 0 1099511627776 then fz (a5U c reading day) else M6),d9 (btw reading 0 1099511627776)]) []:=by
 have cv:=aG8 c day
 have wi:=a3Q reading 1099511627776
 rw [h] at cv
 have hc:=a5m h
 cases hr:btw reading 0 1099511627776 with
 |false=>
  rw [hr] at wi
  (refine ac Tryz.func217 ?_;(conv=>whnf);repeat (refine zy ?_;conv=>whnf))
  repeat' (first|refine zx ?_|refine qp cv ?_|refine qp wi ?_|refine zd ?_ ?_<;>intro h<;>try omega|fail)<;>conv=>whnf
  all_goals first
   |(exfalso;simp_all;done)
   |exact j2 ⟨⟨rfl,rfl,rfl,rfl,trivial⟩,rfl,trivial⟩
 |true=>
  rw [hr] at wi
  obtain ⟨p0,p1,d0,d1⟩:=b78.of h hr
  rw [a30] at hr
  have fo:=b9S (c.permille*reading) 1000 (by decide) (by omega) (by omega) (by decide) (by decide)
  have fi:=H4 (c.grams+c.drift*(day - c.since)) (by omega) (by omega)
  have h2:rl (Rat.divInt (c.permille*reading) 1000)<=4:=lbR (a2k (by decide)) (by have:=a2U (x:=c.permille*reading) (by omega) (by omega);have:=a2U (x:=1000) (by decide) (by decide);omega)
  have h3:rl ((c.grams+c.drift*(day - c.since):Int):Rat)<=4:=by rw [a7e];have:=a2U (x:=c.grams+c.drift*(day - c.since)) (by omega) (by omega);omega
  have ad:=a4o (Rat.divInt (c.permille*reading) 1000) ((c.grams+c.drift*(day - c.since):Int):Rat) (by omega) (by omega)
  (refine ac Tryz.func217 ?_;(conv=>whnf);repeat (refine zy ?_;conv=>whnf))
  repeat' (first|refine zx ?_|refine qp cv ?_|refine qp wi ?_|refine qp fo ?_|refine qp fi ?_|refine qp ad ?_|refine qp 7 ?_|refine qp 15 ?_|refine bl0 [7] ?_|refine bl0 [15] ?_|refine zd ?_ ?_<;>intro h<;>try omega|fail)<;>conv=>whnf
  all_goals first
   |(exfalso;simp_all;done)
   |exact b8w rfl rfl
abbrev ivL (o:Option (Rat × Rat)):List S:=match o with
 |some (lo,hi)=>[frS (fz lo),frS (fz hi),d9 true]
 |none=>[frS M6,frS M6,d9 false]
theorem ag1 (cs:List D7) (rs:List s8) (hl:cs.length<=1000000) (hl2:rs.length<=1000000) (scale reading day:Int):
 a8 Tryz.prog 147 [.c (.t (a0G cs)),.c (.t (M5 rs)),a7 .i64 scale,a7 .i64 reading,a7 .i64 day] [] (.tup (ivL (Q4 cs rs scale reading day))) []:=by
 have f:=b7O cs scale day hl
 have r:=aU6 rs hl2 scale day
 unfold Q4
 cases hf:Q0 cs scale day cs.length with
 |none=>
  rw [hf] at f
  (refine ac Tryz.func147 ?_;(conv=>whnf);repeat (refine zy ?_;conv=>whnf))
  repeat' (first|refine zx ?_|refine qp f ?_|refine qp r ?_|refine qp 1 ?_|refine qp 6 ?_|refine bl0 [1] ?_|refine bl0 [6] ?_|refine zd ?_ ?_<;>intro h<;>try omega|fail)<;>conv=>whnf
  all_goals first
   |(exfalso;simp_all;done)
   |exact j2 ⟨⟨rfl,rfl,rfl,rfl,trivial⟩,⟨rfl,rfl,rfl,rfl,trivial⟩,rfl,trivial⟩
 |some i=>
  rw [hf] at f
  obtain ⟨hb,c,hc,_,hcv⟩:=W9 hf
  have e:a3U cs i=c:=by unfold a3U;rw [hc];rfl
  have er:=b5K c reading day hcv
  simp only [e]
  cases hrec:a9i rs scale day with
  |true=>
   rw [hrec] at r
   (refine ac Tryz.func147 ?_;(conv=>whnf);repeat (refine zy ?_;conv=>whnf))
   repeat' (first|refine zx ?_|refine qp f ?_|refine qp r ?_|refine qp 1 ?_|refine qp 6 ?_|refine bl0 [1] ?_|refine bl0 [6] ?_|refine zd ?_ ?_<;>intro h<;>try omega|fail)<;>conv=>whnf
   all_goals first
    |(exfalso;simp_all;done)
    |exact j2 ⟨⟨rfl,rfl,rfl,rfl,trivial⟩,⟨rfl,rfl,rfl,rfl,trivial⟩,rfl,trivial⟩
  |false=>
   rw [hrec] at r
   cases hr:btw reading 0 1099511627776 with
   |false=>
    rw [hr] at er
    (refine ac Tryz.func147 ?_;(conv=>whnf);repeat (refine zy ?_;conv=>whnf))
    repeat' (first|refine zx ?_|refine qp f ?_|refine qp r ?_|refine qp er ?_|refine qp 1 ?_|refine qp 9 ?_|refine f9 hc ?_|refine bl0 [1] ?_|refine bl0 [9] ?_|refine zd ?_ ?_<;>intro h<;>try omega|fail)<;>conv=>whnf
    all_goals first
     |exact j2 ⟨⟨rfl,rfl,rfl,rfl,trivial⟩,⟨rfl,rfl,rfl,rfl,trivial⟩,rfl,trivial⟩
     |(exfalso;simp_all;done)
   |true=>
    have l1:=b89 hcv hr
    rw [hr] at er
    rw [a30] at hr
    have l2:rl (reading:Rat)<=4:=by rw [a7e];have:=a2U (x:=reading) (by omega) (by omega);omega
    have fi:=H4 reading (by omega) (by omega)
    have f0:=H4 0 (by omega) (by omega)
    have sb:=b4O (reading:Rat) (a5U c reading day) (by omega) (by omega)
    have ad:=a4o (reading:Rat) (a5U c reading day) (by omega) (by omega)
    have l4:=b8x (reading:Rat) (a5U c reading day)
    have mx:=b7N ((reading:Rat) - a5U c reading day) ((0:Int):Rat) (by omega) (by rw [b5T];omega)
    (refine ac Tryz.func147 ?_;(conv=>whnf);repeat (refine zy ?_;conv=>whnf))
    repeat' (first|refine zx ?_|refine qp f ?_|refine qp r ?_|refine qp er ?_|refine qp fi ?_|refine qp f0 ?_|refine qp sb ?_|refine qp ad ?_|refine qp mx ?_|refine qp 1 ?_|refine qp 9 ?_|refine qp 5 ?_|refine f9 hc ?_|refine bl0 [1] ?_|refine bl0 [9] ?_|refine bl0 [5] ?_|refine zd ?_ ?_<;>intro h<;>try omega|fail)<;>conv=>whnf
    all_goals first
     |exact j2 ⟨⟨rfl,rfl,rfl,rfl,trivial⟩,⟨rfl,rfl,rfl,rfl,trivial⟩,rfl,trivial⟩
     |(exfalso;simp_all;done)
def n7 (f:Fr):List T:=[ti f.p.sg,M4 f.p.dl,ti f.q.sg,M4 f.q.dl]
abbrev H5 (l:List Fr):T:=.sl 4 .any (l.map n7)
abbrev B4 (l:List Fr):S:=.c (.t (H5 l))
theorem a0y (l:List Rat) {k:Nat} {x:Rat} (h:l[k]? =some x):(l.map fz)[k]? =some (fz x):=by rw [lba,h];rfl
theorem b0C {f f':Fr} {H1:Hp} (h:f=f'):Fin 0 (frS f) H1 (frS f') []:=by subst h;exact j2 ⟨rfl,rfl,rfl,rfl,trivial⟩
abbrev frB (f:Fr):Blk:={ mode:=.live,elem:=35,size:=4,rows:=[frC f],box:=true }
theorem D4 (f:Fr):C9 [frC f]:=by
 intro r hr c hc
 simp at hr
 subst hr
 simp [frC] at hc
 rcases hc with rfl|rfl|rfl|rfl<;>rfl
theorem a94 {x:Rat}:sgR x<0↔x<0:=by unfold sgR;split<;>(try split)<;>simp_all
theorem b6N {x y:Rat}:a1G x y<=0↔x<=y:=by
 unfold a1G
 split
 ·simp;grind
 ·split
  ·simp;grind
  ·simp;grind
theorem a2E {x y:Rat}:a1G x y > 0↔y<x:=by
 have:=b6N (x:=x) (y:=y)
 constructor
 ·intro h;have h2:¬x<=y:=fun h'=>by have:=this.2 h';omega
  grind
 ·intro h;have h2:¬a1G x y<=0:=fun h'=>by have:=this.1 h';grind
  omega
def b2q.row (f:b2q):List T:=[ti f.mv,ti f.kind,ti f.grams]
def aE4.row (c:aE4):List T:=[ti c.mv,ti c.kind]
structure P1.Sized (t:P1):Prop where
 ev:t.ev.Sized
 f:t.finds.length<=1000000
 c:t.cleans.length<=1000000
theorem a2J {x:Rat}:sgR x=0↔x=0:=by unfold sgR;split<;>(try split)<;>simp_all<;>grind
def i8 (x:Int × Rat):List T:=ti x.1::n7 (fz x.2)
abbrev a2c (l:List (Int × Rat)):T:=.sl 5 .any (l.map i8)
def C0 (w:j6):List T:=a2c w.terms::ti w.kind::n7 (fz w.value)
def ba8 (w:j6):List C:=.t (a2c w.terms)::.t (ti w.kind)::frC (fz w.value)
abbrev b6g (w:j6):S:=.agg (ba8 w)
abbrev R8 (l:List j6):T:=.sl 6 .any (l.map C0)
abbrev Q8 (s:f7):S:=.agg [.t (ti s.n),.t (R8 s.rows)]
abbrev j1 (l:List (Int × Rat)):S:=.c (.t (a2c l))
def ah2 (l:List (Int × Rat)):Nat->Int
 |0=>-1
 |k+1=>((l[k]?).map (·.1)).getD 0
theorem a9y {l:List (Int × Rat)} {k:Nat} {t:Int × Rat} (h:l[k]? =some t):ah2 l (k+1)=t.1:=by simp [ah2,h]
theorem B8 (l:List (Int × Rat)) (n:Int) (hl:l.length<=1000000) (hB:∀t ∈ l,rl t.2<=200):a8 Tryz.prog 53 [j1 l,a7 .i64 n] [] (d9 (decide (0<=n) && d6 (-1) n l)) []:=by
 have m1:(l.map i8).length=l.length:=by simp
 by_cases h0:n<0
 ·rw [lbJ (by omega),aB5]
  (refine ac Tryz.func53 ?_;(conv=>whnf);repeat ((first|refine b0x ?_|refine zy ?_);conv=>whnf))
  repeat' (first|refine zx ?_|refine zd ?_ ?_<;>intro h<;>try omega|fail)<;>conv=>whnf
  all_goals first
   |omega
   |exact c9 rfl
 rw [lbH (by omega),N9]
 (refine ac Tryz.func53 ?_;(conv=>whnf);repeat ((first|refine b0x ?_|refine zy ?_);conv=>whnf))
 repeat' (first|refine zx ?_|refine zd ?_ ?_<;>intro h<;>try omega|fail)<;>conv=>whnf
 all_goals try omega
 refine g8 b9 (fun k=>([J,a7 .i64 n,J,J,J,a7 .i64 (ah2 l k),J,J,J,J,j1 l,a7 .i64 l.length,a7 .i64 k]++Jn 22,[])) l.length (fun k=>d6 (-1) n l=d6 (ah2 l k) n (l.drop k)) [] rfl
  ⟨rfl,rfl,trivial,⟨rfl,rfl,rfl,c7 (by simp),rfl,trivial⟩⟩ ?_
 intro k hk hI
 by_cases hlt:k<l.length
 ·obtain ⟨t,ht⟩:∃t,l[k]? =some t:=⟨_,lbf hlt⟩
  obtain ⟨v,c⟩:=t
  have bc:=hB _ (lbm ht)
  simp only at bc
  have sg:=T8 c (by omega)
  have sz:=a2J (x:=c)
  rw [aD6 ht,d6] at hI
  simp only at hI
  by_cases hok:ah2 l k<v∧v<n∧c≠0
  ·rw [lbH hok.1,lbH hok.2.1,lbH hok.2.2] at hI
   simp only [N9] at hI
   have hne:sgR c≠0:=fun h=>hok.2.2 (sz.1 h)
   obtain ⟨q1,q2,_⟩:=hok
   conv=>whnf
   repeat' (first|refine zx ?_|refine qp sg ?_|refine f9 ht ?_|refine zd ?_ ?_<;>intro h<;>try omega|fail)<;>conv=>whnf
   all_goals first
    |omega
    |exact ⟨hlt,by rw [a9y ht];exact hI,[],rfl,rfl,trivial,⟨rfl,c7 (by rw [a9y ht]),rfl,rfl,rfl,trivial⟩⟩
  ·have hF:d6 (-1) n l=false:=by
    rw [hI]
    rw [← lbP]
    simp only [lbM,lbI]
    exact fun h=>hok ⟨h.1.1.1,h.1.1.2,h.1.2⟩
   rw [hF]
   have hor:v<=ah2 l k∨n<=v∨sgR c=0:=by
    by_cases q1:ah2 l k<v
    ·by_cases q2:v<n
     ·refine .inr (.inr (sz.2 ?_))
      by_cases q3:c=0
      ·exact q3
      ·exact absurd ⟨q1,q2,q3⟩ hok
     ·exact .inr (.inl (by omega))
    ·exact .inl (by omega)
   clear hI hok
   conv=>whnf
   repeat' (first|refine zx ?_|refine qp sg ?_|refine f9 ht ?_|refine zd ?_ ?_<;>intro h<;>try omega|fail)<;>conv=>whnf
   all_goals first
    |omega
    |exact c9 rfl
 ·rw [lbo (by omega)] at hI
  have hI:d6 (-1) n l=true:=hI
  rw [hI]
  conv=>whnf
  repeat' (first|refine zx ?_|refine zd ?_ ?_<;>intro h<;>try omega|fail)<;>conv=>whnf
  all_goals first
   |omega
   |exact c9 rfl
structure ai5 (s:f7):Prop where
 n0:s.rows.length<=1000000
 t:∀w ∈ s.rows,w.terms.length<=100∧(∀ t ∈ w.terms,rl t.2<=200)∧rl w.value<=200
theorem S7 (s:f7) (hb:ai5 s):a8 Tryz.prog 142 [Q8 s] [] (d9 (i7 s)) []:=by
 have m1:(s.rows.map C0).length=s.rows.length:=by simp
 have l1:=hb.n0
 by_cases h0:¬(0<=s.n∧s.n<=1500∧s.rows.length<=6000)
 ·have e1:i7 s=false:=by
   unfold i7
   rw [← lbP]
   simp only [lbM,lbI]
   exact fun h=>h0 ⟨h.1.1.1,h.1.1.2,h.1.2⟩
  rw [e1]
  (refine ac Tryz.func142 ?_;(conv=>whnf);repeat ((first|refine b0x ?_|refine zy ?_);conv=>whnf))
  repeat' (first|refine zx ?_|refine zd ?_ ?_<;>intro h<;>try omega|fail)<;>conv=>whnf
  all_goals first
   |omega
   |exact c9 rfl
 obtain ⟨c1,c2,c3⟩:=Decidable.not_not.1 h0
 have e1:i7 s=s.rows.all (p5 s.n):=by
  unfold i7
  rw [lbH c1,lbH c2,lbH c3];rfl
 rw [e1]
 clear h0
 (refine ac Tryz.func142 ?_;(conv=>whnf);repeat ((first|refine b0x ?_|refine zy ?_);conv=>whnf))
 repeat' (first|refine zx ?_|refine zd ?_ ?_<;>intro h<;>try omega|fail)<;>conv=>whnf
 all_goals try omega
 refine g8 b9 (fun k=>([J,S.c (C.t (T.ptr [ti s.n,R8 s.rows]))]++Jn 18++[S.c (C.t (R8 s.rows)),a7 .i64 s.rows.length,a7 .i64 k]++Jn 26,[])) s.rows.length (fun k=>(s.rows.take k).all (p5 s.n)=true) [] rfl
  ⟨rfl,rfl,trivial,⟨rfl,rfl,c7 (by simp),rfl,trivial⟩⟩ ?_
 intro k hk hI
 by_cases hlt:k<s.rows.length
 ·obtain ⟨w,hw⟩:∃w,s.rows[k]? =some w:=⟨_,lbf hlt⟩
  obtain ⟨b1,b2,b3⟩:=hb.t w (lbm hw)
  have rt:=B8 w.terms s.n (by omega) b2
  rw [lbH c1,N9] at rt
  have rv:=I4 w.value (by omega)
  cases hrt:d6 (-1) s.n w.terms with
  |false=>
   rw [hrt] at rt
   have hF:p5 s.n w=false:=by unfold p5;rw [hrt];rfl
   rw [F8 hw hF]
   conv=>whnf
   repeat' (first|refine zx ?_|refine qp rt ?_|refine qp rv ?_|refine f9 hw ?_|refine zd ?_ ?_<;>intro h<;>try omega|fail)<;>conv=>whnf
   all_goals first
    |omega
    |(exfalso;simp_all;done)
    |exact c9 rfl
  |true=>
   rw [hrt] at rt
   by_cases hk3:0<=w.kind∧w.kind<3
   ·have hT:p5 s.n w=true:=by unfold p5;rw [hrt,lbH hk3.1,lbH hk3.2];rfl
    conv=>whnf
    repeat' (first|refine zx ?_|refine qp rt ?_|refine qp rv ?_|refine f9 hw ?_|refine zd ?_ ?_<;>intro h<;>try omega|fail)<;>conv=>whnf
    all_goals first
     |omega
     |(exfalso;simp_all;done)
     |exact ⟨hlt,by rw [D3 hw,hI,hT];rfl,[],rfl,rfl,trivial,⟨rfl,rfl,rfl,rfl,trivial⟩⟩
   ·have hF:p5 s.n w=false:=by
     unfold p5
     rw [← lbP]
     simp only [lbM,lbI]
     exact fun h=>hk3 ⟨h.1.2,h.2⟩
    rw [F8 hw hF]
    conv=>whnf
    repeat' (first|refine zx ?_|refine qp rt ?_|refine qp rv ?_|refine f9 hw ?_|refine zd ?_ ?_<;>intro h<;>try omega|fail)<;>conv=>whnf
    all_goals first
     |omega
     |(exfalso;simp_all;done)
     |exact c9 rfl
 ·rw [lbn (by omega)] at hI
  rw [hI]
  conv=>whnf
  repeat' (first|refine zx ?_|refine zd ?_ ?_<;>intro h<;>try omega|fail)<;>conv=>whnf
  all_goals first
   |omega
   |exact c9 rfl
theorem b2B (rs:List Fr) (hl:rs.length<=1000000) (g:FuncId) (caps:List T) (q:Fr->Bool) (hg:∀r ∈ rs,a8 Tryz.prog g (frS r::caps.map fun x=>.c (.t x)) [] (d9 (q r)) []):
 a8 Tryz.prog 302 [.c (.t (H5 rs)),.c (.t (.fn (.func g) caps))] [] (a7 .i64 (E4 q rs 0)) []:=by
 have l1:(rs.map n7).length=rs.length:=by simp
 (refine ac Tryz.func302 ?_;(conv=>whnf);repeat (refine zy ?_;conv=>whnf))
 repeat' (first|refine zx ?_|refine zd ?_ ?_<;>intro h<;>try omega|fail)<;>conv=>whnf
 refine g8 b9 (fun k=>([S.c (C.t (H5 rs)),S.c (C.t (T.fn (.func g) caps)),J,J,J,J,J,a7 .i64 rs.length,a7 .i64 k]++Jn 10,[])) rs.length (fun k=>E4 q (rs.drop k) k=E4 q rs 0) [] rfl
  ⟨rfl,rfl,trivial,⟨g9 rfl,g9 rfl,c7 (by simp),rfl,trivial⟩⟩ ?_
 intro k hk hI
 by_cases hlt:k<rs.length
 ·obtain ⟨r,hr⟩:∃r,rs[k]? =some r:=⟨_,lbf hlt⟩
  have hd:rs.drop k=r::rs.drop (k+1):=by
   rw [a52 hlt]
   rw [lbf hlt] at hr
   injection hr with hr
   rw [hr]
  have hgr:=hg r (lbm hr)
  have ha:(frS r::caps.map fun x=>S.c (C.t x)).all S.isT=true:=by simp [S.isT,C.isT,n7]
  rw [hd] at hI
  have hI:(if q r then (k:Int) else E4 q (rs.drop (k+1)) (k+1))=E4 q rs 0:=hI
  cases hq:q r with
  |true=>
   rw [hq] at hgr hI
   conv=>whnf
   repeat' (first|refine zx ?_|refine .inl ⟨_,_,D9 hgr ha rfl,?_⟩|refine f9 hr ?_|refine zd ?_ ?_<;>intro h<;>try omega|fail)<;>conv=>whnf
   all_goals first
    |omega
    |exact A6 hI
  |false=>
   rw [hq] at hgr hI
   conv=>whnf
   repeat' (first|refine zx ?_|refine .inl ⟨_,_,D9 hgr ha rfl,?_⟩|refine f9 hr ?_|refine zd ?_ ?_<;>intro h<;>try omega|fail)<;>conv=>whnf
   all_goals first
    |omega
    |exact ⟨hlt,by simpa using hI,[],rfl,rfl,trivial,⟨rfl,rfl,rfl,rfl,trivial⟩⟩
 ·have hke:k=rs.length:=by omega
  subst hke
  rw [lbo (lbQ _)] at hI
  conv=>whnf
  repeat' (first|refine zx ?_|refine zd ?_ ?_<;>intro h<;>try omega|fail)<;>conv=>whnf
  all_goals first
   |omega
   |exact A6 hI
theorem aA8 (rs:List Fr) (hl:rs.length<=1000000) (g:FuncId) (caps:List T) (q:Fr->Bool) (hg:∀r ∈ rs,a8 Tryz.prog g (frS r::caps.map fun x=>.c (.t x)) [] (d9 (q r)) []):
 a8 Tryz.prog 263 [.c (.t (H5 rs)),.c (.t (.fn (.func g) caps))] [] (d9 (rs.any q)) []:=by
 have ix:=b2B rs hl g caps q hg
 (refine ac Tryz.func263 ?_;(conv=>whnf);repeat (refine zy ?_;conv=>whnf))
 repeat' (first|refine zx ?_|refine qp ix ?_|refine zd ?_ ?_<;>intro h<;>try omega|fail)<;>conv=>whnf
 all_goals (refine c9 ?_;rw [← a3b q rs 0];simp;omega)
theorem b32 (f:Fr) (lp:f.p.dl.length<=200000) (lq:f.q.dl.length<=200000):a8 Tryz.prog 264 (frS f::[].map fun x=>.c (.t x)) [] (d9 (!R4 f)) []:=by
 have r:=a6z f lp lq
 (refine ac Tryz.func264 ?_;(conv=>whnf);repeat ((first|refine b0x ?_|refine zy ?_);conv=>whnf))
 repeat' (first|refine zx ?_|refine qp r ?_|refine zd ?_ ?_<;>intro h<;>try omega|fail)<;>conv=>whnf
 all_goals (refine c9 ?_;simp [*])
theorem b0E (z:List Fr) (hl:z.length<=1000000) (hd:∀f ∈ z,f.p.dl.length<=200000∧f.q.dl.length<=200000):a8 Tryz.prog 213 [B4 z] [] (d9 (z.all R4)) []:=by
 have ct:=aA8 z hl 264 [] _ (fun f hf=>b32 f (hd f hf).1 (hd f hf).2)
 have e:(z.any fun f=>!R4 f)=!(z.all R4):=by rw [List.not_all_eq_any_not]
 rw [e] at ct
 cases hz:z.all R4<;>rw [hz] at ct<;>
 ·(refine ac Tryz.func213 ?_;(conv=>whnf);repeat ((first|refine b0x ?_|refine zy ?_);conv=>whnf))
  repeat' (first|refine zx ?_|refine qp ct ?_|refine zd ?_ ?_<;>intro h<;>try omega|fail)<;>conv=>whnf
  all_goals exact c9 rfl
theorem aq0 {n:Int}:∀{l:List (Int × Rat)} {last:Int},d6 last n l=true->∀t ∈ l,last<t.1∧t.1<n
 |[],_,_,t,ht=>by cases ht
 |u::r,last,h,t,ht=>by
  unfold d6 at h
  simp only [lbM,lbI] at h
  rcases lbA.1 ht with rfl|ht
  ·exact ⟨h.1.1.1,h.1.1.2⟩
  ·have:=aq0 h.2 t ht
   omega
theorem aC4 {f:Nat->Nat->Rat} (m:Nat):∀n:Nat,i6 (fun i=>i6 (f i) m) n=i6 (fun j=>i6 (fun i=>f i j) n) m
 |0=>by
  show i6 _ 0=_
  rw [p6 (f:=fun j=>i6 (fun i=>f i j) 0) (n:=m) fun j hj=>by simp only [i6,T7]]
  simp only [i6,T7]
 |n+1=>by
  simp only [i6]
  rw [aC4 m n,←U1]
theorem a61 {n a:Nat} (ha:a<n) (v:Rat) (c:Nat->Rat):i6 (fun i=>(if a=i then v else 0)*c i) n=v*c a:=by
 rw [C6 ha,p6 fun j hj=>by
  by_cases h:j=a
  ·rw [if_pos h]
  ·rw [if_neg h,if_neg (fun e=>h e.symm)];grind]
 rw [if_pos rfl];grind
def o8 (s:f7) (i:Nat):j6:=s.rows.getD i ⟨[],2,0⟩
theorem U7 {s:f7} {i:Nat} {w:j6} (h:s.rows[i]? =some w):o8 s i=w:=by unfold o8;rw [lbl,h];rfl
def I7 (s:f7) (k:Nat):Nat × Bool:=(c8 s).getD k (0,false)
def chg (s:f7) (w:Nat) (p:Rat) (i:Nat):Rat:=if s.n.toNat<=w∧(I7 s (w - s.n.toNat)).1=i then -(U8 (I7 s (w - s.n.toNat)).2 p) else 0
def slV (s:f7) (w:Nat):Rat:=if s.n.toNat<=w then (f8 s []).V (w - s.n.toNat) else 0
def slA (s:f7) (l w:Nat):Rat:=if s.n.toNat<=w then (f8 s []).A (w - s.n.toNat) l else 0
theorem a4S {s:f7} {k:Nat} (hk:k<(c8 s).length):∃w,s.rows[(I7 s k).1]? =some w∧((I7 s k).2=false->w.kind≠0)∧((I7 s k).2=true->w.kind≠1):=by
 have:I7 s k ∈ c8 s:=by
  unfold I7
  rw [lbl,lbf hk]
  exact lbE _
 exact Z9.1 this
theorem aN7 {s:f7} {w:Nat} (hw:w<s.n.toNat+(c8 s).length) (p:Rat) (c:j6->Rat):
 i6 (fun i=>chg s w p i*c (o8 s i)) s.rows.length=if s.n.toNat<=w then -p*U8 (I7 s (w - s.n.toNat)).2 (c (o8 s (I7 s (w - s.n.toNat)).1)) else 0:=by
 by_cases h:s.n.toNat<=w
 ·rw [if_pos h]
  obtain ⟨x,hx,_⟩:=a4S (s:=s) (k:=w - s.n.toNat) (by omega)
  have hl:=(lbe.1 hx).1
  rw [d8 (g:=fun i=>(if (I7 s (w - s.n.toNat)).1=i then -(U8 (I7 s (w - s.n.toNat)).2 p) else 0)*c (o8 s i)) fun i hi=>by
   unfold chg
   by_cases h2:(I7 s (w - s.n.toNat)).1=i
   ·rw [if_pos ⟨h,h2⟩,if_pos h2]
   ·rw [if_neg (fun e=>h2 e.2),if_neg h2]]
  rw [a61 hl]
  cases (I7 s (w - s.n.toNat)).2 with
  |false=>rfl
  |true=>show -(-p)*_=-p*-_;grind
 ·rw [if_neg h]
  exact p6 fun i hi=>by unfold chg;rw [if_neg (fun e=>h e.1)];grind
theorem ax3 {s:f7} {w:Nat} (hw:w<s.n.toNat+(c8 s).length) (p:Rat):i6 (fun i=>chg s w p i*(o8 s i).value) s.rows.length=-p*slV s w:=by
 rw [aN7 hw p j6.value]
 unfold slV
 split
 ·rename_i h
  obtain ⟨x,hx,_⟩:=a4S (s:=s) (k:=w - s.n.toNat) (by omega)
  rw [U7 hx]
  have:(f8 s []).V (w - s.n.toNat)=U8 (I7 s (w - s.n.toNat)).2 x.value:=by show a3q s (I7 s (w - s.n.toNat))=_;unfold a3q;simp only [hx]
  rw [this]
 ·grind
theorem aA0 {s:f7} {w:Nat} (hw:w<s.n.toNat+(c8 s).length) (p:Rat) (l:Nat):i6 (fun i=>chg s w p i*B7 (o8 s i).terms l) s.rows.length=-p*slA s l w:=by
 rw [aN7 hw p (fun r=>B7 r.terms l)]
 unfold slA
 split
 ·rename_i h
  obtain ⟨x,hx,_⟩:=a4S (s:=s) (k:=w - s.n.toNat) (by omega)
  rw [U7 hx]
  have:(f8 s []).A (w - s.n.toNat) l=U8 (I7 s (w - s.n.toNat)).2 (B7 x.terms l):=by show a3j s (I7 s (w - s.n.toNat)) l=_;unfold a3j;simp only [hx]
  rw [this]
 ·grind
def yv (s:f7) (c:Rat) (t:Nat->Rat) (w:Nat):Rat:=if w<s.n.toNat then t w else c*(f8 s []).V (w - s.n.toNat) - i6 (fun l=>(f8 s []).A (w - s.n.toNat) l*t l) s.n.toNat
theorem av7 {s:f7} {g:List (Int × Rat)} (c:Rat) (t:Nat->Rat):Ids (c8 s).length s.n.toNat (f8 s g) (yv s c t) c:=by
 intro i hi
 show yv s c t (s.n.toNat+i)=_
 unfold yv
 rw [if_neg (by omega),show s.n.toNat+i - s.n.toNat=i by omega]
 show c*(f8 s g).V i - _=c*(f8 s g).V i - _
 congr 1
 refine d8 fun j hj=>?_
 show _=(f8 s g).A i j*(if j<s.n.toNat then t j else _)
 rw [if_pos hj];rfl
theorem a9M {s:f7} (w:Nat):yv s 1 (fun _=>0) w=slV s w:=by
 unfold yv slV
 by_cases h:w<s.n.toNat
 ·rw [if_pos h,if_neg (by omega)]
 ·rw [if_neg h,if_pos (by omega),p6 fun l hl=>by grind];grind
theorem aQ5 {s:f7} {l:Nat} (hl:l<s.n.toNat) (w:Nat):yv s 0 (fun j=>if l=j then 1 else 0) w=(if l=w then 1 else 0) - slA s l w:=by
 unfold yv slA
 by_cases h:w<s.n.toNat
 ·rw [if_pos h,if_neg (show ¬s.n.toNat<=w by omega)];grind
 ·rw [if_neg h,if_pos (show s.n.toNat<=w by omega),if_neg (show ¬l=w by omega),d8 (g:=fun j=>(if l=j then (1:Rat) else 0)*(f8 s []).A (w - s.n.toNat) j) fun j hj=>by grind,a61 hl]
  grind
def L6 (s:f7) (y:Nat->Rat) (l:Nat):Rat:=i6 (fun i=>y i*B7 (o8 s i).terms l) s.rows.length
def a4Y (s:f7) (y:Nat->Rat):Rat:=i6 (fun i=>y i*(o8 s i).value) s.rows.length
def a8v (s:f7) (y:Nat->Rat):Prop:=∀(i:Nat) (w:j6),s.rows[i]? =some w->(w.kind=0->0<=y i)∧(w.kind=1->y i<=0)
theorem ag6 {s:f7} {w:Nat} (hw:w<s.n.toNat+(c8 s).length) {p:Rat} (hp:0<=p):a8v s (chg s w p):=by
 intro i x hx
 unfold chg
 by_cases h:s.n.toNat<=w∧(I7 s (w - s.n.toNat)).1=i
 ·rw [if_pos h]
  obtain ⟨x',hx',h1,h2⟩:=a4S (s:=s) (k:=w - s.n.toNat) (by omega)
  rw [h.2,hx] at hx'
  injection hx' with hx'
  subst hx'
  cases hb:(I7 s (w - s.n.toNat)).2 with
  |false=>exact ⟨fun e=>absurd e (h1 hb),fun _=>by show -p<=0;grind⟩
  |true=>exact ⟨fun _=>by show 0<=-(-p);grind,fun e=>absurd e (h2 hb)⟩
 ·rw [if_neg h];exact ⟨fun _=>by grind,fun _=>by grind⟩
theorem ae1 {s:f7} {f:Nat->Nat->Rat}:∀n:Nat,(∀ j,j<n->a8v s (f j))->a8v s (fun i=>i6 (fun j=>f j i) n)
 |0,_=>fun i w hw=>⟨fun _=>by simp only [i6,T7];grind,fun _=>by simp only [i6,T7];grind⟩
 |n+1,h=>fun i w hw=>by
  have h1:=ae1 n (fun j hj=>h j (by omega)) i w hw
  have h2:=h n (by omega) i w hw
  simp only [i6]
  exact ⟨fun e=>by have:=h1.1 e;have:=h2.1 e;grind,fun e=>by have:=h1.2 e;have:=h2.2 e;grind⟩
theorem b5y {s:f7} {f g:Nat->Rat} (hf:a8v s f) (hg:a8v s g):a8v s (fun i=>f i+g i):=fun i w hw=>
 ⟨fun e=>by have:=(hf i w hw).1 e;have:=(hg i w hw).1 e;grind,fun e=>by have:=(hf i w hw).2 e;have:=(hg i w hw).2 e;grind⟩
def a2L (s:f7) (E:Fd) (i:Nat):Rat:=i6 (fun j=>chg s (E.F j) (-(E.G j)) i) s.n.toNat
def Y3 (s:f7) (E:Fd) (r i:Nat):Rat:=chg s (E.O r) 1 i+i6 (fun j=>chg s (E.F j) (E.A r j) i) s.n.toNat
theorem a3H {s:f7} {f:Nat->Nat->Rat} {c:Nat->Rat} {n R:Nat}:i6 (fun i=>i6 (fun j=>f j i) n*c i) R=i6 (fun j=>i6 (fun i=>f j i*c i) R) n:=by
 rw [← aC4]
 refine d8 fun i hi=>?_
 rw [d8 (f:=fun j=>f j i*c i) (g:=fun j=>c i*f j i) fun j hj=>by grind,G8];grind
structure b2u (s:f7) (g:Nat->Rat) (y:Nat->Rat) (v:Rat):Prop where
 sign:a8v s y
 mix:∀l,l<s.n.toNat->L6 s y l<=g l
 val:a4Y s y=v
theorem b5r {s:f7} {g:List (Int × Rat)} (hr:i7 s=true) (hg:d6 (-1) ((s.n.toNat:Nat):Int) g=true) (h:U5 s g=.best):b2u s (B7 g) (a2L s (m8 s g)) (j0 g (F9 s g)):=by
 obtain ⟨hv,hgj⟩:=an5 h
 have hi:=Q3 (s:=s) (g:=g)
 obtain ⟨z,hz⟩:=hi.g
 have hF:∀j,j<s.n.toNat->(m8 s g).F j<s.n.toNat+(c8 s).length:=fun j hj=>hi.p.fb j hj
 refine ⟨ae1 _ fun j hj=>ag6 (hF j hj) (by have:=hgj j hj;grind),fun l hl=>?_,?_⟩
 ·have h1:=hz _ _ ((hi.i _ 0).1 (av7 (s:=s) (g:=g) 0 (fun j=>if l=j then 1 else 0)))
  rw [d8 (g:=fun j=>(if l=j then (1:Rat) else 0)*-(B7 g j)) fun j hj=>by unfold yv;rw [if_pos hj];grind,a61 hl] at h1
  unfold L6 a2L
  rw [a3H (s:=s),d8 (g:=fun j=>(m8 s g).G j*slA s l ((m8 s g).F j)) fun j hj=>by rw [aA0 (hF j hj)];grind]
  rw [d8 (g:=fun j=>(m8 s g).G j*(if l=(m8 s g).F j then 1 else 0)+(-1:Rat)*((m8 s g).G j*slA s l ((m8 s g).F j))) fun j hj=>by rw [aQ5 hl];grind,U1,G8] at h1
  have h2:i6 (fun j=>(m8 s g).G j*(if l=(m8 s g).F j then (1:Rat) else 0)) s.n.toNat<=0:=a65 fun j hj=>by
   have:=hgj j hj
   split<;>grind
  grind
 ·have h1:=hz _ _ ((hi.i _ 1).1 (av7 (s:=s) (g:=g) 1 (fun _=>0)))
  rw [p6 fun j hj=>by unfold yv;rw [if_pos hj];grind] at h1
  unfold a4Y a2L
  rw [a3H (s:=s),d8 (g:=fun j=>(m8 s g).G j*slV s ((m8 s g).F j)) fun j hj=>by rw [ax3 (hF j hj)];grind]
  rw [d8 (g:=fun j=>(m8 s g).G j*slV s ((m8 s g).F j)) fun j hj=>by rw [a9M]] at h1
  obtain ⟨⟨y,k1,k2,k3,k4⟩,_⟩:=aD0 hi.p hz hv hgj
  have k1':=(hi.i y 1).2 k1
  have e:F9 s g=zOf s.n.toNat y:=by unfold F9;rw [k4]
  have h6:i6 (fun j=>-(B7 g j)*y j) s.n.toNat=-(j0 g (zOf s.n.toNat y)):=by
   rw [← a9C hg]
   exact d8 fun j hj=>by rw [aQ7 k1' j (by omega)]
  rw [e];rw [h6] at k3
  grind
theorem b6D {s:f7} {g:List (Int × Rat)} {r:Nat} (h:U5 s g=.row r):b2u s (fun _=>0) (Y3 s (m8 s g) r) (-((m8 s g).V r))∧(m8 s g).V r<0:=by
 obtain ⟨hr1,hv,ha⟩:=a4l h
 have hi:=Q3 (s:=s) (g:=g)
 have hF:∀j,j<s.n.toNat->(m8 s g).F j<s.n.toNat+(c8 s).length:=fun j hj=>hi.p.fb j hj
 have hO:(m8 s g).O r<s.n.toNat+(c8 s).length:=hi.p.ob r hr1
 refine ⟨⟨b5y (ag6 hO (by decide +kernel)) (ae1 _ fun j hj=>ag6 (hF j hj) (ha j hj)),fun l hl=>?_,?_⟩,hv⟩
 ·have h1:=((hi.i _ 0).1 (av7 (s:=s) (g:=g) 0 (fun j=>if l=j then 1 else 0))) r hr1
  rw [aQ5 hl,d8 (g:=fun j=>(m8 s g).A r j*(if l=(m8 s g).F j then 1 else 0)+(-1:Rat)*((m8 s g).A r j*slA s l ((m8 s g).F j))) fun j hj=>by rw [aQ5 hl];grind,U1,G8] at h1
  have h2:0<=i6 (fun j=>(m8 s g).A r j*(if l=(m8 s g).F j then (1:Rat) else 0)) s.n.toNat:=a1f fun j hj=>by
   have:=ha j hj
   split<;>grind
  unfold L6 Y3
  rw [d8 (g:=fun i=>chg s ((m8 s g).O r) 1 i*B7 (o8 s i).terms l+i6 (fun j=>chg s ((m8 s g).F j) ((m8 s g).A r j) i) s.n.toNat*B7 (o8 s i).terms l) fun i hi=>by grind,U1,aA0 hO,a3H (s:=s),
   d8 (g:=fun j=>(-1:Rat)*((m8 s g).A r j*slA s l ((m8 s g).F j))) fun j hj=>by rw [aA0 (hF j hj)];grind,G8]
  have h3:(0:Rat)<=if l=(m8 s g).O r then 1 else 0:=by split<;>decide +kernel
  grind
 ·have h1:=((hi.i _ 1).1 (av7 (s:=s) (g:=g) 1 (fun _=>0))) r hr1
  rw [a9M,d8 (g:=fun j=>(m8 s g).A r j*slV s ((m8 s g).F j)) fun j hj=>by rw [a9M]] at h1
  unfold a4Y Y3
  rw [d8 (g:=fun i=>chg s ((m8 s g).O r) 1 i*(o8 s i).value+i6 (fun j=>chg s ((m8 s g).F j) ((m8 s g).A r j) i) s.n.toNat*(o8 s i).value) fun i hi=>by grind,U1,ax3 hO,a3H (s:=s),
   d8 (g:=fun j=>(-1:Rat)*((m8 s g).A r j*slV s ((m8 s g).F j))) fun j hj=>by rw [ax3 (hF j hj)];grind,G8]
  grind
theorem b1v {s:f7} {g:List (Int × Rat)} {c y:Nat->Rat} {v:Rat} (h:b2u s c y v) {z:List Rat} (hz:g6 s z=true):v<=i6 (fun l=>c l*z.getD l 0) s.n.toNat:=by
 obtain ⟨hr,hl,hp,hw⟩:=W7.1 hz
 have hn:=O9 hr
 have h0:∀l,l<s.n.toNat->0<=z.getD l 0:=fun l hl'=>by
  rw [lbl,lbf (by omega)]
  exact hp _ (lbE _)
 have h1:i6 (fun l=>L6 s y l*z.getD l 0) s.n.toNat<=i6 (fun l=>c l*z.getD l 0) s.n.toNat:=by
  have:=a1f (f:=fun l=>(c l - L6 s y l)*z.getD l 0) (n:=s.n.toNat) fun l hl'=>lb0 (by have:=h.mix l hl';grind) (h0 l hl')
  rw [d8 (g:=fun l=>c l*z.getD l 0+(-1:Rat)*(L6 s y l*z.getD l 0)) fun l hl'=>by grind,U1,G8] at this
  grind
 have h2:i6 (fun l=>L6 s y l*z.getD l 0) s.n.toNat=i6 (fun i=>y i*j0 (o8 s i).terms z) s.rows.length:=by
  unfold L6
  rw [a3H (s:=s) (f:=fun i l=>y i*B7 (o8 s i).terms l)]
  refine d8 fun i hi=>?_
  have hx:s.rows[i]? =some (o8 s i):=by unfold o8;rw [lbl,lbf hi];rfl
  rw [S1 (a0n hr hx).1 z,←G8]
  exact d8 fun l hl=>by grind
 have h3:0<=i6 (fun i=>y i*(j0 (o8 s i).terms z - (o8 s i).value)) s.rows.length:=a1f fun i hi=>by
  have hx:s.rows[i]? =some (o8 s i):=by unfold o8;rw [lbl,lbf hi];rfl
  obtain ⟨_,k1,k2⟩:=a0n hr hx
  obtain ⟨s1,s2⟩:=h.sign i _ hx
  obtain ⟨b1,b2⟩:=hw _ (lbm hx)
  by_cases e0:(o8 s i).kind=0
  ·have:=b1 (by omega)
   exact lb0 (s1 e0) (by grind)
  ·by_cases e1:(o8 s i).kind=1
   ·have:=b2 e0
    have:=lb0 (show 0<=-(y i) by have:=s2 e1;grind) (show 0<=-(j0 (o8 s i).terms z - (o8 s i).value) by grind)
    grind
   ·have a1:=b1 e1
    have a2:=b2 e0
    have:j0 (o8 s i).terms z - (o8 s i).value=0:=by grind
    rw [this];grind
 rw [d8 (g:=fun i=>y i*j0 (o8 s i).terms z+(-1:Rat)*(y i*(o8 s i).value)) fun i hi=>by grind,U1,G8] at h3
 have h4:=h.val
 unfold a4Y at h4
 grind
def rF (n:Nat) (g:Nat->Rat):List Fr:=(List.range n).map fun j=>fz (g j)
def mF (m n:Nat) (A:Nat->Nat->Rat):List (List Fr):=(List.range m).map fun i=>rF n (A i)
theorem a0K (n:Nat) (g:Nat->Rat):(rF n g).length=n:=by simp [rF]
theorem b8 (m n:Nat) (A:Nat->Nat->Rat):(mF m n A).length=m:=by simp [mF]
theorem I1 {n:Nat} {g:Nat->Rat} {j:Nat} (h:j<n):(rF n g)[j]? =some (fz (g j)):=by simp [rF,h]
theorem O3 {m n:Nat} {A:Nat->Nat->Rat} {i:Nat} (h:i<m):(mF m n A)[i]? =some (rF n (A i)):=by simp [mF,h]
theorem X9 {n:Nat} {g:Nat->Rat} {s:Nat} {v:Rat} (h:s<n):(rF n g).set s (fz v)=rF n (fun j=>if j=s then v else g j):=by
 apply Z4
 intro j
 by_cases hj:j<n
 ·rw [I1 hj,lbg,a0K]
  by_cases hjm:s=j
  ·subst hjm;simp [h]
  ·rw [if_neg hjm,I1 hj,if_neg (by omega)]
 ·rw [lbd (by simp [a0K];omega),lbd (by simp [a0K];omega)]
theorem G3 {n:Nat} {g h:Nat->Rat} (e:∀j,j<n->g j=h j):rF n g=rF n h:=lbp fun j hj=>by rw [e j (lbB.1 hj)]
theorem aM5 {m n:Nat} {A B:Nat->Nat->Rat} (e:∀i,i<m->∀j,j<n->A i j=B i j):mF m n A=mF m n B:=lbp fun i hi=>G3 (e i (lbB.1 hi))
theorem b36 {m n:Nat} {A:Nat->Nat->Rat} {r:Nat} {g:Nat->Rat} (h:r<m):(mF m n A).set r (rF n g)=mF m n (fun i=>if i=r then g else A i):=by
 apply Z4
 intro j
 by_cases hj:j<m
 ·rw [O3 hj,lbg,b8]
  by_cases hjm:r=j
  ·subst hjm;simp [h]
  ·rw [if_neg hjm,O3 hj,if_neg (by omega)]
 ·rw [lbd (by simp [b8];omega),lbd (by simp [b8];omega)]
abbrev flB (l:List Fr):Blk:={ mode:=.live,elem:=35,size:=4,rows:=toC (l.map n7),box:=false }
theorem K7 {row:List Fr} {i n:Nat} {y:Fr} (h:n=i):w6 (flB row) ((toC (row.map n7)).set n (frC y))=flB (row.set i y):=by
 subst h
 unfold w6
 simp [toC,a2Z,n7]
def P7 (b m n:Nat) (V:Nat->Rat):List (List C):=(List.range m).map fun i=>frC (fz (V i))++[C.own (i+b) 0 n true]
def a0D (m:Nat) (O:Nat->Nat):List (List T):=(List.range m).map fun i=>[ti (O i)]
def Z6 (l:List (Nat × Bool)):List (List T):=l.map fun f=>[ti f.1,tb f.2]
theorem C5 (b m n:Nat) (V:Nat->Rat):(P7 b m n V).length=m:=by simp [P7]
theorem s9 (m:Nat) (O:Nat->Nat):(a0D m O).length=m:=by simp [a0D]
theorem a2q {b m n:Nat} {V:Nat->Rat} {i:Nat} (h:i<m):(P7 b m n V)[i]? =some (frC (fz (V i))++[C.own (i+b) 0 n true]):=by simp [P7,h]
theorem a6a {m:Nat} {O:Nat->Nat} {i:Nat} (h:i<m):(a0D m O)[i]? =some [ti (O i)]:=by simp [a0D,h]
theorem b1r {b m n:Nat} {V:Nat->Rat} {r:Nat} {v:Rat} (h:r<m):(P7 b m n V).set r (frC (fz v)++[C.own (r+b) 0 n true])=P7 b m n (fun i=>if i=r then v else V i):=by
 apply Z4
 intro j
 by_cases hj:j<m
 ·rw [a2q hj,lbg,C5]
  by_cases hjm:r=j
  ·subst hjm;simp [h]
  ·rw [if_neg hjm,a2q hj,if_neg (by omega)]
 ·rw [lbd (by simp [C5];omega),lbd (by simp [C5];omega)]
theorem b5b {m:Nat} {O:Nat->Nat} {r v:Nat} (h:r<m):(a0D m O).set r [ti v]=a0D m (fun i=>if i=r then v else O i):=by
 apply Z4
 intro j
 by_cases hj:j<m
 ·rw [a6a hj,lbg,s9]
  by_cases hjm:r=j
  ·subst hjm;simp [h]
  ·rw [if_neg hjm,a6a hj,if_neg (by omega)]
 ·rw [lbd (by simp [s9];omega),lbd (by simp [s9];omega)]
abbrev aY5 (m n k:Nat):Blk:={ mode:=.live,elem:=364,size:=6,rows:=[[C.t (ti n),.own 1 0 m true,.own 2 0 n true,.own 3 0 m true,.own 4 0 n true,.own 5 0 k true]],box:=true }
abbrev a0t (b m n:Nat) (V:Nat->Rat):Blk:={ mode:=.live,elem:=367,size:=5,rows:=P7 b m n V,box:=false }
abbrev X3 (m:Nat) (O:Nat->Nat):Blk:={ mode:=.live,elem:=3,size:=1,rows:=toC (a0D m O),box:=false }
abbrev a19 (l:List (Nat × Bool)):Blk:={ mode:=.live,elem:=413,size:=2,rows:=toC (Z6 l),box:=false }
abbrev Y8 (m n:Nat) (fr:List (Nat × Bool)) (D:Fd):Hp:=
 aY5 m n fr.length::a0t 6 m n D.V::flB (rF n D.G)::X3 m D.O::X3 n D.F::a19 fr::(mF m n D.A).map flB
theorem a2y {m n:Nat} {fr:List (Nat × Bool)} {D:Fd}:(Y8 m n fr D).length=m+6:=by simp [b8]
theorem ae3 {b m n N:Nat} {V:Nat->Rat} (h:m+b<=N):okB N (a0t b m n V):=by
 intro r hr c hc
 obtain ⟨i,hi,rfl⟩:=lbx.1 hr
 have:=lbB.1 hi
 simp [frC] at hc
 rcases hc with rfl|rfl|rfl|rfl|rfl<;>first|trivial|(simp only;omega)
theorem b14 {m n k N:Nat} (h:6<=N):okB N (aY5 m n k):=by
 intro r hr c hc
 simp at hr
 subst hr
 simp at hc
 rcases hc with rfl|rfl|rfl|rfl|rfl|rfl<;>first|trivial|(simp only;omega)
theorem a6F {m n:Nat} {fr:List (Nat × Bool)} {D:Fd}:∀k ∈ Y8 m n fr D,okB (m+6) k:=by
 intro k hk
 simp only [lbA] at hk
 rcases hk with rfl|rfl|rfl|rfl|rfl|rfl|hk
 ·exact b14 (by omega)
 ·exact ae3 (lbQ _)
 ·exact G5 rfl
 ·exact G5 rfl
 ·exact G5 rfl
 ·exact G5 rfl
 ·obtain ⟨l,_,rfl⟩:=lbx.1 hk
  exact G5 rfl
theorem b0D (x:Rat):(fz x).p.sg=0↔x=0:=by
 show x.num.sign=0↔_
 rw [Int.sign_eq_zero_iff_zero,Rat.num_eq_zero]
theorem rl0:rl 0<=1:=by
 have h0:=S5 (x:=0) (by decide) (by decide)
 have h1:=S5 (x:=1) (by decide) (by decide)
 show max (bl 0) (bl 1)<=1
 omega
theorem rl1:rl 1<=1:=by
 have h1:=S5 (x:=1) (by decide) (by decide)
 show max (bl 1) (bl 1)<=1
 omega
theorem b8P (x y:Rat) (hy:y≠0) (lx:rl x<=60000) (ly:rl y<=60000):a8 Tryz.prog 316 [frS (fz x),frS (fz y)] [] (.tup [frS (fz (x / y)),a7 .i64 0]) []:=by
 have r1:=I4 x (by omega)
 have r2:=I4 y (by omega)
 have x1:=K0 x
 have x2:=M3 x
 have y1:=K0 y
 have y2:=M3 y
 have hn:y.num≠0:=fun h=>hy (Rat.num_eq_zero.1 h)
 have hs:y.num.sign≠0:=fun h=>hn (Int.sign_eq_zero_iff_zero.1 h)
 have hsg:=b0D y
 have l1:=X8 x.num y.den
 have l3:=X8 x.den y.num
 have t1:=a0Y x.num y.den (by omega) (by omega)
 have t3:=a0Y x.den y.num (by omega) (by omega)
 have n:=at9 (x.num*y.den) (x.den*y.num) (Int.mul_ne_zero (aT2 x) hn) (by omega) (by omega)
 rw [← b5Z] at n
 (refine ac Tryz.func316 ?_;(conv=>whnf);repeat (refine zy ?_;conv=>whnf))
 repeat' (first|refine zx ?_|refine qp r1 ?_|refine qp r2 ?_|refine qp t1 ?_|refine qp t3 ?_|refine qp n ?_|refine zd ?_ ?_<;>intro h<;>try omega|fail)<;>conv=>whnf
 all_goals first
  |(exfalso;simp_all;done)
  |exact a21 rfl
theorem Z1 (x:Rat) (lx:rl x<=60000):a8 Tryz.prog 62 [frS (fz x)] [] (frS (fz (-x))) []:=by
 have r1:=I4 x (by omega)
 have x1:=K0 x
 have x2:=M3 x
 have n:=a7L x.num (by omega)
 have s:=ab2 x.den (by omega)
 have e:fz (-x)=⟨bz (-x.num),bz x.den⟩:=rfl
 rw [e]
 (refine ac Tryz.func62 ?_;(conv=>whnf);repeat (refine zy ?_;conv=>whnf))
 repeat' (first|refine zx ?_|refine qp r1 ?_|refine qp n ?_|refine qp s ?_|refine zd ?_ ?_<;>intro h<;>try omega|fail)<;>conv=>whnf
 all_goals first
  |(exfalso;simp_all;done)
  |exact j2 ⟨rfl,rfl,rfl,rfl,trivial⟩
theorem ac8 (x:Rat):a8 Tryz.prog 294 [frS (fz x)] [] (d9 (decide (x=0))) []:=by
 have h:=b0D x
 (refine ac Tryz.func294 ?_;(conv=>whnf);repeat (refine zy ?_;conv=>whnf))
 repeat' (first|refine zx ?_|refine zd ?_ ?_<;>intro h<;>try omega|fail)<;>conv=>whnf
 all_goals (refine c9 ?_;simp_all)
theorem aV7 (a b c:Rat) (la:rl a<=60000) (lb:rl b<=30000) (lc:rl c<=30000):a8 Tryz.prog 295 [frS (fz a),frS (fz b),frS (fz c)] [] (frS (fz (a - b*c))) []:=by
 have z1:=ac8 b
 have z2:=ac8 c
 have m:=az2 b c (by omega) (by omega)
 have lm:=a86 b c
 have s:=b4O a (b*c) la (by omega)
 by_cases hb:b=0
 ·have e:a - b*c=a:=by rw [hb];grind
  rw [e]
  (refine ac Tryz.func295 ?_;(conv=>whnf);repeat (refine zy ?_;conv=>whnf))
  repeat' (first|refine zx ?_|refine qp z1 ?_|refine qp z2 ?_|refine qp m ?_|refine qp s ?_|refine zd ?_ ?_<;>intro h<;>try omega|fail)<;>conv=>whnf
  all_goals first
   |(exfalso;simp_all;done)
   |exact j2 ⟨rfl,rfl,rfl,rfl,trivial⟩
 ·by_cases hc:c=0
  ·have e:a - b*c=a:=by rw [hc];grind
   rw [e]
   (refine ac Tryz.func295 ?_;(conv=>whnf);repeat (refine zy ?_;conv=>whnf))
   repeat' (first|refine zx ?_|refine qp z1 ?_|refine qp z2 ?_|refine qp m ?_|refine qp s ?_|refine zd ?_ ?_<;>intro h<;>try omega|fail)<;>conv=>whnf
   all_goals first
    |(exfalso;simp_all;done)
    |exact j2 ⟨rfl,rfl,rfl,rfl,trivial⟩
  ·(refine ac Tryz.func295 ?_;(conv=>whnf);repeat (refine zy ?_;conv=>whnf))
   repeat' (first|refine zx ?_|refine qp z1 ?_|refine qp z2 ?_|refine qp m ?_|refine qp s ?_|refine zd ?_ ?_<;>intro h<;>try omega|fail)<;>conv=>whnf
   all_goals first
    |(exfalso;simp_all;done)
    |exact j2 ⟨rfl,rfl,rfl,rfl,trivial⟩
theorem aQ0 (a b:Rat) (hb:b≠0) (la:rl a<=60000) (lb:rl b<=60000):a8 Tryz.prog 293 [frS (fz a),frS (fz b)] [] (frS (fz (a / b))) []:=by
 have d:=b8P a b hb la lb
 (refine ac Tryz.func293 ?_;(conv=>whnf);repeat (refine zy ?_;conv=>whnf))
 repeat' (first|refine zx ?_|refine qp d ?_|refine zd ?_ ?_<;>intro h<;>try omega|fail)<;>conv=>whnf
 all_goals exact j2 ⟨rfl,rfl,rfl,rfl,trivial⟩
def tkF (a row:Nat->Rat) (s k:Nat):Nat->Rat:=fun j=>if j<k∧j≠s then a j - a s*row j else a j
def tkA (a row:Nat->Rat) (s:Nat):Nat->Rat:=fun j=>if j=s then 0 - a s*row s else a j - a s*row j
def pZ (k n:Nat):List Fr:=(List.range n).map fun j=>if j<k then fz 0 else M6
theorem af3 (k n:Nat):(pZ k n).length=n:=by simp [pZ]
theorem a7X {k n j:Nat} (h:j<n):(pZ k n)[j]? =some (if j<k then fz 0 else M6):=by simp [pZ,h]
theorem b2K {k n:Nat} (h:k<n):(pZ k n).set k (fz 0)=pZ (k+1) n:=by
 apply Z4
 intro j
 by_cases hj:j<n
 ·rw [a7X hj,lbg,af3]
  by_cases hjk:k=j
  ·subst hjk;simp [h]
  ·rw [if_neg hjk,a7X hj]
   have:(j<k+1)↔(j<k):=by omega
   simp only [this]
 ·rw [lbd (by simp [af3];omega),lbd (by simp [af3];omega)]
theorem b3m (n:Nat):pZ n n=rF n (fun _=>0):=lbp fun j hj=>by rw [if_pos (lbB.1 hj)]
theorem b6A (n:Nat) (hn:n<=1000):a8 Tryz.prog 241 [a7 .i64 n] [] (.c (.own 0 0 n true)) [flB (rF n fun _=>0)]:=by
 have i0:=H4 0 (by decide) (by decide)
 have hnn:(n:Int).toNat=n:=by omega
 (refine ac Tryz.func241 ?_;(conv=>whnf);repeat (refine zy ?_;conv=>whnf))
 repeat' (first|refine zx ?_|refine a8F (by omega) (by omega) (by omega) (by decide) ?_|refine zd ?_ ?_<;>intro h<;>try omega|fail)<;>conv=>whnf
 refine g8 b9 (fun k=>([a7 .i64 n,J,J,S.c (C.own 0 0 n true),J,J,J,J,a7 .i64 n,a7 .i64 k]++Jn 8,[flB (pZ k n)])) n (fun _=>True) [some 0] trivial
  ⟨rfl,rfl,⟨⟨rfl,rfl,rfl,.inr (a6P ?_ ?_)⟩,trivial⟩,⟨g9 rfl,⟨rfl,rfl,by omega,fun h=>h⟩,c7 (by omega),c7 rfl,trivial⟩⟩ ?_
 ·simp [N4,toC,af3]
 ·intro i x y hx hy
  simp only [N4,lbk] at hx
  split at hx
  ·rename_i hi
   injection hx with hx
   subst hx
   have hy:(toC ((pZ 0 n).map n7))[i]? =some y:=hy
   rw [toC,lba,lba,a7X (by omega),if_neg (by omega)] at hy
   injection hy with hy
   subst hy
   exact ⟨rfl,rfl,rfl,rfl,trivial⟩
  ·cases hx
 intro k hk _
 by_cases hlt:k<n
 ·obtain ⟨pf,hpf⟩:∃pf,(pZ k n)[k]? =some pf:=⟨_,a7X hlt⟩
  have gp:(pZ k n)[0+(k:Int).toNat]? =some pf:=by rw [D8,show (k:Int).toNat=k by omega];exact hpf
  have eM:0+(k:Int).toNat=k:=by omega
  conv=>whnf
  repeat' (first|refine zx ?_|refine qp i0 ?_|refine o7 gp ?_|refine zd ?_ ?_<;>intro h<;>try omega|fail)<;>conv=>whnf
  all_goals first
   |omega
   |(refine ⟨hlt,trivial,[some 0],rfl,rfl,⟨b7 (rows:=(pZ (k+1) n).map n7) rfl rfl rfl ?_ rfl,trivial⟩,⟨rfl,⟨rfl,rfl,rfl,fun h=>h⟩,rfl,c7 (by omega),trivial⟩⟩
     have e:=K7 (row:=pZ k n) (y:=fz 0) eM
     rw [b2K hlt] at e
     exact congrArg Blk.rows e)
 ·have hke:k=n:=by omega
  subst hke
  conv=>whnf
  repeat' (first|refine zx ?_|refine zd ?_ ?_<;>intro h<;>try omega|fail)<;>conv=>whnf
  all_goals first
   |omega
   |exact ⟨[some 0],rfl,rfl,⟨b7 (rows:=(rF k fun _=>0).map n7) rfl rfl rfl (by rw [← b3m]) rfl,trivial⟩,⟨rfl,rfl,rfl,fun h=>h⟩⟩
theorem b51 (a row:Nat->Rat) (s:Nat):tkF a row s 0=a:=by funext j;unfold tkF;rw [if_neg (by omega)]
theorem b9g (a row:Nat->Rat) (s k:Nat):tkF a row s k k=a k:=by unfold tkF;rw [if_neg (by omega)]
theorem b9R (a row:Nat->Rat) (s k:Nat):tkF a row s k s=a s:=by unfold tkF;rw [if_neg (by omega)]
theorem b34 {a row:Nat->Rat} {s k:Nat} (h:k≠s):(fun j=>if j=k then a k - a s*row k else tkF a row s k j)=tkF a row s (k+1):=by
 funext j
 by_cases hj:j=k
 ·subst hj;rw [if_pos rfl];unfold tkF;rw [if_pos ⟨by omega,h⟩]
 ·rw [if_neg hj];unfold tkF
  have:(j<k∧j≠s)↔(j<k+1∧j≠s):=by omega
  simp only [this]
theorem b4R {a row:Nat->Rat} {s:Nat}:tkF a row s s=tkF a row s (s+1):=by
 funext j;unfold tkF
 have:(j<s∧j≠s)↔(j<s+1∧j≠s):=by omega
 simp only [this]
theorem b5V {a row:Nat->Rat} {s n:Nat}:rF n (fun j=>if j=s then 0 - a s*row s else tkF a row s n j)=rF n (tkA a row s):=G3 fun j hj=>by
 unfold tkA tkF
 by_cases h:j=s
 ·rw [if_pos h,if_pos h]
 ·rw [if_neg h,if_neg h,if_pos ⟨hj,h⟩]
abbrev frX (x:Rat):Blk:={ mode:=.live,elem:=35,size:=4,rows:=[frC (fz x)],box:=true }
theorem b92 {ρ:List (Option Nat)} {H:Hp} (x:Rat):a2f ρ H (frX x) (frX x):=⟨rfl,rfl,rfl,.inl ⟨rfl,c6 [n7 (fz x)]⟩⟩
theorem b8C (n s:Nat) (a row:Nat->Rat) (hn:n<=1000) (hs:s<n) (ha:∀j,j<n->rl (a j)<=30000) (hr:∀j,j<n->rl (row j)<=30000):
 a8 Tryz.prog 296 [.c (.own 0 0 n true),.c (.own 1 0 n true),a7 .i64 s] [flB (rF n a),flB (rF n row)] (.tup []) [flB (rF n (tkA a row s)),flB (rF n row)]:=by
 have i0:=H4 0 (by decide) (by decide)
 have ls:=ha s hs
 have eS:0+(s:Int).toNat=s:=by omega
 have gs:(rF n a)[0+(s:Int).toNat]? =some (fz (a s)):=by rw [eS,I1 hs]
 (refine ac Tryz.func296 ?_;(conv=>whnf);repeat (refine zy ?_;conv=>whnf))
 repeat' (first|refine zx ?_|refine o7 gs ?_|refine zd ?_ ?_<;>intro h<;>try omega|fail)<;>conv=>whnf
 refine g8 b9 (fun k=>([S.c (C.own 0 0 n true),S.c (C.own 1 0 n true),a7 .i64 s,J,J,J,S.c (C.ptr 2 0 0),J,J,J,J,J,J,a7 .i64 n,a7 .i64 k]++Jn 29,[flB (rF n (tkF a row s k)),flB (rF n row),frX (a s)])) n (fun _=>True) [some 0,some 1,some 2] trivial
  ⟨rfl,rfl,⟨b7 (rows:=(rF n a).map n7) rfl rfl rfl rfl (by rw [b51]),b7 rfl rfl rfl rfl rfl,b92 _,trivial⟩,⟨⟨rfl,rfl,rfl,fun h=>h⟩,⟨rfl,rfl,rfl,fun h=>h⟩,rfl,⟨rfl,rfl,rfl⟩,c7 rfl,c7 rfl,trivial⟩⟩ ?_
 intro k hk _
 by_cases hlt:k<n
 ·have eM:0+(k:Int).toNat=k:=by omega
  have lk:=ha k hlt
  have lr:=hr k hlt
  have g1:(rF n (tkF a row s k))[0+(k:Int).toNat]? =some (fz (a k)):=by rw [eM,I1 hlt,b9g]
  have g2:(rF n row)[0+(k:Int).toNat]? =some (fz (row k)):=by rw [eM,I1 hlt]
  have le:=aV7 (a k) (a s) (row k) (by omega) (by omega) (by omega)
  by_cases hks:k=s
  ·subst hks
   conv=>whnf
   repeat' (first|refine zx ?_|refine qp le ?_|refine o7 g1 ?_|refine o7 g2 ?_|refine zd ?_ ?_<;>intro h<;>try omega|fail)<;>conv=>whnf
   all_goals first
    |omega
    |exact ⟨hlt,trivial,[some 0,some 1,some 2],rfl,rfl,⟨b7 (rows:=(rF n (tkF a row k k)).map n7) rfl rfl rfl rfl (by rw [b4R]),b7 rfl rfl rfl rfl rfl,b92 _,trivial⟩,⟨⟨rfl,rfl,rfl,fun h=>h⟩,⟨rfl,rfl,rfl,fun h=>h⟩,rfl,⟨rfl,rfl,rfl⟩,c7 rfl,c7 rfl,trivial⟩⟩
  ·conv=>whnf
   repeat' (first|refine zx ?_|refine qp le ?_|refine o7 g1 ?_|refine o7 g2 ?_|refine zd ?_ ?_<;>intro h<;>try omega|fail)<;>conv=>whnf
   all_goals first
    |omega
    |(refine ⟨hlt,trivial,[some 0,some 1,some 2],rfl,rfl,⟨b7 (rows:=(rF n (tkF a row s (k+1))).map n7) rfl rfl rfl ?_ rfl,b7 rfl rfl rfl rfl rfl,b92 _,trivial⟩,⟨⟨rfl,rfl,rfl,fun h=>h⟩,⟨rfl,rfl,rfl,fun h=>h⟩,rfl,⟨rfl,rfl,rfl⟩,c7 rfl,c7 rfl,trivial⟩⟩
      have e:=K7 (row:=rF n (tkF a row s k)) (y:=fz (a k - a s*row k)) eM
      rw [X9 hlt,b34 hks] at e
      exact congrArg Blk.rows e)
 ·have hke:k=n:=by omega
  subst hke
  have g2:(rF k row)[0+(s:Int).toNat]? =some (fz (row s)):=by rw [eS,I1 hs]
  have lr:=hr s hs
  have le:=aV7 0 (a s) (row s) (by have:=rl0;omega) (by omega) (by omega)
  have le:a8 Tryz.prog 295 [frS (fz ((0:Int):Rat)),frS (fz (a s)),frS (fz (row s))] [] (frS (fz (0 - a s*row s))) []:=le
  conv=>whnf
  have g1:(rF k (tkF a row s k))[0+(s:Int).toNat]? =some (fz (a s)):=by rw [eS,I1 hs,b9R]
  repeat' (first|refine zx ?_|refine qp i0 ?_|refine qp le ?_|refine o7 g2 ?_|refine o7 g1 ?_|refine zd ?_ ?_<;>intro h<;>try omega|fail)<;>conv=>whnf
  all_goals first
   |omega
   |(refine ⟨[some 0,some 1],rfl,rfl,⟨b7 (rows:=(rF k (tkA a row s)).map n7) rfl rfl rfl ?_ rfl,b7 rfl rfl rfl rfl rfl,trivial⟩,trivial⟩
     have e:=K7 (row:=rF k (tkF a row s k)) (y:=fz (0 - a s*row s)) eS
     rw [X9 hs,b5V] at e
     exact congrArg Blk.rows e)
def leI:Option Nat->Int
 |none=>-1
 |some a=>a
theorem a4U (f:Nat->Nat) (p:Nat->Bool) (k:Nat):T4 f p (k+1)=match T4 f p k with
 |none=>if p k then some k else none
 |some a=>if p k && decide (f k<f a) then some k else some a:=rfl
theorem E5 {m:Nat} {f:Nat->Nat} {n:Int} {i:Nat} {K:List T->Prop} (e:n=i) (h:i<m) (k:K [ti (f i)]):∃row,0<=n∧(a0D m f)[n.toNat]? =some row∧K row:=by
 subst e;exact ⟨_,by omega,by rw [show (i:Int).toNat=i by omega,a6a h],k⟩
abbrev a5V (m:Nat) (f:Nat->Nat):S:=.c (.t (.sl 1 .any (a0D m f)))
theorem a4O (m:Nat) (hm:m<=100000) (f:Nat->Nat) (p:Nat->Bool) (g:FuncId) (caps:List T) (hg:∀i:Nat,i<m->a8 Tryz.prog g (a7 .i64 i::caps.map fun x=>.c (.t x)) [] (d9 (p i)) []):
 a8 Tryz.prog 243 [a5V m f,.c (.t (.fn (.func g) caps))] [] (a7 .i64 (leI (T4 f p m))) []:=by
 have m1:(a0D m f).length=m:=s9 m f
 (refine ac Tryz.func243 ?_;(conv=>whnf);repeat (refine zy ?_;conv=>whnf))
 repeat' (first|refine zx ?_|refine zd ?_ ?_<;>intro h<;>try omega|fail)<;>conv=>whnf
 refine g8 b9 (fun k=>([a5V m f,S.c (C.t (T.fn (.func g) caps)),J,J,J,a7 .i64 (leI (T4 f p k)),J,J,a5V m f,a7 .i64 m,a7 .i64 k]++Jn 22,[])) m (fun _=>True) [] trivial
  ⟨rfl,rfl,trivial,⟨g9 rfl,g9 rfl,c7 rfl,g9 rfl,c7 (by omega),c7 rfl,trivial⟩⟩ ?_
 intro k hk _
 by_cases hlt:k<m
 ·have hgr:=hg k hlt
  have ha:(a7 .i64 (k:Int)::caps.map fun x=>S.c (C.t x)).all S.isT=true:=by simp [S.isT,C.isT,a7]
  cases hp:p k with
  |false=>
   rw [hp] at hgr
   have e1:leI (T4 f p k)=leI (T4 f p (k+1)):=by
    rw [a4U,hp];cases T4 f p k<;>rfl
   conv=>whnf
   repeat' (first|refine zx ?_|refine .inl ⟨_,_,D9 hgr ha rfl,?_⟩|refine E5 rfl hlt ?_|refine zd ?_ ?_<;>intro h<;>try omega|fail)<;>conv=>whnf
   all_goals first
    |omega
    |exact ⟨hlt,trivial,[],rfl,rfl,trivial,⟨rfl,rfl,c7 e1,rfl,rfl,c7 rfl,trivial⟩⟩
  |true=>
   rw [hp] at hgr
   cases hl:T4 f p k with
   |none=>
    have hle:leI none=-1:=rfl
    have e1:(k:Int)=leI (T4 f p (k+1)):=by rw [a4U,hl,hp];rfl
    conv=>whnf
    repeat' (first|refine zx ?_|refine .inl ⟨_,_,D9 hgr ha rfl,?_⟩|refine E5 rfl hlt ?_|refine zd ?_ ?_<;>intro h<;>try omega|fail)<;>conv=>whnf
    all_goals first
     |omega
     |exact ⟨hlt,trivial,[],rfl,rfl,trivial,⟨rfl,rfl,c7 e1,rfl,rfl,c7 rfl,trivial⟩⟩
   |some b=>
    have hb:=(G1 hl).1
    have hle:leI (some b)=b:=rfl
    by_cases hc:f k<f b
    ·have e1:(k:Int)=leI (T4 f p (k+1)):=by rw [a4U,hl,hp];simp [hc,leI]
     conv=>whnf
     repeat' (first|refine zx ?_|refine .inl ⟨_,_,D9 hgr ha rfl,?_⟩|refine E5 rfl hlt ?_|refine E5 (i:=b) hle (by omega) ?_|refine zd ?_ ?_<;>intro h<;>try omega|fail)<;>conv=>whnf
     all_goals first
      |omega
      |exact ⟨hlt,trivial,[],rfl,rfl,trivial,⟨rfl,rfl,c7 e1,rfl,rfl,c7 rfl,trivial⟩⟩
    ·have e1:leI (some b)=leI (T4 f p (k+1)):=by rw [a4U,hl,hp];simp [hc,leI]
     conv=>whnf
     repeat' (first|refine zx ?_|refine .inl ⟨_,_,D9 hgr ha rfl,?_⟩|refine E5 rfl hlt ?_|refine E5 (i:=b) hle (by omega) ?_|refine zd ?_ ?_<;>intro h<;>try omega|fail)<;>conv=>whnf
     all_goals first
      |omega
      |exact ⟨hlt,trivial,[],rfl,rfl,trivial,⟨rfl,rfl,c7 e1,rfl,rfl,c7 rfl,trivial⟩⟩
 ·have hke:k=m:=by omega
  subst hke
  conv=>whnf
  repeat' (first|refine zx ?_|refine zd ?_ ?_<;>intro h<;>try omega|fail)<;>conv=>whnf
  all_goals first
   |omega
   |exact A6 rfl
def a8w (m n:Nat) (D:Fd):List (List T):=(List.range m).map fun i=>n7 (fz (D.V i))++[T.sl 4 .any ((rF n (D.A i)).map n7)]
def b7m (m n:Nat) (fr:List (Nat × Bool)) (D:Fd):List T:=[ti n,.sl 5 .any (a8w m n D),.sl 4 .any ((rF n D.G).map n7),.sl 1 .any (a0D m D.O),.sl 1 .any (a0D n D.F),.sl 2 .any (Z6 fr)]
theorem a84 {m n:Nat} {D:Fd} {i:Nat} (h:i<m):(a8w m n D)[i]? =some (n7 (fz (D.V i))++[T.sl 4 .any ((rF n (D.A i)).map n7)]):=by simp [a8w,h]
theorem a4C (m n:Nat) (D:Fd):(a8w m n D).length=m:=by simp [a8w]
theorem a0B {m n:Nat} {D:Fd} {x:Int} {i:Nat} {K:List T->Prop} (e:x=i) (h:i<m) (k:K (n7 (fz (D.V i))++[T.sl 4 .any ((rF n (D.A i)).map n7)])):∃row,0<=x∧(a8w m n D)[x.toNat]? =some row∧K row:=by
 subst e;exact ⟨_,by omega,by rw [show (i:Int).toNat=i by omega,a84 h],k⟩
theorem a4f {n:Nat} {g:Nat->Rat} {x:Int} {j:Nat} {K:List T->Prop} (e:x=j) (h:j<n) (k:K (n7 (fz (g j)))):∃row,0<=x∧((rF n g).map n7)[x.toNat]? =some row∧K row:=by
 subst e;exact ⟨_,by omega,by rw [show (j:Int).toNat=j by omega,lba,I1 h];rfl,k⟩
theorem b3b (x:Rat):(fz x).p.sg<0↔x<0:=by
 show x.num.sign<0↔_
 rw [ag5];unfold sgR;split<;>(try split)<;>simp_all
theorem b3d (x:Rat):(fz x).p.sg > 0↔0<x:=by
 show x.num.sign > 0↔_
 rw [ag5];unfold sgR
 split
 ·constructor
  ·intro h;omega
  ·intro h;grind
 ·split<;>simp_all
abbrev a5F (m n:Nat) (fr:List (Nat × Bool)) (D:Fd):T:=.ptr [.ptr (b7m m n fr D)]
theorem b2p (m n:Nat) (fr:List (Nat × Bool)) (D:Fd) (i:Nat) (hi:i<m):
 a8 Tryz.prog 244 (a7 .i64 i::[a5F m n fr D].map fun x=>.c (.t x)) [] (d9 (decide (D.V i<0))) []:=by
 have h:=b3b (D.V i)
 (refine ac Tryz.func244 ?_;(conv=>whnf);repeat (refine zy ?_;conv=>whnf))
 repeat' (first|refine zx ?_|refine a0B rfl hi ?_|refine zd ?_ ?_<;>intro h<;>try omega|fail)<;>conv=>whnf
 all_goals (refine c9 ?_;simp_all)
theorem b1X (m n:Nat) (fr:List (Nat × Bool)) (D:Fd) (j:Nat) (hj:j<n):
 a8 Tryz.prog 245 (a7 .i64 j::[a5F m n fr D].map fun x=>.c (.t x)) [] (d9 (decide (0<D.G j))) []:=by
 have h:=b3d (D.G j)
 (refine ac Tryz.func245 ?_;(conv=>whnf);repeat (refine zy ?_;conv=>whnf))
 repeat' (first|refine zx ?_|refine a4f rfl hj ?_|refine zd ?_ ?_<;>intro h<;>try omega|fail)<;>conv=>whnf
 all_goals (refine c9 ?_;simp_all)
theorem ao0 (m n:Nat) (fr:List (Nat × Bool)) (D:Fd) (r j:Nat) (hr:r<m) (hj:j<n):
 a8 Tryz.prog 246 (a7 .i64 j::[a5F m n fr D,T.ptr [ti r]].map fun x=>.c (.t x)) [] (d9 (decide (D.A r j<0))) []:=by
 have h:=b3b (D.A r j)
 (refine ac Tryz.func246 ?_;(conv=>whnf);repeat (refine zy ?_;conv=>whnf))
 repeat' (first|refine zx ?_|refine a0B rfl hr ?_|refine a4f rfl hj ?_|refine zd ?_ ?_<;>intro h<;>try omega|fail)<;>conv=>whnf
 all_goals (refine c9 ?_;simp_all)
theorem an8 (m n:Nat) (fr:List (Nat × Bool)) (D:Fd) (i s:Nat) (hi:i<m) (hs:s<n):
 a8 Tryz.prog 247 (a7 .i64 i::[a5F m n fr D,T.ptr [ti s]].map fun x=>.c (.t x)) [] (d9 (decide (0<D.A i s))) []:=by
 have h:=b3d (D.A i s)
 (refine ac Tryz.func247 ?_;(conv=>whnf);repeat (refine zy ?_;conv=>whnf))
 repeat' (first|refine zx ?_|refine a0B rfl hi ?_|refine a4f rfl hs ?_|refine zd ?_ ?_<;>intro h<;>try omega|fail)<;>conv=>whnf
 all_goals (refine c9 ?_;simp_all)
theorem aZ8 {H:Hp} {ia ir n s:Nat} {a row:Nat->Rat} (hne:ia≠ir) (ga:H[ia]? =some (flB (rF n a))) (gr:H[ir]? =some (flB (rF n row))) (hn:n<=1000) (hs:s<n) (ha:∀j,j<n->rl (a j)<=30000) (hr:∀j,j<n->rl (row j)<=30000):
 a8 Tryz.prog 296 [.c (.own ia 0 n true),.c (.own ir 0 n true),a7 .i64 s] H (.tup []) (H.set ia (flB (rF n (tkA a row s)))):=by
 have la:ia<H.length:=(lbe.1 ga).1
 refine N1 [ia,ir] (b8C n s a row hn hs ha hr) rfl rfl rfl (by simp;exact hne) ?_ ?_ (by simp) rfl rfl (by simp) ?_ ?_
 ·intro i k hk
  match i,hk with
  |0,hk=>injection hk with hk;subst hk;exact ⟨rfl,rfl,I5 _,_,ga,v8 rfl⟩
  |1,hk=>injection hk with hk;subst hk;exact ⟨rfl,rfl,I5 _,_,gr,v8 rfl⟩
 ·intro k hk
  simp at hk
  rcases hk with rfl|rfl<;>(intro h;cases h)
 ·intro i k hk
  match i,hk with
  |0,hk=>
   injection hk with hk;subst hk
   refine ⟨_,?_,v8 rfl⟩
   show (H.set ia _)[ia]? =_
   rw [lbg,if_pos rfl,if_pos la]
  |1,hk=>
   injection hk with hk;subst hk
   refine ⟨_,?_,v8 rfl⟩
   show (H.set ia _)[ir]? =_
   rw [lbg,if_neg hne];exact gr
 ·intro j hj hjn
  simp at hjn
  rw [lbg,if_neg (fun h=>hjn.1 h.symm)]
theorem a20 {b m n i r:Nat} {V:Nat->Rat} {K:List C->Prop} (e:i=r) (h:r<m) (k:K (frC (fz (V r))++[C.own (r+b) 0 n true])):∃row,(P7 b m n V)[i]? =some row∧K row:=by
 subst e;exact ⟨_,a2q h,k⟩
theorem b0k {rows:List (List C)} {i:Nat} {x:List C} {K:List C->Prop} (h:i<rows.length) (k:K x):∃row,(rows.set i x)[i]? =some row∧K row:=⟨x,List.getElem?_set_self h,k⟩
theorem b7h {rows:List (List C)} {i j:Nat} {x:List C} {K:List C->Prop} (h:i≠j) (k:∃row,rows[j]? =some row∧K row):∃row,(rows.set i x)[j]? =some row∧K row:=by
 rw [List.getElem?_set_ne h];exact k
def a3T (a:Nat->Rat) (p:Rat) (s k:Nat):Nat->Rat:=fun j=>if j<k∧j≠s then a j / p else a j
def A1 (D:Fd) (r s k:Nat):Nat->Nat->Rat:=fun i=>if i=r then a3T (D.A r) (D.A r s) s k else D.A i
theorem b9Q {D:Fd} {r s k:Nat}:A1 D r s k r k=D.A r k:=by unfold A1 a3T;rw [if_pos rfl,if_neg (by omega)]
theorem bb1 {D:Fd} {r s k:Nat}:A1 D r s k r s=D.A r s:=by unfold A1 a3T;rw [if_pos rfl,if_neg (by omega)]
theorem b7l {D:Fd} {r s k:Nat} (h:k≠s):(fun i=>if i=r then (fun j=>if j=k then D.A r k / D.A r s else A1 D r s k r j) else A1 D r s k i)=A1 D r s (k+1):=by
 funext i j
 by_cases hi:i=r
 ·subst hi
  simp only [if_true]
  unfold A1 a3T
  simp only [if_true]
  by_cases hj:j=k
  ·subst hj;rw [if_pos rfl,if_pos ⟨by omega,h⟩]
  ·rw [if_neg hj]
   have:(j<k∧j≠s)↔(j<k+1∧j≠s):=by omega
   simp only [this]
 ·rw [if_neg hi];unfold A1;rw [if_neg hi,if_neg hi]
theorem b5J {D:Fd} {r s:Nat}:A1 D r s s=A1 D r s (s+1):=by
 funext i j;unfold A1 a3T
 have:(j<s∧j≠s)↔(j<s+1∧j≠s):=by omega
 split
 ·simp only [this]
 ·rfl
theorem b6i {D:Fd} {r s k:Nat} (h:D.A r k=0):A1 D r s k=A1 D r s (k+1):=by
 funext i j;unfold A1 a3T
 split
 ·show (if j<k∧j≠s then D.A r j / D.A r s else D.A r j)=if j<k+1∧j≠s then D.A r j / D.A r s else D.A r j
  by_cases hj:j=k
  ·subst hj
   rw [if_neg (show ¬(j<j∧j≠s) by omega)]
   split
   ·rw [h];grind
   ·rfl
  ·have:(j<k∧j≠s)↔(j<k+1∧j≠s):=by omega
   simp only [this]
 ·rfl
theorem b0Z {m n r:Nat} {A B:Nat->Nat->Rat} {g:Nat->Rat} (h:r<m) (e:(fun i=>if i=r then g else A i)=B):(mF m n A).set r (rF n g)=mF m n B:=by rw [b36 h,e]
def V1 (D:Fd) (r s:Nat):Nat->Rat:=fun i=>if i=r then D.V r / D.A r s else D.V i
def V2 (D:Fd) (r s k:Nat):Nat->Rat:=fun i=>if i=r then D.V r / D.A r s else if i<k then D.V i - D.A i s*(D.V r / D.A r s) else D.V i
def A2 (D:Fd) (r s k:Nat):Nat->Nat->Rat:=fun i=>if i=r then D.pRow r s else if i<k then tkA (D.A i) (D.pRow r s) s else D.A i
theorem aG3 {a row:Nat->Rat} {s:Nat} (h:a s=0):tkA a row s=a:=by
 funext j;unfold tkA
 by_cases hj:j=s
 ·rw [if_pos hj,hj,h];grind
 ·rw [if_neg hj,h];grind
theorem a0J {m i r:Nat} {f:Nat->Nat} {K:List C->Prop} (e:i=r) (h:r<m) (k:K [C.t (ti (f r))]):∃row,(toC (a0D m f))[i]? =some row∧K row:=by
 subst e;exact ⟨_,by simp [toC,a6a h],k⟩
theorem J3 {α β:Type} {f:β->α} {M:List β} {T:List α} {i:Nat} {x:β} (h:M[i]? =some x):(M.map f++T)[i]? =some (f x):=by
 rw [lbb (by simpa using (lbe.1 h).1),lba,h];rfl
theorem b38 {α β:Type} {f:β->α} {M:List β} {T:List α} {i:Nat} {x:β} (h:i<M.length):(M.map f++T).set i (f x)=(M.set i x).map f++T:=by
 rw [av6 _ _ (by simpa using h),←a2Z]
theorem b5M {m n:Nat} {D:Fd} {r s:Nat} (hr:r<m) (hs:s<n):(mF m n (A1 D r s n)).set r ((rF n (A1 D r s n r)).set s (fz (((1:Int):Rat) / D.A r s)))=mF m n (A2 D r s 0):=by
 rw [X9 hs,b36 hr]
 refine aM5 fun i hi j hj=>?_
 unfold A2
 by_cases hir:i=r
 ·rw [if_pos hir,if_pos hir]
  unfold Fd.pRow A1 a3T
  rw [if_pos rfl]
  by_cases hjs:j=s
  ·rw [if_pos hjs,if_pos hjs];rfl
  ·rw [if_neg hjs,if_neg hjs,if_pos ⟨hj,hjs⟩]
 ·rw [if_neg hir,if_neg hir,if_neg (by omega)];unfold A1;rw [if_neg hir]
theorem b67 {D:Fd} {r s:Nat}:V2 D r s 0=V1 D r s:=by
 funext i;unfold V2 V1;split
 ·rfl
 ·rw [if_neg (by omega)]
theorem b9J {D:Fd} {r s k:Nat}:V2 D r s k r=D.V r / D.A r s:=by unfold V2;rw [if_pos rfl]
theorem b4L {D:Fd} {r s k:Nat} (h:k≠r):V2 D r s k k=D.V k:=by unfold V2;rw [if_neg h,if_neg (by omega)]
theorem ba4 {D:Fd} {r s k:Nat}:A2 D r s k r=D.pRow r s:=by unfold A2;rw [if_pos rfl]
theorem b7x {D:Fd} {r s k:Nat} (h:k≠r):A2 D r s k k=D.A k:=by unfold A2;rw [if_neg h,if_neg (by omega)]
theorem b0K {D:Fd} {r s k:Nat} (h:k≠r):(fun i=>if i=k then D.V k - D.A k s*(D.V r / D.A r s) else V2 D r s k i)=V2 D r s (k+1):=by
 funext i
 by_cases hi:i=k
 ·subst hi;rw [if_pos rfl];unfold V2;rw [if_neg h,if_pos (by omega)]
 ·rw [if_neg hi];unfold V2
  have:(i<k)↔(i<k+1):=by omega
  simp only [this]
theorem b0h {D:Fd} {r s k:Nat} (h:k≠r):(fun i=>if i=k then tkA (D.A k) (D.pRow r s) s else A2 D r s k i)=A2 D r s (k+1):=by
 funext i
 by_cases hi:i=k
 ·subst hi;rw [if_pos rfl];unfold A2;rw [if_neg h,if_pos (by omega)]
 ·rw [if_neg hi];unfold A2
  have:(i<k)↔(i<k+1):=by omega
  simp only [this]
theorem b5U {D:Fd} {r s:Nat}:V2 D r s r=V2 D r s (r+1):=by
 funext i;unfold V2
 by_cases h:i=r
 ·rw [if_pos h,if_pos h]
 ·have:(i<r)↔(i<r+1):=by omega
  simp only [this]
theorem b70 {D:Fd} {r s:Nat}:A2 D r s r=A2 D r s (r+1):=by
 funext i;unfold A2
 by_cases h:i=r
 ·rw [if_pos h,if_pos h]
 ·have:(i<r)↔(i<r+1):=by omega
  simp only [this]
theorem b62 {D:Fd} {r s k:Nat} (h:k≠r) (hz:D.A k s=0):V2 D r s k=V2 D r s (k+1):=by
 rw [← b0K h,hz];funext i
 by_cases hi:i=k
 ·subst hi;rw [if_pos rfl,b4L h];grind
 ·rw [if_neg hi]
theorem b7t {D:Fd} {r s k:Nat} (h:k≠r) (hz:D.A k s=0):A2 D r s k=A2 D r s (k+1):=by
 rw [← b0h h,aG3 hz];funext i
 by_cases hi:i=k
 ·subst hi;rw [if_pos rfl,b7x h]
 ·rw [if_neg hi]
theorem b8j {D:Fd} {r s m i:Nat} (h:i<m):V2 D r s m i=(D.exch r s).V i:=by
 unfold V2 Fd.exch;simp only
 split
 ·rfl
 ·first|rfl|rw [if_pos h]
theorem b7Y {D:Fd} {r s m i j:Nat} (h:i<m):A2 D r s m i j=(D.exch r s).A i j:=by
 unfold A2 Fd.exch;simp only
 split
 ·rfl
 ·first|rfl|(rw [if_pos h];rfl)
abbrev I2 (m n:Nat) (fr:List (Nat × Bool)) (V:Nat->Rat) (G:Nat->Rat) (O F:Nat->Nat) (A:Nat->Nat->Rat) (T:Hp):Hp:=
 aY5 m n fr.length::a0t 6 m n V::flB (rF n G)::X3 m O::X3 n F::a19 fr::((mF m n A).map flB++T)
structure BdD (m n B:Nat) (D:Fd):Prop where
 v:∀i,i<m->rl (D.V i)<=B
 a:∀i,i<m->∀j,j<n->rl (D.A i j)<=B
 g:∀j,j<n->rl (D.G j)<=B
theorem aW4 {b m n r i:Nat} {V:Nat->Rat} {x:List C} {v:Rat} (e:i=r) (h:r<m) (hx:x=frC (fz v)++[C.own (r+b) 0 n true]):(P7 b m n V).set i x=P7 b m n (fun i=>if i=r then v else V i):=by
 subst e hx;exact b1r h
theorem aN3 {m n:Nat} {fr:List (Nat × Bool)} {V G:Nat->Rat} {O F:Nat->Nat} {A:Nat->Nat->Rat} {T T':Hp}:I2 m n fr V G O F A (T++T')=I2 m n fr V G O F A T++T':=by
 show aY5 m n fr.length::a0t 6 m n V::flB (rF n G)::X3 m O::X3 n F::a19 fr::((mF m n A).map flB++(T++T'))=aY5 m n fr.length::a0t 6 m n V::flB (rF n G)::X3 m O::X3 n F::a19 fr::(((mF m n A).map flB++T)++T')
 rw [lbD]
theorem a6g {m n:Nat} {fr:List (Nat × Bool)} {V G:Nat->Rat} {O F:Nat->Nat} {A:Nat->Nat->Rat} {T:Hp}:(I2 m n fr V G O F A T).length=m+6+T.length:=by simp [b8];omega
theorem b0T {m n N:Nat} {fr:List (Nat × Bool)} {V G:Nat->Rat} {O F:Nat->Nat} {A:Nat->Nat->Rat} {T:Hp} (h:m+6<=N) (hT:∀k ∈ T,okB N k):∀k ∈ I2 m n fr V G O F A T,okB N k:=by
 intro k hk
 simp only [lbA,lbz] at hk
 rcases hk with rfl|rfl|rfl|rfl|rfl|rfl|hk|hk
 ·exact b14 (by omega)
 ·exact ae3 h
 ·exact G5 rfl
 ·exact G5 rfl
 ·exact G5 rfl
 ·exact G5 rfl
 ·obtain ⟨l,_,rfl⟩:=lbx.1 hk
  exact G5 rfl
 ·exact hT k hk
theorem S4 {n0 N m n:Nat} {fr:List (Nat × Bool)} {V G:Nat->Rat} {O F:Nat->Nat} {A:Nat->Nat->Rat} {T T' H:Hp} {env env':Env} (hH:H=I2 m n fr V G O F A (T++T')) (hN:m+6+T.length=N) (h0:n0<=N) (hT:∀k ∈ T,okB N k)
 (hE:a2x (idR N) H env env'):Ent n0 (idR N) env H env' (I2 m n fr V G O F A T):=by
 refine ao2 (by rw [a6g];exact hN) h0 (b0T (by omega) hT) (fun i hi=>?_) hE
 rw [hH,aN3,lbb (by rw [a6g];omega)]
theorem a9T {n0 N m n:Nat} {fr:List (Nat × Bool)} {V G:Nat->Rat} {O F:Nat->Nat} {A:Nat->Nat->Rat} {T H:Hp} {r s:S} (hH:H=I2 m n fr V G O F A T) (hN:m+6=N) (h0:n0<=N) (hE:aj7 (idR N) H r s):
 Fin n0 r H s (I2 m n fr V G O F A []):=by
 refine ar9 (by rw [a6g];exact hN) h0 (b0T (by omega) (by simp)) (fun i hi=>?_) hE
 have e:I2 m n fr V G O F A T=I2 m n fr V G O F A []++T:=aN3 (T:=[]) (T':=T)
 rw [hH,e,lbb (by rw [a6g];simp;omega)]
theorem a0N {b0 b1 b2 b3 b4 b5 c0 c1 c2 c3 c4 c5:Blk} {L L':Hp} (h0:b0=c0) (h1:b1=c1) (h2:b2=c2) (h3:b3=c3) (h4:b4=c4) (h5:b5=c5) (h6:L=L'):b0::b1::b2::b3::b4::b5::L=c0::c1::c2::c3::c4::c5::L':=by
 subst h0 h1 h2 h3 h4 h5 h6;rfl
theorem am4 {b m n r i:Nat} {V V':Nat->Rat} {x:List C} {v:Rat} (e:i=r) (h:r<m) (hx:x=frC (fz v)++[C.own (r+b) 0 n true]) (hV:(fun i=>if i=r then v else V i)=V'):w6 (a0t b m n V) ((a0t b m n V).rows.set i x)=a0t b m n V':=by
 have:=aW4 (V:=V) e h hx
 subst hV
 unfold w6
 simp only [this]
theorem a6D {m r i v:Nat} {O:Nat->Nat} (e:i=r) (h:r<m):w6 (X3 m O) ((X3 m O).rows.set i [C.t (ti v)])=X3 m (fun i=>if i=r then v else O i):=by
 subst e
 have:(toC (a0D m O)).set i [C.t (ti v)]=toC (a0D m (fun j=>if j=i then v else O j)):=by
  rw [← b5b h];simp [toC,a2Z]
 unfold w6
 simp only [this]
theorem az4 {N:Nat} {x:Rat}:okB N (frX x):=G5 (rows:=[n7 (fz x)]) rfl
theorem aV6 (m n:Nat) (fr:List (Nat × Bool)) (D:Fd) (r s:Nat) (hm:m<=100000) (hn:n<=1000) (hr:r<m) (hs:s<n) (hp:D.A r s≠0) (hB:BdD m n 30000 D) (hB':BdD m n 30000 (D.exch r s)):
 a8 Tryz.prog 248 [.c (.ptr 0 0 0),a7 .i64 r,a7 .i64 s] (Y8 m n fr D) (.tup []) (Y8 m n fr (D.exch r s)):=by
 have eR:0+(r:Int).toNat=r:=by omega
 have eS:0+(s:Int).toNat=s:=by omega
 have gA:(mF m n D.A)[r]? =some (rF n (D.A r)):=O3 hr
 have gs:(rF n (D.A r))[0+(s:Int).toNat]? =some (fz (D.A r s)):=by rw [eS,I1 hs]
 have bp:=hB.a r hr s hs
 have ov:=aQ0 (D.V r) (D.A r s) hp (by have:=hB.v r hr;omega) (by omega)
 (refine ac Tryz.func248 ?_;(conv=>whnf);repeat (refine zy ?_;conv=>whnf))
 repeat' (first|refine zx ?_|refine qp ov ?_|refine qp C5 ?_|refine aK9 (b8 _ _ _) ?_|refine G2 ?_|refine a92 ?_|refine a20 eR hr ?_|refine b3F gA ?_|refine a01 gA ?_|refine F7 (b8 _ _ _) ?_|refine b1w (b8 _ _ _) ?_|refine o7 gs ?_|refine b0k (by show _<(P7 _ _ _ _).length;rw [C5];omega) ?_|refine zd ?_ ?_<;>intro h<;>try omega|fail)<;>conv=>whnf
 refine g8 b9 (fun k=>([S.c (C.ptr 0 0 0),a7 .i64 r,a7 .i64 s,J,J,J,S.c (C.ptr 1 r 0),S.c (C.ptr (m+6) 0 0)]++Jn 29++[a7 .i64 n,a7 .i64 k]++Jn 144,I2 m n fr (V1 D r s) D.G D.O D.F (A1 D r s k) [frX (D.A r s)])) n (fun _=>True) (idR (m+7)) trivial ?_ ?_
 ·refine S4 (T':=[]) ?_ rfl (by simp [b8]) (by intro k hk;simp at hk;subst hk;exact az4) ?_
  ·refine a0N rfl (am4 eR hr rfl rfl) rfl rfl rfl rfl ?_
   have:A1 D r s 0=D.A:=by funext i j;unfold A1 a3T;split<;>simp_all
   rw [this];rfl
  ·exact ⟨⟨k7 (by omega),rfl,rfl⟩,rfl,rfl,⟨k7 (by omega),eR,rfl⟩,⟨k7 (by omega),rfl,rfl⟩,c7 (by omega),c7 rfl,trivial⟩
 intro k hk _
 have gA1:(mF m n (A1 D r s k))[r]? =some (rF n (A1 D r s k r)):=O3 hr
 have lA:r<(mF m n (A1 D r s k)).length:=by rw [b8];exact hr
 by_cases hlt:k<n
 ·have eK:0+(k:Int).toNat=k:=by omega
  have gk:(rF n (A1 D r s k r))[0+(k:Int).toNat]? =some (fz (D.A r k)):=by rw [eK,I1 hlt,b9Q]
  have bk:=hB.a r hr k hlt
  have ze:=ac8 (D.A r k)
  have ovk:=aQ0 (D.A r k) (D.A r s) hp (by omega) (by omega)
  by_cases hks:k=s
  ·subst hks
   conv=>whnf
   repeat' (first|refine zx ?_|refine qp ze ?_|refine qp ovk ?_|refine j3 (b8 _ _ _) ?_|refine G2 ?_|refine i9 ?_|refine a20 rfl hr ?_|refine a01 gA1 ?_|refine F7 (b8 _ _ _) ?_|refine o7 gk ?_|refine zd ?_ ?_<;>intro h<;>try omega|fail)<;>conv=>whnf
   all_goals first
    |omega
    |exact ⟨hlt,trivial,idR (m+7),S4 (T':=[]) (a0N rfl rfl rfl rfl rfl rfl (by rw [← b5J];rfl)) rfl (by simp [b8]) (by intro k hk;simp at hk;subst hk;exact az4) ⟨⟨k7 (by omega),rfl,rfl⟩,rfl,rfl,⟨k7 (by omega),rfl,rfl⟩,⟨k7 (by omega),rfl,rfl⟩,rfl,c7 (by omega),trivial⟩⟩
  ·by_cases hz:D.A r k=0
   ·rw [lbH hz] at ze
    conv=>whnf
    repeat' (first|refine zx ?_|refine qp ze ?_|refine qp ovk ?_|refine j3 (b8 _ _ _) ?_|refine G2 ?_|refine i9 ?_|refine a20 rfl hr ?_|refine a01 gA1 ?_|refine F7 (b8 _ _ _) ?_|refine o7 gk ?_|refine zd ?_ ?_<;>intro h<;>try omega|fail)<;>conv=>whnf
    all_goals first
     |omega
     |exact ⟨hlt,trivial,idR (m+7),S4 (T':=[]) (a0N rfl rfl rfl rfl rfl rfl (by rw [← b6i hz];rfl)) rfl (by simp [b8]) (by intro k hk;simp at hk;subst hk;exact az4) ⟨⟨k7 (by omega),rfl,rfl⟩,rfl,rfl,⟨k7 (by omega),rfl,rfl⟩,⟨k7 (by omega),rfl,rfl⟩,rfl,c7 (by omega),trivial⟩⟩
   ·rw [lbJ hz] at ze
    conv=>whnf
    repeat' (first|refine zx ?_|refine qp ze ?_|refine qp ovk ?_|refine j3 (b8 _ _ _) ?_|refine G2 ?_|refine i9 ?_|refine a20 rfl hr ?_|refine a01 gA1 ?_|refine F7 (b8 _ _ _) ?_|refine o7 gk ?_|refine an4 lA (K7 (y:=fz (D.A r k / D.A r s)) eK) ?_|refine zd ?_ ?_<;>intro h<;>try omega|fail)<;>conv=>whnf
    all_goals first
     |omega
     |exact ⟨hlt,trivial,idR (m+7),S4 (T':=[]) (a0N rfl rfl rfl rfl rfl rfl (by rw [X9 hlt,b0Z hr (b7l hks)];rfl)) rfl (by simp [b8]) (by intro k hk;simp at hk;subst hk;exact az4) ⟨⟨k7 (by omega),rfl,rfl⟩,rfl,rfl,⟨k7 (by omega),rfl,rfl⟩,⟨k7 (by omega),rfl,rfl⟩,rfl,c7 (by omega),trivial⟩⟩
 ·have hke:k=n:=by omega
  subst hke
  have gs1:(rF k (A1 D r s k r))[0+(s:Int).toNat]? =some (fz (D.A r s)):=by rw [eS,I1 hs,bb1]
  have i1:=H4 1 (by decide) (by decide)
  have ov1:=aQ0 ((1:Int):Rat) (D.A r s) hp (by have:=rl1;show rl 1<=_;omega) (by omega)
  conv=>whnf
  repeat' (first|refine zx ?_|refine qp i1 ?_|refine qp ov1 ?_|refine j3 (b8 _ _ _) ?_|refine G2 ?_|refine i9 ?_|refine a20 rfl hr ?_|refine a01 gA1 ?_|refine F7 (b8 _ _ _) ?_|refine o7 gs1 ?_|refine an4 lA (K7 (y:=fz (((1:Int):Rat) / D.A r s)) eS) ?_|refine zd ?_ ?_<;>intro h<;>try omega|fail)<;>conv=>whnf
  all_goals try omega
  refine g8 b9 (fun q=>([S.c (C.ptr 0 0 0),a7 .i64 r,a7 .i64 s,J,J,J,S.c (C.ptr 1 r 0)]++Jn 77++[a7 .i64 m,a7 .i64 q]++Jn 97,I2 m k fr (V2 D r s q) D.G D.O D.F (A2 D r s q) [])) m (fun _=>True) (idR (m+6)) trivial ?_ ?_
  ·refine S4 (T:=[]) (T':=[frX (D.A r s)]) (a0N rfl (by rw [b67]) rfl rfl rfl rfl (by rw [b5M hr hs];rfl)) rfl (by simp [b8]) (by simp) ⟨⟨k7 (by omega),rfl,rfl⟩,rfl,rfl,⟨k7 (by omega),rfl,rfl⟩,c7 (by omega),c7 rfl,trivial⟩
  have eP:∀j,(D.exch r s).A r j=D.pRow r s j:=fun j=>by show (if r=r then _ else _)=_;rw [if_pos rfl]
  have har:∀j,j<k->rl (D.pRow r s j)<=30000:=fun j hj=>by rw [← eP];exact hB'.a r hr j hj
  intro q hq _
  have gAr:(mF m k (A2 D r s q))[r]? =some (rF k (D.pRow r s)):=by rw [O3 hr,ba4]
  by_cases hqm:q<m
  ·have eQ:0+(q:Int).toNat=q:=by omega
   have lQ:q<(mF m k (A2 D r s q)).length:=by rw [b8];exact hqm
   have ze:=ac8 (D.A q s)
   by_cases hqr:q=r
   ·subst hqr
    conv=>whnf
    repeat' (first|refine zx ?_|refine j3 (b8 _ _ _) ?_|refine G2 ?_|refine i9 ?_|refine zd ?_ ?_<;>intro h<;>try omega|fail)<;>conv=>whnf
    all_goals first
     |omega
     |exact ⟨hqm,trivial,idR (m+6),S4 (T:=[]) (T':=[]) (a0N rfl (by rw [← b5U]) rfl rfl rfl rfl (by rw [← b70];rfl)) rfl (by simp [b8]) (by simp) ⟨⟨k7 (by omega),rfl,rfl⟩,rfl,rfl,⟨k7 (by omega),rfl,rfl⟩,rfl,c7 (by omega),trivial⟩⟩
   ·have gAq:(mF m k (A2 D r s q))[q]? =some (rF k (D.A q)):=by rw [O3 hqm,b7x hqr]
    have gqs:(rF k (D.A q))[0+(s:Int).toNat]? =some (fz (D.A q s)):=by rw [eS,I1 hs]
    by_cases hz:D.A q s=0
    ·rw [lbH hz] at ze
     conv=>whnf
     repeat' (first|refine zx ?_|refine qp ze ?_|refine j3 (b8 _ _ _) ?_|refine G2 ?_|refine i9 ?_|refine a20 eQ hqm ?_|refine a01 gAq ?_|refine o7 gqs ?_|refine zd ?_ ?_<;>intro h<;>try omega|fail)<;>conv=>whnf
     all_goals first
      |omega
      |exact ⟨hqm,trivial,idR (m+6),S4 (T:=[]) (T':=[]) (a0N rfl (by rw [← b62 hqr hz]) rfl rfl rfl rfl (by rw [← b7t hqr hz];rfl)) rfl (by simp [b8]) (by simp) ⟨⟨k7 (by omega),rfl,rfl⟩,rfl,rfl,⟨k7 (by omega),rfl,rfl⟩,rfl,c7 (by omega),trivial⟩⟩
    ·rw [lbJ hz] at ze
     have b1:=hB.v q hqm
     have b2:=hB.a q hqm s hs
     have b3:=hB'.v r hr
     have haq:∀j,j<k->rl (D.A q j)<=30000:=hB.a q hqm
     have le:=aV7 (V2 D r s q q) (D.A q s) (V2 D r s q r) (by rw [b4L hqr];omega) (by omega) (by rw [b9J];have e:(D.exch r s).V r=D.V r / D.A r s:=(by show (if r=r then _ else _)=_;rw [if_pos rfl]);rw [← e];omega)
     conv=>whnf
     repeat' (first|refine zx ?_|refine qp ze ?_|refine qp le ?_|refine qp C5 ?_|refine j3 (b8 _ _ _) ?_|refine G2 ?_|refine i9 ?_|refine a20 eQ hqm ?_|refine a20 rfl hr ?_|refine a01 gAq ?_|refine o7 gqs ?_|refine b0k (by show _<(P7 _ _ _ _).length;rw [C5];omega) ?_|refine b7h (by omega) (a20 rfl hr ?_)|refine .inr ⟨_,_,aZ8 (ia:=q+6) (ir:=r+6) (by omega) (J3 gAq) (J3 gAr) hn hs haq har,?_⟩|refine zd ?_ ?_<;>intro h<;>try omega|fail)<;>conv=>whnf
     all_goals first
      |omega
      |exact ⟨hqm,trivial,idR (m+6),S4 (T:=[]) (T':=[]) (a0N rfl (am4 (v:=V2 D r s q q - D.A q s*V2 D r s q r) eQ hqm rfl (by rw [b4L hqr,b9J];exact b0K hqr)) rfl rfl rfl rfl (by rw [b38 lQ,b0Z hqm (b0h hqr)];rfl)) rfl (by simp [b8]) (by simp) ⟨⟨k7 (by omega),rfl,rfl⟩,rfl,rfl,⟨k7 (by omega),rfl,rfl⟩,rfl,c7 (by omega),trivial⟩⟩
  ·have hqe:q=m:=by omega
   subst hqe
   have ggs:(rF k D.G)[0+(s:Int).toNat]? =some (fz (D.G s)):=by rw [eS,I1 hs]
   have ze:=ac8 (D.G s)
   have eL:a0t 6 q k (V2 D r s q)=a0t 6 q k (D.exch r s).V:=by
    have:P7 6 q k (V2 D r s q)=P7 6 q k (D.exch r s).V:=lbp fun i hi=>by rw [b8j (lbB.1 hi)]
    unfold a0t;rw [this]
   have eA:mF q k (A2 D r s q)=mF q k (D.exch r s).A:=aM5 fun i hi j _=>b7Y hi
   have eO:a0D q (fun i=>if i=r then D.F s else D.O i)=a0D q (D.exch r s).O:=rfl
   have eF:a0D k (fun j=>if j=s then D.O r else D.F j)=a0D k (D.exch r s).F:=rfl
   have e0:Y8 q k fr (D.exch r s)=I2 q k fr (D.exch r s).V (D.exch r s).G (D.exch r s).O (D.exch r s).F (D.exch r s).A []:=by
    show _::_::_::_::_::_::_=_::_::_::_::_::_::(_++[])
    rw [R7]
   by_cases hz:D.G s=0
   ·have eG:(D.exch r s).G=D.G:=by have:=aG3 (row:=D.pRow r s) hz;exact this
    rw [lbH hz] at ze
    conv=>whnf
    repeat' (first|refine zx ?_|refine qp ze ?_|refine qp 9 ?_|refine j3 (b8 _ _ _) ?_|refine G2 ?_|refine i9 ?_|refine o7 ggs ?_|refine a0J eR hr ?_|refine a0J eS hs ?_|refine bl0 [9] ?_|refine zd ?_ ?_<;>intro h<;>try omega|fail)<;>conv=>whnf
    all_goals first
     |omega
     |(rw [e0];exact a9T (T:=[]) (a0N rfl eL (by rw [eG]) (a6D eR hr) (a6D eS hs) rfl (by rw [eA])) rfl (by simp [b8]) trivial)
   ·have eG:(D.exch r s).G=tkA D.G (D.pRow r s) s:=rfl
    rw [lbJ hz] at ze
    conv=>whnf
    repeat' (first|refine zx ?_|refine qp ze ?_|refine qp 9 ?_|refine j3 (b8 _ _ _) ?_|refine G2 ?_|refine i9 ?_|refine o7 ggs ?_|refine a20 rfl hr ?_|refine a0J eR hr ?_|refine a0J eS hs ?_|refine bl0 [9] ?_|refine .inr ⟨_,_,aZ8 (ia:=2) (ir:=r+6) (by omega) rfl (J3 gAr) hn hs hB.g har,?_⟩|refine zd ?_ ?_<;>intro h<;>try omega|fail)<;>conv=>whnf
    all_goals first
     |omega
     |(rw [e0];exact a9T (T:=[]) (a0N rfl eL (by rw [eG]) (a6D eR hr) (a6D eS hs) rfl (by rw [eA])) rfl (by simp [b8]) trivial)
end Go.Proofs.YtaejgdbahjjncaaGreat
