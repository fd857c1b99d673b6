/- Part 6. -/
import Derived.Test.YtdbogogfeffjlaaGreatQs5
namespace Go.Proofs.YtdbogogfeffjlaaGreat
set_option linter.unusedVariables false
set_option linter.unusedSimpArgs false
set_option maxRecDepth 100000
open Go.RowKit
open St1 St2 St3 St4 St5 St6 St7 St8
theorem a2N (b:Bg) (hl:b.dl.length<=1000000):a9 Tryz.prog 180 [bgS b] [] (d6 (H7 b)) []:=by
 have l2:(b.dl.map e7).length=b.dl.length:=by simp
 (refine ac Tryz.func180 ?_;(conv=>whnf);repeat ((first|refine b0x ?_|refine zy ?_);conv=>whnf))
 repeat' (first|refine zz ?_|refine zd ?_ ?_<;>intro h<;>try omega|refine zy ?_|fail)<;>conv=>whnf
 refine d7 c8 (fun k=>([J,S.c (C.t (T.ptr [ti b.sg,I1 b.dl])),J,a7 .i64 k,J,J,J,J,J,J,J,J,J,J,J,J,J,J,J,J,J,J,J,J,J,J,J,J,J,J,J,J,J,J,J,J,J,J,J,J,J,J,J,J,J,J,J,J,J,J,J,J,J,J,J,J],[])) b.dl.length (fun k=>(b.dl.take k).all inD=true) [] rfl
  ⟨rfl,rfl,trivial,⟨g7 rfl,rfl,trivial⟩⟩ ?_
 intro k hk hI
 by_cases hlt:k<b.dl.length
 ·conv=>whnf
  repeat' (first|refine zz ?_|refine b9 (s7 (by omega)) ?_|refine zd ?_ ?_<;>intro h<;>try omega|refine zy ?_|fail)<;>conv=>whnf
  all_goals first
   |omega
   |exact ⟨hlt,by rw [n6 (s7 hlt),hI];simp [inD];omega,[],rfl,rfl,trivial,⟨rfl,rfl,trivial⟩⟩
   |(refine b7 ?_;unfold H7;rw [t7 (s7 hlt) (by simp [inD];omega)];rfl)
 ·have hke:k=b.dl.length:=by omega
  subst hke
  have ha:b.dl.all inD=true:=by rw [← hI,lg4 (by omega)]
  have hgl:0<b.dl.length->b.dl[((((b.dl.map e7).length:Nat):Int) - 1).toNat]? =some (dat b.dl (b.dl.length - 1)):=fun h=>by rw [l2];exact a6p h
  conv=>whnf
  repeat' (first|refine zz ?_|refine p9 (by omega) (hgl (by omega)) ?_|refine zd ?_ ?_<;>intro h<;>try omega|refine zy ?_|fail)<;>conv=>whnf
  all_goals first
   |omega
   |(exfalso;simp_all;done)
   |(exfalso;simp_all;omega)
   |skip
  all_goals
   refine b7 ?_
   unfold H7
   rw [ha]
   by_cases hz:b.dl.length=0
   ·rw [if_pos hz];simp_all<;>omega
   ·rw [if_neg hz];simp_all<;>omega
theorem a0i (x:Int) (lx:bl x<=300000):a9 Tryz.prog 180 [bgS (bz x)] [] (d6 true) []:=by
 have:=a2N (bz x) (show bl x<=1000000 by omega)
 rw [Y8] at this
 exact this
theorem b6X (n:Int) (h0:-9223372036854775808<=n) (h1:n<=9223372036854775807):a9 Tryz.prog 176 [a7 .i64 n] [] (bgS (bz n)) []:=by
 rcases Int.lt_trichotomy n 0 with hn|hn|hn
 ·(refine ac Tryz.func176 ?_;(conv=>whnf);repeat (refine zy ?_;conv=>whnf))
  repeat' (first|refine zz ?_|refine zd ?_ ?_<;>intro h<;>try omega|refine zy ?_|fail)<;>conv=>whnf
  all_goals try omega
  refine k5 c8 (σ:=List Int × Nat) (fun|(acc,u)=>([a7 .i64 (- (u:Int)),J,S.c (C.ptr 0 0 0),a7 .i64 (-1),a0G 1 acc,J,J,J,J,J,J,J,J,J,J,J,J,J,J,J,J,J,J,J,J,J,J,J],[b1k,o5 acc])) (fun s=>OfI n s.1 s.2) (fun s=>s.2) ([],n.natAbs) [some 0,none]
   ⟨rfl⟩ ⟨rfl,rfl,⟨⟨rfl,rfl,rfl,.inl ⟨rfl,T1⟩⟩,⟨rfl,rfl⟩,trivial⟩,⟨c6 (by omega),⟨rfl,rfl,rfl⟩,rfl,⟨rfl,rfl,rfl⟩,trivial⟩⟩ ?_
  rintro ⟨acc,u⟩ hI
  have hI:OfI n acc u:=hI
  have hl:=hI.len h0 h1
  have hu:=hI.le
  have hm:(- (u:Int)).tmod 1048576=- ((u:Int) % 1048576):=by
   first
    |exact Int.tmod_eq_emod_of_nonneg (by omega)
    |(rw [Int.neg_tmod,Int.tmod_eq_emod_of_nonneg (by omega)])
  have hd:(- (u:Int)).tdiv 1048576=- ((u / 1048576:Nat):Int):=by
   first
    |(rw [Int.tdiv_eq_ediv_of_nonneg (by omega)];simp;done)
    |(rw [Int.neg_tdiv,Int.tdiv_eq_ediv_of_nonneg (by omega)];simp)
  by_cases hu0:0<u
  ·have hst:=hI.step hu0
   conv=>whnf
   repeat' (first|refine zz ?_|refine qp toC ?_|refine qp toC ?_|refine o6 (by simp [toC]) (by simp [toC];omega) ?_|refine ⟨by decide,_,B3 hd (by omega) (by omega),?_⟩|refine ah5 (by decide) ?_|refine zd ?_ ?_<;>intro h<;>try omega|refine zy ?_|fail)<;>conv=>whnf
   all_goals try omega
   all_goals
    refine ⟨[some 0,some 2],(acc++[(u:Int) % 1048576],u / 1048576),⟨rfl,rfl,⟨⟨rfl,rfl,rfl,.inl ⟨rfl,T1⟩⟩,a8 rfl rfl rfl ?_ rfl,trivial⟩,⟨c6 rfl,⟨rfl,rfl,rfl⟩,rfl,j8 rfl (by simp [toC]),trivial⟩⟩,hst,by show u / 1048576<u;omega⟩
    have e:∀y:Int,y=(u:Int) % 1048576->(toC (acc.map e7)).take acc.length++toC [[ti y]]=toC ((acc++[(u:Int) % 1048576]).map e7):=fun y hy=>by rw [hy];exact a16
    exact e _ (by omega)
  ·have h0u:u=0:=by omega
   subst h0u
   have e:acc=dg n.natAbs:=by have:=hI.eq;rw [U0,List.append_nil] at this;exact this
   have sg:=H9 (-1) n.natAbs (by omega) (by rw [← e];omega)
   rw [← e,show (-1)*(n.natAbs:Int)=n by omega] at sg
   conv=>whnf
   repeat' (first|refine zz ?_|refine qp 1 ?_|refine .inr ⟨_,_,u7 [1] sg ⟨ae2,a0I (s8 (by simp) rfl (by intro h;cases h) rfl rfl (by simp)),trivial⟩ rfl,?_⟩|refine zd ?_ ?_<;>intro h<;>try omega|refine zy ?_|fail)<;>conv=>whnf
   all_goals try omega
   exact j2 ⟨rfl,rfl,trivial⟩
 ·subst hn
  (refine ac Tryz.func176 ?_;(conv=>whnf);repeat (refine zy ?_;conv=>whnf))
  repeat' (first|refine zz ?_|refine zd ?_ ?_<;>intro h<;>try omega|refine zy ?_|fail)<;>conv=>whnf
  all_goals first
   |omega
   |exact j2 ⟨rfl,rfl,trivial⟩
 ·(refine ac Tryz.func176 ?_;(conv=>whnf);repeat (refine zy ?_;conv=>whnf))
  repeat' (first|refine zz ?_|refine zd ?_ ?_<;>intro h<;>try omega|refine zy ?_|fail)<;>conv=>whnf
  all_goals try omega
  refine k5 c8 (σ:=List Int × Nat) (fun|(acc,u)=>([a7 .i64 ((u:Int)),J,S.c (C.ptr 0 0 0),a7 .i64 (1),a0G 1 acc,J,J,J,J,J,J,J,J,J,J,J,J,J,J,J,J,J,J,J,J,J,J,J],[b1k,o5 acc])) (fun s=>OfI n s.1 s.2) (fun s=>s.2) ([],n.natAbs) [some 0,none]
   ⟨rfl⟩ ⟨rfl,rfl,⟨⟨rfl,rfl,rfl,.inl ⟨rfl,T1⟩⟩,⟨rfl,rfl⟩,trivial⟩,⟨c6 (by omega),⟨rfl,rfl,rfl⟩,rfl,⟨rfl,rfl,rfl⟩,trivial⟩⟩ ?_
  rintro ⟨acc,u⟩ hI
  have hI:OfI n acc u:=hI
  have hl:=hI.len h0 h1
  have hu:=hI.le
  have hm:((u:Int)).tmod 1048576=((u:Int) % 1048576):=by
   first
    |exact Int.tmod_eq_emod_of_nonneg (by omega)
    |(rw [Int.neg_tmod,Int.tmod_eq_emod_of_nonneg (by omega)])
  have hd:((u:Int)).tdiv 1048576=((u / 1048576:Nat):Int):=by
   first
    |(rw [Int.tdiv_eq_ediv_of_nonneg (by omega)];simp;done)
    |(rw [Int.neg_tdiv,Int.tdiv_eq_ediv_of_nonneg (by omega)];simp)
  by_cases hu0:0<u
  ·have hst:=hI.step hu0
   conv=>whnf
   repeat' (first|refine zz ?_|refine qp toC ?_|refine qp toC ?_|refine o6 (by simp [toC]) (by simp [toC];omega) ?_|refine ⟨by decide,_,B3 hd (by omega) (by omega),?_⟩|refine ah5 (by decide) ?_|refine zd ?_ ?_<;>intro h<;>try omega|refine zy ?_|fail)<;>conv=>whnf
   all_goals try omega
   all_goals
    refine ⟨[some 0,some 2],(acc++[(u:Int) % 1048576],u / 1048576),⟨rfl,rfl,⟨⟨rfl,rfl,rfl,.inl ⟨rfl,T1⟩⟩,a8 rfl rfl rfl ?_ rfl,trivial⟩,⟨c6 rfl,⟨rfl,rfl,rfl⟩,rfl,j8 rfl (by simp [toC]),trivial⟩⟩,hst,by show u / 1048576<u;omega⟩
    have e:∀y:Int,y=(u:Int) % 1048576->(toC (acc.map e7)).take acc.length++toC [[ti y]]=toC ((acc++[(u:Int) % 1048576]).map e7):=fun y hy=>by rw [hy];exact a16
    exact e _ (by omega)
  ·have h0u:u=0:=by omega
   subst h0u
   have e:acc=dg n.natAbs:=by have:=hI.eq;rw [U0,List.append_nil] at this;exact this
   have sg:=H9 (1) n.natAbs (by omega) (by rw [← e];omega)
   rw [← e,show (1)*(n.natAbs:Int)=n by omega] at sg
   conv=>whnf
   repeat' (first|refine zz ?_|refine qp 1 ?_|refine .inr ⟨_,_,u7 [1] sg ⟨ae2,a0I (s8 (by simp) rfl (by intro h;cases h) rfl rfl (by simp)),trivial⟩ rfl,?_⟩|refine zd ?_ ?_<;>intro h<;>try omega|refine zy ?_|fail)<;>conv=>whnf
   all_goals try omega
   exact j2 ⟨rfl,rfl,trivial⟩
theorem b6K (x y:Int) (lx:bl x<=200000) (ly:bl y<=200000):a9 Tryz.prog 181 [bgS (bz x),bgS (bz y)] [] (.tup [bgS (bz (Int.gcd x y)),a7 .i64 0]) []:=by
 have r1:=a0i x (by omega)
 have r2:=a0i y (by omega)
 (refine ac Tryz.func181 ?_;(conv=>whnf);repeat (refine zy ?_;conv=>whnf))
 repeat' (first|refine zz ?_|refine qp r1 ?_|refine qp r2 ?_|refine zd ?_ ?_<;>intro h<;>try omega|refine zy ?_|fail)<;>conv=>whnf
 all_goals first
  |(exfalso;simp_all;done)
  |skip
 refine k5 c8 (σ:=Nat × Nat) (fun|(X,Y)=>([J,J,J,J,S.c (C.ptr 0 0 0),J,d9 (dg X),d9 (dg Y),J,J,J,J,J,J,J,J,J,J,J,J,J,J,J,J,J,J,J,J,J,J,J,J,J,J,J,J],[b1k])) (fun s=>b6f x y s.1 s.2) (fun s=>s.2) (x.natAbs,y.natAbs) [some 2]
  ⟨rfl,lx,ly⟩ ⟨rfl,rfl,⟨⟨rfl,rfl,rfl,.inl ⟨rfl,T1⟩⟩,trivial⟩,⟨⟨rfl,rfl,rfl⟩,rfl,rfl,trivial⟩⟩ ?_
 rintro ⟨X,Y⟩ hI
 have hI:b6f x y X Y:=hI
 obtain ⟨g1,g2,g3⟩:=hI
 have l2:((dg Y).map e7).length=(dg Y).length:=by simp
 by_cases hY:0<Y
 ·have hp:(dg Y).length≠0:=by rw [Ne,List.length_eq_zero_iff,O7];omega
  have dv:=b1J X Y hY (by omega) (by omega)
  conv=>whnf
  repeat' (first|refine zz ?_|refine qp dv ?_|refine zd ?_ ?_<;>intro h<;>try omega|refine zy ?_|fail)<;>conv=>whnf
  all_goals first
   |omega
   |exact ⟨[some 0],(Y,X % Y),⟨rfl,rfl,⟨⟨rfl,rfl,rfl,.inl ⟨rfl,T1⟩⟩,trivial⟩,⟨⟨rfl,rfl,rfl⟩,rfl,rfl,trivial⟩⟩,⟨by rw [← g1,Nat.gcd_comm Y,←Nat.gcd_rec,Nat.gcd_comm],g3,Nat.le_trans (m9 (Nat.le_of_lt (Nat.mod_lt X hY))) g3⟩,Nat.mod_lt X hY⟩
 ·have hY:Y=0:=by omega
  subst hY
  have hp:(dg 0).length=0:=rfl
  have s1:=H9 1 X (by simp) (by omega)
  conv=>whnf
  repeat' (first|refine zz ?_|refine qp s1 ?_|refine zd ?_ ?_<;>intro h<;>try omega|refine zy ?_|fail)<;>conv=>whnf
  all_goals first
   |omega
   |skip
  refine a5I ?_
  rw [Int.one_mul,show X=Int.gcd x y by rw [Int.gcd,←g1,Nat.gcd_zero_right]]
theorem b6G (x y:Int) (hy:0<y) (hxy:x % y=0) (lx:bl x<=200000) (ly:bl y<=200000):a9 Tryz.prog 189 [bgS (bz x),bgS (bz y)] [] (.tup [bgS (bz (x / y)),bgS (bz 0),a7 .i64 0]) []:=by
 have r1:=a0i x (by omega)
 have r2:=a0i y (by omega)
 have hys:(bz y).sg=1:=by rw [a9W,Int.sign_eq_one_of_pos hy]
 have ov:=b1J x.natAbs y.natAbs (by omega) lx ly
 have hmod:x.natAbs % y.natAbs=0:=by
  have:=Int.natAbs_dvd_natAbs.2 (Int.dvd_of_emod_eq_zero hxy)
  exact Nat.mod_eq_zero_of_dvd this
 have lq:=m9 (Nat.div_le_self x.natAbs y.natAbs)
 have hsg:(bz x).sg=x.sign:=rfl
 have hs:=C1 x
 have hq:x.sign*((x.natAbs / y.natAbs:Nat):Int)=x / y:=by
  obtain ⟨k,hk⟩:=Int.dvd_of_emod_eq_zero hxy
  subst hk
  have hk2:(y*k) / y=k:=Int.mul_ediv_cancel_left _ (by omega)
  rw [hk2,Int.natAbs_mul,Nat.mul_div_cancel_left _ (by omega),Int.sign_mul,Int.sign_eq_one_of_pos hy,Int.one_mul]
  exact Int.sign_mul_natAbs k
 have s1:=H9 x.sign (x.natAbs / y.natAbs) (by
  rcases hs with ⟨h,h1⟩|⟨h,h1⟩|⟨h,h1⟩
  ·right;right;subst h1;simp
  ·exact .inl h
  ·exact .inr (.inl h)) (by unfold bl at lx;omega)
 rw [hq] at s1
 have s2:=H9 x.sign 0 (by simp) (by rw [U0];simp)
 rw [show x.sign*((0:Nat):Int)=0 by simp] at s2
 have hmul:x.sign*1=x.sign:=Int.mul_one _
 have hd0:((dg (x.natAbs % y.natAbs)).map e7).length=0:=by rw [hmod,U0];rfl
 unfold aK5 at ov
 rw [hmod] at ov hd0
 (refine ac Tryz.func189 ?_;(conv=>whnf);repeat (refine zy ?_;conv=>whnf))
 repeat' (first|refine zz ?_|refine qp r1 ?_|refine qp r2 ?_|refine qp ov ?_|refine qp s1 ?_|refine qp s2 ?_|refine qp (hys,hsg) ?_|refine ⟨_,B3 (y:=x.sign) (by rw [hys,hsg];exact hmul) (by omega) (by omega),?_⟩|refine zd ?_ ?_<;>intro h<;>try omega|refine zy ?_|fail)<;>conv=>whnf
 all_goals first
  |omega
  |(exfalso;simp_all;done)
  |exact aZ6 rfl rfl
theorem b0e (p q:Int) (hq:0<q) (lp:bl p<=200000) (lq:bl q<=200000):a9 Tryz.prog 114 [bgS (bz p),bgS (bz q)] [] (.tup [frS (fz (Rat.divInt p q)),a7 .i64 0]) []:=by
 have r1:=a0i p (by omega)
 have r2:=a0i q (by omega)
 have hsg:(bz q).sg=1:=by rw [a9W,Int.sign_eq_one_of_pos hq]
 have lg:=a9x p q lp lq
 have hg:0<(Int.gcd p q:Int):=by have:=Int.gcd_pos_of_ne_zero_right p (b:=q) (by omega);omega
 have g:=b6K p q lp lq
 have d1:=b6G p _ hg (Int.emod_eq_zero_of_dvd (Int.gcd_dvd_left ..)) lp lg
 have d2:=b6G q _ hg (Int.emod_eq_zero_of_dvd (Int.gcd_dvd_right ..)) lq lg
 have e:=a77 (p:=p) (q:=q) (by omega) rfl
 (refine ac Tryz.func114 ?_;(conv=>whnf);repeat (refine zy ?_;conv=>whnf))
 repeat' (first|refine zz ?_|refine qp r1 ?_|refine qp r2 ?_|refine qp g ?_|refine qp d1 ?_|refine qp d2 ?_|refine zd ?_ ?_<;>intro h<;>try omega|refine zy ?_|fail)<;>conv=>whnf
 all_goals first
  |omega
  |(exfalso;simp_all;done)
  |exact U9 e.symm
theorem b9b (p q:Int) (hq:0<q) (p0:-9223372036854775808<=p) (p1:p<=9223372036854775807) (q1:q<=9223372036854775807):
 a9 Tryz.prog 106 [a7 .i64 p,a7 .i64 q] [] (.tup [frS (fz (Rat.divInt p q)),a7 .i64 0]) []:=by
 have l1:=S0 p0 p1
 have l2:=S0 (x:=q) (by omega) q1
 have o1:=b6X p p0 p1
 have o2:=b6X q (by omega) q1
 have n:=b0e p q hq (by omega) (by omega)
 (refine ac Tryz.func106 ?_;(conv=>whnf);repeat (refine zy ?_;conv=>whnf))
 repeat' (first|refine zz ?_|refine qp o1 ?_|refine qp o2 ?_|refine qp n ?_|refine zd ?_ ?_<;>intro h<;>try omega|refine zy ?_|fail)<;>conv=>whnf
 all_goals exact U9 rfl
theorem a3G (n:Int) (p0:-9223372036854775808<=n) (p1:n<=9223372036854775807):a9 Tryz.prog 41 [a7 .i64 n] [] (frS (fz (n:Rat))) []:=by
 have o:=b9b n 1 (by decide) p0 p1 (by decide)
 have e:Rat.divInt n 1=(n:Rat):=by rw [Rat.divInt_eq_div];simp;grind
 rw [e] at o
 (refine ac Tryz.func41 ?_;(conv=>whnf);repeat (refine zy ?_;conv=>whnf))
 repeat' (first|refine zz ?_|refine qp o ?_|refine zd ?_ ?_<;>intro h<;>try omega|refine zy ?_|fail)<;>conv=>whnf
 all_goals exact j2 ⟨rfl,rfl,rfl,rfl,trivial⟩
def aN9 (n:Int) (f:Fr):Bool:=decide ((f.p.dl.length:Int)<=n) && decide ((f.q.dl.length:Int)<=n)
theorem b7O (f:Fr) (n:Int):a9 Tryz.prog 64 [frS f,a7 .i64 n] [] (d6 (aN9 n f)) []:=by
 have l1:(f.p.dl.map e7).length=f.p.dl.length:=by simp
 have l2:(f.q.dl.map e7).length=f.q.dl.length:=by simp
 (refine ac Tryz.func64 ?_;(conv=>whnf);repeat ((first|refine b0x ?_|refine zy ?_);conv=>whnf))
 repeat' (first|refine zz ?_|refine zd ?_ ?_<;>intro h<;>try omega|refine zy ?_|fail)<;>conv=>whnf
 all_goals (refine b7 ?_;unfold aN9;simp;omega)
abbrev ir (n:Int):Rat:=((n:Int):Rat)
instance:DecidableEq C2:=fun a b=>decidable_of_iff (a.terms=b.terms∧a.kind=b.kind∧a.value=b.value) ⟨fun ⟨h1,h2,h3⟩=>by cases a;cases b;simp_all,fun h=>by subst h;exact ⟨rfl,rfl,rfl⟩⟩
instance:DecidableEq f8:=fun a b=>decidable_of_iff (a.n=b.n∧a.rows=b.rows) ⟨fun ⟨h1,h2⟩=>by cases a;cases b;simp_all,fun h=>by subst h;exact ⟨rfl,rfl⟩⟩
def C0 (l:List (Int × Rat)):Prop:=∀t ∈ l,∃c:Int,t.2=((c:Int):Rat)∧bl c<=1
theorem W8 {i:Int} {c:Int} (h0:-1048575<=c) (h1:c<=1048575):C0 [(i,((c:Int):Rat))]:=by
 intro t ht
 simp at ht
 subst ht
 exact ⟨c,rfl,o7 h0 h1⟩
theorem a7B {a b:List (Int × Rat)} (ha:C0 a) (hb:C0 b):C0 (a++b):=by
 intro t ht
 rcases List.mem_append.1 ht with h|h
 ·exact ha t h
 ·exact hb t h
theorem a5a {e:Ev} {p:Int}:∀k,C0 (i7 e p k)
 |0=>by intro t ht;cases ht
 |k+1=>by
  have ih:=a5a (e:=e) (p:=p) k
  unfold i7
  split
  ·exact ih
  ·split
   ·exact a7B ih (W8 (by decide) (by decide))
   ·split
    ·exact a7B ih (W8 (by decide) (by decide))
    ·exact ih
theorem a6n {l:List (Int × Rat)} {z:List Rat} {B:Nat} (h1:∀t ∈ l,rl t.2<=1) (h2:∀v ∈ z,rl v<=B):∀k,rl (j9 (l.take k) z)<=l.length*(B+4)+1:=by
 have key:∀k,k<=l.length->rl (j9 (l.take k) z)<=k*(B+4)+1:=by
  intro k
  induction k with
  |zero=>intro _;rw [List.take_zero];have:=rl0;show rl 0<=_;omega
  |succ k ih=>
   intro hk
   have ih:=ih (by omega)
   rw [List.take_succ_eq_append_getElem (show k<l.length by omega),R7]
   have a1:=h1 l[k] (List.getElem_mem _)
   have a2:rl (z.getD l[k].1.toNat 0)<=B+1:=by
    by_cases hz:l[k].1.toNat<z.length
    ·have:=h2 _ (lg2 (getD_some hz));omega
    ·rw [lg3,List.getElem?_eq_none (by omega)]
     have:=rl0
     show rl 0<=_
     omega
   have a3:=a29 l[k].2 (z.getD l[k].1.toNat 0)
   have a4:=a3Z (j9 (l.take k) z) (l[k].2*z.getD l[k].1.toNat 0)
   rw [Nat.succ_mul]
   omega
 intro k
 by_cases hk:k<=l.length
 ·have h3:=key k hk
  have h4:=Nat.mul_le_mul_right (B+4) hk
  omega
 ·have h3:=key l.length (Nat.le_refl _)
  rw [lg4 (Nat.le_refl _)] at h3
  rw [lg4 (by omega)];exact h3
theorem L7 {l:List (Int × Rat)} (h:C0 l):∀t ∈ l,rl t.2<=1:=by
 intro t ht
 obtain ⟨c,hc,hb⟩:=h t ht
 rw [hc,a2c]
 have h1:bl 1<=1:=o7 (by decide) (by decide)
 omega
theorem b1E {s:f8} {g:List (Int × Rat)} {n B:Nat} (h:I4 s g n B):∀v ∈ y8 s g,rl v<=B:=by
 intro v hv
 have hb:=aa9 h
 have hn:=h.nn
 have h1:=h.b1
 obtain ⟨j,hj,rfl⟩:=a4T hv
 have hp:Z7 (f7 s).length s.n.toNat (y3 s g):=R0.p
 rw [hn] at hj hp ⊢
 rw [← aR1 hp hj]
 have key:∀k,k<=(f7 s).length->rl (ptK n (y3 s g).O (y3 s g).V (fun _=>0) k j)<=B:=by
  intro k
  induction k with
  |zero=>intro _;have:=rl0;show rl 0<=_;omega
  |succ k ih=>
   intro hk
   rw [Q2]
   simp only
   split
   ·exact hb.v k (by omega)
   ·exact ih (by omega)
 exact key _ (Nat.le_refl _)
theorem a02 {l:List (Int × Rat)} (h:C0 l):C0 (P6 l):=by
 intro t ht
 obtain ⟨u,hu,rfl⟩:=List.mem_map.1 ht
 obtain ⟨c,hc,hb⟩:=h u hu
 refine ⟨-c,?_,by rw [a8E];exact hb⟩
 show u.2*((-1:Int):Rat)=((-c:Int):Rat)
 rw [hc]
 have e:((-c:Int):Rat)=-((c:Int):Rat):=by push_cast;rfl
 have e1:((-1:Int):Rat)=-1:=rfl
 rw [e,e1];grind
theorem W4 {n:Int}:∀{l:List (Int × Rat)} {last:Int},e8 last n l=true->e8 last n (P6 l)=true
 |[],_,_=>rfl
 |a::r,last,h=>by
  unfold e8 at h
  show e8 last n ((a.1,a.2*((-1:Int):Rat))::P6 r)=true
  unfold e8
  simp only [Bool.and_eq_true,decide_eq_true_eq] at h ⊢
  refine ⟨⟨⟨h.1.1.1,h.1.1.2⟩,fun e=>h.1.2 ?_⟩,W4 h.2⟩
  have e1:((-1:Int):Rat)=-1:=rfl
  rw [e1] at e
  grind
theorem b4N (l:List (Int × Rat)):(P6 l).length=l.length:=a1x _ _
theorem at3 {s:f8} {g:List (Int × Rat)} (hr:g6 s=true) (hz:a0L s []=.best):a0L s g=.best∨∃c,a0L s g=.col c:=by
 rcases aj9 s g with h|⟨r,h⟩|h
 ·exact .inl h
 ·have h1:=(a2G hr rfl hz).1
  rw [b08 h] at h1;cases h1
 ·exact .inr h
structure af1 (a b:List Int) (i:Nat) (out:List Int) (c:Int):Prop where
 len:out.length=i
 ok:Okd out
 le:i<=max a.length b.length+1
 top:i=max a.length b.length+1->c=0
 c0:0<=c
 c1:c<=1
 eq:val out+pw i*c=val (a.take i)+val (b.take i)
theorem af1.init (a b:List Int):af1 a b 0 [] 0:=⟨rfl,.nil,Nat.zero_le _,fun _=>rfl,by decide,by decide,by simp [val]⟩
theorem af1.step {a b out:List Int} {i:Nat} {c:Int} (h:af1 a b i out c) (ha:Okd a) (hb:Okd b) (hi:i<a.length∨i<b.length∨0<c):
 af1 a b (i+1) (out++[(dat a i+dat b i+c) % 1048576]) ((dat a i+dat b i+c) / 1048576):=by
 have h1:=ha.dat i
 have h2:=hb.dat i
 have h3:=h.c0
 have h4:=h.c1
 have hl:=h.le
 have ht:=h.top
 have hi2:i<=max a.length b.length:=by
  rcases Nat.lt_or_ge (max a.length b.length) i with h5|h5
  ·have:=ht (by omega);omega
  ·exact h5
 refine ⟨by simp [h.len],h.ok.append (Okd.cons (a4E _) .nil),by omega,fun e=>?_,by omega,by omega,?_⟩
 ·have e1:dat a i=0:=O1 (by omega)
  have e2:dat b i=0:=O1 (by omega)
  rw [e1,e2];omega
 ·rw [K6,h.len,o8,o8,F0]
  have h5:=h.eq
  have h6:(dat a i+dat b i+c) % 1048576=dat a i+dat b i+c - 1048576*((dat a i+dat b i+c) / 1048576):=by omega
  simp only [val]
  rw [h6]
  grind
theorem af1.fin {a b out:List Int} {i:Nat} {c:Int} (h:af1 a b i out c) (la:a.length<=i) (lb:b.length<=i) (hc:c<=0):F7 out=dg (val a+val b).toNat:=by
 have h1:=h.eq
 have h2:=h.c0
 obtain rfl:c=0:=by omega
 rw [lg4 la,lg4 lb] at h1
 rw [J3 h.ok]
 congr 2
 grind
theorem b7K (a b:List Int) (ha:Okd a) (hb:Okd b) (la:a.length<=400000) (lb:b.length<=400000):
 a9 Tryz.prog 185 [d9 a,d9 b] [] (d9 (dg (val a+val b).toNat)) []:=by
 have l1:(a.map e7).length=a.length:=by simp
 have l2:(b.map e7).length=b.length:=by simp
 (refine ac Tryz.func185 ?_;(conv=>whnf);repeat (refine zy ?_;conv=>whnf))
 repeat' (first|refine zz ?_|refine zd ?_ ?_<;>intro h<;>try omega|refine zy ?_|fail)<;>conv=>whnf
 refine k5 c8 (σ:=Nat × List Int × Int) (fun|(k,out,c)=>([d9 a,d9 b,J,J,J,a0G 0 out,a7 .i64 c,a7 .i64 k,J,J,J,J,J,J,J,J,J,J,J,J,J,J,J,J,J,J,J,J,J,J,J,J,J,J,J,J,J,J,J,J,J,J,J],[o5 out])) (fun x=>af1 a b x.1 x.2.1 x.2.2) (fun x=>max a.length b.length+1 - x.1) (0,[],0) [none]
  (af1.init a b) ⟨rfl,rfl,⟨⟨rfl,rfl⟩,trivial⟩,⟨g7 rfl,g7 rfl,⟨rfl,rfl,rfl⟩,rfl,rfl,trivial⟩⟩ ?_
 rintro ⟨k,out,c⟩ hI
 have hI:af1 a b k out c:=hI
 have hlen:=hI.len
 have hle:=hI.le
 have hc0:=hI.c0
 have hc1:=hI.c1
 have hda:=ha.dat k
 have hdb:=hb.dat k
 have d1:=a4J a k (by omega)
 have d2:=a4J b k (by omega)
 have hm:(dat a k+dat b k+c).tmod 1048576=(dat a k+dat b k+c) % 1048576:=Int.tmod_eq_emod_of_nonneg (by omega)
 have hd:(dat a k+dat b k+c).tdiv 1048576=(dat a k+dat b k+c) / 1048576:=Int.tdiv_eq_ediv_of_nonneg (by omega)
 by_cases hgo:k<a.length∨k<b.length∨0<c
 ·have hst:=hI.step ha hb hgo
  have hk2:=hst.le
  conv=>whnf
  repeat' (first|refine zz ?_|refine qp d1 ?_|refine qp d2 ?_|refine qp toC ?_|refine qp toC ?_|refine o6 (by simp [toC]) (by simp [toC];omega) ?_|refine ⟨by decide,_,B3 hd (by omega) (by omega),?_⟩|refine ah5 (by decide) ?_|refine zd ?_ ?_<;>intro h<;>try omega|refine zy ?_|fail)<;>conv=>whnf
  all_goals try omega
  all_goals
   refine ⟨[some 1],(k+1,out++[(dat a k+dat b k+c) % 1048576],(dat a k+dat b k+c) / 1048576),⟨rfl,rfl,⟨a8 rfl rfl rfl ?_ rfl,trivial⟩,⟨rfl,rfl,j8 rfl (by simp [toC]),rfl,c6 (by omega),trivial⟩⟩,hst,?_⟩
   ·have e:∀y:Int,y=(dat a k+dat b k+c) % 1048576->(toC (out.map e7)).take out.length++toC [[ti y]]=toC ((out++[(dat a k+dat b k+c) % 1048576]).map e7):=fun y hy=>by rw [hy];exact a16
    exact e _ (by omega)
   ·show max a.length b.length+1 - (k+1)<max a.length b.length+1 - k
    omega
 ·have hf:=hI.fin (by omega) (by omega) (by omega)
  have t:=a5q out (by omega)
  rw [hf] at t
  conv=>whnf
  repeat' (first|refine zz ?_|refine qp 0 ?_|refine .inr ⟨_,_,u7 [0] t ⟨a0I (s8 (by simp) rfl (by intro h;cases h) rfl rfl (by simp)),trivial⟩ rfl,?_⟩|refine zd ?_ ?_<;>intro h<;>try omega|refine zy ?_|fail)<;>conv=>whnf
  all_goals first
   |omega
   |exact aa1 rfl
theorem b4G (m n:Nat) (lm:(dg m).length<=300000) (ln:(dg n).length<=300000):a9 Tryz.prog 185 [d9 (dg m),d9 (dg n)] [] (d9 (dg (m+n))) []:=by
 have h:=b7K (dg m) (dg n) (p7 m) (p7 n) (by omega) (by omega)
 rw [k6,k6,show ((m:Int)+n).toNat=m+n by omega] at h
 exact h
theorem a6d (m n:Nat) (lm:(dg m).length<=300000) (h:n<=m):a9 Tryz.prog 187 [d9 (dg m),d9 (dg n)] [] (d9 (dg (m - n))) []:=by
 have h:=b0q (dg m) (dg n) (p7 m) (p7 n) (by omega) (m9 h) (by rw [k6,k6];omega)
 rw [k6,k6,show ((m:Int) - n).toNat=m - n by omega] at h
 exact h
theorem b0d (m n:Nat) (lm:(dg m).length<=300000) (ln:(dg n).length<=300000):a9 Tryz.prog 186 [d9 (dg m),d9 (dg n)] [] (d6 (decide (m<n))) []:=by
 have h:=b2s (dg m) (dg n) (p7 m) (p7 n) (by omega) (by omega)
 rw [k6,k6,show decide ((m:Int)<n)=decide (m<n) by simp] at h
 exact h
theorem b5K (s:Int) (m:Nat) (h:Sg s m) (lm:(dg m).length<=300000):a9 Tryz.prog 180 [bgS ⟨s,dg m⟩] [] (d6 true) []:=by
 have:=a2N ⟨s,dg m⟩ (show (dg m).length<=1000000 by omega)
 rw [← a6E h,Y8,a6E h] at this
 exact this
theorem b8X (x:Int) (lx:bl x<=300000):a9 Tryz.prog 188 [bgS (bz x)] [] (bgS (bz (-x))) []:=by
 have r:=a0i x lx
 have hs:=C1 x
 have hsg:(bz x).sg=x.sign:=rfl
 have sg:=H9 (0 - (bz x).sg) x.natAbs (by omega) (by unfold bl at lx;omega)
 rw [show (0 - (bz x).sg)*(x.natAbs:Int)=-x by rw [hsg];have:=sgm x;grind] at sg
 (refine ac Tryz.func188 ?_;(conv=>whnf);repeat ((first|refine b0x ?_|refine zy ?_);conv=>whnf))
 repeat' (first|refine zz ?_|refine qp r ?_|refine qp sg ?_|refine zd ?_ ?_<;>intro h<;>try omega|refine zy ?_|fail)<;>conv=>whnf
 all_goals first
  |(exfalso;simp_all;done)
  |exact j2 ⟨rfl,rfl,trivial⟩
theorem a3r {α:Type} {l:List α} {k:Nat} {x:α} (h:l[k]? =some x):l.take (k+1)=l.take k++[x]:=by
 rw [List.take_add_one,h];rfl
theorem b7k (a b:Bg) (ha:a.dl.length<=1000000) (hb:b.dl.length<=1000000):a9 Tryz.prog 245 [bgS a,bgS b] [] (d6 (decide (a.sg=b.sg∧a.dl=b.dl))) []:=by
 have l1:(a.dl.map e7).length=a.dl.length:=by simp
 have l2:(b.dl.map e7).length=b.dl.length:=by simp
 by_cases h0:¬(a.sg=b.sg∧a.dl.length=b.dl.length)
 ·(refine ac Tryz.func245 ?_;(conv=>whnf);repeat ((first|refine b0x ?_|refine zy ?_);conv=>whnf))
  repeat' (first|refine zz ?_|refine zd ?_ ?_<;>intro h<;>try omega|refine zy ?_|fail)<;>conv=>whnf
  all_goals first
   |omega
   |(refine b7 (decide_eq_false ?_).symm;rintro ⟨h1,h2⟩;rw [h2] at h0;exact h0 ⟨h1,rfl⟩)
 have h0:a.sg=b.sg∧a.dl.length=b.dl.length:=Decidable.not_not.1 h0
 (refine ac Tryz.func245 ?_;(conv=>whnf);repeat ((first|refine b0x ?_|refine zy ?_);conv=>whnf))
 repeat' (first|refine zz ?_|refine zd ?_ ?_<;>intro h<;>try omega|refine zy ?_|fail)<;>conv=>whnf
 all_goals try omega
 refine d7 c8 (fun k=>([J,J,S.c (C.t (T.ptr [ti a.sg,I1 a.dl])),S.c (C.t (T.ptr [ti b.sg,I1 b.dl])),J,a7 .i64 k,J,J,J,J,J,J,J,J,J,J,J,J,J,J,J,J,J,J,J,J,J,J,J,J,J,J,J,J,J,J,J,J],[])) a.dl.length (fun k=>a.dl.take k=b.dl.take k) [] rfl
  ⟨rfl,rfl,trivial,⟨rfl,rfl,rfl,trivial⟩⟩ ?_
 intro k hk hI
 by_cases hlt:k<a.dl.length
 ·obtain ⟨x,hx⟩:∃x,a.dl[k]? =some x:=⟨_,lg0 hlt⟩
  obtain ⟨y,hy⟩:∃y,b.dl[k]? =some y:=⟨_,lg0 (by omega)⟩
  conv=>whnf
  repeat' (first|refine zz ?_|refine b9 hx ?_|refine b9 hy ?_|refine zd ?_ ?_<;>intro h<;>try omega|refine zy ?_|fail)<;>conv=>whnf
  ·have hne:x≠y:=‹x≠y›
   refine b7 (decide_eq_false ?_).symm
   rintro ⟨_,hq⟩;rw [hq,hy] at hx;injection hx with hx;exact hne hx.symm
  ·have hxy:x=y:=by omega
   refine ⟨hlt,?_,[],rfl,rfl,trivial,⟨rfl,rfl,rfl,trivial⟩⟩
   rw [a3r hx,a3r hy,hI,hxy]
  all_goals omega
 ·rw [lg4 (by omega),lg4 (by omega)] at hI
  conv=>whnf
  repeat' (first|refine zz ?_|refine zd ?_ ?_<;>intro h<;>try omega|refine zy ?_|fail)<;>conv=>whnf
  all_goals first
   |omega
   |exact b7 (decide_eq_true ⟨h0.1,hI⟩).symm
theorem b8r:V6 .or .i64 0 0 0:=by show (0:Int)=_;decide +kernel
theorem b99:V6 .or .i64 0 1 1:=by show (1:Int)=_;decide +kernel
theorem b8U:V6 .or .i64 1 0 1:=by show (1:Int)=_;decide +kernel
theorem b8V:V6 .or .i64 1 1 1:=by show (1:Int)=_;decide +kernel
theorem b90:V6 .or .i64 0 (-1) (-1):=by show (-1:Int)=_;decide +kernel
theorem b9a:V6 .or .i64 (-1) 0 (-1):=by show (-1:Int)=_;decide +kernel
theorem b8k:V6 .or .i64 (-1) (-1) (-1):=by show (-1:Int)=_;decide +kernel
set_option maxHeartbeats 4000000 in
theorem b7z (s t:Int) (m n:Nat) (hs:Sg s m) (ht:Sg t n) (lm:(dg m).length<=200000) (ln:(dg n).length<=200000):
 a9 Tryz.prog 113 [bgS ⟨s,dg m⟩,bgS ⟨t,dg n⟩] [] (.tup [bgS (bz (s*m+t*n)),a7 .i64 0]) []:=by
 have r1:=b5K s m hs (by omega)
 have r2:=b5K t n ht (by omega)
 have ad:=b4G m n (by omega) (by omega)
 have c:=b0d m n (by omega) (by omega)
 have ls:=a2R m n
 have fin:∀(z:Int) (H1:Hp),z=s*m+t*n->Fin 0 (.tup [bgS (bz z),a7 .i64 0]) H1 (.tup [bgS (bz (s*m+t*n)),a7 .i64 0]) []:=fun z H1 h=>a5I (by rw [h])
 rcases hs with ⟨rfl,rfl⟩|⟨rfl,h1⟩|⟨rfl,h1⟩<;>rcases ht with ⟨rfl,rfl⟩|⟨rfl,h2⟩|⟨rfl,h2⟩
 case inl.inl=>
  have sg:=H9 (0) _ (by omega) (E8 ls (by omega))
  (refine ac Tryz.func113 ?_;(conv=>whnf);repeat ((first|refine b0x ?_|refine zy ?_);conv=>whnf))
  repeat' (first|refine zz ?_|refine qp r1 ?_|refine qp r2 ?_|refine qp ad ?_|refine qp sg ?_|refine ⟨_,b8r,?_⟩|refine zd ?_ ?_<;>intro h<;>try omega|refine zy ?_|fail)<;>conv=>whnf
  all_goals first|omega|(exfalso;simp_all;done)|exact fin _ _ (by omega)
 case inl.inr.inl=>
  have sg:=H9 (1) _ (by omega) (E8 ls (by omega))
  (refine ac Tryz.func113 ?_;(conv=>whnf);repeat ((first|refine b0x ?_|refine zy ?_);conv=>whnf))
  repeat' (first|refine zz ?_|refine qp r1 ?_|refine qp r2 ?_|refine qp ad ?_|refine qp sg ?_|refine ⟨_,b99,?_⟩|refine zd ?_ ?_<;>intro h<;>try omega|refine zy ?_|fail)<;>conv=>whnf
  all_goals first|omega|(exfalso;simp_all;done)|exact fin _ _ (by omega)
 case inl.inr.inr=>
  have sg:=H9 (-1) _ (by omega) (E8 ls (by omega))
  (refine ac Tryz.func113 ?_;(conv=>whnf);repeat ((first|refine b0x ?_|refine zy ?_);conv=>whnf))
  repeat' (first|refine zz ?_|refine qp r1 ?_|refine qp r2 ?_|refine qp ad ?_|refine qp sg ?_|refine ⟨_,b90,?_⟩|refine zd ?_ ?_<;>intro h<;>try omega|refine zy ?_|fail)<;>conv=>whnf
  all_goals first|omega|(exfalso;simp_all;done)|exact fin _ _ (by omega)
 case inr.inl.inl=>
  have sg:=H9 (1) _ (by omega) (E8 ls (by omega))
  (refine ac Tryz.func113 ?_;(conv=>whnf);repeat ((first|refine b0x ?_|refine zy ?_);conv=>whnf))
  repeat' (first|refine zz ?_|refine qp r1 ?_|refine qp r2 ?_|refine qp ad ?_|refine qp sg ?_|refine ⟨_,b8U,?_⟩|refine zd ?_ ?_<;>intro h<;>try omega|refine zy ?_|fail)<;>conv=>whnf
  all_goals first|omega|(exfalso;simp_all;done)|exact fin _ _ (by omega)
 case inr.inr.inl=>
  have sg:=H9 (-1) _ (by omega) (E8 ls (by omega))
  (refine ac Tryz.func113 ?_;(conv=>whnf);repeat ((first|refine b0x ?_|refine zy ?_);conv=>whnf))
  repeat' (first|refine zz ?_|refine qp r1 ?_|refine qp r2 ?_|refine qp ad ?_|refine qp sg ?_|refine ⟨_,b9a,?_⟩|refine zd ?_ ?_<;>intro h<;>try omega|refine zy ?_|fail)<;>conv=>whnf
  all_goals first|omega|(exfalso;simp_all;done)|exact fin _ _ (by omega)
 case inr.inl.inr.inl=>
  have sg:=H9 (1) _ (by omega) (E8 ls (by omega))
  (refine ac Tryz.func113 ?_;(conv=>whnf);repeat ((first|refine b0x ?_|refine zy ?_);conv=>whnf))
  repeat' (first|refine zz ?_|refine qp r1 ?_|refine qp r2 ?_|refine qp ad ?_|refine qp sg ?_|refine ⟨_,b8V,?_⟩|refine zd ?_ ?_<;>intro h<;>try omega|refine zy ?_|fail)<;>conv=>whnf
  all_goals first|omega|(exfalso;simp_all;done)|exact fin _ _ (by omega)
 case inr.inr.inr.inr=>
  have sg:=H9 (-1) _ (by omega) (E8 ls (by omega))
  (refine ac Tryz.func113 ?_;(conv=>whnf);repeat ((first|refine b0x ?_|refine zy ?_);conv=>whnf))
  repeat' (first|refine zz ?_|refine qp r1 ?_|refine qp r2 ?_|refine qp ad ?_|refine qp sg ?_|refine ⟨_,b8k,?_⟩|refine zd ?_ ?_<;>intro h<;>try omega|refine zy ?_|fail)<;>conv=>whnf
  all_goals first|omega|(exfalso;simp_all;done)|exact fin _ _ (by omega)
 case inr.inl.inr.inr=>
  rcases Nat.lt_or_ge m n with hmn|hmn
  ·rw [decide_eq_true hmn] at c
   have l3:=m9 (Nat.sub_le n m)
   (refine ac Tryz.func113 ?_;(conv=>whnf);repeat ((first|refine b0x ?_|refine zy ?_);conv=>whnf))
   repeat' (first|refine zz ?_|refine qp r1 ?_|refine qp r2 ?_|refine qp c ?_|refine qp (a6d n m (by omega) (by omega)) ?_|refine qp (H9 (-1) (n - m) (by omega) (by omega)) ?_|refine zd ?_ ?_<;>intro h<;>try omega|refine zy ?_|fail)<;>conv=>whnf
   all_goals first|omega|(exfalso;simp_all;done)|exact fin _ _ (by omega)
  ·rw [decide_eq_false (Nat.not_lt.2 hmn)] at c
   have l3:=m9 (Nat.sub_le m n)
   (refine ac Tryz.func113 ?_;(conv=>whnf);repeat ((first|refine b0x ?_|refine zy ?_);conv=>whnf))
   repeat' (first|refine zz ?_|refine qp r1 ?_|refine qp r2 ?_|refine qp c ?_|refine qp (a6d m n (by omega) (by omega)) ?_|refine qp (H9 (1) (m - n) (by omega) (by omega)) ?_|refine zd ?_ ?_<;>intro h<;>try omega|refine zy ?_|fail)<;>conv=>whnf
   all_goals first|omega|(exfalso;simp_all;done)|exact fin _ _ (by omega)
 case inr.inr.inr.inl=>
  rcases Nat.lt_or_ge m n with hmn|hmn
  ·rw [decide_eq_true hmn] at c
   have l3:=m9 (Nat.sub_le n m)
   (refine ac Tryz.func113 ?_;(conv=>whnf);repeat ((first|refine b0x ?_|refine zy ?_);conv=>whnf))
   repeat' (first|refine zz ?_|refine qp r1 ?_|refine qp r2 ?_|refine qp c ?_|refine qp (a6d n m (by omega) (by omega)) ?_|refine qp (H9 (1) (n - m) (by omega) (by omega)) ?_|refine zd ?_ ?_<;>intro h<;>try omega|refine zy ?_|fail)<;>conv=>whnf
   all_goals first|omega|(exfalso;simp_all;done)|exact fin _ _ (by omega)
  ·rw [decide_eq_false (Nat.not_lt.2 hmn)] at c
   have l3:=m9 (Nat.sub_le m n)
   (refine ac Tryz.func113 ?_;(conv=>whnf);repeat ((first|refine b0x ?_|refine zy ?_);conv=>whnf))
   repeat' (first|refine zz ?_|refine qp r1 ?_|refine qp r2 ?_|refine qp c ?_|refine qp (a6d m n (by omega) (by omega)) ?_|refine qp (H9 (-1) (m - n) (by omega) (by omega)) ?_|refine zd ?_ ?_<;>intro h<;>try omega|refine zy ?_|fail)<;>conv=>whnf
   all_goals first|omega|(exfalso;simp_all;done)|exact fin _ _ (by omega)
theorem b6u (x y:Int) (lx:bl x<=200000) (ly:bl y<=200000):a9 Tryz.prog 113 [bgS (bz x),bgS (bz y)] [] (.tup [bgS (bz (x+y)),a7 .i64 0]) []:=by
 have h:=b7z _ _ _ _ (a5d x) (a5d y) lx ly
 rw [sgm,sgm] at h
 exact h
set_option maxHeartbeats 2000000 in
theorem b95 (x y:Int) (lx:bl x<=200000) (ly:bl y<=200000):a9 Tryz.prog 115 [bgS (bz x),bgS (bz y)] [] (.tup [bgS (bz (x - y)),a7 .i64 0]) []:=by
 have r:=a0i y (by omega)
 have n:=b8X y (by omega)
 have a:=b6u x (-y) lx (by rw [a1F];exact ly)
 rw [← Int.sub_eq_add_neg] at a
 (refine ac Tryz.func115 ?_;(conv=>whnf);repeat ((first|refine b0x ?_|refine zy ?_);conv=>whnf))
 repeat' (first|refine zz ?_|refine qp r ?_|refine qp n ?_|refine qp a ?_|refine qp 6 ?_|refine qp 1 ?_|refine bl0 [6] ?_|refine bl0 [1] ?_|refine zd ?_ ?_<;>intro h<;>try omega|refine zy ?_|fail)<;>conv=>whnf
 all_goals first
  |(exfalso;simp_all;done)
  |exact a5I rfl
theorem b6W (s t:Int) (m n:Nat) (hs:Sg s m) (ht:Sg t n) (lm:(dg m).length<=200000) (ln:(dg n).length<=200000):
 a9 Tryz.prog 112 [bgS ⟨s,dg m⟩,bgS ⟨t,dg n⟩] [] (.tup [bgS (bz ((s*t)*(m*n:Nat))),a7 .i64 0]) []:=by
 have r1:=b5K s m hs (by omega)
 have r2:=b5K t n ht (by omega)
 have mu:=aG3 m n (by omega) (by omega)
 have ls:=a3l m n
 have hst:-1<=s*t∧s*t<=1∧(s*t=1∨s*t=-1∨m*n=0):=by
  rcases hs with ⟨rfl,rfl⟩|⟨rfl,h1⟩|⟨rfl,h1⟩<;>rcases ht with ⟨rfl,rfl⟩|⟨rfl,h2⟩|⟨rfl,h2⟩<;>simp
 obtain ⟨q1,q2,q3⟩:=hst
 have sg:=H9 (s*t) (m*n) q3 (by omega)
 (refine ac Tryz.func112 ?_;(conv=>whnf);repeat ((first|refine b0x ?_|refine zy ?_);conv=>whnf))
 repeat' (first|refine zz ?_|refine qp r1 ?_|refine qp r2 ?_|refine qp mu ?_|refine qp sg ?_|refine ⟨_,B3 (y:=s*t) rfl (by omega) (by omega),?_⟩|refine zd ?_ ?_<;>intro h<;>try omega|refine zy ?_|fail)<;>conv=>whnf
 all_goals first|(exfalso;simp_all;done)|exact a5I rfl
theorem a5b (x y:Int) (lx:bl x<=200000) (ly:bl y<=200000):a9 Tryz.prog 112 [bgS (bz x),bgS (bz y)] [] (.tup [bgS (bz (x*y)),a7 .i64 0]) []:=by
 have h:=b6W _ _ _ _ (a5d x) (a5d y) lx ly
 have e:(x.sign*y.sign)*((x.natAbs*y.natAbs:Nat):Int)=x*y:=by
  rw [Int.natCast_mul]
  have h1:=sgm x
  have h2:=sgm y
  grind
 rw [e] at h
 exact h
theorem b5J {x y:Int} (h:(bz x).sg=(bz y).sg∧(bz x).dl=(bz y).dl):x=y:=by
 have:bz x=bz y:=by
  obtain ⟨h1,h2⟩:=h
  cases hx:bz x with
  |mk a b=>
   cases hy:bz y with
   |mk c d=>rw [hx,hy] at h1 h2;simp only at h1 h2;rw [h1,h2]
 rw [← a3B x,←a3B y,this]
set_option maxHeartbeats 4000000 in
theorem ag8 (x y:Int) (lx:bl x<=300000) (ly:bl y<=300000):a9 Tryz.prog 182 [bgS (bz x),bgS (bz y)] [] (a7 .i64 (L8 x y)) []:=by
 have r1:=a0i x lx
 have r2:=a0i y ly
 have hsx:(bz x).sg=x.sign:=rfl
 have hsy:(bz y).sg=y.sign:=rfl
 have sx:=C1 x
 have sy:=C1 y
 have sm:=b7k (bz x) (bz y) (show bl x<=1000000 by omega) (show bl y<=1000000 by omega)
 by_cases he:x=y
 ·subst he
  have sm:a9 Tryz.prog 245 [bgS (bz x),bgS (bz x)] [] (d6 true) []:=by rw [show decide ((bz x).sg=(bz x).sg∧(bz x).dl=(bz x).dl)=true from decide_eq_true ⟨rfl,rfl⟩] at sm;exact sm
  have e0:L8 x x=0:=by unfold L8;rw [if_neg (by omega),if_neg (by omega)]
  rw [e0]
  (refine ac Tryz.func182 ?_;(conv=>whnf);repeat ((first|refine b0x ?_|refine zy ?_);conv=>whnf))
  repeat' (first|refine zz ?_|refine qp r1 ?_|refine qp r2 ?_|refine qp sm ?_|refine zd ?_ ?_<;>intro h<;>try omega|refine zy ?_|fail)<;>conv=>whnf
  all_goals first
   |(exfalso;simp_all;done)
   |exact j1 rfl
 rw [decide_eq_false (fun h=>he (b5J h))] at sm
 have ls:=b0d x.natAbs y.natAbs lx ly
 rcases Int.lt_or_gt_of_ne he with hlt|hgt
 ·have e1:L8 x y=-1:=by unfold L8;rw [if_pos hlt]
  rw [e1]
  by_cases hl:x.natAbs<y.natAbs
  ·rw [decide_eq_true hl] at ls
   (refine ac Tryz.func182 ?_;(conv=>whnf);repeat ((first|refine b0x ?_|refine zy ?_);conv=>whnf))
   repeat' (first|refine zz ?_|refine qp r1 ?_|refine qp r2 ?_|refine qp sm ?_|refine qp ls ?_|refine zd ?_ ?_<;>intro h<;>try omega|refine zy ?_|fail)<;>conv=>whnf
   all_goals first
    |omega
    |(exfalso;simp_all;done)
    |exact j1 rfl
  ·rw [decide_eq_false hl] at ls
   (refine ac Tryz.func182 ?_;(conv=>whnf);repeat ((first|refine b0x ?_|refine zy ?_);conv=>whnf))
   repeat' (first|refine zz ?_|refine qp r1 ?_|refine qp r2 ?_|refine qp sm ?_|refine qp ls ?_|refine zd ?_ ?_<;>intro h<;>try omega|refine zy ?_|fail)<;>conv=>whnf
   all_goals first
    |omega
    |(exfalso;simp_all;done)
    |exact j1 rfl
 ·have e1:L8 x y=1:=by unfold L8;rw [if_neg (by omega),if_pos (by omega)]
  rw [e1]
  by_cases hl:x.natAbs<y.natAbs
  ·rw [decide_eq_true hl] at ls
   (refine ac Tryz.func182 ?_;(conv=>whnf);repeat ((first|refine b0x ?_|refine zy ?_);conv=>whnf))
   repeat' (first|refine zz ?_|refine qp r1 ?_|refine qp r2 ?_|refine qp sm ?_|refine qp ls ?_|refine zd ?_ ?_<;>intro h<;>try omega|refine zy ?_|fail)<;>conv=>whnf
   all_goals first
    |omega
    |(exfalso;simp_all;done)
    |exact j1 rfl
  ·rw [decide_eq_false hl] at ls
   (refine ac Tryz.func182 ?_;(conv=>whnf);repeat ((first|refine b0x ?_|refine zy ?_);conv=>whnf))
   repeat' (first|refine zz ?_|refine qp r1 ?_|refine qp r2 ?_|refine qp sm ?_|refine qp ls ?_|refine zd ?_ ?_<;>intro h<;>try omega|refine zy ?_|fail)<;>conv=>whnf
   all_goals first
    |omega
    |(exfalso;simp_all;done)
    |exact j1 rfl
theorem b0X {x y:Int}:L8 x y=0↔x=y:=by unfold L8;split<;>(try split)<;>omega
theorem aZ3 (f:Fr) (lp:f.p.dl.length<=200000) (lq:f.q.dl.length<=200000):a9 Tryz.prog 111 [frS f] [] (d6 (x4 f)) []:=by
 obtain ⟨p,q⟩:=f
 simp only at lp lq
 have r1:=a2N p (by omega)
 have r2:=a2N q (by omega)
 cases hp:H7 p with
 |false=>
  rw [hp] at r1
  (refine ac Tryz.func111 ?_;(conv=>whnf);repeat ((first|refine b0x ?_|refine zy ?_);conv=>whnf))
  repeat' (first|refine zz ?_|refine qp r1 ?_|refine qp r2 ?_|refine zd ?_ ?_<;>intro h<;>try omega|refine zy ?_|fail)<;>conv=>whnf
  all_goals (first|(exfalso;simp_all;done)|(refine b7 ?_;unfold x4;simp [hp]))
 |true=>
  rw [hp] at r1
  cases hq:H7 q with
  |false=>
   rw [hq] at r2
   (refine ac Tryz.func111 ?_;(conv=>whnf);repeat ((first|refine b0x ?_|refine zy ?_);conv=>whnf))
   repeat' (first|refine zz ?_|refine qp r1 ?_|refine qp r2 ?_|refine zd ?_ ?_<;>intro h<;>try omega|refine zy ?_|fail)<;>conv=>whnf
   all_goals (first|(exfalso;simp_all;done)|(refine b7 ?_;unfold x4;simp [hq]))
  |true=>
   rw [hq] at r2
   obtain ⟨x,rfl⟩:=a9s hp
   obtain ⟨y,rfl⟩:=a9s hq
   have hsg:(bz y).sg=y.sign:=rfl
   have hsg2:(Fr.mk (bz x) (bz y)).q.sg=y.sign:=rfl
   have sy:=C1 y
   have lg:=a9x x y lp lq
   have g:=b6K x y lp lq
   have o:=b6X 1 (by decide) (by decide)
   have c:=ag8 (Int.gcd x y) 1 (by omega) (by have:=o7 (x:=1) (by decide) (by decide);omega)
   have hc:=b0X (x:=Int.gcd x y) (y:=1)
   (refine ac Tryz.func111 ?_;(conv=>whnf);repeat ((first|refine b0x ?_|refine zy ?_);conv=>whnf))
   repeat' (first|refine zz ?_|refine qp r1 ?_|refine qp r2 ?_|refine qp g ?_|refine qp o ?_|refine qp c ?_|refine qp 5 ?_|refine bl0 [5] ?_|refine zd ?_ ?_<;>intro h<;>try omega|refine zy ?_|fail)<;>conv=>whnf
   all_goals first
    |(exfalso;simp_all;done)
    |(refine b7 ?_;unfold x4;simp only [Y8,a3B,Bool.true_and];simp;omega)
theorem a8l (x:Rat) (lx:rl x<=200000):a9 Tryz.prog 111 [frS (fz x)] [] (d6 true) []:=by
 have h:=aZ3 (fz x) (Nat.le_trans (D8 x) lx) (Nat.le_trans (F4 x) lx)
 rw [a91] at h
 exact h
theorem a9g (x y:Rat):0<(x.den:Int)*y.den:=Int.mul_pos (by have:=x.den_pos;omega) (by have:=y.den_pos;omega)
theorem b0l (x y:Rat) (lx:rl x<=60000) (ly:rl y<=60000):a9 Tryz.prog 47 [frS (fz x),frS (fz y)] [] (.tup [frS (fz (x+y)),a7 .i64 0]) []:=by
 have r1:=a8l x (by omega)
 have r2:=a8l y (by omega)
 have x1:=D8 x
 have x2:=F4 x
 have y1:=D8 y
 have y2:=F4 y
 have l1:=D7 x.num y.den
 have l2:=D7 y.num x.den
 have l3:=D7 x.den y.den
 have l4:=a7D (x.num*y.den) (y.num*x.den)
 have t1:=a5b x.num y.den (by omega) (by omega)
 have t2:=a5b y.num x.den (by omega) (by omega)
 have t3:=a5b x.den y.den (by omega) (by omega)
 have a:=b6u (x.num*y.den) (y.num*x.den) (by omega) (by omega)
 have n:=b0e (x.num*y.den+y.num*x.den) (x.den*y.den) (a9g x y) (by omega) (by omega)
 rw [← a8L] at n
 (refine ac Tryz.func47 ?_;(conv=>whnf);repeat ((first|refine b0x ?_|refine zy ?_);conv=>whnf))
 repeat' (first|refine zz ?_|refine qp r1 ?_|refine qp r2 ?_|refine qp t1 ?_|refine qp t2 ?_|refine qp t3 ?_|refine qp a ?_|refine qp n ?_|refine qp 7 ?_|refine qp 5 ?_|refine bl0 [7] ?_|refine bl0 [5] ?_|refine zd ?_ ?_<;>intro h<;>try omega|refine zy ?_|fail)<;>conv=>whnf
 all_goals first
  |(exfalso;simp_all;done)
  |exact U9 rfl
theorem b8M (x y:Rat) (lx:rl x<=60000) (ly:rl y<=60000):a9 Tryz.prog 48 [frS (fz x),frS (fz y)] [] (.tup [frS (fz (x - y)),a7 .i64 0]) []:=by
 have r1:=a8l x (by omega)
 have r2:=a8l y (by omega)
 have x1:=D8 x
 have x2:=F4 x
 have y1:=D8 y
 have y2:=F4 y
 have l1:=D7 x.num y.den
 have l2:=D7 y.num x.den
 have l3:=D7 x.den y.den
 have l4:=a7D (x.num*y.den) (-(y.num*x.den))
 rw [a1F,←Int.sub_eq_add_neg] at l4
 have t1:=a5b x.num y.den (by omega) (by omega)
 have t2:=a5b y.num x.den (by omega) (by omega)
 have t3:=a5b x.den y.den (by omega) (by omega)
 have a:=b95 (x.num*y.den) (y.num*x.den) (by omega) (by omega)
 have n:=b0e (x.num*y.den - y.num*x.den) (x.den*y.den) (a9g x y) (by omega) (by omega)
 have e:Rat.divInt (x.num*y.den - y.num*x.den) (x.den*y.den)=x - y:=by
  have:=a8L x (-y)
  rw [Rat.neg_num,Rat.neg_den,Int.neg_mul,←Int.sub_eq_add_neg,←Rat.sub_eq_add_neg] at this
  exact this.symm
 rw [e] at n
 (refine ac Tryz.func48 ?_;(conv=>whnf);repeat ((first|refine b0x ?_|refine zy ?_);conv=>whnf))
 repeat' (first|refine zz ?_|refine qp r1 ?_|refine qp r2 ?_|refine qp t1 ?_|refine qp t2 ?_|refine qp t3 ?_|refine qp a ?_|refine qp n ?_|refine qp 7 ?_|refine qp 5 ?_|refine bl0 [7] ?_|refine bl0 [5] ?_|refine zd ?_ ?_<;>intro h<;>try omega|refine zy ?_|fail)<;>conv=>whnf
 all_goals first
  |(exfalso;simp_all;done)
  |exact U9 rfl
theorem b6z (x y:Rat) (lx:rl x<=60000) (ly:rl y<=60000):a9 Tryz.prog 237 [frS (fz x),frS (fz y)] [] (.tup [frS (fz (x*y)),a7 .i64 0]) []:=by
 have r1:=a8l x (by omega)
 have r2:=a8l y (by omega)
 have x1:=D8 x
 have x2:=F4 x
 have y1:=D8 y
 have y2:=F4 y
 have l1:=D7 x.num y.num
 have l3:=D7 x.den y.den
 have t1:=a5b x.num y.num (by omega) (by omega)
 have t3:=a5b x.den y.den (by omega) (by omega)
 have n:=b0e (x.num*y.num) (x.den*y.den) (a9g x y) (by omega) (by omega)
 rw [← au3] at n
 (refine ac Tryz.func237 ?_;(conv=>whnf);repeat ((first|refine b0x ?_|refine zy ?_);conv=>whnf))
 repeat' (first|refine zz ?_|refine qp r1 ?_|refine qp r2 ?_|refine qp t1 ?_|refine qp t3 ?_|refine qp n ?_|refine qp 7 ?_|refine qp 5 ?_|refine bl0 [7] ?_|refine bl0 [5] ?_|refine zd ?_ ?_<;>intro h<;>try omega|refine zy ?_|fail)<;>conv=>whnf
 all_goals first
  |(exfalso;simp_all;done)
  |exact U9 rfl
theorem ai5 (x y:Rat) (lx:rl x<=60000) (ly:rl y<=60000):a9 Tryz.prog 169 [frS (fz x),frS (fz y)] [] (a7 .i64 (a0E x y)) []:=by
 have r1:=a8l x (by omega)
 have r2:=a8l y (by omega)
 have x1:=D8 x
 have x2:=F4 x
 have y1:=D8 y
 have y2:=F4 y
 have l1:=D7 x.num y.den
 have l2:=D7 y.num x.den
 have t1:=a5b x.num y.den (by omega) (by omega)
 have t2:=a5b y.num x.den (by omega) (by omega)
 have c:=ag8 (x.num*y.den) (y.num*x.den) (by omega) (by omega)
 rw [aC9] at c
 (refine ac Tryz.func169 ?_;(conv=>whnf);repeat ((first|refine b0x ?_|refine zy ?_);conv=>whnf))
 repeat' (first|refine zz ?_|refine qp r1 ?_|refine qp r2 ?_|refine qp t1 ?_|refine qp t2 ?_|refine qp c ?_|refine qp 7 ?_|refine qp 5 ?_|refine bl0 [7] ?_|refine bl0 [5] ?_|refine zd ?_ ?_<;>intro h<;>try omega|refine zy ?_|fail)<;>conv=>whnf
 all_goals first
  |(exfalso;simp_all;done)
  |exact j1 rfl
theorem a5t (x:Rat) (lx:rl x<=60000):a9 Tryz.prog 46 [frS (fz x)] [] (a7 .i64 (sgR x)) []:=by
 have r1:=a8l x (by omega)
 (refine ac Tryz.func46 ?_;(conv=>whnf);repeat ((first|refine b0x ?_|refine zy ?_);conv=>whnf))
 repeat' (first|refine zz ?_|refine qp r1 ?_|refine zd ?_ ?_<;>intro h<;>try omega|refine zy ?_|fail)<;>conv=>whnf
 all_goals first
  |(exfalso;simp_all;done)
  |exact j1 (a6t x)
theorem b4v {α:Type} {f:α->List T} {l:List α} {k:Nat} {u:α} (hu:l[k]? =some u) {Φ:List T->Prop} (h:Φ (f u)):
 ∃row,(0<=bif true then if 0 > ((k+1:Nat):Int) - 1 then 0 else ((k+1:Nat):Int) - 1 else if 0<((k+1:Nat):Int) - 1 then 0 else ((k+1:Nat):Int) - 1)∧
  (l.map f)[(bif true then if 0 > ((k+1:Nat):Int) - 1 then 0 else ((k+1:Nat):Int) - 1 else if 0<((k+1:Nat):Int) - 1 then 0 else ((k+1:Nat):Int) - 1).toNat]? =some row∧Φ row:=by
 have e:(bif true then if 0 > ((k+1:Nat):Int) - 1 then 0 else ((k+1:Nat):Int) - 1 else if 0<((k+1:Nat):Int) - 1 then 0 else ((k+1:Nat):Int) - 1)=(k:Int):=by
  show (if 0 > ((k+1:Nat):Int) - 1 then 0 else ((k+1:Nat):Int) - 1)=_
  rw [if_neg (by omega)];omega
 rw [e]
 exact ⟨f u,by omega,by rw [Int.toNat_natCast,List.getElem?_map,hu];rfl,h⟩
theorem a2T (l:List (Int × Rat)) (n:Int) (hl:l.length<=1000000) (hB:∀t ∈ l,rl t.2<=200):a9 Tryz.prog 167 [j7 l,a7 .i64 n] [] (d6 (decide (0<=n) && e8 (-1) n l)) []:=by
 have m1:(l.map i9).length=l.length:=by simp
 by_cases h0:n<0
 ·rw [decide_eq_false (by omega),Bool.false_and]
  (refine ac Tryz.func167 ?_;(conv=>whnf);repeat ((first|refine b0x ?_|refine zy ?_);conv=>whnf))
  repeat' (first|refine zz ?_|refine zd ?_ ?_<;>intro h<;>try omega|refine zy ?_|fail)<;>conv=>whnf
  all_goals first
   |omega
   |exact b7 rfl
 rw [decide_eq_true (by omega),Bool.true_and]
 (refine ac Tryz.func167 ?_;(conv=>whnf);repeat ((first|refine b0x ?_|refine zy ?_);conv=>whnf))
 repeat' (first|refine zz ?_|refine zd ?_ ?_<;>intro h<;>try omega|refine zy ?_|fail)<;>conv=>whnf
 all_goals try omega
 refine d7 c8 (fun k=>([j7 l,a7 .i64 n,J,J,J,a7 .i64 k,J,J,J,J,J,J,J,J,J,J,J,J,J,J,J,J,J,J,J,J,J,J,J,J,J,J,J,J,J,J,J,J,J,J,J,J,J,J,J,J,J,J,J,J,J,J,J,J,J,J,J,J,J,J,J,J,J,J,J],[])) l.length (fun k=>e8 (-1) n l=e8 (a2z l k) n (l.drop k)∧-1<=a2z l k) [] ⟨rfl,Int.le_refl _⟩
  ⟨rfl,rfl,trivial,⟨rfl,rfl,rfl,trivial⟩⟩ ?_
 rintro k hk ⟨hI,hJ⟩
 by_cases hlt:k<l.length
 ·obtain ⟨t,ht⟩:∃t,l[k]? =some t:=⟨_,lg0 hlt⟩
  obtain ⟨v,c⟩:=t
  have bc:=hB _ (lg2 ht)
  simp only at bc
  have rr:=a8l c (by omega)
  have sz:(fz c).p.sg=0↔c=0:=by
   show c.num.sign=0↔c=0
   rw [Int.sign_eq_zero_iff_zero]
   exact Rat.num_eq_zero
  rw [a0p ht,e8] at hI
  simp only at hI
  by_cases hok:a2z l k<v∧v<n∧c≠0
  ·rw [decide_eq_true hok.1,decide_eq_true hok.2.1,decide_eq_true hok.2.2] at hI
   simp only [Bool.true_and] at hI
   have hne:(fz (v,c).2).p.sg≠0:=fun h=>hok.2.2 (sz.1 h)
   obtain ⟨q1,q2,_⟩:=hok
   cases k with
   |zero=>
    conv=>whnf
    repeat' (first|refine zz ?_|refine qp rr ?_|refine b9 ht ?_|refine zd ?_ ?_<;>intro h<;>try omega|refine zy ?_|fail)<;>conv=>whnf
    all_goals first
     |omega
     |exact ⟨hlt,⟨by rw [Q6 ht];exact hI,by rw [Q6 ht];simp only;omega⟩,[],rfl,rfl,trivial,⟨rfl,rfl,rfl,trivial⟩⟩
   |succ k=>
    obtain ⟨u,hu⟩:∃u,l[k]? =some u:=⟨_,lg0 (by omega)⟩
    rw [Q6 hu] at q1 hJ
    conv=>whnf
    repeat' (first|refine zz ?_|refine qp rr ?_|refine b9 ht ?_|refine b4v hu ?_|refine zd ?_ ?_<;>intro h<;>try omega|refine zy ?_|fail)<;>conv=>whnf
    all_goals first
     |omega
     |exact ⟨hlt,⟨by rw [Q6 ht];exact hI,by rw [Q6 ht];simp only;omega⟩,[],rfl,rfl,trivial,⟨rfl,rfl,rfl,trivial⟩⟩
  ·have hF:e8 (-1) n l=false:=by
    rw [hI]
    rw [← Bool.not_eq_true]
    simp only [Bool.and_eq_true,decide_eq_true_eq]
    exact fun h=>hok ⟨h.1.1.1,h.1.1.2,h.1.2⟩
   rw [hF]
   have hor:v<=a2z l k∨n<=v∨(fz (v,c).2).p.sg=0:=by
    by_cases q1:a2z l k<v
    ·by_cases q2:v<n
     ·refine .inr (.inr (sz.2 ?_))
      by_cases q3:c=0
      ·exact q3
      ·exact absurd ⟨q1,q2,q3⟩ hok
     ·exact .inr (.inl (by omega))
    ·exact .inl (by omega)
   clear hI hok
   cases k with
   |zero=>
    have e0:a2z l 0=-1:=rfl
    conv=>whnf
    repeat' (first|refine zz ?_|refine qp rr ?_|refine b9 ht ?_|refine zd ?_ ?_<;>intro h<;>try omega|refine zy ?_|fail)<;>conv=>whnf
    all_goals first
     |omega
     |exact b7 rfl
   |succ k=>
    obtain ⟨u,hu⟩:∃u,l[k]? =some u:=⟨_,lg0 (by omega)⟩
    rw [Q6 hu] at hor
    conv=>whnf
    repeat' (first|refine zz ?_|refine qp rr ?_|refine b9 ht ?_|refine b4v hu ?_|refine zd ?_ ?_<;>intro h<;>try omega|refine zy ?_|fail)<;>conv=>whnf
    all_goals first
     |omega
     |exact b7 rfl
 ·rw [List.drop_of_length_le (by omega)] at hI
  have hI:e8 (-1) n l=true:=hI
  rw [hI]
  conv=>whnf
  repeat' (first|refine zz ?_|refine zd ?_ ?_<;>intro h<;>try omega|refine zy ?_|fail)<;>conv=>whnf
  all_goals first
   |omega
   |exact b7 rfl
theorem b8w (w:C2) (n:Int) (hl:w.terms.length<=1000000) (hB:∀t ∈ w.terms,rl t.2<=200) (hv:rl w.value<=200):a9 Tryz.prog 269 [ax5 w,a7 .i64 n] [] (d6 (decide (0<=n) && s9 n w)) []:=by
 have rt:=a2T w.terms n hl hB
 have rv:=a8l w.value (by omega)
 unfold s9
 cases h1:decide (0<=n)<;>cases h2:e8 (-1) n w.terms<;>rw [h1,h2] at rt<;>
 ·(refine ac Tryz.func269 ?_;(conv=>whnf);repeat ((first|refine b0x ?_|refine zy ?_);conv=>whnf))
  repeat' (first|refine zz ?_|refine qp rt ?_|refine qp rv ?_|refine zd ?_ ?_<;>intro h<;>try omega|refine zy ?_|fail)<;>conv=>whnf
  all_goals first
   |(exfalso;simp_all;done)
   |(refine b7 ?_;simp;done)
   |(refine b7 ?_;simp;omega)
theorem ar1 (s:f8) (hb:a39 s):a9 Tryz.prog 218 [Q3 s] [] (d6 (g6 s)) []:=by
 have m1:(s.rows.map w5).length=s.rows.length:=by simp
 have l1:=hb.n0
 by_cases h0:¬(0<=s.n∧s.n<=1500∧s.rows.length<=6000)
 ·have e1:g6 s=false:=by
   unfold g6
   rw [← Bool.not_eq_true]
   simp only [Bool.and_eq_true,decide_eq_true_eq]
   exact fun h=>h0 ⟨h.1.1.1,h.1.1.2,h.1.2⟩
  rw [e1]
  (refine ac Tryz.func218 ?_;(conv=>whnf);repeat ((first|refine b0x ?_|refine zy ?_);conv=>whnf))
  repeat' (first|refine zz ?_|refine zd ?_ ?_<;>intro h<;>try omega|refine zy ?_|fail)<;>conv=>whnf
  all_goals first
   |omega
   |exact b7 rfl
 obtain ⟨c1,c2,c3⟩:=Decidable.not_not.1 h0
 have e1:g6 s=s.rows.all (s9 s.n):=by
  unfold g6
  rw [decide_eq_true c1,decide_eq_true c2,decide_eq_true c3];rfl
 rw [e1]
 clear h0
 (refine ac Tryz.func218 ?_;(conv=>whnf);repeat ((first|refine b0x ?_|refine zy ?_);conv=>whnf))
 repeat' (first|refine zz ?_|refine zd ?_ ?_<;>intro h<;>try omega|refine zy ?_|fail)<;>conv=>whnf
 all_goals try omega
 refine d7 c8 (fun k=>([J,S.c (C.t (T.ptr [ti s.n,E1 s.rows])),J,a7 .i64 k,J,J,J,J,J,J,J,J,J,J,J,J,J,J,J,J,J,J,J,J,J,J,J,J,J,J,J,J,J,J],[])) s.rows.length (fun k=>(s.rows.take k).all (s9 s.n)=true) [] rfl
  ⟨rfl,rfl,trivial,⟨rfl,rfl,trivial⟩⟩ ?_
 intro k hk hI
 by_cases hlt:k<s.rows.length
 ·obtain ⟨w,hw⟩:∃w,s.rows[k]? =some w:=⟨_,lg0 hlt⟩
  obtain ⟨b1,b2,b3⟩:=hb.t w (lg2 hw)
  have rt:=b8w w s.n (by omega) b2 b3
  rw [decide_eq_true c1,Bool.true_and] at rt
  cases hrt:s9 s.n w with
  |false=>
   rw [hrt] at rt
   rw [t7 hw hrt]
   conv=>whnf
   repeat' (first|refine zz ?_|refine qp rt ?_|refine b9 hw ?_|refine zd ?_ ?_<;>intro h<;>try omega|refine zy ?_|fail)<;>conv=>whnf
   all_goals first
    |omega
    |(exfalso;simp_all;done)
    |exact b7 rfl
  |true=>
   rw [hrt] at rt
   conv=>whnf
   repeat' (first|refine zz ?_|refine qp rt ?_|refine b9 hw ?_|refine zd ?_ ?_<;>intro h<;>try omega|refine zy ?_|fail)<;>conv=>whnf
   all_goals first
    |omega
    |(exfalso;simp_all;done)
    |exact ⟨hlt,by rw [n6 hw,hI,hrt];rfl,[],rfl,rfl,trivial,⟨rfl,rfl,trivial⟩⟩
 ·rw [lg4 (by omega)] at hI
  rw [hI]
  conv=>whnf
  repeat' (first|refine zz ?_|refine zd ?_ ?_<;>intro h<;>try omega|refine zy ?_|fail)<;>conv=>whnf
  all_goals first
   |omega
   |exact b7 rfl
theorem b5D (z:List Fr) (hl:z.length<=1000000) (hd:∀f ∈ z,f.p.dl.length<=200000∧f.q.dl.length<=200000):a9 Tryz.prog 219 [i8 z] [] (d6 (z.all x4)) []:=by
 have m1:(z.map k7).length=z.length:=by simp
 (refine ac Tryz.func219 ?_;(conv=>whnf);repeat ((first|refine b0x ?_|refine zy ?_);conv=>whnf))
 repeat' (first|refine zz ?_|refine zd ?_ ?_<;>intro h<;>try omega|refine zy ?_|fail)<;>conv=>whnf
 refine d7 c8 (fun k=>([i8 z,J,J,a7 .i64 k,J,J,J,J,J,J,J,J,J,J,J,J],[])) z.length (fun k=>(z.take k).all x4=true) [] rfl
  ⟨rfl,rfl,trivial,⟨rfl,rfl,trivial⟩⟩ ?_
 intro k hk hI
 by_cases hlt:k<z.length
 ·obtain ⟨f,hf⟩:∃f,z[k]? =some f:=⟨_,lg0 hlt⟩
  have q:=hd f (lg2 hf)
  have rr:=aZ3 f q.1 q.2
  cases hff:x4 f with
  |true=>
   rw [hff] at rr
   conv=>whnf
   repeat' (first|refine zz ?_|refine qp rr ?_|refine b9 hf ?_|refine zd ?_ ?_<;>intro h<;>try omega|refine zy ?_|fail)<;>conv=>whnf
   all_goals first
    |omega
    |exact ⟨hlt,by rw [n6 hf,hI,hff];rfl,[],rfl,rfl,trivial,⟨rfl,rfl,trivial⟩⟩
  |false=>
   rw [hff] at rr
   rw [t7 hf hff]
   conv=>whnf
   repeat' (first|refine zz ?_|refine qp rr ?_|refine b9 hf ?_|refine zd ?_ ?_<;>intro h<;>try omega|refine zy ?_|fail)<;>conv=>whnf
   all_goals first
    |omega
    |exact b7 rfl
 ·rw [lg4 (by omega)] at hI
  rw [hI]
  conv=>whnf
  repeat' (first|refine zz ?_|refine zd ?_ ?_<;>intro h<;>try omega|refine zy ?_|fail)<;>conv=>whnf
  all_goals first
   |omega
   |exact b7 rfl
theorem aB2 (z:List Rat) (hl:z.length<=1000000) (hd:∀v ∈ z,rl v<=200000):a9 Tryz.prog 219 [i8 (z.map fz)] [] (d6 true) []:=by
 have pt:=b5D (z.map fz) (by simpa using hl) (fun f hf=>by
  obtain ⟨x,hx,rfl⟩:=List.mem_map.1 hf
  have:=hd x hx
  have a:=D8 x
  have b:=F4 x
  exact ⟨by show bl x.num<=_;omega,by show bl x.den<=_;omega⟩)
 rw [a10] at pt
 exact pt
set_option maxHeartbeats 1000000 in
theorem b5t (l:List (Int × Rat)) (z:List Rat) (hl:l.length<=1000000) (h1:∀t ∈ l,rl t.2<=200) (h2:∀v ∈ z,rl v<=40000) (hS:∀k,rl (j9 (l.take k) z)<=60000) (hz:z.length<=1000000) (hr:e8 (-1) z.length l=true):
 a9 Tryz.prog 165 [j7 l,i8 (z.map fz)] [] (.tup [frS (fz (j9 l z)),d6 true]) []:=by
 have m1:(l.map i9).length=l.length:=by simp
 have m2:((z.map fz).map k7).length=z.length:=by simp
 have i0:=a3G 0 (by decide) (by decide)
 have rt:=a2T l z.length hl h1
 rw [decide_eq_true (by omega),hr] at rt
 have rt2:a9 Tryz.prog 167 [j7 l,a7 .i64 (((z.map fz).map k7).length:Nat)] [] (d6 (true && true)) []:=by rw [m2];exact rt
 have pt:=aB2 z hz (fun v hv=>by have:=h2 v hv;omega)
 (refine ac Tryz.func165 ?_;(conv=>whnf);repeat ((first|refine b0x ?_|refine zy ?_);conv=>whnf))
 repeat' (first|refine zz ?_|refine qp rt2 ?_|refine qp pt ?_|refine qp i0 ?_|refine zd ?_ ?_<;>intro h<;>try omega|refine zy ?_|fail)<;>conv=>whnf
 all_goals try (exfalso;simp_all;done)
 refine d7 c8 (fun k=>([j7 l,i8 (z.map fz),J,J,S.c (C.ptr 0 0 0),J,S.c (C.ptr 1 0 0),a7 .i64 k,J,J,J,J,J,J,J,J,J,J,J,J,J,J,J,J,J,J,J,J,J,J,J,J,J,J,J,J,J,J,J,J,J,J,J,J,J,J,J,J,J,J,J,J],[frB E5,frB (fz (j9 (l.take k) z))])) l.length (fun _=>True) [some 0,some 1] trivial
  ⟨rfl,rfl,⟨⟨rfl,rfl,rfl,.inr ⟨⟨rfl,rfl,rfl,rfl,trivial⟩,trivial⟩⟩,⟨rfl,rfl,rfl,.inl ⟨rfl,u3 _⟩⟩,trivial⟩,⟨rfl,rfl,⟨rfl,rfl,rfl⟩,⟨rfl,rfl,rfl⟩,rfl,trivial⟩⟩ ?_
 intro k hk _
 by_cases hlt:k<l.length
 ·obtain ⟨t,ht⟩:∃t,l[k]? =some t:=⟨_,lg0 hlt⟩
  obtain ⟨v,c⟩:=t
  have hv:=a7v hr _ (lg2 ht)
  simp only at hv
  have bc:=h1 _ (lg2 ht)
  simp only at bc
  obtain ⟨x,hx⟩:∃x,z[v.toNat]? =some x:=⟨_,lg0 (by omega)⟩
  have hxd:z.getD v.toNat 0=x:=by rw [lg3,hx];rfl
  have bx:=h2 x (lg2 hx)
  have b3:=a29 c x
  have bs:=hS k
  have mu:=b6z c x (by omega) (by omega)
  have ad:=b0l (j9 (l.take k) z) (c*x) (by omega) (by omega)
  have e:j9 (l.take k) z+c*x=j9 (l.take (k+1)) z:=by
   have:l.take (k+1)=l.take k++[(v,c)]:=by rw [List.take_add_one,ht];rfl
   rw [this,R7,←hxd]
  rw [e] at ad
  have xz:(z.map fz)[v.toNat]? =some (fz x):=by rw [List.getElem?_map,hx];rfl
  conv=>whnf
  repeat' (first|refine zz ?_|refine qp mu ?_|refine qp ad ?_|refine qp 16 ?_|refine qp 5 ?_|refine b9 ht ?_|refine p9 (by omega) xz ?_|refine bl0 [16] ?_|refine bl0 [5] ?_|refine zd ?_ ?_<;>intro h<;>try omega|refine zy ?_|fail)<;>conv=>whnf
  all_goals first
   |omega
   |exact ⟨hlt,trivial,[some 0,some 1],rfl,rfl,⟨⟨rfl,rfl,rfl,.inl ⟨rfl,u3 _⟩⟩,⟨rfl,rfl,rfl,.inl ⟨rfl,u3 _⟩⟩,trivial⟩,⟨rfl,rfl,⟨rfl,rfl,rfl⟩,⟨rfl,rfl,rfl⟩,rfl,trivial⟩⟩
 ·have hke:k=l.length:=by omega
  subst hke
  rw [lg4 (Nat.le_refl _)]
  conv=>whnf
  repeat' (first|refine zz ?_|refine zd ?_ ?_<;>intro h<;>try omega|refine zy ?_|fail)<;>conv=>whnf
  all_goals first
   |omega
   |exact j2 ⟨⟨rfl,rfl,rfl,rfl,trivial⟩,rfl,trivial⟩
structure PtB (s:f8) (z:List Rat):Prop where
 v:∀v ∈ z,rl v<=40000
 S:∀w ∈ s.rows,∀k,rl (j9 (w.terms.take k) z)<=50000
 l:z.length<=1000000
theorem aR8 (w:C2) (z:List Rat) (hl:w.terms.length<=1000000) (h1:∀t ∈ w.terms,rl t.2<=200) (h3:rl w.value<=200) (h2:∀v ∈ z,rl v<=40000) (hS:∀k,rl (j9 (w.terms.take k) z)<=50000) (hz:z.length<=1000000)
 (hr:e8 (-1) z.length w.terms=true):a9 Tryz.prog 220 [ax5 w,i8 (z.map fz)] [] (d6 (O3 w z)) []:=by
 have va:=b5t w.terms z hl h1 h2 (fun k=>by have:=hS k;omega) hz hr
 have bv:=hS w.terms.length
 rw [lg4 (Nat.le_refl _)] at bv
 have c:=ai5 (j9 w.terms z) w.value (by omega) (by omega)
 have k1:=a8H (x:=j9 w.terms z) (y:=w.value)
 have k2:=a0A (x:=j9 w.terms z) (y:=w.value)
 have hro:=a12 (w:=w) (z:=z)
 rw [← k1,←k2] at hro
 have e:d6 (O3 w z)=d6 (decide ((a0E (j9 w.terms z) w.value<0->w.kind=1)∧(a0E (j9 w.terms z) w.value > 0->w.kind=0))):=by
  congr 1
  rw [Bool.eq_iff_iff,hro,decide_eq_true_iff]
 rw [e]
 clear hro e k1 k2
 generalize a0E (j9 w.terms z) w.value=U at c
 (refine ac Tryz.func220 ?_;(conv=>whnf);repeat ((first|refine b0x ?_|refine zy ?_);conv=>whnf))
 repeat' (first|refine zz ?_|refine qp va ?_|refine qp c ?_|refine qp 5 ?_|refine bl0 [5] ?_|refine zd ?_ ?_<;>intro h<;>try omega|refine zy ?_|fail)<;>conv=>whnf
 all_goals first
  |omega
  |(exfalso;simp_all;done)
  |(refine b7 ?_;simp;omega)
theorem b4W (s:f8) (hb:a39 s) (hr:g6 s=true) (Z:List Rat) (hp:PtB s Z):
 a9 Tryz.prog 144 [Q3 s,i8 (Z.map fz)] [] (d6 (j0 s Z)) []:=by
 have m1:(s.rows.map w5).length=s.rows.length:=by simp
 have m2:((Z.map fz).map k7).length=Z.length:=by simp
 have l1:=hb.n0
 have l2:=hp.l
 have lr:=ar1 s hb
 rw [hr] at lr
 have pt:=aB2 Z hp.l (fun v hv=>by have:=hp.v v hv;omega)
 by_cases hn:(Z.length:Int)≠s.n
 ·have e2:j0 s Z=false:=by unfold j0;rw [decide_eq_false hn];simp
  rw [e2]
  (refine ac Tryz.func144 ?_;(conv=>whnf);repeat ((first|refine b0x ?_|refine zy ?_);conv=>whnf))
  repeat' (first|refine zz ?_|refine qp lr ?_|refine qp pt ?_|refine zd ?_ ?_<;>intro h<;>try omega|refine zy ?_|fail)<;>conv=>whnf
  all_goals first
   |omega
   |exact b7 rfl
 have hn:(Z.length:Int)=s.n:=by omega
 have e2:j0 s Z=(Z.all (fun v=>decide (0<=v)) && s.rows.all (fun w=>O3 w Z)):=by unfold j0;rw [hr,decide_eq_true hn];simp
 rw [e2]
 (refine ac Tryz.func144 ?_;(conv=>whnf);repeat ((first|refine b0x ?_|refine zy ?_);conv=>whnf))
 repeat' (first|refine zz ?_|refine qp lr ?_|refine qp pt ?_|refine zd ?_ ?_<;>intro h<;>try omega|refine zy ?_|fail)<;>conv=>whnf
 all_goals try omega
 refine d7 c8 (fun k=>([J,i8 (Z.map fz),S.c (C.t (T.ptr [ti s.n,E1 s.rows])),J,J,a7 .i64 k,J,J,J,J,J,J,J,J,J,J,J,J,J,J,J,J,J,J,J,J,J,J,J,J,J,J,J,J,J,J,J,J,J,J,J,J,J,J,J,J,J,J,J],[])) Z.length (fun k=>(Z.take k).all (fun v=>decide (0<=v))=true) [] rfl
  ⟨rfl,rfl,trivial,⟨rfl,rfl,rfl,trivial⟩⟩ ?_
 intro k hk hI
 by_cases hlt:k<Z.length
 ·obtain ⟨x,hx⟩:∃x,Z[k]? =some x:=⟨_,lg0 hlt⟩
  have bx:=hp.v x (lg2 hx)
  have sg:=a5t x (by omega)
  have sn:=b0n (x:=x)
  conv=>whnf
  repeat' (first|refine zz ?_|refine qp sg ?_|refine b9 (Q7 Z hx) ?_|refine zd ?_ ?_<;>intro h<;>try omega|refine zy ?_|fail)<;>conv=>whnf
  all_goals first
   |omega
   |(have h0:¬sgR x<0:=by omega
     exact ⟨hlt,by rw [n6 hx,hI];simpa using Rat.not_lt.1 (fun h=>h0 (sn.2 h)),[],rfl,rfl,trivial,⟨rfl,rfl,rfl,trivial⟩⟩)
   |(have h0:sgR x<0:=by omega
     have hF:Z.all (fun v=>decide (0<=v))=false:=t7 hx (decide_eq_false (Rat.not_le.2 (sn.1 h0)))
     refine b7 ?_;rw [hF];rfl)
 ·have hA:Z.all (fun v=>decide (0<=v))=true:=by rw [← hI,lg4 (by omega)]
  rw [hA,Bool.true_and]
  conv=>whnf
  repeat' (first|refine zz ?_|refine zd ?_ ?_<;>intro h<;>try omega|refine zy ?_|fail)<;>conv=>whnf
  all_goals try omega
  clear hI hlt hk
  refine d7 c8 (fun k=>([J,i8 (Z.map fz),S.c (C.t (T.ptr [ti s.n,E1 s.rows])),J,J,J,a7 .i64 k,J,J,J,J,J,J,J,J,J,J,J,J,J,J,J,J,J,J,J,J,J,J,J,J,J,J,J,J,J,J,J,J,J,J,J,J,J,J,J,J,J,J],[])) s.rows.length (fun k=>(s.rows.take k).all (fun w=>O3 w Z)=true) [] rfl
   ⟨rfl,rfl,trivial,⟨rfl,rfl,rfl,trivial⟩⟩ ?_
  intro k hk hI
  by_cases hlt:k<s.rows.length
  ·obtain ⟨w,hw⟩:∃w,s.rows[k]? =some w:=⟨_,lg0 hlt⟩
   obtain ⟨b1,b2,b3⟩:=hb.t w (lg2 hw)
   have hrw:s9 s.n w=true:=by
    unfold g6 at hr
    simp only [Bool.and_eq_true,List.all_eq_true] at hr
    exact hr.2 w (lg2 hw)
   have hrt:e8 (-1) Z.length w.terms=true:=by
    unfold s9 at hrw
    simp only [Bool.and_eq_true] at hrw
    rw [hn];exact hrw.1.1
   have ho:=aR8 w Z (by omega) b2 b3 hp.v (hp.S w (lg2 hw)) hp.l hrt
   cases hro:O3 w Z with
   |true=>
    rw [hro] at ho
    conv=>whnf
    repeat' (first|refine zz ?_|refine qp ho ?_|refine b9 hw ?_|refine zd ?_ ?_<;>intro h<;>try omega|refine zy ?_|fail)<;>conv=>whnf
    all_goals first
     |omega
     |exact ⟨hlt,by rw [n6 hw,hI,hro];rfl,[],rfl,rfl,trivial,⟨rfl,rfl,rfl,trivial⟩⟩
   |false=>
    rw [hro] at ho
    rw [t7 hw hro]
    conv=>whnf
    repeat' (first|refine zz ?_|refine qp ho ?_|refine b9 hw ?_|refine zd ?_ ?_<;>intro h<;>try omega|refine zy ?_|fail)<;>conv=>whnf
    all_goals first
     |omega
     |exact b7 rfl
  ·rw [lg4 (by omega)] at hI
   rw [hI]
   conv=>whnf
   repeat' (first|refine zz ?_|refine zd ?_ ?_<;>intro h<;>try omega|refine zy ?_|fail)<;>conv=>whnf
   all_goals first
    |omega
    |exact b7 rfl
theorem b2E (s:f8) (hb:a39 s) (hr:g6 s=true) (Z:List Rat) (hp:PtB s Z):
 a9 Tryz.prog 43 [Q3 s,i8 (Z.map fz)] [] (d6 (j0 s Z)) []:=by
 have m1:(s.rows.map w5).length=s.rows.length:=by simp
 have m2:((Z.map fz).map k7).length=Z.length:=by simp
 have l1:=hb.n0
 have l2:=hp.l
 have lr:=a3W s hb
 rw [hr] at lr
 have pt:=au5 (Z.map fz) (by simpa using hp.l) (fun f hf=>by
  obtain ⟨x,hx,rfl⟩:=List.mem_map.1 hf
  have:=hp.v x hx
  have a:=D8 x
  have b:=F4 x
  exact ⟨by show bl x.num<=_;omega,by show bl x.den<=_;omega⟩)
 rw [a10] at pt
 by_cases hn:(Z.length:Int)≠s.n
 ·have e2:j0 s Z=false:=by unfold j0;rw [decide_eq_false hn];simp
  rw [e2]
  (refine ac Tryz.func43 ?_;(conv=>whnf);repeat ((first|refine b0x ?_|refine zy ?_);conv=>whnf))
  repeat' (first|refine zz ?_|refine qp lr ?_|refine qp pt ?_|refine zd ?_ ?_<;>intro h<;>try omega|refine zy ?_|fail)<;>conv=>whnf
  all_goals first
   |omega
   |exact b7 rfl
 have hn:(Z.length:Int)=s.n:=by omega
 have e2:j0 s Z=(Z.all (fun v=>decide (0<=v)) && s.rows.all (fun w=>O3 w Z)):=by unfold j0;rw [hr,decide_eq_true hn];simp
 rw [e2]
 (refine ac Tryz.func43 ?_;(conv=>whnf);repeat ((first|refine b0x ?_|refine zy ?_);conv=>whnf))
 repeat' (first|refine zz ?_|refine qp lr ?_|refine qp pt ?_|refine zd ?_ ?_<;>intro h<;>try omega|refine zy ?_|fail)<;>conv=>whnf
 all_goals try omega
 refine d7 c8 (fun k=>([J,i8 (Z.map fz),S.c (C.t (T.ptr [ti s.n,E1 s.rows])),J,J,J,J,J,J,J,J,J,J,J,J,J,J,J,J,J,J,J,J,J,J,i8 (Z.map fz),a7 .i64 Z.length,a7 .i64 k,J,J,J,J,J,J,J,J,J,J,J,J,J,J,J,J,J,J,J,J,J,J,J,J,J,J,J,J,J,J,J,J,J,J,J,J,J,J],[])) Z.length (fun k=>(Z.take k).all (fun v=>decide (0<=v))=true) [] rfl
  ⟨rfl,rfl,trivial,⟨rfl,rfl,rfl,c6 (by simp),rfl,trivial⟩⟩ ?_
 intro k hk hI
 by_cases hlt:k<Z.length
 ·obtain ⟨x,hx⟩:∃x,Z[k]? =some x:=⟨_,lg0 hlt⟩
  have bx:=hp.v x (lg2 hx)
  have sg:=Z4 x (by omega)
  have sn:=b0n (x:=x)
  conv=>whnf
  repeat' (first|refine zz ?_|refine qp sg ?_|refine b9 (Q7 Z hx) ?_|refine zd ?_ ?_<;>intro h<;>try omega|refine zy ?_|fail)<;>conv=>whnf
  all_goals first
   |omega
   |(have h0:¬sgR x<0:=by omega
     exact ⟨hlt,by rw [n6 hx,hI];simpa using Rat.not_lt.1 (fun h=>h0 (sn.2 h)),[],rfl,rfl,trivial,⟨rfl,rfl,rfl,rfl,rfl,trivial⟩⟩)
   |(have h0:sgR x<0:=by omega
     have hF:Z.all (fun v=>decide (0<=v))=false:=t7 hx (decide_eq_false (Rat.not_le.2 (sn.1 h0)))
     refine b7 ?_;rw [hF];rfl)
 ·have hA:Z.all (fun v=>decide (0<=v))=true:=by rw [← hI,lg4 (by omega)]
  rw [hA,Bool.true_and]
  conv=>whnf
  repeat' (first|refine zz ?_|refine zd ?_ ?_<;>intro h<;>try omega|refine zy ?_|fail)<;>conv=>whnf
  all_goals try omega
  clear hI hlt hk
  refine d7 c8 (fun k=>([J,i8 (Z.map fz),J,J,J,J,J,J,J,J,J,J,J,J,J,J,J,J,J,J,J,J,J,J,J,J,J,J,J,J,J,J,J,J,J,J,S.c (C.t (E1 s.rows)),a7 .i64 s.rows.length,a7 .i64 k,J,J,J,J,J,J,J,J,J,J,J,J,J,J,J,J,J,J,J,J,J,J,J,J,J,J,J],[])) s.rows.length (fun k=>(s.rows.take k).all (fun w=>O3 w Z)=true) [] rfl
   ⟨rfl,rfl,trivial,⟨rfl,rfl,c6 (by simp),rfl,trivial⟩⟩ ?_
  intro k hk hI
  by_cases hlt:k<s.rows.length
  ·obtain ⟨w,hw⟩:∃w,s.rows[k]? =some w:=⟨_,lg0 hlt⟩
   obtain ⟨b1,b2,b3⟩:=hb.t w (lg2 hw)
   have hrw:s9 s.n w=true:=by
    unfold g6 at hr
    simp only [Bool.and_eq_true,List.all_eq_true] at hr
    exact hr.2 w (lg2 hw)
   have hrt:e8 (-1) Z.length w.terms=true:=by
    unfold s9 at hrw
    simp only [Bool.and_eq_true] at hrw
    rw [hn];exact hrw.1.1
   have hS:=hp.S w (lg2 hw)
   have va:=az2 w.terms Z (by omega) (fun t ht=>by have:=b2 t ht;omega) hp.v (fun k=>by have:=hS k;omega) (by omega) hrt
   have bv:=hS w.terms.length
   rw [lg4 (Nat.le_refl _)] at bv
   have c:=U4 (j9 w.terms Z) w.value (by omega) (by omega)
   have k1:=a8H (x:=j9 w.terms Z) (y:=w.value)
   have k2:=a0A (x:=j9 w.terms Z) (y:=w.value)
   have hro:=a12 (w:=w) (z:=Z)
   rw [← k1,←k2] at hro
   generalize a0E (j9 w.terms Z) w.value=U at c hro
   by_cases hok:(U<0->w.kind=1)∧(U > 0->w.kind=0)
   ·have hT:=hro.2 hok
    obtain ⟨q1,q2⟩:=hok
    conv=>whnf
    repeat' (first|refine zz ?_|refine qp va ?_|refine qp c ?_|refine b9 hw ?_|refine zd ?_ ?_<;>intro h<;>try omega|refine zy ?_|fail)<;>conv=>whnf
    all_goals first
     |omega
     |exact ⟨hlt,by rw [n6 hw,hI,hT];rfl,[],rfl,rfl,trivial,⟨rfl,rfl,rfl,rfl,trivial⟩⟩
   ·have hF:O3 w Z=false:=by rw [← Bool.not_eq_true];exact fun h=>hok (hro.1 h)
    rw [t7 hw hF]
    have hor:(U<0∧w.kind≠1)∨(U > 0∧w.kind≠0):=by omega
    clear hro hok
    conv=>whnf
    repeat' (first|refine zz ?_|refine qp va ?_|refine qp c ?_|refine b9 hw ?_|refine zd ?_ ?_<;>intro h<;>try omega|refine zy ?_|fail)<;>conv=>whnf
    all_goals first
     |omega
     |exact b7 rfl
  ·rw [lg4 (by omega)] at hI
   rw [hI]
   conv=>whnf
   repeat' (first|refine zz ?_|refine zd ?_ ?_<;>intro h<;>try omega|refine zy ?_|fail)<;>conv=>whnf
   all_goals first
    |omega
    |exact b7 rfl
theorem b05 (Y:List Rat) (n:Nat) (hl:Y.length<=1000000) (h:∀v ∈ Y,rl v<=200000):a9 Tryz.prog 238 [i8 (Y.map fz),a7 .i64 n] [] (d6 (decide (Y.length=n))) []:=by
 have m2:((Y.map fz).map k7).length=Y.length:=by simp
 (refine ac Tryz.func238 ?_;(conv=>whnf);repeat ((first|refine b0x ?_|refine zy ?_);conv=>whnf))
 repeat' (first|refine zz ?_|refine zd ?_ ?_<;>intro h<;>try omega|refine zy ?_|fail)<;>conv=>whnf
 refine d7 c8 (fun k=>([i8 (Y.map fz),a7 .i64 n,J,J,J,a7 .i64 k,J,J,J,J,J,J,J,J,J,J,J,J,J,J,J,J],[])) Y.length (fun _=>True) [] trivial
  ⟨rfl,rfl,trivial,⟨rfl,rfl,rfl,trivial⟩⟩ ?_
 intro k hk _
 by_cases hlt:k<Y.length
 ·obtain ⟨x,hx⟩:∃x,Y[k]? =some x:=⟨_,lg0 hlt⟩
  have bx:=h x (lg2 hx)
  have rr:=a8l x (by omega)
  conv=>whnf
  repeat' (first|refine zz ?_|refine qp rr ?_|refine b9 (Q7 Y hx) ?_|refine zd ?_ ?_<;>intro h<;>try omega|refine zy ?_|fail)<;>conv=>whnf
  all_goals first
   |omega
   |(exfalso;simp_all;done)
   |exact ⟨hlt,trivial,[],rfl,rfl,trivial,⟨rfl,rfl,rfl,trivial⟩⟩
 ·conv=>whnf
  repeat' (first|refine zz ?_|refine zd ?_ ?_<;>intro h<;>try omega|refine zy ?_|fail)<;>conv=>whnf
  all_goals first
   |omega
   |(refine b7 (decide_eq_true ?_).symm;omega)
   |(refine b7 (decide_eq_false ?_).symm;omega)
def yN (Y:List Rat) (i:Nat):Rat:=Y.getD i 0
theorem a9V {Y:List Rat} {k:Nat} {x:Rat} (h:Y[k]? =some x):yN Y k=x:=by unfold yN;rw [lg3,h];rfl
def sgB (s:f8) (Y:List Rat) (i:Nat):Bool:=!((decide ((v7 s i).kind=0) && decide (yN Y i<0)) || (decide ((v7 s i).kind=1) && decide (0<yN Y i)))
def Z3 (s:f8) (Y:List Rat):Bool:=decide (Y.length=s.rows.length) && (List.range s.rows.length).all (sgB s Y)
theorem a50 {n k:Nat} (h:k<n):(List.range n)[k]? =some k:=by simp [h]
theorem a1c {f:Nat->Bool} {k:Nat}:(List.range (k+1)).all f=((List.range k).all f && f k):=by rw [List.range_succ,List.all_append];simp
theorem a3c {f:Nat->Bool} {n k:Nat} (h:k<n) (hf:f k=false):(List.range n).all f=false:=t7 (a50 h) hf
theorem b3F (s:f8) (hb:a39 s) (hr:g6 s=true) (Y:List Rat) (hl:Y.length<=1000000) (hy:∀v ∈ Y,rl v<=50000):
 a9 Tryz.prog 166 [Q3 s,i8 (Y.map fz)] [] (d6 (Z3 s Y)) []:=by
 have m1:(s.rows.map w5).length=s.rows.length:=by simp
 have m2:((Y.map fz).map k7).length=Y.length:=by simp
 have l1:=hb.n0
 have lr:=ar1 s hb
 rw [hr] at lr
 have fr:=b05 Y s.rows.length hl (fun v hv=>by have:=hy v hv;omega)
 have fr2:a9 Tryz.prog 238 [i8 (Y.map fz),a7 .i64 ((s.rows.map w5).length:Nat)] [] (d6 (decide (Y.length=s.rows.length))) []:=by rw [m1];exact fr
 by_cases hn:Y.length≠s.rows.length
 ·have e2:Z3 s Y=false:=by unfold Z3;rw [decide_eq_false hn];simp
  rw [decide_eq_false hn] at fr2
  rw [e2]
  (refine ac Tryz.func166 ?_;(conv=>whnf);repeat ((first|refine b0x ?_|refine zy ?_);conv=>whnf))
  repeat' (first|refine zz ?_|refine qp lr ?_|refine qp fr2 ?_|refine zd ?_ ?_<;>intro h<;>try omega|refine zy ?_|fail)<;>conv=>whnf
  all_goals first
   |omega
   |(exfalso;simp_all;done)
   |exact b7 rfl
 have hn:Y.length=s.rows.length:=by omega
 have e2:Z3 s Y=(List.range s.rows.length).all (sgB s Y):=by unfold Z3;rw [decide_eq_true hn];simp
 rw [e2]
 rw [decide_eq_true hn] at fr2
 (refine ac Tryz.func166 ?_;(conv=>whnf);repeat ((first|refine b0x ?_|refine zy ?_);conv=>whnf))
 repeat' (first|refine zz ?_|refine qp lr ?_|refine qp fr2 ?_|refine zd ?_ ?_<;>intro h<;>try omega|refine zy ?_|fail)<;>conv=>whnf
 all_goals try (exfalso;simp_all;done)
 refine d7 c8 (fun k=>([J,i8 (Y.map fz),S.c (C.t (T.ptr [ti s.n,E1 s.rows])),J,J,a7 .i64 k,J,J,J,J,J,J,J,J,J,J,J,J,J,J,J,J,J,J,J,J,J,J,J,J,J,J,J,J,J,J,J,J,J,J,J,J,J,J,J,J,J,J,J,J,J,J,J],[])) Y.length (fun k=>(List.range k).all (sgB s Y)=true) [] rfl
  ⟨rfl,rfl,trivial,⟨rfl,rfl,rfl,trivial⟩⟩ ?_
 intro k hk hI
 by_cases hlt:k<Y.length
 ·obtain ⟨x,hx⟩:∃x,Y[k]? =some x:=⟨_,lg0 hlt⟩
  obtain ⟨w,hw⟩:∃w,s.rows[k]? =some w:=⟨_,lg0 (by omega)⟩
  have bx:=hy x (lg2 hx)
  have sg:=a5t x (by omega)
  have es:sgB s Y k=decide ((w.kind=0->¬sgR x<0)∧(w.kind=1->¬sgR x > 0)):=by
   unfold sgB
   rw [H8 hw,a9V hx,Bool.eq_iff_iff,decide_eq_true_iff,a2U,au9]
   simp
   grind
  generalize sgR x=U at sg es
  by_cases hok:(w.kind=0->¬U<0)∧(w.kind=1->¬U > 0)
  ·rw [decide_eq_true hok] at es
   obtain ⟨q1,q2⟩:=hok
   conv=>whnf
   repeat' (first|refine zz ?_|refine qp sg ?_|refine b9 (Q7 Y hx) ?_|refine b9 hw ?_|refine zd ?_ ?_<;>intro h<;>try omega|refine zy ?_|fail)<;>conv=>whnf
   all_goals first
    |omega
    |exact ⟨hlt,by rw [a1c,hI,es];rfl,[],rfl,rfl,trivial,⟨rfl,rfl,rfl,trivial⟩⟩
  ·rw [decide_eq_false hok] at es
   rw [a3c (n:=s.rows.length) (by omega) es]
   have hor:(w.kind=0∧U<0)∨(w.kind=1∧U > 0):=by omega
   clear hok
   conv=>whnf
   repeat' (first|refine zz ?_|refine qp sg ?_|refine b9 (Q7 Y hx) ?_|refine b9 hw ?_|refine zd ?_ ?_<;>intro h<;>try omega|refine zy ?_|fail)<;>conv=>whnf
   all_goals first
    |omega
    |exact b7 rfl
 ·have hke:k=s.rows.length:=by omega
  subst hke
  rw [hI]
  conv=>whnf
  repeat' (first|refine zz ?_|refine zd ?_ ?_<;>intro h<;>try omega|refine zy ?_|fail)<;>conv=>whnf
  all_goals first
   |omega
   |exact b7 rfl
theorem b5p {n:Int} {l:List (Int × Rat)} (hr:e8 (-1) n l=true) {i:Nat} {t:Int × Rat} (ht:l[i]? =some t):∀k,i<k->k<=l.length->I9 l k t.1.toNat=t.2:=by
 intro k hi hk
 induction k with
 |zero=>omega
 |succ k ih=>
  obtain ⟨u,hu⟩:∃u,l[k]? =some u:=⟨_,lg0 (by omega)⟩
  rw [G5 hu]
  simp only
  by_cases h:i=k
  ·subst h
   rw [ht] at hu;injection hu with hu;subst hu
   rw [if_pos rfl]
  ·have:=a1J hr i k t u (by omega) ht hu
   have:=p8 hr t (lg2 ht)
   rw [if_neg (by omega)]
   exact ih (by omega) (by omega)
theorem aY8 {n:Int} {l:List (Int × Rat)} (hr:e8 (-1) n l=true) {i:Nat} {t:Int × Rat} (ht:l[i]? =some t):v8 l t.1.toNat=t.2:=
 b5p hr ht _ (lg1 ht).1 (Nat.le_refl _)
theorem aQ0 (l:List (Int × Rat)) (v:Nat) {n:Int} (hr:e8 (-1) n l=true) (hl:l.length<=1000000) (hv:v<=1000000):a9 Tryz.prog 170 [j7 l,a7 .i64 v] [] (frS (fz (v8 l v))) []:=by
 have m1:(l.map i9).length=l.length:=by simp
 have i0:=a3G 0 (by decide) (by decide)
 (refine ac Tryz.func170 ?_;(conv=>whnf);repeat ((first|refine b0x ?_|refine zy ?_);conv=>whnf))
 repeat' (first|refine zz ?_|refine zd ?_ ?_<;>intro h<;>try omega|refine zy ?_|fail)<;>conv=>whnf
 refine d7 c8 (fun k=>([j7 l,a7 .i64 v,J,J,S.c (C.ptr 0 0 0),a7 .i64 k,J,J,J,J,J,J,J,J,J,J,J,J,J,J,J,J,J,J,J],[frB E5])) l.length (fun k=>∀i t,i<k->l[i]? =some t->t.1.toNat≠v) [some 0] (fun i t h=>by omega)
  ⟨rfl,rfl,⟨⟨rfl,rfl,rfl,.inr ⟨⟨rfl,rfl,rfl,rfl,trivial⟩,trivial⟩⟩,trivial⟩,⟨rfl,rfl,⟨rfl,rfl,rfl⟩,rfl,trivial⟩⟩ ?_
 intro k hk hI
 by_cases hlt:k<l.length
 ·obtain ⟨t,ht⟩:∃t,l[k]? =some t:=⟨_,lg0 hlt⟩
  have hm:=p8 hr t (lg2 ht)
  by_cases he:t.1=v
  ·have e:v8 l v=t.2:=by rw [← aY8 hr ht,he];rfl
   rw [e]
   conv=>whnf
   repeat' (first|refine zz ?_|refine b9 ht ?_|refine zd ?_ ?_<;>intro h<;>try omega|refine zy ?_|fail)<;>conv=>whnf
   all_goals first
    |omega
    |exact af6 rfl
  ·conv=>whnf
   repeat' (first|refine zz ?_|refine b9 ht ?_|refine zd ?_ ?_<;>intro h<;>try omega|refine zy ?_|fail)<;>conv=>whnf
   all_goals first
    |omega
    |exact ⟨hlt,fun i u hi hu=>by
      by_cases h:i=k
      ·subst h;rw [ht] at hu;injection hu with hu;subst hu;omega
      ·exact hI i u (by omega) hu,[some 0],rfl,rfl,⟨⟨rfl,rfl,rfl,.inl ⟨rfl,u3 _⟩⟩,trivial⟩,⟨rfl,rfl,⟨rfl,rfl,rfl⟩,rfl,trivial⟩⟩
 ·have hke:k=l.length:=by omega
  subst hke
  have e:v8 l v=((0:Int):Rat):=W1 _ hI
  rw [e]
  conv=>whnf
  repeat' (first|refine zz ?_|refine qp i0 ?_|refine zd ?_ ?_<;>intro h<;>try omega|refine zy ?_|fail)<;>conv=>whnf
  all_goals first
   |omega
   |exact af6 rfl
theorem b2Q (a b c:Rat) (ha:rl a<=60000) (hb:rl b<=50000) (hc:rl c<=200):a9 Tryz.prog 239 [frS (fz a),frS (fz b),frS (fz c)] [] (frS (fz (a+b*c))) []:=by
 have l:=a29 b c
 have mu:=b6z b c (by omega) (by omega)
 have ad:=b0l a (b*c) (by omega) (by omega)
 (refine ac Tryz.func239 ?_;(conv=>whnf);repeat ((first|refine b0x ?_|refine zy ?_);conv=>whnf))
 repeat' (first|refine zz ?_|refine qp mu ?_|refine qp ad ?_|refine qp 5 ?_|refine bl0 [5] ?_|refine zd ?_ ?_<;>intro h<;>try omega|refine zy ?_|fail)<;>conv=>whnf
 all_goals first
  |exact af6 rfl
def H5 (s:f8) (y:Nat->Rat) (k:Nat):List (Int × Rat):=((List.range k).filter fun v=>decide (E0 s y v≠0)).map fun v:Nat=>((v:Int),E0 s y v)
theorem a4M (s:f8) (y:Nat->Rat) (k:Nat):H5 s y (k+1)=if E0 s y k=0 then H5 s y k else H5 s y k++[((k:Int),E0 s y k)]:=by
 unfold H5
 rw [List.range_succ,List.filter_append,List.map_append]
 by_cases h:E0 s y k=0
 ·rw [if_pos h];simp [h]
 ·rw [if_neg h];simp [h]
theorem a99 (s:f8) (y:Nat->Rat) (k:Nat):(H5 s y k).length<=k:=by
 unfold H5
 rw [List.length_map]
 exact Nat.le_trans (List.length_filter_le _ _) (by simp)
def N2 (s:f8) (y:Nat->Rat) (l k:Nat):Rat:=g4 (fun i=>y i*v8 (v7 s i).terms l) k
def W0 (s:f8) (y:Nat->Rat) (k:Nat):Rat:=g4 (fun i=>y i*(v7 s i).value) k
structure at5 (s:f8) (Y:List Rat):Prop where
 y:∀v ∈ Y,rl v<=40000
 n:∀l k,rl (N2 s (yN Y) l k)<=50000
 v:∀k,rl (W0 s (yN Y) k)<=50000
 l:Y.length=s.rows.length
 m:s.rows.length<=1000000
theorem aV0 {l:List (Int × Rat)} (h:∀t ∈ l,rl t.2<=200) (v:Nat):rl (v8 l v)<=200:=by
 have key:∀k,rl (I9 l k v)<=200:=by
  intro k
  induction k with
  |zero=>have:=rl0;show rl 0<=_;omega
  |succ k ih=>
   cases hk:l[k]? with
   |none=>rw [I9,hk];exact ih
   |some t=>
    rw [G5 hk]
    simp only
    split
    ·exact h t (lg2 hk)
    ·exact ih
 exact key _
set_option maxHeartbeats 4000000 in
theorem b8K (s:f8) (hb:a39 s) (hr:g6 s=true) (Y:List Rat) (hq:at5 s Y):
 a9 Tryz.prog 168 [Q3 s,i8 (Y.map fz)] [] (.tup [j7 (H5 s (yN Y) s.n.toNat),frS (fz (a0U s (yN Y)))]) []:=by
 have m1:(s.rows.map w5).length=s.rows.length:=by simp
 have m2:((Y.map fz).map k7).length=Y.length:=by simp
 have l1:=hb.n0
 have hn:=hq.l
 have lr:=ar1 s hb
 rw [hr] at lr
 have hnn:0<=s.n∧s.n<=1500:=by
  unfold g6 at hr
  simp only [Bool.and_eq_true,decide_eq_true_eq] at hr
  exact ⟨hr.1.1.1,hr.1.1.2⟩
 have fr:=b05 Y s.rows.length (by omega) (fun v hv=>by have:=hq.y v hv;omega)
 have fr2:a9 Tryz.prog 238 [i8 (Y.map fz),a7 .i64 ((s.rows.map w5).length:Nat)] [] (d6 true) []:=by rw [m1];rw [decide_eq_true hn] at fr;exact fr
 have i0:=a3G 0 (by decide) (by decide)
 (refine ac Tryz.func168 ?_;(conv=>whnf);repeat ((first|refine b0x ?_|refine zy ?_);conv=>whnf))
 repeat' (first|refine zz ?_|refine qp lr ?_|refine qp fr2 ?_|refine qp i0 ?_|refine a3L.own ?_|refine zd ?_ ?_<;>intro h<;>try omega|refine zy ?_|fail)<;>conv=>whnf
 all_goals try omega
 all_goals try (exfalso;simp_all;done)
 refine d7 c8 (fun v=>([J,i8 (Y.map fz),S.c (C.t (T.ptr [ti s.n,E1 s.rows])),J,J,S.c (C.ptr 0 0 0),S.c (C.own 1 0 (H5 s (yN Y) v).length true),a7 .i64 v,J,J,J,J,J,J,J,J,J,J,J,J,J,J,J,J,J,J,J,J,J,J,J,J,J,J,J,J,J,J,J,J,J,J,J,J,J,J,J,J,J,J,J,J,J,J,J,J,J,J,J,J,J,J,J,J,J,J,J,J,J,J,J,J,J,J,J,J,J,J,J,J,J,J],[frB E5,M4 (H5 s (yN Y) v)])) s.n.toNat (fun _=>True) [some 0,some 1] trivial
  ⟨rfl,rfl,⟨⟨rfl,rfl,rfl,.inr ⟨⟨rfl,rfl,rfl,rfl,trivial⟩,trivial⟩⟩,a8 (rows:=[]) rfl rfl rfl rfl rfl,trivial⟩,⟨rfl,rfl,⟨rfl,rfl,rfl⟩,⟨rfl,rfl,rfl,fun h=>h⟩,rfl,trivial⟩⟩ ?_
 intro v hv _
 have lv:=a99 s (yN Y) v
 by_cases hlt:v<s.n.toNat
 ·conv=>whnf
  repeat' (first|refine zz ?_|refine qp i0 ?_|refine zd ?_ ?_<;>intro h<;>try omega|refine zy ?_|fail)<;>conv=>whnf
  all_goals try omega
  refine d7 c8 (fun k=>([J,i8 (Y.map fz),S.c (C.t (T.ptr [ti s.n,E1 s.rows])),J,J,S.c (C.ptr 0 0 0),S.c (C.own 1 0 (H5 s (yN Y) v).length true),a7 .i64 v,S.c (C.ptr 2 0 0),a7 .i64 k,J,J,J,J,J,J,J,J,J,J,J,J,J,J,J,J,J,J,J,J,J,J,J,J,J,J,J,J,J,J,J,J,J,J,J,J,J,J,J,J,J,J,J,J,J,J,J,J,J,J,J,J,J,J,J,J,J,J,J,J,J,J,J,J,J,J,J,J,J,J,J,J],[frB E5,M4 (H5 s (yN Y) v),frB (fz (N2 s (yN Y) v k))])) Y.length (fun _=>True) [some 0,some 1,some 2] trivial
   ⟨rfl,rfl,⟨⟨rfl,rfl,rfl,.inr ⟨⟨rfl,rfl,rfl,rfl,trivial⟩,trivial⟩⟩,a8 (rows:=(H5 s (yN Y) v).map i9) rfl rfl rfl rfl rfl,⟨rfl,rfl,rfl,.inl ⟨rfl,u3 _⟩⟩,trivial⟩,⟨rfl,rfl,⟨rfl,rfl,rfl⟩,⟨rfl,rfl,rfl,fun h=>h⟩,rfl,⟨rfl,rfl,rfl⟩,rfl,trivial⟩⟩ ?_
  intro k hk _
  by_cases hkl:k<Y.length
  ·obtain ⟨x,hx⟩:∃x,Y[k]? =some x:=⟨_,lg0 hkl⟩
   obtain ⟨w,hw⟩:∃w,s.rows[k]? =some w:=⟨_,lg0 (by omega)⟩
   obtain ⟨b1,b2,b3⟩:=hb.t w (lg2 hw)
   have hrt:=(T6 hr hw).1
   have bx:=hq.y x (lg2 hx)
   have co:=aQ0 w.terms v hrt (by omega) (by omega)
   have bc:=aV0 b2 v
   have bm:=hq.n v k
   have pl:=b2Q (N2 s (yN Y) v k) x (v8 w.terms v) (by omega) (by omega) bc
   have e:N2 s (yN Y) v k+x*v8 w.terms v=N2 s (yN Y) v (k+1):=by
    show _=N2 s (yN Y) v k+yN Y k*v8 (v7 s k).terms v
    rw [H8 hw,a9V hx]
   rw [e] at pl
   conv=>whnf
   repeat' (first|refine zz ?_|refine qp co ?_|refine qp pl ?_|refine b9 (Q7 Y hx) ?_|refine b9 hw ?_|refine zd ?_ ?_<;>intro h<;>try omega|refine zy ?_|fail)<;>conv=>whnf
   all_goals first
    |omega
    |exact ⟨hkl,trivial,[some 0,some 1,some 2],rfl,rfl,⟨⟨rfl,rfl,rfl,.inr ⟨⟨rfl,rfl,rfl,rfl,trivial⟩,trivial⟩⟩,a8 (rows:=(H5 s (yN Y) v).map i9) rfl rfl rfl rfl rfl,⟨rfl,rfl,rfl,.inl ⟨rfl,u3 _⟩⟩,trivial⟩,⟨rfl,rfl,⟨rfl,rfl,rfl⟩,⟨rfl,rfl,rfl,fun h=>h⟩,rfl,⟨rfl,rfl,rfl⟩,rfl,trivial⟩⟩
  ·have hke:k=s.rows.length:=by omega
   subst hke
   have e:N2 s (yN Y) v s.rows.length=E0 s (yN Y) v:=rfl
   rw [e]
   have bm:=hq.n v s.rows.length
   rw [e] at bm
   have sg:=a5t (E0 s (yN Y) v) (by omega)
   have sz:=a2p (x:=E0 s (yN Y) v)
   have lA:(H5 s (yN Y) v).length<=(M4 (H5 s (yN Y) v)).rows.length:=by show _<=(toC _).length;simp [toC]
   by_cases hz:E0 s (yN Y) v=0
   ·have hs:=sz.2 hz
    have e2:H5 s (yN Y) (v+1)=H5 s (yN Y) v:=by rw [a4M,if_pos hz]
    rw [e2]
    conv=>whnf
    repeat' (first|refine zz ?_|refine qp sg ?_|refine zd ?_ ?_<;>intro h<;>try omega|refine zy ?_|fail)<;>conv=>whnf
    all_goals first
     |omega
     |exact ⟨hlt,trivial,[some 0,some 1],rfl,rfl,⟨⟨rfl,rfl,rfl,.inr ⟨⟨rfl,rfl,rfl,rfl,trivial⟩,trivial⟩⟩,a8 (rows:=(H5 s (yN Y) v).map i9) rfl rfl rfl rfl rfl,trivial⟩,⟨rfl,rfl,⟨rfl,rfl,rfl⟩,⟨rfl,rfl,rfl,fun h=>h⟩,rfl,trivial⟩⟩
   ·have hs:sgR (E0 s (yN Y) v)≠0:=fun h=>hz (sz.1 h)
    have e2:H5 s (yN Y) (v+1)=H5 s (yN Y) v++[((v:Int),E0 s (yN Y) v)]:=by rw [a4M,if_neg hz]
    rw [e2]
    conv=>whnf
    repeat' (first|refine zz ?_|refine qp sg ?_|refine qp toC ?_|refine o6 lA (by simp [toC];omega) ?_|refine zd ?_ ?_<;>intro h<;>try omega|refine zy ?_|fail)<;>conv=>whnf
    all_goals first
     |omega
     |(refine ⟨hlt,trivial,[some 0,some 3],rfl,rfl,⟨⟨rfl,rfl,rfl,.inr ⟨⟨rfl,rfl,rfl,rfl,trivial⟩,trivial⟩⟩,a8 (rows:=(H5 s (yN Y) v++[((v:Int),E0 s (yN Y) v)]).map i9) rfl rfl rfl ?_ ?_,trivial⟩,⟨rfl,rfl,⟨rfl,rfl,rfl⟩,⟨rfl,rfl,?_,fun h=>h⟩,rfl,trivial⟩⟩
       ·exact A6 (f:=i9) (x:=((v:Int),E0 s (yN Y) v)) rfl
       ·rfl
       ·simp [toC])
 ·have hke:v=s.n.toNat:=by omega
  subst hke
  conv=>whnf
  repeat' (first|refine zz ?_|refine qp i0 ?_|refine zd ?_ ?_<;>intro h<;>try omega|refine zy ?_|fail)<;>conv=>whnf
  all_goals try omega
  refine d7 c8 (fun k=>([J,i8 (Y.map fz),S.c (C.t (T.ptr [ti s.n,E1 s.rows])),J,J,S.c (C.ptr 0 0 0),S.c (C.own 1 0 (H5 s (yN Y) s.n.toNat).length true),J,J,J,S.c (C.ptr 2 0 0),a7 .i64 k,J,J,J,J,J,J,J,J,J,J,J,J,J,J,J,J,J,J,J,J,J,J,J,J,J,J,J,J,J,J,J,J,J,J,J,J,J,J,J,J,J,J,J,J,J,J,J,J,J,J,J,J,J,J,J,J,J,J,J,J,J,J,J,J,J,J,J,J,J,J],[frB E5,M4 (H5 s (yN Y) s.n.toNat),frB (fz (W0 s (yN Y) k))])) Y.length (fun _=>True) [some 0,some 1,some 2] trivial
   ⟨rfl,rfl,⟨⟨rfl,rfl,rfl,.inr ⟨⟨rfl,rfl,rfl,rfl,trivial⟩,trivial⟩⟩,a8 (rows:=(H5 s (yN Y) s.n.toNat).map i9) rfl rfl rfl rfl rfl,⟨rfl,rfl,rfl,.inl ⟨rfl,u3 _⟩⟩,trivial⟩,⟨rfl,rfl,⟨rfl,rfl,rfl⟩,⟨rfl,rfl,rfl,fun h=>h⟩,⟨rfl,rfl,rfl⟩,rfl,trivial⟩⟩ ?_
  intro k hk _
  by_cases hkl:k<Y.length
  ·obtain ⟨x,hx⟩:∃x,Y[k]? =some x:=⟨_,lg0 hkl⟩
   obtain ⟨w,hw⟩:∃w,s.rows[k]? =some w:=⟨_,lg0 (by omega)⟩
   obtain ⟨b1,b2,b3⟩:=hb.t w (lg2 hw)
   have bx:=hq.y x (lg2 hx)
   have bm:=hq.v k
   have pl:=b2Q (W0 s (yN Y) k) x w.value (by omega) (by omega) b3
   have e:W0 s (yN Y) k+x*w.value=W0 s (yN Y) (k+1):=by
    show _=W0 s (yN Y) k+yN Y k*(v7 s k).value
    rw [H8 hw,a9V hx]
   rw [e] at pl
   conv=>whnf
   repeat' (first|refine zz ?_|refine qp pl ?_|refine b9 (Q7 Y hx) ?_|refine b9 hw ?_|refine zd ?_ ?_<;>intro h<;>try omega|refine zy ?_|fail)<;>conv=>whnf
   all_goals first
    |omega
    |exact ⟨hkl,trivial,[some 0,some 1,some 2],rfl,rfl,⟨⟨rfl,rfl,rfl,.inr ⟨⟨rfl,rfl,rfl,rfl,trivial⟩,trivial⟩⟩,a8 (rows:=(H5 s (yN Y) s.n.toNat).map i9) rfl rfl rfl rfl rfl,⟨rfl,rfl,rfl,.inl ⟨rfl,u3 _⟩⟩,trivial⟩,⟨rfl,rfl,⟨rfl,rfl,rfl⟩,⟨rfl,rfl,rfl,fun h=>h⟩,⟨rfl,rfl,rfl⟩,rfl,trivial⟩⟩
  ·have hke:k=s.rows.length:=by omega
   subst hke
   have e:W0 s (yN Y) s.rows.length=a0U s (yN Y):=rfl
   rw [e]
   conv=>whnf
   repeat' (first|refine zz ?_|refine zd ?_ ?_<;>intro h<;>try omega|refine zy ?_|fail)<;>conv=>whnf
   all_goals first
    |omega
    |exact j2 ⟨(show VC _ (fun id=>F3 [] id=true) (C.own 1 0 _ true) _ from s8 (k:=M4 (H5 s (yN Y) s.n.toNat)) rfl rfl (fun h=>h) rfl rfl (by simp)),⟨rfl,rfl,rfl,rfl,trivial⟩,trivial⟩
theorem aj0 {n:Int}:∀{l:List (Int × Rat)} {last:Int},l.Pairwise (fun a b=>a.1<b.1)->(∀ t ∈ l,last<t.1∧t.1<n∧t.2≠0)->e8 last n l=true
 |[],_,_,_=>rfl
 |a::r,last,h1,h2=>by
  unfold e8
  simp only [Bool.and_eq_true,decide_eq_true_eq]
  obtain ⟨p1,p2⟩:=List.pairwise_cons.1 h1
  have:=h2 a (List.mem_cons_self ..)
  exact ⟨⟨⟨this.1,this.2.1⟩,this.2.2⟩,aj0 p2 fun t ht=>⟨p1 t ht,(h2 t (List.mem_cons_of_mem _ ht)).2⟩⟩
theorem a6i {s:f8} {y:Nat->Rat} {k:Nat} {t:Int × Rat}:t ∈ H5 s y k↔∃v:Nat,v<k∧E0 s y v≠0∧t=((v:Int),E0 s y v):=by
 unfold H5
 rw [List.mem_map]
 constructor
 ·rintro ⟨v,hv,rfl⟩
  rw [List.mem_filter,List.mem_range] at hv
  exact ⟨v,hv.1,by simpa using hv.2,rfl⟩
 ·rintro ⟨v,h1,h2,rfl⟩
  exact ⟨v,by rw [List.mem_filter,List.mem_range];exact ⟨h1,by simpa using h2⟩,rfl⟩
theorem a3g (s:f8) (y:Nat->Rat) (k:Nat):e8 (-1) (k:Int) (H5 s y k)=true:=by
 refine aj0 ?_ fun t ht=>?_
 ·unfold H5
  rw [List.pairwise_map]
  exact ((List.pairwise_lt_range (n:=k)).filter _).imp fun {a b} h=>by show (a:Int)<b;omega
 ·obtain ⟨v,h1,h2,rfl⟩:=a6i.1 ht
  exact ⟨by simp only;omega,by simp only;omega,h2⟩
theorem a8R {s:f8} {y:Nat->Rat} {k v:Nat} (hv:v<k):v8 (H5 s y k) v=E0 s y v:=by
 by_cases h:E0 s y v=0
 ·rw [h]
  refine W1 _ fun i t _ ht=>?_
  obtain ⟨u,h1,h2,rfl⟩:=a6i.1 (lg2 ht)
  intro e
  have e:u=v:=by simpa using e
  exact h2 (e ▸ h)
 ·obtain ⟨i,hi,he⟩:=List.getElem_of_mem (a6i.2 ⟨v,hv,h,rfl⟩)
  have:=aY8 (a3g s y k) (i:=i) (t:=((v:Int),E0 s y v)) (by rw [lg0 hi,he])
  simpa using this
def a0F (s:f8) (g:List (Int × Rat)) (Y:List Rat):Bool:=Z3 s Y && e8 (-1) s.n g && (List.range s.n.toNat).all fun v=>decide (E0 s (yN Y) v<=v8 g v)
def a3K (s:f8) (g:List (Int × Rat)) (Y:List Rat):S:=if a0F s g Y=true then .tup [frS (fz (a0U s (yN Y))),d6 true] else .tup [frS E5,d6 false]
set_option maxHeartbeats 2000000 in
theorem b5b (s:f8) (hb:a39 s) (hr:g6 s=true) (g:List (Int × Rat)) (hg:g.length<=1000000) (hgb:∀t ∈ g,rl t.2<=200) (Y:List Rat) (hy:∀v ∈ Y,rl v<=40000) (hyl:Y.length<=1000000) (hq:Y.length=s.rows.length->at5 s Y):
 a9 Tryz.prog 95 [Q3 s,j7 g,i8 (Y.map fz)] [] (a3K s g Y) []:=by
 have hnn:0<=s.n∧s.n<=1500:=by
  unfold g6 at hr
  simp only [Bool.and_eq_true,decide_eq_true_eq] at hr
  exact ⟨hr.1.1.1,hr.1.1.2⟩
 have sn:=b3F s hb hr Y hyl (fun v hv=>by have:=hy v hv;omega)
 have rt:=a2T g s.n hg hgb
 rw [decide_eq_true hnn.1,Bool.true_and] at rt
 cases hs:Z3 s Y with
 |false=>
  have e:a3K s g Y=.tup [frS E5,d6 false]:=by unfold a3K a0F;rw [hs];rfl
  rw [e]
  rw [hs] at sn
  (refine ac Tryz.func95 ?_;(conv=>whnf);repeat ((first|refine b0x ?_|refine zy ?_);conv=>whnf))
  repeat' (first|refine zz ?_|refine qp sn ?_|refine qp rt ?_|refine zd ?_ ?_<;>intro h<;>try omega|refine zy ?_|fail)<;>conv=>whnf
  all_goals first
   |(exfalso;simp_all;done)
   |exact j2 ⟨⟨rfl,rfl,rfl,rfl,trivial⟩,rfl,trivial⟩
 |true=>
 rw [hs] at sn
 cases ht:e8 (-1) s.n g with
 |false=>
  have e:a3K s g Y=.tup [frS E5,d6 false]:=by unfold a3K a0F;rw [hs,ht];rfl
  rw [e]
  rw [ht] at rt
  (refine ac Tryz.func95 ?_;(conv=>whnf);repeat ((first|refine b0x ?_|refine zy ?_);conv=>whnf))
  repeat' (first|refine zz ?_|refine qp sn ?_|refine qp rt ?_|refine zd ?_ ?_<;>intro h<;>try omega|refine zy ?_|fail)<;>conv=>whnf
  all_goals first
   |(exfalso;simp_all;done)
   |exact j2 ⟨⟨rfl,rfl,rfl,rfl,trivial⟩,rfl,trivial⟩
 |true=>
 rw [ht] at rt
 have hl:Y.length=s.rows.length:=by
  unfold Z3 at hs
  simp only [Bool.and_eq_true,decide_eq_true_eq] at hs
  exact hs.1
 have hq:=hq hl
 have eb:a0F s g Y=(List.range s.n.toNat).all fun v=>decide (E0 s (yN Y) v<=v8 g v):=by unfold a0F;rw [hs,ht];simp
 have mx:=b8K s hb hr Y hq
 have ml:=a99 s (yN Y) s.n.toNat
 have mr:=a3g s (yN Y) s.n.toNat
 (refine ac Tryz.func95 ?_;(conv=>whnf);repeat ((first|refine b0x ?_|refine zy ?_);conv=>whnf))
 repeat' (first|refine zz ?_|refine qp sn ?_|refine qp rt ?_|refine qp mx ?_|refine qp 5 ?_|refine bl0 [5] ?_|refine zd ?_ ?_<;>intro h<;>try omega|refine zy ?_|fail)<;>conv=>whnf
 all_goals try (exfalso;simp_all;done)
 refine d7 c8 (fun v=>([J,j7 g,J,S.c (C.t (T.ptr [ti s.n,E1 s.rows])),J,J,S.c (C.ptr 0 0 0),J,j7 (H5 s (yN Y) s.n.toNat),S.c (C.ptr 1 0 0),a7 .i64 v,J,J,J,J,J,J,J,J,J,J,J,J,J,J,J,J,J,J,J,J,J,J,J,J,J,J,J,J,J,J,J,J,J,J],[frB E5,frB (fz (a0U s (yN Y)))])) s.n.toNat (fun k=>(List.range k).all (fun v=>decide (E0 s (yN Y) v<=v8 g v))=true) [some 0,some 1] rfl
  ⟨rfl,rfl,⟨⟨rfl,rfl,rfl,.inr ⟨⟨rfl,rfl,rfl,rfl,trivial⟩,trivial⟩⟩,⟨rfl,rfl,rfl,.inl ⟨rfl,u3 _⟩⟩,trivial⟩,⟨rfl,rfl,⟨rfl,rfl,rfl⟩,rfl,⟨rfl,rfl,rfl⟩,rfl,trivial⟩⟩ ?_
 intro v hv hI
 by_cases hlt:v<s.n.toNat
 ·have c1:=aQ0 (H5 s (yN Y) s.n.toNat) v mr (by omega) (by omega)
  rw [a8R hlt] at c1
  have c2:=aQ0 g v ht hg (by omega)
  have b1:=hq.n v s.rows.length
  have b2:=aV0 hgb v
  have b1:rl (E0 s (yN Y) v)<=50000:=b1
  have cm:=ai5 (E0 s (yN Y) v) (v8 g v) (by omega) (by omega)
  have k2:=a0A (x:=E0 s (yN Y) v) (y:=v8 g v)
  generalize a0E (E0 s (yN Y) v) (v8 g v)=U at cm k2
  by_cases hok:U > 0
  ·have hF:decide (E0 s (yN Y) v<=v8 g v)=false:=decide_eq_false (Rat.not_le.2 (k2.1 hok))
   have e:a3K s g Y=.tup [frS E5,d6 false]:=by
    unfold a3K
    rw [eb,a3c (n:=s.n.toNat) hlt hF];rfl
   rw [e]
   clear k2
   conv=>whnf
   repeat' (first|refine zz ?_|refine qp c1 ?_|refine qp c2 ?_|refine qp cm ?_|refine zd ?_ ?_<;>intro h<;>try omega|refine zy ?_|fail)<;>conv=>whnf
   all_goals first
    |omega
    |exact j2 ⟨⟨rfl,rfl,rfl,rfl,trivial⟩,rfl,trivial⟩
  ·have hT:decide (E0 s (yN Y) v<=v8 g v)=true:=decide_eq_true (Rat.not_lt.1 (fun h=>hok (k2.2 h)))
   clear k2
   conv=>whnf
   repeat' (first|refine zz ?_|refine qp c1 ?_|refine qp c2 ?_|refine qp cm ?_|refine zd ?_ ?_<;>intro h<;>try omega|refine zy ?_|fail)<;>conv=>whnf
   all_goals first
    |omega
    |exact ⟨hlt,by rw [a1c,hI,hT];rfl,[some 0,some 1],rfl,rfl,⟨⟨rfl,rfl,rfl,.inr ⟨⟨rfl,rfl,rfl,rfl,trivial⟩,trivial⟩⟩,⟨rfl,rfl,rfl,.inl ⟨rfl,u3 _⟩⟩,trivial⟩,⟨rfl,rfl,⟨rfl,rfl,rfl⟩,rfl,⟨rfl,rfl,rfl⟩,rfl,trivial⟩⟩
 ·have hke:v=s.n.toNat:=by omega
  subst hke
  have e:a3K s g Y=.tup [frS (fz (a0U s (yN Y))),d6 true]:=by
   unfold a3K
   rw [eb,hI];rfl
  rw [e]
  conv=>whnf
  repeat' (first|refine zz ?_|refine zd ?_ ?_<;>intro h<;>try omega|refine zy ?_|fail)<;>conv=>whnf
  all_goals first
   |omega
   |exact j2 ⟨⟨rfl,rfl,rfl,rfl,trivial⟩,rfl,trivial⟩
structure aJ3 (z:List Fr):Prop where
 l:z.length<=1000000
 d:∀f ∈ z,f.p.dl.length<=200000∧f.q.dl.length<=200000
theorem ar0 {Z:List Rat} (hl:Z.length<=1000000) (h:∀v ∈ Z,rl v<=200000):aJ3 (Z.map fz):=⟨by simpa using hl,fun f hf=>by
 obtain ⟨x,hx,rfl⟩:=List.mem_map.1 hf
 have:=h x hx
 have a:=D8 x
 have b:=F4 x
 exact ⟨by show bl x.num<=_;omega,by show bl x.den<=_;omega⟩⟩
theorem b25 (s:f8) (hb:a39 s) (hr:g6 s=true) (y:List Fr) (hy:aJ3 y):
 a9 Tryz.prog 235 [Q3 s,i8 y] [] (d6 (decide (y.length=s.rows.length) && y.all x4)) []:=by
 have m1:(s.rows.map w5).length=s.rows.length:=by simp
 have m2:(y.map k7).length=y.length:=by simp
 have l1:=hb.n0
 have l2:=hy.l
 have lr:=a3W s hb
 rw [hr] at lr
 by_cases hn:y.length≠s.rows.length
 ·rw [decide_eq_false hn,Bool.false_and]
  (refine ac Tryz.func235 ?_;(conv=>whnf);repeat ((first|refine b0x ?_|refine zy ?_);conv=>whnf))
  repeat' (first|refine zz ?_|refine qp lr ?_|refine zd ?_ ?_<;>intro h<;>try omega|refine zy ?_|fail)<;>conv=>whnf
  all_goals first
   |omega
   |exact b7 rfl
 have hn:y.length=s.rows.length:=by omega
 rw [decide_eq_true hn,Bool.true_and]
 (refine ac Tryz.func235 ?_;(conv=>whnf);repeat ((first|refine b0x ?_|refine zy ?_);conv=>whnf))
 repeat' (first|refine zz ?_|refine qp lr ?_|refine zd ?_ ?_<;>intro h<;>try omega|refine zy ?_|fail)<;>conv=>whnf
 all_goals try omega
 refine d7 c8 (fun k=>([J,J,J,J,J,J,J,J,J,J,J,J,J,J,J,J,J,J,i8 y,a7 .i64 y.length,a7 .i64 k,J,J,J,J,J,J,J],[])) y.length (fun k=>(y.take k).all x4=true) [] rfl
  ⟨rfl,rfl,trivial,⟨rfl,c6 (by simp),rfl,trivial⟩⟩ ?_
 intro k hk hI
 by_cases hlt:k<y.length
 ·obtain ⟨x,hx⟩:∃x,y[k]? =some x:=⟨_,lg0 hlt⟩
  obtain ⟨d1,d2⟩:=hy.d x (lg2 hx)
  have rr:=a6O x d1 d2
  cases hq:x4 x with
  |true=>
   rw [hq] at rr
   conv=>whnf
   repeat' (first|refine zz ?_|refine qp rr ?_|refine b9 hx ?_|refine zd ?_ ?_<;>intro h<;>try omega|refine zy ?_|fail)<;>conv=>whnf
   all_goals first
    |omega
    |exact ⟨hlt,by rw [n6 hx,hI,hq];rfl,[],rfl,rfl,trivial,⟨rfl,rfl,rfl,trivial⟩⟩
  |false=>
   rw [hq] at rr
   rw [t7 hx hq]
   conv=>whnf
   repeat' (first|refine zz ?_|refine qp rr ?_|refine b9 hx ?_|refine zd ?_ ?_<;>intro h<;>try omega|refine zy ?_|fail)<;>conv=>whnf
   all_goals first
    |omega
    |exact b7 rfl
 ·rw [lg4 (by omega)] at hI
  rw [hI]
  conv=>whnf
  repeat' (first|refine zz ?_|refine zd ?_ ?_<;>intro h<;>try omega|refine zy ?_|fail)<;>conv=>whnf
  all_goals first
   |omega
   |exact b7 rfl
theorem aV4 (s:f8) (hb:a39 s) (hr:g6 s=true) (Y:List Rat) (hl:Y.length<=1000000) (hy:∀v ∈ Y,rl v<=200000):
 a9 Tryz.prog 235 [Q3 s,i8 (Y.map fz)] [] (d6 (decide (Y.length=s.rows.length))) []:=by
 have h:=b25 s hb hr (Y.map fz) (ar0 hl hy)
 rw [a10,Bool.and_true,List.length_map] at h
 exact h
theorem a7O (s:f8) (hb:a39 s) (hr:g6 s=true) (y:List Fr) (hy:aJ3 y) (h:(decide (y.length=s.rows.length) && y.all x4)=false):
 a9 Tryz.prog 160 [Q3 s,i8 y] [] (d6 false) []:=by
 have mu:=b25 s hb hr y hy
 rw [h] at mu
 (refine ac Tryz.func160 ?_;(conv=>whnf);repeat ((first|refine b0x ?_|refine zy ?_);conv=>whnf))
 repeat' (first|refine zz ?_|refine qp mu ?_|refine zd ?_ ?_<;>intro h<;>try omega|refine zy ?_|fail)<;>conv=>whnf
 all_goals exact b7 rfl
theorem b1c (s:f8) (hb:a39 s) (hr:g6 s=true) (Y:List Rat) (hl:Y.length<=1000000) (hy:∀v ∈ Y,rl v<=50000):
 a9 Tryz.prog 160 [Q3 s,i8 (Y.map fz)] [] (d6 (Z3 s Y)) []:=by
 have m1:(s.rows.map w5).length=s.rows.length:=by simp
 have m2:((Y.map fz).map k7).length=Y.length:=by simp
 have l1:=hb.n0
 have mu:=aV4 s hb hr Y hl (fun v hv=>by have:=hy v hv;omega)
 by_cases hn:Y.length≠s.rows.length
 ·have e2:Z3 s Y=false:=by unfold Z3;rw [decide_eq_false hn];simp
  rw [e2]
  exact a7O s hb hr (Y.map fz) (ar0 hl (fun v hv=>by have:=hy v hv;omega)) (by rw [decide_eq_false (by simpa using hn)];rfl)
 have hn:Y.length=s.rows.length:=by omega
 have e2:Z3 s Y=(List.range s.rows.length).all (sgB s Y):=by unfold Z3;rw [decide_eq_true hn];simp
 rw [e2]
 rw [decide_eq_true hn] at mu
 (refine ac Tryz.func160 ?_;(conv=>whnf);repeat ((first|refine b0x ?_|refine zy ?_);conv=>whnf))
 repeat' (first|refine zz ?_|refine qp mu ?_|refine zd ?_ ?_<;>intro h<;>try omega|refine zy ?_|fail)<;>conv=>whnf
 refine d7 c8 (fun k=>([J,J,S.c (C.t (T.ptr [ti s.n,E1 s.rows])),J,J,J,J,J,J,J,J,J,i8 (Y.map fz),a7 .i64 Y.length,a7 .i64 k,J,J,J,J,J,J,J,J,J,J,J,J,J,J,J,J,J,J,J,J,J],[])) Y.length (fun k=>(List.range k).all (sgB s Y)=true) [] rfl
  ⟨rfl,rfl,trivial,⟨rfl,rfl,c6 (by simp),rfl,trivial⟩⟩ ?_
 intro k hk hI
 by_cases hlt:k<Y.length
 ·obtain ⟨x,hx⟩:∃x,Y[k]? =some x:=⟨_,lg0 hlt⟩
  obtain ⟨w,hw⟩:∃w,s.rows[k]? =some w:=⟨_,lg0 (by omega)⟩
  have bx:=hy x (lg2 hx)
  have sg:=Z4 x (by omega)
  have es:sgB s Y k=decide ((w.kind=0->¬sgR x<0)∧(w.kind=1->¬sgR x > 0)):=by
   unfold sgB
   rw [H8 hw,a9V hx,Bool.eq_iff_iff,decide_eq_true_iff,a2U,au9]
   simp
   grind
  generalize sgR x=U at sg es
  by_cases hok:(w.kind=0->¬U<0)∧(w.kind=1->¬U > 0)
  ·rw [decide_eq_true hok] at es
   obtain ⟨q1,q2⟩:=hok
   conv=>whnf
   repeat' (first|refine zz ?_|refine qp sg ?_|refine b9 (Q7 Y hx) ?_|refine b9 hw ?_|refine zd ?_ ?_<;>intro h<;>try omega|refine zy ?_|fail)<;>conv=>whnf
   all_goals first
    |omega
    |exact ⟨hlt,by rw [a1c,hI,es];rfl,[],rfl,rfl,trivial,⟨rfl,rfl,rfl,rfl,trivial⟩⟩
  ·rw [decide_eq_false hok] at es
   rw [a3c (n:=s.rows.length) (by omega) es]
   have hor:(w.kind=0∧U<0)∨(w.kind=1∧U > 0):=by omega
   clear hok
   conv=>whnf
   repeat' (first|refine zz ?_|refine qp sg ?_|refine b9 (Q7 Y hx) ?_|refine b9 hw ?_|refine zd ?_ ?_<;>intro h<;>try omega|refine zy ?_|fail)<;>conv=>whnf
   all_goals first
    |omega
    |exact b7 rfl
 ·have hke:k=s.rows.length:=by omega
  subst hke
  rw [hI]
  conv=>whnf
  repeat' (first|refine zz ?_|refine zd ?_ ?_<;>intro h<;>try omega|refine zy ?_|fail)<;>conv=>whnf
  all_goals first
   |omega
   |exact b7 rfl
theorem b35 (a b c:Rat) (ha:rl a<=60000) (hb:rl b<=50000) (hc:rl c<=200):a9 Tryz.prog 236 [frS (fz a),frS (fz b),frS (fz c)] [] (frS (fz (a+b*c))) []:=by
 have l:=a29 b c
 have mu:=a75 b c (by omega) (by omega)
 have ad:=a28 a (b*c) (by omega) (by omega)
 (refine ac Tryz.func236 ?_;(conv=>whnf);repeat ((first|refine b0x ?_|refine zy ?_);conv=>whnf))
 repeat' (first|refine zz ?_|refine qp mu ?_|refine qp ad ?_|refine qp 5 ?_|refine qp 4 ?_|refine bl0 [5] ?_|refine bl0 [4] ?_|refine zd ?_ ?_<;>intro h<;>try omega|refine zy ?_|fail)<;>conv=>whnf
 all_goals first
  |exact af6 rfl
def a8h (s:f8) (y:Nat->Rat) (i k:Nat):Nat->Rat:=fun v=>N2 s y v i+y i*I9 (v7 s i).terms k v
theorem b1u (s:f8) (y:Nat->Rat) (i:Nat):a8h s y i 0=fun v=>N2 s y v i:=by
 funext v;show _+_*(0:Rat)=_;grind
theorem b32 (s:f8) (y:Nat->Rat) (i:Nat):a8h s y i (v7 s i).terms.length=fun v=>N2 s y v (i+1):=rfl
theorem b1j {s:f8} {y:Nat->Rat} {i k:Nat} {n:Int} {t:Int × Rat} (hr:e8 (-1) n (v7 s i).terms=true) (ht:(v7 s i).terms[k]? =some t):
 a8h s y i k t.1.toNat=N2 s y t.1.toNat i∧(fun j=>if j=t.1.toNat then N2 s y t.1.toNat i+y i*t.2 else a8h s y i k j)=a8h s y i (k+1):=by
 have z:I9 (v7 s i).terms k t.1.toNat=0:=W1 _ fun a u ha hu=>by
  have h1:=a1J hr a k u t ha hu ht
  have h2:=p8 hr u (lg2 hu)
  have h3:=p8 hr t (lg2 ht)
  omega
 refine ⟨by unfold a8h;rw [z];grind,?_⟩
 funext j
 unfold a8h
 rw [G5 ht]
 simp only
 by_cases h:j=t.1.toNat
 ·subst h;rw [if_pos rfl,if_pos rfl]
 ·rw [if_neg h,if_neg h]
set_option maxHeartbeats 8000000 in
theorem b7U (s:f8) (hb:a39 s) (hr:g6 s=true) (Y:List Rat) (hq:at5 s Y) (hn1:s.n<=1000):
 a9 Tryz.prog 162 [Q3 s,i8 (Y.map fz)] [] (.tup [j7 (H5 s (yN Y) s.n.toNat),frS (fz (a0U s (yN Y)))]) []:=by
 have m1:(s.rows.map w5).length=s.rows.length:=by simp
 have m2:((Y.map fz).map k7).length=Y.length:=by simp
 have l1:=hb.n0
 have hn:=hq.l
 have hm:=hq.m
 have h0n:=(V7 hr)
 obtain ⟨n,hnn⟩:∃n:Nat,s.n.toNat=n:=⟨_,rfl⟩
 have en:s.n=n:=by omega
 have mu:=aV4 s hb hr Y (by omega) (fun v hv=>by have:=hq.y v hv;omega)
 rw [decide_eq_true hn] at mu
 have i0:=I3 0 (by decide) (by decide)
 rw [hnn]
 rw [show Q3 s=.agg [.t (ti (n:Int)),.t (E1 s.rows)] by rw [← en]] at mu ⊢
 (refine ac Tryz.func162 ?_;(conv=>whnf);repeat ((first|refine b0x ?_|refine zy ?_);conv=>whnf))
 repeat' (first|refine zz ?_|refine qp mu ?_|refine a3y (by omega) (by omega) (by omega) (by decide) ?_|refine zd ?_ ?_<;>intro h<;>try omega|refine zy ?_|fail)<;>conv=>whnf
 refine d7 c8 (fun k=>([J,i8 (Y.map fz),S.c (C.t (T.ptr [ti (n:Int),E1 s.rows])),J,J,S.c (C.ptr 0 0 0),S.c (C.own 1 0 n true),J,J,J,J,J,J,J,J,J,J,J,J,J,J,J,J,J,J,a7 .i64 n,a7 .i64 k,J,J,J,J,J,J,J,J,J,J,J,J,J,J,J,J,J,J,J,J,J,J,J,J,J,J,J,J,J,J,J,J,J,J,J,J,J,J,J,J,J,J,J,J,J,J,J,J,J,J,J,J,J,J,J,J,J,J,J,J,J,J,J,J,J,J,J,J,J,J,J,J],[frB E5,flB (pZ k n)])) n (fun _=>True) [some 0,some 1] trivial
  ⟨rfl,rfl,⟨⟨rfl,rfl,rfl,.inr ⟨⟨rfl,rfl,rfl,rfl,trivial⟩,trivial⟩⟩,⟨rfl,rfl,rfl,.inr (a5Z ?_ ?_)⟩,trivial⟩,⟨rfl,rfl,⟨rfl,rfl,rfl⟩,⟨rfl,rfl,by omega,fun h=>h⟩,c6 (by omega),c6 rfl,trivial⟩⟩ ?_
 ·simp [E3,toC,a93]
 ·intro i x y hx hy
  simp only [E3,List.getElem?_replicate] at hx
  split at hx
  ·rename_i hi
   injection hx with hx
   subst hx
   have hy:(toC ((pZ 0 n).map k7))[i]? =some y:=hy
   rw [toC,List.getElem?_map,List.getElem?_map,a78 (by omega),if_neg (by omega)] at hy
   injection hy with hy
   subst hy
   exact ⟨rfl,rfl,rfl,rfl,trivial⟩
  ·cases hx
 intro k hk _
 by_cases hlt:k<n
 ·obtain ⟨pf,hpf⟩:∃pf,(pZ k n)[k]? =some pf:=⟨_,a78 hlt⟩
  have gp:(pZ k n)[0+(k:Int).toNat]? =some pf:=by rw [Nat.zero_add,show (k:Int).toNat=k by omega];exact hpf
  have eM:0+(k:Int).toNat=k:=by omega
  conv=>whnf
  repeat' (first|refine zz ?_|refine qp i0 ?_|refine n7 gp ?_|refine zd ?_ ?_<;>intro h<;>try omega|refine zy ?_|fail)<;>conv=>whnf
  all_goals first
   |omega
   |(refine ⟨hlt,trivial,[some 0,some 1],rfl,rfl,⟨⟨rfl,rfl,rfl,.inr ⟨⟨rfl,rfl,rfl,rfl,trivial⟩,trivial⟩⟩,a8 (rows:=(pZ (k+1) n).map k7) rfl rfl rfl ?_ rfl,trivial⟩,⟨rfl,rfl,⟨rfl,rfl,rfl⟩,⟨rfl,rfl,rfl,fun h=>h⟩,rfl,c6 (by omega),trivial⟩⟩
     have e:=E6 (row:=pZ k n) (y:=fz 0) eM
     rw [b2U hlt] at e
     exact congrArg Blk.rows e)
 have hke:k=n:=by omega
 subst hke
 conv=>whnf
 repeat' (first|refine zz ?_|refine qp i0 ?_|refine zd ?_ ?_<;>intro h<;>try omega|refine zy ?_|fail)<;>conv=>whnf
 all_goals try omega
 refine d7 c8 (fun i=>([J,J,S.c (C.t (T.ptr [ti (k:Int),E1 s.rows])),J,J,S.c (C.ptr 0 0 0),S.c (C.own 1 0 k true),J,S.c (C.ptr 2 0 0),J,J,J,J,J,J,J,J,J,J,J,J,J,J,J,J,J,J,J,J,J,J,J,J,J,J,i8 (Y.map fz),a7 .i64 Y.length,a7 .i64 i,J,J,J,J,J,J,J,J,J,J,J,J,J,J,J,J,J,J,J,J,J,J,J,J,J,J,J,J,J,J,J,J,J,J,J,J,J,J,J,J,J,J,J,J,J,J,J,J,J,J,J,J,J,J,J,J,J,J,J,J,J],[frB E5,flB (rF k fun v=>N2 s (yN Y) v i),frB (fz (W0 s (yN Y) i))])) Y.length (fun _=>True) [some 0,some 1,some 2] trivial
  ⟨rfl,rfl,⟨⟨rfl,rfl,rfl,.inr ⟨⟨rfl,rfl,rfl,rfl,trivial⟩,trivial⟩⟩,a8 (rows:=(rF k fun _=>0).map k7) rfl rfl rfl (by rw [← b44]) rfl,⟨rfl,rfl,rfl,.inl ⟨rfl,u3 _⟩⟩,trivial⟩,⟨rfl,⟨rfl,rfl,rfl⟩,⟨rfl,rfl,rfl,fun h=>h⟩,⟨rfl,rfl,rfl⟩,rfl,c6 (by simp),rfl,trivial⟩⟩ ?_
 intro i hi _
 by_cases hil:i<Y.length
 ·obtain ⟨x,hx⟩:∃x,Y[i]? =some x:=⟨_,lg0 hil⟩
  obtain ⟨w,hw⟩:∃w,s.rows[i]? =some w:=⟨_,lg0 (by omega)⟩
  obtain ⟨b1,b2,b3⟩:=hb.t w (lg2 hw)
  have hrt:=(T6 hr hw).1
  have bx:=hq.y x (lg2 hx)
  have eyx:yN Y i=x:=a9V hx
  have erw:v7 s i=w:=H8 hw
  have mv:=hq.v i
  have sg:=Z4 x (by omega)
  have sz:=a2p (x:=x)
  have pv:=b35 (W0 s (yN Y) i) x w.value (by omega) (by omega) b3
  have ev:W0 s (yN Y) i+x*w.value=W0 s (yN Y) (i+1):=by
   show _=W0 s (yN Y) i+yN Y i*(v7 s i).value
   rw [erw,eyx]
  rw [ev] at pv
  by_cases hx0:x=0
  ·have hs:=sz.2 hx0
   have e1:(fun v=>N2 s (yN Y) v (i+1))=fun v=>N2 s (yN Y) v i:=by
    funext v
    show N2 s (yN Y) v i+yN Y i*_=_
    rw [eyx,hx0];grind
   have e2:W0 s (yN Y) (i+1)=W0 s (yN Y) i:=by
    show W0 s (yN Y) i+yN Y i*_=_
    rw [eyx,hx0];grind
   rw [e1,e2]
   conv=>whnf
   repeat' (first|refine zz ?_|refine qp sg ?_|refine b9 (Q7 Y hx) ?_|refine zd ?_ ?_<;>intro h<;>try omega|refine zy ?_|fail)<;>conv=>whnf
   all_goals first
    |omega
    |exact ⟨hil,trivial,[some 0,some 1,some 2],rfl,rfl,⟨⟨rfl,rfl,rfl,.inr ⟨⟨rfl,rfl,rfl,rfl,trivial⟩,trivial⟩⟩,c9 (c7 _),⟨rfl,rfl,rfl,.inl ⟨rfl,u3 _⟩⟩,trivial⟩,⟨rfl,⟨rfl,rfl,rfl⟩,⟨rfl,rfl,rfl,fun h=>h⟩,⟨rfl,rfl,rfl⟩,rfl,rfl,c6 (by omega),trivial⟩⟩
  ·have hs:sgR x≠0:=fun h=>hx0 (sz.1 h)
   have m4:(w.terms.map i9).length=w.terms.length:=by simp
   conv=>whnf
   repeat' (first|refine zz ?_|refine qp sg ?_|refine b9 (Q7 Y hx) ?_|refine b9 hw ?_|refine zd ?_ ?_<;>intro h<;>try omega|refine zy ?_|fail)<;>conv=>whnf
   all_goals try omega
   refine d7 c8 (fun j=>([J,J,S.c (C.t (T.ptr [ti (k:Int),E1 s.rows])),J,J,S.c (C.ptr 0 0 0),S.c (C.own 1 0 k true),J,S.c (C.ptr 2 0 0),a7 .i64 i,S.c (C.ptr 3 0 0),J,J,J,J,J,J,J,J,J,J,J,J,J,J,J,J,J,J,J,J,J,J,J,J,i8 (Y.map fz),a7 .i64 Y.length,a7 .i64 i,J,J,J,J,J,J,J,J,J,J,J,J,j7 w.terms,a7 .i64 w.terms.length,a7 .i64 j,J,J,J,J,J,J,J,J,J,J,J,J,J,J,J,J,J,J,J,J,J,J,J,J,J,J,J,J,J,J,J,J,J,J,J,J,J,J,J,J,J,J,J,J,J,J],[frB E5,flB (rF k (a8h s (yN Y) i j)),frB (fz (W0 s (yN Y) i)),frB (fz x)])) w.terms.length (fun _=>True) [some 0,some 1,some 2,some 3] trivial
    ⟨rfl,rfl,⟨⟨rfl,rfl,rfl,.inr ⟨⟨rfl,rfl,rfl,rfl,trivial⟩,trivial⟩⟩,a8 (rows:=(rF k fun v=>N2 s (yN Y) v i).map k7) rfl rfl rfl rfl (by rw [b1u]),⟨rfl,rfl,rfl,.inl ⟨rfl,u3 _⟩⟩,⟨rfl,rfl,rfl,.inl ⟨rfl,u3 _⟩⟩,trivial⟩,⟨rfl,⟨rfl,rfl,rfl⟩,⟨rfl,rfl,rfl,fun h=>h⟩,⟨rfl,rfl,rfl⟩,rfl,⟨rfl,rfl,rfl⟩,rfl,rfl,rfl,rfl,c6 (by simp),rfl,trivial⟩⟩ ?_
   intro j hj _
   by_cases hjl:j<w.terms.length
   ·obtain ⟨t,ht⟩:∃t,w.terms[j]? =some t:=⟨_,lg0 hjl⟩
    have tm:=p8 hrt t (lg2 ht)
    have tb:=b2 t (lg2 ht)
    obtain ⟨p1,p2⟩:=b1j (s:=s) (y:=yN Y) (i:=i) (k:=j) (n:=(s.n.toNat:Nat)) (t:=t) (by rw [erw];exact hrt) (by rw [erw];exact ht)
    have bm:=hq.n t.1.toNat i
    have ad:=b35 (N2 s (yN Y) t.1.toNat i) x t.2 (by omega) (by omega) tb
    have hv:t.1.toNat<k:=by omega
    have g1:(rF k (a8h s (yN Y) i j))[0+t.1.toNat]? =some (fz (N2 s (yN Y) t.1.toNat i)):=by rw [Nat.zero_add,D4 hv,p1]
    have eM:0+t.1.toNat=t.1.toNat:=by omega
    rw [eyx] at p2
    conv=>whnf
    repeat' (first|refine zz ?_|refine qp ad ?_|refine b9 ht ?_|refine n7 g1 ?_|refine zd ?_ ?_<;>intro h<;>try omega|refine zy ?_|fail)<;>conv=>whnf
    all_goals first
     |omega
     |(refine ⟨hjl,trivial,[some 0,some 1,some 2,some 3],rfl,rfl,⟨⟨rfl,rfl,rfl,.inr ⟨⟨rfl,rfl,rfl,rfl,trivial⟩,trivial⟩⟩,a8 (rows:=(rF k (a8h s (yN Y) i (j+1))).map k7) rfl rfl rfl ?_ rfl,⟨rfl,rfl,rfl,.inl ⟨rfl,u3 _⟩⟩,⟨rfl,rfl,rfl,.inl ⟨rfl,u3 _⟩⟩,trivial⟩,⟨rfl,⟨rfl,rfl,rfl⟩,⟨rfl,rfl,rfl,fun h=>h⟩,⟨rfl,rfl,rfl⟩,rfl,⟨rfl,rfl,rfl⟩,rfl,rfl,rfl,rfl,rfl,c6 (by omega),trivial⟩⟩
       have e:=E6 (row:=rF k (a8h s (yN Y) i j)) (y:=fz (N2 s (yN Y) t.1.toNat i+x*t.2)) eM
       rw [P1 hv,p2] at e
       exact congrArg Blk.rows e)
   ·have hje:j=w.terms.length:=by omega
    subst hje
    have e3:a8h s (yN Y) i w.terms.length=fun v=>N2 s (yN Y) v (i+1):=by rw [← erw];exact b32 s (yN Y) i
    rw [e3]
    conv=>whnf
    repeat' (first|refine zz ?_|refine qp pv ?_|refine b9 hw ?_|refine zd ?_ ?_<;>intro h<;>try omega|refine zy ?_|fail)<;>conv=>whnf
    all_goals first
     |omega
     |exact ⟨hil,trivial,[some 0,some 1,some 2],rfl,rfl,⟨⟨rfl,rfl,rfl,.inr ⟨⟨rfl,rfl,rfl,rfl,trivial⟩,trivial⟩⟩,c9 (c7 _),⟨rfl,rfl,rfl,.inl ⟨rfl,u3 _⟩⟩,trivial⟩,⟨rfl,⟨rfl,rfl,rfl⟩,⟨rfl,rfl,rfl,fun h=>h⟩,⟨rfl,rfl,rfl⟩,rfl,rfl,c6 (by omega),trivial⟩⟩
 have hie:i=s.rows.length:=by omega
 subst hie
 have e4:(fun v=>N2 s (yN Y) v s.rows.length)=E0 s (yN Y):=rfl
 have e5:W0 s (yN Y) s.rows.length=a0U s (yN Y):=rfl
 rw [e4,e5]
 conv=>whnf
 repeat' (first|refine zz ?_|refine zd ?_ ?_<;>intro h<;>try omega|refine zy ?_|fail)<;>conv=>whnf
 all_goals try omega
 refine d7 c8 (fun v=>([J,J,J,J,J,S.c (C.ptr 0 0 0),J,J,S.c (C.ptr 2 0 0),J,J,J,J,S.c (C.own 3 0 (H5 s (yN Y) v).length true),J,J,J,J,J,J,J,J,J,J,J,J,J,J,J,J,J,J,J,J,J,J,J,J,J,J,J,J,J,J,J,J,J,J,J,J,J,J,J,J,J,J,J,J,J,J,J,J,J,J,J,J,J,J,J,J,J,J,J,J,J,J,J,J,J,J,S.c (C.own 1 0 k true),a7 .i64 k,a7 .i64 v,J,J,J,J,J,J,J,J,J,J,J,J,J,J,J,J],[frB E5,flB (rF k (E0 s (yN Y))),frB (fz (a0U s (yN Y))),M4 (H5 s (yN Y) v)])) k (fun _=>True) [some 0,some 1,some 2,none] trivial
  ⟨rfl,rfl,⟨⟨rfl,rfl,rfl,.inr ⟨⟨rfl,rfl,rfl,rfl,trivial⟩,trivial⟩⟩,c9 (c7 _),⟨rfl,rfl,rfl,.inl ⟨rfl,u3 _⟩⟩,⟨rfl,rfl⟩,trivial⟩,⟨⟨rfl,rfl,rfl⟩,⟨rfl,rfl,rfl⟩,⟨rfl,rfl,rfl⟩,⟨rfl,rfl,rfl,fun h=>h⟩,rfl,c6 rfl,trivial⟩⟩ ?_
 intro v hv _
 have lv:=a99 s (yN Y) v
 by_cases hlt:v<k
 ·have bm:=hq.n v s.rows.length
  have em:N2 s (yN Y) v s.rows.length=E0 s (yN Y) v:=rfl
  rw [em] at bm
  have sg:=Z4 (E0 s (yN Y) v) (by omega)
  have sz:=a2p (x:=E0 s (yN Y) v)
  have g1:(rF k (E0 s (yN Y)))[0+(v:Int).toNat]? =some (fz (E0 s (yN Y) v)):=by rw [Nat.zero_add,show (v:Int).toNat=v by omega,D4 hlt]
  have lA:(H5 s (yN Y) v).length<=(M4 (H5 s (yN Y) v)).rows.length:=by show _<=(toC _).length;simp [toC]
  by_cases hz:E0 s (yN Y) v=0
  ·have hs:=sz.2 hz
   have e2:H5 s (yN Y) (v+1)=H5 s (yN Y) v:=by rw [a4M,if_pos hz]
   rw [e2]
   conv=>whnf
   repeat' (first|refine zz ?_|refine qp sg ?_|refine n7 g1 ?_|refine zd ?_ ?_<;>intro h<;>try omega|refine zy ?_|fail)<;>conv=>whnf
   all_goals first
    |omega
    |exact ⟨hlt,trivial,[some 0,some 1,some 2,some 3],rfl,rfl,⟨⟨rfl,rfl,rfl,.inr ⟨⟨rfl,rfl,rfl,rfl,trivial⟩,trivial⟩⟩,c9 (c7 _),⟨rfl,rfl,rfl,.inl ⟨rfl,u3 _⟩⟩,c9 (c7 _),trivial⟩,⟨⟨rfl,rfl,rfl⟩,⟨rfl,rfl,rfl⟩,⟨rfl,rfl,rfl,fun h=>h⟩,⟨rfl,rfl,rfl,fun h=>h⟩,rfl,c6 (by omega),trivial⟩⟩
  ·have hs:sgR (E0 s (yN Y) v)≠0:=fun h=>hz (sz.1 h)
   have e2:H5 s (yN Y) (v+1)=H5 s (yN Y) v++[((v:Int),E0 s (yN Y) v)]:=by rw [a4M,if_neg hz]
   rw [e2]
   conv=>whnf
   repeat' (first|refine zz ?_|refine qp sg ?_|refine qp toC ?_|refine n7 g1 ?_|refine o6 lA (by simp [toC];omega) ?_|refine zd ?_ ?_<;>intro h<;>try omega|refine zy ?_|fail)<;>conv=>whnf
   all_goals first
    |omega
    |(refine ⟨hlt,trivial,[some 0,some 1,some 2,some 5],rfl,rfl,⟨⟨rfl,rfl,rfl,.inr ⟨⟨rfl,rfl,rfl,rfl,trivial⟩,trivial⟩⟩,c9 (c7 _),⟨rfl,rfl,rfl,.inl ⟨rfl,u3 _⟩⟩,a8 (rows:=(H5 s (yN Y) v++[((v:Int),E0 s (yN Y) v)]).map i9) rfl rfl rfl ?_ rfl,trivial⟩,⟨⟨rfl,rfl,rfl⟩,⟨rfl,rfl,rfl⟩,⟨rfl,rfl,?_,fun h=>h⟩,⟨rfl,rfl,rfl,fun h=>h⟩,rfl,c6 (by omega),trivial⟩⟩
      ·exact A6 (f:=i9) (x:=((v:Int),E0 s (yN Y) v)) rfl
      ·simp [toC])
 ·have hke:v=k:=by omega
  subst hke
  conv=>whnf
  repeat' (first|refine zz ?_|refine zd ?_ ?_<;>intro h<;>try omega|refine zy ?_|fail)<;>conv=>whnf
  all_goals first
   |omega
   |exact j2 ⟨(show VC _ (fun id=>F3 [] id=true) (C.own 3 0 _ true) _ from s8 (k:=M4 (H5 s (yN Y) v)) rfl rfl (fun h=>h) rfl rfl (by simp)),⟨rfl,rfl,rfl,rfl,trivial⟩,trivial⟩
theorem aj8 {t:Int × Rat} {r:List (Int × Rat)} (h:∀u ∈ r,u.1.toNat≠t.1.toNat) (v:Nat):∀k,k<=r.length->I9 (t::r) (k+1) v=if v=t.1.toNat then t.2 else I9 r k v
 |0,_=>by
  rw [G5 (l:=t::r) (k:=0) (t:=t) rfl]
  simp only
  by_cases h1:v=t.1.toNat
  ·rw [if_pos h1,if_pos h1]
  ·rw [if_neg h1,if_neg h1]
   rfl
 |k+1,hk=>by
  have hx:r[k]? =some r[k]:=lg0 (by omega)
  have hne:=h _ (lg2 hx)
  rw [G5 (l:=t::r) (k:=k+1) (t:=r[k]) (by simp),G5 hx]
  have ih:=aj8 h v k (by omega)
  simp only
  rw [ih]
  by_cases h1:v=t.1.toNat
  ·rw [if_pos h1,if_pos h1,if_neg (by omega)]
  ·rw [if_neg h1,if_neg h1]
theorem x7 {last n:Int} {t:Int × Rat} {r:List (Int × Rat)} (h0:-1<=last) (h:e8 last n (t::r)=true) (v:Nat):v8 (t::r) v=if v=t.1.toNat then t.2 else v8 r v:=by
 refine aj8 (fun u hu=>?_) v r.length (Nat.le_refl _)
 obtain ⟨j,hj,he⟩:=List.getElem_of_mem hu
 have h1:=a1J h 0 (j+1) t u (by omega) rfl (by simp [he,hj])
 have h2:=p8 h t (List.mem_cons_self ..)
 omega
theorem z4 {last n:Int} {t:Int × Rat} {r:List (Int × Rat)} (h:e8 last n (t::r)=true):e8 t.1 n r=true:=by
 unfold e8 at h
 simp only [Bool.and_eq_true] at h
 exact h.2
theorem ay0 {last last' n:Int} (hl:last'<=last) {l:List (Int × Rat)} (h:e8 last n l=true):e8 last' n l=true:=by
 cases l with
 |nil=>rfl
 |cons t r=>
  unfold e8 at h ⊢
  simp only [Bool.and_eq_true,decide_eq_true_eq] at h ⊢
  exact ⟨⟨⟨by omega,h.1.1.2⟩,h.1.2⟩,h.2⟩
theorem Z2 {last n:Int} {l:List (Int × Rat)} (h0:-1<=last) (h:e8 last n l=true) {v:Nat} (hv:(v:Int)<=last):v8 l v=0:=by
 refine W1 _ fun i t hi ht e=>?_
 have:=p8 h t (lg2 ht)
 omega
def a8r (a b:List (Int × Rat)):Prop:=∀v,v8 a v<=v8 b v
theorem aF2 {last n:Int} {t:Int × Rat} {r b:List (Int × Rat)} (h0:-1<=last) (ha:e8 last n (t::r)=true) (hb:e8 t.1 n b=true):a8r (t::r) b↔t.2<=0∧a8r r b:=by
 have hm:=p8 ha t (List.mem_cons_self ..)
 have z1:=Z2 (v:=t.1.toNat) (by omega) hb (by omega)
 have z2:=Z2 (v:=t.1.toNat) (by omega) (z4 ha) (by omega)
 constructor
 ·intro h
  refine ⟨?_,fun v=>?_⟩
  ·have:=h t.1.toNat
   rw [x7 h0 ha,if_pos rfl,z1] at this
   exact this
  ·by_cases hv:v=t.1.toNat
   ·subst hv;rw [z1,z2];exact Rat.le_refl
   ·have:=h v
    rwa [x7 h0 ha,if_neg hv] at this
 ·rintro ⟨h1,h2⟩ v
  rw [x7 h0 ha]
  by_cases hv:v=t.1.toNat
  ·rw [if_pos hv,hv,z1];exact h1
  ·rw [if_neg hv];exact h2 v
theorem ah3 {last n:Int} {u:Int × Rat} {a q:List (Int × Rat)} (h0:-1<=last) (hb:e8 last n (u::q)=true) (ha:e8 u.1 n a=true):a8r a (u::q)↔0<=u.2∧a8r a q:=by
 have hm:=p8 hb u (List.mem_cons_self ..)
 have z1:=Z2 (v:=u.1.toNat) (by omega) ha (by omega)
 have z2:=Z2 (v:=u.1.toNat) (by omega) (z4 hb) (by omega)
 constructor
 ·intro h
  refine ⟨?_,fun v=>?_⟩
  ·have:=h u.1.toNat
   rw [x7 h0 hb,if_pos rfl,z1] at this
   exact this
  ·by_cases hv:v=u.1.toNat
   ·subst hv;rw [z1,z2];exact Rat.le_refl
   ·have:=h v
    rwa [x7 h0 hb,if_neg hv] at this
 ·rintro ⟨h1,h2⟩ v
  rw [x7 h0 hb]
  by_cases hv:v=u.1.toNat
  ·rw [if_pos hv,hv,z1];exact h1
  ·rw [if_neg hv];exact h2 v
theorem b4e {last n:Int} {t u:Int × Rat} {r q:List (Int × Rat)} (h0:-1<=last) (ha:e8 last n (t::r)=true) (hb:e8 last n (u::q)=true) (he:t.1=u.1):a8r (t::r) (u::q)↔t.2<=u.2∧a8r r q:=by
 have hm:=p8 ha t (List.mem_cons_self ..)
 have z1:=Z2 (v:=t.1.toNat) (by omega) (z4 ha) (by omega)
 have z2:=Z2 (v:=t.1.toNat) (by omega) (z4 hb) (by omega)
 constructor
 ·intro h
  refine ⟨?_,fun v=>?_⟩
  ·have:=h t.1.toNat
   rwa [x7 h0 ha,x7 h0 hb,if_pos rfl,if_pos (by rw [he])] at this
  ·by_cases hv:v=t.1.toNat
   ·subst hv;rw [z1,z2];exact Rat.le_refl
   ·have:=h v
    rwa [x7 h0 ha,x7 h0 hb,if_neg hv,if_neg (by rw [← he];exact hv)] at this
 ·rintro ⟨h1,h2⟩ v
  rw [x7 h0 ha,x7 h0 hb,←he]
  by_cases hv:v=t.1.toNat
  ·rw [if_pos hv,if_pos hv];exact h1
  ·rw [if_neg hv,if_neg hv];exact h2 v
open Classical in
noncomputable def ae7 (a b:List (Int × Rat)):Bool:=decide (a8r a b)
theorem a4t {a b:List (Int × Rat)}:ae7 a b=true↔a8r a b:=by unfold ae7;simp
theorem a6N {a b a' b':List (Int × Rat)} {p:Prop} (h:a8r a b↔p∧a8r a' b') (hp:p):ae7 a b=ae7 a' b':=by
 rw [Bool.eq_iff_iff,a4t,a4t,h];exact ⟨fun h=>h.2,fun h=>⟨hp,h⟩⟩
theorem a6s {a b a' b':List (Int × Rat)} {p:Prop} (h:a8r a b↔p∧a8r a' b') (hp:¬p):ae7 a b=false:=by
 rw [← Bool.not_eq_true,a4t,h];exact fun h=>hp h.1
theorem a64 (u:Int × Rat) (q:List (Int × Rat)):T.sl 5 (a08 SK.any none none) (List.drop (Int.toNat 1) (List.take (((((u::q).map i9).length:Nat):Int)).toNat ((u::q).map i9)))=.sl 5 .any (q.map i9):=by
 rw [lg4 (by omega)];rfl
set_option maxHeartbeats 8000000 in
theorem b4E (n:Int) (a b:List (Int × Rat)) (ha:e8 (-1) n a=true) (hb:e8 (-1) n b=true) (hn:n<=1500) (ba:∀t ∈ a,rl t.2<=60000) (bb:∀t ∈ b,rl t.2<=60000):
 a9 Tryz.prog 163 [j7 a,j7 b] [] (d6 (ae7 a b)) []:=by
 have i0:=I3 0 (by decide) (by decide)
 have r0:=rl0
 (refine ac Tryz.func163 ?_;(conv=>whnf);repeat ((first|refine b0x ?_|refine zy ?_);conv=>whnf))
 repeat' (first|refine zz ?_|refine qp i0 ?_|refine zd ?_ ?_<;>intro h<;>try omega|refine zy ?_|fail)<;>conv=>whnf
 refine k5 c8 (σ:=Int × List (Int × Rat) × List (Int × Rat)) (fun x=>([j7 x.2.1,j7 x.2.2,J,J,J,S.c (C.ptr 0 0 0),J,J,J,J,J,J,J,J,J,J,J,J,J,J,J,J,J,J,J,J,J,J,J,J,J,J,J,J,J,J,J,J,J,J,J,J,J,J,J,J,J,J,J,J,J,J,J,J,J,J,J,J,J,J,J,J,J,J,J,J,J,J,J,J,J,J,J,J,J,J,J],[frB (fz ((0:Int):Rat))])) (fun x=>-1<=x.1∧e8 x.1 n x.2.1=true∧e8 x.1 n x.2.2=true∧(∀ t ∈ x.2.1,rl t.2<=60000)∧(∀ t ∈ x.2.2,rl t.2<=60000)∧ae7 a b=ae7 x.2.1 x.2.2) (fun x=>x.2.1.length+x.2.2.length) (-1,a,b) [some 0]
  ⟨Int.le_refl _,ha,hb,ba,bb,rfl⟩ ⟨rfl,rfl,⟨⟨rfl,rfl,rfl,.inl ⟨rfl,u3 _⟩⟩,trivial⟩,⟨rfl,rfl,⟨rfl,rfl,rfl⟩,trivial⟩⟩ ?_
 rintro ⟨last,a',b'⟩ ⟨h0,h1,h2,h3,h4,h5⟩
 simp only at h0 h1 h2 h3 h4 h5
 rw [h5]
 show a3E _ _ _ _ ([j7 a',j7 b',J,J,J,S.c (C.ptr 0 0 0),J,J,J,J,J,J,J,J,J,J,J,J,J,J,J,J,J,J,J,J,J,J,J,J,J,J,J,J,J,J,J,J,J,J,J,J,J,J,J,J,J,J,J,J,J,J,J,J,J,J,J,J,J,J,J,J,J,J,J,J,J,J,J,J,J,J,J,J,J,J,J]) [frB (fz ((0:Int):Rat))] _
 have ma:(a'.map i9).length=a'.length:=by simp
 have mb:(b'.map i9).length=b'.length:=by simp
 have lena:=z5 h1
 have lenb:=z5 h2
 clear h5
 cases a' with
 |nil=>
  have na:([]:List (Int × Rat)).length=0:=rfl
  cases b' with
  |nil=>
   have e:ae7 [] []=true:=a4t.2 fun v=>Rat.le_refl
   rw [e]
   conv=>whnf
   repeat' (first|refine zz ?_|refine zd ?_ ?_<;>intro h<;>try omega|refine zy ?_|fail)<;>conv=>whnf
   all_goals first
    |omega
    |exact b7 rfl
  |cons u q=>
   have hm:=p8 h2 u (List.mem_cons_self ..)
   have nb:(u::q).length=q.length+1:=rfl
   have eq:=ah3 (a:=[]) h0 h2 rfl
   have bu:=h4 u (List.mem_cons_self ..)
   have cm:=U4 ((0:Int):Rat) u.2 (by have e:rl ((0:Int):Rat)=rl 0:=rfl;omega) bu
   have k2:=a0A (x:=((0:Int):Rat)) (y:=u.2)
   generalize a0E ((0:Int):Rat) u.2=U at cm k2
   by_cases hU:U > 0
   ·rw [a6s eq (Rat.not_le.2 (k2.1 hU))]
    clear k2
    conv=>whnf
    repeat' (first|refine zz ?_|refine qp cm ?_|refine qp 0 ?_|refine qp 1 ?_|refine qp (4,5) ?_|refine T0 (by omega) (by omega) (by omega) ?_|refine u5 (k:=0) rfl (show (u::q)[0]? =some u from rfl) ?_|refine bl0 [1] ?_|refine bl0 [4,5] ?_|refine zd ?_ ?_<;>intro h<;>try omega|refine zy ?_|fail)<;>conv=>whnf
    all_goals first
     |omega
     |exact b7 rfl
   ·rw [a6N eq (Rat.not_lt.1 fun h=>hU (k2.2 h))]
    clear k2
    conv=>whnf
    repeat' (first|refine zz ?_|refine qp cm ?_|refine qp 0 ?_|refine qp 1 ?_|refine qp (4,5) ?_|refine T0 (by omega) (by omega) (by omega) ?_|refine u5 (k:=0) rfl (show (u::q)[0]? =some u from rfl) ?_|refine bl0 [1] ?_|refine bl0 [4,5] ?_|refine zd ?_ ?_<;>intro h<;>try omega|refine zy ?_|fail)<;>conv=>whnf
    all_goals first
     |omega
     |exact ⟨[some 0],(u.1,[],q),⟨rfl,rfl,⟨⟨rfl,rfl,rfl,.inl ⟨rfl,u3 _⟩⟩,trivial⟩,⟨rfl,g7 (a64 u q),⟨rfl,rfl,rfl⟩,trivial⟩⟩,⟨by omega,rfl,z4 h2,h3,fun t ht=>h4 t (List.mem_cons_of_mem _ ht),rfl⟩,by simp⟩
 |cons t r=>
  have hm:=p8 h1 t (List.mem_cons_self ..)
  have bt:=h3 t (List.mem_cons_self ..)
  have na:(t::r).length=r.length+1:=rfl
  cases b' with
  |nil=>
   have nb:([]:List (Int × Rat)).length=0:=rfl
   have eq:=aF2 (b:=[]) h0 h1 rfl
   have cm:=U4 t.2 ((0:Int):Rat) bt (by have e:rl ((0:Int):Rat)=rl 0:=rfl;omega)
   have k2:=a0A (x:=t.2) (y:=((0:Int):Rat))
   generalize a0E t.2 ((0:Int):Rat)=U at cm k2
   by_cases hU:U > 0
   ·rw [a6s eq (Rat.not_le.2 (k2.1 hU))]
    clear k2
    conv=>whnf
    repeat' (first|refine zz ?_|refine qp cm ?_|refine qp 0 ?_|refine qp 1 ?_|refine qp (4,5) ?_|refine T0 (by omega) (by omega) (by omega) ?_|refine u5 (k:=0) rfl (show (t::r)[0]? =some t from rfl) ?_|refine bl0 [1] ?_|refine bl0 [4,5] ?_|refine zd ?_ ?_<;>intro h<;>try omega|refine zy ?_|fail)<;>conv=>whnf
    all_goals first
     |omega
     |exact b7 rfl
   ·rw [a6N eq (Rat.not_lt.1 fun h=>hU (k2.2 h))]
    clear k2
    conv=>whnf
    repeat' (first|refine zz ?_|refine qp cm ?_|refine qp 0 ?_|refine qp 1 ?_|refine qp (4,5) ?_|refine T0 (by omega) (by omega) (by omega) ?_|refine u5 (k:=0) rfl (show (t::r)[0]? =some t from rfl) ?_|refine bl0 [1] ?_|refine bl0 [4,5] ?_|refine zd ?_ ?_<;>intro h<;>try omega|refine zy ?_|fail)<;>conv=>whnf
    all_goals first
     |omega
     |exact ⟨[some 0],(t.1,r,[]),⟨rfl,rfl,⟨⟨rfl,rfl,rfl,.inl ⟨rfl,u3 _⟩⟩,trivial⟩,⟨g7 (a64 t r),rfl,⟨rfl,rfl,rfl⟩,trivial⟩⟩,⟨by omega,z4 h1,rfl,fun t ht=>h3 t (List.mem_cons_of_mem _ ht),h4,rfl⟩,by simp⟩
  |cons u q=>
   have nb:(u::q).length=q.length+1:=rfl
   have hmu:=p8 h2 u (List.mem_cons_self ..)
   have bu:=h4 u (List.mem_cons_self ..)
   rcases Int.lt_trichotomy t.1 u.1 with hlt|he|hgt
   ·have hrb:e8 t.1 n (u::q)=true:=by
     have:=h2
     unfold e8 at this ⊢
     simp only [Bool.and_eq_true,decide_eq_true_eq] at this ⊢
     exact ⟨⟨⟨by omega,this.1.1.2⟩,this.1.2⟩,this.2⟩
    have eq:=aF2 h0 h1 hrb
    have cm:=U4 t.2 ((0:Int):Rat) bt (by have e:rl ((0:Int):Rat)=rl 0:=rfl;omega)
    have k2:=a0A (x:=t.2) (y:=((0:Int):Rat))
    generalize a0E t.2 ((0:Int):Rat)=U at cm k2
    by_cases hU:U > 0
    ·rw [a6s eq (Rat.not_le.2 (k2.1 hU))]
     clear k2
     conv=>whnf
     repeat' (first|refine zz ?_|refine qp cm ?_|refine qp 0 ?_|refine qp 0 ?_|refine qp 1 ?_|refine qp (4,5) ?_|refine T0 (by omega) (by omega) (by omega) ?_|refine u5 (k:=0) rfl (show (u::q)[0]? =some u from rfl) ?_|refine u5 (k:=0) rfl (show (t::r)[0]? =some t from rfl) ?_|refine bl0 [1] ?_|refine bl0 [4,5] ?_|refine zd ?_ ?_<;>intro h<;>try omega|refine zy ?_|fail)<;>conv=>whnf
     all_goals first
      |omega
      |exact b7 rfl
    ·rw [a6N eq (Rat.not_lt.1 fun h=>hU (k2.2 h))]
     clear k2
     conv=>whnf
     repeat' (first|refine zz ?_|refine qp cm ?_|refine qp 0 ?_|refine qp 0 ?_|refine qp 1 ?_|refine qp (4,5) ?_|refine T0 (by omega) (by omega) (by omega) ?_|refine u5 (k:=0) rfl (show (u::q)[0]? =some u from rfl) ?_|refine u5 (k:=0) rfl (show (t::r)[0]? =some t from rfl) ?_|refine bl0 [1] ?_|refine bl0 [4,5] ?_|refine zd ?_ ?_<;>intro h<;>try omega|refine zy ?_|fail)<;>conv=>whnf
     all_goals first
      |omega
      |exact ⟨[some 0],(t.1,r,u::q),⟨rfl,rfl,⟨⟨rfl,rfl,rfl,.inl ⟨rfl,u3 _⟩⟩,trivial⟩,⟨g7 (a64 t r),rfl,⟨rfl,rfl,rfl⟩,trivial⟩⟩,⟨by omega,z4 h1,hrb,fun t ht=>h3 t (List.mem_cons_of_mem _ ht),h4,rfl⟩,by simp⟩
   ·have eq:=b4e h0 h1 h2 he
    have cm:=U4 t.2 u.2 bt bu
    have k2:=a0A (x:=t.2) (y:=u.2)
    generalize a0E t.2 u.2=U at cm k2
    by_cases hU:U > 0
    ·rw [a6s eq (Rat.not_le.2 (k2.1 hU))]
     clear k2
     conv=>whnf
     repeat' (first|refine zz ?_|refine qp cm ?_|refine qp 0 ?_|refine qp 0 ?_|refine qp 1 ?_|refine qp (4,5) ?_|refine T0 (by omega) (by omega) (by omega) ?_|refine u5 (k:=0) rfl (show (u::q)[0]? =some u from rfl) ?_|refine u5 (k:=0) rfl (show (t::r)[0]? =some t from rfl) ?_|refine bl0 [1] ?_|refine bl0 [4,5] ?_|refine zd ?_ ?_<;>intro h<;>try omega|refine zy ?_|fail)<;>conv=>whnf
     all_goals first
      |omega
      |exact b7 rfl
    ·rw [a6N eq (Rat.not_lt.1 fun h=>hU (k2.2 h))]
     clear k2
     conv=>whnf
     repeat' (first|refine zz ?_|refine qp cm ?_|refine qp 0 ?_|refine qp 0 ?_|refine qp 1 ?_|refine qp (4,5) ?_|refine T0 (by omega) (by omega) (by omega) ?_|refine u5 (k:=0) rfl (show (u::q)[0]? =some u from rfl) ?_|refine u5 (k:=0) rfl (show (t::r)[0]? =some t from rfl) ?_|refine bl0 [1] ?_|refine bl0 [4,5] ?_|refine zd ?_ ?_<;>intro h<;>try omega|refine zy ?_|fail)<;>conv=>whnf
     all_goals first
      |omega
      |exact ⟨[some 0],(t.1,r,q),⟨rfl,rfl,⟨⟨rfl,rfl,rfl,.inl ⟨rfl,u3 _⟩⟩,trivial⟩,⟨g7 (a64 t r),g7 (a64 u q),⟨rfl,rfl,rfl⟩,trivial⟩⟩,⟨by omega,z4 h1,by rw [he];exact z4 h2,fun t ht=>h3 t (List.mem_cons_of_mem _ ht),fun t ht=>h4 t (List.mem_cons_of_mem _ ht),rfl⟩,by simp;omega⟩
   ·have hra:e8 u.1 n (t::r)=true:=by
     have:=h1
     unfold e8 at this ⊢
     simp only [Bool.and_eq_true,decide_eq_true_eq] at this ⊢
     exact ⟨⟨⟨by omega,this.1.1.2⟩,this.1.2⟩,this.2⟩
    have eq:=ah3 h0 h2 hra
    have cm:=U4 ((0:Int):Rat) u.2 (by have e:rl ((0:Int):Rat)=rl 0:=rfl;omega) bu
    have k2:=a0A (x:=((0:Int):Rat)) (y:=u.2)
    generalize a0E ((0:Int):Rat) u.2=U at cm k2
    by_cases hU:U > 0
    ·rw [a6s eq (Rat.not_le.2 (k2.1 hU))]
     clear k2
     conv=>whnf
     repeat' (first|refine zz ?_|refine qp cm ?_|refine qp 0 ?_|refine qp 0 ?_|refine qp 1 ?_|refine qp (4,5) ?_|refine T0 (by omega) (by omega) (by omega) ?_|refine u5 (k:=0) rfl (show (u::q)[0]? =some u from rfl) ?_|refine u5 (k:=0) rfl (show (t::r)[0]? =some t from rfl) ?_|refine bl0 [1] ?_|refine bl0 [4,5] ?_|refine zd ?_ ?_<;>intro h<;>try omega|refine zy ?_|fail)<;>conv=>whnf
     all_goals first
      |omega
      |exact b7 rfl
    ·rw [a6N eq (Rat.not_lt.1 fun h=>hU (k2.2 h))]
     clear k2
     conv=>whnf
     repeat' (first|refine zz ?_|refine qp cm ?_|refine qp 0 ?_|refine qp 0 ?_|refine qp 1 ?_|refine qp (4,5) ?_|refine T0 (by omega) (by omega) (by omega) ?_|refine u5 (k:=0) rfl (show (u::q)[0]? =some u from rfl) ?_|refine u5 (k:=0) rfl (show (t::r)[0]? =some t from rfl) ?_|refine bl0 [1] ?_|refine bl0 [4,5] ?_|refine zd ?_ ?_<;>intro h<;>try omega|refine zy ?_|fail)<;>conv=>whnf
     all_goals first
      |omega
      |exact ⟨[some 0],(u.1,t::r,q),⟨rfl,rfl,⟨⟨rfl,rfl,rfl,.inl ⟨rfl,u3 _⟩⟩,trivial⟩,⟨rfl,g7 (a64 u q),⟨rfl,rfl,rfl⟩,trivial⟩⟩,⟨by omega,hra,z4 h2,h3,fun t ht=>h4 t (List.mem_cons_of_mem _ ht),rfl⟩,by simp⟩
theorem b21 {s:f8} {g:List (Int × Rat)} {y:Nat->Rat} (hr:g6 s=true) (hg:e8 (-1) s.n g=true):ae7 (H5 s y s.n.toNat) g=(List.range s.n.toNat).all fun v=>decide (E0 s y v<=v8 g v):=by
 have hn:=V7 hr
 have hm:=a3g s y s.n.toNat
 rw [Bool.eq_iff_iff,a4t,List.all_eq_true]
 constructor
 ·intro h v hv
  rw [List.mem_range] at hv
  have:=h v
  rw [a8R hv] at this
  exact decide_eq_true this
 ·intro h v
  by_cases hv:v<s.n.toNat
  ·rw [a8R hv];exact of_decide_eq_true (h v (List.mem_range.2 hv))
  ·rw [show v8 (H5 s y s.n.toNat) v=0 from W1 _ fun i t _ ht=>by
    have:=p8 hm t (lg2 ht);omega,show v8 g v=0 from W1 _ fun i t _ ht=>by
    have:=p8 hg t (lg2 ht);omega]
   exact Rat.le_refl
theorem aE0 (s:f8) (hb:a39 s) (hr:g6 s=true) (g:List (Int × Rat)) (y:List Fr) (hy:aJ3 y) (h:(decide (y.length=s.rows.length) && y.all x4)=false):
 a9 Tryz.prog 90 [Q3 s,j7 g,i8 y] [] (.tup [frS E5,d6 false]) []:=by
 have sn:=a7O s hb hr y hy h
 (refine ac Tryz.func90 ?_;(conv=>whnf);repeat ((first|refine b0x ?_|refine zy ?_);conv=>whnf))
 repeat' (first|refine zz ?_|refine qp sn ?_|refine zd ?_ ?_<;>intro h<;>try omega|refine zy ?_|fail)<;>conv=>whnf
 all_goals exact j2 ⟨⟨rfl,rfl,rfl,rfl,trivial⟩,rfl,trivial⟩
set_option maxHeartbeats 4000000 in
theorem b2C (s:f8) (hb:a39 s) (hr:g6 s=true) (hn1:s.n<=1000) (g:List (Int × Rat)) (hg:g.length<=1000000) (hgb:∀t ∈ g,rl t.2<=200) (Y:List Rat) (hy:∀v ∈ Y,rl v<=40000) (hyl:Y.length<=1000000) (hq:Y.length=s.rows.length->at5 s Y):
 a9 Tryz.prog 90 [Q3 s,j7 g,i8 (Y.map fz)] [] (a3K s g Y) []:=by
 have h0n:=V7 hr
 have sn:=b1c s hb hr Y hyl (fun v hv=>by have:=hy v hv;omega)
 have rt:=J8 g s.n hg hgb
 rw [decide_eq_true (show 0<=s.n by omega),Bool.true_and] at rt
 cases hs:Z3 s Y with
 |false=>
  have e:a3K s g Y=.tup [frS E5,d6 false]:=by unfold a3K a0F;rw [hs];rfl
  rw [e]
  rw [hs] at sn
  (refine ac Tryz.func90 ?_;(conv=>whnf);repeat ((first|refine b0x ?_|refine zy ?_);conv=>whnf))
  repeat' (first|refine zz ?_|refine qp sn ?_|refine qp rt ?_|refine zd ?_ ?_<;>intro h<;>try omega|refine zy ?_|fail)<;>conv=>whnf
  all_goals first
   |(exfalso;simp_all;done)
   |exact j2 ⟨⟨rfl,rfl,rfl,rfl,trivial⟩,rfl,trivial⟩
 |true=>
 rw [hs] at sn
 cases ht:e8 (-1) s.n g with
 |false=>
  have e:a3K s g Y=.tup [frS E5,d6 false]:=by unfold a3K a0F;rw [hs,ht];rfl
  rw [e]
  rw [ht] at rt
  (refine ac Tryz.func90 ?_;(conv=>whnf);repeat ((first|refine b0x ?_|refine zy ?_);conv=>whnf))
  repeat' (first|refine zz ?_|refine qp sn ?_|refine qp rt ?_|refine zd ?_ ?_<;>intro h<;>try omega|refine zy ?_|fail)<;>conv=>whnf
  all_goals first
   |(exfalso;simp_all;done)
   |exact j2 ⟨⟨rfl,rfl,rfl,rfl,trivial⟩,rfl,trivial⟩
 |true=>
 rw [ht] at rt
 have hl:Y.length=s.rows.length:=by
  unfold Z3 at hs
  simp only [Bool.and_eq_true,decide_eq_true_eq] at hs
  exact hs.1
 have hq:=hq hl
 have mx:=b7U s hb hr Y hq hn1
 have mr:=a3g s (yN Y) s.n.toNat
 have be:=b4E s.n (H5 s (yN Y) s.n.toNat) g (by rw [← h0n];exact mr) ht (by omega) (fun t ht=>by
  obtain ⟨v,h1,h2,rfl⟩:=a6i.1 ht
  have h3:rl (E0 s (yN Y) v)<=50000:=hq.n v s.rows.length
  show rl (E0 s (yN Y) v)<=60000
  omega) (fun t ht=>by have:=hgb t ht;omega)
 rw [b21 hr ht] at be
 have eb:a0F s g Y=(List.range s.n.toNat).all fun v=>decide (E0 s (yN Y) v<=v8 g v):=by unfold a0F;rw [hs,ht];simp
 unfold a3K
 rw [eb]
 generalize (List.range s.n.toNat).all (fun v=>decide (E0 s (yN Y) v<=v8 g v))=B at be
 cases B with
 |true=>
  rw [if_pos rfl]
  (refine ac Tryz.func90 ?_;(conv=>whnf);repeat ((first|refine b0x ?_|refine zy ?_);conv=>whnf))
  repeat' (first|refine zz ?_|refine qp sn ?_|refine qp rt ?_|refine qp mx ?_|refine qp be ?_|refine qp 5 ?_|refine bl0 [5] ?_|refine zd ?_ ?_<;>intro h<;>try omega|refine zy ?_|fail)<;>conv=>whnf
  all_goals first
   |(exfalso;simp_all;done)
   |exact j2 ⟨⟨rfl,rfl,rfl,rfl,trivial⟩,rfl,trivial⟩
 |false=>
  rw [if_neg (by decide)]
  (refine ac Tryz.func90 ?_;(conv=>whnf);repeat ((first|refine b0x ?_|refine zy ?_);conv=>whnf))
  repeat' (first|refine zz ?_|refine qp sn ?_|refine qp rt ?_|refine qp mx ?_|refine qp be ?_|refine qp 5 ?_|refine bl0 [5] ?_|refine zd ?_ ?_<;>intro h<;>try omega|refine zy ?_|fail)<;>conv=>whnf
  all_goals first
   |(exfalso;simp_all;done)
   |exact j2 ⟨⟨rfl,rfl,rfl,rfl,trivial⟩,rfl,trivial⟩
theorem b2J (x:Rat):sgR x<0↔x<((0:Int):Rat):=by unfold sgR;split<;>(try split)<;>simp_all
theorem b3B {x y:Rat} {ρ:List (Option Nat)} {H:Hp} (h:x=y):a3U ρ H (frS (fz x)) (frS (fz y)):=by subst h;exact ⟨rfl,rfl,rfl,rfl,trivial⟩
theorem a81 (n lo hi:Int):a9 Tryz.prog 273 [a7 .i64 n,a7 .i64 lo,a7 .i64 hi] [] (d6 (btw n lo hi)) []:=by
 (refine ac Tryz.func273 ?_;(conv=>whnf);repeat (refine zy ?_;conv=>whnf))
 repeat' (first|refine zz ?_|refine zd ?_ ?_<;>intro h<;>try omega|refine zy ?_|fail)<;>conv=>whnf
 all_goals (refine b7 ?_;simp only [btw];simp;omega)
theorem aG6 (c:I6):a9 Tryz.prog 297 [aA6 c] [] (d6 (N0 c)) []:=by
 have w1:=a81 c.scale 0 29
 have w2:=a81 c.grams 0 1099511627776
 have w3:=a81 c.permille 0 1000
 have w4:=a81 c.drift 0 10000000
 rw [ah8] at w1
 unfold N0
 cases h1:idx c.scale 30<;>cases h2:btw c.grams 0 1099511627776<;>cases h3:btw c.permille 0 1000<;>cases h4:btw c.drift 0 10000000<;>rw [h1] at w1<;>rw [h2] at w2<;>rw [h3] at w3<;>rw [h4] at w4<;>
 ·(refine ac Tryz.func297 ?_;(conv=>whnf);repeat (refine zy ?_;conv=>whnf))
  repeat' (first|refine zz ?_|refine qp w1 ?_|refine qp w2 ?_|refine qp w3 ?_|refine qp w4 ?_|refine zd ?_ ?_<;>intro h<;>try omega|refine zy ?_|fail)<;>conv=>whnf
  all_goals (refine b7 ?_;simp;try omega)
def a3O (o:Option Nat):Int:=match o with
 |none=>-1
 |some b=>b
set_option maxHeartbeats 2000000 in
theorem b6e (cs:List I6) (scale day:Int) (hl:cs.length<=1000000):
 a9 Tryz.prog 271 [.c (.t (Y3 cs)),a7 .i64 scale,a7 .i64 day] [] (.tup [a7 .i64 (a7I (y9 cs scale day cs.length)),d6 (y9 cs scale day cs.length).isSome]) []:=by
 have l1:(cs.map I6.row).length=cs.length:=by simp
 (refine ac Tryz.func271 ?_;(conv=>whnf);repeat ((first|refine b0x ?_|refine zy ?_);conv=>whnf))
 repeat' (first|refine zz ?_|refine zd ?_ ?_<;>intro h<;>try omega|refine zy ?_|fail)<;>conv=>whnf
 refine d7 c8 (fun k=>([S.c (C.t (Y3 cs)),a7 .i64 scale,a7 .i64 day,J,J,J,J,J,a7 .i64 (a3O (y9 cs scale day k)),a7 .i64 k,J,J,J,J,J,J,J,J,J,J,J,J,J,J,J,J,J,J,J,J,J,J,J,J,J,J,J,J,J,J,J,J,J,J,J,J,J,J,J,J,J,J,J,J,J,J,J],[])) cs.length (fun _=>True) [] trivial
  ⟨rfl,rfl,trivial,⟨rfl,rfl,rfl,rfl,rfl,trivial⟩⟩ ?_
 intro k hk _
 by_cases hlt:k<cs.length
 ·obtain ⟨c,hc⟩:∃c,cs[k]? =some c:=⟨_,lg0 hlt⟩
  have cr:=aG6 c
  have ci:=a81 day c.since c.till
  have hst:y9 cs scale day (k+1)=if decide (c.scale=scale) && G7 c day && a3z cs (y9 cs scale day k) c then some k else y9 cs scale day k:=by
   conv=>lhs;unfold y9
   rw [hc]
  have nxt:∀z:Int,a3O (y9 cs scale day (k+1))=z->z=a3O (y9 cs scale day (k+1)):=fun z h=>h.symm
  cases hr:N0 c with
  |false=>
   have hcv:G7 c day=false:=by unfold G7;rw [hr];rfl
   rw [hcv] at hst
   simp only [Bool.and_false,Bool.false_and,Bool.false_eq_true,if_false] at hst
   rw [hr] at cr
   rw [← hst]
   conv=>whnf
   repeat' (first|refine zz ?_|refine qp cr ?_|refine b9 hc ?_|refine zd ?_ ?_<;>intro h<;>try omega|refine zy ?_|fail)<;>conv=>whnf
   all_goals first
    |omega
    |(exfalso;simp_all;done)
    |exact ⟨hlt,trivial,[],rfl,rfl,trivial,⟨rfl,rfl,rfl,rfl,rfl,trivial⟩⟩
  |true=>
  rw [hr] at cr
  cases hb:btw day c.since c.till with
  |false=>
   have hcv:G7 c day=false:=by unfold G7;rw [hr,hb];rfl
   rw [hcv] at hst
   simp only [Bool.and_false,Bool.false_and,Bool.false_eq_true,if_false] at hst
   rw [hb] at ci
   rw [← hst]
   conv=>whnf
   repeat' (first|refine zz ?_|refine qp cr ?_|refine qp ci ?_|refine b9 hc ?_|refine zd ?_ ?_<;>intro h<;>try omega|refine zy ?_|fail)<;>conv=>whnf
   all_goals first
    |omega
    |(exfalso;simp_all;done)
    |exact ⟨hlt,trivial,[],rfl,rfl,trivial,⟨rfl,rfl,rfl,rfl,rfl,trivial⟩⟩
  |true=>
   have hcv:G7 c day=true:=by unfold G7;rw [hr,hb];rfl
   rw [hcv] at hst
   rw [hb] at ci
   cases hf:y9 cs scale day k with
   |none=>
    rw [hf] at hst
    have e0:a3O none=-1:=rfl
    rw [e0]
    by_cases hsc:c.scale=scale
    ·have hst2:(k:Int)=a3O (y9 cs scale day (k+1)):=by rw [hst,if_pos (by simp [hsc,a3z])];rfl
     clear hst hcv hr hb nxt
     conv=>whnf
     repeat' (first|refine zz ?_|refine qp cr ?_|refine qp ci ?_|refine b9 hc ?_|refine zd ?_ ?_<;>intro h<;>try omega|refine zy ?_|fail)<;>conv=>whnf
     all_goals first
      |omega
      |exact ⟨hlt,trivial,[],rfl,rfl,trivial,⟨rfl,rfl,rfl,c6 hst2,rfl,trivial⟩⟩
    ·have hst2:(-1:Int)=a3O (y9 cs scale day (k+1)):=by rw [hst,if_neg (by simp [hsc])];rfl
     clear hst hcv hr hb nxt
     conv=>whnf
     repeat' (first|refine zz ?_|refine qp cr ?_|refine qp ci ?_|refine b9 hc ?_|refine zd ?_ ?_<;>intro h<;>try omega|refine zy ?_|fail)<;>conv=>whnf
     all_goals first
      |omega
      |exact ⟨hlt,trivial,[],rfl,rfl,trivial,⟨rfl,rfl,rfl,c6 hst2,rfl,trivial⟩⟩
   |some b=>
    rw [hf] at hst
    obtain ⟨hb',cb,hcb,_⟩:=K3 hf
    have hsb:=aC5 hcb
    have e0:a3O (some b)=(b:Int):=rfl
    have em:(if (0:Int) > (b:Int) then 0 else (b:Int))=(b:Int):=if_neg (by omega)
    rw [e0]
    by_cases hsc:c.scale=scale∧cb.since<=c.since
    ·have hst2:(k:Int)=a3O (y9 cs scale day (k+1)):=by rw [hst,if_pos (by simp [hsc.1,a3z,hsb,hsc.2])];rfl
     clear hst hcv hr hb nxt
     conv=>whnf
     repeat' (first|refine zz ?_|refine qp cr ?_|refine qp ci ?_|refine b9 hc ?_|refine u5 em hcb ?_|refine zd ?_ ?_<;>intro h<;>try omega|refine zy ?_|fail)<;>conv=>whnf
     all_goals first
      |omega
      |exact ⟨hlt,trivial,[],rfl,rfl,trivial,⟨rfl,rfl,rfl,c6 hst2,rfl,trivial⟩⟩
    ·have hst2:(b:Int)=a3O (y9 cs scale day (k+1)):=by
      rw [hst,if_neg (by simp only [Bool.and_eq_true,decide_eq_true_eq,a3z,hsb];intro h;exact hsc ⟨h.1.1,h.2⟩)];rfl
     clear hst hcv hr hb nxt
     conv=>whnf
     repeat' (first|refine zz ?_|refine qp cr ?_|refine qp ci ?_|refine b9 hc ?_|refine u5 em hcb ?_|refine zd ?_ ?_<;>intro h<;>try omega|refine zy ?_|fail)<;>conv=>whnf
     all_goals first
      |omega
      |exact ⟨hlt,trivial,[],rfl,rfl,trivial,⟨rfl,rfl,rfl,c6 hst2,rfl,trivial⟩⟩
 ·have hke:k=cs.length:=by omega
  subst hke
  cases hf:y9 cs scale day cs.length with
  |none=>
   have e0:a3O none=-1:=rfl
   rw [e0]
   conv=>whnf
   repeat' (first|refine zz ?_|refine zd ?_ ?_<;>intro h<;>try omega|refine zy ?_|fail)<;>conv=>whnf
   all_goals first
    |omega
    |exact j2 ⟨rfl,rfl,trivial⟩
  |some b=>
   have e0:a3O (some b)=(b:Int):=rfl
   have em:(if (0:Int) > (b:Int) then 0 else (b:Int))=(b:Int):=if_neg (by omega)
   rw [e0]
   conv=>whnf
   repeat' (first|refine zz ?_|refine zd ?_ ?_<;>intro h<;>try omega|refine zy ?_|fail)<;>conv=>whnf
   all_goals first
    |omega
    |exact j2 ⟨c6 em,rfl,trivial⟩
theorem aH9 (rs:List B4) (hl:rs.length<=1000000) (scale day:Int):a9 Tryz.prog 272 [.c (.t (G8 rs)),a7 .i64 scale,a7 .i64 day] [] (d6 (a1G rs scale day)) []:=by
 have l1:(rs.map B4.row).length=rs.length:=by simp
 (refine ac Tryz.func272 ?_;(conv=>whnf);repeat ((first|refine b0x ?_|refine zy ?_);conv=>whnf))
 repeat' (first|refine zz ?_|refine zd ?_ ?_<;>intro h<;>try omega|refine zy ?_|fail)<;>conv=>whnf
 refine d7 c8 (fun k=>([S.c (C.t (G8 rs)),a7 .i64 scale,a7 .i64 day,J,J,J,J,a7 .i64 k,J,J,J,J,J,J,J,J,J,J,J,J,J,J,J,J,J,J,J,J,J,J],[])) rs.length (fun k=>(rs.take k).any (fun r=>decide (r.scale=scale) && decide (r.since<=day))=false) [] rfl
  ⟨rfl,rfl,trivial,⟨rfl,rfl,rfl,rfl,trivial⟩⟩ ?_
 intro k hk hI
 by_cases hlt:k<rs.length
 ·obtain ⟨r,hr⟩:∃r,rs[k]? =some r:=⟨_,lg0 hlt⟩
  conv=>whnf
  repeat' (first|refine zz ?_|refine b9 hr ?_|refine zd ?_ ?_<;>intro h<;>try omega|refine zy ?_|fail)<;>conv=>whnf
  all_goals first
   |omega
   |(refine ⟨hlt,?_,[],rfl,rfl,trivial,⟨rfl,rfl,rfl,rfl,trivial⟩⟩;rw [a0g hr,hI];simp [*];done)
   |(refine ⟨hlt,?_,[],rfl,rfl,trivial,⟨rfl,rfl,rfl,rfl,trivial⟩⟩;rw [a0g hr,hI];simp;omega)
   |(refine b7 ?_;unfold a1G;rw [a2M hr];simp [*];done)
   |(refine b7 ?_;unfold a1G;rw [a2M hr];simp;omega)
 ·rw [lg4 (by omega)] at hI
  conv=>whnf
  repeat' (first|refine zz ?_|refine zd ?_ ?_<;>intro h<;>try omega|refine zy ?_|fail)<;>conv=>whnf
  all_goals first
   |omega
   |exact b7 hI.symm
theorem b2d (c:I6) (reading day:Int) (h:G7 c day=true) (hr:btw reading 0 1099511627776=true):a9 Tryz.prog 274 [aA6 c,a7 .i64 reading,a7 .i64 day] []
 (.tup [frS (fz (a25 c reading day)),d6 true]) []:=by
 have cr:=aG6 c
 have ci:=a81 day c.since c.till
 have wi:=a81 reading 0 1099511627776
 have hcr:N0 c=true:=by unfold G7 at h;simp only [Bool.and_eq_true] at h;exact h.1
 have hci:btw day c.since c.till=true:=by unfold G7 at h;simp only [Bool.and_eq_true] at h;exact h.2
 rw [hcr] at cr
 rw [hci] at ci
 rw [hr] at wi
 have hc:=a32 h
 obtain ⟨p0,p1,d0,d1⟩:=b1W.of h hr
 rw [T7] at hr
 have fo:=b9b (c.permille*reading) 1000 (by decide) (by omega) (by omega) (by decide)
 have fi:=a3G (c.grams+c.drift*(day - c.since)) (by omega) (by omega)
 have h2:rl (Rat.divInt (c.permille*reading) 1000)<=4:=Nat.le_trans (O5 (by decide)) (by have:=S0 (x:=c.permille*reading) (by omega) (by omega);have:=S0 (x:=1000) (by decide) (by decide);omega)
 have h3:rl ((c.grams+c.drift*(day - c.since):Int):Rat)<=4:=by rw [a2c];have:=S0 (x:=c.grams+c.drift*(day - c.since)) (by omega) (by omega);omega
 have ad:=b0l ((c.grams+c.drift*(day - c.since):Int):Rat) (Rat.divInt (c.permille*reading) 1000) (by omega) (by omega)
 (refine ac Tryz.func274 ?_;(conv=>whnf);repeat (refine zy ?_;conv=>whnf))
 repeat' (first|refine zz ?_|refine qp cr ?_|refine qp ci ?_|refine qp wi ?_|refine qp fo ?_|refine qp fi ?_|refine qp ad ?_|refine qp 7 ?_|refine qp 15 ?_|refine bl0 [7] ?_|refine bl0 [15] ?_|refine zd ?_ ?_<;>intro h<;>try omega|refine zy ?_|fail)<;>conv=>whnf
 all_goals first
  |(exfalso;simp_all;done)
  |exact b3p (by rw [Rat.add_comm];rfl) rfl
theorem aD8 (cs:List I6) (rs:List B4) (hl:cs.length<=1000000) (hl2:rs.length<=1000000) (scale reading day:Int):
 a9 Tryz.prog 224 [.c (.t (Y3 cs)),.c (.t (G8 rs)),a7 .i64 scale,a7 .i64 reading,a7 .i64 day] [] (.tup (ivL (H4 cs rs scale reading day))) []:=by
 have f:=b6e cs scale day hl
 have r:=aH9 rs hl2 scale day
 have wi:=a81 reading 0 1099511627776
 unfold H4
 cases hf:y9 cs scale day cs.length with
 |none=>
  rw [hf] at f
  (refine ac Tryz.func224 ?_;(conv=>whnf);repeat (refine zy ?_;conv=>whnf))
  repeat' (first|refine zz ?_|refine qp f ?_|refine qp r ?_|refine qp wi ?_|refine qp 1 ?_|refine bl0 [1] ?_|refine zd ?_ ?_<;>intro h<;>try omega|refine zy ?_|fail)<;>conv=>whnf
  all_goals first
   |(exfalso;simp_all;done)
   |exact j2 ⟨⟨rfl,rfl,rfl,rfl,trivial⟩,⟨rfl,rfl,rfl,rfl,trivial⟩,rfl,trivial⟩
 |some i=>
  rw [hf] at f
  obtain ⟨hb,c,hc,_,hcv⟩:=K3 hf
  have e:a0D cs i=c:=by unfold a0D;rw [hc];rfl
  simp only [e]
  cases hrec:a1G rs scale day with
  |true=>
   rw [hrec] at r
   (refine ac Tryz.func224 ?_;(conv=>whnf);repeat (refine zy ?_;conv=>whnf))
   repeat' (first|refine zz ?_|refine qp f ?_|refine qp r ?_|refine qp wi ?_|refine qp 1 ?_|refine bl0 [1] ?_|refine zd ?_ ?_<;>intro h<;>try omega|refine zy ?_|fail)<;>conv=>whnf
   all_goals first
    |(exfalso;simp_all;done)
    |exact j2 ⟨⟨rfl,rfl,rfl,rfl,trivial⟩,⟨rfl,rfl,rfl,rfl,trivial⟩,rfl,trivial⟩
  |false=>
   rw [hrec] at r
   cases hr:btw reading 0 1099511627776 with
   |false=>
    rw [hr] at wi
    (refine ac Tryz.func224 ?_;(conv=>whnf);repeat (refine zy ?_;conv=>whnf))
    repeat' (first|refine zz ?_|refine qp f ?_|refine qp r ?_|refine qp wi ?_|refine qp 1 ?_|refine bl0 [1] ?_|refine zd ?_ ?_<;>intro h<;>try omega|refine zy ?_|fail)<;>conv=>whnf
    all_goals first
     |exact j2 ⟨⟨rfl,rfl,rfl,rfl,trivial⟩,⟨rfl,rfl,rfl,rfl,trivial⟩,rfl,trivial⟩
     |(exfalso;simp_all;done)
   |true=>
    have er:=b2d c reading day hcv hr
    have l1:=aP9 hcv hr
    rw [hr] at wi
    rw [T7] at hr
    have l2:rl (reading:Rat)<=4:=by rw [a2c];have:=S0 (x:=reading) (by omega) (by omega);omega
    have fi:=a3G reading (by omega) (by omega)
    have f0:=a3G 0 (by omega) (by omega)
    have sb:=b8M (reading:Rat) (a25 c reading day) (by omega) (by omega)
    have ad:=b0l (reading:Rat) (a25 c reading day) (by omega) (by omega)
    have l4:=aM8 (reading:Rat) (a25 c reading day)
    have sg:=a5t ((reading:Rat) - a25 c reading day) (by omega)
    have hs:=b2J ((reading:Rat) - a25 c reading day)
    (refine ac Tryz.func224 ?_;(conv=>whnf);repeat (refine zy ?_;conv=>whnf))
    repeat' (first|refine zz ?_|refine qp f ?_|refine qp r ?_|refine qp wi ?_|refine qp er ?_|refine qp fi ?_|refine qp f0 ?_|refine qp sb ?_|refine qp ad ?_|refine qp sg ?_|refine qp 1 ?_|refine qp 9 ?_|refine qp 6 ?_|refine b9 hc ?_|refine bl0 [1] ?_|refine bl0 [9] ?_|refine bl0 [6] ?_|refine zd ?_ ?_<;>intro h<;>try omega|refine zy ?_|fail)<;>conv=>whnf
    ·have hn:(reading:Rat) - a25 c reading day<((0:Int):Rat):=hs.1 (by omega)
     refine j2 ⟨b3B ?_,⟨rfl,rfl,rfl,rfl,trivial⟩,rfl,trivial⟩
     unfold au4;rw [if_pos hn]
    ·have hn:¬(reading:Rat) - a25 c reading day<((0:Int):Rat):=fun h=>absurd (hs.2 h) (by omega)
     refine j2 ⟨b3B ?_,⟨rfl,rfl,rfl,rfl,trivial⟩,rfl,trivial⟩
     unfold au4;rw [if_neg hn]
    all_goals (have hq:(some i).isSome=false:=by assumption;cases hq)
theorem a68 (n lo hi:Int):a9 Tryz.prog 157 [a7 .i64 n,a7 .i64 lo,a7 .i64 hi] [] (d6 (btw n lo hi)) []:=by
 (refine ac Tryz.func157 ?_;(conv=>whnf);repeat (refine zy ?_;conv=>whnf))
 repeat' (first|refine zz ?_|refine zd ?_ ?_<;>intro h<;>try omega|refine zy ?_|fail)<;>conv=>whnf
 all_goals (refine b7 ?_;simp only [btw];simp;omega)
theorem a2d (n m:Int):a9 Tryz.prog 157 [a7 .i64 n,a7 .i64 0,a7 .i64 (m - 1)] [] (d6 (idx n m)) []:=by
 rw [← aX7];exact a68 n 0 (m - 1)
theorem b4J (e:Ev) (hs:e.Sized):a9 Tryz.prog 231 [evS e] [] (d6 (a1h e)) []:=by
 have l1:(e.places.map H6.row).length=e.places.length:=by simp
 have l2:(e.moves.map x8.row).length=e.moves.length:=by simp
 have l3:(e.certs.map I6.row).length=e.certs.length:=by simp
 have l4:(e.recalls.map B4.row).length=e.recalls.length:=by simp
 have l5:(e.purities.map a0K.row).length=e.purities.length:=by simp
 (refine ac Tryz.func231 ?_;(conv=>whnf);repeat ((first|refine b0x ?_|refine zy ?_);conv=>whnf))
 repeat' (first|refine zz ?_|refine zd ?_ ?_<;>intro h<;>try omega|refine zy ?_|fail)<;>conv=>whnf
 all_goals (refine b7 ?_;unfold a1h;simp;omega)
theorem b26 (e:Ev) (p:H6) (h1:1<=e.mats) (h2:e.mats<=6) (h3:0<=e.hhs) (h4:e.hhs<=100):a9 Tryz.prog 232 [evS e,.agg (p.row.map .t)] [] (d6 (T2 e p)) []:=by
 have i3:=a2d p.kind 7
 (refine ac Tryz.func232 ?_;(conv=>whnf);repeat ((first|refine b0x ?_|refine zy ?_);conv=>whnf))
 repeat' (first|refine zz ?_|refine qp (a2d p.hh e.hhs) ?_|refine qp (a2d p.mat e.mats) ?_|refine qp i3 ?_|refine zd ?_ ?_<;>intro h<;>try omega|refine zy ?_|fail)<;>conv=>whnf
 all_goals first
  |omega
  |(refine b7 ?_;simp_all [T2]<;>decide)
def a1W (e:Ev) (k:Nat) (x:x8):Int:=if x.day<0∨100000<x.day∨(0<k∧x.day<a2H e k) then 17 else if K4 e x then 0 else 1
set_option maxHeartbeats 4000000 in
theorem b4M (e:Ev) (k:Nat) (x:x8) (hx:e.moves[k]? =some x) (hf:a1h e=false) (h1:1<=e.mats) (h3:0<=e.hhs) (h5:0<=e.scs):a9 Tryz.prog 233 [evS e,a7 .i64 k] [] (a7 .i64 (a1W e k x)) []:=by
 have l1:(e.places.map H6.row).length=e.places.length:=by simp
 have l2:(e.moves.map x8.row).length=e.moves.length:=by simp
 have hk:k<e.moves.length:=(lg1 hx).1
 unfold a1h at hf
 simp only [Bool.or_eq_false_iff,decide_eq_false_iff_not] at hf
 obtain ⟨y,hy⟩:∃y,e.moves[k - 1]? =some y:=⟨_,lg0 (by omega)⟩
 have hl:0<k->a2H e k=y.day:=fun h=>by
  obtain ⟨j,rfl⟩:∃j,k=j+1:=⟨k - 1,by omega⟩
  exact a1B hy
 have d:=a68 x.day 0 100000
 have is:=a2d x.src (e.places.map H6.row).length
 have id:=a2d x.dst (e.places.map H6.row).length
 have ic:=a2d x.scale e.scs
 have ir:=a68 x.reading 0 1099511627776
 have hdd:(x.day<0∨100000<x.day∨(0<k∧x.day<a2H e k))↔(x.day<0∨100000<x.day∨(0<k∧x.day<y.day)):=by
  rcases Nat.eq_zero_or_pos k with h|h
  ·simp [h]
  ·rw [hl h]
 clear hl
 have em:(if (0:Int) > (k:Int) - 1 then 0 else (k:Int) - 1)=((k - 1:Nat):Int):=by split<;>omega
 by_cases hd:x.day<0∨100000<x.day∨(0<k∧x.day<y.day)
 ·have e1:a1W e k x=17:=by unfold a1W;rw [if_pos (hdd.2 hd)]
  clear hdd
  rw [e1]
  have hb:=T7 (a:=x.day) (b:=0) (c:=100000)
  (refine ac Tryz.func233 ?_;(conv=>whnf);repeat ((first|refine b0x ?_|refine zy ?_);conv=>whnf))
  repeat' (first|refine zz ?_|refine qp d ?_|refine b9 hx ?_|refine u5 em hy ?_|refine zd ?_ ?_<;>intro h<;>try omega|refine zy ?_|fail)<;>conv=>whnf
  all_goals first
   |exact j1 rfl
   |(exfalso;have:=hb.1 (by assumption);omega)
   |omega
 have e1:a1W e k x=if K4 e x then 0 else 1:=by unfold a1W;rw [if_neg (fun h=>hd (hdd.1 h))]
 clear hdd
 rw [e1]
 have hd':btw x.day 0 100000=true:=by rw [T7];omega
 rw [hd'] at d
 cases h1:idx x.src e.places.length with
 |false=>
  rw [← l1] at h1
  rw [h1] at is
  rw [l1] at h1
  (refine ac Tryz.func233 ?_;(conv=>whnf);repeat ((first|refine b0x ?_|refine zy ?_);conv=>whnf))
  repeat' (first|refine zz ?_|refine qp d ?_|refine qp is ?_|refine b9 hx ?_|refine u5 em hy ?_|refine zd ?_ ?_<;>intro h<;>try omega|refine zy ?_|fail)<;>conv=>whnf
  all_goals first
   |(refine j1 ?_;simp [K4,h1];done)
   |(exfalso;simp_all;done)
   |omega
 |true=>
  obtain ⟨hs0,p,hp,kp⟩:=a56 h1
  rw [← l1] at h1
  rw [h1] at is
  rw [l1] at h1
  cases h2:idx x.dst e.places.length with
  |false=>
   rw [← l1] at h2
   rw [h2] at id
   rw [l1] at h2
   (refine ac Tryz.func233 ?_;(conv=>whnf);repeat ((first|refine b0x ?_|refine zy ?_);conv=>whnf))
   repeat' (first|refine zz ?_|refine qp d ?_|refine qp is ?_|refine qp id ?_|refine b9 hx ?_|refine u5 em hy ?_|refine zd ?_ ?_<;>intro h<;>try omega|refine zy ?_|fail)<;>conv=>whnf
   all_goals first
    |(refine j1 ?_;simp [K4,h1,h2];done)
    |(exfalso;simp_all;done)
    |omega
  |true=>
   obtain ⟨hd0,q,hq,kq⟩:=a56 h2
   rw [← l1] at h2
   rw [h2] at id
   rw [l1] at h2
   (refine ac Tryz.func233 ?_;(conv=>whnf);repeat ((first|refine b0x ?_|refine zy ?_);conv=>whnf))
   repeat' (first|refine zz ?_|refine qp d ?_|refine qp is ?_|refine qp id ?_|refine qp ic ?_|refine qp ir ?_|refine b9 hx ?_|refine p9 hs0 hp ?_|refine p9 hd0 hq ?_|refine u5 em hy ?_|refine zd ?_ ?_<;>intro h<;>try omega|refine zy ?_|fail)<;>conv=>whnf
   all_goals first
    |(refine j1 ?_;simp_all [K4];done)
    |(exfalso;simp_all;done)
    |omega
theorem b66 (e:Ev) (hs:e.Sized) (hf:a1h e=false) (h1:1<=e.mats) (h5:0<=e.scs):a9 Tryz.prog 234 [evS e] [] (d6 (U8 e)) []:=by
 have l2:(e.certs.map I6.row).length=e.certs.length:=by simp
 have l4:(e.recalls.map B4.row).length=e.recalls.length:=by simp
 have l6:(e.purities.map a0K.row).length=e.purities.length:=by simp
 have l8:(e.moves.map x8.row).length=e.moves.length:=by simp
 unfold a1h at hf
 simp only [Bool.or_eq_false_iff,decide_eq_false_iff_not] at hf
 (refine ac Tryz.func234 ?_;(conv=>whnf);repeat ((first|refine b0x ?_|refine zy ?_);conv=>whnf))
 repeat' (first|refine zz ?_|refine zd ?_ ?_<;>intro h<;>try omega|refine zy ?_|fail)<;>conv=>whnf
 refine d7 c8 (fun k=>([J,S.c (C.t (T.ptr (evT e))),J,a7 .i64 k,J,J,J,J,J,J,J,J,J,J,J,J,J,J,J,J,J,J,J,J,J,J,J,J,J,J,J,J,J,J,J,J,J,J,J,J,J,J,J,J,J,J,J,J,J,J,J,J,J,J,J,J,J,J,J,J,J,J,J,J,J,J,J,J,J,J,J,J,J,J,J,J,J,J,J,J,J,J,J,J,J,J,J,J,J,J,J,J,J,J,J,J,J,J,J,J,J,J,J,J,J,J,J,J,J,J,J,J,J,J,J,J,J,J,J,J,J,J,J,J,J,J,J,J],[])) e.certs.length (fun k=>(e.certs.take k).all (a3u e)=true) [] rfl
  ⟨rfl,rfl,trivial,⟨rfl,rfl,trivial⟩⟩ ?_
 intro k hk hI
 by_cases hlt:k<e.certs.length
 ·obtain ⟨x,hx⟩:∃x,e.certs[k]? =some x:=⟨_,lg0 hlt⟩
  conv=>whnf
  repeat' (first|refine zz ?_|refine qp (a2d x.scale e.scs) ?_|refine qp (a68 x.till x.since 100000) ?_|refine qp (a68 x.grams 0 1099511627776) ?_|refine qp (a68 x.permille 0 1000) ?_|refine qp (a68 x.drift 0 10000000) ?_|refine b9 hx ?_|refine zd ?_ ?_<;>intro h<;>try omega|refine zy ?_|fail)<;>conv=>whnf
  all_goals first
   |omega
   |(refine ⟨hlt,?_,[],rfl,rfl,trivial,⟨rfl,rfl,trivial⟩⟩;rw [n6 hx,hI];simp_all [a3u,btw];done)
   |(refine b7 ?_;rw [U8,t7 hx];rfl;simp_all [a3u,btw];(try omega);done)
 ·have hc:e.certs.all (a3u e)=true:=by rw [← hI,lg4 (by omega)]
  conv=>whnf
  repeat' (first|refine zz ?_|refine zd ?_ ?_<;>intro h<;>try omega|refine zy ?_|fail)<;>conv=>whnf
  all_goals try omega
  clear hI hlt hk
  refine d7 c8 (fun k=>([J,S.c (C.t (T.ptr (evT e))),J,J,J,a7 .i64 k,J,J,J,J,J,J,J,J,J,J,J,J,J,J,J,J,J,J,J,J,J,J,J,J,J,J,J,J,J,J,J,J,J,J,J,J,J,J,J,J,J,J,J,J,J,J,J,J,J,J,J,J,J,J,J,J,J,J,J,J,J,J,J,J,J,J,J,J,J,J,J,J,J,J,J,J,J,J,J,J,J,J,J,J,J,J,J,J,J,J,J,J,J,J,J,J,J,J,J,J,J,J,J,J,J,J,J,J,J,J,J,J,J,J,J,J,J,J,J,J,J,J],[])) e.recalls.length (fun k=>(e.recalls.take k).all (Y9 e)=true) [] rfl
   ⟨rfl,rfl,trivial,⟨rfl,rfl,trivial⟩⟩ ?_
  intro k hk hI
  by_cases hlt:k<e.recalls.length
  ·obtain ⟨x,hx⟩:∃x,e.recalls[k]? =some x:=⟨_,lg0 hlt⟩
   conv=>whnf
   repeat' (first|refine zz ?_|refine qp (a2d x.scale e.scs) ?_|refine qp (a68 x.since 0 100000) ?_|refine b9 hx ?_|refine zd ?_ ?_<;>intro h<;>try omega|refine zy ?_|fail)<;>conv=>whnf
   all_goals first
    |omega
    |(refine ⟨hlt,?_,[],rfl,rfl,trivial,⟨rfl,rfl,trivial⟩⟩;rw [n6 hx,hI];simp_all [Y9];done)
    |(refine b7 ?_;rw [U8,hc,t7 hx];rfl;simp_all [Y9];done)
  ·have hr:e.recalls.all (Y9 e)=true:=by rw [← hI,lg4 (by omega)]
   conv=>whnf
   repeat' (first|refine zz ?_|refine zd ?_ ?_<;>intro h<;>try omega|refine zy ?_|fail)<;>conv=>whnf
   all_goals try omega
   clear hI hlt hk
   refine d7 c8 (fun k=>([J,S.c (C.t (T.ptr (evT e))),J,J,J,J,a7 .i64 k,J,J,J,J,J,J,J,J,J,J,J,J,J,J,J,J,J,J,J,J,J,J,J,J,J,J,J,J,J,J,J,J,J,J,J,J,J,J,J,J,J,J,J,J,J,J,J,J,J,J,J,J,J,J,J,J,J,J,J,J,J,J,J,J,J,J,J,J,J,J,J,J,J,J,J,J,J,J,J,J,J,J,J,J,J,J,J,J,J,J,J,J,J,J,J,J,J,J,J,J,J,J,J,J,J,J,J,J,J,J,J,J,J,J,J,J,J,J,J,J,J],[])) e.purities.length (fun k=>(e.purities.take k).all (X6 e)=true) [] rfl
    ⟨rfl,rfl,trivial,⟨rfl,rfl,trivial⟩⟩ ?_
   intro k hk hI
   by_cases hlt:k<e.purities.length
   ·obtain ⟨x,hx⟩:∃x,e.purities[k]? =some x:=⟨_,lg0 hlt⟩
    conv=>whnf
    repeat' (first|refine zz ?_|refine qp (a2d x.move (e.moves.map x8.row).length) ?_|refine qp (a2d x.mat e.mats) ?_|refine qp (a68 x.most x.least 1000) ?_|refine b9 hx ?_|refine zd ?_ ?_<;>intro h<;>try omega|refine zy ?_|fail)<;>conv=>whnf
    all_goals first
     |omega
     |(refine ⟨hlt,?_,[],rfl,rfl,trivial,⟨rfl,rfl,trivial⟩⟩;rw [n6 hx,hI];simp_all [X6,btw];done)
     |(refine b7 ?_;rw [U8,hc,hr,t7 hx];rfl;simp_all [X6,btw];(try omega);done)
   ·have hp:e.purities.all (X6 e)=true:=by rw [← hI,lg4 (by omega)]
    conv=>whnf
    repeat' (first|refine zz ?_|refine zd ?_ ?_<;>intro h<;>try omega|refine zy ?_|fail)<;>conv=>whnf
    all_goals first
     |omega
     |(refine b7 ?_;rw [U8,hc,hr,hp];rfl)
theorem b30 (e:Ev) (hs:e.Sized):a9 Tryz.prog 155 [evS e] [] (a7 .i64 (B7 e)) []:=by
 have l1:(e.places.map H6.row).length=e.places.length:=by simp
 have l8:(e.moves.map x8.row).length=e.moves.length:=by simp
 have fu:=b4J e hs
 cases hf:a1h e with
 |true=>
  rw [hf] at fu
  (refine ac Tryz.func155 ?_;(conv=>whnf);repeat ((first|refine b0x ?_|refine zy ?_);conv=>whnf))
  repeat' (first|refine zz ?_|refine qp fu ?_|refine zd ?_ ?_<;>intro h<;>try omega|refine zy ?_|fail)<;>conv=>whnf
  all_goals first
   |(exfalso;simp_all;done)
   |(refine j1 ?_;unfold B7;rw [if_pos hf])
 |false=>
  rw [hf] at fu
  by_cases hb:e.mats<1∨e.hhs<0∨e.scs<0
  ·have e1:B7 e=1:=by
    unfold B7;rw [if_neg (by simp [hf]),if_pos (by rcases hb with h|h|h<;>simp [h])]
   rw [e1]
   (refine ac Tryz.func155 ?_;(conv=>whnf);repeat ((first|refine b0x ?_|refine zy ?_);conv=>whnf))
   repeat' (first|refine zz ?_|refine qp fu ?_|refine zd ?_ ?_<;>intro h<;>try omega|refine zy ?_|fail)<;>conv=>whnf
   all_goals first
    |(exfalso;simp_all;done)
    |omega
    |exact j1 rfl
  have hfb:=hf
  unfold a1h at hfb
  simp only [Bool.or_eq_false_iff,decide_eq_false_iff_not] at hfb
  (refine ac Tryz.func155 ?_;(conv=>whnf);repeat ((first|refine b0x ?_|refine zy ?_);conv=>whnf))
  repeat' (first|refine zz ?_|refine qp fu ?_|refine zd ?_ ?_<;>intro h<;>try omega|refine zy ?_|fail)<;>conv=>whnf
  all_goals try omega
  refine d7 c8 (fun k=>([J,S.c (C.t (T.ptr (evT e))),J,a7 .i64 k,J,J,J,J,J,J,J,J,J,J,J,J,J,J,J,J,J,J,J,J,J,J,J,J,J,J,J,J,J,J,J,J,J,J,J,J,J,J,J,J,J,J,J,J,J,J,J,J],[])) e.places.length (fun k=>(e.places.take k).all (T2 e)=true) [] rfl
   ⟨rfl,rfl,trivial,⟨rfl,rfl,trivial⟩⟩ ?_
  intro k hk hI
  by_cases hlt:k<e.places.length
  ·obtain ⟨x,hx⟩:∃x,e.places[k]? =some x:=⟨_,lg0 hlt⟩
   have pl:=b26 e x (by omega) (by omega) (by omega) (by omega)
   conv=>whnf
   repeat' (first|refine zz ?_|refine qp pl ?_|refine b9 hx ?_|refine zd ?_ ?_<;>intro h<;>try omega|refine zy ?_|fail)<;>conv=>whnf
   all_goals first
    |omega
    |(refine ⟨hlt,?_,[],rfl,rfl,trivial,⟨rfl,rfl,trivial⟩⟩;rw [n6 hx,hI];simp_all;done)
    |(refine j1 ?_;unfold B7;rw [if_neg (by simp [hf]),if_pos (.inr (.inr (.inr (t7 hx (by assumption)))))])
  have hp:e.places.all (T2 e)=true:=by rw [← hI,lg4 (by omega)]
  have hck:B7 e=if w9 e 0 e.moves≠0 then w9 e 0 e.moves else if U8 e then 0 else 1:=by
   unfold B7;rw [if_neg (by simp [hf]),if_neg (by rw [hp];simp;omega)]
  conv=>whnf
  repeat' (first|refine zz ?_|refine zd ?_ ?_<;>intro h<;>try omega|refine zy ?_|fail)<;>conv=>whnf
  all_goals try omega
  clear hI hlt hk
  refine d7 c8 (fun k=>([J,S.c (C.t (T.ptr (evT e))),J,J,a7 .i64 k,J,J,J,J,J,J,J,J,J,J,J,J,J,J,J,J,J,J,J,J,J,J,J,J,J,J,J,J,J,J,J,J,J,J,J,J,J,J,J,J,J,J,J,J,J,J,J],[])) e.moves.length (fun k=>w9 e 0 e.moves=w9 e (a2H e k) (e.moves.drop k)∧0<=a2H e k) [] ⟨rfl,Int.le_refl 0⟩
   ⟨rfl,rfl,trivial,⟨rfl,rfl,trivial⟩⟩ ?_
  rintro k hk ⟨hI,hI2⟩
  by_cases hlt:k<e.moves.length
  ·obtain ⟨x,hx⟩:∃x,e.moves[k]? =some x:=⟨_,lg0 hlt⟩
   have mv:=b4M e k x hx hf (by omega) (by omega) (by omega)
   rw [a0p hx,w9] at hI
   have hm:w9 e 0 e.moves=if a1W e k x=0 then w9 e x.day (e.moves.drop (k+1)) else a1W e k x:=by
    rw [hI]
    unfold a1W
    have hk0:k=0->a2H e k=0:=fun h=>by subst h;rfl
    by_cases h1:x.day<a2H e k∨100000<x.day
    ·rw [if_pos h1,if_pos (c:=x.day<0∨100000<x.day∨(0<k∧x.day<a2H e k)) (by omega)];simp
    ·rw [if_neg h1,if_neg (c:=x.day<0∨100000<x.day∨(0<k∧x.day<a2H e k)) (by omega)]
     cases K4 e x<;>simp
   have hv:a1W e k x=0->0<=x.day:=fun h=>by unfold a1W at h;split at h<;>omega
   have hm0:a1W e k x=0->w9 e 0 e.moves=w9 e x.day (e.moves.drop (k+1)):=fun h=>by rw [hm,if_pos h]
   have hm1:a1W e k x≠0->w9 e 0 e.moves=a1W e k x:=fun h=>by rw [hm,if_neg h]
   clear hm hI
   conv=>whnf
   repeat' (first|refine zz ?_|refine qp mv ?_|refine zd ?_ ?_<;>intro h<;>try omega|refine zy ?_|fail)<;>conv=>whnf
   all_goals first
    |omega
    |(refine ⟨hlt,⟨?_,?_⟩,[],rfl,rfl,trivial,⟨rfl,rfl,trivial⟩⟩
      ·rw [a1B hx];exact hm0 (by omega)
      ·rw [a1B hx];exact hv (by omega))
    |(refine j1 ?_
      have hne:a1W e k x≠0:=by omega
      rw [hck,hm1 hne,if_pos hne])
  ·rw [List.drop_eq_nil_of_le (by omega),w9] at hI
   have sd:=b66 e hs hf (by omega) (by omega)
   conv=>whnf
   repeat' (first|refine zz ?_|refine qp sd ?_|refine zd ?_ ?_<;>intro h<;>try omega|refine zy ?_|fail)<;>conv=>whnf
   all_goals first
    |omega
    |(refine j1 ?_;rw [hck,hI];simp_all;done)
theorem az6 (e:Ev) (hs:e.Sized) {k:Nat} {x:x8} (hx:e.moves[k]? =some x):a9 Tryz.prog 151 [evS e,a7 .i64 k] [] (.tup (ivL (E4 e x))) []:=by
 have l1:=hs.s3
 have l2:=hs.s4
 have iv:=aD8 e.certs e.recalls (by omega) (by omega) x.scale x.reading x.day
 unfold E4
 by_cases hsc:x.scale=-1
 ·rw [if_pos hsc]
  (refine ac Tryz.func151 ?_;(conv=>whnf);repeat ((first|refine b0x ?_|refine zy ?_);conv=>whnf))
  repeat' (first|refine zz ?_|refine qp 1 ?_|refine b9 hx ?_|refine bl0 [1] ?_|refine zd ?_ ?_<;>intro h<;>try omega|refine zy ?_|fail)<;>conv=>whnf
  all_goals first
   |omega
   |exact j2 ⟨⟨rfl,rfl,rfl,rfl,trivial⟩,⟨rfl,rfl,rfl,rfl,trivial⟩,rfl,trivial⟩
 ·rw [if_neg hsc]
  cases hiv:H4 e.certs e.recalls x.scale x.reading x.day with
  |none=>
   rw [hiv] at iv
   (refine ac Tryz.func151 ?_;(conv=>whnf);repeat ((first|refine b0x ?_|refine zy ?_);conv=>whnf))
   repeat' (first|refine zz ?_|refine qp iv ?_|refine b9 hx ?_|refine zd ?_ ?_<;>intro h<;>try omega|refine zy ?_|fail)<;>conv=>whnf
   all_goals first
    |omega
    |exact j2 ⟨⟨rfl,rfl,rfl,rfl,trivial⟩,⟨rfl,rfl,rfl,rfl,trivial⟩,rfl,trivial⟩
  |some p=>
   obtain ⟨lo,hi⟩:=p
   rw [hiv] at iv
   (refine ac Tryz.func151 ?_;(conv=>whnf);repeat ((first|refine b0x ?_|refine zy ?_);conv=>whnf))
   repeat' (first|refine zz ?_|refine qp iv ?_|refine b9 hx ?_|refine zd ?_ ?_<;>intro h<;>try omega|refine zy ?_|fail)<;>conv=>whnf
   all_goals first
    |omega
    |exact j2 ⟨⟨rfl,rfl,rfl,rfl,trivial⟩,⟨rfl,rfl,rfl,rfl,trivial⟩,rfl,trivial⟩
theorem aY5 (e:Ev) (mv kind:Int):a9 Tryz.prog 156 [evS e,a7 .i64 mv,a7 .i64 kind] [] (a7 .i64 (a0N e mv kind)) []:=by
 have l2:(e.moves.map x8.row).length=e.moves.length:=by simp
 (refine ac Tryz.func156 ?_;(conv=>whnf);repeat ((first|refine b0x ?_|refine zy ?_);conv=>whnf))
 repeat' (first|refine zz ?_|refine zd ?_ ?_<;>intro h<;>try omega|refine zy ?_|fail)<;>conv=>whnf
 all_goals (refine j1 ?_;unfold a0N;(repeat' split)<;>first|rfl|omega)
theorem az8 (t:f5) (hs:t.Sized):a9 Tryz.prog 85 [trS t] [] (a7 .i64 (u0 t)) []:=by
 have l1:=hs.f
 have l2:=hs.c
 have ck:=b30 t.ev hs.ev
 have m1:(t.finds.map I8.row).length=t.finds.length:=by simp
 have m2:(t.cleans.map R9.row).length=t.cleans.length:=by simp
 by_cases h0:B7 t.ev≠0
 ·have e1:u0 t=B7 t.ev:=by unfold u0;rw [if_pos h0]
  rw [e1]
  (refine ac Tryz.func85 ?_;(conv=>whnf);repeat ((first|refine b0x ?_|refine zy ?_);conv=>whnf))
  repeat' (first|refine zz ?_|refine qp ck ?_|refine zd ?_ ?_<;>intro h<;>try omega|refine zy ?_|fail)<;>conv=>whnf
  all_goals first
   |omega
   |exact j1 rfl
 have h0:B7 t.ev=0:=by omega
 rw [h0] at ck
 by_cases h1:20<t.finds.length∨50<t.cleans.length
 ·have e1:u0 t=6:=by unfold u0;rw [if_neg (by omega),if_pos h1]
  rw [e1]
  (refine ac Tryz.func85 ?_;(conv=>whnf);repeat ((first|refine b0x ?_|refine zy ?_);conv=>whnf))
  repeat' (first|refine zz ?_|refine qp ck ?_|refine zd ?_ ?_<;>intro h<;>try omega|refine zy ?_|fail)<;>conv=>whnf
  all_goals first
   |omega
   |exact j1 rfl
 have e1:u0 t=if L5 t.ev t.finds≠0 then L5 t.ev t.finds else K9 t.ev t.cleans:=by unfold u0;rw [if_neg (by omega),if_neg h1]
 rw [e1]
 (refine ac Tryz.func85 ?_;(conv=>whnf);repeat ((first|refine b0x ?_|refine zy ?_);conv=>whnf))
 repeat' (first|refine zz ?_|refine qp ck ?_|refine zd ?_ ?_<;>intro h<;>try omega|refine zy ?_|fail)<;>conv=>whnf
 all_goals try omega
 refine d7 c8 (fun k=>([J,S.c (C.t (T.ptr (trT t))),J,J,a7 .i64 k,J,J,J,J,J,J,J,J,J,J,J,J,J,J,J,J,J,J,J,J,J,J,J,J,J,J,J,J,J,J,J,J,J,J,J,J,J,J,J,J,J,J,J,J,J,J,J,J,J,J,J,J,J,J,J,J,J,J,J,J,J,J,J,J,J,J,J,J,J,J,J,J,J],[])) t.finds.length (fun k=>L5 t.ev t.finds=L5 t.ev (t.finds.drop k)) [] rfl
  ⟨rfl,rfl,trivial,⟨rfl,rfl,trivial⟩⟩ ?_
 intro k hk hI
 by_cases hlt:k<t.finds.length
 ·obtain ⟨f,hf⟩:∃f,t.finds[k]? =some f:=⟨_,lg0 hlt⟩
  have mk:=aY5 t.ev f.mv f.kind
  rw [a0p hf,L5] at hI
  by_cases hm:a0N t.ev f.mv f.kind≠0
  ·rw [if_pos hm] at hI
   rw [hI,if_pos hm]
   conv=>whnf
   repeat' (first|refine zz ?_|refine qp mk ?_|refine b9 hf ?_|refine zd ?_ ?_<;>intro h<;>try omega|refine zy ?_|fail)<;>conv=>whnf
   all_goals first
    |omega
    |exact j1 rfl
  ·rw [if_neg hm] at hI
   by_cases hg:f.grams<1∨1099511627776<f.grams
   ·rw [if_pos hg] at hI
    rw [hI]
    conv=>whnf
    repeat' (first|refine zz ?_|refine qp mk ?_|refine b9 hf ?_|refine zd ?_ ?_<;>intro h<;>try omega|refine zy ?_|fail)<;>conv=>whnf
    all_goals first
     |omega
     |exact j1 rfl
   ·rw [if_neg hg] at hI
    conv=>whnf
    repeat' (first|refine zz ?_|refine qp mk ?_|refine b9 hf ?_|refine zd ?_ ?_<;>intro h<;>try omega|refine zy ?_|fail)<;>conv=>whnf
    all_goals first
     |omega
     |exact ⟨hlt,hI,[],rfl,rfl,trivial,⟨rfl,rfl,trivial⟩⟩
 ·rw [List.drop_of_length_le (by omega)] at hI
  have hI:L5 t.ev t.finds=0:=hI
  rw [hI,if_neg (by omega)]
  conv=>whnf
  repeat' (first|refine zz ?_|refine zd ?_ ?_<;>intro h<;>try omega|refine zy ?_|fail)<;>conv=>whnf
  all_goals try omega
  refine d7 c8 (fun k=>([J,S.c (C.t (T.ptr (trT t))),J,J,J,J,a7 .i64 k,J,J,J,J,J,J,J,J,J,J,J,J,J,J,J,J,J,J,J,J,J,J,J,J,J,J,J,J,J,J,J,J,J,J,J,J,J,J,J,J,J,J,J,J,J,J,J,J,J,J,J,J,J,J,J,J,J,J,J,J,J,J,J,J,J,J,J,J,J,J,J],[])) t.cleans.length (fun k=>K9 t.ev t.cleans=K9 t.ev (t.cleans.drop k)) [] rfl
   ⟨rfl,rfl,trivial,⟨rfl,rfl,trivial⟩⟩ ?_
  intro j hj hJ
  by_cases hjt:j<t.cleans.length
  ·obtain ⟨c,hc⟩:∃c,t.cleans[j]? =some c:=⟨_,lg0 hjt⟩
   have mk:=aY5 t.ev c.mv c.kind
   rw [a0p hc,K9] at hJ
   by_cases hm:a0N t.ev c.mv c.kind≠0
   ·rw [if_pos hm] at hJ
    rw [hJ]
    conv=>whnf
    repeat' (first|refine zz ?_|refine qp mk ?_|refine b9 hc ?_|refine zd ?_ ?_<;>intro h<;>try omega|refine zy ?_|fail)<;>conv=>whnf
    all_goals first
     |omega
     |exact j1 rfl
   ·rw [if_neg hm] at hJ
    conv=>whnf
    repeat' (first|refine zz ?_|refine qp mk ?_|refine b9 hc ?_|refine zd ?_ ?_<;>intro h<;>try omega|refine zy ?_|fail)<;>conv=>whnf
    all_goals first
     |omega
     |exact ⟨hjt,hJ,[],rfl,rfl,trivial,⟨rfl,rfl,trivial⟩⟩
  ·rw [List.drop_of_length_le (by omega)] at hJ
   have hJ:K9 t.ev t.cleans=0:=hJ
   rw [hJ]
   conv=>whnf
   repeat' (first|refine zz ?_|refine zd ?_ ?_<;>intro h<;>try omega|refine zy ?_|fail)<;>conv=>whnf
   all_goals first
    |omega
    |exact j1 rfl
theorem b33 (t:f5) (hs:t.Sized) (kind:Int):a9 Tryz.prog 149 [trS t,a7 .i64 kind] [] (d6 (decide (u0 t=0∧0<=kind∧kind<8))) []:=by
 have ck:=az8 t hs
 (refine ac Tryz.func149 ?_;(conv=>whnf);repeat ((first|refine b0x ?_|refine zy ?_);conv=>whnf))
 repeat' (first|refine zz ?_|refine qp ck ?_|refine zd ?_ ?_<;>intro h<;>try omega|refine zy ?_|fail)<;>conv=>whnf
 all_goals (refine b7 ?_;simp;try omega)
theorem a8F (v n:Int) (h1:-9223372036854775808<=n) (h2:n<=9223372036854775807):a9 Tryz.prog 223 [a7 .i64 v,a7 .i64 n] [] (.agg ((i9 (v,(n:Rat))).map .t)) []:=by
 have i1:=a3G n h1 h2
 (refine ac Tryz.func223 ?_;(conv=>whnf);repeat ((first|refine b0x ?_|refine zy ?_);conv=>whnf))
 repeat' (first|refine zz ?_|refine qp i1 ?_|refine zd ?_ ?_<;>intro h<;>try omega|refine zy ?_|fail)<;>conv=>whnf
 exact j2 ⟨rfl,rfl,rfl,rfl,rfl,trivial⟩
theorem aP1 (i:Nat) (kind:Int) (v:Rat):a9 Tryz.prog 152 [a7 .i64 i,a7 .i64 kind,frS (fz v)] [] (ax5 (n8 i kind v)) []:=by
 have i1:=a8F i 1 (by decide) (by decide)
 (refine ac Tryz.func152 ?_;(conv=>whnf);repeat ((first|refine b0x ?_|refine zy ?_);conv=>whnf))
 repeat' (first|refine zz ?_|refine qp i1 ?_|refine a3L.weak ?_|refine zd ?_ ?_<;>intro h<;>try omega|refine zy ?_|fail)<;>conv=>whnf
 exact j2 ⟨rfl,rfl,rfl,rfl,rfl,rfl,trivial⟩
abbrev b9l (f:Fr):Blk:={ mode:=.live,elem:=83,size:=4,rows:=[frC f],box:=true }
theorem aU4 (f:Fr):I2 [frC f]:=by simp [I2,frC,k7,C.isT]
set_option maxHeartbeats 4000000 in
theorem b1R (e:Ev) (h0:B7 e=0) {i:Nat} {x:x8} (hx:e.moves[i]? =some x):a9 Tryz.prog 150 [evS e,a7 .i64 i] [] (ax5 (t6 e i x)) []:=by
 obtain ⟨b1,b2,b3,b4⟩:=X9 h0
 have hi:i<e.moves.length:=(lg1 hx).1
 have m0:(e.moves.map x8.row).length=e.moves.length:=by simp
 have i0:=a3G 0 (by decide) (by decide)
 have im:=a8F i (-1) (by decide) (by decide)
 have hil:=a1Z (e:=e) (p:=x.src) i
 cases hal:x.all
 case' false=>have hK:(t6 e i x).kind=0:=by unfold t6;rw [hal];rfl
 case' true=>have hK:(t6 e i x).kind=2:=by unfold t6;rw [hal];rfl
 all_goals
  (refine ac Tryz.func150 ?_;(conv=>whnf);repeat ((first|refine b0x ?_|refine zy ?_);conv=>whnf))
  repeat' (first|refine zz ?_|refine qp i0 ?_|refine b9 hx ?_|refine zd ?_ ?_<;>intro h<;>try omega|refine zy ?_|fail)<;>conv=>whnf
  all_goals first
   |omega
   |(exfalso;simp_all;done)
   |skip
  refine d7 c8 (fun k=>([J,a7 .i64 i,S.c (C.t (T.ptr (evT e))),J,S.c (C.ptr 0 0 0),a7 .i64 x.src,S.c (C.ptr 1 0 0),a7 .i64 k,J,J,J,J,J,J,J,J,J,J,J,J,J,J,J,J,J,J,J,J,J,J,J,J,J,J,J,J,J,J,J,J,J,J,J,J,J,J,J,J,J,J,J,J,J,J,J,J,J,J,J,J,J,J,J,J,J,J],[b6w,b6I 2 (i7 e x.src k).length (t6 e i x).kind,M4 (i7 e x.src k)])) i (fun _=>True) [some 0,some 1,none] trivial ?_ ?_
  ·refine ⟨rfl,rfl,⟨⟨rfl,rfl,rfl,.inr ⟨⟨rfl,rfl,rfl,rfl,rfl,rfl,trivial⟩,trivial⟩⟩,⟨rfl,rfl,rfl,.inr ⟨⟨⟨rfl,rfl,rfl⟩,?_,rfl,rfl,rfl,rfl,trivial⟩,trivial⟩⟩,⟨rfl,rfl⟩,trivial⟩,⟨rfl,rfl,⟨rfl,rfl,rfl⟩,rfl,⟨rfl,rfl,rfl⟩,rfl,trivial⟩⟩
   rw [hK];rfl
  intro k hk _
  have kl:=a1Z (e:=e) (p:=x.src) k
  by_cases hlt:k<i
  ·obtain ⟨y,hy⟩:∃y,e.moves[k]? =some y:=⟨_,lg0 (by omega)⟩
   have hmo:=N4 h0 (lg2 hy)
   have hne:y.src≠y.dst:=by unfold K4 at hmo;simp only [Bool.and_eq_true,decide_eq_true_eq] at hmo;exact hmo.1.1.1.1.1.2
   have t1:=a8F k 1 (by decide) (by decide)
   have tm:=a8F k (-1) (by decide) (by decide)
   have lA:(i7 e x.src k).length<=(M4 (i7 e x.src k)).rows.length:=by show _<=(toC _).length;simp [toC]
   have lC:((i7 e x.src k).length+1)*73<=140737488355328:=by omega
   by_cases c1:y.dst=x.src
   ·have et:i7 e x.src (k+1)=i7 e x.src k++[((k:Int),((1:Int):Rat))]:=by rw [R4 hy,if_pos c1]
    conv=>whnf
    repeat' (first|refine zz ?_|refine qp t1 ?_|refine qp tm ?_|refine b9 hy ?_|refine o6 lA lC ?_|refine zd ?_ ?_<;>intro h<;>try omega|refine zy ?_|fail)<;>conv=>whnf
    all_goals try omega
    refine ⟨hlt,trivial,[some 0,some 1,some 3],rfl,rfl,⟨⟨rfl,rfl,rfl,.inr ⟨⟨rfl,rfl,rfl,rfl,rfl,rfl,trivial⟩,trivial⟩⟩,⟨rfl,rfl,rfl,.inr ⟨⟨⟨rfl,rfl,?_,fun h=>h⟩,rfl,rfl,rfl,rfl,rfl,trivial⟩,trivial⟩⟩,a8 rfl rfl rfl ?_ rfl,trivial⟩,⟨rfl,rfl,⟨rfl,rfl,rfl⟩,rfl,⟨rfl,rfl,rfl⟩,rfl,trivial⟩⟩
    ·rw [et,List.length_append];rfl
    ·rw [et]
     show List.take (i7 e x.src k).length (toC ((i7 e x.src k).map i9))++toC [i9 ((k:Int),((1:Int):Rat))]=_
     exact a0X rfl
   ·by_cases c2:y.src=x.src
    ·have et:i7 e x.src (k+1)=i7 e x.src k++[((k:Int),((-1:Int):Rat))]:=by rw [R4 hy,if_neg c1,if_pos c2]
     conv=>whnf
     repeat' (first|refine zz ?_|refine qp t1 ?_|refine qp tm ?_|refine b9 hy ?_|refine o6 lA lC ?_|refine zd ?_ ?_<;>intro h<;>try omega|refine zy ?_|fail)<;>conv=>whnf
     all_goals try omega
     refine ⟨hlt,trivial,[some 0,some 1,some 3],rfl,rfl,⟨⟨rfl,rfl,rfl,.inr ⟨⟨rfl,rfl,rfl,rfl,rfl,rfl,trivial⟩,trivial⟩⟩,⟨rfl,rfl,rfl,.inr ⟨⟨⟨rfl,rfl,?_,fun h=>h⟩,rfl,rfl,rfl,rfl,rfl,trivial⟩,trivial⟩⟩,a8 rfl rfl rfl ?_ rfl,trivial⟩,⟨rfl,rfl,⟨rfl,rfl,rfl⟩,rfl,⟨rfl,rfl,rfl⟩,rfl,trivial⟩⟩
     ·rw [et,List.length_append];rfl
     ·rw [et]
      show List.take (i7 e x.src k).length (toC ((i7 e x.src k).map i9))++toC [i9 ((k:Int),((-1:Int):Rat))]=_
      exact a0X rfl
    ·have et:i7 e x.src (k+1)=i7 e x.src k:=by rw [R4 hy,if_neg c1,if_neg c2]
     conv=>whnf
     repeat' (first|refine zz ?_|refine b9 hy ?_|refine zd ?_ ?_<;>intro h<;>try omega|refine zy ?_|fail)<;>conv=>whnf
     all_goals try omega
     refine ⟨hlt,trivial,[some 0,some 1,some 2],rfl,rfl,⟨⟨rfl,rfl,rfl,.inr ⟨⟨rfl,rfl,rfl,rfl,rfl,rfl,trivial⟩,trivial⟩⟩,⟨rfl,rfl,rfl,.inr ⟨⟨⟨rfl,rfl,?_,fun h=>h⟩,rfl,rfl,rfl,rfl,rfl,trivial⟩,trivial⟩⟩,a8 rfl rfl rfl ?_ rfl,trivial⟩,⟨rfl,rfl,⟨rfl,rfl,rfl⟩,rfl,⟨rfl,rfl,rfl⟩,rfl,trivial⟩⟩
     ·rw [et]
     ·rw [et]
  ·have hke:k=i:=by omega
   subst hke
   have lA:(i7 e x.src k).length<=(M4 (i7 e x.src k)).rows.length:=by show _<=(toC _).length;simp [toC]
   have lC:((i7 e x.src k).length+1)*73<=140737488355328:=by omega
   conv=>whnf
   repeat' (first|refine zz ?_|refine qp im ?_|refine o6 lA lC ?_|refine zd ?_ ?_<;>intro h<;>try omega|refine zy ?_|fail)<;>conv=>whnf
   all_goals try omega
   refine j2 ⟨show VC _ (fun id=>F3 [] id=true) _ _ from s8 rfl rfl (by intro h;cases h) rfl (rows:=(i7 e x.src k++[((k:Int),((-1:Int):Rat))]).map i9) ?_ ?_,rfl,rfl,rfl,rfl,rfl,trivial⟩
   ·show List.take (i7 e x.src k).length (toC ((i7 e x.src k).map i9))++toC [i9 ((k:Int),((-1:Int):Rat))]=_
    exact a0X rfl
   ·rw [List.length_map,List.length_append];rfl
abbrev rEv (t:f5) (kind:Int) (k:Nat):Env:=[J,a7 .i64 kind,S.c (C.t (T.ptr (trT t))),J,S.c (C.ptr 0 0 0),J,S.c (C.ptr 1 0 0),S.c (C.ptr 2 0 0),a7 .i64 k,J,J,J,J,J,J,J,J,J,J,J,J,J,J,J,J,J,J,J,J,J,J,J,J,J,J,J,J,J,J,J,J,J,J,J,J,J,J,J,J,J,J,J,J,J,J,J,J,J,J,J,J,J,J,J,J,J,J,J,J,J,J,J,J,J,J,J,J,J,J,J,J,J,J,J,J,J,J,J,J,J,J,J,J,J,J,J,J,J,J,J,J,J,J,J,J,J,J,J,J,J,J,J,J,J,J,J,J,J,J,J,J,J,J,J,J,J,J,J,J,J,J,J,J,J,J,J,J,J,J,J,J]
abbrev rHp (t:f5) (R:List C2):Hp:=[a1s,evB t.ev,a2m t.ev.moves.length 3 R.length,K8 R]
theorem O4 {t:f5} {R:List C2} {N len:Nat} {H:Hp} {env env':Env} {rs:List (List C)} {kz:Blk} (hz:H[0]? =some kz) (hz2:a4j [some 0,some 1,some 2,some N] H kz a1s) (he:H[1]? =some (evB t.ev))
 (hs:H[2]? =some (a2m t.ev.moves.length N len)) (hr:H[N]? =some { mode:=.live,elem:=143,size:=6,rows:=rs,box:=false }) (hl:len=R.length) (hrs:rs=toC (R.map w5)) (hN:2<N)
 (hE:a0B [some 0,some 1,some 2,some N] H env env'):Ent 0 [some 0,some 1,some 2,some N] env H env' (rHp t R):=by
 have b1:Nat.beq 0 N=false:=by cases h:Nat.beq 0 N with|false=>rfl|true=>exact absurd (Nat.eq_of_beq_eq_true h) (by omega)
 refine ⟨rfl,a07 fun a b m h1 h2=>?_,⟨?_,?_,?_,?_,trivial⟩,hE⟩
 ·match a,b,h1,h2 with
  |0,0,_,_=>rfl
  |1,1,_,_=>rfl
  |2,2,_,_=>rfl
  |3,3,_,_=>rfl
  |0,1,h1,h2=>simp at h1 h2;omega
  |0,2,h1,h2=>simp at h1 h2;omega
  |0,3,h1,h2=>simp at h1 h2;omega
  |1,0,h1,h2=>simp at h1 h2;omega
  |1,2,h1,h2=>simp at h1 h2;omega
  |1,3,h1,h2=>simp at h1 h2;omega
  |2,0,h1,h2=>simp at h1 h2;omega
  |2,1,h1,h2=>simp at h1 h2;omega
  |2,3,h1,h2=>simp at h1 h2;omega
  |3,0,h1,h2=>simp at h1 h2;omega
  |3,1,h1,h2=>simp at h1 h2;omega
  |3,2,h1,h2=>simp at h1 h2;omega
  |n+4,_,h1,_=>simp at h1
  |0,n+4,_,h2=>simp at h2
  |1,n+4,_,h2=>simp at h2
  |2,n+4,_,h2=>simp at h2
  |3,n+4,_,h2=>simp at h2
 ·simp only [hz];exact hz2
 ·simp only [he];exact ⟨rfl,rfl,rfl,.inl ⟨rfl,l9 _⟩⟩
 ·simp only [hs];exact ⟨rfl,rfl,rfl,.inr ⟨⟨rfl,⟨rfl,rfl,hl,fun h=>h⟩,trivial⟩,trivial⟩⟩
 ·simp only [hr];exact a8 rfl rfl rfl hrs rfl
theorem a05 {ρ:List (Option Nat)} {H:Hp}:a4j ρ H a1s a1s:=⟨rfl,rfl,rfl,.inr ⟨⟨rfl,rfl,trivial⟩,trivial⟩⟩
theorem b5y (o:Option (Rat × Rat)):∃lo:Fr,ivL o=[frS lo,frS (hiF o),d6 o.isSome]:=by
 cases o with
 |none=>exact ⟨E5,rfl⟩
 |some p=>exact ⟨fz p.1,rfl⟩
theorem b5Y {i:Nat} {kind:Int} {f:Fr} {v:Rat} (h:f=fz v):a9 Tryz.prog 152 [a7 .i64 i,a7 .i64 kind,frS f] [] (ax5 (n8 i kind v)) []:=by subst h;exact aP1 i kind v
set_option maxHeartbeats 4000000 in
theorem aN5 (t:f5) (kind:Int) (hs:t.Sized) (h1:¬(u0 t≠0∨kind<0∨8<=kind)):a9 Tryz.prog 81 [trS t,a7 .i64 kind] [] (.tup [.agg [.t (ti t.ev.moves.length),.own 0 0 (P3 t kind).rows.length true],a7 .i64 0]) [K8 (P3 t kind).rows]:=by
 have rt:=b33 t hs kind
 have m2:(t.ev.moves.map x8.row).length=t.ev.moves.length:=by simp
 have m4:(t.finds.map I8.row).length=t.finds.length:=by simp
 have m5:(t.cleans.map R9.row).length=t.cleans.length:=by simp
 obtain ⟨k1,k2,k3⟩:u0 t=0∧0<=kind∧kind<8:=by omega
 rw [decide_eq_true ⟨k1,k2,k3⟩] at rt
 clear h1
 obtain ⟨q1,q2,q3,q4,q5⟩:=p6 k1
 obtain ⟨b1,b2,b3,b4⟩:=X9 q1
 (refine ac Tryz.func81 ?_;(conv=>whnf);repeat ((first|refine b0x ?_|refine zy ?_);conv=>whnf))
 repeat' (first|refine zz ?_|refine qp rt ?_|refine zd ?_ ?_<;>intro h<;>try omega|refine zy ?_|fail)<;>conv=>whnf
 all_goals try omega
 refine aE8 (fun k=>(rEv t kind k,rHp t (o4 t kind k))) t.ev.moves.length (fun _=>True) [some 0,some 1,some 2,none] trivial ?_ ?_
 ·refine ⟨rfl,rfl,⟨⟨rfl,rfl,rfl,.inr ⟨⟨rfl,rfl,trivial⟩,trivial⟩⟩,⟨rfl,rfl,rfl,.inl ⟨rfl,l9 _⟩⟩,⟨rfl,rfl,rfl,.inr ⟨⟨?_,⟨rfl,rfl,rfl⟩,trivial⟩,trivial⟩⟩,⟨rfl,rfl⟩,trivial⟩,⟨rfl,rfl,⟨rfl,rfl,rfl⟩,⟨rfl,rfl,rfl⟩,⟨rfl,rfl,rfl⟩,rfl,trivial⟩⟩
  exact a8D (by rw [m2])
 intro k hk _
 refine P4 c8 ?_
 conv=>whnf
 repeat' (first|refine zz ?_|refine zd ?_ ?_<;>intro h<;>try omega|refine zy ?_|fail)<;>conv=>whnf
 ·obtain ⟨x,hx⟩:∃x,t.ev.moves[k]? =some x:=⟨_,lg0 (by omega)⟩
  have hlt:k<t.ev.moves.length:=by omega
  have hmo:=N4 q1 (lg2 hx)
  have ms:=a1g hmo
  obtain ⟨s,hsn⟩:∃s:Nat,x.src=s:=⟨x.src.toNat,by omega⟩
  obtain ⟨pl,hpl⟩:∃pl,t.ev.places[s]? =some pl:=⟨_,lg0 (by omega)⟩
  have hkd:u4 t.ev x.src=pl.kind:=by rw [hsn];exact an2 hpl
  have st:=b1R t.ev q1 hx
  have iv:=az6 t.ev hs.ev hx
  have rl0:=a8V (t:=t) (kind:=kind) (k:=k) (by omega) q2 q3
  obtain ⟨lo,hlo⟩:=b5y (E4 t.ev x)
  rw [hlo] at iv
  have i0:=a3G 0 (by decide) (by decide)
  have hcr:N6 (E4 t.ev x) k=if (E4 t.ev x).isSome then [n8 k 1 (hiR (E4 t.ev x))] else []:=by cases E4 t.ev x<;>rfl
  obtain ⟨R1,hR1⟩:∃R1:List C2,R1=o4 t kind k++(if pl.kind=0 then [] else [t6 t.ev k x]):=⟨_,rfl⟩
  obtain ⟨R2,hR2⟩:∃R2:List C2,R2=R1++N6 (E4 t.ev x) k:=⟨_,rfl⟩
  have l1:R1.length<=14401:=by rw [hR1];split<;>simp<;>omega
  have l2:R2.length<=14402:=by rw [hR2,hcr];split<;>simp<;>omega
  refine a9E (a9J ?_)
  refine a1Q c8 (rEv t kind k) (rHp t R1) ?_ ?_
  ·have lA:(o4 t kind k).length<=(K8 (o4 t kind k)).rows.length:=by show _<=(toC _).length;simp [toC]
   have lC:((o4 t kind k).length+1)*97<=140737488355328:=by omega
   conv=>whnf
   repeat' (first|refine zz ?_|refine qp st ?_|refine b9 hx ?_|refine u5 hsn hpl ?_|refine o6 lA lC ?_|refine zd ?_ ?_<;>intro h<;>try omega|refine zy ?_|fail)<;>conv=>whnf
   ·have eR:R1=o4 t kind k++[t6 t.ev k x]:=by rw [hR1,if_neg (by assumption)]
    refine ⟨[some 0,some 1,some 2,some 4],O4 rfl a05 rfl rfl rfl ?_ ?_ (by decide) ⟨rfl,rfl,⟨rfl,rfl,rfl⟩,⟨rfl,rfl,rfl⟩,⟨rfl,rfl,rfl⟩,rfl,trivial⟩⟩
    ·rw [eR];simp [toC]
    ·rw [eR];exact a11 rfl
   ·have eR:R1=o4 t kind k:=by rw [hR1,if_pos (by omega),List.append_nil]
    refine ⟨[some 0,some 1,some 2,some 3],O4 rfl a05 rfl rfl rfl ?_ ?_ (by decide) ⟨rfl,rfl,⟨rfl,rfl,rfl⟩,⟨rfl,rfl,rfl⟩,⟨rfl,rfl,rfl⟩,rfl,trivial⟩⟩
    ·rw [eR]
    ·rw [eR]
  have o1:=fun h=>b5Y (i:=k) (kind:=1) (f:=hiF (E4 t.ev x)) (v:=hiR (E4 t.ev x)) h
  refine a1Q c8 ([J,a7 .i64 kind,S.c (C.t (T.ptr (trT t))),J,S.c (C.ptr 0 0 0),J,S.c (C.ptr 1 0 0),S.c (C.ptr 2 0 0),a7 .i64 k,J,S.c (C.ptr 4 0 0),d6 (E4 t.ev x).isSome,J,J,J,J,J,J,J,J,J,J,J,J,J,J,J,J,J,J,J,J,J,J,J,J,J,J,J,J,J,J,J,J,J,J,J,J,J,J,J,J,J,J,J,J,J,J,J,J,J,J,J,J,J,J,J,J,J,J,J,J,J,J,J,J,J,J,J,J,J,J,J,J,J,J,J,J,J,J,J,J,J,J,J,J,J,J,J,J,J,J,J,J,J,J,J,J,J,J,J,J,J,J,J,J,J,J,J,J,J,J,J,J,J,J,J,J,J,J,J,J,J,J,J,J,J,J,J,J,J]) (rHp t R1++[b9l (hiF (E4 t.ev x))]) ?_ ?_
  ·conv=>whnf
   repeat' (first|refine zz ?_|refine qp iv ?_|refine qp 6 ?_|refine bl0 [6] ?_|refine zd ?_ ?_<;>intro h<;>try omega|refine zy ?_|fail)<;>conv=>whnf
   all_goals
    refine ⟨[some 0,some 1,some 2,some 3,some 5],rfl,rfl,⟨a05,⟨rfl,rfl,rfl,.inl ⟨rfl,l9 _⟩⟩,⟨rfl,rfl,rfl,.inr ⟨⟨rfl,⟨rfl,rfl,rfl,fun h=>h⟩,trivial⟩,trivial⟩⟩,⟨rfl,rfl,rfl,.inl ⟨rfl,c7 _⟩⟩,⟨rfl,rfl,rfl,.inl ⟨rfl,aU4 _⟩⟩,trivial⟩,⟨rfl,rfl,⟨rfl,rfl,rfl⟩,⟨rfl,rfl,rfl⟩,⟨rfl,rfl,rfl⟩,rfl,⟨rfl,rfl,rfl⟩,aV8 h.symm,trivial⟩⟩
  refine a1Q c8 (rEv t kind k) (rHp t R2) ?_ ?_
  ·have lA:R1.length<=(K8 R1).rows.length:=by show _<=(toC _).length;simp [toC]
   have lC:(R1.length+1)*97<=140737488355328:=by omega
   cases hc:(E4 t.ev x).isSome with
   |true=>
    have o1:=o1 (a9O hc).1
    have eR:R2=R1++[n8 k 1 (hiR (E4 t.ev x))]:=by rw [hR2,hcr,hc];rfl
    conv=>whnf
    repeat' (first|refine zz ?_|refine qp o1 ?_|refine o6 lA lC ?_|refine zd ?_ ?_<;>intro h<;>try omega|refine zy ?_|fail)<;>conv=>whnf
    all_goals try (rw [hc] at h;exact absurd h (by decide))
    refine ⟨[some 0,some 1,some 2,some 5],O4 rfl a05 rfl rfl rfl ?_ ?_ (by decide) ⟨rfl,rfl,⟨rfl,rfl,rfl⟩,⟨rfl,rfl,rfl⟩,⟨rfl,rfl,rfl⟩,rfl,trivial⟩⟩
    ·rw [eR];simp [toC]
    ·rw [eR];exact a11 rfl
   |false=>
    have eR:R2=R1:=by rw [hR2,hcr,hc];simp
    conv=>whnf
    repeat' (first|refine zz ?_|refine zd ?_ ?_<;>intro h<;>try omega|refine zy ?_|fail)<;>conv=>whnf
    all_goals try (rw [hc] at h;exact absurd h (by decide))
    refine ⟨[some 0,some 1,some 2,some 3],O4 rfl a05 rfl rfl rfl ?_ ?_ (by decide) ⟨rfl,rfl,⟨rfl,rfl,rfl⟩,⟨rfl,rfl,rfl⟩,⟨rfl,rfl,rfl⟩,rfl,trivial⟩⟩
    ·rw [eR]
    ·rw [eR]
  obtain ⟨G,hG⟩:∃G:Nat->List C2,∀j,G j=R2++(i6 (t.finds.take j) kind k).map (fun g:Int=>n8 k 0 (g:Rat)):=⟨_,fun _=>rfl⟩
  have lG:∀j,(G j).length<=14500:=fun j=>by
   have h1:(i6 (t.finds.take j) kind k).length<=20:=by
    unfold i6;rw [List.length_map]
    exact Nat.le_trans (List.length_filter_le _ _) (by rw [List.length_take];omega)
   rw [hG];simp;omega
  refine a1Q c8 (rEv t kind k) (rHp t (G t.finds.length)) ?_ ?_
  ·conv=>whnf
   repeat' (first|refine zz ?_|refine zd ?_ ?_<;>intro h<;>try omega|refine zy ?_|fail)<;>conv=>whnf
   refine d7 c8 (fun j=>([J,a7 .i64 kind,S.c (C.t (T.ptr (trT t))),J,S.c (C.ptr 0 0 0),J,S.c (C.ptr 1 0 0),S.c (C.ptr 2 0 0),a7 .i64 k,J,J,J,a7 .i64 j,J,J,J,J,J,J,J,J,J,J,J,J,J,J,J,J,J,J,J,J,J,J,J,J,J,J,J,J,J,J,J,J,J,J,J,J,J,J,J,J,J,J,J,J,J,J,J,J,J,J,J,J,J,J,J,J,J,J,J,J,J,J,J,J,J,J,J,J,J,J,J,J,J,J,J,J,J,J,J,J,J,J,J,J,J,J,J,J,J,J,J,J,J,J,J,J,J,J,J,J,J,J,J,J,J,J,J,J,J,J,J,J,J,J,J,J,J,J,J,J,J,J,J,J,J,J,J,J],rHp t (G j))) t.finds.length (fun _=>True) [some 0,some 1,some 2,some 3] trivial ?_ ?_
   ·refine O4 rfl a05 rfl rfl rfl ?_ ?_ (by decide) ⟨rfl,rfl,⟨rfl,rfl,rfl⟩,⟨rfl,rfl,rfl⟩,⟨rfl,rfl,rfl⟩,rfl,rfl,trivial⟩
    ·rw [hG];simp [i6]
    ·rw [hG];simp [i6]
   intro j hj _
   have lj:=lG j
   by_cases hjt:j<t.finds.length
   ·obtain ⟨f,hf⟩:∃f,t.finds[j]? =some f:=⟨_,lg0 hjt⟩
    have fb:=B9 q4 f (lg2 hf)
    have ig:=a3G f.grams (by omega) (by omega)
    have o0:=aP1 k 0 (f.grams:Rat)
    have lA:(G j).length<=(K8 (G j)).rows.length:=by show _<=(toC _).length;simp [toC]
    have lC:((G j).length+1)*97<=140737488355328:=by omega
    have gs:G (j+1)=if f.kind=kind∧f.mv=(k:Int) then G j++[n8 k 0 (f.grams:Rat)] else G j:=by
     rw [hG,hG,a3r hf,a6u]
     split<;>simp
    conv=>whnf
    repeat' (first|refine zz ?_|refine qp ig ?_|refine qp o0 ?_|refine b9 hf ?_|refine o6 lA lC ?_|refine zd ?_ ?_<;>intro h<;>try omega|refine zy ?_|fail)<;>conv=>whnf
    all_goals first
     |omega
     |skip
    ·rw [if_pos (by omega)] at gs
     refine ⟨hjt,trivial,[some 0,some 1,some 2,some 4],O4 rfl a05 rfl rfl rfl ?_ ?_ (by decide) ⟨rfl,rfl,⟨rfl,rfl,rfl⟩,⟨rfl,rfl,rfl⟩,⟨rfl,rfl,rfl⟩,rfl,rfl,trivial⟩⟩
     ·rw [gs];simp [toC]
     ·rw [gs];exact a11 rfl
    all_goals
     rw [if_neg (by omega)] at gs
     refine ⟨hjt,trivial,[some 0,some 1,some 2,some 3],O4 rfl a05 rfl rfl rfl ?_ ?_ (by decide) ⟨rfl,rfl,⟨rfl,rfl,rfl⟩,⟨rfl,rfl,rfl⟩,⟨rfl,rfl,rfl⟩,rfl,rfl,trivial⟩⟩
     ·rw [gs]
     ·rw [gs]
   ·have hje:j=t.finds.length:=by omega
    subst hje
    conv=>whnf
    repeat' (first|refine zz ?_|refine zd ?_ ?_<;>intro h<;>try omega|refine zy ?_|fail)<;>conv=>whnf
    all_goals first
     |omega
     |exact ⟨[some 0,some 1,some 2,some 3],O4 rfl a05 rfl rfl rfl rfl rfl (by decide) ⟨rfl,rfl,⟨rfl,rfl,rfl⟩,⟨rfl,rfl,rfl⟩,⟨rfl,rfl,rfl⟩,rfl,trivial⟩⟩
  have lGe:=lG t.finds.length
  obtain ⟨K,hK⟩:∃K:Nat->List C2,∀j,K j=G t.finds.length++List.replicate (m8 (t.cleans.take j) kind k) (n8 k 2 ((0:Int):Rat)):=⟨_,fun _=>rfl⟩
  have lK:∀j,(K j).length<=14600:=fun j=>by
   have h1:m8 (t.cleans.take j) kind k<=50:=by
    unfold m8
    exact Nat.le_trans (List.length_filter_le _ _) (by rw [List.length_take];omega)
   rw [hK];simp;omega
  have hKe:K t.cleans.length=o4 t kind (k+1):=by
   rw [hK,hG,hR2,hR1,lg4 (Nat.le_refl _),lg4 (Nat.le_refl _)]
   show _=(match t.ev.moves[k]? with|none=>o4 t kind k|some x=>o4 t kind k++M9 t kind k x)
   rw [hx]
   simp only [M9,hkd,List.append_assoc]
  refine y7 c8 _ ?_
  conv=>whnf
  repeat' (first|refine zz ?_|refine zd ?_ ?_<;>intro h<;>try omega|refine zy ?_|fail)<;>conv=>whnf
  refine d7 c8 (fun j=>([J,a7 .i64 kind,S.c (C.t (T.ptr (trT t))),J,S.c (C.ptr 0 0 0),J,S.c (C.ptr 1 0 0),S.c (C.ptr 2 0 0),a7 .i64 k,J,J,J,J,a7 .i64 j,J,J,J,J,J,J,J,J,J,J,J,J,J,J,J,J,J,J,J,J,J,J,J,J,J,J,J,J,J,J,J,J,J,J,J,J,J,J,J,J,J,J,J,J,J,J,J,J,J,J,J,J,J,J,J,J,J,J,J,J,J,J,J,J,J,J,J,J,J,J,J,J,J,J,J,J,J,J,J,J,J,J,J,J,J,J,J,J,J,J,J,J,J,J,J,J,J,J,J,J,J,J,J,J,J,J,J,J,J,J,J,J,J,J,J,J,J,J,J,J,J,J,J,J,J,J,J],rHp t (K j))) t.cleans.length (fun _=>True) [some 0,some 1,some 2,some 3] trivial ?_ ?_
  ·refine O4 rfl a05 rfl rfl rfl ?_ ?_ (by decide) ⟨rfl,rfl,⟨rfl,rfl,rfl⟩,⟨rfl,rfl,rfl⟩,⟨rfl,rfl,rfl⟩,rfl,rfl,trivial⟩
   ·rw [hK];simp [m8]
   ·rw [hK];simp [m8]
  intro j hj _
  have lj:=lK j
  by_cases hjt:j<t.cleans.length
  ·obtain ⟨c,hc⟩:∃c,t.cleans[j]? =some c:=⟨_,lg0 hjt⟩
   have o0:=aP1 k 2 ((0:Int):Rat)
   have lA:(K j).length<=(K8 (K j)).rows.length:=by show _<=(toC _).length;simp [toC]
   have lC:((K j).length+1)*97<=140737488355328:=by omega
   have gs:K (j+1)=if c.kind=kind∧c.mv=(k:Int) then K j++[n8 k 2 ((0:Int):Rat)] else K j:=by
    rw [hK,hK,a3r hc,a0k]
    split<;>simp [List.replicate_succ']
   conv=>whnf
   repeat' (first|refine zz ?_|refine qp i0 ?_|refine qp o0 ?_|refine b9 hc ?_|refine o6 lA lC ?_|refine zd ?_ ?_<;>intro h<;>try omega|refine zy ?_|fail)<;>conv=>whnf
   all_goals first
    |omega
    |skip
   ·rw [if_pos (by omega)] at gs
    refine ⟨hjt,trivial,[some 0,some 1,some 2,some 4],O4 rfl a05 rfl rfl rfl ?_ ?_ (by decide) ⟨rfl,rfl,⟨rfl,rfl,rfl⟩,⟨rfl,rfl,rfl⟩,⟨rfl,rfl,rfl⟩,rfl,rfl,trivial⟩⟩
    ·rw [gs];simp [toC]
    ·rw [gs];exact a11 rfl
   all_goals
    rw [if_neg (by omega)] at gs
    refine ⟨hjt,trivial,[some 0,some 1,some 2,some 3],O4 rfl a05 rfl rfl rfl ?_ ?_ (by decide) ⟨rfl,rfl,⟨rfl,rfl,rfl⟩,⟨rfl,rfl,rfl⟩,⟨rfl,rfl,rfl⟩,rfl,rfl,trivial⟩⟩
    ·rw [gs]
    ·rw [gs]
  ·have hje:j=t.cleans.length:=by omega
   subst hje
   conv=>whnf
   repeat' (first|refine zz ?_|refine zd ?_ ?_<;>intro h<;>try omega|refine zy ?_|fail)<;>conv=>whnf
   all_goals try omega
   refine y7 c8 _ ?_
   conv=>whnf
   repeat' (first|refine zz ?_|refine zd ?_ ?_<;>intro h<;>try omega|refine zy ?_|fail)<;>conv=>whnf
   all_goals try omega
   exact ⟨hlt,trivial,[some 0,some 1,some 2,some 3],O4 rfl a05 rfl rfl rfl (by rw [hKe]) (by rw [hKe]) (by decide) ⟨rfl,rfl,⟨rfl,rfl,rfl⟩,⟨rfl,rfl,rfl⟩,⟨rfl,rfl,rfl⟩,rfl,trivial⟩⟩
 ·have hke:k=t.ev.moves.length:=by omega
  subst hke
  exact ⟨⟨[some 3],rfl,rfl,⟨a8 (rows:=(P3 t kind).rows.map w5) rfl rfl rfl rfl rfl,trivial⟩,⟨⟨rfl,⟨rfl,rfl,rfl,fun h=>h⟩,trivial⟩,rfl,trivial⟩⟩⟩
def aO1 (s:f8) (g:List (Int × Rat)):f8:=⟨s.n,s.rows++[⟨g,2,((0:Int):Rat)⟩]⟩
theorem aB3 {s:f8} {g:List (Int × Rat)} (hr:g6 s=true) (hl:s.rows.length<6000) (hg:e8 (-1) s.n g=true):g6 (aO1 s g)=true:=by
 unfold g6 at hr ⊢
 simp only [Bool.and_eq_true,decide_eq_true_eq] at hr ⊢
 refine ⟨⟨hr.1.1,by simp [aO1];omega⟩,?_⟩
 show (s.rows++[_]).all (s9 s.n)=true
 rw [List.all_append,hr.2]
 simp [s9,hg]
theorem a2K {s:f8} {g:List (Int × Rat)} (z:List Rat):∀l:List (Int × Rat),j9 (P6 l) z=-(j9 l z):=by
 intro l
 have key:∀k,k<=l.length->j9 ((P6 l).take k) z=-(j9 (l.take k) z):=by
  intro k
  induction k with
  |zero=>intro _;rw [List.take_zero,List.take_zero];show (0:Rat)=-0;grind
  |succ k ih=>
   intro hk
   have ih:=ih (by omega)
   have ht:l[k]? =some l[k]:=lg0 (by omega)
   rw [show (P6 l).take (k+1)=_ from a8b l _ ht,R7,List.take_succ_eq_append_getElem (show k<l.length by omega),R7,show (Y2 l ((-1:Int):Rat)).take k=(P6 l).take k from rfl,ih]
   have e1:((-1:Int):Rat)=-1:=rfl
   rw [e1];simp only;grind
 have:=key l.length (Nat.le_refl _)
 rwa [lg4 (by rw [b4N];exact Nat.le_refl _),lg4 (Nat.le_refl _)] at this
theorem b4o {s:f8} {Y:List Rat} (h:aD2 s (yN Y)) (hl:Y.length=s.rows.length):Z3 s Y=true:=by
 unfold Z3
 rw [decide_eq_true hl,Bool.true_and,List.all_eq_true]
 intro i hi
 rw [List.mem_range] at hi
 have hx:s.rows[i]? =some s.rows[i]:=lg0 hi
 obtain ⟨h1,h2⟩:=h i _ hx
 unfold sgB
 rw [H8 hx]
 simp only [Bool.not_eq_true',Bool.or_eq_false_iff,Bool.and_eq_false_iff,decide_eq_false_iff_not]
 refine ⟨?_,?_⟩
 ·by_cases h:s.rows[i].kind=0
  ·exact .inr (Rat.not_lt.2 (h1 h))
  ·exact .inl h
 ·by_cases h:s.rows[i].kind=1
  ·exact .inr (Rat.not_lt.2 (h2 h))
  ·exact .inl h
theorem b5q {s:f8} {g:List (Int × Rat)} {Y:List Rat} {y:Nat->Rat} {v:Rat} (hr:g6 s=true) (hg:e8 (-1) ((s.n.toNat:Nat):Int) g=true) (h:b4C s (v8 g) y v) (hl:Y.length=s.rows.length) (hY:∀i,i<s.rows.length->yN Y i=y i):a0F s g Y=true∧a0U s (yN Y)=v:=by
 have hn:=V7 hr
 have e1:∀l,E0 s (yN Y) l=E0 s y l:=fun l=>f6 fun i hi=>by rw [hY i hi]
 have e2:a0U s (yN Y)=a0U s y:=f6 fun i hi=>by rw [hY i hi]
 refine ⟨?_,by rw [e2,h.val]⟩
 unfold a0F
 rw [b4o (fun i w hw=>by rw [hY i (lg1 hw).1];exact h.sign i w hw) hl,←hn,hg,Bool.true_and,Bool.true_and,List.all_eq_true]
 intro l hl
 rw [List.mem_range] at hl
 have hl:l<s.n.toNat:=by omega
 rw [e1]
 exact decide_eq_true (h.mix l hl)
theorem b2v {n:Nat} {y:Nat->Rat} {i:Nat} (h:i<n):yN (zOf n y) i=y i:=a5X h
def a9p (D:Fd):Fd:={ D with V:=fun _=>0 }
theorem a6Y {m n:Nat} {D:Fd} {y:Nat->Rat} {c:Rat}:Ids m n (a9p D) y c↔Ids m n D y 0:=by
 constructor
 ·intro h i hi
  have h1:y (D.O i)=c*0 - g4 (fun j=>D.A i j*y (D.F j)) n:=h i hi
  show y (D.O i)=0*D.V i - g4 (fun j=>D.A i j*y (D.F j)) n
  rw [h1];grind
 ·intro h i hi
  have h1:y (D.O i)=0*D.V i - g4 (fun j=>D.A i j*y (D.F j)) n:=h i hi
  show y (D.O i)=c*0 - g4 (fun j=>D.A i j*y (D.F j)) n
  rw [h1];grind
theorem aQ8 {m n:Nat} {D:Fd} (h:Z7 m n D):Z7 m n (a9p D):=⟨h.oi,h.fi,h.of,h.all,h.ob,h.fb⟩
theorem aF4 {s:f8} {g:List (Int × Rat)} {B:Nat} (hI:∀w ∈ s.rows,ac3 B w):aR2 (f7 s).length s.n.toNat 1 (a9p (g8 s g)) where
 o:=fun i _=>rfl
 f:=fun j _=>rfl
 w:=fun i hi=>by
  obtain ⟨f,hf⟩:∃f,(f7 s)[i]? =some f:=⟨_,lg0 hi⟩
  obtain ⟨x,hx,_⟩:=V8.1 (lg2 hf)
  obtain ⟨h1,h2⟩:=hI x (lg2 hx)
  have hfd:(f7 s).getD i (0,false)=f:=by rw [lg3,hf];rfl
  have eA:∀j,(g8 s g).A i j=S2 f.2 (v8 x.terms j):=fun j=>by show a1P s ((f7 s).getD i (0,false)) j=_;rw [hfd];unfold a1P;rw [hx]
  have hc:∀j,∃c:Int,(g8 s g).A i j=((c:Int):Rat)∧bl c<=1:=fun j=>by
   obtain ⟨c,hc,hb⟩:=a1r h1 x.terms.length j
   obtain ⟨c',hc',hb'⟩:=b4K (b:=f.2) (x:=v8 x.terms j) hc
   exact ⟨c',by rw [eA,hc'],by omega⟩
  refine ⟨1,0,fun j=>Classical.choose (hc j),by decide,o7 (by decide) (by decide),o7 (by decide) (by decide),fun j hj=>(Classical.choose_spec (hc j)).2,?_,fun j hj=>?_⟩
  ·have e0:((0:Int):Rat)=0:=rfl
   have e1:((1:Int):Rat)=1:=rfl
   show ((1:Int):Rat)*0=((0:Int):Rat)
   rw [e0,e1];grind
  ·show ((1:Int):Rat)*(g8 s g).A i j=((Classical.choose (hc j):Int):Rat)
   have hs:=(Classical.choose_spec (hc j)).1
   generalize Classical.choose (hc j)=x at hs
   rw [hs]
   have h1:((1:Int):Rat)=1:=rfl
   rw [h1];grind
theorem b0a {s:f8} {g:List (Int × Rat)} {B:Nat} (hI:∀w ∈ s.rows,ac3 B w) (hg:C0 g) {j:Nat} (hj:j<s.n.toNat):rl ((y3 s g).G j)<=2 ^ s.n.toNat*3:=by
 have inv:=R0 (s:=s) (g:=g)
 obtain ⟨z,hz⟩:=inv.g
 have hc:∀j,∃c:Int,v8 g j=((c:Int):Rat)∧bl c<=1:=fun j=>a1r hg g.length j
 have hz0:U3 s.n.toNat (a9p (y3 s g)) (fun j=>-(v8 g j)) (f7 s).length 0:=fun y c hy=>by
  have:=hz y 0 (a6Y.1 hy)
  rw [this]
  show 0*z+_=c*0+_
  have e:g4 (fun j=>(a9p (y3 s g)).G j*y ((a9p (y3 s g)).F j)) s.n.toNat=g4 (fun j=>(y3 s g).G j*y ((y3 s g).F j)) s.n.toNat:=rfl
  rw [e];grind
 refine b5P (D:=a9p (y3 s g)) (aF4 (g:=g) hI) (by decide) (aQ8 inv.p) (fun y c=>by rw [a6Y,a6Y];exact inv.i y 0) hz0 (q:=1) (b:=fun l=>-(Classical.choose (hc l))) (by decide) (o7 (by decide) (by decide)) (fun l hl=>?_) (fun l hl=>?_) hj
 ·have:=(Classical.choose_spec (hc l)).2
  show bl (-(Classical.choose (hc l)))<=_
  rw [a8E];omega
 ·have hs:=(Classical.choose_spec (hc l)).1
  show ((1:Int):Rat)*-(v8 g l)=((-(Classical.choose (hc l)):Int):Rat)
  generalize Classical.choose (hc l)=x at hs ⊢
  rw [hs]
  have e:((-x:Int):Rat)=-((x:Int):Rat):=by push_cast;rfl
  rw [e]
  have h1:((1:Int):Rat)=1:=rfl
  rw [h1];grind
theorem aO7 {f:Nat->Rat} {C:Nat}:∀n:Nat,(∀ j,j<n->rl (f j)<=C)->rl (g4 f n)<=n*(C+1)+1
 |0,_=>by have:=rl0;show rl 0<=_;omega
 |n+1,h=>by
  have ih:=aO7 n fun j hj=>h j (by omega)
  have h1:=h n (by omega)
  have h2:=a3Z (g4 f n) (f n)
  have e:(n+1)*(C+1)=n*(C+1)+(C+1):=by rw [Nat.add_mul,Nat.one_mul]
  show rl (g4 f n+f n)<=_
  omega
theorem b1B {k a:Nat} (v:Rat) (c:Nat->Rat):g4 (fun i=>(if a=i then v else 0)*c i) k=if a<k then v*c a else 0:=by
 by_cases h:a<k
 ·rw [if_pos h,a3S h]
 ·rw [if_neg h]
  exact s6 fun i hi=>by rw [if_neg (by omega)];grind
theorem b4i {s:f8} {w k:Nat} (p:Rat) (c:Nat->Rat) {P C:Nat} (hp:rl p<=P) (hc:∀i,rl (c i)<=C):rl (g4 (fun i=>chg s w p i*c i) k)<=P+C+1:=by
 by_cases h:s.n.toNat<=w
 ·rw [f6 (g:=fun i=>(if (B5 s (w - s.n.toNat)).1=i then -(S2 (B5 s (w - s.n.toNat)).2 p) else 0)*c i) fun i hi=>by
   unfold chg
   by_cases h2:(B5 s (w - s.n.toNat)).1=i
   ·rw [if_pos ⟨h,h2⟩,if_pos h2]
   ·rw [if_neg (fun e=>h2 e.2),if_neg h2]]
  rw [b1B]
  split
  ·have h1:=a29 (-(S2 (B5 s (w - s.n.toNat)).2 p)) (c (B5 s (w - s.n.toNat)).1)
   have h2:=hc (B5 s (w - s.n.toNat)).1
   have h3:rl (-(S2 (B5 s (w - s.n.toNat)).2 p))<=P:=by
    rw [P9]
    cases (B5 s (w - s.n.toNat)).2 with
    |false=>exact hp
    |true=>show rl (-p)<=P;rw [P9];exact hp
   omega
  ·have:=rl0;omega
 ·rw [s6 fun i hi=>by unfold chg;rw [if_neg (fun e=>h e.1)];grind]
  have:=rl0;omega
theorem ac1 {s:f8} {g:List (Int × Rat)} {B C:Nat} (hI:∀w ∈ s.rows,ac3 B w) (hg:C0 g) (c:Nat->Rat) (hc:∀i,rl (c i)<=C) (k:Nat):
 rl (g4 (fun i=>P5 s (y3 s g) i*c i) k)<=s.n.toNat*(2 ^ s.n.toNat*3+C+2)+1:=by
 have e:g4 (fun i=>P5 s (y3 s g) i*c i) k=g4 (fun j=>g4 (fun i=>chg s ((y3 s g).F j) (-((y3 s g).G j)) i*c i) k) s.n.toNat:=a6k (s:=s)
 rw [e]
 exact aO7 _ fun j hj=>b4i _ c (by rw [P9];exact b0a hI hg hj) hc
theorem b3a {s:f8} {g:List (Int × Rat)} {B:Nat} (hI:∀w ∈ s.rows,ac3 B w) (hg:C0 g) (i:Nat):rl (P5 s (y3 s g) i)<=s.n.toNat*(2 ^ s.n.toNat*3+1)+1:=by
 refine aO7 _ fun j hj=>?_
 have h:=b0a (g:=g) hI hg hj
 unfold chg
 split
 ·rw [P9]
  cases (B5 s ((y3 s g).F j - s.n.toNat)).2 with
  |false=>show rl (-((y3 s g).G j))<=_;rw [P9];exact h
  |true=>show rl (- -((y3 s g).G j))<=_;rw [P9,P9];exact h
 ·have:=rl0
  have h2:1<=2 ^ s.n.toNat:=Nat.one_le_two_pow
  omega
theorem b2Y {l:List (Int × Rat)} (h:C0 l) (v:Nat):rl (v8 l v)<=1:=by
 obtain ⟨c,hc,hb⟩:=a1r h l.length v
 have e:v8 l v=((c:Int):Rat):=hc
 rw [e,a2c]
 have:=o7 (x:=1) (by decide) (by decide)
 omega
theorem aY1 {s:f8} {B:Nat} (hI:∀w ∈ s.rows,ac3 B w) (hB:1<=B) (i:Nat):C0 (v7 s i).terms∧rl (v7 s i).value<=B:=by
 by_cases h:i<s.rows.length
 ·have hx:s.rows[i]? =some s.rows[i]:=lg0 h
  rw [H8 hx]
  exact hI _ (List.getElem_mem _)
 ·have e:v7 s i=⟨[],2,0⟩:=by unfold v7;rw [lg3,List.getElem?_eq_none (by omega)];rfl
  rw [e]
  exact ⟨fun (t:Int × Rat) (ht:t ∈ [])=>by simp at ht,by have:=rl0;show rl 0<=B;omega⟩
theorem b38 {s:f8} {g:List (Int × Rat)} (c:Nat->Rat) (k:Nat):g4 (fun i=>yN (zOf s.rows.length (P5 s (y3 s g))) i*c i) k=g4 (fun i=>P5 s (y3 s g) i*(if i<s.rows.length then c i else 0)) k:=f6 fun i hi=>by
 by_cases h:i<s.rows.length
 ·rw [b2v h,if_pos h]
 ·have:yN (zOf s.rows.length (P5 s (y3 s g))) i=0:=by unfold yN;rw [lg3,List.getElem?_eq_none (by rw [R3];omega)];rfl
  rw [this,if_neg h];grind
theorem a9H:∀n,n<9->n*(2 ^ n*3+11+2)+1<=40000∧n*(2 ^ n*3+1)+1<=40000∧n*(2 ^ n*3+1+2)+1<=40000:=by decide
theorem b7Q {s:f8} {g:List (Int × Rat)} (hI:∀w ∈ s.rows,ac3 11 w) (hg:C0 g) (hn:s.n.toNat<=8) (l k:Nat):rl (N2 s (yN (zOf s.rows.length (P5 s (y3 s g)))) l k)<=40000:=by
 obtain ⟨p1,p2,p3⟩:=a9H s.n.toNat (by omega)
 unfold N2
 rw [b38]
 have:=ac1 hI hg (C:=1) (fun i=>if i<s.rows.length then v8 (v7 s i).terms l else 0) (fun i=>by
  split
  ·exact b2Y (aY1 hI (by decide) i).1 l
  ·exact rl0) k
 omega
theorem b8b {s:f8} {g:List (Int × Rat)} (hI:∀w ∈ s.rows,ac3 11 w) (hg:C0 g) (hn:s.n.toNat<=8) (k:Nat):rl (W0 s (yN (zOf s.rows.length (P5 s (y3 s g)))) k)<=40000:=by
 obtain ⟨p1,p2,p3⟩:=a9H s.n.toNat (by omega)
 unfold W0
 rw [b38]
 have:=ac1 hI hg (C:=11) (fun i=>if i<s.rows.length then (v7 s i).value else 0) (fun i=>by
  split
  ·exact (aY1 hI (by decide) i).2
  ·have:=rl0;omega) k
 omega
theorem b2n {s:f8} {g:List (Int × Rat)} (hI:∀w ∈ s.rows,ac3 11 w) (hg:C0 g) (hn:s.n.toNat<=8):∀v ∈ zOf s.rows.length (P5 s (y3 s g)),rl v<=40000:=by
 intro v hv
 obtain ⟨p1,p2,p3⟩:=a9H s.n.toNat (by omega)
 obtain ⟨j,hj,rfl⟩:=a4T hv
 have:=b3a hI hg j
 omega
theorem b1C {s:f8} {g:List (Int × Rat)} (hI:∀w ∈ s.rows,ac3 11 w) (hg:C0 g) (hn:s.n.toNat<=8) (hm:s.rows.length<=1000000):at5 s (zOf s.rows.length (P5 s (y3 s g))):=
 ⟨b2n hI hg hn,fun l k=>Nat.le_trans (b7Q hI hg hn l k) (by decide),fun k=>Nat.le_trans (b8b hI hg hn k) (by decide),R3,hm⟩
theorem b6D:rl ((-1:Int):Rat)<=1:=by rw [a2c];exact o7 (x:=-1) (by decide) (by decide)
theorem b7H {s:f8} {x:List Rat} {B:Nat} (hr:g6 s=true) (hI:∀w ∈ s.rows,ac3 11 w) (hB:B<=40000) (hn:s.n.toNat*(B+4)+1<=50000) (hl:x.length<=1000000) (hx:∀v ∈ x,rl v<=B):PtB s x:=by
 refine ⟨fun v hv=>Nat.le_trans (hx v hv) hB,fun w hw k=>?_,hl⟩
 obtain ⟨i,hi,rfl⟩:=List.getElem_of_mem hw
 have hrt:=(T6 hr (lg0 hi)).1
 have h1:=a6n (L7 (hI _ hw).1) hx k
 have h2:=z5 hrt
 have h3:s.rows[i].terms.length<=s.n.toNat:=by omega
 have h4:=Nat.mul_le_mul_right (B+4) h3
 omega
end Go.Proofs.YtdbogogfeffjlaaGreat
