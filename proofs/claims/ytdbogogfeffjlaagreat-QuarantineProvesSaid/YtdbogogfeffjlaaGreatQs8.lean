/- Chapter 21 in plain Lean: the system of a kind of foreign matter, and its solutions. No program is in sight. -/
import Derived.Test.YtdbogogfeffjlaaGreatQs7
namespace Go.Proofs.YtdbogogfeffjlaaGreat
set_option linter.unusedVariables false
set_option linter.unusedSimpArgs false
set_option maxRecDepth 100000
open Go.RowKit
open St1 St2 St3 St4 St5 St6 St7 St8
theorem b06 (t:f5) (hs:t.Sized) (find:Int):a9 Tryz.prog 100 [trS t,a7 .i64 find] [] (d6 (a0w t find)) []:=by
 have ck:=az8 t hs
 have m1:(t.finds.map I8.row).length=t.finds.length:=by simp
 unfold a0w
 by_cases h1:u0 t=0
 ·rw [decide_eq_true h1,Bool.true_and]
  (refine ac Tryz.func100 ?_;(conv=>whnf);repeat ((first|refine b0x ?_|refine zy ?_);conv=>whnf))
  repeat' (first|refine zz ?_|refine qp ck ?_|refine zd ?_ ?_<;>intro h<;>try omega|refine zy ?_|fail)<;>conv=>whnf
  all_goals first
   |omega
   |(refine b7 ?_;symm;simp only [Bool.and_eq_true,decide_eq_true_eq,Bool.and_eq_false_iff,decide_eq_false_iff_not];omega)
 ·rw [decide_eq_false h1,Bool.false_and,Bool.false_and]
  (refine ac Tryz.func100 ?_;(conv=>whnf);repeat ((first|refine b0x ?_|refine zy ?_);conv=>whnf))
  repeat' (first|refine zz ?_|refine qp ck ?_|refine zd ?_ ?_<;>intro h<;>try omega|refine zy ?_|fail)<;>conv=>whnf
  all_goals first
   |omega
   |exact b7 rfl
def a6l (e:Ev) (i:Nat):Bool:=decide (i ∈ f9 e)
theorem ah6 {e:Ev} {i:Nat} {m:x8} (hm:e.moves[i]? =some m):a6l e i=decide (u4 e m.src=0):=by
 unfold a6l
 rw [decide_eq_decide,V4]
 constructor
 ·rintro ⟨x,hx,h⟩;rw [hm] at hx;injection hx with hx;rw [hx];exact h
 ·intro h;exact ⟨m,hm,h⟩
theorem av6 (e:Ev) (h0:B7 e=0) (i:Nat) (hi:i<e.moves.length):a9 Tryz.prog 45 [evS e,a7 .i64 i] [] (d6 (a6l e i)) []:=by
 obtain ⟨m,hm⟩:∃m,e.moves[i]? =some m:=⟨_,lg0 hi⟩
 have ms:=a1g (N4 h0 (lg2 hm))
 obtain ⟨p,hp⟩:∃p,e.places[m.src.toNat]? =some p:=⟨_,lg0 (by omega)⟩
 have hk0:u4 e m.src=p.kind:=by unfold u4;rw [hp];rfl
 rw [ah6 hm,hk0]
 (refine ac Tryz.func45 ?_;(conv=>whnf);repeat ((first|refine b0x ?_|refine zy ?_);conv=>whnf))
 repeat' (first|refine zz ?_|refine b9 hm ?_|refine p9 ms.1 hp ?_|refine zd ?_ ?_<;>intro h<;>try omega|refine zy ?_|fail)<;>conv=>whnf
 all_goals first
  |omega
  |(refine b7 ?_;symm;simp;omega)
  |(refine b7 ?_;symm;simp;assumption)
theorem b3K (v c:Int) (h0:-9223372036854775808<=c) (h1:c<=9223372036854775807):a9 Tryz.prog 101 [a7 .i64 v,a7 .i64 c] [] (j7 [(v,((c:Int):Rat))]) []:=by
 have ic:=a3G c h0 h1
 (refine ac Tryz.func101 ?_;(conv=>whnf);repeat ((first|refine b0x ?_|refine zy ?_);conv=>whnf))
 repeat' (first|refine zz ?_|refine qp ic ?_|refine zd ?_ ?_<;>intro h<;>try omega|refine zy ?_|fail)<;>conv=>whnf
 all_goals first
  |exact j2 (show a8i [] _ _ _ from rfl)
theorem aN1 (t:f5) (kind:Int) (hs:t.Sized) (h1:u0 t=0) (k0:0<=kind) (k1:kind<8) (H:Hp):W6 Tryz.prog 81 [.agg (b62 t),a7 .i64 kind] H (.tup [.agg [.t (ti t.ev.moves.length),.own H.length 0 (P3 (y0 t) kind).rows.length true],a7 .i64 0]) [K8 (P3 (y0 t) kind).rows]:=by
 have hc:¬(u0 (y0 t)≠0∨kind<0∨8<=kind):=by have:=a2q h1;omega
 have h:=a86 (aN5 (y0 t) kind ⟨hs.ev,by simp [y0],hs.c⟩ hc)
 exact a5F (j:=1) h rfl rfl (c7 _) rfl rfl
def U2 (t:f5) (kind:Int) (i k:Nat):List C2:=(P3 (y0 t) kind).rows++L0 (o9 t.ev k) i
theorem ay6 {t:f5} {kind:Int} {i k:Nat} {m:x8} (hm:t.ev.moves[k]? =some m):U2 t kind i (k+1)=if k≠i∧a6l t.ev k=true then U2 t kind i k++[n8 k 2 ((0:Int):Rat)] else U2 t kind i k:=by
 unfold U2
 conv=>lhs;unfold o9
 rw [hm,ah6 hm]
 simp only [decide_eq_true_eq]
 by_cases h1:u4 t.ev m.src=0
 ·rw [if_pos h1]
  unfold L0
  rw [List.filter_append,List.map_append]
  by_cases h2:k≠i
  ·rw [if_pos ⟨h2,h1⟩];simp [h2]
  ·rw [if_neg (fun h=>h2 h.1)];simp [h2]
 ·rw [if_neg h1,if_neg (fun h=>h1 h.2)]
theorem aU0 {t:f5} {kind:Int} {i k:Nat} (hm:t.ev.moves.length<=14) (hc:t.cleans.length<=50) (hk:k<=14):(U2 t kind i k).length<=750:=by
 unfold U2
 have hl:=Q0 (t:=y0 t) (kind:=kind) t.ev.moves.length
 have hl2:t.ev.moves.length*(2+(y0 t).finds.length+(y0 t).cleans.length)<=14*52:=Nat.mul_le_mul hm (by show 2+0+t.cleans.length<=52;omega)
 have hl3:=a20 (o9 t.ev k) i
 have hl4:=w8 (e:=t.ev) k
 have hl7:(P3 (y0 t) kind).rows.length<=14*52:=Nat.le_trans hl hl2
 rw [List.length_append];omega
set_option maxHeartbeats 8000000 in
theorem aw6 (t:f5) (hs:t.Sized) (find:Int) (f:I8) (hf:t.finds[find.toNat]? =some f) (i:Nat) (h:Q5 t find i=true) (hm:t.ev.moves.length<=14):
 a9 Tryz.prog 33 [trS t,a7 .i64 find,a7 .i64 i] [] (.tup [Q3 (j5 t f.kind i),a7 .i64 0]) []:=by
 have fi:=b06 t hs find
 unfold Q5 at h
 obtain ⟨h1,h2⟩:=(Bool.and_eq_true _ _).mp h
 rw [h1] at fi
 obtain ⟨h3,h4,_⟩:=a2o h1
 obtain ⟨q1,q2,q3,q4,q5⟩:=p6 h3
 have hg:=B9 q4 f (lg2 hf)
 have h5:=(of_decide_eq_true h2).2
 rw [Int.toNat_natCast] at h5
 have il:i<t.ev.moves.length:=by
  obtain ⟨m,hm,_⟩:=V4.1 h5
  exact (lg1 hm).1
 have m1:(t.ev.moves.map x8.row).length=t.ev.moves.length:=by simp
 have lf:=av6 t.ev q1 i il
 have e1:a6l t.ev i=true:=decide_eq_true h5
 rw [e1] at lf
 have sy:=fun H:Hp=>aN1 t f.kind hs h3 (by omega) (by omega) H
 have i0:=a3G 0 (by decide) (by decide)
 have eM0:U2 t f.kind i 0=(P3 (y0 t) f.kind).rows:=by unfold U2 o9 L0;simp
 (refine ac Tryz.func33 ?_;(conv=>whnf);repeat ((first|refine b0x ?_|refine zy ?_);conv=>whnf))
 repeat' (first|refine zz ?_|refine qp fi ?_|refine qp lf ?_|refine qp 10 ?_|refine p9 h4 hf ?_|refine .inl ⟨_,_,sy _,?_⟩|refine bl0 [10] ?_|refine zd ?_ ?_<;>intro h<;>try omega|refine zy ?_|fail)<;>conv=>whnf
 all_goals try omega
 refine d7 c8 (fun k=>([J,J,a7 .i64 i,S.c (C.t (T.ptr (trT t))),J,J,S.c (C.ptr 0 0 0),J,J,S.c (C.ptr 1 0 0),J,a7 .i64 k,J,J,J,J,J,J,J,J,J,J,J,J,J,J,J,J,J,J,J,J,J,J,J,J,J,J,J,J,J,J,J,J,J,J,J,J,J,J,J,J,J,J,J,J,J,J,J,J,J,J,J,J,J,J,J,J,J,J,J,J,J,J,J],[a1s,a2m t.ev.moves.length 2 (U2 t f.kind i k).length,K8 (U2 t f.kind i k)])) t.ev.moves.length (fun _=>True) [some 0,some 3,some 2] trivial
  ⟨rfl,rfl,⟨⟨rfl,rfl,rfl,.inr ⟨⟨rfl,rfl,trivial⟩,trivial⟩⟩,⟨rfl,rfl,rfl,.inr ⟨⟨rfl,⟨rfl,rfl,by rw [eM0],fun h=>h⟩,trivial⟩,trivial⟩⟩,a8 (rows:=(U2 t f.kind i 0).map w5) rfl rfl rfl (by rw [eM0]) rfl,trivial⟩,⟨rfl,rfl,⟨rfl,rfl,rfl⟩,⟨rfl,rfl,rfl⟩,rfl,trivial⟩⟩ ?_
 intro k hk _
 have lk:=aU0 (t:=t) (kind:=f.kind) (i:=i) (k:=k) hm q3 (by omega)
 by_cases hlt:k<t.ev.moves.length
 ·obtain ⟨m,hm2⟩:∃m,t.ev.moves[k]? =some m:=⟨_,lg0 hlt⟩
  have lfk:=av6 t.ev q1 k hlt
  have on:=b3K k 1 (by decide) (by decide)
  rw [ay6 hm2]
  have lA:(U2 t f.kind i k).length<=(K8 (U2 t f.kind i k)).rows.length:=by show _<=(toC _).length;simp [toC]
  generalize U2 t f.kind i k=R at *
  by_cases hki:k=i
  ·rw [if_neg (fun h=>h.1 hki)]
   cases a6l t.ev k<;>
   ·conv=>whnf
    repeat' (first|refine zz ?_|refine qp lfk ?_|refine zd ?_ ?_<;>intro h<;>try omega|refine zy ?_|fail)<;>conv=>whnf
    all_goals first
     |omega
     |exact ⟨hlt,trivial,[some 0,some 1,some 2],rfl,rfl,⟨⟨rfl,rfl,rfl,.inr ⟨⟨rfl,rfl,trivial⟩,trivial⟩⟩,⟨rfl,rfl,rfl,.inr ⟨⟨rfl,⟨rfl,rfl,rfl,fun h=>h⟩,trivial⟩,trivial⟩⟩,c9 (c7 _),trivial⟩,⟨rfl,rfl,⟨rfl,rfl,rfl⟩,⟨rfl,rfl,rfl⟩,c6 (by omega),trivial⟩⟩
  ·cases hb:a6l t.ev k with
   |false=>
    rw [hb] at lfk
    rw [if_neg (fun h=>by cases h.2)]
    conv=>whnf
    repeat' (first|refine zz ?_|refine qp lfk ?_|refine zd ?_ ?_<;>intro h<;>try omega|refine zy ?_|fail)<;>conv=>whnf
    all_goals first
     |omega
     |exact ⟨hlt,trivial,[some 0,some 1,some 2],rfl,rfl,⟨⟨rfl,rfl,rfl,.inr ⟨⟨rfl,rfl,trivial⟩,trivial⟩⟩,⟨rfl,rfl,rfl,.inr ⟨⟨rfl,⟨rfl,rfl,rfl,fun h=>h⟩,trivial⟩,trivial⟩⟩,c9 (c7 _),trivial⟩,⟨rfl,rfl,⟨rfl,rfl,rfl⟩,⟨rfl,rfl,rfl⟩,c6 (by omega),trivial⟩⟩
   |true=>
    rw [hb] at lfk
    rw [if_pos ⟨hki,rfl⟩]
    conv=>whnf
    repeat' (first|refine zz ?_|refine qp lfk ?_|refine qp on ?_|refine qp i0 ?_|refine qp toC ?_|refine qp (0,1) ?_|refine o6 lA (by simp [toC];omega) ?_|refine bl0 [0,1] ?_|refine zd ?_ ?_<;>intro h<;>try omega|refine zy ?_|fail)<;>conv=>whnf
    all_goals first
     |omega
     |(refine ⟨hlt,trivial,[some 0,some 1,some 3],rfl,rfl,⟨⟨rfl,rfl,rfl,.inr ⟨⟨rfl,rfl,trivial⟩,trivial⟩⟩,⟨rfl,rfl,rfl,.inr ⟨⟨rfl,⟨rfl,rfl,?_,fun h=>h⟩,trivial⟩,trivial⟩⟩,a8 (rows:=(R++[n8 k 2 ((0:Int):Rat)]).map w5) rfl rfl rfl ?_ rfl,trivial⟩,⟨rfl,rfl,⟨rfl,rfl,rfl⟩,⟨rfl,rfl,rfl⟩,c6 (by omega),trivial⟩⟩
       ·simp [toC]
       ·exact A6 (f:=w5) (x:=n8 k 2 ((0:Int):Rat)) rfl)
 ·have hke:k=t.ev.moves.length:=by omega
  subst hke
  have e9:U2 t f.kind i t.ev.moves.length=(j5 t f.kind i).rows:=rfl
  conv=>whnf
  repeat' (first|refine zz ?_|refine zd ?_ ?_<;>intro h<;>try omega|refine zy ?_|fail)<;>conv=>whnf
  all_goals first
   |omega
   |(rw [e9];exact j2 ⟨⟨rfl,show VC _ (fun id=>F3 [] id=true) _ _ from s8 rfl rfl (by intro h;cases h) rfl rfl (by rw [List.length_map]),trivial⟩,rfl,trivial⟩)
theorem b60 {s:f8} {g:List (Int × Rat)} {Y:List Rat} (hr:g6 s=true) (h:a0F s g Y=true):b4C s (v8 g) (yN Y) (a0U s (yN Y)):=by
 unfold a0F Z3 at h
 simp only [Bool.and_eq_true,decide_eq_true_eq,List.all_eq_true] at h
 obtain ⟨⟨⟨h1,h2⟩,h3⟩,h4⟩:=h
 refine ⟨fun i w hw=>?_,fun l hl=>?_,rfl⟩
 ·have:=h2 i (List.mem_range.2 (lg1 hw).1)
  unfold sgB at this
  rw [H8 hw] at this
  simp only [Bool.not_eq_true',Bool.or_eq_false_iff,Bool.and_eq_false_iff,decide_eq_false_iff_not] at this
  obtain ⟨a,b⟩:=this
  exact ⟨fun hk=>by
   rcases a with a|a
   ·exact absurd hk a
   ·exact Rat.not_lt.1 a,fun hk=>by
   rcases b with b|b
   ·exact absurd hk b
   ·exact Rat.not_lt.1 b⟩
 ·exact h4 l (List.mem_range.2 hl)
theorem never_holds {s:f8} {g:List (Int × Rat)} {z:List Rat} (hr:g6 s=true) (hl:s.rows.length<6000) (hg:e8 (-1) s.n g=true) (hz:j0 s z=true) (h0:j9 g z=0):j0 (aO1 s g) z=true:=by
 obtain ⟨h1,h2,h3,h4⟩:=a0b.1 hz
 refine a0b.2 ⟨aB3 hr hl hg,h2,h3,fun w hw=>?_⟩
 rcases List.mem_append.1 hw with h|h
 ·exact h4 w h
 ·have h:=List.mem_singleton.1 h
  subst h
  have e1:((0:Int):Rat)=0:=rfl
  simp only
  rw [h0,e1]
  exact ⟨fun _=>Rat.le_refl,fun _=>Rat.le_refl⟩
theorem b29 {s:f8} {Y:List Rat} (hl:Y.length<=1000000) (hy:∀v ∈ Y,rl v<=40000) (h:Y.length=s.rows.length->at5 s Y):aM5 s (Y.map fz):=
 ⟨ar0 hl (fun v hv=>by have:=hy v hv;omega),fun h1 _=>by rw [a3i];exact h (by simpa using h1)⟩
theorem aX3 {f:Nat->Rat} {B N:Nat} (h:∀i,rl (f i)<=B) (h0:∀i,N<=i->f i=0):∀k,rl (g4 f k)<=N*(B+1)+1:=by
 intro k
 by_cases hk:k<=N
 ·have h1:=a8u (f:=f) (B:=B) k fun j _=>h j
  have h2:=Nat.mul_le_mul_right (B+1) hk
  omega
 ·obtain ⟨d,rfl⟩:∃d,k=N+d:=⟨k - N,by omega⟩
  have e:g4 f (N+d)=g4 f N:=by
   clear hk
   induction d with
   |zero=>rfl
   |succ d ih=>show g4 f (N+d)+f (N+d)=_;rw [h0 _ (by omega),ih];grind
  rw [e]
  exact a8u (f:=f) (B:=B) N fun j _=>h j
theorem aJ6 {s:f8} {Y:List Rat} {B C N:Nat} (hl:Y.length=s.rows.length) (hN:Y.length<=N) (hB:1<=B) (hy:∀v ∈ Y,rl v<=B) (hc:∀w ∈ s.rows,(∀ t ∈ w.terms,rl t.2<=C)∧rl w.value<=C) (hC:1<=C) (hn:N*(B+C+1)+1<=40000) (hm:N<=1000000):at5 s Y:=by
 have hyi:∀i,rl (yN Y i)<=B:=fun i=>by
  unfold yN
  by_cases h:i<Y.length
  ·rw [lg3,lg0 h];exact hy _ (List.getElem_mem _)
  ·rw [lg3,List.getElem?_eq_none (by omega)];have:=rl0;show rl 0<=B;omega
 have hy0:∀i,N<=i->yN Y i=0:=fun i hi=>by unfold yN;rw [lg3,List.getElem?_eq_none (by omega)];rfl
 have hrow:∀i,(∀ t ∈ (v7 s i).terms,rl t.2<=C)∧rl (v7 s i).value<=C:=fun i=>by
  by_cases h:i<s.rows.length
  ·rw [H8 (lg0 h)];exact hc _ (List.getElem_mem _)
  ·have e:v7 s i=⟨[],2,0⟩:=by unfold v7;rw [lg3,List.getElem?_eq_none (by omega)];rfl
   rw [e]
   exact ⟨fun (t:Int × Rat) (ht:t ∈ [])=>by simp at ht,by have:=rl0;show rl 0<=C;omega⟩
 have hcof:∀i l,rl (v8 (v7 s i).terms l)<=C:=fun i l=>by
  have key:∀k,rl (I9 (v7 s i).terms k l)<=C:=by
   intro k
   induction k with
   |zero=>have:=rl0;show rl 0<=C;omega
   |succ k ih=>
    cases hk:(v7 s i).terms[k]? with
    |none=>rw [I9,hk];exact ih
    |some t=>
     rw [G5 hk]
     simp only
     split
     ·exact (hrow i).1 t (lg2 hk)
     ·exact ih
  exact key _
 refine ⟨fun v hv=>by
  have h1:=hy v hv
  by_cases h2:N=0
  ·have:Y=[]:=List.length_eq_zero_iff.1 (by omega)
   subst this;cases hv
  ·have:1*(B+C+1)<=N*(B+C+1):=Nat.mul_le_mul_right _ (by omega)
   omega,fun l k=>?_,fun k=>?_,hl,by omega⟩
 ·have:=aX3 (f:=fun i=>yN Y i*v8 (v7 s i).terms l) (B:=B+C) (N:=N) (fun i=>by have:=a29 (yN Y i) (v8 (v7 s i).terms l);have:=hyi i;have:=hcof i l;omega) (fun i hi=>by rw [hy0 i hi];grind) k
  have e:rl (N2 s (yN Y) l k)<=N*(B+C+1)+1:=this
  omega
 ·have:=aX3 (f:=fun i=>yN Y i*(v7 s i).value) (B:=B+C) (N:=N) (fun i=>by have:=a29 (yN Y i) (v7 s i).value;have:=hyi i;have:=(hrow i).2;omega) (fun i hi=>by rw [hy0 i hi];grind) k
  have e:rl (W0 s (yN Y) k)<=N*(B+C+1)+1:=this
  omega
theorem aX2 {x:List Fr} {d:Int} {n:Nat} (h:x.length<=n∧∀f ∈ x,(f.p.dl.length:Int)<=d∧(f.q.dl.length:Int)<=d) (hn:n<=1000000) (hd:d<=200000):aJ3 x:=⟨by omega,fun f hf=>by have:=h.2 f hf;omega⟩
theorem b2b {X:List Rat} {d:Nat} (h:∀f ∈ X.map fz,(f.p.dl.length:Int)<=d∧(f.q.dl.length:Int)<=d):∀v ∈ X,rl v<=d:=fun v hv=>by
 have:=h (fz v) (List.mem_map.2 ⟨v,hv,rfl⟩)
 have h1:(bl v.num:Int)<=d:=this.1
 have h2:(bl v.den:Int)<=d:=this.2
 show max (bl v.num) (bl v.den)<=d
 omega
theorem b70 {x:Rat}:decide (x=0)=decide (sgR x=0):=by
 rw [decide_eq_decide]
 have p1:=a2U (x:=x)
 have p2:=au9 (x:=x)
 constructor
 ·intro h;subst h;have q1:¬(0:Rat)<0:=by decide
  have:=mt p1.1 q1;have:=mt p2.1 q1;omega
 ·intro h
  have q1:¬0<x:=fun h'=>by have:=p1.2 h';omega
  have q2:¬x<0:=fun h'=>by have:=p2.2 h';omega
  grind
structure ax9 (s:f8) (Y:List Rat):Prop where
 y:∀v ∈ Y,rl v<=40000
 l:Y.length<=1000000
 m:Y.length=s.rows.length->at5 s Y
theorem ax9.f {s:f8} {Y:List Rat} (h:ax9 s Y):aM5 s (Y.map fz):=b29 h.l h.y h.m
theorem b4V {s:f8} {g:List (Int × Rat)} {Y:List Rat}:a1M s g (Y.map fz)=(decide (Y.length=s.rows.length) && (a0F s g Y && decide (a0U s (yN Y)=0))):=by
 unfold a1M
 rw [a3i,a10,List.length_map,Bool.and_true]
theorem af9 {s:f8} {Y:List Rat} {g:List (Int × Rat)} (h:a0F s g Y=true):Y.length=s.rows.length:=by
 unfold a0F Z3 at h
 simp only [Bool.and_eq_true,decide_eq_true_eq] at h
 omega
theorem a9Q {s:f8} {g:List (Int × Rat)} {Y:List Rat}:a1M s g (Y.map fz)=(a0F s g Y && decide (a0U s (yN Y)=0)):=by
 rw [b4V]
 cases h:a0F s g Y with
 |false=>simp
 |true=>rw [decide_eq_true (af9 h)];rfl
theorem aG2 (s:f8) (h:U7 s) (v:Nat) (Y:List Rat) (hy:ax9 s Y):
 a9 Tryz.prog 145 [Q3 s,a7 .i64 v,i8 (Y.map fz)] [] (d6 (a1M s (a0R v) (Y.map fz))) []:=by
 have h9:=h.n
 have on:=b3K v (-1) (by decide) (by decide)
 have lo:=b5b s (a38 h) h.r (a0R v) (by simp [a0R]) (fun t ht=>by simp [a0R] at ht;subst ht;have h1:=b6D;show rl ((-1:Int):Rat)<=200;omega) Y hy.y hy.l hy.m
 rw [a9Q]
 unfold a3K at lo
 cases hb:a0F s (a0R v) Y with
 |false=>
  rw [hb,if_neg (by decide)] at lo
  rw [Bool.false_and]
  (refine ac Tryz.func145 ?_;(conv=>whnf);repeat ((first|refine b0x ?_|refine zy ?_);conv=>whnf))
  repeat' (first|refine zz ?_|refine qp on ?_|refine qp lo ?_|refine qp 7 ?_|refine bl0 [7] ?_|refine zd ?_ ?_<;>intro h<;>try omega|refine zy ?_|fail)<;>conv=>whnf
  all_goals first
   |omega
   |exact b7 rfl
 |true=>
  rw [hb,if_pos rfl] at lo
  rw [Bool.true_and]
  have hx:=(hy.m (af9 hb)).v s.rows.length
  have hx2:rl (a0U s (yN Y))<=50000:=hx
  generalize a0U s (yN Y)=x at lo hx2
  have sg:=a5t x (by omega)
  rw [b70]
  generalize sgR x=U at sg
  (refine ac Tryz.func145 ?_;(conv=>whnf);repeat ((first|refine b0x ?_|refine zy ?_);conv=>whnf))
  repeat' (first|refine zz ?_|refine qp on ?_|refine qp lo ?_|refine qp sg ?_|refine qp 7 ?_|refine bl0 [7] ?_|refine zd ?_ ?_<;>intro h<;>try omega|refine zy ?_|fail)<;>conv=>whnf
  all_goals first
   |omega
   |(refine b7 ?_;symm;simp;omega)
set_option maxHeartbeats 4000000 in
theorem b3X (t:f5) (hs:t.Sized) (h:QT t) (find:Int) (f:I8) (f0:0<=find) (hf:t.finds[find.toNat]? =some f) (g:Nat) (hg:g<t.ev.moves.length) (i:Nat) (hi:i ∈ f9 t.ev) (Z:List Rat) (hp:PtB (j5 t f.kind i) Z)
 (hH:j0 (j5 t f.kind i) Z=true) (pa:0<Z.getD g 0) (pb:0<Z.getD f.mv.toNat 0):
 a9 Tryz.prog 75 [trS t,a7 .i64 find,a7 .i64 g,a7 .i64 i,i8 (Z.map fz)] [] (d6 true) []:=by
 have hfit:=a21 h f0 hf
 have hm:=h.m
 obtain ⟨q1,q2,q3,q4,q5⟩:=p6 h.h
 have hfg:=B9 q4 f (lg2 hf)
 have ha:Q5 t find i=true:=by unfold Q5;rw [hfit,decide_eq_true (by exact ⟨by omega,by rw [Int.toNat_natCast];exact hi⟩)];rfl
 have al:=aw6 t hs find f hf i ha (by omega)
 have ss:=G2 (kind:=f.kind) i h
 have ho:=b4W (j5 t f.kind i) (a38 ss) ss.r Z hp
 rw [hH] at ho
 have eN:(j5 t f.kind i).n=((t.ev.moves.length:Nat):Int):=rfl
 have zl:(Z.length:Int)=t.ev.moves.length:=by have:=(N3 hH).2;exact this
 obtain ⟨a,ha⟩:∃a,Z[g]? =some a:=⟨_,lg0 (by omega)⟩
 obtain ⟨b,hb⟩:∃b,Z[f.mv.toNat]? =some b:=⟨_,lg0 (by omega)⟩
 have ga:(Z.map fz)[g]? =some (fz a):=by rw [List.getElem?_map,ha];rfl
 have gb:(Z.map fz)[f.mv.toNat]? =some (fz b):=by rw [List.getElem?_map,hb];rfl
 have sa:=a5t a (by have:=hp.v a (lg2 ha);omega)
 have sb:=a5t b (by have:=hp.v b (lg2 hb);omega)
 have ea:Z.getD g 0=a:=by rw [lg3,ha];rfl
 have eb:Z.getD f.mv.toNat 0=b:=by rw [lg3,hb];rfl
 rw [ea] at pa
 rw [eb] at pb
 have ua:=a2U.2 pa
 have ub:=a2U.2 pb
 generalize sgR a=U at sa ua
 generalize sgR b=V at sb ub
 have hg1:=hfg.1
 (refine ac Tryz.func75 ?_;(conv=>whnf);repeat ((first|refine b0x ?_|refine zy ?_);conv=>whnf))
 repeat' (first|refine zz ?_|refine qp al ?_|refine qp ho ?_|refine qp sa ?_|refine qp sb ?_|refine qp 7 ?_|refine b9 ga ?_|refine p9 f0 hf ?_|refine p9 hg1 gb ?_|refine bl0 [7] ?_|refine zd ?_ ?_<;>intro h<;>try omega|refine zy ?_|fail)<;>conv=>whnf
 all_goals first
  |omega
  |exact b7 rfl
theorem a7M {e:Ev}:∀{k n:Nat},k<=n->∃l,o9 e n=o9 e k++l:=by
 intro k n h
 induction n with
 |zero=>have:k=0:=by omega
        subst this;exact ⟨[],by simp⟩
 |succ n ih=>
  by_cases hk:k=n+1
  ·subst hk;exact ⟨[],by simp⟩
  ·obtain ⟨l,hl⟩:=ih (by omega)
   conv=>enter [1,l,1];unfold o9
   split
   ·split
    ·exact ⟨l++[n],by rw [hl,List.append_assoc]⟩
    ·exact ⟨l,hl⟩
   ·exact ⟨l,hl⟩
theorem az0 {e:Ev} {k:Nat} (h:k ∈ f9 e):(f9 e)[(o9 e k).length]? =some k:=by
 obtain ⟨m,hm,h0⟩:=V4.1 h
 have hk:=(lg1 hm).1
 obtain ⟨l,hl⟩:=a7M (e:=e) (show k+1<=e.moves.length by omega)
 have e1:o9 e (k+1)=o9 e k++[k]:=by conv=>lhs;unfold o9;rw [hm];simp only [if_pos h0]
 show (o9 e e.moves.length)[_]? =_
 rw [hl,e1,List.append_assoc,List.getElem?_append_right (Nat.le_refl _)]
 simp
theorem ar6 {e:Ev} {k:Nat} (hk:k<e.moves.length):(o9 e (k+1)).length=(o9 e k).length+if k ∈ f9 e then 1 else 0:=by
 obtain ⟨m,hm⟩:∃m,e.moves[k]? =some m:=⟨_,lg0 hk⟩
 have h1:k ∈ f9 e↔u4 e m.src=0:=by
  rw [V4]
  exact ⟨fun ⟨x,hx,h⟩=>by rw [hm] at hx;injection hx with hx;rw [hx];exact h,fun h=>⟨m,hm,h⟩⟩
 conv=>lhs;unfold o9
 rw [hm]
 simp only
 by_cases h:u4 e m.src=0
 ·rw [if_pos h,if_pos (h1.2 h)];simp
 ·rw [if_neg h,if_neg (fun h'=>h (h1.1 h'))];simp
set_option maxHeartbeats 8000000 in
theorem b17 (t:f5) (hs:t.Sized) (hQ:QT t) (find:Int) (f:I8) (f0:0<=find) (hf:t.finds[find.toNat]? =some f) (g:Nat) (hg:g<t.ev.moves.length) (pf:List (List Rat))
 (hp:∀(k i:Nat) (y:List Rat),(f9 t.ev)[k]? =some i->pf[k]? =some y->ax9 (j5 t f.kind i) y) (hc:a3m t f.kind f.mv.toNat g (pf.map fun y=>y.map fz)=true):
 a9 Tryz.prog 76 [trS t,a7 .i64 find,a7 .i64 g,a1R (pf.map fun y=>y.map fz)] [] (d6 true) []:=by
 have fi:=b06 t hs find
 rw [a21 hQ f0 hf] at fi
 have hm:=hQ.m
 obtain ⟨q1,q2,q3,q4,q5⟩:=p6 hQ.h
 have hfg:=B9 q4 f (lg2 hf)
 obtain ⟨mv,hmv⟩:∃mv:Nat,f.mv=mv:=⟨f.mv.toNat,by omega⟩
 have hmv2:f.mv.toNat=mv:=by omega
 rw [hmv2] at hc
 unfold a3m at hc
 rw [Bool.and_eq_true,decide_eq_true_eq,List.length_map,List.all_eq_true] at hc
 obtain ⟨hl,hc⟩:=hc
 obtain ⟨P,hP⟩:∃P,P=pf.map fun y=>y.map fz:=⟨_,rfl⟩
 rw [← hP] at hc ⊢
 have m1:(t.ev.moves.map x8.row).length=t.ev.moves.length:=by simp
 have m2:(P.map S8).length=pf.length:=by rw [hP];simp
 have ll:(f9 t.ev).length<=t.ev.moves.length:=w8 _
 (refine ac Tryz.func76 ?_;(conv=>whnf);repeat ((first|refine b0x ?_|refine zy ?_);conv=>whnf))
 repeat' (first|refine zz ?_|refine qp fi ?_|refine zd ?_ ?_<;>intro h<;>try omega|refine zy ?_|fail)<;>conv=>whnf
 all_goals try omega
 refine d7 c8 (fun k=>([J,a7 .i64 find,a7 .i64 g,a1R P,S.c (C.t (T.ptr (trT t))),J,J,J,J,a7 .i64 (o9 t.ev k).length,a7 .i64 k,J,J,J,J,J,J,J,J,J,J,J,J,J,J,J,J,J,J,J,J,J,J,J,J,J,J,J,J,J,J,J,J,J,J,J,J,J,J,J,J,J,J,J,J,J,J,J,J,J,J,J,J,J,J,J,J,J,J,J,J,J,J,J,J,J,J,J,J,J,J,J],[])) t.ev.moves.length (fun _=>True) [] trivial
  ⟨rfl,rfl,trivial,⟨rfl,rfl,rfl,rfl,rfl,rfl,trivial⟩⟩ ?_
 intro k hk _
 obtain ⟨lp,hlp⟩:=a7M (e:=t.ev) hk
 have lle:(o9 t.ev k).length<=(f9 t.ev).length:=by show _<=(o9 t.ev t.ev.moves.length).length;rw [hlp];simp
 by_cases hlt:k<t.ev.moves.length
 ·have lf:=av6 t.ev q1 k hlt
  have nx:=ar6 hlt
  by_cases hkl:k ∈ f9 t.ev
  ·have e1:a6l t.ev k=true:=decide_eq_true hkl
   rw [e1] at lf
   rw [if_pos hkl] at nx
   have gi:=az0 hkl
   have gl:=(lg1 gi).1
   obtain ⟨Y,hY⟩:∃Y,pf[(o9 t.ev k).length]? =some Y:=⟨_,lg0 (by omega)⟩
   have hy:P[(o9 t.ev k).length]? =some (Y.map fz):=by rw [hP,List.getElem?_map,hY];rfl
   have hcl:=hc _ (List.mem_range.2 gl)
   have hid:(f9 t.ev).getD (o9 t.ev k).length 0=k:=by rw [lg3,gi];rfl
   have hyd:P.getD (o9 t.ev k).length []=Y.map fz:=by rw [lg3,hy];rfl
   rw [hid,hyd] at hcl
   have ha:Q5 t find k=true:=by unfold Q5;rw [a21 hQ f0 hf,decide_eq_true (by exact ⟨by omega,by rw [Int.toNat_natCast];exact hkl⟩)];rfl
   have al:=aw6 t hs find f hf k ha (by omega)
   have ss:=G2 (kind:=f.kind) k hQ
   have my:=hp _ k Y gi hY
   have n1:=aG2 (j5 t f.kind k) ss mv Y my
   have n2:=aG2 (j5 t f.kind k) ss g Y my
   rw [← hmv] at n1
   unfold av2 at hcl
   rw [nx]
   generalize o9 t.ev k=L at *
   cases h1:a1M (j5 t f.kind k) (a0R mv) (Y.map fz) with
   |true=>
    rw [h1] at n1
    conv=>whnf
    repeat' (first|refine zz ?_|refine qp lf ?_|refine qp al ?_|refine qp n1 ?_|refine qp n2 ?_|refine qp 7 ?_|refine p9 f0 hf ?_|refine b9 hy ?_|refine bl0 [7] ?_|refine zd ?_ ?_<;>intro h<;>try omega|refine zy ?_|fail)<;>conv=>whnf
    all_goals first
     |omega
     |exact ⟨hlt,trivial,[],rfl,rfl,trivial,⟨rfl,rfl,rfl,rfl,c6 (by omega),c6 (by omega),trivial⟩⟩
   |false=>
    rw [h1,Bool.false_or] at hcl
    rw [h1] at n1
    rw [hcl] at n2
    conv=>whnf
    repeat' (first|refine zz ?_|refine qp lf ?_|refine qp al ?_|refine qp n1 ?_|refine qp n2 ?_|refine qp 7 ?_|refine p9 f0 hf ?_|refine b9 hy ?_|refine bl0 [7] ?_|refine zd ?_ ?_<;>intro h<;>try omega|refine zy ?_|fail)<;>conv=>whnf
    all_goals first
     |omega
     |exact ⟨hlt,trivial,[],rfl,rfl,trivial,⟨rfl,rfl,rfl,rfl,c6 (by omega),c6 (by omega),trivial⟩⟩
  ·have e1:a6l t.ev k=false:=decide_eq_false hkl
   rw [e1] at lf
   rw [if_neg hkl,Nat.add_zero] at nx
   rw [nx]
   generalize o9 t.ev k=L at *
   conv=>whnf
   repeat' (first|refine zz ?_|refine qp lf ?_|refine zd ?_ ?_<;>intro h<;>try omega|refine zy ?_|fail)<;>conv=>whnf
   all_goals first
    |omega
    |exact ⟨hlt,trivial,[],rfl,rfl,trivial,⟨rfl,rfl,rfl,rfl,rfl,c6 (by omega),trivial⟩⟩
 ·have hke:k=t.ev.moves.length:=by omega
  subst hke
  have e1:(o9 t.ev t.ev.moves.length).length=pf.length:=hl.symm
  rw [e1]
  conv=>whnf
  repeat' (first|refine zz ?_|refine zd ?_ ?_<;>intro h<;>try omega|refine zy ?_|fail)<;>conv=>whnf
  all_goals first
   |omega
   |exact b7 rfl
def a1U (l:List (List Fr)):Bool:=(l.take 11).all (fun z=>a1q z 40 3) && decide (l.length<=10)
theorem ad6 (l:List (List Fr)):a9 Tryz.prog 52 [a1R l] [] (d6 (a1U l)) []:=by
 have m1:(l.map S8).length=l.length:=by simp
 (refine ac Tryz.func52 ?_;(conv=>whnf);repeat ((first|refine b0x ?_|refine zy ?_);conv=>whnf))
 repeat' (first|refine zz ?_|refine zd ?_ ?_<;>intro h<;>try omega|refine zy ?_|fail)<;>conv=>whnf
 refine d7 c8 (fun k=>([a1R l,J,J,a7 .i64 k,J,J,J,J,J,J,J,J,J,J,J,J,J,J,J,J,J,J,J],[])) 11 (fun k=>k<=l.length∧(l.take k).all (fun z=>a1q z 40 3)=true) [] ⟨Nat.zero_le _,rfl⟩
  ⟨rfl,rfl,trivial,⟨rfl,rfl,trivial⟩⟩ ?_
 rintro k hk ⟨hle,hI⟩
 by_cases hlt:k<l.length∧k<11
 ·obtain ⟨z,hz⟩:∃z,l[k]? =some z:=⟨_,lg0 hlt.1⟩
  have hz2:(l.take 11)[k]? =some z:=by rw [List.getElem?_take,if_pos hlt.2];exact hz
  have r:=a9j z 40 3 (by decide)
  cases hff:a1q z 40 3 with
  |true=>
   rw [hff] at r
   conv=>whnf
   repeat' (first|refine zz ?_|refine qp r ?_|refine b9 hz ?_|refine zd ?_ ?_<;>intro h<;>try omega|refine zy ?_|fail)<;>conv=>whnf
   all_goals first
    |omega
    |exact ⟨hlt.2,⟨by omega,by rw [n6 hz,hI,hff];rfl⟩,[],rfl,rfl,trivial,⟨rfl,rfl,trivial⟩⟩
  |false=>
   rw [hff] at r
   have e1:a1U l=false:=by unfold a1U;rw [t7 hz2 hff];rfl
   rw [e1]
   conv=>whnf
   repeat' (first|refine zz ?_|refine qp r ?_|refine b9 hz ?_|refine zd ?_ ?_<;>intro h<;>try omega|refine zy ?_|fail)<;>conv=>whnf
   all_goals first
    |omega
    |exact b7 rfl
 ·have hk2:l.length=k∨k=11:=by omega
  have hall:(l.take 11).all (fun z=>a1q z 40 3)=true:=by
   rcases hk2 with h|h
   ·have e:l.take 11=l.take k:=by rw [lg4 (by omega),lg4 (by omega)]
    rw [e];exact hI
   ·rw [← h];exact hI
  conv=>whnf
  repeat' (first|refine zz ?_|refine zd ?_ ?_<;>intro h<;>try omega|refine zy ?_|fail)<;>conv=>whnf
  all_goals first
   |omega
   |(refine b7 ?_;unfold a1U;rw [hall];simp;omega)
theorem ap2 (v:Nat):P6 (z9 v)=a0R v:=by
 unfold P6 Y2 z9 a0R
 have:((1:Int):Rat)*((-1:Int):Rat)=((-1:Int):Rat):=by decide +kernel
 simp only [List.map_cons,List.map_nil,this]
theorem ag4 {s:f8} {g:List (Int × Rat)} {Y:List Rat} (hr:g6 s=true) (hg:e8 (-1) ((s.n.toNat:Nat):Int) g=true) (h:a0F s (P6 g) Y=true) (h0:a0U s (yN Y)=0) {z:List Rat} (hz:j0 s z=true):j9 g z<=0:=by
 have hb:=b1d (g:=P6 g) (b60 hr h) hz
 have e:g4 (fun l=>v8 (P6 g) l*z.getD l 0) s.n.toNat=j9 (P6 g) z:=(M6 (W4 hg) z).symm
 rw [e,a2K (s:=s) (g:=g),h0] at hb
 grind
theorem ah7 {s:f8} {g:List (Int × Rat)} (h:am9 s g) (hp:a1k g (Q9 s g)=false):a0F s (P6 g) (X0 s g)=true∧a0U s (yN (X0 s g))=0:=by
 unfold a1k at hp
 have hp:=of_decide_eq_false hp
 rcases at3 (g:=P6 g) h.r h.z with ho|⟨c,ho⟩
 ·unfold Q9 at hp
  unfold X0
  rw [ho] at hp ⊢
  simp only at hp ⊢
  obtain ⟨p1,p2⟩:=a2G h.r h.og ho
  obtain ⟨b1,b2⟩:=b5q (Y:=zOf s.rows.length (P5 s (y3 s (P6 g)))) h.r h.og (b2L h.r h.og ho) R3 (fun i hi=>b2v hi)
  refine ⟨b1,?_⟩
  rw [b2,a2K (s:=s) (g:=g)]
  have:=h.p _ p1
  grind
 ·exfalso
  obtain ⟨r1,r2⟩:=ap8 h.r h.og ho
  unfold Q9 at hp
  rw [ho] at hp
  simp only at hp
  have h0:=(a2G h.r rfl h.z).1
  have h3:=N3 h0
  have hn:=V7 h.r
  rw [a2B (n:=s.n.toNat) (by omega) r1.len h.t] at hp
  rw [a2K (s:=s) (g:=g)] at r2
  have:=h.p _ h0
  grind
theorem b3G {s:f8} {g:List (Int × Rat)} {y:List Fr} (h:a1M s g y=true):a0F s g (y.map fv)=true∧a0U s (yN (y.map fv))=0:=by
 unfold a1M at h
 simp only [Bool.and_eq_true,decide_eq_true_eq] at h
 exact h.2
theorem a7N {t:f5} {kind:Int} {i v:Nat} {y:List Fr} (h:QT t) (k0:0<=kind) (k1:kind<8) (hv:v<t.ev.moves.length) (hy:a1M (j5 t kind i) (a0R v) y=true) {z:List Rat} (hz:aa5 t kind i z):z.getD v 0<=0:=by
 obtain ⟨h1,h2⟩:=b3G hy
 rw [← ap2] at h1
 have ss:=G2 (kind:=kind) i h
 have nn:((j5 t kind i).n.toNat:Nat)=t.ev.moves.length:=by show ((t.ev.moves.length:Nat):Int).toNat=_;omega
 have:=ag4 ss.r (g:=z9 v) (by rw [nn];exact a4f hv) h1 h2 ((M3 h k0 k1).2 hz)
 rwa [a2A] at this
theorem a46 {t:f5} {kind:Int} {i v:Nat} (h:QT t) (k0:0<=kind) (k1:kind<8) (hv:v<t.ev.moves.length):(isA t kind i).getD v false=true↔∃z,aa5 t kind i z∧0<z.getD v 0:=by
 rw [b5l h (by omega) k0 k1 (by omega)]
 unfold aO2
 simp only [if_pos hv]
theorem aB5 {t:f5} {kind:Int} {mv g:Nat} {pf:List (List Fr)} (h:QT t) (k0:0<=kind) (k1:kind<8) (hmv:mv<t.ev.moves.length) (hg:g<t.ev.moves.length) (hc:a3m t kind mv g pf=true):B8 t kind mv g=false:=by
 unfold a3m at hc
 rw [Bool.and_eq_true,List.all_eq_true] at hc
 unfold B8
 rw [List.any_eq_false]
 intro i hi hr
 obtain ⟨h1,h2⟩:=List.mem_filter.1 hi
 obtain ⟨k,hk,he⟩:=List.getElem_of_mem h1
 have hcl:=hc.2 k (List.mem_range.2 hk)
 have hid:(f9 t.ev).getD k 0=i:=by rw [lg3,lg0 hk];exact he
 rw [hid] at hcl
 unfold av2 at hcl
 rw [Bool.or_eq_true] at hcl
 rcases hcl with hcl|hcl
 ·obtain ⟨z,hz,hp⟩:=(a46 h k0 k1 hmv).1 h2
  have:=a7N h k0 k1 hmv hcl hz
  grind
 ·obtain ⟨z,hz,hp⟩:=(a46 h k0 k1 hg).1 hr
  have:=a7N h k0 k1 hg hcl hz
  grind
theorem b0B {t:f5} {kind:Int} {g:Nat} {l:List Nat}:a2b t kind g l=none↔∀i ∈ l,(isA t kind i).getD g false=false:=by
 unfold a2b
 rw [List.find?_eq_none]
 exact ⟨fun h i hi=>by simpa using h i hi,fun h i hi=>by simpa using h i hi⟩
theorem b1l {t:f5} {kind:Int} {g i:Nat} {l:List Nat} (h:a2b t kind g l=some i):i ∈ l∧(isA t kind i).getD g false=true:=by
 unfold a2b at h
 exact ⟨List.mem_of_find?_eq_some h,by simpa using List.find?_some h⟩
theorem a5m {t:f5} {kind:Int} {mv g:Nat}:a2b t kind g (N8 t kind mv)=none↔B8 t kind mv g=false:=by
 rw [b0B]
 unfold B8
 rw [List.any_eq_false]
 exact ⟨fun h i hi=>by rw [h i hi];decide,fun h i hi=>by simpa using h i hi⟩
theorem a7d {t:f5} {kind:Int} {i v:Nat} (h:QT t) (k0:0<=kind) (k1:kind<8) (hv:v<t.ev.moves.length):am9 (j5 t kind i) (z9 v):=by
 have hG:=G3 (kind:=kind) i h (by omega) k0 k1
 have hm:z9 v ∈ I5 t.ev:=by
  unfold I5 F8
  exact List.mem_append_left _ (List.mem_map.2 ⟨v,List.mem_range.2 hv,rfl⟩)
 exact ⟨hG.p.r,hG.p.z,hG.p.g _ hm,hG.p.p _ hm⟩
theorem ab8 {t:f5} {kind:Int} {i v:Nat} (h:QT t) (k0:0<=kind) (k1:kind<8) (hv:v<t.ev.moves.length):a1k (z9 v) (Q9 (j5 t kind i) (z9 v))=(isA t kind i).getD v false:=by
 have hG:=a7d (i:=i) h k0 k1 hv
 obtain ⟨m1,m2⟩:=a9v hG
 rw [Bool.eq_iff_iff,a46 h k0 k1 hv]
 unfold a1k
 rw [decide_eq_true_eq]
 constructor
 ·intro hp;exact ⟨_,(M3 h k0 k1).1 m1,by rw [← a2A];exact hp⟩
 ·rintro ⟨z,hz,hp⟩;exact m2 ⟨z,(M3 h k0 k1).2 hz,by rw [a2A];exact hp⟩
theorem a9F {t:f5} {kind:Int} {mv g:Nat} (h:QT t) (k0:0<=kind) (k1:kind<8) (hmv:mv<t.ev.moves.length) (hg:g<t.ev.moves.length) (hw:B8 t kind mv g=false):a3m t kind mv g (a0s t kind mv g (f9 t.ev))=true:=by
 unfold a3m
 rw [a9h,decide_eq_true rfl,Bool.true_and,List.all_eq_true]
 intro k hk
 have hk:=List.mem_range.1 hk
 obtain ⟨i,hi⟩:∃i,(f9 t.ev)[k]? =some i:=⟨_,lg0 hk⟩
 have hid:(f9 t.ev).getD k 0=i:=by rw [lg3,hi];rfl
 have hyd:(a0s t kind mv g (f9 t.ev)).getD k []=(a9L t kind mv g i).map fz:=by rw [lg3];unfold a0s;rw [List.getElem?_map,hi];rfl
 rw [hid,hyd]
 unfold av2 a9L
 rw [ab8 h k0 k1 hmv,a9Q,a9Q,←ap2,←ap2]
 cases hb:(isA t kind i).getD mv false with
 |true=>
  have hi2:i ∈ N8 t kind mv:=List.mem_filter.2 ⟨lg2 hi,hb⟩
  unfold B8 at hw
  have hr:(isA t kind i).getD g false=false:=by simpa using List.any_eq_false.1 hw i hi2
  obtain ⟨a,b⟩:=ah7 (a7d (i:=i) h k0 k1 hg) (by rw [ab8 h k0 k1 hg];exact hr)
  rw [if_pos rfl,a,b]
  simp
 |false=>
  obtain ⟨a,b⟩:=ah7 (a7d (i:=i) h k0 k1 hmv) (by rw [ab8 h k0 k1 hmv];exact hb)
  rw [if_neg (by decide),a,b]
  rfl
theorem aQ1 {s:f8} (h:U7 s):∀w ∈ s.rows,ac3 11 w:=fun w hw=>by
 obtain ⟨a,b⟩:=h.i w hw
 exact ⟨a,by have:=a4h b;omega⟩
theorem b1A {s:f8} {g:List (Int × Rat)} (h:U7 s) (h8:s.n.toNat<=8) (hw:C0 g):ax9 s (X0 s g):=by
 have hl:=h.l
 unfold X0
 split
 ·have hr:∀w ∈ s.rows,(∀ t ∈ w.terms,rl t.2<=11)∧rl w.value<=11:=fun w hw=>⟨fun t ht=>by have:=L7 (h.i w hw).1 t ht;omega,by have:=a4h (h.i w hw).2;omega⟩
  exact ⟨fun v hv=>absurd hv (List.not_mem_nil),Nat.zero_le _,fun e=>aJ6 (B:=1) (C:=11) (N:=0) e (Nat.le_refl _) (by decide) (fun v hv=>absurd hv (List.not_mem_nil)) hr (by decide) (by decide) (by decide)⟩
 ·exact ⟨b2n (aQ1 h) (a02 hw) h8,by rw [R3];omega,fun _=>b1C (aQ1 h) (a02 hw) h8 (by omega)⟩
theorem aA8 {t:f5} {kind:Int} {i:Nat} (j:Nat) (h:QT t):ax9 (j5 t kind i) (X0 (j5 t kind i) (z9 j)):=
 b1A (G2 i h) (by show ((t.ev.moves.length:Nat):Int).toNat<=8;have:=h.m;omega) (W2 _)
theorem al0 {t:f5} {kind:Int} {a b:Nat} (h:QT t) (k i:Nat) (y:List Rat) (hi:(f9 t.ev)[k]? =some i) (hy:((f9 t.ev).map fun i=>a9L t kind a b i)[k]? =some y):ax9 (j5 t kind i) y:=by
 rw [List.getElem?_map,hi] at hy
 injection hy with hy
 subst hy
 show ax9 _ (a9L t kind a b i)
 unfold a9L
 split
 ·exact aA8 b h
 ·exact aA8 a h
theorem aS7 {s:f8} {y:List Fr} (h:U7 s) (h3:a1q y 40 3=true):aM5 s y:=by
 have hf:=a7R h3
 refine ⟨aX2 hf (by decide) (by decide),fun hl hh=>?_⟩
 obtain ⟨Y,hY⟩:=a1L hh
 rw [hY] at hf hl ⊢
 have hX:=b2b (d:=3) hf.2
 rw [a3i]
 rw [List.length_map] at hl
 exact aJ6 (B:=3) (C:=11) (N:=40) hl (by have:=hf.1;rw [List.length_map] at this;omega) (by decide) hX (fun w hw=>⟨fun t ht=>by have:=L7 (h.i w hw).1 t ht;omega,by have:=a4h (h.i w hw).2;omega⟩) (by decide) (by decide) (by decide)
theorem an4 {s:f8} {x:List Rat} {B:Nat} (h:U7 s) (hB:B<=2000) (hl:x.length<=1000000) (hx:∀v ∈ x,rl v<=B):PtB s x:=by
 have h9:=h.n
 have:=Nat.mul_le_mul (show s.n.toNat<=9 by omega) (show B+4<=2004 by omega)
 exact b7H h.r (aQ1 h) (B:=B) (by omega) (by omega) hl hx
theorem b0U {s:f8} {z:List Fr} (h:U7 s) (h3:a1q z 10 3=true):PtR s z:=by
 have hf:=a7R h3
 refine ⟨aX2 hf (by decide) (by decide),fun hh=>?_⟩
 obtain ⟨X,rfl⟩:=a1L hh
 have hX:=b2b (d:=3) hf.2
 rw [a3i]
 exact an4 (B:=3) h (by decide) (by have:=hf.1;rw [List.length_map] at this;omega) hX
theorem b5E {t:f5} {kind:Int} {i:Nat} (h:QT t) (h0:0<t.ev.moves.length) (k0:0<=kind) (k1:kind<8):∀v ∈ a2O t kind i,rl v<=1100:=by
 have hG:=G3 (kind:=kind) i h h0 k0 k1
 intro v hv
 unfold a2O a9A at hv
 obtain ⟨u,hu,rfl⟩:=List.mem_map.1 hv
 have hk:a0u (j5 t kind i) (I5 t.ev)<=(I5 t.ev).length:=a4b (a4B _ _).2
 have hl:=hG.l
 have h1:=a8A hG _ u hu
 generalize a0u (j5 t kind i) (I5 t.ev)=K at *
 have h2:=Nat.mul_le_mul_right 32 (show K+1<=31 by omega)
 have h3:=a29 u (Rat.divInt 1 ((K+1:Nat):Int))
 have h4:=O5 (p:=1) (q:=((K+1:Nat):Int)) (by omega)
 have h5:=o7 (x:=1) (by decide) (by decide)
 have h6:=o7 (x:=((K+1:Nat):Int)) (by omega) (by omega)
 omega
theorem aD0 {t:f5} {kind:Int} {i:Nat} (h:QT t) (h0:0<t.ev.moves.length) (k0:0<=kind) (k1:kind<8):PtB (j5 t kind i) (a2O t kind i):=by
 have hA:=(a7c (i:=i) h h0 k0 k1).1
 have hl:=hA.p.len
 have hm:=h.m
 have e:(y0 t).ev.moves.length=t.ev.moves.length:=rfl
 exact an4 (B:=1100) (G2 i h) (by decide) (by omega) (b5E h h0 k0 k1)
def a8m (k:Nat):List H6:=[⟨0,0,0⟩,⟨0,1,0⟩]++([1,1,2,5].take k).map fun x=>⟨x,-1,-1⟩
def exQ (cl:List R9):f5:=⟨⟨1,2,0,a8m 4,[⟨0,0,2,-1,0,false⟩,⟨0,1,3,-1,0,false⟩,⟨0,2,4,-1,0,true⟩,⟨0,4,5,-1,0,false⟩,⟨0,3,4,-1,0,true⟩],[],[],[]⟩,[⟨3,0,1⟩,⟨4,0,1⟩],cl⟩
abbrev b7J (l:List H6):Blk:={ mode:=.live,elem:=77,size:=3,rows:=toC (l.map H6.row),box:=false }
abbrev b9v (id len:Nat):Blk:={ mode:=.live,elem:=28,size:=8,rows:=[[.t (ti 1),.t (ti 2),.t (ti 0),.own id 0 len true,.t (.sl 0 .nil []),.t (.sl 0 .nil []),.t (.sl 0 .nil []),.t (.sl 0 .nil [])]],box:=true }
abbrev b9o:Blk:={ mode:=.live,elem:=32,size:=10,rows:=[[.t (ti 0),.t (ti 0),.t (ti 0),.t (.sl 0 .nil []),.t (.sl 0 .nil []),.t (.sl 0 .nil []),.t (.sl 0 .nil []),.t (.sl 0 .nil []),.t (.sl 0 .nil []),.t (.sl 0 .nil [])]],box:=true }
theorem b2g {k:Nat} (h:k<=4):(a8m k).length=2+k:=by simp [a8m];omega
set_option maxHeartbeats 4000000 in
theorem a82 (cl:List R9):a9 Tryz.prog 74 [.c (.t (a1N cl))] [] (trS (exQ cl)) []:=by
 refine ac Tryz.func74 ?_
 conv=>whnf
 refine a3L.own ?_
 conv=>whnf
 repeat' (first|refine zz ?_|refine zd ?_ ?_<;>intro h<;>try omega|refine zy ?_|fail)<;>conv=>whnf
 refine d7 c8 (fun k=>([S.c (C.t (a1N cl)),J,S.c (C.ptr 0 0 0),a7 .i64 (-1),S.c (C.ptr 1 0 0),d9 [1,1,2,5],a7 .i64 k,J,J,J,J,J,J,J,J,J,J,J,J,J,J,J,J,J,J,J,J,J,J,J,J,J,J,J,J,J,J,J,J,J,J,J,J,J,J,J,J,J,J],[b9o,b9v 2 (a8m k).length,b7J (a8m k)])) 4 (fun _=>True) [some 0,some 1,some 2] trivial
  ⟨rfl,rfl,⟨c9 (c7 [[ti 0,ti 0,ti 0,.sl 0 .nil [],.sl 0 .nil [],.sl 0 .nil [],.sl 0 .nil [],.sl 0 .nil [],.sl 0 .nil [],.sl 0 .nil []]]),⟨rfl,rfl,rfl,.inr ⟨⟨rfl,rfl,rfl,⟨rfl,rfl,rfl,fun h=>h⟩,rfl,rfl,rfl,rfl,trivial⟩,trivial⟩⟩,a8 (rows:=(a8m 0).map H6.row) rfl rfl rfl rfl rfl,trivial⟩,⟨g7 rfl,⟨rfl,rfl,rfl⟩,rfl,⟨rfl,rfl,rfl⟩,rfl,rfl,trivial⟩⟩ ?_
 have m1:(([1,1,2,5]:List Int).map e7).length=4:=rfl
 intro k hk _
 by_cases hlt:k<4
 ·obtain ⟨x,hx,hb⟩:∃x:Int,([1,1,2,5]:List Int)[k]? =some x∧a8m (k+1)=a8m k++[⟨x,-1,-1⟩]:=by
   match k,hlt with
   |0,_=>exact ⟨1,rfl,rfl⟩
   |1,_=>exact ⟨1,rfl,rfl⟩
   |2,_=>exact ⟨2,rfl,rfl⟩
   |3,_=>exact ⟨5,rfl,rfl⟩
  have el:=b2g hk
  rw [hb]
  generalize a8m k=L at *
  have lA:L.length<=(b7J L).rows.length:=by show _<=(toC _).length;simp [toC]
  conv=>whnf
  repeat' (first|refine zz ?_|refine qp toC ?_|refine qp (0,1) ?_|refine b9 hx ?_|refine o6 lA (by simp [toC];omega) ?_|refine bl0 [0,1] ?_|refine zd ?_ ?_<;>intro h<;>try omega|refine zy ?_|fail)<;>conv=>whnf
  all_goals first
   |omega
   |(refine ⟨hlt,trivial,[some 0,some 1,some 3],rfl,rfl,⟨c9 (c7 [[ti 0,ti 0,ti 0,.sl 0 .nil [],.sl 0 .nil [],.sl 0 .nil [],.sl 0 .nil [],.sl 0 .nil [],.sl 0 .nil [],.sl 0 .nil []]]),⟨rfl,rfl,rfl,.inr ⟨⟨rfl,rfl,rfl,⟨rfl,rfl,?_,fun h=>h⟩,rfl,rfl,rfl,rfl,trivial⟩,trivial⟩⟩,a8 (rows:=(L++[(⟨x,-1,-1⟩:H6)]).map H6.row) rfl rfl rfl ?_ rfl,trivial⟩,⟨rfl,⟨rfl,rfl,rfl⟩,rfl,⟨rfl,rfl,rfl⟩,rfl,c6 (by omega),trivial⟩⟩
     ·simp [toC]
     ·exact A6 (f:=H6.row) (x:=(⟨x,-1,-1⟩:H6)) rfl)
 ·have hke:k=4:=by omega
  subst hke
  conv=>whnf
  repeat' (first|refine zz ?_|refine a3L.weak ?_|refine zd ?_ ?_<;>intro h<;>try omega|refine zy ?_|fail)<;>conv=>whnf
  all_goals first
   |omega
   |exact j2 ⟨rfl,rfl,rfl,(show VC _ (fun id=>F3 [] id=true) (C.own 2 0 _ true) _ from s8 (k:=b7J (a8m 4)) rfl rfl (fun h=>h) rfl rfl rfl),rfl,rfl,rfl,rfl,rfl,rfl,trivial⟩
def b6x (s:f8) (gL:List (List (Int × Rat))) (w:List Rat) (Ys:List (List Rat)) (out:List Bool):Bool:=
 decide (out.length=gL.length) && j0 s w && (List.range gL.length).all fun g=>if out.getD g false=true then decide (0<j9 (gL.getD g []) w) else a0F s (P6 (gL.getD g [])) (Ys.getD g []) && decide (a0U s (yN (Ys.getD g []))=0)
theorem a8I {s:f8} {gL:List (List (Int × Rat))} {w:List Rat} {Ys:List (List Rat)} {out:List Bool} (h:a17 s gL) (hc:b6x s gL w Ys out=true):isF s gL=out:=by
 unfold b6x at hc
 simp only [Bool.and_eq_true,decide_eq_true_eq,List.all_eq_true] at hc
 obtain ⟨⟨h1,h2⟩,h3⟩:=hc
 have hl:(isF s gL).length=gL.length:=O0 _ _ _
 refine a5c (by omega) fun i hi=>?_
 have hi2:i<gL.length:=by omega
 have h4:=h3 i (List.mem_range.2 hi2)
 have hiff:=b4p h hi2
 cases ho:out.getD i false with
 |true=>
  rw [ho,if_pos rfl,decide_eq_true_eq] at h4
  exact hiff.2 ⟨w,h2,h4⟩
 |false=>
  rw [ho,if_neg (by decide),Bool.and_eq_true,decide_eq_true_eq] at h4
  cases hb:(isF s gL).getD i false with
  |false=>rfl
  |true=>
   obtain ⟨z,hz,hp⟩:=hiff.1 hb
   have:=ag4 h.r (h.g _ (O6 hi2)) h4.1 h4.2 hz
   grind
def q0:List Rat:=[]
def qe (l:List Int):List Rat:=l.map fun x=>((x:Int):Rat)
theorem aR7:u0 (exQ [])=0:=by decide +kernel
theorem aM3:u0 (exQ [⟨2,0⟩])=0:=by decide +kernel
theorem a4e:QT (exQ []):=⟨aR7,by decide,by decide⟩
theorem b7G:QT (exQ [⟨2,0⟩]):=⟨aM3,by decide,by decide⟩
theorem J1 (cl:List R9) (h:cl.length<=1000000):(exQ cl).Sized:=⟨⟨by simp [exQ,a8m],by simp [exQ,a8m],by simp [exQ],by simp [exQ],by simp [exQ]⟩,by simp [exQ],by simpa [exQ] using h⟩
theorem b2T:isA (exQ []) 0 0=[true,false,true,true,false,false,false,false,false,true,true]:=
 a8I (G3 0 a4e (by decide) (by decide) (by decide)).p (w:=qe [2,0,2,1,0]) (Ys:=[[],qe [0,0,0,-1],[],[],qe [0,0,1,-1],qe [0,0,0,0],qe [0,0,0,0],qe [-1,0,0,0],qe [0,0,-1,0],[],[]]) (by decide +kernel)
theorem b8E:isA (exQ []) 0 1=[false,true,false,false,true,false,false,false,false,true,false]:=
 a8I (G3 1 a4e (by decide) (by decide) (by decide)).p (w:=qe [0,2,0,0,2]) (Ys:=[qe [0,0,0,-1],[],qe [1,0,0,-1],qe [1,1,0,-1],[],qe [0,0,0,0],qe [0,0,0,0],qe [-1,0,0,0],qe [0,0,-1,0],[],qe [1,1,0,-1]]) (by decide +kernel)
theorem b9p:isA (exQ [⟨2,0⟩]) 0 0=[false,false,false,false,false,false,false,false,false,false,false]:=
 a8I (G3 0 b7G (by decide) (by decide) (by decide)).p (w:=qe [0,0,0,0,0]) (Ys:=[qe [-1,-1,0,0,0],qe [0,0,0,0,-1],qe [0,-1,0,0,0],qe [0,-1,1,0,0],qe [0,0,0,1,-1],qe [0,0,0,0,0],qe [0,0,0,0,0],qe [-1,0,0,0,0],qe [0,0,0,-1,0],qe [0,-1,0,1,-1],qe [0,-1,1,0,0]]) (by decide +kernel)
theorem b9t:isA (exQ [⟨2,0⟩]) 0 1=[false,true,false,false,true,false,false,false,false,true,false]:=
 a8I (G3 1 b7G (by decide) (by decide) (by decide)).p (w:=qe [0,2,0,0,2]) (Ys:=[qe [0,0,0,0,-1],[],qe [0,-1,0,0,0],qe [0,-1,1,0,0],[],qe [0,0,0,0,0],qe [0,0,0,0,0],qe [-1,0,0,0,0],qe [0,0,0,-1,0],[],qe [0,-1,1,0,0]]) (by decide +kernel)
theorem b2f:f9 (exQ []).ev=[0,1]:=by decide +kernel
theorem b9A:f9 (exQ [⟨2,0⟩]).ev=[0,1]:=by decide +kernel
theorem b8L (mv:Nat):N8 (exQ []) 0 mv=[0,1].filter fun i=>((if i=0 then [true,false,true,true,false,false,false,false,false,true,true] else [false,true,false,false,true,false,false,false,false,true,false]):List Bool).getD mv false:=by
 unfold N8
 rw [b2f]
 refine List.filter_congr fun i hi=>?_
 have hi:i=0∨i=1:=by simpa using hi
 rcases hi with rfl|rfl
 ·rw [b2T];rfl
 ·rw [b8E];rfl
theorem b2R:N8 (exQ []) 0 3=[0]:=by rw [b8L];decide +kernel
theorem b6B:N8 (exQ []) 0 4=[1]:=by rw [b8L];decide +kernel
theorem b8s:N8 (exQ [⟨2,0⟩]) 0 3=[]:=by
 unfold N8
 rw [b9A]
 simp [b9p,b9t]
theorem a90 (g:Nat):B8 (exQ []) 0 3 g=([true,false,true,true,false,false,false,false,false,true,true]:List Bool).getD g false:=by
 unfold B8
 rw [b2R]
 show ((isA (exQ []) 0 0).getD g false || false)=_
 rw [b2T,Bool.or_false]
theorem b1S (g:Nat):B8 (exQ []) 0 4 g=([false,true,false,false,true,false,false,false,false,true,false]:List Bool).getD g false:=by
 unfold B8
 rw [b6B]
 show ((isA (exQ []) 0 1).getD g false || false)=_
 rw [b8E,Bool.or_false]
theorem b83:I7 (exQ []) 0 3=[0,2,3]∧N9 (exQ []) 0 3=[4,5]:=by
 unfold I7 N9 L4 I0 a1K
 have:(fun g=>B8 (exQ []) 0 3 g)=fun g=>([true,false,true,true,false,false,false,false,false,true,true]:List Bool).getD g false:=funext a90
 rw [this]
 decide +kernel
theorem b7x:I7 (exQ []) 0 4=[1,4]∧N9 (exQ []) 0 4=[4]:=by
 unfold I7 N9 L4 I0 a1K
 have:(fun g=>B8 (exQ []) 0 4 g)=fun g=>([false,true,false,false,true,false,false,false,false,true,false]:List Bool).getD g false:=funext b1S
 rw [this]
 decide +kernel
theorem b9w:a84 (exQ []) 0 3=[3]:=by
 unfold a84;rw [b83.1];decide +kernel
theorem b9h:a84 (exQ []) 0 4=[]:=by
 unfold a84;rw [b7x.1];decide +kernel
theorem exW:a2b (exQ []) 0 2 (N8 (exQ []) 0 3)=some 0:=by
 rw [b2R]
 unfold a2b
 have:(isA (exQ []) 0 0).getD 2 false=true:=by rw [b2T];rfl
 simp [List.find?_cons]
 rw [lg3] at this
 simp [this]
theorem exN:a2b (exQ []) 0 4 (N8 (exQ []) 0 3)=none:=by
 rw [a5m,a90];rfl
theorem a15 (a b:List Int) (ha:a.length<=1000000) (hb:b.length<=1000000):a9 Tryz.prog 38 [d9 a,d9 b] [] (d6 (decide (a=b))) []:=by
 have s:=aK6 a b ha hb
 (refine ac Tryz.func38 ?_;(conv=>whnf);repeat (refine zy ?_;conv=>whnf))
 repeat' (first|refine zz ?_|refine qp s ?_|refine zd ?_ ?_<;>intro h<;>try omega|refine zy ?_|fail)<;>conv=>whnf
 all_goals (refine b7 ?_;symm;assumption)
def f03:I8:=⟨3,0,1⟩
def f14:I8:=⟨4,0,1⟩
theorem b8v:a9 Tryz.prog 34 [trS (exQ []),a7 .i64 0] [] (.tup [d9 [0],a7 .i64 0]) []:=by
 have h:=a7k (exQ []) (J1 _ (by decide)) a4e 0 f03 (by decide) rfl
 rw [show N8 (exQ []) f03.kind f03.mv.toNat=[0] from b2R] at h
 exact h
theorem b8F:a9 Tryz.prog 34 [trS (exQ []),a7 .i64 1] [] (.tup [d9 [1],a7 .i64 0]) []:=by
 have h:=a7k (exQ []) (J1 _ (by decide)) a4e 1 f14 (by decide) rfl
 rw [show N8 (exQ []) f14.kind f14.mv.toNat=[1] from b6B] at h
 exact h
theorem b8D:a9 Tryz.prog 34 [trS (exQ []),a7 .i64 2] [] (.tup [.c (.t (.sl 0 .nil [])),a7 .i64 1]) []:=
 ae6 (exQ []) (J1 _ (by decide)) 2 (by unfold a0w;simp [exQ])
theorem b97:a9 Tryz.prog 34 [trS (exQ [⟨2,0⟩]),a7 .i64 0] [] (.tup [d9 [],a7 .i64 0]) []:=by
 have h:=a7k (exQ [⟨2,0⟩]) (J1 _ (by decide)) b7G 0 f03 (by decide) rfl
 rw [show N8 (exQ [⟨2,0⟩]) f03.kind f03.mv.toNat=[] from b8s] at h
 exact h
theorem b8B:a9 Tryz.prog 23 [trS (exQ []),a7 .i64 0] [] (.tup [d9 [0,2,3],d9 [4,5],a7 .i64 0]) []:=by
 have h:=a6a (exQ []) (J1 _ (by decide)) a4e 0 f03 (by decide) rfl
 rw [show I7 (exQ []) f03.kind f03.mv.toNat=[0,2,3] from b83.1,show N9 (exQ []) f03.kind f03.mv.toNat=[4,5] from b83.2] at h
 exact h
theorem b8A:a9 Tryz.prog 23 [trS (exQ []),a7 .i64 1] [] (.tup [d9 [1,4],d9 [4],a7 .i64 0]) []:=by
 have h:=a6a (exQ []) (J1 _ (by decide)) a4e 1 f14 (by decide) rfl
 rw [show I7 (exQ []) f14.kind f14.mv.toNat=[1,4] from b7x.1,show N9 (exQ []) f14.kind f14.mv.toNat=[4] from b7x.2] at h
 exact h
theorem b92:a9 Tryz.prog 39 [trS (exQ []),a7 .i64 0] [] (.tup [d9 [3],a7 .i64 0]) []:=by
 have h:=b1Q (exQ []) (J1 _ (by decide)) a4e 0 f03 (by decide) rfl
 rw [show a84 (exQ []) f03.kind f03.mv.toNat=[3] from b9w] at h
 exact h
theorem b8Q:a9 Tryz.prog 39 [trS (exQ []),a7 .i64 1] [] (.tup [d9 [],a7 .i64 0]) []:=by
 have h:=b1Q (exQ []) (J1 _ (by decide)) a4e 1 f14 (by decide) rfl
 rw [show a84 (exQ []) f14.kind f14.mv.toNat=[] from b9h] at h
 exact h
theorem b9x:a9 Tryz.prog 42 [trS (exQ []),a7 .i64 0,a7 .i64 2] [] (.tup [a7 .i64 0,i8 ((a2O (exQ []) 0 0).map fz),d6 true]) []:=by
 have h:=a55 (exQ []) (J1 _ (by decide)) a4e 0 f03 (by decide) rfl 2 (by decide)
 rw [show a2b (exQ []) f03.kind 2 (N8 (exQ []) f03.kind f03.mv.toNat)=some 0 from exW] at h
 exact h
theorem b94:a9 Tryz.prog 75 [trS (exQ []),a7 .i64 0,a7 .i64 2,a7 .i64 0,i8 ((a2O (exQ []) 0 0).map fz)] [] (d6 true) []:=by
 obtain ⟨w1,w2⟩:=a7c (kind:=0) (i:=0) a4e (by decide) (by decide) (by decide)
 have p2:=w2 2 (by decide) (by rw [b2T];rfl)
 have p3:=w2 3 (by decide) (by rw [b2T];rfl)
 unfold aO2 at p2 p3
 rw [if_pos (by decide)] at p2 p3
 exact b3X (exQ []) (J1 _ (by decide)) a4e 0 f03 (by decide) rfl 2 (by decide) 0 (by rw [b2f];decide) (a2O (exQ []) 0 0) (aD0 a4e (by decide) (by decide) (by decide)) ((M3 a4e (by decide) (by decide)).2 w1) p2 p3
theorem b9g:a9 Tryz.prog 54 [trS (exQ []),a7 .i64 0,a7 .i64 4] [] (.tup [a1R (a0s (exQ []) 0 3 4 [0,1]),d6 true]) []:=by
 have h:=aX9 (exQ []) (J1 _ (by decide)) a4e 0 f03 (by decide) rfl 4 (by decide) exN
 rw [b2f] at h
 exact h
theorem b9i:a9 Tryz.prog 76 [trS (exQ []),a7 .i64 0,a7 .i64 4,a1R (a0s (exQ []) 0 3 4 [0,1])] [] (d6 true) []:=by
 have hc:a3m (exQ []) 0 3 4 (a0s (exQ []) 0 3 4 [0,1])=true:=by
  have:=a9F (kind:=0) (mv:=3) (g:=4) a4e (by decide) (by decide) (by decide) (by decide) (by rw [a90];rfl)
  rwa [b2f] at this
 have e:a0s (exQ []) 0 3 4 [0,1]=((f9 (exQ []).ev).map fun i=>a9L (exQ []) 0 3 4 i).map fun y=>y.map fz:=by rw [b2f];unfold a0s;rw [List.map_map];rfl
 rw [e] at hc ⊢
 refine b17 (exQ []) (J1 _ (by decide)) a4e 0 f03 (by decide) rfl 4 (by decide) _ (fun k i y hi hy=>al0 a4e k i y hi hy) hc
set_option maxHeartbeats 4000000 in
theorem b2G:a9 Tryz.prog 22 [] [] (d6 true) []:=by
 have x0:=a82 []
 have x1:=a82 [⟨2,0⟩]
 have o0:=b8v
 have o1:=b8F
 have o2:=b8D
 have oc:=b97
 have l0:=b8B
 have l1:=b8A
 have d0:=b92
 have d1:=b8Q
 have wi:=b9x
 have sh:=b94
 have pr:=b9g
 have cl:=b9i
 have m1:=a15 [0] [0] (by decide) (by decide)
 have m2:=a15 [1] [1] (by decide) (by decide)
 have m3:=a15 [0,2,3] [0,2,3] (by decide) (by decide)
 have m4:=a15 [4,5] [4,5] (by decide) (by decide)
 have m5:=a15 [1,4] [1,4] (by decide) (by decide)
 have m6:=a15 [4] [4] (by decide) (by decide)
 have m7:=a15 [3] [3] (by decide) (by decide)
 rw [decide_eq_true rfl] at m1 m2 m3 m4 m5 m6 m7
 generalize exQ []=t0 at *
 generalize exQ [⟨2,0⟩]=t1 at *
 generalize (a2O t0 0 0).map fz=wz at *
 generalize a0s t0 0 3 4 [0,1]=pz at *
 (refine ac Tryz.func22 ?_;(conv=>whnf);repeat (refine zy ?_;conv=>whnf))
 repeat' (first|refine zz ?_|refine qp x1 ?_|refine qp o0 ?_|refine qp o1 ?_|refine qp o2 ?_|refine qp oc ?_|refine qp l0 ?_|refine qp l1 ?_|refine qp d0 ?_|refine qp d1 ?_|refine qp wi ?_|refine qp sh ?_|refine qp pr ?_|refine qp cl ?_|refine qp m1 ?_|refine qp m2 ?_|refine qp m3 ?_|refine qp m4 ?_|refine qp m5 ?_|refine qp m6 ?_|refine qp m7 ?_|refine .inl ⟨_,_,a04 x0 ⟨rfl,trivial⟩ rfl,?_⟩|refine a3L.weak ?_|refine zd ?_ ?_<;>intro h<;>try omega|refine zy ?_|fail)<;>conv=>whnf
 all_goals first
  |omega
  |exact b7 rfl
  |exact absurd rfl h
theorem b6S (l:List Int) (n:Int) (hl:l.length<=1000000):a9 Tryz.prog 40 [d9 l,a7 .i64 n] [] (d6 (l.any fun x=>decide (x=n))) []:=by
 have m1:(l.map e7).length=l.length:=by simp
 (refine ac Tryz.func40 ?_;(conv=>whnf);repeat (refine zy ?_;conv=>whnf))
 repeat' (first|refine zz ?_|refine zd ?_ ?_<;>intro h<;>try omega|refine zy ?_|fail)<;>conv=>whnf
 refine d7 c8 (fun k=>([d9 l,a7 .i64 n,J,J,J,a7 .i64 k,J,J,J,J,J,J,J,J,J,J,J,J],[])) l.length (fun k=>(l.take k).any (fun x=>decide (x=n))=false) [] (by simp)
  ⟨rfl,rfl,trivial,⟨rfl,rfl,rfl,trivial⟩⟩ ?_
 intro k hk hI
 by_cases hlt:k<l.length
 ·obtain ⟨x,hx⟩:∃x,l[k]? =some x:=⟨_,lg0 hlt⟩
  by_cases hxn:x=n
  ·have e:l.any (fun x=>decide (x=n))=true:=List.any_eq_true.2 ⟨x,lg2 hx,decide_eq_true hxn⟩
   rw [e]
   conv=>whnf
   repeat' (first|refine zz ?_|refine b9 hx ?_|refine zd ?_ ?_<;>intro h<;>try omega|refine zy ?_|fail)<;>conv=>whnf
   all_goals first
    |omega
    |exact b7 rfl
  ·conv=>whnf
   repeat' (first|refine zz ?_|refine b9 hx ?_|refine zd ?_ ?_<;>intro h<;>try omega|refine zy ?_|fail)<;>conv=>whnf
   all_goals first
    |omega
    |exact ⟨hlt,by rw [a9u hx,List.any_append,hI];simp [hxn],[],rfl,rfl,trivial,⟨rfl,rfl,rfl,trivial⟩⟩
 ·have hke:k=l.length:=by omega
  subst hke
  rw [lg4 (Nat.le_refl _)] at hI
  rw [hI]
  conv=>whnf
  repeat' (first|refine zz ?_|refine zd ?_ ?_<;>intro h<;>try omega|refine zy ?_|fail)<;>conv=>whnf
  all_goals first
   |omega
   |exact b7 rfl
theorem a9c {t:f5} {kind:Int} {mv g:Nat}:g ∈ I7 t kind mv↔g<t.ev.moves.length∧B8 t kind mv g=true:=by
 unfold I7 L4 a1K
 rw [List.mem_filter,List.mem_filter,List.mem_range,decide_eq_true_eq]
 exact ⟨fun h=>⟨h.2,h.1.2⟩,fun h=>⟨⟨by omega,h.2⟩,h.1⟩⟩
theorem b2k {l:List Nat} {g:Nat}:((G4 l).any fun x=>decide (x=(g:Int)))=decide (g ∈ l):=by
 rw [Bool.eq_iff_iff,List.any_eq_true,decide_eq_true_eq]
 unfold G4
 constructor
 ·rintro ⟨x,hx,he⟩
  obtain ⟨n,hn,rfl⟩:=List.mem_map.1 hx
  have:=of_decide_eq_true he
  have e:n=g:=by omega
  rw [← e];exact hn
 ·intro h;exact ⟨(g:Int),List.mem_map.2 ⟨g,h,rfl⟩,decide_eq_true rfl⟩
theorem b1G {t:f5} {kind:Int} {mv g:Nat} (hg:g<t.ev.moves.length):((G4 (I7 t kind mv)).any fun x=>decide (x=(g:Int)))=B8 t kind mv g:=by
 rw [b2k]
 cases h:B8 t kind mv g with
 |true=>exact decide_eq_true (a9c.2 ⟨hg,h⟩)
 |false=>exact decide_eq_false fun h'=>by rw [(a9c.1 h').2] at h;cases h
structure aw8 (t:f5) (find:Int) (f:I8):Prop where
 q:QT t
 s:t.Sized
 f0:0<=find
 hf:t.finds[find.toNat]? =some f
 k0:0<=f.kind
 k1:f.kind<8
 m0:0<=f.mv
 m1:f.mv<t.ev.moves.length
 ml:f.mv.toNat<t.ev.moves.length
theorem aW2 {t:f5} {m:Int} {find:Int} (hm:m<=8) (hs:a3w t m=true) (hf:a0w t find=true):∃f,aw8 t find f:=by
 obtain ⟨s1,s2,s3⟩:=a59 (by omega) hs
 obtain ⟨h1,h2,f,h3⟩:=a2o hf
 obtain ⟨q1,q2,q3,q4,q5⟩:=p6 h1
 have hg:=B9 q4 f (lg2 h3)
 unfold a3w a4V at hs
 simp only [Bool.and_eq_true,decide_eq_true_eq] at hs
 exact ⟨f,⟨h1,by omega,by omega⟩,s1,h2,h3,by omega,by omega,by omega,by omega,by omega⟩
theorem b0V {t:f5} {find:Int} {f:I8} (h:aw8 t find f) (g:Nat) (hg:g<t.ev.moves.length) (lift:Int) (z:List Fr) (hz:a1q z 10 3=true):
 ∃b,a9 Tryz.prog 44 [trS t,a7 .i64 find,a7 .i64 g,a7 .i64 lift,i8 z] [] (d6 b) []∧(b=true->B8 t f.kind f.mv.toNat g=true):=by
 cases ha:Q5 t find lift with
 |false=>exact ⟨false,a7S t h.s find g lift z (by rw [ha];rfl) (by have:=h.q.m;omega),fun e=>by cases e⟩
 |true=>
  have h1:=ha
  unfold Q5 at h1
  obtain ⟨h1,h2⟩:=(Bool.and_eq_true _ _).mp h1
  obtain ⟨l0,l1⟩:=of_decide_eq_true h2
  obtain ⟨i,rfl⟩:∃i:Nat,lift=i:=⟨lift.toNat,by omega⟩
  rw [Int.toNat_natCast] at l1
  refine ⟨_,aI5 t h.s h.q find f h.f0 h.hf g hg i l1 z (b0U (G2 i h.q) hz),fun hb=>?_⟩
  unfold aA3 at hb
  simp only [Bool.and_eq_true,decide_eq_true_eq] at hb
  obtain ⟨⟨b1,b2⟩,b3,b4⟩:=hb
  have hA:=(M3 h.q h.k0 h.k1).1 b2
  unfold B8
  refine List.any_eq_true.2 ⟨i,List.mem_filter.2 ⟨l1,?_⟩,?_⟩
  ·exact (a46 h.q h.k0 h.k1 h.ml).2 ⟨_,hA,b4⟩
  ·exact (a46 h.q h.k0 h.k1 hg).2 ⟨_,hA,b3⟩
theorem ay4 {pf:List (List Fr)} (h:a1U pf=true):pf.length<=10∧∀y ∈ pf,a1q y 40 3=true:=by
 unfold a1U at h
 rw [Bool.and_eq_true,decide_eq_true_eq] at h
 obtain ⟨h1,h2⟩:=h
 rw [lg4 (by omega),List.all_eq_true] at h1
 exact ⟨h2,h1⟩
theorem aQ3 {t:f5} {find:Int} {f:I8} (h:aw8 t find f) (g:Nat) (hg:g<t.ev.moves.length) (pf:List (List Fr)) (hp:a1U pf=true):
 ∃b,a9 Tryz.prog 53 [trS t,a7 .i64 find,a7 .i64 g,a1R pf] [] (d6 b) []∧(b=true->B8 t f.kind f.mv.toNat g=false):=by
 obtain ⟨p1,p2⟩:=ay4 hp
 refine ⟨_,aE7 t h.s h.q find f h.f0 h.hf g hg pf (fun k i y hi hy=>aS7 (G2 i h.q) (p2 y (lg2 hy))) (by omega),fun hb=>?_⟩
 exact aB5 h.q h.k0 h.k1 h.ml hg hb
theorem b63 {t:f5} {find:Int} {f:I8} (h:aw8 t find f) (g:Nat) (hg:g<t.ev.moves.length) (hr:B8 t f.kind f.mv.toNat g=false):
 a9 Tryz.prog 53 [trS t,a7 .i64 find,a7 .i64 g,a1R (a0s t f.kind f.mv.toNat g (f9 t.ev))] [] (d6 true) []:=by
 have hc:=a9F h.q h.k0 h.k1 h.ml hg hr
 have e:a0s t f.kind f.mv.toNat g (f9 t.ev)=((f9 t.ev).map fun i=>a9L t f.kind f.mv.toNat g i).map fun y=>y.map fz:=by unfold a0s;rw [List.map_map];rfl
 have hl:(f9 t.ev).length<=t.ev.moves.length:=w8 _
 have hm:=h.q.m
 have r:=aE7 t h.s h.q find f h.f0 h.hf g hg (a0s t f.kind f.mv.toNat g (f9 t.ev)) (fun k i y hi hy=>by
  rw [e,List.getElem?_map] at hy
  cases hY:((f9 t.ev).map fun i=>a9L t f.kind f.mv.toNat g i)[k]? with
  |none=>rw [hY] at hy;cases hy
  |some Y=>
   rw [hY] at hy
   injection hy with hy
   subst hy
   exact (al0 h.q k i Y hi hY).f) (by rw [a9h];omega)
 rwa [hc] at r
theorem b4B {t:f5} {find:Int} {f:I8} (h:aw8 t find f) (g:Nat) (hg:g<t.ev.moves.length) (i:Nat) (hi:a2b t f.kind g (N8 t f.kind f.mv.toNat)=some i):
 a9 Tryz.prog 44 [trS t,a7 .i64 find,a7 .i64 g,a7 .i64 i,i8 ((a2O t f.kind i).map fz)] [] (d6 true) []:=by
 obtain ⟨h1,h2⟩:=b1l hi
 obtain ⟨h3,h4⟩:=List.mem_filter.1 h1
 have h0:0<t.ev.moves.length:=by omega
 have hp:=aD0 (i:=i) h.q h0 h.k0 h.k1
 obtain ⟨w1,w2⟩:=a7c (i:=i) h.q h0 h.k0 h.k1
 have p2:=w2 g (by omega) h2
 have p3:=w2 f.mv.toNat (by have:=h.ml;omega) h4
 unfold aO2 at p2 p3
 rw [if_pos hg] at p2
 rw [if_pos h.ml] at p3
 have r:=aI5 t h.s h.q find f h.f0 h.hf g hg i h3 ((a2O t f.kind i).map fz) ⟨ar0 hp.l (fun v hv=>by have:=hp.v v hv;omega),fun _=>by rw [a3i];exact hp⟩
 have e:aA3 (j5 t f.kind i) g f.mv.toNat ((a2O t f.kind i).map fz)=true:=by
  unfold aA3
  rw [a10,a3i,(M3 h.q h.k0 h.k1).2 w1,decide_eq_true p2,decide_eq_true p3];rfl
 rwa [e] at r
set_option maxHeartbeats 8000000 in
theorem a5z (t:f5) (find mv lift:Int) (z:List Fr) (pf:List (List Fr)):
 a9 Tryz.prog 13 [trS t,a7 .i64 find,a7 .i64 mv,a7 .i64 lift,i8 z,a1R pf] [] (d6 true) []:=by
 have sa:=b2G
 have sm:=b49 t 6
 have fp:=a9j z 10 3 (by decide)
 have sp:=ad6 pf
 cases hsm:a3w t 6 with
 |false=>
  rw [hsm] at sm
  (refine ac Tryz.func13 ?_;(conv=>whnf);repeat ((first|refine b0x ?_|refine zy ?_);conv=>whnf))
  repeat' (first|refine zz ?_|refine qp sa ?_|refine qp sm ?_|refine qp fp ?_|refine qp sp ?_|refine zd ?_ ?_<;>intro h<;>try omega|refine zy ?_|fail)<;>conv=>whnf
  all_goals first
   |omega
   |exact b7 rfl
   |exact absurd rfl h
 |true=>
 rw [hsm] at sm
 cases hz:a1q z 10 3 with
 |false=>
  rw [hz] at fp
  (refine ac Tryz.func13 ?_;(conv=>whnf);repeat ((first|refine b0x ?_|refine zy ?_);conv=>whnf))
  repeat' (first|refine zz ?_|refine qp sa ?_|refine qp sm ?_|refine qp fp ?_|refine qp sp ?_|refine zd ?_ ?_<;>intro h<;>try omega|refine zy ?_|fail)<;>conv=>whnf
  all_goals first
   |omega
   |exact b7 rfl
   |exact absurd rfl h
 |true=>
 rw [hz] at fp
 cases hp:a1U pf with
 |false=>
  rw [hp] at sp
  (refine ac Tryz.func13 ?_;(conv=>whnf);repeat ((first|refine b0x ?_|refine zy ?_);conv=>whnf))
  repeat' (first|refine zz ?_|refine qp sa ?_|refine qp sm ?_|refine qp fp ?_|refine qp sp ?_|refine zd ?_ ?_<;>intro h<;>try omega|refine zy ?_|fail)<;>conv=>whnf
  all_goals first
   |omega
   |exact b7 rfl
   |exact absurd rfl h
 |true=>
 rw [hp] at sp
 obtain ⟨s1,s2,s3⟩:=a59 (by decide) hsm
 have m1:(t.ev.moves.map x8.row).length=t.ev.moves.length:=by simp
 cases hkn:V5 t find mv with
 |false=>
  have sh:=a7S t s1 find mv lift z (by rw [hkn,Bool.and_false]) (by omega)
  have cl:=aw0 t s1 find mv pf hkn
  have wi:=a5j t s1 find mv hkn
  have pr:=ay5 t s1 find mv hkn
  cases hf:a0w t find with
  |false=>
   have lo:=aF1 t s1 find hf
   (refine ac Tryz.func13 ?_;(conv=>whnf);repeat ((first|refine b0x ?_|refine zy ?_);conv=>whnf))
   repeat' (first|refine zz ?_|refine qp sa ?_|refine qp sm ?_|refine qp fp ?_|refine qp sp ?_|refine qp lo ?_|refine qp sh ?_|refine qp cl ?_|refine qp wi ?_|refine qp pr ?_|refine zd ?_ ?_<;>intro h<;>try omega|refine zy ?_|fail)<;>conv=>whnf
   all_goals first
    |omega
    |exact b7 rfl
    |exact absurd rfl h
  |true=>
   obtain ⟨f,hF⟩:=aW2 (by decide) hsm hf
   have lo:=a6a t s1 hF.q find f hF.f0 hF.hf
   have hk:¬(0<=mv∧mv<t.ev.moves.length):=fun ⟨a,b⟩=>by
    unfold V5 at hkn;rw [hf,decide_eq_true a,decide_eq_true b] at hkn;cases hkn
   (refine ac Tryz.func13 ?_;(conv=>whnf);repeat ((first|refine b0x ?_|refine zy ?_);conv=>whnf))
   repeat' (first|refine zz ?_|refine qp sa ?_|refine qp sm ?_|refine qp fp ?_|refine qp sp ?_|refine qp lo ?_|refine qp sh ?_|refine qp cl ?_|refine qp wi ?_|refine qp pr ?_|refine zd ?_ ?_<;>intro h<;>try omega|refine zy ?_|fail)<;>conv=>whnf
   all_goals first
    |omega
    |exact b7 rfl
    |exact absurd rfl h
 |true=>
  have hk:=hkn
  unfold V5 at hk
  simp only [Bool.and_eq_true,decide_eq_true_eq] at hk
  obtain ⟨⟨hf,g0⟩,g1⟩:=hk
  obtain ⟨f,hF⟩:=aW2 (by decide) hsm hf
  obtain ⟨g,rfl⟩:∃g:Nat,mv=g:=⟨mv.toNat,by omega⟩
  have hg:g<t.ev.moves.length:=by omega
  have lo:=a6a t s1 hF.q find f hF.f0 hF.hf
  have ha:=b6S (G4 (I7 t f.kind f.mv.toNat)) g (by have:=a5w t f.kind f.mv.toNat (t.ev.moves.length+t.ev.places.length);have:=hF.q.p;rw [a42];show (L4 _ _ _ _).length<=_;omega)
  rw [b1G hg] at ha
  obtain ⟨b,sh,hb⟩:=b0V hF g hg lift z hz
  obtain ⟨c,cl,hc⟩:=aQ3 hF g hg pf hp
  have wi:=a55 t s1 hF.q find f hF.f0 hF.hf g hg
  cases hr:B8 t f.kind f.mv.toNat g with
  |true=>
   rw [hr] at ha hc
   have hc2:c=false:=by cases c with
    |false=>rfl
    |true=>exact absurd (hc rfl) (by decide)
   subst hc2
   obtain ⟨i,hi⟩:∃i,a2b t f.kind g (N8 t f.kind f.mv.toNat)=some i:=by
    cases hw:a2b t f.kind g (N8 t f.kind f.mv.toNat) with
    |some i=>exact ⟨i,rfl⟩
    |none=>rw [a5m,hr] at hw;cases hw
   have pr:=aM1 t s1 hF.q find f hF.f0 hF.hf g hg i hi
   have wo:=b4B hF g hg i hi
   rw [hi] at wi
   unfold aU9 at wi
   dsimp only at wi
   generalize (a2O t f.kind i).map fz=W at wi wo
   generalize G4 (I7 t f.kind f.mv.toNat)=M at lo ha
   generalize G4 (N9 t f.kind f.mv.toNat)=P at lo
   cases b<;>
   ·(refine ac Tryz.func13 ?_;(conv=>whnf);repeat ((first|refine b0x ?_|refine zy ?_);conv=>whnf))
    repeat' (first|refine zz ?_|refine qp sa ?_|refine qp sm ?_|refine qp fp ?_|refine qp sp ?_|refine qp lo ?_|refine qp sh ?_|refine qp cl ?_|refine qp wi ?_|refine qp pr ?_|refine qp ha ?_|refine qp wo ?_|refine zd ?_ ?_<;>intro h<;>try omega|refine zy ?_|fail)<;>conv=>whnf
    all_goals first
     |omega
     |exact b7 rfl
     |exact absurd rfl h
  |false=>
   rw [hr] at ha hb
   have hb2:b=false:=by cases b with
    |false=>rfl
    |true=>exact absurd (hb rfl) (by decide)
   subst hb2
   have hw:=a5m.2 hr
   have pr:=aX9 t s1 hF.q find f hF.f0 hF.hf g hg hw
   have po:=b63 hF g hg hr
   rw [hw] at wi
   unfold aU9 at wi
   dsimp only at wi
   generalize a0s t f.kind f.mv.toNat g (f9 t.ev)=L at pr po
   generalize G4 (I7 t f.kind f.mv.toNat)=M at lo ha
   generalize G4 (N9 t f.kind f.mv.toNat)=P at lo
   cases c<;>
   ·(refine ac Tryz.func13 ?_;(conv=>whnf);repeat ((first|refine b0x ?_|refine zy ?_);conv=>whnf))
    repeat' (first|refine zz ?_|refine qp sa ?_|refine qp sm ?_|refine qp fp ?_|refine qp sp ?_|refine qp lo ?_|refine qp sh ?_|refine qp cl ?_|refine qp wi ?_|refine qp pr ?_|refine qp ha ?_|refine qp po ?_|refine zd ?_ ?_<;>intro h<;>try omega|refine zy ?_|fail)<;>conv=>whnf
    all_goals first
     |omega
     |exact b7 rfl
     |exact absurd rfl h
section
open Go.RowKit Go.ChangeShapes Go.WideShapes Go.Deep
section
variable {H:Type} {enc:TypeId × Value->H} {P:Program}
theorem ae0 (hl:laidOutB P=true) {W W':World} {sp:Nat->Bool}:∀{ts:List TypeId} {vs:List Value} {ds:List (DataW H)} {ps:List MemPlace},(∀ t ∈ ts,P.readableRec t=true∧t<P.types.size)->
 DataW.TrodAll enc P W 0 (fun _=>true) true ts vs ds ps->(∀ p ∈ ps,W.sameAt W' p)->(∀ p ∈ ps,sp p.block=true)->DataW.TrodAll enc P W' 0 sp true ts vs ds ps:=by
 intro ts
 induction ts with
 |nil=>
  intro vs ds ps _ h _ _
  obtain ⟨rfl,rfl,rfl⟩:=trodAll_nil h
  exact trodAll_mk0
 |cons t ts ih=>
  intro vs ds ps hr h hsame hs
  obtain ⟨v,vs',d,ds',p,q,rfl,rfl,rfl,h1,h2⟩:=trodAll_cons h
  obtain ⟨ht,hlt⟩:=hr t (by simp)
  exact trodAll_cons_mk (WideElems.Trod_stays hl ht hlt h1 (fun x hx=>hsame x (by simp [hx])) (fun x hx=>hs x (by simp [hx]))) (ih (fun t ht=>hr t (by simp [ht])) h2 (fun x hx=>hsame x (by simp [hx])) (fun x hx=>hs x (by simp [hx])))
theorem b2P {f:Func} {s:ChangeSpec} {fresh handsOn:Bool} {W W':World} {args:Array Value} {ds gs:List (DataW H)} {before:List MemPlace} {tb:TypeId}
 (hW:DataW.Whole enc P f.params.toList s.vars false W args.toList ds gs before) (hl:laidOutB P=true) (hr:∀t ∈ f.params.toList,P.readableRec t=true∧t<P.types.size) (hv:s.vars=[])
 (hfn:s.fn H (ds++gs)={ results:=[.lit (.bool true)],args:=ds }) (hres:f.resultTypes=#[tb]) (hbool:P.underlying tb=some .bool) (hb:Below W.heap.size W W'):
 s.post enc P f false fresh handsOn false W args (.bool true) W':=by
 have hW':=hW
 obtain ⟨p,q,hA,hV,rfl,hfz,hnd⟩:=hW
 rw [hv] at hV
 obtain ⟨rfl,rfl⟩:=trodVars_none hV
 have hlt:∀x ∈ p,x.block<W.heap.size:=fun x hx=>by have:=hW'.lt x (by simpa using hx);simpa using this
 refine ⟨ds,[],p++[],[],p,[],hW',?_,?_,?_,hb.frame _,fun h=>by cases h⟩
 ·rw [hfn,hres]
  exact trodAll_mk1 (shut_bool hbool true)
 ·rw [hfn]
  exact ae0 hl hr hA (fun x hx=>hb.same (hlt x hx)) (fun x hx=>by simpa using hlt x hx)
 ·rw [hv,hfn]
  exact rfl
variable {w:World} {base:Nat} {spare:Nat->Bool} {held:Bool}
end
end
section
open Go.RowKit Go.ChangeShapes Go.WideShapes Go.Deep
section
variable {H:Type} {enc:TypeId × Value->H} {w:World} {base:Nat} {spare:Nat->Bool} {held:Bool}
end
theorem b6g:ownKnob Tryz.prog.godebug=none:=by kernel_rfl
theorem b3x:laidOutB Tryz.prog=true:=by kernel_rfl
end
theorem aT1 {w:World} {n:Int}:RS w (fun _=>none) (fun _=>False) (a7 .i64 n) (.int .i64 n):=RS.int
inductive aj5 (w:World):List S->List Value->Prop
 |nil:aj5 w [] []
 |cons {s:S} {v:Value} {ss:List S} {vs:List Value} (h:RS w (fun _=>none) (fun _=>False) s v) (hs:aj5 w ss vs):aj5 w (s::ss) (v::vs)
theorem aj5.get {w:World} {ss:List S} {vs:List Value} (h:aj5 w ss vs):vs.length=ss.length∧∀(j:Nat) (s:S),ss[j]? =some s->RS w (fun _=>none) (fun _=>False) s (vs.getD j undef):=by
 induction h with
 |nil=>exact ⟨rfl,by simp⟩
 |cons h hs ih=>
  refine ⟨by simp [ih.1],fun j s hj=>?_⟩
  cases j with
  |zero=>simp at hj;subst hj;exact h
  |succ j=>simpa using ih.2 j s (by simpa using hj)
theorem at0 {P:Program} {g:FuncId} {ss:List S} {b:Bool} (h:a9 P g ss [] (d6 b) []) {w:World} {vs:List Value} (ha:aj5 w ss vs):
 Calls P g vs.toArray w fun e w'=>e=.returned (.bool b)∧Below w.heap.size w w':=by
 obtain ⟨h1,h2⟩:=ha.get
 refine Calls.mono (h.2 w (fun _=>none) (fun _=>False) vs h1 h2 ⟨by simp,by simp,by simp,by simp,by simp⟩ (fun _ h=>h.elim) (fun _ _=>rfl)) ?_
 rintro e w' ⟨v,rfl,ι',M',q1,q2,q3,q4,q5⟩
 rw [q1.inv_atm]
 exact ⟨rfl,q5.os,q5.tape,q5.output,q5.size,fun k hk=>q5.keep k hk (by rintro ⟨id,k,_,_,hk,_⟩;simp at hk)⟩
open Go.RowKit Go.ChangeShapes Go.WideShapes Go.ChangeAt
theorem b1v {P:Program} {f:FuncId} {fn:Func} {s:ChangeSpec} {c:OpenClaim}
 (h1:c.wf (OpenSpec.ofChange s)=true) (h2:laidOutB P=true) (h3:mapsRowed P=true) (h4:fn.params.all (P.readableRec ·)=true) (h5:namedTie P c.named s.vars=true)
 (h6:(c.stops == [])=true) (h7:(P.stops == [])=true) (h8:(c.knobs == [])=true) (h9:(P.stopKnobs == [])=true)
 (h10:(c.inPlace == P.inPlace f)=true) (h11:(c.unfollowed == P.unfollowed f)=true) (h12:(c.recurses == P.recurses f)=true) (h13:(c.named == P.varsNamed f)=true)
 (h14:(c.maps == (fn.params.toList++s.plain.varTypes P).any (P.mapsRec ·))=true) (h15:(c.ifaces == (fn.params.toList++s.plain.varTypes P).any (P.ifacesRec ·))=true) (h16:(c.mapsOut == P.mapsAmong fn.resultTypes.toList)=true)
 (h17:(c.loops == (fn.params.toList++s.plain.varTypes P).any (P.loopsFrom ·))=true) (h18:(c.wideKeys == (fn.params.toList++s.plain.varTypes P++fn.resultTypes.toList).any (P.wideKeysFrom ·))=true)
 (h19:s.vars.all (P.varReadable ·)=true) (h20:fn.resultTypes.all (fun t=>P.readableRec t && decide (t<P.types.size))=true) (h21:(c.ifacesOut == fn.resultTypes.toList.any (P.ifacesRec ·))=true) (h22:(c.loopsOut == fn.resultTypes.toList.any (P.loopsFrom ·))=true)
 (h23:(c.plainKeys == P.plainKeys)=true) (h24:c.shortTexts.isNone=true) (h25:P.stopsHeard=true) (h26:P.mayEnter=true) (h27:(c.lifted == P.liftsFinal)=true) (h28:(P.make == some c.make)=true)
 (h29:c.domain.isEmpty=true) (h29b:(c.kinds == [])=true) (h30:(c.pinned == c.pinnedBy)=true)
 (h31:(c.veiled == (fn.params.toList++s.plain.varTypes P++fn.resultTypes.toList).any (P.veiledRec ·))=true) (h32:c.veiledFits P fn.params.toList (fn.params.toList++s.plain.varTypes P++fn.resultTypes.toList)=true):
 joinedFacts P f fn s c=true:=by
 unfold joinedFacts
 rw [h1,h2,h3,h4,h5,h6,h7,h8,h9,h10,h11,h12,h13,h14,h15,h16,h17,h18,h19,h20,h21,h22,h23,h24,h25,h26,h27,h28,if_pos h29,h29b,h30,h31,h32]
 rfl
theorem b5z:laidOutB Tryz.pinned.checked.prog=true:=by kernel_rfl
theorem b4X:mapsRowed Tryz.pinned.checked.prog=true:=by kernel_rfl
theorem b61:Tryz.pinned.checked.prog.plainKeys=true:=by kernel_rfl
theorem b1T:Tryz.pinned.checked.prog.stopsHeard=true:=by kernel_rfl
theorem b3Z:Tryz.pinned.checked.prog.mayEnter=true:=by kernel_rfl
theorem b5S:(Rows.sourceTrueRow.lifted == Tryz.pinned.checked.prog.liftsFinal)=true:=by kernel_rfl
theorem b58:(Tryz.pinned.checked.prog.make == some Rows.sourceTrueRow.make)=true:=by kernel_rfl
section
open Go.RowKit Go.ChangeShapes Go.WideShapes Go.Deep
inductive Sh where
 |int (k:IntKind)
 |bool
 |sl (row:List Sh)
inductive Fit:Sh->T->Prop
 |int {k:IntKind} {n:Int} (h:(Lit.int k n).wf=true):Fit (.int k) (.atm (.int k n))
 |bool {b:Bool}:Fit .bool (.atm (.bool b))
 |sl {row:List Sh} {rows:List (List T)} (hl:∀r ∈ rows,r.length=row.length) (h:∀r ∈ rows,∀(j:Nat) (s:Sh) (t:T),row[j]? =some s->r[j]? =some t->Fit s t):Fit (.sl row) (.sl row.length .any rows)
inductive C8 (P:Program):TypeId->List Sh->Prop
 |int {t:TypeId} {k:IntKind} (h:P.underlying t=some (.int k)):C8 P t [.int k]
 |bool {t:TypeId} (h:P.underlying t=some .bool):C8 P t [.bool]
 |sl {t e:TypeId} {row:List Sh} (h:P.underlying t=some (.slice e)) (hc:P.cellsOf e=row.length) (hp:0<row.length) (he:C8 P e row):C8 P t [.sl row]
 |struct {t:TypeId} {fs:Array Field} (parts:List (List Sh)) (h:P.underlying t=some (.struct fs)) (hl:parts.length=fs.size)
   (ho:∀(i:Nat) (f:Field) (p:List Sh),fs[i]? =some f->parts[i]? =some p->f.offset=(parts.take i).flatten.length∧P.cellsOf f.type=p.length)
   (hc:P.cellsOf t=parts.flatten.length)
   (he:∀(i:Nat) (f:Field) (p:List Sh),fs[i]? =some f->parts[i]? =some p->C8 P f.type p):C8 P t parts.flatten
section
variable {H:Type} {enc:TypeId × Value->H} {P:Program} {w:World} {base:Nat} {spare:Nat->Bool} {held:Bool}
def aq5 (w:World) (shs:List Sh) (cs:List Value):Prop:=
 cs.length=shs.length∧∃ts:List T,ts.length=shs.length∧∀(j:Nat) (s:Sh),shs[j]? =some s->∃u t,cs[j]? =some u∧ts[j]? =some t∧RT w (fun _=>False) t u∧Fit s t
theorem a9S {α:Type}:∀(parts:List (List α)) (j:Nat) (x:α),parts.flatten[j]? =some x->∃i p k,parts[i]? =some p∧p[k]? =some x∧j=(parts.take i).flatten.length+k
 |[],j,x,h=>by simp at h
 |p::r,j,x,h=>by
  rw [List.flatten_cons] at h
  by_cases hj:j<p.length
  ·rw [List.getElem?_append_left hj] at h
   exact ⟨0,p,j,rfl,h,by simp⟩
  ·rw [List.getElem?_append_right (by omega)] at h
   obtain ⟨i,q,k,h1,h2,h3⟩:=a9S r _ x h
   exact ⟨i+1,q,k,by simpa using h1,h2,by rw [List.take_succ_cons,List.flatten_cons,List.length_append];omega⟩
theorem a0W {α:Type} {p:Nat->α->Prop}:∀(n:Nat),(∀ i,i<n->∃x,p i x)->∃xs:List α,xs.length=n∧∀i x,xs[i]? =some x->p i x
 |0,_=>⟨[],rfl,by simp⟩
 |n+1,h=>by
  obtain ⟨xs,h1,h2⟩:=a0W n fun i hi=>h i (by omega)
  obtain ⟨x,hx⟩:=h n (by omega)
  refine ⟨xs++[x],by simp [h1],fun i y hy=>?_⟩
  by_cases hi:i<xs.length
  ·rw [List.getElem?_append_left hi] at hy;exact h2 i y hy
  ·rw [List.getElem?_append_right (by omega)] at hy
   have:i=n:=by
    have:=(lg1 hy).1
    simp at this;omega
   subst this
   rw [h1] at hy
   simp at hy
   subst hy
   exact hx
theorem av8 {t:TypeId} {shs:List Sh} (h:C8 P t shs):∀(n:Nat) (cs:List Value) (x:DataW H × List MemPlace),DataW.trod enc P w base spare held n t cs=some x->aq5 w shs cs:=by
 induction h with
 |int h=>
  intro n cs x hx
  obtain ⟨a,rfl,_,hw⟩:=DataW.trod_int h hx
  exact ⟨rfl,[.atm (.int _ a)],rfl,fun j s hj=>by
   match j,hj with
   |0,hj=>simp at hj;subst hj;exact ⟨_,_,rfl,rfl,.atm rfl,.int hw⟩⟩
 |bool h=>
  intro n cs x hx
  obtain ⟨a,rfl,_⟩:=DataW.trod_bool h hx
  exact ⟨rfl,[.atm (.bool a)],rfl,fun j s hj=>by
   match j,hj with
   |0,hj=>simp at hj;subst hj;exact ⟨_,_,rfl,rfl,.atm rfl,.bool⟩⟩
 |@sl t e row h hc hp he ih=>
  intro n cs x hx
  have key:∀(rows:List (List T)) (u:Value),cs=[u]->RT w (fun _=>False) (.sl row.length .any rows) u->(∀ r ∈ rows,r.length=row.length)->(∀ r ∈ rows,∀(j:Nat) (s:Sh) (t:T),row[j]? =some s->r[j]? =some t->Fit s t)->aq5 w [.sl row] cs:=by
   rintro rows u rfl hu h1 h2
   exact ⟨rfl,[.sl row.length .any rows],rfl,fun j s hj=>by
    match j,hj with
    |0,hj=>simp at hj;subst hj;exact ⟨_,_,rfl,rfl,hu,.sl h1 h2⟩⟩
  rcases open_slice h hx with ⟨h0,_⟩|⟨a,len,cap,m,n,D,Pl,hcs,hb,hl,hm,hmm,hx,hi⟩
  ·exact key [] _ h0 (.sl (b:=0) (off:=0) (fun _ _=>undef) (by simp) (by simp) (by unfold maxLen;omega) (by intro h;cases h) (by intro h;cases h) (by simp) (by simp [at2]) (by simp [at2])) (by simp) (by simp)
  ·by_cases hz:len=0
   ·subst hz
    exact key [] _ hcs (.sl (b:=0) (off:=0) (fun _ _=>undef) (by simp) (by simp) hm (by intro h;cases h) (by intro h;cases h) (by simp) (by simp [at2]) (by simp [at2])) (by simp) (by simp)
   have hlm:len<=m:=by rw [hmm];split<;>omega
   have each:∀i,i<len->∃cs':List Value,(∀ j,j<row.length->w.cell? (a.add (i*row.length+j))=cs'[j]?)∧aq5 w row cs':=by
    intro i hil
    obtain ⟨cs',hc',ht'⟩:=hi i (by omega)
    rw [hc] at hc'
    obtain ⟨_,hcl,hat⟩:=World.cells?_some hc'
    exact ⟨cs',fun j hj=>by rw [← Go.Deep.add_add];exact hat j hj,ih n cs' _ ht'⟩
   obtain ⟨css,hcl,hcs2⟩:=a0W len each
   obtain ⟨rows,hrl,hrows⟩:=a0W (α:=List T) (p:=fun i ts=>ts.length=row.length∧∀(j:Nat) (s:Sh),row[j]? =some s->∃u t,(css.getD i [])[j]? =some u∧ts[j]? =some t∧RT w (fun _=>False) t u∧Fit s t) len (fun i hi=>by
    have hg:css[i]? =some (css[i]'(by omega)):=lg0 (by omega)
    obtain ⟨_,_,ts,h1,h2⟩:=hcs2 i _ hg
    refine ⟨ts,h1,?_⟩
    rw [lg3,hg]
    exact h2)
   have hcell:∀i j,i<len->j<row.length->w.cell? (a.add (i*row.length+j))=some ((css.getD i []).getD j undef):=by
    intro i j hi hj
    have hg:css[i]? =some (css[i]'(by omega)):=lg0 (by omega)
    obtain ⟨h1,h2,_⟩:=hcs2 i _ hg
    rw [h1 j hj]
    have hgd:css.getD i []=css[i]'(by omega):=by rw [lg3,hg];rfl
    rw [hgd,lg3,lg0 (by omega)];rfl
   have hspot:a.spot=none:=by
    have:=World.cell?_spot (hcell 0 0 (by omega) hp)
    simpa [Addr.add] using this
   obtain ⟨b,off,sp⟩:=a
   simp only at hspot
   subst hspot
   have hadd:∀k,(⟨b,off,none⟩:Addr).add k=⟨b,off+k,none⟩:=by
    intro k
    unfold Addr.add
    split
    ·subst_vars;rfl
    ·rfl
   have hat:∀i j c,at2 rows i j=some c->i<len∧j<row.length∧∃r s,rows[i]? =some r∧r[j]? =some c∧row[j]? =some s:=by
    intro i j c hc
    obtain ⟨r,q1,q2⟩:=C3 hc
    have hil:i<len:=by rw [← hrl];exact (lg1 q1).1
    have hjl:j<row.length:=by rw [← (hrows i r q1).1];exact (lg1 q2).1
    exact ⟨hil,hjl,r,_,q1,q2,lg0 hjl⟩
   refine key rows (.slice (some ⟨b,off,none⟩) len cap) hcs ?_ ?_ ?_
   ·rw [← hrl]
    refine .sl (b:=b) (off:=off) (fun i j=>(css.getD i []).getD j undef) ?_ (by omega) hm (by intro h;cases h) (by intro h;cases h) (fun _=>rfl) ?_ ?_
    ·intro r hr
     obtain ⟨i,hi⟩:=List.mem_iff_getElem?.1 hr
     exact (hrows i r hi).1
    ·intro i j c hc
     obtain ⟨hil,hjl,_⟩:=hat i j c hc
     have:=hcell i j hil hjl
     rw [hadd] at this
     exact ⟨this,fun h=>h⟩
    ·intro i j c hc
     obtain ⟨hil,hjl,r,s,q1,q2,q3⟩:=hat i j c hc
     obtain ⟨u,t,h1,h2,h3,h4⟩:=(hrows i r q1).2 j s q3
     rw [q2] at h2
     injection h2 with h2
     subst h2
     rw [lg3 (l:=css.getD i []),h1]
     exact h3
   ·intro r hr
    obtain ⟨i,hi⟩:=List.mem_iff_getElem?.1 hr
    exact (hrows i r hi).1
   ·intro r hr j s t hs ht
    obtain ⟨i,hi⟩:=List.mem_iff_getElem?.1 hr
    obtain ⟨u,t',h1,h2,h3,h4⟩:=(hrows i r hi).2 j s hs
    rw [ht] at h2
    injection h2 with h2
    subst h2
    exact h4
 |@struct t fs parts h hl ho hc he ih=>
  intro n cs x hx
  obtain ⟨xs,n',hn',hy,hlen,hyl,hf⟩:=DataW.trod_struct h hx
  have hlen':cs.length=parts.flatten.length:=by rw [hlen,hc]
  have each:∀j,j<parts.flatten.length->∃t,∀s,parts.flatten[j]? =some s->∃u,cs[j]? =some u∧RT w (fun _=>False) t u∧Fit s t:=by
   intro j hj
   obtain ⟨i,p,k,q1,q2,q3⟩:=a9S parts j _ (lg0 hj)
   have hi:i<fs.size:=by rw [← hl];exact (lg1 q1).1
   have hfi:fs[i]? =some fs[i]:=Array.getElem?_eq_getElem hi
   obtain ⟨o1,o2⟩:=ho i _ p hfi q1
   have h1:=hf i _ hfi
   have hxi:xs[i]? =some (xs[i]'(by omega)):=lg0 (by omega)
   obtain ⟨r1,ts,r2,r3⟩:=ih i _ p hfi q1 n' _ _ (h1.trans hxi)
   obtain ⟨u,t,e1,e2,e3,e4⟩:=r3 k _ q2
   refine ⟨t,fun s hs=>⟨u,?_,e3,?_⟩⟩
   ·have hk:k<p.length:=(lg1 q2).1
    rw [List.getElem?_take,o2,if_pos hk,List.getElem?_drop,o1,←q3] at e1
    exact e1
   ·rw [lg0 hj] at hs
    injection hs with hs
    rw [← hs];exact e4
  obtain ⟨ts,t1,t2⟩:=a0W parts.flatten.length each
  refine ⟨hlen',ts,t1,fun j s hj=>?_⟩
  have hjl:=(lg1 hj).1
  have htj:ts[j]? =some (ts[j]'(by omega)):=lg0 (by omega)
  obtain ⟨u,h1,h2,h3⟩:=t2 j _ htj s hj
  exact ⟨u,_,h1,htj,h2,h3⟩
end
theorem Fit.int_inv {k:IntKind} {t:T} (h:Fit (.int k) t):∃n,t=.atm (.int k n)∧(Lit.int k n).wf=true:=by cases h with|int h=>exact ⟨_,rfl,h⟩
theorem Fit.bool_inv {t:T} (h:Fit .bool t):∃b,t=.atm (.bool b):=by cases h with|bool=>exact ⟨_,rfl⟩
theorem aC6 {α:Type} {f:α->List T} {p:α->Prop}:∀{rows:List (List T)},(∀ r ∈ rows,∃x,r=f x∧p x)->∃xs:List α,rows=xs.map f∧∀x ∈ xs,p x
 |[],_=>⟨[],rfl,by simp⟩
 |r::rs,h=>by
  obtain ⟨x,rfl,hx⟩:=h r (by simp)
  obtain ⟨xs,rfl,hxs⟩:=aC6 (rows:=rs) (f:=f) (p:=p) fun r hr=>h r (List.mem_cons_of_mem _ hr)
  exact ⟨x::xs,rfl,fun y hy=>by rcases List.mem_cons.1 hy with rfl|hy;exact hx;exact hxs y hy⟩
theorem Fit.sl_inv {α:Type} (f:α->List T) (p:α->Prop) {row:List Sh} {t:T} (h:Fit (.sl row) t)
 (hrow:∀r:List T,r.length=row.length->(∀ (j:Nat) (s:Sh) (t:T),row[j]? =some s->r[j]? =some t->Fit s t)->∃x,r=f x∧p x):
 ∃xs:List α,t=.sl row.length .any (xs.map f)∧∀x ∈ xs,p x:=by
 cases h with
 |sl hl h=>
  obtain ⟨xs,rfl,hx⟩:=aC6 (f:=f) (p:=p) (fun r hr=>hrow r (hl r hr) (h r hr))
  exact ⟨xs,rfl,hx⟩
end

section
open Go.RowKit Go.ChangeShapes Go.WideShapes Go.Deep
abbrev d8:Sh:=.int .i64
abbrev b2q:List Sh:=[d8,.sl [d8]]
abbrev a7F:List Sh:=[d8,.sl [d8],d8,.sl [d8]]
theorem x6:C8 Tryz.prog 3 [d8]:=.int Tryz.underlying3
theorem b4r:C8 Tryz.prog 55 [.sl [d8]]:=.sl Tryz.underlying55 (by kernel_rfl) (by decide) x6
theorem a4n {P:Program} {t:TypeId} {fs:Array Field} {p0 p1:List Sh} (h:P.underlying t=some (.struct fs)) (hl:fs.size=2)
 (h0:∃f,fs[0]? =some f∧f.offset=0∧P.cellsOf f.type=p0.length∧C8 P f.type p0) (h1:∃f,fs[1]? =some f∧f.offset=p0.length∧P.cellsOf f.type=p1.length∧C8 P f.type p1)
 (hc:P.cellsOf t=p0.length+p1.length):C8 P t (p0++p1):=by
 obtain ⟨f0,a1,a2,a3,a4⟩:=h0
 obtain ⟨f1,b1,b2,b3,b4⟩:=h1
 have:=C8.struct (P:=P) (t:=t) (fs:=fs) [p0,p1] h (by simp [hl]) (fun i f p hf hp=>by
  match i,hp with
  |0,hp=>simp at hp;subst hp;rw [a1] at hf;injection hf with hf;subst hf;exact ⟨by simp [a2],a3⟩
  |1,hp=>simp at hp;subst hp;rw [b1] at hf;injection hf with hf;subst hf;exact ⟨by simp [b2],b3⟩
  |n+2,hp=>simp at hp) (by simp [hc]) (fun i f p hf hp=>by
  match i,hp with
  |0,hp=>simp at hp;subst hp;rw [a1] at hf;injection hf with hf;subst hf;exact a4
  |1,hp=>simp at hp;subst hp;rw [b1] at hf;injection hf with hf;subst hf;exact b4
  |n+2,hp=>simp at hp)
 simpa using this
theorem aW1:C8 Tryz.prog 81 b2q:=
 a4n (p0:=[d8]) (p1:=[.sl [d8]]) Tryz.underlying81 (by kernel_rfl) ⟨_,rfl,rfl,by kernel_rfl,x6⟩ ⟨_,rfl,rfl,by kernel_rfl,b4r⟩ (by kernel_rfl)
theorem b22:C8 Tryz.prog 83 a7F:=
 a4n (p0:=b2q) (p1:=b2q) Tryz.underlying83 (by kernel_rfl) ⟨_,rfl,rfl,by kernel_rfl,aW1⟩ ⟨_,rfl,rfl,by kernel_rfl,aW1⟩ (by kernel_rfl)
theorem am3:C8 Tryz.prog 44 [.sl a7F]:=.sl Tryz.underlying44 (by kernel_rfl) (by decide) b22
theorem b39:C8 Tryz.prog 99 [.sl [.sl a7F]]:=.sl Tryz.underlying99 (by kernel_rfl) (by decide) am3
theorem aO3:C8 Tryz.prog 54 [d8,d8]:=
 a4n (p0:=[d8]) (p1:=[d8]) Tryz.underlying54 (by kernel_rfl) ⟨_,rfl,rfl,by kernel_rfl,x6⟩ ⟨_,rfl,rfl,by kernel_rfl,x6⟩ (by kernel_rfl)
theorem aH3 {t:T} (h:Fit (.sl [d8]) t):∃l:List Int,t=I1 l:=by
 obtain ⟨xs,rfl,_⟩:=h.sl_inv e7 (fun _=>True) (fun r hl hr=>by
  match r,hl with
  |[u],_=>
   obtain ⟨n,rfl,_⟩:=(hr 0 _ _ rfl rfl).int_inv
   exact ⟨n,rfl,trivial⟩)
 exact ⟨xs,rfl⟩
theorem ax7 {r:List T} (hl:r.length=4) (hr:∀(j:Nat) (s:Sh) (t:T),a7F[j]? =some s->r[j]? =some t->Fit s t):∃f:Fr,r=k7 f:=by
 match r,hl with
 |[a,b,c,d],_=>
  obtain ⟨n,rfl,_⟩:=(hr 0 _ _ rfl rfl).int_inv
  obtain ⟨l,rfl⟩:=aH3 (hr 1 _ _ rfl rfl)
  obtain ⟨m,rfl,_⟩:=(hr 2 _ _ rfl rfl).int_inv
  obtain ⟨k,rfl⟩:=aH3 (hr 3 _ _ rfl rfl)
  exact ⟨⟨⟨n,l⟩,⟨m,k⟩⟩,rfl⟩
theorem am4 {t:T} (h:Fit (.sl a7F) t):∃l:List Fr,t=C6 l:=by
 obtain ⟨xs,rfl,_⟩:=h.sl_inv k7 (fun _=>True) (fun r hl hr=>by
  obtain ⟨f,rfl⟩:=ax7 hl hr
  exact ⟨f,rfl,trivial⟩)
 exact ⟨xs,rfl⟩
theorem b3Q {t:T} (h:Fit (.sl [.sl a7F]) t):∃l:List (List Fr),t=b6J l:=by
 obtain ⟨xs,rfl,_⟩:=h.sl_inv S8 (fun _=>True) (fun r hl hr=>by
  match r,hl with
  |[u],_=>
   obtain ⟨l,rfl⟩:=am4 (hr 0 _ _ rfl rfl)
   exact ⟨l,rfl,trivial⟩)
 exact ⟨xs,rfl⟩
section
variable {H:Type} {enc:TypeId × Value->H} {w:World} {base:Nat} {spare:Nat->Bool} {held:Bool}
theorem open_hist {v:Value} {d:DataW H} {p:List MemPlace} {r:Reach} {b0:Nat} (hv:Value.okWide Tryz.prog w r b0 99 v) (h:DataW.Trod enc Tryz.prog w base spare held 99 v d p):∃hh,RS w (fun _=>none) (fun _=>False) (a1R hh) v:=by
 obtain ⟨a,len,cap,rfl⟩:=okWide_slice Tryz.underlying99 hv
 obtain ⟨fuel,hf⟩:=h
 obtain ⟨_,ts,h1,h2⟩:=av8 b39 fuel _ _ hf
 obtain ⟨u,t,e1,e2,e3,e4⟩:=h2 0 _ rfl
 obtain ⟨hh,rfl⟩:=b3Q e4
 injection e1 with e1
 subst e1
 exact ⟨hh,.c (.t e3)⟩
theorem b3n {shs:List Sh} {l:List Value} (h:aq5 w shs l):∃ts:List T,ts.length=shs.length∧(∀ (j:Nat) (s:Sh) (t:T),shs[j]? =some s->ts[j]? =some t->Fit s t)∧RS w (fun _=>none) (fun _=>False) (.agg (ts.map C.t)) (.agg ⟨l⟩):=by
 obtain ⟨h0,ts,h1,h2⟩:=h
 refine ⟨ts,h1,fun j s t hs ht=>?_,?_⟩
 ·obtain ⟨u,t',e1,e2,e3,e4⟩:=h2 j s hs
  rw [ht] at e2;injection e2 with e2;subst e2;exact e4
 ·refine .agg l (by simp [h0,h1]) fun j c hc=>?_
  rw [List.getElem?_map] at hc
  obtain ⟨t,ht,rfl⟩:=Option.map_eq_some_iff.1 hc
  have hj:j<shs.length:=by rw [← h1];exact (lg1 ht).1
  obtain ⟨u,t',e1,e2,e3,e4⟩:=h2 j _ (lg0 hj)
  rw [ht] at e2;injection e2 with e2;subst e2
  rw [lg3,e1]
  exact .t e3
end
end
section
open Go.RowKit Go.ChangeShapes Go.WideShapes Go.Deep
def aE1 (P:Program):List Field->List (List Sh)->Nat->Prop
 |[],[],_=>True
 |f::fs,p::ps,o=>(f.offset=o∧P.cellsOf f.type=p.length∧C8 P f.type p)∧aE1 P fs ps (o+p.length)
 |_,_,_=>False
theorem aE1.get {P:Program}:∀{fs:List Field} {ps:List (List Sh)} {o:Nat},aE1 P fs ps o->ps.length=fs.length∧∀(i:Nat) (f:Field) (p:List Sh),fs[i]? =some f->ps[i]? =some p->f.offset=o+(ps.take i).flatten.length∧P.cellsOf f.type=p.length∧C8 P f.type p
 |[],[],o,_=>⟨rfl,by simp⟩
 |f::fs,p::ps,o,h=>by
  obtain ⟨⟨h1,h2,h3⟩,h4⟩:=h
  obtain ⟨l,g⟩:=aE1.get h4
  refine ⟨by simp [l],fun i f' p' hf hp=>?_⟩
  cases i with
  |zero=>simp at hf hp;subst hf hp;exact ⟨by simp [h1],h2,h3⟩
  |succ i=>
   obtain ⟨g1,g2,g3⟩:=g i f' p' (by simpa using hf) (by simpa using hp)
   exact ⟨by rw [g1];simp;omega,g2,g3⟩
 |[],_::_,_,h=>h.elim
 |_::_,[],_,h=>h.elim
theorem Q8 {P:Program} {t:TypeId} {fs:Array Field} (parts:List (List Sh)) (h:P.underlying t=some (.struct fs)) (hf:aE1 P fs.toList parts 0) (hc:P.cellsOf t=parts.flatten.length):C8 P t parts.flatten:=by
 obtain ⟨l,g⟩:=hf.get
 refine C8.struct parts h (by simpa using l) (fun i f p hi hp=>?_) hc (fun i f p hi hp=>?_)
 ·obtain ⟨g1,g2,g3⟩:=g i f p (by simpa using hi) hp
  exact ⟨by rw [g1];simp,g2⟩
 ·exact (g i f p (by simpa using hi) hp).2.2
theorem b2t:C8 Tryz.prog 4 [.bool]:=.bool Tryz.underlying4
theorem b0W:C8 Tryz.prog 77 [d8,d8,d8]:=
 Q8 [[d8],[d8],[d8]] Tryz.underlying77 ⟨⟨by kernel_rfl,by kernel_rfl,x6⟩,⟨by kernel_rfl,by kernel_rfl,x6⟩,⟨by kernel_rfl,by kernel_rfl,x6⟩,trivial⟩ (by kernel_rfl)
theorem b28:C8 Tryz.prog 79 [d8,d8,d8,d8,d8,.bool]:=
 Q8 [[d8],[d8],[d8],[d8],[d8],[.bool]] Tryz.underlying79 ⟨⟨by kernel_rfl,by kernel_rfl,x6⟩,⟨by kernel_rfl,by kernel_rfl,x6⟩,⟨by kernel_rfl,by kernel_rfl,x6⟩,⟨by kernel_rfl,by kernel_rfl,x6⟩,⟨by kernel_rfl,by kernel_rfl,x6⟩,⟨by kernel_rfl,by kernel_rfl,b2t⟩,trivial⟩ (by kernel_rfl)
theorem b2z:C8 Tryz.prog 209 [d8,d8,d8,d8,d8,d8]:=
 Q8 [[d8],[d8],[d8],[d8],[d8],[d8]] Tryz.underlying209 ⟨⟨by kernel_rfl,by kernel_rfl,x6⟩,⟨by kernel_rfl,by kernel_rfl,x6⟩,⟨by kernel_rfl,by kernel_rfl,x6⟩,⟨by kernel_rfl,by kernel_rfl,x6⟩,⟨by kernel_rfl,by kernel_rfl,x6⟩,⟨by kernel_rfl,by kernel_rfl,x6⟩,trivial⟩ (by kernel_rfl)
theorem aP6:C8 Tryz.prog 216 [d8,d8,d8,d8]:=
 Q8 [[d8],[d8],[d8],[d8]] Tryz.underlying216 ⟨⟨by kernel_rfl,by kernel_rfl,x6⟩,⟨by kernel_rfl,by kernel_rfl,x6⟩,⟨by kernel_rfl,by kernel_rfl,x6⟩,⟨by kernel_rfl,by kernel_rfl,x6⟩,trivial⟩ (by kernel_rfl)
theorem b2x:C8 Tryz.prog 34 [d8,d8,d8]:=
 Q8 [[d8],[d8],[d8]] Tryz.underlying34 ⟨⟨by kernel_rfl,by kernel_rfl,x6⟩,⟨by kernel_rfl,by kernel_rfl,x6⟩,⟨by kernel_rfl,by kernel_rfl,x6⟩,trivial⟩ (by kernel_rfl)
theorem b0I:C8 Tryz.prog 36 [d8,d8]:=
 Q8 [[d8],[d8]] Tryz.underlying36 ⟨⟨by kernel_rfl,by kernel_rfl,x6⟩,⟨by kernel_rfl,by kernel_rfl,x6⟩,trivial⟩ (by kernel_rfl)
theorem aL2:C8 Tryz.prog 22 [.sl [d8,d8,d8]]:=.sl Tryz.underlying22 (by kernel_rfl) (by decide) b0W
theorem b0K:C8 Tryz.prog 23 [.sl [d8,d8,d8,d8,d8,.bool]]:=.sl Tryz.underlying23 (by kernel_rfl) (by decide) b28
theorem b0E:C8 Tryz.prog 24 [.sl [d8,d8,d8,d8,d8,d8]]:=.sl Tryz.underlying24 (by kernel_rfl) (by decide) b2z
theorem aw1:C8 Tryz.prog 25 [.sl [d8,d8]]:=.sl Tryz.underlying25 (by kernel_rfl) (by decide) aO3
theorem ap0:C8 Tryz.prog 26 [.sl [d8,d8,d8,d8]]:=.sl Tryz.underlying26 (by kernel_rfl) (by decide) aP6
theorem b1i:C8 Tryz.prog 29 [.sl [d8,d8,d8]]:=.sl Tryz.underlying29 (by kernel_rfl) (by decide) b2x
theorem aM0:C8 Tryz.prog 30 [.sl [d8,d8]]:=.sl Tryz.underlying30 (by kernel_rfl) (by decide) b0I
abbrev b6U:List Sh:=[d8,d8,d8,.sl [d8,d8,d8],.sl [d8,d8,d8,d8,d8,.bool],.sl [d8,d8,d8,d8,d8,d8],.sl [d8,d8],.sl [d8,d8,d8,d8]]
theorem b6Z:C8 Tryz.prog 28 b6U:=
 Q8 [[d8],[d8],[d8],[.sl [d8,d8,d8]],[.sl [d8,d8,d8,d8,d8,.bool]],[.sl [d8,d8,d8,d8,d8,d8]],[.sl [d8,d8]],[.sl [d8,d8,d8,d8]]] Tryz.underlying28
  ⟨⟨by kernel_rfl,by kernel_rfl,x6⟩,⟨by kernel_rfl,by kernel_rfl,x6⟩,⟨by kernel_rfl,by kernel_rfl,x6⟩,⟨by kernel_rfl,by kernel_rfl,aL2⟩,⟨by kernel_rfl,by kernel_rfl,b0K⟩,⟨by kernel_rfl,by kernel_rfl,b0E⟩,⟨by kernel_rfl,by kernel_rfl,aw1⟩,⟨by kernel_rfl,by kernel_rfl,ap0⟩,trivial⟩ (by kernel_rfl)
abbrev b9r:List Sh:=b6U++[.sl [d8,d8,d8],.sl [d8,d8]]
theorem b7M:C8 Tryz.prog 32 b9r:=
 Q8 [b6U,[.sl [d8,d8,d8]],[.sl [d8,d8]]] Tryz.underlying32
  ⟨⟨by kernel_rfl,by kernel_rfl,b6Z⟩,⟨by kernel_rfl,by kernel_rfl,b1i⟩,⟨by kernel_rfl,by kernel_rfl,aM0⟩,trivial⟩ (by kernel_rfl)
theorem D2 {t:T} (h:Fit d8 t):∃n,t=ti n:=by obtain ⟨n,h,_⟩:=h.int_inv;exact ⟨n,h⟩
section
variable {α:Type} {t:T}
theorem aK9 (h:Fit (.sl [d8,d8,d8]) t):∃l:List H6,t=a0T l:=by
 obtain ⟨xs,rfl,_⟩:=h.sl_inv H6.row (fun _=>True) (fun r hl hr=>by
  match r,hl with
  |[a,b,c],_=>
   obtain ⟨a,rfl⟩:=D2 (hr 0 _ _ rfl rfl)
   obtain ⟨b,rfl⟩:=D2 (hr 1 _ _ rfl rfl)
   obtain ⟨c,rfl⟩:=D2 (hr 2 _ _ rfl rfl)
   exact ⟨⟨a,b,c⟩,rfl,trivial⟩)
 exact ⟨xs,rfl⟩
theorem b1q (h:Fit (.sl [d8,d8,d8]) t):∃l:List I8,t=ab2 l:=by
 obtain ⟨xs,rfl,_⟩:=h.sl_inv I8.row (fun _=>True) (fun r hl hr=>by
  match r,hl with
  |[a,b,c],_=>
   obtain ⟨a,rfl⟩:=D2 (hr 0 _ _ rfl rfl)
   obtain ⟨b,rfl⟩:=D2 (hr 1 _ _ rfl rfl)
   obtain ⟨c,rfl⟩:=D2 (hr 2 _ _ rfl rfl)
   exact ⟨⟨a,b,c⟩,rfl,trivial⟩)
 exact ⟨xs,rfl⟩
theorem aT7 (h:Fit (.sl [d8,d8]) t):∃l:List R9,t=a1N l:=by
 obtain ⟨xs,rfl,_⟩:=h.sl_inv R9.row (fun _=>True) (fun r hl hr=>by
  match r,hl with
  |[a,b],_=>
   obtain ⟨a,rfl⟩:=D2 (hr 0 _ _ rfl rfl)
   obtain ⟨b,rfl⟩:=D2 (hr 1 _ _ rfl rfl)
   exact ⟨⟨a,b⟩,rfl,trivial⟩)
 exact ⟨xs,rfl⟩
theorem aD5 (h:Fit (.sl [d8,d8]) t):∃l:List B4,t=G8 l:=by
 obtain ⟨xs,rfl,_⟩:=h.sl_inv B4.row (fun _=>True) (fun r hl hr=>by
  match r,hl with
  |[a,b],_=>
   obtain ⟨a,rfl⟩:=D2 (hr 0 _ _ rfl rfl)
   obtain ⟨b,rfl⟩:=D2 (hr 1 _ _ rfl rfl)
   exact ⟨⟨a,b⟩,rfl,trivial⟩)
 exact ⟨xs,rfl⟩
theorem au6 (h:Fit (.sl [d8,d8,d8,d8]) t):∃l:List a0K,t=a0f l:=by
 obtain ⟨xs,rfl,_⟩:=h.sl_inv a0K.row (fun _=>True) (fun r hl hr=>by
  match r,hl with
  |[a,b,c,d],_=>
   obtain ⟨a,rfl⟩:=D2 (hr 0 _ _ rfl rfl)
   obtain ⟨b,rfl⟩:=D2 (hr 1 _ _ rfl rfl)
   obtain ⟨c,rfl⟩:=D2 (hr 2 _ _ rfl rfl)
   obtain ⟨d,rfl⟩:=D2 (hr 3 _ _ rfl rfl)
   exact ⟨⟨a,b,c,d⟩,rfl,trivial⟩)
 exact ⟨xs,rfl⟩
theorem b14 (h:Fit (.sl [d8,d8,d8,d8,d8,d8]) t):∃l:List I6,t=Y3 l:=by
 obtain ⟨xs,rfl,_⟩:=h.sl_inv I6.row (fun _=>True) (fun r hl hr=>by
  match r,hl with
  |[a,b,c,d,e,f],_=>
   obtain ⟨a,rfl⟩:=D2 (hr 0 _ _ rfl rfl)
   obtain ⟨b,rfl⟩:=D2 (hr 1 _ _ rfl rfl)
   obtain ⟨c,rfl⟩:=D2 (hr 2 _ _ rfl rfl)
   obtain ⟨d,rfl⟩:=D2 (hr 3 _ _ rfl rfl)
   obtain ⟨e,rfl⟩:=D2 (hr 4 _ _ rfl rfl)
   obtain ⟨f,rfl⟩:=D2 (hr 5 _ _ rfl rfl)
   exact ⟨⟨a,b,c,d,e,f⟩,rfl,trivial⟩)
 exact ⟨xs,rfl⟩
theorem b1n (h:Fit (.sl [d8,d8,d8,d8,d8,.bool]) t):∃l:List x8,t=a1v l:=by
 obtain ⟨xs,rfl,_⟩:=h.sl_inv x8.row (fun _=>True) (fun r hl hr=>by
  match r,hl with
  |[a,b,c,d,e,f],_=>
   obtain ⟨a,rfl⟩:=D2 (hr 0 _ _ rfl rfl)
   obtain ⟨b,rfl⟩:=D2 (hr 1 _ _ rfl rfl)
   obtain ⟨c,rfl⟩:=D2 (hr 2 _ _ rfl rfl)
   obtain ⟨d,rfl⟩:=D2 (hr 3 _ _ rfl rfl)
   obtain ⟨e,rfl⟩:=D2 (hr 4 _ _ rfl rfl)
   obtain ⟨f,rfl⟩:=(hr 5 _ _ rfl rfl).bool_inv
   exact ⟨⟨a,b,c,d,e,f⟩,rfl,trivial⟩)
 exact ⟨xs,rfl⟩
end
section
variable {H:Type} {enc:TypeId × Value->H} {w:World} {base:Nat} {spare:Nat->Bool} {held:Bool}
theorem open_fracs {v:Value} {d:DataW H} {p:List MemPlace} {r:Reach} {b0:Nat} (hv:Value.okWide Tryz.prog w r b0 44 v) (h:DataW.Trod enc Tryz.prog w base spare held 44 v d p):∃l,RS w (fun _=>none) (fun _=>False) (i8 l) v:=by
 obtain ⟨a,len,cap,rfl⟩:=okWide_slice Tryz.underlying44 hv
 obtain ⟨fuel,hf⟩:=h
 obtain ⟨_,ts,h1,h2⟩:=av8 am3 fuel _ _ hf
 obtain ⟨u,t,e1,e2,e3,e4⟩:=h2 0 _ rfl
 obtain ⟨hh,rfl⟩:=am4 e4
 injection e1 with e1
 subst e1
 exact ⟨hh,.c (.t e3)⟩
theorem open_trace {v:Value} {d:DataW H} {p:List MemPlace} {r:Reach} {b0:Nat} (hv:Value.okWide Tryz.prog w r b0 32 v) (h:DataW.Trod enc Tryz.prog w base spare held 32 v d p):∃t:f5,RS w (fun _=>none) (fun _=>False) (trS t) v:=by
 obtain ⟨⟨l⟩,rfl,_⟩:=okWide_struct Tryz.underlying32 hv
 obtain ⟨fuel,hf⟩:=h
 obtain ⟨ts,h1,h2,h3⟩:=b3n (av8 b7M fuel _ _ hf)
 match ts,h1 with
 |[a,b,c,d,e,f,g,h,i,j],_=>
  obtain ⟨a,rfl⟩:=D2 (h2 0 _ _ rfl rfl)
  obtain ⟨b,rfl⟩:=D2 (h2 1 _ _ rfl rfl)
  obtain ⟨c,rfl⟩:=D2 (h2 2 _ _ rfl rfl)
  obtain ⟨d,rfl⟩:=aK9 (h2 3 _ _ rfl rfl)
  obtain ⟨e,rfl⟩:=b1n (h2 4 _ _ rfl rfl)
  obtain ⟨f,rfl⟩:=b14 (h2 5 _ _ rfl rfl)
  obtain ⟨g,rfl⟩:=aD5 (h2 6 _ _ rfl rfl)
  obtain ⟨h,rfl⟩:=au6 (h2 7 _ _ rfl rfl)
  obtain ⟨i,rfl⟩:=b1q (h2 8 _ _ rfl rfl)
  obtain ⟨j,rfl⟩:=aT7 (h2 9 _ _ rfl rfl)
  exact ⟨⟨⟨a,b,c,d,e,f,g,h⟩,i,j⟩,h3⟩
end
end
section
open Go.RowKit Go.ChangeShapes Go.WideShapes Go.ChangeAt
set_option maxRecDepth 100000 in
theorem a2y (os:Os) (started:os.Started) (H:Type) (enc:TypeId × Value->H):
 ReturnsInHanded {} Tryz.checked os 13 .any (Rows.quarantineProvesSpec.pre6 enc Tryz.prog Tryz.f13 Rows.quarantineProvesRow.domain false) (Rows.quarantineProvesSpec.post enc Tryz.prog Tryz.f13 false true false false):=by
 refine returnsInHanded_of_change (C:=Tryz.checked) b6g started (by kernel_rfl) Tryz.func13
  (ChangeSpec.witness6 (enc:=enc) (C:=Tryz.checked) false ⟨#[],#[.agg #[.int .i64 0,.int .i64 0,.int .i64 0,.slice none 0 0,.slice none 0 0,.slice none 0 0,.slice none 0 0,.slice none 0 0,.slice none 0 0,.slice none 0 0],.int .i64 0,.int .i64 0,.int .i64 0,.slice none 0 0,.slice none 0 0],[]⟩ 12 (by kernel_rfl) (by kernel_rfl) (by kernel_rfl) (by kernel_rfl)) ?_
 intro W base args ds gs before hval0 hW hcnd _
 have hval:∀(j:Nat) t v,Tryz.f13.params[j]? =some t->args[j]? =some v->Value.okWide Tryz.prog W .any base t v:=hval0
 have hW':=hW
 obtain ⟨p,q,hA0,hV,rfl,hfz,hnd⟩:=hW
 have hA:DataW.TrodAll enc Tryz.prog W 0 (fun _=>true) true Tryz.f13.params.toList args.toList ds p:=hA0
 rw [Tryz.params13] at hA hval
 obtain ⟨v0,vs0,d0,ds0,p0,q0,hargs,rfl,rfl,h0,r0⟩:=trodAll_cons hA
 obtain ⟨v1,vs1,d1,ds1,p1,q1,rfl,rfl,rfl,h1,r1⟩:=trodAll_cons r0
 obtain ⟨v2,vs2,d2,ds2,p2,q2,rfl,rfl,rfl,h2,r2⟩:=trodAll_cons r1
 obtain ⟨v3,vs3,d3,ds3,p3,q3,rfl,rfl,rfl,h3,r3⟩:=trodAll_cons r2
 obtain ⟨v4,vs4,d4,ds4,p4,q4,rfl,rfl,rfl,h4,r4⟩:=trodAll_cons r3
 obtain ⟨v5,vs5,d5,ds5,p5,q5,rfl,rfl,rfl,h5,r5⟩:=trodAll_cons r4
 obtain ⟨rfl,rfl,rfl⟩:=trodAll_nil r5
 obtain rfl:args=#[v0,v1,v2,v3,v4,v5]:=by cases args;simp_all
 obtain ⟨rfl,rfl⟩:=trodVars_none hV
 obtain ⟨a0,t0⟩:=Go.Proofs.YtdbogogfeffjlaaGreat.open_trace (hval 0 32 v0 rfl rfl) h0
 obtain ⟨a1,rfl,rfl,rfl,w1⟩:=open_int Tryz.underlying3 (hval 1 3 v1 rfl rfl) h1
 obtain ⟨a2,rfl,rfl,rfl,w2⟩:=open_int Tryz.underlying3 (hval 2 3 v2 rfl rfl) h2
 obtain ⟨a3,rfl,rfl,rfl,w3⟩:=open_int Tryz.underlying3 (hval 3 3 v3 rfl rfl) h3
 obtain ⟨a4,t4⟩:=Go.Proofs.YtdbogogfeffjlaaGreat.open_fracs (hval 4 44 v4 rfl rfl) h4
 obtain ⟨a5,t5⟩:=Go.Proofs.YtdbogogfeffjlaaGreat.open_hist (hval 5 99 v5 rfl rfl) h5
 refine (at0 (a5z a0 a1 a2 a3 a4 a5) (.cons (t0) (.cons (aT1) (.cons (aT1) (.cons (aT1) (.cons (t4) (.cons (t5) (.nil)))))))).mono fun ee W' ⟨he,hg⟩=>?_
 subst he
 exact ⟨_,rfl,b2P hW' b3x (by rw [Tryz.params13];intro t ht;simp at ht;first|(rcases ht with rfl|rfl|rfl|rfl|rfl|rfl<;>exact ⟨by kernel_rfl,of_decide_eq_true (by kernel_rfl)⟩)|(rcases ht with rfl|rfl|rfl|rfl<;>exact ⟨by kernel_rfl,of_decide_eq_true (by kernel_rfl)⟩)) rfl rfl (by kernel_rfl) Tryz.underlying4 hg⟩
theorem a2Y:(Rows.quarantineProvesRow.inPlace == Tryz.pinned.checked.prog.inPlace 13)=true:=by kernel_rfl
theorem a40:(Rows.quarantineProvesRow.unfollowed == Tryz.pinned.checked.prog.unfollowed 13)=true:=by kernel_rfl
theorem a4g:(Rows.quarantineProvesRow.recurses == Tryz.pinned.checked.prog.recurses 13)=true:=by kernel_rfl
theorem a2S:(Rows.quarantineProvesRow.named == Tryz.pinned.checked.prog.varsNamed 13)=true:=by kernel_rfl
theorem a3s:(Rows.quarantineProvesRow.loops == (Tryz.f13.params.toList++Rows.quarantineProvesSpec.plain.varTypes Tryz.pinned.checked.prog).any (Tryz.pinned.checked.prog.loopsFrom ·))=true:=by kernel_rfl
set_option maxRecDepth 100000 in
theorem a2u:joinedFacts Tryz.pinned.checked.prog 13 Tryz.f13 (Rows.quarantineProvesSpec) Rows.quarantineProvesRow=true:=b1v (by kernel_rfl) b5z b4X (by kernel_rfl) (by kernel_rfl) (by kernel_rfl) (by kernel_rfl) (by kernel_rfl) (by kernel_rfl) a2Y a40 a4g a2S (by kernel_rfl) (by kernel_rfl) (by kernel_rfl) a3s (by kernel_rfl) (by kernel_rfl) (by kernel_rfl) (by kernel_rfl) (by kernel_rfl) b61 (by kernel_rfl) b1T b3Z b5S b58 (by kernel_rfl) (by kernel_rfl) (by kernel_rfl) (by kernel_rfl) (by kernel_rfl)
theorem quarantineProves_holds:Rows.QuarantineProvesSaid:=
 OpenClaim.holds_of_wide 13 Tryz.f13 rfl rfl rfl rfl rfl rfl rfl ⟨rfl,rfl,rfl,rfl,rfl⟩ rfl rfl rfl rfl rfl (by kernel_rfl) Tryz.func13 a2u
  (of_decide_eq_true (by kernel_rfl)) (by unfold Func.isWrapper;first|(rw [if_pos (by decide +kernel)];kernel_rfl)|(rw [if_neg (by decide +kernel)];exact ⟨rfl,rfl⟩))
  (fun os started H enc _=>a2y os started H enc)
end
end Go.Proofs.YtdbogogfeffjlaaGreat
