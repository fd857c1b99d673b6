/- Chapter 21 in plain Lean: the system of a kind of foreign matter, and its solutions. No program is in sight. -/
import Derived.Test.YtdbogogfeffjlaaGreatQf7
namespace Go.Proofs.YtdbogogfeffjlaaGreat
set_option linter.unusedVariables false
set_option linter.unusedSimpArgs false
set_option maxRecDepth 100000
open Go.RowKit
open St1 St2 St3 St4 St5 St6 St7 St8 StA StB
theorem a1P (a b:List Int) (ha:a.length<=1000000) (hb:b.length<=1000000):a9 Tryz.prog 38 [e7 a,e7 b] [] (f9 (decide (a=b))) []:=by
 have s:=aW4 a b ha hb
 (refine ac Tryz.func38 ?_;(conv=>whnf);repeat (refine zy ?_;conv=>whnf))
 repeat' (first|refine zz ?_|refine qp s ?_|refine zd ?_ ?_<;>intro h<;>try omega|refine zy ?_|fail)<;>conv=>whnf
 all_goals (refine b7 ?_;symm;assumption)
def f03:J9:=⟨3,0,1⟩
def f14:J9:=⟨4,0,1⟩
theorem b9b:a9 Tryz.prog 34 [trS (exQ []),a7 .i64 0] [] (.tup [e7 [0],a7 .i64 0]) []:=by
 have h:=a58 (exQ []) (K6 _ (by decide)) a4F 0 f03 (by decide) rfl
 rw [show F5 (exQ []) f03.kind f03.mv.toNat=[0] from b3d] at h
 exact h
theorem b9r:a9 Tryz.prog 34 [trS (exQ []),a7 .i64 1] [] (.tup [e7 [1],a7 .i64 0]) []:=by
 have h:=a58 (exQ []) (K6 _ (by decide)) a4F 1 f14 (by decide) rfl
 rw [show F5 (exQ []) f14.kind f14.mv.toNat=[1] from b7a] at h
 exact h
theorem b9C:a9 Tryz.prog 34 [trS (exQ []),a7 .i64 2] [] (.tup [.c (.t (.sl 0 .nil [])),a7 .i64 1]) []:=
 aj6 (exQ []) (K6 _ (by decide)) 2 (by unfold T1;simp [exQ])
theorem b9g:a9 Tryz.prog 34 [trS (exQ [⟨2,0⟩]),a7 .i64 0] [] (.tup [e7 [],a7 .i64 0]) []:=by
 have h:=a58 (exQ [⟨2,0⟩]) (K6 _ (by decide)) b8T 0 f03 (by decide) rfl
 rw [show F5 (exQ [⟨2,0⟩]) f03.kind f03.mv.toNat=[] from b95] at h
 exact h
theorem b9L:a9 Tryz.prog 23 [trS (exQ []),a7 .i64 0] [] (.tup [e7 [0,2,3],e7 [4,5],a7 .i64 0]) []:=by
 have h:=a2x (exQ []) (K6 _ (by decide)) a4F 0 f03 (by decide) rfl
 rw [show t8 (exQ []) f03.kind f03.mv.toNat=[0,2,3] from b8q.1,show v5 (exQ []) f03.kind f03.mv.toNat=[4,5] from b8q.2] at h
 exact h
theorem b9O:a9 Tryz.prog 23 [trS (exQ []),a7 .i64 1] [] (.tup [e7 [1,4],e7 [4],a7 .i64 0]) []:=by
 have h:=a2x (exQ []) (K6 _ (by decide)) a4F 1 f14 (by decide) rfl
 rw [show t8 (exQ []) f14.kind f14.mv.toNat=[1,4] from b7y.1,show v5 (exQ []) f14.kind f14.mv.toNat=[4] from b7y.2] at h
 exact h
theorem b9l:a9 Tryz.prog 39 [trS (exQ []),a7 .i64 0] [] (.tup [e7 [3],a7 .i64 0]) []:=by
 have h:=aP4 (exQ []) (K6 _ (by decide)) a4F 0 f03 (by decide) rfl
 rw [show a6O (exQ []) f03.kind f03.mv.toNat=[3] from bb6] at h
 exact h
theorem b9m:a9 Tryz.prog 39 [trS (exQ []),a7 .i64 1] [] (.tup [e7 [],a7 .i64 0]) []:=by
 have h:=aP4 (exQ []) (K6 _ (by decide)) a4F 1 f14 (by decide) rfl
 rw [show a6O (exQ []) f14.kind f14.mv.toNat=[] from bb3] at h
 exact h
theorem bb4:a9 Tryz.prog 42 [trS (exQ []),a7 .i64 0,a7 .i64 2] [] (.tup [a7 .i64 0,n6 ((a3m (exQ []) 0 0).map fz),f9 true]) []:=by
 have h:=a7s (exQ []) (K6 _ (by decide)) a4F 0 f03 (by decide) rfl 2 (by decide)
 rw [show a2u (exQ []) f03.kind 2 (F5 (exQ []) f03.kind f03.mv.toNat)=some 0 from exW] at h
 exact h
theorem b9n:a9 Tryz.prog 75 [trS (exQ []),a7 .i64 0,a7 .i64 2,a7 .i64 0,n6 ((a3m (exQ []) 0 0).map fz)] [] (f9 true) []:=by
 obtain ⟨w1,w2⟩:=a8j (kind:=0) (i:=0) a4F (by decide) (by decide) (by decide)
 have p2:=w2 2 (by decide) (by rw [b2X];rfl)
 have p3:=w2 3 (by decide) (by rw [b2X];rfl)
 unfold aj4 at p2 p3
 rw [if_pos (by decide)] at p2 p3
 exact b4P (exQ []) (K6 _ (by decide)) a4F 0 f03 (by decide) rfl 2 (by decide) 0 (by rw [b4O];decide) (a3m (exQ []) 0 0) (aJ7 a4F (by decide) (by decide) (by decide)) ((Q4 a4F (by decide) (by decide)).2 w1) p2 p3
theorem bc0:a9 Tryz.prog 54 [trS (exQ []),a7 .i64 0,a7 .i64 4] [] (.tup [aF9 (a2i (exQ []) 0 3 4 [0,1]),f9 true]) []:=by
 have h:=b5i (exQ []) (K6 _ (by decide)) a4F 0 f03 (by decide) rfl 4 (by decide) exN
 rw [b4O] at h
 exact h
theorem ba9:a9 Tryz.prog 76 [trS (exQ []),a7 .i64 0,a7 .i64 4,aF9 (a2i (exQ []) 0 3 4 [0,1])] [] (f9 true) []:=by
 have hc:a9Q (exQ []) 0 3 4 (a2i (exQ []) 0 3 4 [0,1])=true:=by
  have:=aQ3 (kind:=0) (mv:=3) (g:=4) a4F (by decide) (by decide) (by decide) (by decide) (by rw [a9r];rfl)
  rwa [b4O] at this
 have e:a2i (exQ []) 0 3 4 [0,1]=((i9 (exQ []).ev).map fun i=>av8 (exQ []) 0 3 4 i).map fun y=>y.map fz:=by rw [b4O];unfold a2i;rw [List.map_map];rfl
 rw [e] at hc ⊢
 refine b2e (exQ []) (K6 _ (by decide)) a4F 0 f03 (by decide) rfl 4 (by decide) _ (fun k i y hi hy=>b2p a4F k i y hi hy) hc
set_option maxHeartbeats 4000000 in
theorem aI7:a9 Tryz.prog 22 [] [] (f9 true) []:=by
 have x0:=a8x []
 have x1:=a8x [⟨2,0⟩]
 have o0:=b9b
 have o1:=b9r
 have o2:=b9C
 have oc:=b9g
 have l0:=b9L
 have l1:=b9O
 have d0:=b9l
 have d1:=b9m
 have wi:=bb4
 have sh:=b9n
 have pr:=bc0
 have cl:=ba9
 have m1:=a1P [0] [0] (by decide) (by decide)
 have m2:=a1P [1] [1] (by decide) (by decide)
 have m3:=a1P [0,2,3] [0,2,3] (by decide) (by decide)
 have m4:=a1P [4,5] [4,5] (by decide) (by decide)
 have m5:=a1P [1,4] [1,4] (by decide) (by decide)
 have m6:=a1P [4] [4] (by decide) (by decide)
 have m7:=a1P [3] [3] (by decide) (by decide)
 rw [decide_eq_true rfl] at m1 m2 m3 m4 m5 m6 m7
 generalize exQ []=t0 at *
 generalize exQ [⟨2,0⟩]=t1 at *
 generalize (a3m t0 0 0).map fz=wz at *
 generalize a2i t0 0 3 4 [0,1]=pz at *
 (refine ac Tryz.func22 ?_;(conv=>whnf);repeat (refine zy ?_;conv=>whnf))
 repeat' (first|refine zz ?_|refine qp x1 ?_|refine qp o0 ?_|refine qp o1 ?_|refine qp o2 ?_|refine qp oc ?_|refine qp l0 ?_|refine qp l1 ?_|refine qp d0 ?_|refine qp d1 ?_|refine qp wi ?_|refine qp sh ?_|refine qp pr ?_|refine qp cl ?_|refine qp m1 ?_|refine qp m2 ?_|refine qp m3 ?_|refine qp m4 ?_|refine qp m5 ?_|refine qp m6 ?_|refine qp m7 ?_|refine .inl ⟨_,_,a0k x0 ⟨rfl,trivial⟩ rfl,?_⟩|refine a3W.weak ?_|refine zd ?_ ?_<;>intro h<;>try omega|refine zy ?_|fail)<;>conv=>whnf
 all_goals first
  |omega
  |exact b7 rfl
  |exact absurd rfl h
theorem b2A (l:List Int) (n:Int) (hl:l.length<=1000000):a9 Tryz.prog 40 [e7 l,a7 .i64 n] [] (f9 (l.any fun x=>decide (x=n))) []:=by
 have m1:(l.map f8).length=l.length:=by simp
 (refine ac Tryz.func40 ?_;(conv=>whnf);repeat (refine zy ?_;conv=>whnf))
 repeat' (first|refine zz ?_|refine zd ?_ ?_<;>intro h<;>try omega|refine zy ?_|fail)<;>conv=>whnf
 refine f5 d7 (fun k=>([e7 l,a7 .i64 n,J,J,J,a7 .i64 k,J,J,J,J,J,J,J,J,J,J,J,J],[])) l.length (fun k=>(l.take k).any (fun x=>decide (x=n))=false) [] (by simp)
  ⟨rfl,rfl,trivial,⟨rfl,rfl,rfl,trivial⟩⟩ ?_
 intro k hk hI
 by_cases hlt:k<l.length
 ·obtain ⟨x,hx⟩:∃x,l[k]? =some x:=⟨_,lg0 hlt⟩
  by_cases hxn:x=n
  ·have e:l.any (fun x=>decide (x=n))=true:=List.any_eq_true.2 ⟨x,lg2 hx,decide_eq_true hxn⟩
   rw [e]
   conv=>whnf
   repeat' (first|refine zz ?_|refine d8 hx ?_|refine zd ?_ ?_<;>intro h<;>try omega|refine zy ?_|fail)<;>conv=>whnf
   all_goals first
    |omega
    |exact b7 rfl
  ·conv=>whnf
   repeat' (first|refine zz ?_|refine d8 hx ?_|refine zd ?_ ?_<;>intro h<;>try omega|refine zy ?_|fail)<;>conv=>whnf
   all_goals first
    |omega
    |exact ⟨hlt,by rw [a5V hx,List.any_append,hI];simp [hxn],[],rfl,rfl,trivial,⟨rfl,rfl,rfl,trivial⟩⟩
 ·have hke:k=l.length:=by omega
  subst hke
  rw [lg4 (Nat.le_refl _)] at hI
  rw [hI]
  conv=>whnf
  repeat' (first|refine zz ?_|refine zd ?_ ?_<;>intro h<;>try omega|refine zy ?_|fail)<;>conv=>whnf
  all_goals first
   |omega
   |exact b7 rfl
theorem a0i {t:e8} {kind:Int} {mv g:Nat}:g ∈ t8 t kind mv↔g<t.ev.moves.length∧C5 t kind mv g=true:=by
 unfold t8 J0 X2
 rw [List.mem_filter,List.mem_filter,List.mem_range,decide_eq_true_eq]
 exact ⟨fun h=>⟨h.2,h.1.2⟩,fun h=>⟨⟨by omega,h.2⟩,h.1⟩⟩
theorem a8v {t:e8} {kind:Int} {mv p:Nat}:p ∈ v5 t kind mv↔p<t.ev.places.length∧C5 t kind mv (t.ev.moves.length+p)=true:=by
 unfold v5 F8 X2
 rw [List.mem_map]
 constructor
 ·rintro ⟨g,hg,rfl⟩
  rw [List.mem_filter,List.mem_filter,List.mem_range] at hg
  obtain ⟨⟨h1,h2⟩,h3⟩:=hg
  have h3:¬g<t.ev.moves.length:=by simpa using h3
  exact ⟨by omega,by rw [show t.ev.moves.length+(g - t.ev.moves.length)=g by omega];exact h2⟩
 ·rintro ⟨h1,h2⟩
  exact ⟨t.ev.moves.length+p,by rw [List.mem_filter,List.mem_filter,List.mem_range];exact ⟨⟨by omega,h2⟩,by simp⟩,by omega⟩
theorem af1 {l:List Nat} {g:Nat}:((w6 l).any fun x=>decide (x=(g:Int)))=decide (g ∈ l):=by
 rw [Bool.eq_iff_iff,List.any_eq_true,decide_eq_true_eq]
 unfold w6
 constructor
 ·rintro ⟨x,hx,he⟩
  obtain ⟨n,hn,rfl⟩:=List.mem_map.1 hx
  have:=of_decide_eq_true he
  have e:n=g:=by omega
  rw [← e];exact hn
 ·intro h;exact ⟨(g:Int),List.mem_map.2 ⟨g,h,rfl⟩,decide_eq_true rfl⟩
theorem b2n {t:e8} {kind:Int} {mv g:Nat} (hg:g<t.ev.moves.length):((w6 (t8 t kind mv)).any fun x=>decide (x=(g:Int)))=C5 t kind mv g:=by
 rw [af1]
 cases h:C5 t kind mv g with
 |true=>exact decide_eq_true (a0i.2 ⟨hg,h⟩)
 |false=>exact decide_eq_false fun h'=>by rw [(a0i.1 h').2] at h;cases h
structure a71 (t:e8) (find:Int) (f:J9):Prop where
 q:QT t
 s:t.Sized
 f0:0<=find
 hf:t.finds[find.toNat]? =some f
 k0:0<=f.kind
 k1:f.kind<8
 m0:0<=f.mv
 m1:f.mv<t.ev.moves.length
 ml:f.mv.toNat<t.ev.moves.length
theorem b5q {t:e8} {m:Int} {find:Int} (hm:m<=8) (hs:Z3 t m=true) (hf:T1 t find=true):∃f,a71 t find f:=by
 obtain ⟨s1,s2,s3⟩:=a2f (by omega) hs
 obtain ⟨h1,h2,f,h3⟩:=a59 hf
 obtain ⟨q1,q2,q3,q4,q5⟩:=n8 h1
 have hg:=E6 q4 f (lg2 h3)
 unfold Z3 a23 at hs
 simp only [Bool.and_eq_true,decide_eq_true_eq] at hs
 exact ⟨f,⟨h1,by omega,by omega⟩,s1,h2,h3,by omega,by omega,by omega,by omega,by omega⟩
theorem b6I {t:e8} {find:Int} {f:J9} (h:a71 t find f) (g:Nat) (hg:g<t.ev.moves.length) (i:Nat) (hi:a2u t f.kind g (F5 t f.kind f.mv.toNat)=some i):
 a9 Tryz.prog 44 [trS t,a7 .i64 find,a7 .i64 g,a7 .i64 i,n6 ((a3m t f.kind i).map fz)] [] (f9 true) []:=by
 obtain ⟨h1,h2⟩:=b1J hi
 obtain ⟨h3,h4⟩:=List.mem_filter.1 h1
 have h0:0<t.ev.moves.length:=by omega
 have hp:=aJ7 (i:=i) h.q h0 h.k0 h.k1
 obtain ⟨w1,w2⟩:=a8j (i:=i) h.q h0 h.k0 h.k1
 have p2:=w2 g (by omega) h2
 have p3:=w2 f.mv.toNat (by have:=h.ml;omega) h4
 unfold aj4 at p2 p3
 rw [if_pos hg] at p2
 rw [if_pos h.ml] at p3
 have r:=b4j t h.s h.q find f h.f0 h.hf g hg i h3 ((a3m t f.kind i).map fz) ⟨b80 hp.l (fun v hv=>by have:=hp.v v hv;omega),fun _=>by rw [a6b];exact hp⟩
 have e:aZ6 (o6 t f.kind i) g f.mv.toNat ((a3m t f.kind i).map fz)=true:=by
  unfold aZ6
  rw [a1e,a6b,(Q4 h.q h.k0 h.k1).2 w1,decide_eq_true p2,decide_eq_true p3];rfl
 rwa [e] at r
def a5l (a b:List Int):Bool:=a.all fun x=>b.any fun y=>decide (y=x)
theorem P2 (a b:List Int) (ha:a.length<=1000000) (hb:b.length<=1000000):a9 Tryz.prog 24 [e7 a,e7 b] [] (f9 (a5l a b)) []:=by
 have m1:(a.map f8).length=a.length:=by simp
 unfold a5l
 (refine ac Tryz.func24 ?_;(conv=>whnf);repeat (refine zy ?_;conv=>whnf))
 repeat' (first|refine zz ?_|refine zd ?_ ?_<;>intro h<;>try omega|refine zy ?_|fail)<;>conv=>whnf
 refine f5 d7 (fun k=>([e7 a,e7 b,J,J,J,a7 .i64 k,J,J,J,J,J,J,J,J,J,J,J,J,J],[])) a.length (fun k=>(a.take k).all (fun x=>b.any fun y=>decide (y=x))=true) [] (by simp)
  ⟨rfl,rfl,trivial,⟨rfl,rfl,rfl,trivial⟩⟩ ?_
 intro k hk hI
 by_cases hlt:k<a.length
 ·obtain ⟨x,hx⟩:∃x,a[k]? =some x:=⟨_,lg0 hlt⟩
  have hh:=b2A b x hb
  cases hq:(b.any fun y=>decide (y=x)) with
  |true=>
   rw [hq] at hh
   conv=>whnf
   repeat' (first|refine zz ?_|refine qp hh ?_|refine d8 hx ?_|refine zd ?_ ?_<;>intro h<;>try omega|refine zy ?_|fail)<;>conv=>whnf
   all_goals first
    |omega
    |exact ⟨hlt,by rw [t6 hx,hI,hq];rfl,[],rfl,rfl,trivial,⟨rfl,rfl,rfl,trivial⟩⟩
  |false=>
   rw [hq] at hh
   rw [x9 hx hq]
   conv=>whnf
   repeat' (first|refine zz ?_|refine qp hh ?_|refine d8 hx ?_|refine zd ?_ ?_<;>intro h<;>try omega|refine zy ?_|fail)<;>conv=>whnf
   all_goals first
    |omega
    |exact b7 rfl
 ·have hke:k=a.length:=by omega
  subst hke
  rw [lg4 (Nat.le_refl _)] at hI
  rw [hI]
  conv=>whnf
  repeat' (first|refine zz ?_|refine zd ?_ ?_<;>intro h<;>try omega|refine zy ?_|fail)<;>conv=>whnf
  all_goals first
   |omega
   |exact b7 rfl
theorem ag7 {a b:List Nat}:a5l (w6 a) (w6 b)=true↔∀x ∈ a,x ∈ b:=by
 unfold a5l
 rw [List.all_eq_true]
 constructor
 ·intro h x hx
  have:=h (x:Int) (List.mem_map.2 ⟨x,hx,rfl⟩)
  rw [af1] at this
  exact of_decide_eq_true this
 ·intro h x hx
  obtain ⟨n,hn,rfl⟩:=List.mem_map.1 hx
  rw [af1]
  exact decide_eq_true (h n hn)
theorem aW7 {t:e8} {kind:Int} {i v:Nat} {z:List Rat} (hz:a6k t kind i z) (hi:i<t.ev.moves.length) (hv:v<t.ev.moves.length) (hp:0<z.getD v 0):0<z.getD i 0:=by
 obtain ⟨x,hx⟩:∃x,t.ev.moves[v]? =some x:=⟨_,lg0 hv⟩
 have h1:=b5t hz.p (i:=v) (x:=x) hx
 have h2:0<g7 (a1U (y8 t).ev z) (v+1):=by grind
 obtain ⟨j,hj,hpj⟩:=ax2 h2
 have hpj:0<a1U t.ev z j:=hpj
 unfold a1U at hpj
 cases hm:t.ev.moves[j]? with
 |none=>rw [hm] at hpj;dsimp only at hpj;exact absurd hpj (by decide +kernel)
 |some m=>
  rw [hm] at hpj
  simp only at hpj
  by_cases hb:o4 t.ev m.src=0
  ·rw [if_pos hb] at hpj
   by_cases hji:j=i
   ·subst hji;exact hpj
   ·rw [hz.o j ⟨m,hm,hb⟩ hji] at hpj
    exact absurd hpj (by decide +kernel)
  ·rw [if_neg hb] at hpj;exact absurd hpj (by decide +kernel)
theorem a3C {t:e8} {find:Int} {f:J9} (h:a71 t find f) {i:Nat} (hi:i ∈ F5 t f.kind f.mv.toNat):i<t.ev.moves.length∧C5 t f.kind f.mv.toNat i=true∧C5 t f.kind f.mv.toNat f.mv.toNat=true:=by
 obtain ⟨h1,h2⟩:=List.mem_filter.1 hi
 obtain ⟨m,hm,_⟩:=M7.1 h1
 have hl:=(lg1 hm).1
 obtain ⟨z,hz,hp⟩:=(ae1 h.q h.k0 h.k1 h.ml).1 h2
 have hs:=aW7 hz hl h.ml hp
 refine ⟨hl,List.any_eq_true.2 ⟨i,hi,(ae1 h.q h.k0 h.k1 hl).2 ⟨z,hz,hs⟩⟩,List.any_eq_true.2 ⟨i,hi,h2⟩⟩
theorem ay2 {t:e8} {find:Int} {f:J9} (h:a71 t find f):C5 t f.kind f.mv.toNat f.mv.toNat=decide (0<(F5 t f.kind f.mv.toNat).length):=by
 by_cases hl:F5 t f.kind f.mv.toNat=[]
 ·rw [hl];unfold C5;rw [hl];rfl
 ·obtain ⟨i,hi⟩:=List.exists_mem_of_ne_nil _ hl
  rw [(a3C h hi).2.2]
  symm
  exact decide_eq_true (List.length_pos_iff.2 hl)
theorem aF8 {t:e8} {kind:Int} {mv:Nat} (h:F5 t kind mv=[]):t8 t kind mv=[]∧v5 t kind mv=[]:=by
 have hr:∀g,C5 t kind mv g=false:=fun g=>by unfold C5;rw [h];rfl
 have e:∀k,X2 t kind mv k=[]:=fun k=>by unfold X2;simp [hr]
 unfold t8 J0 v5 F8
 rw [e];exact ⟨rfl,rfl⟩
theorem b2L {q:Int->Bool} {l:List Int} {i:Nat} {x:Int} (hx:l[i]? =some x) (hq:q x=true):(l.filter q)[((l.take i).filter q).length]? =some x:=by
 have hi:=(lg1 hx).1
 have e:l=l.take i++x::l.drop (i+1):=by
  rw [lg0 hi] at hx
  injection hx with hx
  rw [← hx,←List.drop_eq_getElem_cons hi,List.take_append_drop]
 conv=>lhs;arg 1;rw [e]
 rw [List.filter_append,List.getElem?_append_right (Nat.le_refl _)]
 simp [hq]
theorem b1Q {q:Int->Bool} {l:List Int} {i:Nat} {x:Int} (hx:l[i]? =some x):((l.take (i+1)).filter q).length=((l.take i).filter q).length+if q x=true then 1 else 0:=by
 rw [a5V hx,List.filter_append,List.length_append]
 cases h:q x<;>simp [h]
theorem aw9 (t:e8) (kind:Int) (mv:Nat):(t8 t kind mv).Pairwise (·<·):=by
 unfold t8 J0 X2
 exact (List.Pairwise.filter _ (List.Pairwise.filter _ List.pairwise_lt_range))
theorem b2Z {l:List Nat} (h:l.Pairwise (·<·)) {i:Nat} {x y:Int} (hx:(w6 l)[i]? =some x) (hy:(w6 l)[i+1]? =some y):x<y:=by
 unfold w6 at hx hy
 rw [List.getElem?_map] at hx hy
 cases ha:l[i]? with
 |none=>rw [ha] at hx;cases hx
 |some a=>
  cases hb:l[i+1]? with
  |none=>rw [hb] at hy;cases hy
  |some b=>
   rw [ha] at hx;rw [hb] at hy
   injection hx with hx;injection hy with hy
   have h1:=(lg1 ha)
   have h2:=(lg1 hb)
   obtain ⟨i1,j1⟩:=h1
   obtain ⟨i2,j2⟩:=h2
   have:=List.pairwise_iff_getElem.1 h i (i+1) i1 i2 (by omega)
   rw [j1,j2] at this
   rw [← hx,←hy]
   show ((a:Nat):Int)<((b:Nat):Int)
   omega
theorem ap9 {α:Type} {xs:List α} {f:α->List T} {a:Int} {k:Nat} {x:α} {K:List T->Prop} (ha:a=k) (hx:xs[k]? =some x) (h:K (f x)):∃row,0<=(if (0:Int) > a then 0 else a)∧(xs.map f)[(if (0:Int) > a then 0 else a).toNat]? =some row∧K row:=by
 have e:(if (0:Int) > a then 0 else a)=a:=if_neg (by omega)
 rw [e]
 exact o7 (by omega) (by rw [ha,Int.toNat_natCast];exact hx) h
theorem an1 {α:Type} {xs:List α} {f:α->List T} {a b:Int} {k:Nat} {x:α} {K:List T->Prop} (hb:¬b<a) (ha:a=k) (hx:xs[k]? =some x) (h:K (f x)):∃row,0<=(if b<a then b else a)∧(xs.map f)[(if b<a then b else a).toNat]? =some row∧K row:=by
 have e:(if b<a then b else a)=a:=if_neg hb
 rw [e]
 exact o7 (by omega) (by rw [ha,Int.toNat_natCast];exact hx) h
abbrev b8X (s:g8):Blk:={ mode:=.live,elem:=70,size:=2,rows:=[(a5O s).map .t],box:=true }
set_option maxHeartbeats 8000000 in
theorem a7y (t:e8) (find:Int):a9 Tryz.prog 10 [trS t,a7 .i64 find] [] (f9 true) []:=by
 have sa:=aI7
 have sm:=aH3 t 7
 have m1:(t.ev.moves.map x4.row).length=t.ev.moves.length:=by simp
 have m3:(t.finds.map J9.row).length=t.finds.length:=by simp
 cases hsm:Z3 t 7 with
 |false=>
  rw [hsm] at sm
  (refine ac Tryz.func10 ?_;(conv=>whnf);repeat ((first|refine b0x ?_|refine zy ?_);conv=>whnf))
  repeat' (first|refine zz ?_|refine qp sa ?_|refine qp sm ?_|refine zd ?_ ?_<;>intro h<;>try omega|refine zy ?_|fail)<;>conv=>whnf
  all_goals first
   |omega
   |exact b7 rfl
 |true=>
 rw [hsm] at sm
 obtain ⟨s1,s2,s3⟩:=a2f (by decide) hsm
 have ck:=a6r t s1
 cases hf:T1 t find with
 |false=>
  have hn:¬(v8 t=0∧0<=find∧find<t.finds.length):=fun ⟨a,b,c⟩=>by
   unfold T1 at hf;rw [decide_eq_true a,decide_eq_true b,decide_eq_true c] at hf;cases hf
  (refine ac Tryz.func10 ?_;(conv=>whnf);repeat ((first|refine b0x ?_|refine zy ?_);conv=>whnf))
  repeat' (first|refine zz ?_|refine qp sa ?_|refine qp sm ?_|refine qp ck ?_|refine zd ?_ ?_<;>intro h<;>try omega|refine zy ?_|fail)<;>conv=>whnf
  all_goals first
   |omega
   |exact b7 rfl
 |true=>
 obtain ⟨f,hF⟩:=b5q (by decide) hsm hf
 rw [hF.q.h] at ck
 have fl:=(lg1 hF.hf).1
 have f0:=hF.f0
 have og:=a58 t s1 hF.q find f hF.f0 hF.hf
 have lo:=a2x t s1 hF.q find f hF.f0 hF.hf
 have so:=aP4 t s1 hF.q find f hF.f0 hF.hf
 have hO:∀i ∈ F5 t f.kind f.mv.toNat,_:=fun i hi=>a3C hF hi
 have ins:a5l (w6 (F5 t f.kind f.mv.toNat)) (w6 (t8 t f.kind f.mv.toNat))=true:=ag7.2 fun i hi=>a0i.2 ⟨(hO i hi).1,(hO i hi).2.1⟩
 have hp:=hF.q.p
 have hm:=hF.q.m
 have lM:(w6 (t8 t f.kind f.mv.toNat)).length<=28:=by rw [Z1];have:=a3l t f.kind f.mv.toNat (t.ev.moves.length+t.ev.places.length);show (J0 _ _ _ _).length<=_;omega
 have lO:(w6 (F5 t f.kind f.mv.toNat)).length<=8:=by
  rw [Z1]
  have a:(F5 t f.kind f.mv.toNat).length<=(i9 t.ev).length:=List.length_filter_le _ _
  have b:(i9 t.ev).length<=t.ev.moves.length:=B5 _
  omega
 have ia:=P2 (w6 (F5 t f.kind f.mv.toNat)) (w6 (t8 t f.kind f.mv.toNat)) (by omega) (by omega)
 rw [ins] at ia
 have ha:=b2A (w6 (t8 t f.kind f.mv.toNat)) f.mv (by omega)
 have hmv:((f.mv.toNat:Nat):Int)=f.mv:=by have:=hF.m0;omega
 have hh:=b2n (t:=t) (kind:=f.kind) (mv:=f.mv.toNat) (g:=f.mv.toNat) hF.ml
 rw [hmv,ay2 hF] at hh
 rw [hh] at ha
 have nO:=Z1 (F5 t f.kind f.mv.toNat)
 rw [← nO] at ha
 have em:(F5 t f.kind f.mv.toNat).length=0->(w6 (t8 t f.kind f.mv.toNat)).length=0∧(w6 (v5 t f.kind f.mv.toNat)).length=0:=fun h=>by
  obtain ⟨a,b⟩:=aF8 (List.length_eq_zero_iff.1 h)
  rw [a,b];exact ⟨rfl,rfl⟩
 have m5:∀l:List Int,(l.map f8).length=l.length:=fun l=>by simp
 have m6:=m5 (w6 (F5 t f.kind f.mv.toNat))
 have m7:=m5 (w6 (t8 t f.kind f.mv.toNat))
 have m8:=m5 (w6 (v5 t f.kind f.mv.toNat))
 have hf2:=hF.hf
 have eS:a6O t f.kind f.mv.toNat=(w6 (t8 t f.kind f.mv.toNat)).filter fun x=>!!E5 t.ev x:=rfl
 rw [eS] at so
 have mvs:∀x ∈ w6 (t8 t f.kind f.mv.toNat),0<=x∧x<t.ev.moves.length:=fun x hx=>by
  obtain ⟨n,hn,rfl⟩:=List.mem_map.1 hx
  have:=(a0i.1 hn).1
  exact ⟨by omega,by show ((n:Nat):Int)<_;omega⟩
 have asc:=fun i x y=>b2Z (aw9 t f.kind f.mv.toNat) (i:=i) (x:=x) (y:=y)
 have org:∀x ∈ w6 (F5 t f.kind f.mv.toNat),∃i:Nat,x=i∧i ∈ F5 t f.kind f.mv.toNat:=fun x hx=>by
  obtain ⟨n,hn,rfl⟩:=List.mem_map.1 hx
  exact ⟨n,rfl,hn⟩
 have em2:(w6 (F5 t f.kind f.mv.toNat)).length=0->(w6 (t8 t f.kind f.mv.toNat)).length=0∧(w6 (v5 t f.kind f.mv.toNat)).length=0:=fun h=>em (by omega)
 clear em hh hO
 generalize w6 (t8 t f.kind f.mv.toNat)=M at *
 generalize w6 (v5 t f.kind f.mv.toNat)=P at *
 generalize hOr:w6 (F5 t f.kind f.mv.toNat)=O at *
 obtain ⟨SL,hS⟩:∃SL,SL=M.filter fun x=>!!E5 t.ev x:=⟨_,rfl⟩
 rw [← hS] at so
 (refine ac Tryz.func10 ?_;(conv=>whnf);repeat ((first|refine b0x ?_|refine zy ?_);conv=>whnf))
 repeat' (first|refine zz ?_|refine qp sa ?_|refine qp sm ?_|refine qp ck ?_|refine qp og ?_|refine qp lo ?_|refine qp so ?_|refine qp ia ?_|refine qp ha ?_|refine o7 f0 hf2 ?_|refine zd ?_ ?_<;>intro h<;>try omega|refine zy ?_|fail)<;>conv=>whnf
 all_goals first
  |omega
  |(exfalso;simp_all;done)
  |skip
 all_goals
  refine f5 d7 (fun i=>([J,a7 .i64 find,S.c (C.t (T.ptr (trT t))),J,J,f9 true,e7 O,J,e7 M,J,J,e7 SL,J,a7 .i64 ((M.take i).filter fun x=>!!E5 t.ev x).length,a7 .i64 i,J,J,J,J,J,J,J,J,J,J,J,J,J,J,J,J,J,J,J,J,J,J,J,J,J,J,J,J,J,J,J,J,J,J,J,J,J,J,J,J,J,J,J,J,J,J,J,J,J,J,J,J,J,J,J,J,J,J,J,J,J,J,J,J,J,J,J,J,J,J,J,J,J,J,J,J,J,J,J,J,J,J,J,J,J,J,J,J,J,J,J,J,J,J,J,J,J,J,J,J,J,J,J,J,J,J,J,J,J,J,J,J,J,J,J,J,J,J,J,J,J,J,J,J,J,J,J,J,J,J,J,J,J,J,J,J,J,J,J,J,J,J,J,J,J,J,J,J,J,J,J,J,J,J,J,J,J,J,J,J,J,J,J,J,J,J,J,J,J,J,J,J,J,J,J,J,J,J,J,J,J,J,J,J,J,J,J,J,J,J,J,J,J,J,J,J,J,J,J,J,J,J,J,J,J,J,J,J,J,J,J,J,J,J,J,J,J,J,J,J,J,J,J,J,J,J,J,J,J,J,J,J,J,J,J,J,J,J,J],[])) M.length (fun _=>True) [] trivial
   ⟨rfl,rfl,trivial,⟨rfl,rfl,rfl,rfl,rfl,rfl,rfl,rfl,trivial⟩⟩ ?_
 all_goals
  intro i hi _
  by_cases hlt:i<M.length
  ·obtain ⟨x,hx⟩:∃x,M[i]? =some x:=⟨_,lg0 hlt⟩
   obtain ⟨x0,x1⟩:=mvs x (lg2 hx)
   obtain ⟨m,hmm⟩:∃m,t.ev.moves[x.toNat]? =some m:=⟨_,lg0 (by omega)⟩
   have md:=a1q (E1 (n8 hF.q.h).1 (lg2 hmm))
   obtain ⟨p,hpp⟩:∃p,t.ev.places[m.dst.toNat]? =some p:=⟨_,lg0 (by omega)⟩
   have m9:=m5 SL
   have sl:SL.length<=M.length:=by rw [hS];exact List.length_filter_le _ _
   have nl:((M.take i).filter fun x=>!!E5 t.ev x).length<=i:=Nat.le_trans (List.length_filter_le _ _) (by rw [List.length_take];omega)
   have hk5:o4 t.ev m.dst=p.kind:=by unfold o4;rw [hpp];rfl
   have hby:E5 t.ev x=decide (p.kind=5):=by unfold E5;rw [hmm,←hk5]
   have hsc:=b1Q (q:=fun x=>!!E5 t.ev x) hx
   have hfg:=b2L (q:=fun x=>!!E5 t.ev x) hx
   rw [← hS] at hfg
   cases i with
   |zero=>
    by_cases hb:E5 t.ev x=true
    ·rw [hb] at hby
     have hb5:=of_decide_eq_true hby.symm
     have hn:=hfg (by rw [hb];rfl)
     rw [if_pos (by rw [hb];rfl)] at hsc
     have hnl:=(lg1 hn).1
     generalize ((M.take 0).filter fun x=>!!E5 t.ev x).length=c0 at *
     conv=>whnf
     repeat' (first|refine zz ?_|refine d8 hx ?_|refine o7 x0 hmm ?_|refine o7 md.1 hpp ?_|refine an1 (by omega) rfl hn ?_|refine zd ?_ ?_<;>intro h<;>try omega|refine zy ?_|fail)<;>conv=>whnf
     all_goals first
      |omega
      |exact ⟨hlt,trivial,[],rfl,rfl,trivial,⟨rfl,rfl,rfl,rfl,rfl,rfl,b9 (by omega),rfl,trivial⟩⟩
    ·have hb':E5 t.ev x=false:=by simpa using hb
     rw [hb'] at hby
     have hb5:=of_decide_eq_false hby.symm
     rw [if_neg (by rw [hb'];decide)] at hsc
     generalize ((M.take 0).filter fun x=>!!E5 t.ev x).length=c0 at *
     conv=>whnf
     repeat' (first|refine zz ?_|refine d8 hx ?_|refine o7 x0 hmm ?_|refine o7 md.1 hpp ?_|refine zd ?_ ?_<;>intro h<;>try omega|refine zy ?_|fail)<;>conv=>whnf
     all_goals first
      |omega
      |exact ⟨hlt,trivial,[],rfl,rfl,trivial,⟨rfl,rfl,rfl,rfl,rfl,rfl,b9 (by omega),rfl,trivial⟩⟩
   |succ i=>
    obtain ⟨y,hy⟩:∃y,M[i]? =some y:=⟨_,lg0 (by omega)⟩
    have hxy:=asc i y x hy hx
    by_cases hb:E5 t.ev x=true
    ·rw [hb] at hby
     have hb5:=of_decide_eq_true hby.symm
     have hn:=hfg (by rw [hb];rfl)
     rw [if_pos (by rw [hb];rfl)] at hsc
     have hnl:=(lg1 hn).1
     generalize ((M.take (i+1)).filter fun x=>!!E5 t.ev x).length=c0 at *
     conv=>whnf
     repeat' (first|refine zz ?_|refine d8 hx ?_|refine o7 x0 hmm ?_|refine o7 md.1 hpp ?_|refine an1 (by omega) rfl hn ?_|refine ap9 (by omega) hy ?_|refine zd ?_ ?_<;>intro h<;>try omega|refine zy ?_|fail)<;>conv=>whnf
     all_goals first
      |omega
      |exact ⟨hlt,trivial,[],rfl,rfl,trivial,⟨rfl,rfl,rfl,rfl,rfl,rfl,b9 (by omega),b9 (by omega),trivial⟩⟩
    ·have hb':E5 t.ev x=false:=by simpa using hb
     rw [hb'] at hby
     have hb5:=of_decide_eq_false hby.symm
     rw [if_neg (by rw [hb'];decide)] at hsc
     generalize ((M.take (i+1)).filter fun x=>!!E5 t.ev x).length=c0 at *
     conv=>whnf
     repeat' (first|refine zz ?_|refine d8 hx ?_|refine o7 x0 hmm ?_|refine o7 md.1 hpp ?_|refine ap9 (by omega) hy ?_|refine zd ?_ ?_<;>intro h<;>try omega|refine zy ?_|fail)<;>conv=>whnf
     all_goals first
      |omega
      |exact ⟨hlt,trivial,[],rfl,rfl,trivial,⟨rfl,rfl,rfl,rfl,rfl,rfl,b9 (by omega),b9 (by omega),trivial⟩⟩
  ·have hie:i=M.length:=by omega
   subst hie
   rw [lg4 (Nat.le_refl _),←hS]
   have m9:=m5 SL
   conv=>whnf
   repeat' (first|refine zz ?_|refine zd ?_ ?_<;>intro h<;>try omega|refine zy ?_|fail)<;>conv=>whnf
   all_goals try omega
   refine f5 d7 (fun k=>([J,a7 .i64 find,S.c (C.t (T.ptr (trT t))),J,J,f9 true,e7 O,J,J,J,J,e7 SL,J,a7 .i64 SL.length,J,a7 .i64 k,J,J,J,J,J,J,J,J,J,J,J,J,J,J,J,J,J,J,J,J,J,J,J,J,J,J,J,J,J,J,J,J,J,J,J,J,J,J,J,J,J,J,J,J,J,J,J,J,J,J,J,J,J,J,J,J,J,J,J,J,J,J,J,J,J,J,J,J,J,J,J,J,J,J,J,J,J,J,J,J,J,J,J,J,J,J,J,J,J,J,J,J,J,J,J,J,J,J,J,J,J,J,J,J,J,J,J,J,J,J,J,J,J,J,J,J,J,J,J,J,J,J,J,J,J,J,J,J,J,J,J,J,J,J,J,J,J,J,J,J,J,J,J,J,J,J,J,J,J,J,J,J,J,J,J,J,J,J,J,J,J,J,J,J,J,J,J,J,J,J,J,J,J,J,J,J,J,J,J,J,J,J,J,J,J,J,J,J,J,J,J,J,J,J,J,J,J,J,J,J,J,J,J,J,J,J,J,J,J,J,J,J,J,J,J,J,J,J,J,J,J,J,J,J,J,J,J,J,J,J,J,J,J,J,J,J,J,J],[])) O.length (fun _=>True) [] trivial
    ⟨rfl,rfl,trivial,⟨rfl,rfl,rfl,rfl,rfl,rfl,rfl,trivial⟩⟩ ?_
   intro k hk _
   by_cases hkl:k<O.length
   ·obtain ⟨o,ho⟩:∃o,O[k]? =some o:=⟨_,lg0 hkl⟩
    obtain ⟨g,rfl,hg⟩:=org o (lg2 ho)
    obtain ⟨g1,g2,g3⟩:=a3C hF hg
    have hgl:=(List.mem_filter.1 hg).1
    have hfit:T1 t find=true:=hf
    have ab:a0S t find g=true:=by unfold a0S;rw [hfit,decide_eq_true (by exact ⟨by omega,by rw [Int.toNat_natCast];exact hgl⟩)];rfl
    have al:=b0Y t s1 find f hF.hf g ab (by omega)
    have wi:=a7s t s1 hF.q find f hF.f0 hF.hf g g1
    obtain ⟨w,hw⟩:∃w,a2u t f.kind g (F5 t f.kind f.mv.toNat)=some w:=by
     cases hw:a2u t f.kind g (F5 t f.kind f.mv.toNat) with
     |some w=>exact ⟨w,rfl⟩
     |none=>rw [ag2,g2] at hw;cases hw
    have wo:=b6I hF g g1 w hw
    rw [hw] at wi
    unfold b4a at wi
    dsimp only at wi
    generalize (a3m t f.kind w).map fz=Wz at wi wo
    have ss:=T0 (kind:=f.kind) g hF.q
    have sn:(o6 t f.kind g).n=(t.ev.moves.length:Nat):=rfl
    have zf:aH0 (rF t.ev.moves.length fun _=>0) 10 3=true:=by
     unfold aH0
     rw [Bool.and_eq_true,List.all_eq_true]
     refine ⟨fun x hx=>?_,decide_eq_true (by rw [M6];omega)⟩
     obtain ⟨j,_,rfl⟩:=List.mem_map.1 (List.mem_of_mem_take hx)
     exact (show b7I 3 (fz 0)=true by decide)
    have hh:=aI1 (o6 t f.kind g) (a3f ss) ss.r (rF t.ev.moves.length fun _=>0) (b22 ss zf)
    have hz:((rF t.ev.moves.length fun _=>0).all D7 && j7 (o6 t f.kind g) ((rF t.ev.moves.length fun _=>0).map fv))=true:=by
     have e1:(rF t.ev.moves.length fun _=>0)=(List.replicate t.ev.moves.length (0:Rat)).map fz:=by
      unfold rF;rw [List.map_replicate]
      exact List.eq_replicate_iff.2 ⟨by simp,fun b hb=>by obtain ⟨_,_,rfl⟩:=List.mem_map.1 hb;rfl⟩
     rw [e1,a6b,a1e,(Q4 hF.q hF.k0 hF.k1).2 (ad7 g hF.q.h hF.k0 hF.k1)];rfl
    rw [hz] at hh
    have i0:=a2M 0 (by decide) (by decide)
    generalize hSA:o6 t f.kind g=SA at *
    conv=>whnf
    repeat' (first|refine zz ?_|refine qp al ?_|refine qp 9 ?_|refine d8 ho ?_|refine a3K (by omega) (by omega) (by omega) (by decide) ?_|refine bl0 [9] ?_|refine zd ?_ ?_<;>intro h<;>try omega|refine zy ?_|fail)<;>conv=>whnf
    all_goals try omega
    all_goals
     generalize hN:t.ev.moves.length=N at *
     refine f5 d7 (fun j=>([J,a7 .i64 find,S.c (C.t (T.ptr (trT t))),J,J,f9 true,e7 O,J,J,J,J,e7 SL,J,a7 .i64 SL.length,J,a7 .i64 k,S.c (C.ptr 0 0 0),a7 .i64 0,S.c (C.own 1 0 N true),a7 .i64 j,J,J,J,J,J,J,J,J,J,J,J,J,J,J,J,J,J,J,J,J,J,J,J,J,J,J,J,J,J,J,J,J,J,J,J,J,J,J,J,J,J,J,J,J,J,J,J,J,J,J,J,J,J,J,J,J,J,J,J,J,J,J,J,J,J,J,J,J,J,J,J,J,J,J,J,J,J,J,J,J,J,J,J,J,J,J,J,J,J,J,J,J,J,J,J,J,J,J,J,J,J,J,J,J,J,J,J,J,J,J,J,J,J,J,J,J,J,J,J,J,J,J,J,J,J,J,J,J,J,J,J,J,J,J,J,J,J,J,J,J,J,J,J,J,J,J,J,J,J,J,J,J,J,J,J,J,J,J,J,J,J,J,J,J,J,J,J,J,J,J,J,J,J,J,J,J,J,J,J,J,J,J,J,J,J,J,J,J,J,J,J,J,J,J,J,J,J,J,J,J,J,J,J,J,J,J,J,J,J,J,J,J,J,J,J,J,J,J,J,J,J,J,J,J,J,J,J,J,J,J,J,J,J,J],[b8X SA,flB (pZ j N)])) N (fun _=>True) [some 0,some 1] trivial
      ⟨rfl,rfl,⟨⟨rfl,rfl,rfl,.inl ⟨rfl,d6 [a5O SA]⟩⟩,⟨rfl,rfl,rfl,.inr (a6W ?_ ?_)⟩,trivial⟩,⟨rfl,rfl,rfl,rfl,rfl,rfl,rfl,⟨rfl,rfl,rfl⟩,rfl,⟨rfl,rfl,by omega,fun h=>h⟩,rfl,trivial⟩⟩ ?_
     ·have:SA.n.toNat=N:=by omega
      simp [C4,toC,a9s,this]
     ·intro i x y hx hy
      simp only [C4,List.getElem?_replicate] at hx
      split at hx
      ·rename_i hi
       injection hx with hx
       subst hx
       have hy:(toC ((pZ 0 N).map s7))[i]? =some y:=hy
       rw [toC,List.getElem?_map,List.getElem?_map,a7Q (by omega),if_neg (by omega)] at hy
       injection hy with hy
       subst hy
       exact ⟨rfl,rfl,rfl,rfl,trivial⟩
      ·cases hx
     intro j hj _
     by_cases hjl:j<N
     ·obtain ⟨pf,hpf⟩:∃pf,(pZ j N)[j]? =some pf:=⟨_,a7Q hjl⟩
      have gp:(pZ j N)[0+(j:Int).toNat]? =some pf:=by rw [Nat.zero_add,show (j:Int).toNat=j by omega];exact hpf
      have eM:0+(j:Int).toNat=j:=by omega
      conv=>whnf
      repeat' (first|refine zz ?_|refine qp i0 ?_|refine s9 gp ?_|refine zd ?_ ?_<;>intro h<;>try omega|refine zy ?_|fail)<;>conv=>whnf
      all_goals first
       |omega
       |(refine ⟨hjl,trivial,[some 0,some 1],rfl,rfl,⟨⟨rfl,rfl,rfl,.inl ⟨rfl,d6 [a5O SA]⟩⟩,a8 (rows:=(pZ (j+1) N).map s7) rfl rfl rfl ?_ rfl,trivial⟩,⟨rfl,rfl,rfl,rfl,rfl,rfl,rfl,⟨rfl,rfl,rfl⟩,rfl,⟨rfl,rfl,rfl,fun h=>h⟩,b9 (by omega),trivial⟩⟩
         have e:=I3 (row:=pZ j N) (y:=fz 0) eM
         rw [b3A hjl] at e
         exact congrArg Blk.rows e)
     have hje:j=N:=by omega
     subst hje
     rw [b3y]
     have va:a2L [b8X SA,flB (rF j fun _=>0)] (fun _=>True) [.agg ((a5O SA).map .t),.c (.own 1 0 j true)] [a0U SA,n6 (rF j fun _=>0)]:=
      ⟨b9K (a5O SA),(show VC _ (fun _=>True) _ _ from v4 (k:=flB (rF j fun _=>0)) trivial rfl (fun h=>h) rfl rfl (by simp [M6])),trivial⟩
     conv=>whnf
     repeat' (first|refine zz ?_|refine qp wi ?_|refine qp wo ?_|refine d8 ho ?_|refine .inl ⟨_,_,a6e hh va rfl,?_⟩|refine zd ?_ ?_<;>intro h<;>try omega|refine zy ?_|fail)<;>conv=>whnf
     all_goals first
      |omega
      |exact ⟨hkl,trivial,[],rfl,rfl,trivial,⟨rfl,rfl,rfl,rfl,rfl,rfl,b9 (by omega),trivial⟩⟩
   ·have hke:k=O.length:=by omega
    subst hke
    conv=>whnf
    repeat' (first|refine zz ?_|refine zd ?_ ?_<;>intro h<;>try omega|refine zy ?_|fail)<;>conv=>whnf
    all_goals first
     |omega
     |exact b7 rfl
section
open Go.RowKit Go.ChangeShapes Go.WideShapes Go.Deep
section
variable {H:Type} {enc:TypeId × Value->H} {P:Program}
theorem ai5 (hl:laidOutB P=true) {W W':World} {sp:Nat->Bool}:∀{ts:List TypeId} {vs:List Value} {ds:List (DataW H)} {ps:List MemPlace},(∀ t ∈ ts,P.readableRec t=true∧t<P.types.size)->
 DataW.TrodAll enc P W 0 (fun _=>true) true ts vs ds ps->(∀ p ∈ ps,W.sameAt W' p)->(∀ p ∈ ps,sp p.block=true)->DataW.TrodAll enc P W' 0 sp true ts vs ds ps:=by
 intro ts
 induction ts with
 |nil=>
  intro vs ds ps _ h _ _
  obtain ⟨rfl,rfl,rfl⟩:=trodAll_nil h
  exact trodAll_mk0
 |cons t ts ih=>
  intro vs ds ps hr h hsame hs
  obtain ⟨v,vs',d,ds',p,q,rfl,rfl,rfl,h1,h2⟩:=trodAll_cons h
  obtain ⟨ht,hlt⟩:=hr t (by simp)
  exact trodAll_cons_mk (WideElems.Trod_stays hl ht hlt h1 (fun x hx=>hsame x (by simp [hx])) (fun x hx=>hs x (by simp [hx]))) (ih (fun t ht=>hr t (by simp [ht])) h2 (fun x hx=>hsame x (by simp [hx])) (fun x hx=>hs x (by simp [hx])))
theorem aK9 {f:Func} {s:ChangeSpec} {fresh handsOn:Bool} {W W':World} {args:Array Value} {ds gs:List (DataW H)} {before:List MemPlace} {tb:TypeId}
 (hW:DataW.Whole enc P f.params.toList s.vars false W args.toList ds gs before) (hl:laidOutB P=true) (hr:∀t ∈ f.params.toList,P.readableRec t=true∧t<P.types.size) (hv:s.vars=[])
 (hfn:s.fn H (ds++gs)={ results:=[.lit (.bool true)],args:=ds }) (hres:f.resultTypes=#[tb]) (hbool:P.underlying tb=some .bool) (hb:Below W.heap.size W W'):
 s.post enc P f false fresh handsOn false W args (.bool true) W':=by
 have hW':=hW
 obtain ⟨p,q,hA,hV,rfl,hfz,hnd⟩:=hW
 rw [hv] at hV
 obtain ⟨rfl,rfl⟩:=trodVars_none hV
 have hlt:∀x ∈ p,x.block<W.heap.size:=fun x hx=>by have:=hW'.lt x (by simpa using hx);simpa using this
 refine ⟨ds,[],p++[],[],p,[],hW',?_,?_,?_,hb.frame _,fun h=>by cases h⟩
 ·rw [hfn,hres]
  exact trodAll_mk1 (shut_bool hbool true)
 ·rw [hfn]
  exact ai5 hl hr hA (fun x hx=>hb.same (hlt x hx)) (fun x hx=>by simpa using hlt x hx)
 ·rw [hv,hfn]
  exact rfl
variable {w:World} {base:Nat} {spare:Nat->Bool} {held:Bool}
end
end
section
open Go.RowKit Go.ChangeShapes Go.WideShapes Go.Deep
section
variable {H:Type} {enc:TypeId × Value->H} {w:World} {base:Nat} {spare:Nat->Bool} {held:Bool}
end
theorem aZ9:ownKnob Tryz.prog.godebug=none:=by kernel_rfl
theorem aB6:laidOutB Tryz.prog=true:=by kernel_rfl
end
theorem b4g {w:World} {n:Int}:RS w (fun _=>none) (fun _=>False) (a7 .i64 n) (.int .i64 n):=RS.int
inductive aq8 (w:World):List S->List Value->Prop
 |nil:aq8 w [] []
 |cons {s:S} {v:Value} {ss:List S} {vs:List Value} (h:RS w (fun _=>none) (fun _=>False) s v) (hs:aq8 w ss vs):aq8 w (s::ss) (v::vs)
theorem aq8.get {w:World} {ss:List S} {vs:List Value} (h:aq8 w ss vs):vs.length=ss.length∧∀(j:Nat) (s:S),ss[j]? =some s->RS w (fun _=>none) (fun _=>False) s (vs.getD j undef):=by
 induction h with
 |nil=>exact ⟨rfl,by simp⟩
 |cons h hs ih=>
  refine ⟨by simp [ih.1],fun j s hj=>?_⟩
  cases j with
  |zero=>simp at hj;subst hj;exact h
  |succ j=>simpa using ih.2 j s (by simpa using hj)
theorem a6x {P:Program} {g:FuncId} {ss:List S} {b:Bool} (h:a9 P g ss [] (f9 b) []) {w:World} {vs:List Value} (ha:aq8 w ss vs):
 Calls P g vs.toArray w fun e w'=>e=.returned (.bool b)∧Below w.heap.size w w':=by
 obtain ⟨h1,h2⟩:=ha.get
 refine Calls.mono (h.2 w (fun _=>none) (fun _=>False) vs h1 h2 ⟨by simp,by simp,by simp,by simp,by simp⟩ (fun _ h=>h.elim) (fun _ _=>rfl)) ?_
 rintro e w' ⟨v,rfl,ι',M',q1,q2,q3,q4,q5⟩
 rw [q1.inv_atm]
 exact ⟨rfl,q5.os,q5.tape,q5.output,q5.size,fun k hk=>q5.keep k hk (by rintro ⟨id,k,_,_,hk,_⟩;simp at hk)⟩
open Go.RowKit Go.ChangeShapes Go.WideShapes Go.ChangeAt
theorem ap6 {P:Program} {f:FuncId} {fn:Func} {s:ChangeSpec} {c:OpenClaim}
 (h1:c.wf (OpenSpec.ofChange s)=true) (h2:laidOutB P=true) (h3:mapsRowed P=true) (h4:fn.params.all (P.readableRec ·)=true) (h5:namedTie P c.named s.vars=true)
 (h6:(c.stops == [])=true) (h7:(P.stops == [])=true) (h8:(c.knobs == [])=true) (h9:(P.stopKnobs == [])=true)
 (h10:(c.inPlace == P.inPlace f)=true) (h11:(c.unfollowed == P.unfollowed f)=true) (h12:(c.recurses == P.recurses f)=true) (h13:(c.named == P.varsNamed f)=true)
 (h14:(c.maps == (fn.params.toList++s.plain.varTypes P).any (P.mapsRec ·))=true) (h15:(c.ifaces == (fn.params.toList++s.plain.varTypes P).any (P.ifacesRec ·))=true) (h16:(c.mapsOut == P.mapsAmong fn.resultTypes.toList)=true)
 (h17:(c.loops == (fn.params.toList++s.plain.varTypes P).any (P.loopsFrom ·))=true) (h18:(c.wideKeys == (fn.params.toList++s.plain.varTypes P++fn.resultTypes.toList).any (P.wideKeysFrom ·))=true)
 (h19:s.vars.all (P.varReadable ·)=true) (h20:fn.resultTypes.all (fun t=>P.readableRec t && decide (t<P.types.size))=true) (h21:(c.ifacesOut == fn.resultTypes.toList.any (P.ifacesRec ·))=true) (h22:(c.loopsOut == fn.resultTypes.toList.any (P.loopsFrom ·))=true)
 (h23:(c.plainKeys == P.plainKeys)=true) (h24:c.shortTexts.isNone=true) (h25:P.stopsHeard=true) (h26:P.mayEnter=true) (h27:(c.lifted == P.liftsFinal)=true) (h28:(P.make == some c.make)=true)
 (h29:c.domain.isEmpty=true) (h29b:(c.kinds == [])=true) (h30:(c.pinned == c.pinnedBy)=true)
 (h31:(c.veiled == (fn.params.toList++s.plain.varTypes P++fn.resultTypes.toList).any (P.veiledRec ·))=true) (h32:c.veiledFits P fn.params.toList (fn.params.toList++s.plain.varTypes P++fn.resultTypes.toList)=true):
 joinedFacts P f fn s c=true:=by
 unfold joinedFacts
 rw [h1,h2,h3,h4,h5,h6,h7,h8,h9,h10,h11,h12,h13,h14,h15,h16,h17,h18,h19,h20,h21,h22,h23,h24,h25,h26,h27,h28,if_pos h29,h29b,h30,h31,h32]
 rfl
theorem b10:laidOutB Tryz.pinned.checked.prog=true:=by kernel_rfl
theorem b0m:mapsRowed Tryz.pinned.checked.prog=true:=by kernel_rfl
theorem b0I:Tryz.pinned.checked.prog.plainKeys=true:=by kernel_rfl
theorem aH6:Tryz.pinned.checked.prog.stopsHeard=true:=by kernel_rfl
theorem aF2:Tryz.pinned.checked.prog.mayEnter=true:=by kernel_rfl
theorem b0O:(Rows.sourceTrueRow.lifted == Tryz.pinned.checked.prog.liftsFinal)=true:=by kernel_rfl
theorem b14:(Tryz.pinned.checked.prog.make == some Rows.sourceTrueRow.make)=true:=by kernel_rfl
section
open Go.RowKit Go.ChangeShapes Go.WideShapes Go.Deep
inductive Sh where
 |int (k:IntKind)
 |bool
 |sl (row:List Sh)
inductive Fit:Sh->T->Prop
 |int {k:IntKind} {n:Int} (h:(Lit.int k n).wf=true):Fit (.int k) (.atm (.int k n))
 |bool {b:Bool}:Fit .bool (.atm (.bool b))
 |sl {row:List Sh} {rows:List (List T)} (hl:∀r ∈ rows,r.length=row.length) (h:∀r ∈ rows,∀(j:Nat) (s:Sh) (t:T),row[j]? =some s->r[j]? =some t->Fit s t):Fit (.sl row) (.sl row.length .any rows)
inductive H9 (P:Program):TypeId->List Sh->Prop
 |int {t:TypeId} {k:IntKind} (h:P.underlying t=some (.int k)):H9 P t [.int k]
 |bool {t:TypeId} (h:P.underlying t=some .bool):H9 P t [.bool]
 |sl {t e:TypeId} {row:List Sh} (h:P.underlying t=some (.slice e)) (hc:P.cellsOf e=row.length) (hp:0<row.length) (he:H9 P e row):H9 P t [.sl row]
 |struct {t:TypeId} {fs:Array Field} (parts:List (List Sh)) (h:P.underlying t=some (.struct fs)) (hl:parts.length=fs.size)
   (ho:∀(i:Nat) (f:Field) (p:List Sh),fs[i]? =some f->parts[i]? =some p->f.offset=(parts.take i).flatten.length∧P.cellsOf f.type=p.length)
   (hc:P.cellsOf t=parts.flatten.length)
   (he:∀(i:Nat) (f:Field) (p:List Sh),fs[i]? =some f->parts[i]? =some p->H9 P f.type p):H9 P t parts.flatten
section
variable {H:Type} {enc:TypeId × Value->H} {P:Program} {w:World} {base:Nat} {spare:Nat->Bool} {held:Bool}
def au4 (w:World) (shs:List Sh) (cs:List Value):Prop:=
 cs.length=shs.length∧∃ts:List T,ts.length=shs.length∧∀(j:Nat) (s:Sh),shs[j]? =some s->∃u t,cs[j]? =some u∧ts[j]? =some t∧RT w (fun _=>False) t u∧Fit s t
theorem ah5 {α:Type}:∀(parts:List (List α)) (j:Nat) (x:α),parts.flatten[j]? =some x->∃i p k,parts[i]? =some p∧p[k]? =some x∧j=(parts.take i).flatten.length+k
 |[],j,x,h=>by simp at h
 |p::r,j,x,h=>by
  rw [List.flatten_cons] at h
  by_cases hj:j<p.length
  ·rw [List.getElem?_append_left hj] at h
   exact ⟨0,p,j,rfl,h,by simp⟩
  ·rw [List.getElem?_append_right (by omega)] at h
   obtain ⟨i,q,k,h1,h2,h3⟩:=ah5 r _ x h
   exact ⟨i+1,q,k,by simpa using h1,h2,by rw [List.take_succ_cons,List.flatten_cons,List.length_append];omega⟩
theorem a18 {α:Type} {p:Nat->α->Prop}:∀(n:Nat),(∀ i,i<n->∃x,p i x)->∃xs:List α,xs.length=n∧∀i x,xs[i]? =some x->p i x
 |0,_=>⟨[],rfl,by simp⟩
 |n+1,h=>by
  obtain ⟨xs,h1,h2⟩:=a18 n fun i hi=>h i (by omega)
  obtain ⟨x,hx⟩:=h n (by omega)
  refine ⟨xs++[x],by simp [h1],fun i y hy=>?_⟩
  by_cases hi:i<xs.length
  ·rw [List.getElem?_append_left hi] at hy;exact h2 i y hy
  ·rw [List.getElem?_append_right (by omega)] at hy
   have:i=n:=by
    have:=(lg1 hy).1
    simp at this;omega
   subst this
   rw [h1] at hy
   simp at hy
   subst hy
   exact hx
theorem as8 {t:TypeId} {shs:List Sh} (h:H9 P t shs):∀(n:Nat) (cs:List Value) (x:DataW H × List MemPlace),DataW.trod enc P w base spare held n t cs=some x->au4 w shs cs:=by
 induction h with
 |int h=>
  intro n cs x hx
  obtain ⟨a,rfl,_,hw⟩:=DataW.trod_int h hx
  exact ⟨rfl,[.atm (.int _ a)],rfl,fun j s hj=>by
   match j,hj with
   |0,hj=>simp at hj;subst hj;exact ⟨_,_,rfl,rfl,.atm rfl,.int hw⟩⟩
 |bool h=>
  intro n cs x hx
  obtain ⟨a,rfl,_⟩:=DataW.trod_bool h hx
  exact ⟨rfl,[.atm (.bool a)],rfl,fun j s hj=>by
   match j,hj with
   |0,hj=>simp at hj;subst hj;exact ⟨_,_,rfl,rfl,.atm rfl,.bool⟩⟩
 |@sl t e row h hc hp he ih=>
  intro n cs x hx
  have key:∀(rows:List (List T)) (u:Value),cs=[u]->RT w (fun _=>False) (.sl row.length .any rows) u->(∀ r ∈ rows,r.length=row.length)->(∀ r ∈ rows,∀(j:Nat) (s:Sh) (t:T),row[j]? =some s->r[j]? =some t->Fit s t)->au4 w [.sl row] cs:=by
   rintro rows u rfl hu h1 h2
   exact ⟨rfl,[.sl row.length .any rows],rfl,fun j s hj=>by
    match j,hj with
    |0,hj=>simp at hj;subst hj;exact ⟨_,_,rfl,rfl,hu,.sl h1 h2⟩⟩
  rcases open_slice h hx with ⟨h0,_⟩|⟨a,len,cap,m,n,D,Pl,hcs,hb,hl,hm,hmm,hx,hi⟩
  ·exact key [] _ h0 (.sl (b:=0) (off:=0) (fun _ _=>undef) (by simp) (by simp) (by unfold maxLen;omega) (by intro h;cases h) (by intro h;cases h) (by simp) (by simp [at2]) (by simp [at2])) (by simp) (by simp)
  ·by_cases hz:len=0
   ·subst hz
    exact key [] _ hcs (.sl (b:=0) (off:=0) (fun _ _=>undef) (by simp) (by simp) hm (by intro h;cases h) (by intro h;cases h) (by simp) (by simp [at2]) (by simp [at2])) (by simp) (by simp)
   have hlm:len<=m:=by rw [hmm];split<;>omega
   have each:∀i,i<len->∃cs':List Value,(∀ j,j<row.length->w.cell? (a.add (i*row.length+j))=cs'[j]?)∧au4 w row cs':=by
    intro i hil
    obtain ⟨cs',hc',ht'⟩:=hi i (by omega)
    rw [hc] at hc'
    obtain ⟨_,hcl,hat⟩:=World.cells?_some hc'
    exact ⟨cs',fun j hj=>by rw [← Go.Deep.add_add];exact hat j hj,ih n cs' _ ht'⟩
   obtain ⟨css,hcl,hcs2⟩:=a18 len each
   obtain ⟨rows,hrl,hrows⟩:=a18 (α:=List T) (p:=fun i ts=>ts.length=row.length∧∀(j:Nat) (s:Sh),row[j]? =some s->∃u t,(css.getD i [])[j]? =some u∧ts[j]? =some t∧RT w (fun _=>False) t u∧Fit s t) len (fun i hi=>by
    have hg:css[i]? =some (css[i]'(by omega)):=lg0 (by omega)
    obtain ⟨_,_,ts,h1,h2⟩:=hcs2 i _ hg
    refine ⟨ts,h1,?_⟩
    rw [lg3,hg]
    exact h2)
   have hcell:∀i j,i<len->j<row.length->w.cell? (a.add (i*row.length+j))=some ((css.getD i []).getD j undef):=by
    intro i j hi hj
    have hg:css[i]? =some (css[i]'(by omega)):=lg0 (by omega)
    obtain ⟨h1,h2,_⟩:=hcs2 i _ hg
    rw [h1 j hj]
    have hgd:css.getD i []=css[i]'(by omega):=by rw [lg3,hg];rfl
    rw [hgd,lg3,lg0 (by omega)];rfl
   have hspot:a.spot=none:=by
    have:=World.cell?_spot (hcell 0 0 (by omega) hp)
    simpa [Addr.add] using this
   obtain ⟨b,off,sp⟩:=a
   simp only at hspot
   subst hspot
   have hadd:∀k,(⟨b,off,none⟩:Addr).add k=⟨b,off+k,none⟩:=by
    intro k
    unfold Addr.add
    split
    ·subst_vars;rfl
    ·rfl
   have hat:∀i j c,at2 rows i j=some c->i<len∧j<row.length∧∃r s,rows[i]? =some r∧r[j]? =some c∧row[j]? =some s:=by
    intro i j c hc
    obtain ⟨r,q1,q2⟩:=E3 hc
    have hil:i<len:=by rw [← hrl];exact (lg1 q1).1
    have hjl:j<row.length:=by rw [← (hrows i r q1).1];exact (lg1 q2).1
    exact ⟨hil,hjl,r,_,q1,q2,lg0 hjl⟩
   refine key rows (.slice (some ⟨b,off,none⟩) len cap) hcs ?_ ?_ ?_
   ·rw [← hrl]
    refine .sl (b:=b) (off:=off) (fun i j=>(css.getD i []).getD j undef) ?_ (by omega) hm (by intro h;cases h) (by intro h;cases h) (fun _=>rfl) ?_ ?_
    ·intro r hr
     obtain ⟨i,hi⟩:=List.mem_iff_getElem?.1 hr
     exact (hrows i r hi).1
    ·intro i j c hc
     obtain ⟨hil,hjl,_⟩:=hat i j c hc
     have:=hcell i j hil hjl
     rw [hadd] at this
     exact ⟨this,fun h=>h⟩
    ·intro i j c hc
     obtain ⟨hil,hjl,r,s,q1,q2,q3⟩:=hat i j c hc
     obtain ⟨u,t,h1,h2,h3,h4⟩:=(hrows i r q1).2 j s q3
     rw [q2] at h2
     injection h2 with h2
     subst h2
     rw [lg3 (l:=css.getD i []),h1]
     exact h3
   ·intro r hr
    obtain ⟨i,hi⟩:=List.mem_iff_getElem?.1 hr
    exact (hrows i r hi).1
   ·intro r hr j s t hs ht
    obtain ⟨i,hi⟩:=List.mem_iff_getElem?.1 hr
    obtain ⟨u,t',h1,h2,h3,h4⟩:=(hrows i r hi).2 j s hs
    rw [ht] at h2
    injection h2 with h2
    subst h2
    exact h4
 |@struct t fs parts h hl ho hc he ih=>
  intro n cs x hx
  obtain ⟨xs,n',hn',hy,hlen,hyl,hf⟩:=DataW.trod_struct h hx
  have hlen':cs.length=parts.flatten.length:=by rw [hlen,hc]
  have each:∀j,j<parts.flatten.length->∃t,∀s,parts.flatten[j]? =some s->∃u,cs[j]? =some u∧RT w (fun _=>False) t u∧Fit s t:=by
   intro j hj
   obtain ⟨i,p,k,q1,q2,q3⟩:=ah5 parts j _ (lg0 hj)
   have hi:i<fs.size:=by rw [← hl];exact (lg1 q1).1
   have hfi:fs[i]? =some fs[i]:=Array.getElem?_eq_getElem hi
   obtain ⟨o1,o2⟩:=ho i _ p hfi q1
   have h1:=hf i _ hfi
   have hxi:xs[i]? =some (xs[i]'(by omega)):=lg0 (by omega)
   obtain ⟨r1,ts,r2,r3⟩:=ih i _ p hfi q1 n' _ _ (h1.trans hxi)
   obtain ⟨u,t,e1,e2,e3,e4⟩:=r3 k _ q2
   refine ⟨t,fun s hs=>⟨u,?_,e3,?_⟩⟩
   ·have hk:k<p.length:=(lg1 q2).1
    rw [List.getElem?_take,o2,if_pos hk,List.getElem?_drop,o1,←q3] at e1
    exact e1
   ·rw [lg0 hj] at hs
    injection hs with hs
    rw [← hs];exact e4
  obtain ⟨ts,t1,t2⟩:=a18 parts.flatten.length each
  refine ⟨hlen',ts,t1,fun j s hj=>?_⟩
  have hjl:=(lg1 hj).1
  have htj:ts[j]? =some (ts[j]'(by omega)):=lg0 (by omega)
  obtain ⟨u,h1,h2,h3⟩:=t2 j _ htj s hj
  exact ⟨u,_,h1,htj,h2,h3⟩
end
theorem Fit.int_inv {k:IntKind} {t:T} (h:Fit (.int k) t):∃n,t=.atm (.int k n)∧(Lit.int k n).wf=true:=by cases h with|int h=>exact ⟨_,rfl,h⟩
theorem Fit.bool_inv {t:T} (h:Fit .bool t):∃b,t=.atm (.bool b):=by cases h with|bool=>exact ⟨_,rfl⟩
theorem aG5 {α:Type} {f:α->List T} {p:α->Prop}:∀{rows:List (List T)},(∀ r ∈ rows,∃x,r=f x∧p x)->∃xs:List α,rows=xs.map f∧∀x ∈ xs,p x
 |[],_=>⟨[],rfl,by simp⟩
 |r::rs,h=>by
  obtain ⟨x,rfl,hx⟩:=h r (by simp)
  obtain ⟨xs,rfl,hxs⟩:=aG5 (rows:=rs) (f:=f) (p:=p) fun r hr=>h r (List.mem_cons_of_mem _ hr)
  exact ⟨x::xs,rfl,fun y hy=>by rcases List.mem_cons.1 hy with rfl|hy;exact hx;exact hxs y hy⟩
theorem Fit.sl_inv {α:Type} (f:α->List T) (p:α->Prop) {row:List Sh} {t:T} (h:Fit (.sl row) t)
 (hrow:∀r:List T,r.length=row.length->(∀ (j:Nat) (s:Sh) (t:T),row[j]? =some s->r[j]? =some t->Fit s t)->∃x,r=f x∧p x):
 ∃xs:List α,t=.sl row.length .any (xs.map f)∧∀x ∈ xs,p x:=by
 cases h with
 |sl hl h=>
  obtain ⟨xs,rfl,hx⟩:=aG5 (f:=f) (p:=p) (fun r hr=>hrow r (hl r hr) (h r hr))
  exact ⟨xs,rfl,hx⟩
end
section
open Go.RowKit Go.ChangeShapes Go.WideShapes Go.Deep
abbrev g6:Sh:=.int .i64
theorem B2:H9 Tryz.prog 3 [g6]:=.int Tryz.underlying3
theorem aG7 {P:Program} {t:TypeId} {fs:Array Field} {p0 p1:List Sh} (h:P.underlying t=some (.struct fs)) (hl:fs.size=2)
 (h0:∃f,fs[0]? =some f∧f.offset=0∧P.cellsOf f.type=p0.length∧H9 P f.type p0) (h1:∃f,fs[1]? =some f∧f.offset=p0.length∧P.cellsOf f.type=p1.length∧H9 P f.type p1)
 (hc:P.cellsOf t=p0.length+p1.length):H9 P t (p0++p1):=by
 obtain ⟨f0,a1,a2,a3,a4⟩:=h0
 obtain ⟨f1,b1,b2,b3,b4⟩:=h1
 have:=H9.struct (P:=P) (t:=t) (fs:=fs) [p0,p1] h (by simp [hl]) (fun i f p hf hp=>by
  match i,hp with
  |0,hp=>simp at hp;subst hp;rw [a1] at hf;injection hf with hf;subst hf;exact ⟨by simp [a2],a3⟩
  |1,hp=>simp at hp;subst hp;rw [b1] at hf;injection hf with hf;subst hf;exact ⟨by simp [b2],b3⟩
  |n+2,hp=>simp at hp) (by simp [hc]) (fun i f p hf hp=>by
  match i,hp with
  |0,hp=>simp at hp;subst hp;rw [a1] at hf;injection hf with hf;subst hf;exact a4
  |1,hp=>simp at hp;subst hp;rw [b1] at hf;injection hf with hf;subst hf;exact b4
  |n+2,hp=>simp at hp)
 simpa using this
theorem aa2:H9 Tryz.prog 54 [g6,g6]:=
 aG7 (p0:=[g6]) (p1:=[g6]) Tryz.underlying54 (by kernel_rfl) ⟨_,rfl,rfl,by kernel_rfl,B2⟩ ⟨_,rfl,rfl,by kernel_rfl,B2⟩ (by kernel_rfl)
section
variable {H:Type} {enc:TypeId × Value->H} {w:World} {base:Nat} {spare:Nat->Bool} {held:Bool}
theorem ac8 {shs:List Sh} {l:List Value} (h:au4 w shs l):∃ts:List T,ts.length=shs.length∧(∀ (j:Nat) (s:Sh) (t:T),shs[j]? =some s->ts[j]? =some t->Fit s t)∧RS w (fun _=>none) (fun _=>False) (.agg (ts.map C.t)) (.agg ⟨l⟩):=by
 obtain ⟨h0,ts,h1,h2⟩:=h
 refine ⟨ts,h1,fun j s t hs ht=>?_,?_⟩
 ·obtain ⟨u,t',e1,e2,e3,e4⟩:=h2 j s hs
  rw [ht] at e2;injection e2 with e2;subst e2;exact e4
 ·refine .agg l (by simp [h0,h1]) fun j c hc=>?_
  rw [List.getElem?_map] at hc
  obtain ⟨t,ht,rfl⟩:=Option.map_eq_some_iff.1 hc
  have hj:j<shs.length:=by rw [← h1];exact (lg1 ht).1
  obtain ⟨u,t',e1,e2,e3,e4⟩:=h2 j _ (lg0 hj)
  rw [ht] at e2;injection e2 with e2;subst e2
  rw [lg3,e1]
  exact .t e3
theorem open_recall {v:Value} {d:DataW H} {p:List MemPlace} {r:Reach} {b0:Nat} (hv:Value.okWide Tryz.prog w r b0 54 v) (h:DataW.Trod enc Tryz.prog w base spare held 54 v d p):∃x:y0,RS w (fun _=>none) (fun _=>False) (.agg (x.row.map .t)) v:=by
 obtain ⟨⟨l⟩,rfl,_⟩:=okWide_struct Tryz.underlying54 hv
 obtain ⟨fuel,hf⟩:=h
 obtain ⟨ts,h1,h2,h3⟩:=ac8 (as8 aa2 fuel _ _ hf)
 match ts,h1 with
 |[a,b],_=>
  obtain ⟨n,rfl,_⟩:=(h2 0 _ _ rfl rfl).int_inv
  obtain ⟨m,rfl,_⟩:=(h2 1 _ _ rfl rfl).int_inv
  exact ⟨⟨n,m⟩,h3⟩
end
end
section
open Go.RowKit Go.ChangeShapes Go.WideShapes Go.Deep
def aM6 (P:Program):List Field->List (List Sh)->Nat->Prop
 |[],[],_=>True
 |f::fs,p::ps,o=>(f.offset=o∧P.cellsOf f.type=p.length∧H9 P f.type p)∧aM6 P fs ps (o+p.length)
 |_,_,_=>False
theorem aM6.get {P:Program}:∀{fs:List Field} {ps:List (List Sh)} {o:Nat},aM6 P fs ps o->ps.length=fs.length∧∀(i:Nat) (f:Field) (p:List Sh),fs[i]? =some f->ps[i]? =some p->f.offset=o+(ps.take i).flatten.length∧P.cellsOf f.type=p.length∧H9 P f.type p
 |[],[],o,_=>⟨rfl,by simp⟩
 |f::fs,p::ps,o,h=>by
  obtain ⟨⟨h1,h2,h3⟩,h4⟩:=h
  obtain ⟨l,g⟩:=aM6.get h4
  refine ⟨by simp [l],fun i f' p' hf hp=>?_⟩
  cases i with
  |zero=>simp at hf hp;subst hf hp;exact ⟨by simp [h1],h2,h3⟩
  |succ i=>
   obtain ⟨g1,g2,g3⟩:=g i f' p' (by simpa using hf) (by simpa using hp)
   exact ⟨by rw [g1];simp;omega,g2,g3⟩
 |[],_::_,_,h=>h.elim
 |_::_,[],_,h=>h.elim
theorem S6 {P:Program} {t:TypeId} {fs:Array Field} (parts:List (List Sh)) (h:P.underlying t=some (.struct fs)) (hf:aM6 P fs.toList parts 0) (hc:P.cellsOf t=parts.flatten.length):H9 P t parts.flatten:=by
 obtain ⟨l,g⟩:=hf.get
 refine H9.struct parts h (by simpa using l) (fun i f p hi hp=>?_) hc (fun i f p hi hp=>?_)
 ·obtain ⟨g1,g2,g3⟩:=g i f p (by simpa using hi) hp
  exact ⟨by rw [g1];simp,g2⟩
 ·exact (g i f p (by simpa using hi) hp).2.2
theorem b2O:H9 Tryz.prog 4 [.bool]:=.bool Tryz.underlying4
theorem b1g:H9 Tryz.prog 77 [g6,g6,g6]:=
 S6 [[g6],[g6],[g6]] Tryz.underlying77 ⟨⟨by kernel_rfl,by kernel_rfl,B2⟩,⟨by kernel_rfl,by kernel_rfl,B2⟩,⟨by kernel_rfl,by kernel_rfl,B2⟩,trivial⟩ (by kernel_rfl)
theorem b3c:H9 Tryz.prog 79 [g6,g6,g6,g6,g6,.bool]:=
 S6 [[g6],[g6],[g6],[g6],[g6],[.bool]] Tryz.underlying79 ⟨⟨by kernel_rfl,by kernel_rfl,B2⟩,⟨by kernel_rfl,by kernel_rfl,B2⟩,⟨by kernel_rfl,by kernel_rfl,B2⟩,⟨by kernel_rfl,by kernel_rfl,B2⟩,⟨by kernel_rfl,by kernel_rfl,B2⟩,⟨by kernel_rfl,by kernel_rfl,b2O⟩,trivial⟩ (by kernel_rfl)
theorem b4J:H9 Tryz.prog 209 [g6,g6,g6,g6,g6,g6]:=
 S6 [[g6],[g6],[g6],[g6],[g6],[g6]] Tryz.underlying209 ⟨⟨by kernel_rfl,by kernel_rfl,B2⟩,⟨by kernel_rfl,by kernel_rfl,B2⟩,⟨by kernel_rfl,by kernel_rfl,B2⟩,⟨by kernel_rfl,by kernel_rfl,B2⟩,⟨by kernel_rfl,by kernel_rfl,B2⟩,⟨by kernel_rfl,by kernel_rfl,B2⟩,trivial⟩ (by kernel_rfl)
theorem aT2:H9 Tryz.prog 216 [g6,g6,g6,g6]:=
 S6 [[g6],[g6],[g6],[g6]] Tryz.underlying216 ⟨⟨by kernel_rfl,by kernel_rfl,B2⟩,⟨by kernel_rfl,by kernel_rfl,B2⟩,⟨by kernel_rfl,by kernel_rfl,B2⟩,⟨by kernel_rfl,by kernel_rfl,B2⟩,trivial⟩ (by kernel_rfl)
theorem b3K:H9 Tryz.prog 34 [g6,g6,g6]:=
 S6 [[g6],[g6],[g6]] Tryz.underlying34 ⟨⟨by kernel_rfl,by kernel_rfl,B2⟩,⟨by kernel_rfl,by kernel_rfl,B2⟩,⟨by kernel_rfl,by kernel_rfl,B2⟩,trivial⟩ (by kernel_rfl)
theorem aq5:H9 Tryz.prog 36 [g6,g6]:=
 S6 [[g6],[g6]] Tryz.underlying36 ⟨⟨by kernel_rfl,by kernel_rfl,B2⟩,⟨by kernel_rfl,by kernel_rfl,B2⟩,trivial⟩ (by kernel_rfl)
theorem aY2:H9 Tryz.prog 22 [.sl [g6,g6,g6]]:=.sl Tryz.underlying22 (by kernel_rfl) (by decide) b1g
theorem b2s:H9 Tryz.prog 23 [.sl [g6,g6,g6,g6,g6,.bool]]:=.sl Tryz.underlying23 (by kernel_rfl) (by decide) b3c
theorem b2l:H9 Tryz.prog 24 [.sl [g6,g6,g6,g6,g6,g6]]:=.sl Tryz.underlying24 (by kernel_rfl) (by decide) b4J
theorem aI0:H9 Tryz.prog 25 [.sl [g6,g6]]:=.sl Tryz.underlying25 (by kernel_rfl) (by decide) aa2
theorem ay6:H9 Tryz.prog 26 [.sl [g6,g6,g6,g6]]:=.sl Tryz.underlying26 (by kernel_rfl) (by decide) aT2
theorem b1v:H9 Tryz.prog 29 [.sl [g6,g6,g6]]:=.sl Tryz.underlying29 (by kernel_rfl) (by decide) b3K
theorem aQ0:H9 Tryz.prog 30 [.sl [g6,g6]]:=.sl Tryz.underlying30 (by kernel_rfl) (by decide) aq5
abbrev b8K:List Sh:=[g6,g6,g6,.sl [g6,g6,g6],.sl [g6,g6,g6,g6,g6,.bool],.sl [g6,g6,g6,g6,g6,g6],.sl [g6,g6],.sl [g6,g6,g6,g6]]
theorem b7n:H9 Tryz.prog 28 b8K:=
 S6 [[g6],[g6],[g6],[.sl [g6,g6,g6]],[.sl [g6,g6,g6,g6,g6,.bool]],[.sl [g6,g6,g6,g6,g6,g6]],[.sl [g6,g6]],[.sl [g6,g6,g6,g6]]] Tryz.underlying28
  ⟨⟨by kernel_rfl,by kernel_rfl,B2⟩,⟨by kernel_rfl,by kernel_rfl,B2⟩,⟨by kernel_rfl,by kernel_rfl,B2⟩,⟨by kernel_rfl,by kernel_rfl,aY2⟩,⟨by kernel_rfl,by kernel_rfl,b2s⟩,⟨by kernel_rfl,by kernel_rfl,b2l⟩,⟨by kernel_rfl,by kernel_rfl,aI0⟩,⟨by kernel_rfl,by kernel_rfl,ay6⟩,trivial⟩ (by kernel_rfl)
abbrev ba5:List Sh:=b8K++[.sl [g6,g6,g6],.sl [g6,g6]]
theorem b8e:H9 Tryz.prog 32 ba5:=
 S6 [b8K,[.sl [g6,g6,g6]],[.sl [g6,g6]]] Tryz.underlying32
  ⟨⟨by kernel_rfl,by kernel_rfl,b7n⟩,⟨by kernel_rfl,by kernel_rfl,b1v⟩,⟨by kernel_rfl,by kernel_rfl,aQ0⟩,trivial⟩ (by kernel_rfl)
theorem D6 {t:T} (h:Fit g6 t):∃n,t=ti n:=by obtain ⟨n,h,_⟩:=h.int_inv;exact ⟨n,h⟩
section
variable {α:Type} {t:T}
theorem aV5 (h:Fit (.sl [g6,g6,g6]) t):∃l:List J1,t=a17 l:=by
 obtain ⟨xs,rfl,_⟩:=h.sl_inv J1.row (fun _=>True) (fun r hl hr=>by
  match r,hl with
  |[a,b,c],_=>
   obtain ⟨a,rfl⟩:=D6 (hr 0 _ _ rfl rfl)
   obtain ⟨b,rfl⟩:=D6 (hr 1 _ _ rfl rfl)
   obtain ⟨c,rfl⟩:=D6 (hr 2 _ _ rfl rfl)
   exact ⟨⟨a,b,c⟩,rfl,trivial⟩)
 exact ⟨xs,rfl⟩
theorem b29 (h:Fit (.sl [g6,g6,g6]) t):∃l:List J9,t=a9k l:=by
 obtain ⟨xs,rfl,_⟩:=h.sl_inv J9.row (fun _=>True) (fun r hl hr=>by
  match r,hl with
  |[a,b,c],_=>
   obtain ⟨a,rfl⟩:=D6 (hr 0 _ _ rfl rfl)
   obtain ⟨b,rfl⟩:=D6 (hr 1 _ _ rfl rfl)
   obtain ⟨c,rfl⟩:=D6 (hr 2 _ _ rfl rfl)
   exact ⟨⟨a,b,c⟩,rfl,trivial⟩)
 exact ⟨xs,rfl⟩
theorem aY5 (h:Fit (.sl [g6,g6]) t):∃l:List J3,t=a26 l:=by
 obtain ⟨xs,rfl,_⟩:=h.sl_inv J3.row (fun _=>True) (fun r hl hr=>by
  match r,hl with
  |[a,b],_=>
   obtain ⟨a,rfl⟩:=D6 (hr 0 _ _ rfl rfl)
   obtain ⟨b,rfl⟩:=D6 (hr 1 _ _ rfl rfl)
   exact ⟨⟨a,b⟩,rfl,trivial⟩)
 exact ⟨xs,rfl⟩
theorem aK7 (h:Fit (.sl [g6,g6]) t):∃l:List y0,t=J6 l:=by
 obtain ⟨xs,rfl,_⟩:=h.sl_inv y0.row (fun _=>True) (fun r hl hr=>by
  match r,hl with
  |[a,b],_=>
   obtain ⟨a,rfl⟩:=D6 (hr 0 _ _ rfl rfl)
   obtain ⟨b,rfl⟩:=D6 (hr 1 _ _ rfl rfl)
   exact ⟨⟨a,b⟩,rfl,trivial⟩)
 exact ⟨xs,rfl⟩
theorem aw1 (h:Fit (.sl [g6,g6,g6,g6]) t):∃l:List a0Z,t=a0p l:=by
 obtain ⟨xs,rfl,_⟩:=h.sl_inv a0Z.row (fun _=>True) (fun r hl hr=>by
  match r,hl with
  |[a,b,c,d],_=>
   obtain ⟨a,rfl⟩:=D6 (hr 0 _ _ rfl rfl)
   obtain ⟨b,rfl⟩:=D6 (hr 1 _ _ rfl rfl)
   obtain ⟨c,rfl⟩:=D6 (hr 2 _ _ rfl rfl)
   obtain ⟨d,rfl⟩:=D6 (hr 3 _ _ rfl rfl)
   exact ⟨⟨a,b,c,d⟩,rfl,trivial⟩)
 exact ⟨xs,rfl⟩
theorem b1N (h:Fit (.sl [g6,g6,g6,g6,g6,g6]) t):∃l:List K0,t=Z6 l:=by
 obtain ⟨xs,rfl,_⟩:=h.sl_inv K0.row (fun _=>True) (fun r hl hr=>by
  match r,hl with
  |[a,b,c,d,e,f],_=>
   obtain ⟨a,rfl⟩:=D6 (hr 0 _ _ rfl rfl)
   obtain ⟨b,rfl⟩:=D6 (hr 1 _ _ rfl rfl)
   obtain ⟨c,rfl⟩:=D6 (hr 2 _ _ rfl rfl)
   obtain ⟨d,rfl⟩:=D6 (hr 3 _ _ rfl rfl)
   obtain ⟨e,rfl⟩:=D6 (hr 4 _ _ rfl rfl)
   obtain ⟨f,rfl⟩:=D6 (hr 5 _ _ rfl rfl)
   exact ⟨⟨a,b,c,d,e,f⟩,rfl,trivial⟩)
 exact ⟨xs,rfl⟩
theorem b1L (h:Fit (.sl [g6,g6,g6,g6,g6,.bool]) t):∃l:List x4,t=a1L l:=by
 obtain ⟨xs,rfl,_⟩:=h.sl_inv x4.row (fun _=>True) (fun r hl hr=>by
  match r,hl with
  |[a,b,c,d,e,f],_=>
   obtain ⟨a,rfl⟩:=D6 (hr 0 _ _ rfl rfl)
   obtain ⟨b,rfl⟩:=D6 (hr 1 _ _ rfl rfl)
   obtain ⟨c,rfl⟩:=D6 (hr 2 _ _ rfl rfl)
   obtain ⟨d,rfl⟩:=D6 (hr 3 _ _ rfl rfl)
   obtain ⟨e,rfl⟩:=D6 (hr 4 _ _ rfl rfl)
   obtain ⟨f,rfl⟩:=(hr 5 _ _ rfl rfl).bool_inv
   exact ⟨⟨a,b,c,d,e,f⟩,rfl,trivial⟩)
 exact ⟨xs,rfl⟩
end
section
variable {H:Type} {enc:TypeId × Value->H} {w:World} {base:Nat} {spare:Nat->Bool} {held:Bool}
theorem open_clean {v:Value} {d:DataW H} {p:List MemPlace} {r:Reach} {b0:Nat} (hv:Value.okWide Tryz.prog w r b0 36 v) (h:DataW.Trod enc Tryz.prog w base spare held 36 v d p):∃x:J3,RS w (fun _=>none) (fun _=>False) (.agg (x.row.map .t)) v:=by
 obtain ⟨⟨l⟩,rfl,_⟩:=okWide_struct Tryz.underlying36 hv
 obtain ⟨fuel,hf⟩:=h
 obtain ⟨ts,h1,h2,h3⟩:=ac8 (as8 aq5 fuel _ _ hf)
 match ts,h1 with
 |[a,b],_=>
  obtain ⟨a,rfl⟩:=D6 (h2 0 _ _ rfl rfl)
  obtain ⟨b,rfl⟩:=D6 (h2 1 _ _ rfl rfl)
  exact ⟨⟨a,b⟩,h3⟩
theorem open_trace {v:Value} {d:DataW H} {p:List MemPlace} {r:Reach} {b0:Nat} (hv:Value.okWide Tryz.prog w r b0 32 v) (h:DataW.Trod enc Tryz.prog w base spare held 32 v d p):∃t:e8,RS w (fun _=>none) (fun _=>False) (trS t) v:=by
 obtain ⟨⟨l⟩,rfl,_⟩:=okWide_struct Tryz.underlying32 hv
 obtain ⟨fuel,hf⟩:=h
 obtain ⟨ts,h1,h2,h3⟩:=ac8 (as8 b8e fuel _ _ hf)
 match ts,h1 with
 |[a,b,c,d,e,f,g,h,i,j],_=>
  obtain ⟨a,rfl⟩:=D6 (h2 0 _ _ rfl rfl)
  obtain ⟨b,rfl⟩:=D6 (h2 1 _ _ rfl rfl)
  obtain ⟨c,rfl⟩:=D6 (h2 2 _ _ rfl rfl)
  obtain ⟨d,rfl⟩:=aV5 (h2 3 _ _ rfl rfl)
  obtain ⟨e,rfl⟩:=b1L (h2 4 _ _ rfl rfl)
  obtain ⟨f,rfl⟩:=b1N (h2 5 _ _ rfl rfl)
  obtain ⟨g,rfl⟩:=aK7 (h2 6 _ _ rfl rfl)
  obtain ⟨h,rfl⟩:=aw1 (h2 7 _ _ rfl rfl)
  obtain ⟨i,rfl⟩:=b29 (h2 8 _ _ rfl rfl)
  obtain ⟨j,rfl⟩:=aY5 (h2 9 _ _ rfl rfl)
  exact ⟨⟨⟨a,b,c,d,e,f,g,h⟩,i,j⟩,h3⟩
end
end
open Go.RowKit Go.ChangeShapes Go.WideShapes Go.ChangeAt
set_option maxRecDepth 100000 in
theorem a3R (os:Os) (started:os.Started) (H:Type) (enc:TypeId × Value->H):
 ReturnsInHanded {} Tryz.checked os 10 .any (Rows.quarantineSoldSpec.pre6 enc Tryz.prog Tryz.f10 Rows.quarantineSoldRow.domain false) (Rows.quarantineSoldSpec.post enc Tryz.prog Tryz.f10 false true false false):=by
 refine returnsInHanded_of_change (C:=Tryz.checked) aZ9 started (by kernel_rfl) Tryz.func10
  (ChangeSpec.witness6 (enc:=enc) (C:=Tryz.checked) false ⟨#[],#[.agg #[.int .i64 0,.int .i64 0,.int .i64 0,.slice none 0 0,.slice none 0 0,.slice none 0 0,.slice none 0 0,.slice none 0 0,.slice none 0 0,.slice none 0 0],.int .i64 0],[]⟩ 12 (by kernel_rfl) (by kernel_rfl) (by kernel_rfl) (by kernel_rfl)) ?_
 intro W base args ds gs before hval0 hW hcnd _
 have hval:∀(j:Nat) t v,Tryz.f10.params[j]? =some t->args[j]? =some v->Value.okWide Tryz.prog W .any base t v:=hval0
 have hW':=hW
 obtain ⟨p,q,hA0,hV,rfl,hfz,hnd⟩:=hW
 have hA:DataW.TrodAll enc Tryz.prog W 0 (fun _=>true) true Tryz.f10.params.toList args.toList ds p:=hA0
 rw [Tryz.params10] at hA hval
 obtain ⟨v0,vs0,d0,ds0,p0,q0,hargs,rfl,rfl,h0,r0⟩:=trodAll_cons hA
 obtain ⟨v1,vs1,d1,ds1,p1,q1,rfl,rfl,rfl,h1,r1⟩:=trodAll_cons r0
 obtain ⟨rfl,rfl,rfl⟩:=trodAll_nil r1
 obtain rfl:args=#[v0,v1]:=by cases args;simp_all
 obtain ⟨rfl,rfl⟩:=trodVars_none hV
 obtain ⟨a0,t0⟩:=Go.Proofs.YtdbogogfeffjlaaGreat.open_trace (hval 0 32 v0 rfl rfl) h0
 obtain ⟨a1,rfl,rfl,rfl,w1⟩:=open_int Tryz.underlying3 (hval 1 3 v1 rfl rfl) h1
 refine (a6x (a7y a0 a1) (.cons (t0) (.cons (b4g) (.nil)))).mono fun ee W' ⟨he,hg⟩=>?_
 subst he
 exact ⟨_,rfl,aK9 hW' aB6 (by rw [Tryz.params10];intro t ht;simp at ht;first|(rcases ht with rfl|rfl<;>exact ⟨by kernel_rfl,of_decide_eq_true (by kernel_rfl)⟩)|(rcases ht with rfl|rfl<;>exact ⟨by kernel_rfl,of_decide_eq_true (by kernel_rfl)⟩)) rfl rfl (by kernel_rfl) Tryz.underlying4 hg⟩
theorem a4m:(Rows.quarantineSoldRow.inPlace == Tryz.pinned.checked.prog.inPlace 10)=true:=by kernel_rfl
theorem a5L:(Rows.quarantineSoldRow.unfollowed == Tryz.pinned.checked.prog.unfollowed 10)=true:=by kernel_rfl
theorem a6c:(Rows.quarantineSoldRow.recurses == Tryz.pinned.checked.prog.recurses 10)=true:=by kernel_rfl
theorem a47:(Rows.quarantineSoldRow.named == Tryz.pinned.checked.prog.varsNamed 10)=true:=by kernel_rfl
theorem a4A:(Rows.quarantineSoldRow.loops == (Tryz.f10.params.toList++Rows.quarantineSoldSpec.plain.varTypes Tryz.pinned.checked.prog).any (Tryz.pinned.checked.prog.loopsFrom ·))=true:=by kernel_rfl
set_option maxRecDepth 100000 in
theorem a3P:joinedFacts Tryz.pinned.checked.prog 10 Tryz.f10 (Rows.quarantineSoldSpec) Rows.quarantineSoldRow=true:=ap6 (by kernel_rfl) b10 b0m (by kernel_rfl) (by kernel_rfl) (by kernel_rfl) (by kernel_rfl) (by kernel_rfl) (by kernel_rfl) a4m a5L a6c a47 (by kernel_rfl) (by kernel_rfl) (by kernel_rfl) a4A (by kernel_rfl) (by kernel_rfl) (by kernel_rfl) (by kernel_rfl) (by kernel_rfl) b0I (by kernel_rfl) aH6 aF2 b0O b14 (by kernel_rfl) (by kernel_rfl) (by kernel_rfl) (by kernel_rfl) (by kernel_rfl)
theorem quarantineSold_holds:Rows.QuarantineSoldSaid:=
 OpenClaim.holds_of_wide 10 Tryz.f10 rfl rfl rfl rfl rfl rfl rfl ⟨rfl,rfl,rfl,rfl,rfl⟩ rfl rfl rfl rfl rfl (by kernel_rfl) Tryz.func10 a3P
  (of_decide_eq_true (by kernel_rfl)) (by unfold Func.isWrapper;first|(rw [if_pos (by decide +kernel)];kernel_rfl)|(rw [if_neg (by decide +kernel)];exact ⟨rfl,rfl⟩))
  (fun os started H enc _=>a3R os started H enc)
def a4z (bl:List Bool) (i:Nat) (x:x4) (a:List Bool):List Bool:=
 cond (a.getD x.src.toNat false) (cond x.all ((cond (bl.getD i true) a (a.set x.dst.toNat true)).set x.src.toNat false) (cond (bl.getD i true) a (a.set x.dst.toNat true))) a
def a5o (e:Ev) (bl:List Bool) (m:Nat) (d:Nat):Nat->List Bool
 |0=>(List.replicate e.places.length false).set d true
 |k+1=>match e.moves[m+1+k]? with
  |some x=>a4z bl (m+1+k) x (a5o e bl m d k)
  |none=>a5o e bl m d k
theorem aA9 {bl:List Bool} {i:Nat} {x:x4} {a:List Bool}:(a4z bl i x a).length=a.length:=by
 unfold a4z
 cases a.getD x.src.toNat false<;>cases x.all<;>cases bl.getD i true<;>simp
theorem ae3 {e:Ev} {bl:List Bool} {m d:Nat}:∀k,(a5o e bl m d k).length=e.places.length
 |0=>by simp [a5o]
 |k+1=>by
  unfold a5o
  split
  ·rw [aA9,ae3 k]
  ·exact ae3 k
theorem b1I {e:Ev} {bl:List Bool} {m d k:Nat} {x:x4} (h:e.moves[m+1+k]? =some x):a5o e bl m d (k+1)=a4z bl (m+1+k) x (a5o e bl m d k):=by
 rw [a5o,h]
def ae5 (e:Ev) (bl:List Bool) (m:Int):List Int:=match e.moves[m.toNat]? with
 |some x=>a1j (au7 e bl x.dst m.toNat) 0 e.moves
 |none=>[]
structure BQ where
 bef:List Int
 que:List Int
theorem b2g {e:Ev} {m:x4} (h:G2 e m=true):m.src≠m.dst:=by
 simp [G2] at h;exact h.1.1.1.1.1.2
def b8m:List Int->List Int->Bool
 |x::a,y::b=>if x=y then b8m a b else decide (x<y)
 |_,_=>false
def b9X (a b:List Int):Bool:=if b=[]∨a.length≠b.length then decide (b=[]) || decide (a.length<b.length) else b8m a b
section
def a3J (p:List Int):Int:=p.getLast?.getD 0
theorem a6d {p:List Int} {k:Int}:a3J (p++[k])=k:=by simp [a3J]
def ltP (p q:List Int):Prop:=p.length<q.length∨(p.length=q.length∧b8m p q=true)
inductive Pa (fr:Int) (nxt:Int->List Int):List Int->Prop
 |one:Pa fr nxt [fr]
 |snoc {p:List Int} {k:Int} (h:Pa fr nxt p) (hk:k ∈ nxt (a3J p)):Pa fr nxt (p++[k])
def b9G (ps:List (List Int)) (k:Int):Bool:=ps.any fun q=>decide (a3J q=k)
def b63 (p:List Int) (ps:List (List Int)) (k:Int):List (List Int):=if b9G ps k=true then ps else ps++[p++[k]]
section
variable {fr:Int} {nxt:Int->List Int}
theorem Pa.ge (hgt:∀m k,k ∈ nxt m->m<k) {p:List Int} (h:Pa fr nxt p):fr<=a3J p:=by
 induction h with
 |one=>simp [a3J]
 |snoc h hk ih=>rw [a6d];have:=hgt _ _ hk;omega
def b6y (nxt:Int->List Int) (ps:List (List Int)) (p:List Int):List (List Int):=(nxt (a3J p)).foldl (b63 p) ps
def ba2 (nxt:Int->List Int) (ps:List (List Int)) (b:Nat):List (List Int):=(ps.drop b).foldl (b6y nxt) ps
end
end
theorem aI8 {e:Ev} {bl:List Bool} (m k:Int) (h:k ∈ ae5 e bl m):m<k:=by
 unfold ae5 at h
 split at h
 ·obtain ⟨i,z,hz,hP,rfl⟩:=a2Z.1 h
  simp [au7] at hP
  omega
 ·cases h
def a7c (e:Ev) (i k:Nat):Bool:=match e.moves[i]?,e.moves[k]? with
 |some u,some v=>decide (i<k) && decide (v.src=u.dst) && a36 e u.dst i k
 |_,_=>false
theorem ap4 {e:Ev} {bl:List Bool} {i j:Nat}:(j:Int) ∈ ae5 e bl i↔a7c e i j=true∧bl.getD j true=false:=by
 unfold ae5 a7c
 rw [Int.toNat_natCast]
 cases hi:e.moves[i]? with
 |none=>simp
 |some u=>
  simp only
  constructor
  ·intro h
   obtain ⟨k,z,hz,hP,hk⟩:=a2Z.1 h
   have:k=j:=by omega
   subst this
   rw [Nat.zero_add] at hP
   simp only [au7,Bool.and_eq_true,Bool.not_eq_true'] at hP
   rw [hz]
   exact ⟨by simp only [Bool.and_eq_true];exact hP.1,hP.2⟩
  ·rintro ⟨h1,h2⟩
   cases hj:e.moves[j]? with
   |none=>rw [hj] at h1;cases h1
   |some v=>
    rw [hj] at h1
    refine a2Z.2 ⟨j,v,hj,?_,by omega⟩
    rw [Nat.zero_add]
    simp only [au7,Bool.and_eq_true,Bool.not_eq_true']
    simp only [Bool.and_eq_true] at h1
    exact ⟨h1,h2⟩
theorem b4h {e:Ev} {i j:Nat} (h:a7c e i j=true):i<j∧j<e.moves.length:=by
 unfold a7c at h
 split at h
 ·rename_i u v hu hv
  simp only [Bool.and_eq_true,decide_eq_true_eq] at h
  exact ⟨h.1.1,(lg1 hv).1⟩
 ·cases h
theorem Pa.case {e:Ev} {bl:List Bool} {fr:Nat} {q:List Int} (h:Pa fr (ae5 e bl) q) {k:Nat} (hk:a3J q=k):(q=[(fr:Int)]∧k=fr)∨∃(p:List Int) (i:Nat),q=p++[(k:Int)]∧Pa fr (ae5 e bl) p∧a3J p=i∧fr<=i∧a7c e i k=true∧bl.getD k true=false:=by
 cases h with
 |one=>left;simp [a3J] at hk;exact ⟨rfl,by omega⟩
 |@snoc p j hp hj=>
  right
  rw [a6d] at hk
  subst hk
  have hge:=hp.ge aI8
  obtain ⟨i,hi⟩:=Int.eq_ofNat_of_zero_le (show 0<=a3J p by omega)
  rw [hi] at hj
  obtain ⟨h1,h2⟩:=ap4.1 hj
  exact ⟨p,i,rfl,hp,hi,by omega,h1,h2⟩
theorem ar7 {a:List Bool} {i j:Nat} {v:Bool} (h:i<a.length):(a.set i v).getD j false=if j=i then v else a.getD j false:=by
 rw [lg3,lg3]
 by_cases hj:j=i
 ·subst hj;rw [List.getElem?_set_self h,if_pos rfl];rfl
 ·rw [List.getElem?_set_ne (Ne.symm hj),if_neg hj]
def Rch (e:Ev) (bl:List Bool) (m v:Nat):Prop:=∃q,Pa m (ae5 e bl) q∧a3J q=(v:Int)
theorem Rch.self {e:Ev} {bl:List Bool} {m:Nat}:Rch e bl m m:=⟨_,.one,rfl⟩
theorem Rch.ge {e:Ev} {bl:List Bool} {m v:Nat} (h:Rch e bl m v):m<=v:=by
 obtain ⟨q,h1,h2⟩:=h
 have:=h1.ge aI8
 omega
theorem Rch.step {e:Ev} {bl:List Bool} {m v k:Nat} (h:Rch e bl m v) (hs:a7c e v k=true) (hb:bl.getD k true=false):Rch e bl m k:=by
 obtain ⟨q,h1,h2⟩:=h
 exact ⟨q++[(k:Int)],.snoc h1 (by rw [h2];exact ap4.2 ⟨hs,hb⟩),a6d⟩
theorem Rch.case {e:Ev} {bl:List Bool} {m k:Nat} (h:Rch e bl m k):k=m∨∃v,Rch e bl m v∧a7c e v k=true∧bl.getD k true=false:=by
 obtain ⟨q,h1,h2⟩:=h
 rcases h1.case h2 with ⟨_,h⟩|⟨p,i,_,h4,h5,_,h7,h8⟩
 ·exact .inl h
 ·exact .inr ⟨i,⟨p,h4,h5⟩,h7,h8⟩
def a5x (e:Ev) (bl:List Bool) (m i p:Nat):Prop:=∃(v:Nat) (u:x4),v<i∧e.moves[v]? =some u∧Rch e bl m v∧u.dst=(p:Int)∧a36 e u.dst v i=true
theorem a5x.reach {e:Ev} {bl:List Bool} {m i:Nat} {x:x4} (hx:e.moves[i]? =some x) (hm:m<i) {p:Nat} (hp:x.src=(p:Int)) (hb:bl.getD i true=false):Rch e bl m i↔a5x e bl m i p:=by
 constructor
 ·intro h
  rcases h.case with h|⟨v,h1,h2,_⟩
  ·omega
  ·have h3:=b4h h2
   unfold a7c at h2
   split at h2
   ·rename_i u w hu hw
    rw [hx] at hw
    injection hw with hw
    subst hw
    simp only [Bool.and_eq_true,decide_eq_true_eq] at h2
    exact ⟨v,u,h3.1,hu,h1,by rw [← h2.1.2,hp],h2.2⟩
   ·cases h2
 ·rintro ⟨v,u,h1,h2,h3,h4,h5⟩
  refine h3.step ?_ hb
  unfold a7c
  rw [h2,hx]
  simp only [Bool.and_eq_true,decide_eq_true_eq]
  exact ⟨⟨h1,by rw [hp,h4]⟩,h5⟩
theorem ap0 {a:List Bool} {i j:Nat} (h:i<a.length):(a.set i true).getD j false=true↔j=i∨a.getD j false=true:=by
 rw [ar7 h]
 split
 ·rename_i hq;simp [hq]
 ·rename_i hq;simp [hq]
theorem b1f {a:List Bool} {i j:Nat} (h:i<a.length):(a.set i false).getD j false=true↔j≠i∧a.getD j false=true:=by
 rw [ar7 h]
 split
 ·rename_i hq;simp [hq]
 ·rename_i hq;simp [hq]
theorem atTo_holds {e:Ev} (h0:C6 e=0) {bl:List Bool} {m:Nat} {x0:x4} (hm:e.moves[m]? =some x0):∀k,m+1+k<=e.moves.length->∀p,(a5o e bl m x0.dst.toNat k).getD p false=true↔a5x e bl m (m+1+k) p
 |0,_,p=>by
  have hd:=a1q (E1 h0 (lg2 hm))
  have hl:x0.dst.toNat<(List.replicate e.places.length false).length:=by simp;omega
  rw [a5o,ap0 hl]
  have hr:(List.replicate e.places.length false).getD p false=false:=by simp [lg3,List.getElem?_replicate];split<;>rfl
  rw [hr]
  constructor
  ·rintro (h|h)
   ·exact ⟨m,x0,by omega,hm,.self,by omega,a6t⟩
   ·cases h
  ·rintro ⟨v,u,h1,h2,h3,h4,h5⟩
   have:=h3.ge
   obtain rfl:v=m:=by omega
   rw [hm] at h2
   injection h2 with h2
   subst h2
   exact .inl (by omega)
 |k+1,hk,p=>by
  have hlt:m+1+k<e.moves.length:=by omega
  obtain ⟨x,hx⟩:∃x,e.moves[m+1+k]? =some x:=⟨_,lg0 hlt⟩
  have hmo:=E1 h0 (lg2 hx)
  have hsr:=S5 hmo
  have hdr:=a1q hmo
  have hne:=b2g hmo
  have ih:=atTo_holds h0 (bl:=bl) hm k (by omega)
  have hal:=ae3 (e:=e) (bl:=bl) (m:=m) (d:=x0.dst.toNat) k
  obtain ⟨s,hs⟩:=Int.eq_ofNat_of_zero_le hsr.1
  obtain ⟨d,hd⟩:=Int.eq_ofNat_of_zero_le hdr.1
  rw [b1I hx]
  unfold a4z
  rw [hs,hd,Int.toNat_natCast,Int.toNat_natCast]
  have hsd:s≠d:=by omega
  -- what holds before the next move
  have old:∀q:Nat,(∃ (v:Nat) (u:x4),v<m+1+k∧e.moves[v]? =some u∧Rch e bl m v∧u.dst=(q:Int)∧a36 e u.dst v (m+1+(k+1))=true)↔a5x e bl m (m+1+k) q∧¬(s=q∧x.all=true):=fun q=>by
   constructor
   ·rintro ⟨v,u,h1,h2,h3,h4,h5⟩
    have:=h3.ge
    rw [show m+1+(k+1)=m+1+k+1 by omega,a8w hx (by omega),Bool.and_eq_true] at h5
    refine ⟨⟨v,u,h1,h2,h3,h4,h5.1⟩,?_⟩
    rintro ⟨rfl,ha⟩
    have h6:=h5.2
    rw [ha,h4,hs] at h6
    simp at h6
   ·rintro ⟨⟨v,u,h1,h2,h3,h4,h5⟩,h6⟩
    refine ⟨v,u,h1,h2,h3,h4,?_⟩
    rw [show m+1+(k+1)=m+1+k+1 by omega,a8w hx (by omega),h5,Bool.true_and]
    cases ha:x.all with
    |false=>simp
    |true=>
     have:¬s=q:=fun h=>h6 ⟨h,ha⟩
     simp [hs,h4]
     omega
  have new:∀q:Nat,a5x e bl m (m+1+(k+1)) q↔(a5x e bl m (m+1+k) q∧¬(s=q∧x.all=true))∨(d=q∧Rch e bl m (m+1+k)):=fun q=>by
   rw [← old q]
   constructor
   ·rintro ⟨v,u,h1,h2,h3,h4,h5⟩
    by_cases hv:v=m+1+k
    ·subst hv
     rw [hx] at h2
     injection h2 with h2
     subst h2
     exact .inr ⟨by omega,h3⟩
    ·exact .inl ⟨v,u,by omega,h2,h3,h4,h5⟩
   ·rintro (⟨v,u,h1,h2,h3,h4,h5⟩|⟨rfl,h⟩)
    ·exact ⟨v,u,by omega,h2,h3,h4,h5⟩
    ·exact ⟨m+1+k,x,by omega,hx,h,hd,a6t⟩
  have hrch:Rch e bl m (m+1+k)↔(a5o e bl m x0.dst.toNat k).getD s false=true∧bl.getD (m+1+k) true=false:=by
   constructor
   ·intro h
    have hb:bl.getD (m+1+k) true=false:=by
     rcases h.case with h'|⟨v,_,_,h'⟩
     ·omega
     ·exact h'
    exact ⟨(ih s).2 ((a5x.reach hx (by omega) hs hb).1 h),hb⟩
   ·rintro ⟨h1,h2⟩
    exact (a5x.reach hx (by omega) hs h2).2 ((ih s).1 h1)
  rw [new p]
  cases ha:(a5o e bl m x0.dst.toNat k).getD s false with
  |false=>
   rw [cond_false]
   have hnr:¬Rch e bl m (m+1+k):=fun h=>by have:=(hrch.1 h).1;rw [ha] at this;cases this
   have hnh:¬a5x e bl m (m+1+k) s:=fun h=>by have:=(ih s).2 h;rw [ha] at this;cases this
   rw [ih p]
   constructor
   ·intro h
    exact .inl ⟨h,fun hq=>hnh (hq.1 ▸ h)⟩
   ·rintro (h|h)
    ·exact h.1
    ·exact absurd h.2 hnr
  |true=>
   rw [cond_true]
   have hr2:Rch e bl m (m+1+k)↔bl.getD (m+1+k) true=false:=by rw [hrch,ha];simp
   have h1:∀q:Nat,(cond (bl.getD (m+1+k) true) (a5o e bl m x0.dst.toNat k) ((a5o e bl m x0.dst.toNat k).set d true)).getD q false=true↔a5x e bl m (m+1+k) q∨(d=q∧Rch e bl m (m+1+k)):=fun q=>by
    rw [hr2]
    cases hb:bl.getD (m+1+k) true with
    |true=>rw [cond_true,ih q];simp
    |false=>
     rw [cond_false,ap0 (by rw [hal];omega),ih q]
     constructor
     ·rintro (h|h)
      ·exact .inr ⟨h.symm,rfl⟩
      ·exact .inl h
     ·rintro (h|h)
      ·exact .inr h
      ·exact .inl h.1.symm
   have hlen:(cond (bl.getD (m+1+k) true) (a5o e bl m x0.dst.toNat k) ((a5o e bl m x0.dst.toNat k).set d true)).length=e.places.length:=by
    cases bl.getD (m+1+k) true<;>simp [hal]
   cases hall:x.all with
   |false=>
    rw [cond_false,h1 p]
    simp
   |true=>
    rw [cond_true,b1f (by rw [hlen];omega),h1 p]
    constructor
    ·rintro ⟨h2,h3|h3⟩
     ·exact .inl ⟨h3,fun h=>h2 h.1.symm⟩
     ·exact .inr h3
    ·rintro (⟨h2,h3⟩|⟨h2,h3⟩)
     ·exact ⟨fun h=>h3 ⟨h.symm,rfl⟩,.inl h2⟩
     ·exact ⟨by omega,.inr ⟨h2,h3⟩⟩
theorem an2 {t t':e8} {kind:Int} {mv:Nat} (hq:QT t) (hq':QT t') (k0:0<=kind) (k1:kind<8) (hmv:mv<t.ev.moves.length) (hm:t'.ev.moves=t.ev.moves) (hpl:t'.ev.places=t.ev.places)
 (hA:∀i z,a6k t' kind i z->a6k t kind i z):(∀ g ∈ t8 t' kind mv,g ∈ t8 t kind mv)∧(∀ p ∈ v5 t' kind mv,p ∈ v5 t kind mv):=by
 have hst:∀(z:List Rat) k,stk t'.ev (col z) k=stk t.ev (col z) k:=fun z k=>a8e k (fun i _=>by rw [hm]) fun _ _=>rfl
 have hk:∀p,o4 t'.ev p=o4 t.ev p:=fun p=>by unfold o4;rw [hpl]
 have hg:∀z g,aj4 t'.ev z g=aj4 t.ev z g:=fun z g=>by
  unfold aj4 a06
  rw [hm,hk,hst]
 have hlift:∀i,a9T t'.ev i->a9T t.ev i:=fun i ⟨m,h1,h2⟩=>⟨m,by rw [← hm];exact h1,by rw [← hk];exact h2⟩
 have key:∀i g,g<t.ev.moves.length+t.ev.places.length->(isA t' kind i).getD g false=true->(isA t kind i).getD g false=true:=fun i g hgl h=>by
  obtain ⟨z,hz,hp⟩:=(au6 hq' (by rw [hm];omega) k0 k1 (by rw [hm,hpl];exact hgl)).1 h
  exact (au6 hq (by omega) k0 k1 hgl).2 ⟨z,hA i z hz,by rw [← hg];exact hp⟩
 have hres:∀i ∈ F5 t' kind mv,i ∈ F5 t kind mv:=fun i hi=>by
  obtain ⟨h1,h2⟩:=List.mem_filter.1 hi
  exact List.mem_filter.2 ⟨M7.2 (hlift i (M7.1 h1)),key i mv (by omega) h2⟩
 have hrea:∀g,g<t.ev.moves.length+t.ev.places.length->C5 t' kind mv g=true->C5 t kind mv g=true:=fun g hgl h=>by
  obtain ⟨i,hi,hA⟩:=List.any_eq_true.1 h
  exact List.any_eq_true.2 ⟨i,hres i hi,key i g hgl hA⟩
 refine ⟨fun g hg=>?_,fun p hp=>?_⟩
 ·obtain ⟨h1,h2⟩:=a0i.1 hg
  rw [hm] at h1
  exact a0i.2 ⟨h1,hrea g (by omega) h2⟩
 ·obtain ⟨h1,h2⟩:=a8v.1 hp
  rw [hpl] at h1
  rw [hm] at h2
  exact a8v.2 ⟨h1,hrea _ (by omega) h2⟩
theorem an6 {t:e8} {c:J3} {kind:Int} {mv:Nat} (hq:QT t) (hq':QT (T9 t c)) (k0:0<=kind) (k1:kind<8) (hmv:mv<t.ev.moves.length):
 (∀ g ∈ t8 (T9 t c) kind mv,g ∈ t8 t kind mv)∧(∀ p ∈ v5 (T9 t c) kind mv,p ∈ v5 t kind mv):=
 an2 hq hq' k0 k1 hmv rfl rfl fun i z h=>⟨aQ6 (t:=y8 t) (c:=c) (a1c hq.h) h.p,h.o⟩
theorem ag4 {t:e8} {r:y0} {kind:Int} {mv:Nat} (hq:QT t) (hq':QT (N4 t r)) (k0:0<=kind) (k1:kind<8) (hmv:mv<t.ev.moves.length):
 (∀ g ∈ t8 t kind mv,g ∈ t8 (N4 t r) kind mv)∧(∀ p ∈ v5 t kind mv,p ∈ v5 (N4 t r) kind mv):=
 an2 hq' hq k0 k1 hmv rfl rfl fun i z h=>⟨aX1 (t:=y8 t) (r:=r) (n8 hq'.h).1 h.p,h.o⟩
abbrev b8I (t:e8):Blk:={ mode:=.live,elem:=32,size:=10,rows:=[(trT t).map .t],box:=true }
theorem ac7 {t:e8} {find:Int} (hs:t.Sized) (hm:t.ev.moves.length<=8) (hp:t.ev.places.length<=20) (hf:T1 t find=true):∃f,a71 t find f:=by
 obtain ⟨h1,h2,f,h3⟩:=a59 hf
 obtain ⟨q1,q2,q3,q4,q5⟩:=n8 h1
 have hg:=E6 q4 f (lg2 h3)
 exact ⟨f,⟨h1,hm,hp⟩,hs,h2,h3,by omega,by omega,by omega,by omega,by omega⟩
theorem O7 {a b:List Nat} (h:∀x ∈ a,x ∈ b):a5l (w6 a) (w6 b)=true:=ag7.2 h
set_option maxHeartbeats 8000000 in
theorem a7Z (t:e8) (find:Int) (c:J3) (r:y0) (hc:t.cleans.length<=1048576) (hr:t.ev.recalls.length<=1048576):
 a9 Tryz.prog 6 [trS t,a7 .i64 find,.agg (c.row.map .t),.agg (r.row.map .t)] [] (f9 true) []:=by
 have sa:=aI7
 have m1:(t.ev.recalls.map y0.row).length=t.ev.recalls.length:=by simp
 have m2:(t.cleans.map J3.row).length=t.cleans.length:=by simp
 have m3:(t.finds.map J9.row).length=t.finds.length:=by simp
 (refine a8d d7 Tryz.func6 rfl (by decide) ?_;refine J7 d7 ?_;(conv=>whnf);repeat ((first|refine b0x ?_|refine zy ?_);conv=>whnf))
 (refine J7 d7 ?_;conv=>whnf)
 repeat' (first|refine zz ?_|refine qp sa ?_|refine zd ?_ ?_<;>intro h<;>try omega|refine zy ?_|fail)<;>conv=>whnf
 (refine J7 d7 ?_;conv=>whnf)
 repeat' (first|refine zz ?_|refine zd ?_ ?_<;>intro h<;>try omega|refine zy ?_|fail)<;>conv=>whnf
 refine a0A d7 ([J,a7 .i64 find,J,J,S.c (C.t (T.ptr (trT t))),J,J,S.c (C.t (T.ptr r.row)),J,f9 true,S.c (C.ptr 0 0 0),J,J,J,J,J,J,J,J,J,J,J,J,J,J,J,J,J,J,J,J,J,J,J,J,J,J,J,J,J,J,J,J,J,J,J,J,J,J,J,J,J,J,J,J,J,J,J,J,J,J,J,J,J,J,J,J,J,J,J,J,J,J,J,J,J,J,J,J,J,J,J,J,J,J,J,J,J,J,J,J,J,J,J,J,J,J,J,J,J,J,J,J,J,J,J,J,J,J,J,J,J,J,J,J,J,J,J,J,J,J]) [b8I (T9 t c)] ?_ ?_
 ·conv=>whnf
  repeat' (first|refine zz ?_|refine qp toC ?_|refine qp (toC,C4) ?_|refine qp toC ?_|refine a2Y rfl (by simp [toC];omega) ?_|refine q9 (by simp [toC,C4]) (by simp [toC];omega) ?_|refine zd ?_ ?_<;>intro h<;>try omega|refine zy ?_|fail)<;>conv=>whnf
  all_goals first
   |omega
   |exact ⟨[some 0],rfl,rfl,⟨⟨rfl,rfl,rfl,.inr ⟨⟨rfl,rfl,rfl,rfl,rfl,rfl,rfl,rfl,rfl,show ah9 [some 0] _ _ _ from show VC _ (fun id=>G3 [some 0] id=true) _ _ from v4 (rows:=(t.cleans++[c]).map J3.row) rfl rfl (by intro h;cases h) rfl (by simp [toC,C4];exact ⟨lg4 (by simp),rfl⟩) (by simp [toC]),trivial⟩,trivial⟩⟩,trivial⟩,⟨rfl,rfl,rfl,rfl,⟨rfl,rfl,rfl⟩,trivial⟩⟩
 (refine J7 d7 ?_;conv=>whnf)
 repeat' (first|refine zz ?_|refine zd ?_ ?_<;>intro h<;>try omega|refine zy ?_|fail)<;>conv=>whnf
 refine a0A d7 ([J,a7 .i64 find,J,J,S.c (C.t (T.ptr (trT t))),J,J,J,J,f9 true,S.c (C.ptr 0 0 0),S.c (C.ptr 1 0 0),J,J,J,J,J,J,J,J,J,J,J,J,J,J,J,J,J,J,J,J,J,J,J,J,J,J,J,J,J,J,J,J,J,J,J,J,J,J,J,J,J,J,J,J,J,J,J,J,J,J,J,J,J,J,J,J,J,J,J,J,J,J,J,J,J,J,J,J,J,J,J,J,J,J,J,J,J,J,J,J,J,J,J,J,J,J,J,J,J,J,J,J,J,J,J,J,J,J,J,J,J,J,J,J,J,J,J,J,J]) [b8I (T9 t c),b8I (N4 t r)] ?_ ?_
 ·conv=>whnf
  repeat' (first|refine zz ?_|refine qp toC ?_|refine qp (toC,C4) ?_|refine qp toC ?_|refine a2Y rfl (by simp [toC];omega) ?_|refine q9 (by simp [toC,C4]) (by simp [toC];omega) ?_|refine zd ?_ ?_<;>intro h<;>try omega|refine zy ?_|fail)<;>conv=>whnf
  all_goals first
   |omega
   |exact ⟨[some 0,some 1],rfl,rfl,⟨⟨rfl,rfl,rfl,.inl ⟨rfl,d6 [trT (T9 t c)]⟩⟩,⟨rfl,rfl,rfl,.inr ⟨⟨rfl,rfl,rfl,rfl,rfl,rfl,show ah9 [some 0,some 1] _ _ _ from show VC _ (fun id=>G3 [some 0,some 1] id=true) _ _ from v4 (rows:=(t.ev.recalls++[r]).map y0.row) rfl rfl (by intro h;cases h) rfl (by simp [toC,C4];exact ⟨lg4 (by simp),rfl⟩) (by simp [toC]),rfl,rfl,rfl,trivial⟩,trivial⟩⟩,trivial⟩,⟨rfl,rfl,rfl,⟨rfl,rfl,rfl⟩,⟨rfl,rfl,rfl⟩,trivial⟩⟩
 have sm:=aH3 t 6
 refine z5 d7 _ ?_
 cases hsm:Z3 t 6 with
 |false=>
  rw [hsm] at sm
  conv=>whnf
  repeat' (first|refine zz ?_|refine qp sm ?_|refine zd ?_ ?_<;>intro h<;>try omega|refine zy ?_|fail)<;>conv=>whnf
  all_goals first
   |omega
   |exact b7 rfl
 |true=>
 rw [hsm] at sm
 obtain ⟨s1,s2,s3⟩:=a2f (by decide) hsm
 by_cases hrg:¬(0<=find∧find<t.finds.length)
 ·conv=>whnf
  repeat' (first|refine zz ?_|refine qp sm ?_|refine zd ?_ ?_<;>intro h<;>try omega|refine zy ?_|fail)<;>conv=>whnf
  all_goals first
   |omega
   |exact b7 rfl
 have hrg:0<=find∧find<t.finds.length:=Decidable.not_not.1 hrg
 obtain ⟨r1,r2⟩:=hrg
 have sC:(T9 t c).Sized:=⟨s1.ev,s1.f,by show (t.cleans++[c]).length<=_;unfold Z3 at hsm;simp only [Bool.and_eq_true,decide_eq_true_eq] at hsm;rw [List.length_append,List.length_singleton];omega⟩
 have sR:(N4 t r).Sized:=⟨⟨s1.ev.s1,s1.ev.s2,s1.ev.s3,by show (t.ev.recalls++[r]).length<=_;unfold Z3 a23 at hsm;simp only [Bool.and_eq_true,decide_eq_true_eq] at hsm;rw [List.length_append,List.length_singleton];omega,s1.ev.s5⟩,s1.f,s1.c⟩
 have hp:t.ev.places.length<=20:=by unfold Z3 a23 at hsm;simp only [Bool.and_eq_true,decide_eq_true_eq] at hsm;omega
 have ck:=a6r t s1
 have lo1:a9 Tryz.prog 23 [trS (T9 t c),a7 .i64 find] [] (.tup [.c (.t (.sl 0 .nil [])),.c (.t (.sl 0 .nil [])),a7 .i64 1]) []∨∃f,a71 (T9 t c) find f∧a9 Tryz.prog 23 [trS (T9 t c),a7 .i64 find] [] (.tup [e7 (w6 (t8 (T9 t c) f.kind f.mv.toNat)),e7 (w6 (v5 (T9 t c) f.kind f.mv.toNat)),a7 .i64 0]) []:=by
  cases h:T1 (T9 t c) find with
  |false=>exact .inl (a4u _ sC find h)
  |true=>
   obtain ⟨f,hF⟩:=ac7 sC (by show t.ev.moves.length<=8;omega) hp h
   exact .inr ⟨f,hF,a2x _ sC hF.q find f hF.f0 hF.hf⟩
 have lo2:a9 Tryz.prog 23 [trS (N4 t r),a7 .i64 find] [] (.tup [.c (.t (.sl 0 .nil [])),.c (.t (.sl 0 .nil [])),a7 .i64 1]) []∨∃f,a71 (N4 t r) find f∧a9 Tryz.prog 23 [trS (N4 t r),a7 .i64 find] [] (.tup [e7 (w6 (t8 (N4 t r) f.kind f.mv.toNat)),e7 (w6 (v5 (N4 t r) f.kind f.mv.toNat)),a7 .i64 0]) []:=by
  cases h:T1 (N4 t r) find with
  |false=>exact .inl (a4u _ sR find h)
  |true=>
   obtain ⟨f,hF⟩:=ac7 sR (by show t.ev.moves.length<=8;omega) hp h
   exact .inr ⟨f,hF,a2x _ sR hF.q find f hF.f0 hF.hf⟩
 cases hf:T1 t find with
 |false=>
  have hn:v8 t≠0:=fun h=>by
   unfold T1 at hf;rw [decide_eq_true h,decide_eq_true r1,decide_eq_true r2] at hf;cases hf
  have lo:=a4u t s1 find hf
  rcases lo1 with lo1|⟨f1,hF1,lo1⟩<;>rcases lo2 with lo2|⟨f2,hF2,lo2⟩
  all_goals
   conv=>whnf
   repeat' (first|refine zz ?_|refine qp sm ?_|refine qp lo ?_|refine qp lo1 ?_|refine qp lo2 ?_|refine qp ck ?_|refine zd ?_ ?_<;>intro h<;>try omega|refine zy ?_|fail)<;>conv=>whnf
  all_goals first
   |omega
   |exact b7 rfl
 |true=>
 obtain ⟨f,hF⟩:=ac7 s1 (by omega) hp hf
 rw [hF.q.h] at ck
 have lo:=a2x t s1 hF.q find f hF.f0 hF.hf
 have len:∀t':e8,t'.ev.moves.length<=8->t'.ev.places.length<=20->∀k m,(w6 (t8 t' k m)).length<=1000000∧(w6 (v5 t' k m)).length<=1000000:=fun t' h1 h2 k m=>by
  rw [Z1,Z1]
  have a:=a3l t' k m (t'.ev.moves.length+t'.ev.places.length)
  have b:=a8F t' k m (t'.ev.moves.length+t'.ev.places.length)
  exact ⟨by show (J0 _ _ _ _).length<=_;omega,by show (F8 _ _ _ _).length<=_;omega⟩
 have l0:=len t hF.q.m hF.q.p f.kind f.mv.toNat
 have l1:∀f1,a71 (T9 t c) find f1->f1=f:=fun f1 h=>by have a:=h.hf;have b:=hF.hf;rw [show (T9 t c).finds=t.finds from rfl,b] at a;injection a with a;exact a.symm
 have l2:∀f1,a71 (N4 t r) find f1->f1=f:=fun f1 h=>by have a:=h.hf;have b:=hF.hf;rw [show (N4 t r).finds=t.finds from rfl,b] at a;injection a with a;exact a.symm
 rcases lo1 with lo1|⟨f1,hF1,lo1⟩<;>rcases lo2 with lo2|⟨f2,hF2,lo2⟩
 ·conv=>whnf
  repeat' (first|refine zz ?_|refine qp sm ?_|refine qp lo ?_|refine qp lo1 ?_|refine qp lo2 ?_|refine qp ck ?_|refine zd ?_ ?_<;>intro h<;>try omega|refine zy ?_|fail)<;>conv=>whnf
  all_goals first
   |omega
   |exact b7 rfl
 ·have e2:=l2 _ hF2
  subst e2
  have h2:=ag4 hF.q hF2.q hF.k0 hF.k1 hF.ml
  have n2:=len (N4 t r) hF2.q.m hF2.q.p f2.kind f2.mv.toNat
  have j3:=P2 (w6 (t8 t f2.kind f2.mv.toNat)) (w6 (t8 (N4 t r) f2.kind f2.mv.toNat)) l0.1 n2.1
  have j4:=P2 (w6 (v5 t f2.kind f2.mv.toNat)) (w6 (v5 (N4 t r) f2.kind f2.mv.toNat)) l0.2 n2.2
  rw [O7 h2.1] at j3
  rw [O7 h2.2] at j4
  conv=>whnf
  repeat' (first|refine zz ?_|refine qp sm ?_|refine qp lo ?_|refine qp lo1 ?_|refine qp lo2 ?_|refine qp ck ?_|refine qp j3 ?_|refine qp j4 ?_|refine zd ?_ ?_<;>intro h<;>try omega|refine zy ?_|fail)<;>conv=>whnf
  all_goals first
   |omega
   |exact b7 rfl
 ·have e1:=l1 _ hF1
  subst e1
  have h1:=an6 hF.q hF1.q hF.k0 hF.k1 hF.ml
  have n1:=len (T9 t c) hF1.q.m hF1.q.p f1.kind f1.mv.toNat
  have j1:=P2 (w6 (t8 (T9 t c) f1.kind f1.mv.toNat)) (w6 (t8 t f1.kind f1.mv.toNat)) n1.1 l0.1
  have j2:=P2 (w6 (v5 (T9 t c) f1.kind f1.mv.toNat)) (w6 (v5 t f1.kind f1.mv.toNat)) n1.2 l0.2
  rw [O7 h1.1] at j1
  rw [O7 h1.2] at j2
  conv=>whnf
  repeat' (first|refine zz ?_|refine qp sm ?_|refine qp lo ?_|refine qp lo1 ?_|refine qp lo2 ?_|refine qp ck ?_|refine qp j1 ?_|refine qp j2 ?_|refine zd ?_ ?_<;>intro h<;>try omega|refine zy ?_|fail)<;>conv=>whnf
  all_goals first
   |omega
   |exact b7 rfl
 ·have e1:=l1 _ hF1
  have e2:=l2 _ hF2
  subst e1
  subst e2
  have h1:=an6 hF.q hF1.q hF.k0 hF.k1 hF.ml
  have n1:=len (T9 t c) hF1.q.m hF1.q.p f2.kind f2.mv.toNat
  have j1:=P2 (w6 (t8 (T9 t c) f2.kind f2.mv.toNat)) (w6 (t8 t f2.kind f2.mv.toNat)) n1.1 l0.1
  have j2:=P2 (w6 (v5 (T9 t c) f2.kind f2.mv.toNat)) (w6 (v5 t f2.kind f2.mv.toNat)) n1.2 l0.2
  rw [O7 h1.1] at j1
  rw [O7 h1.2] at j2
  have h2:=ag4 hF.q hF2.q hF.k0 hF.k1 hF.ml
  have n2:=len (N4 t r) hF2.q.m hF2.q.p f2.kind f2.mv.toNat
  have j3:=P2 (w6 (t8 t f2.kind f2.mv.toNat)) (w6 (t8 (N4 t r) f2.kind f2.mv.toNat)) l0.1 n2.1
  have j4:=P2 (w6 (v5 t f2.kind f2.mv.toNat)) (w6 (v5 (N4 t r) f2.kind f2.mv.toNat)) l0.2 n2.2
  rw [O7 h2.1] at j3
  rw [O7 h2.2] at j4
  conv=>whnf
  repeat' (first|refine zz ?_|refine qp sm ?_|refine qp lo ?_|refine qp lo1 ?_|refine qp lo2 ?_|refine qp ck ?_|refine qp j1 ?_|refine qp j2 ?_|refine qp j3 ?_|refine qp j4 ?_|refine zd ?_ ?_<;>intro h<;>try omega|refine zy ?_|fail)<;>conv=>whnf
  all_goals first
   |omega
   |exact b7 rfl
open Go.RowKit Go.ChangeShapes Go.WideShapes Go.Deep
theorem b3Z {H:Type} (d:DataW H):1<=Rows.uptoBulk d:=by
 cases d with
 |lit l=>cases l<;>simp [Rows.uptoBulk]
 |nil=>simp [Rows.uptoBulk]
 |ptr d=>simp [Rows.uptoBulk]
 |slice elems spare=>simp [Rows.uptoBulk]
 |agg parts=>simp [Rows.uptoBulk]
 |iface t d=>simp [Rows.uptoBulk]
 |map entries=>simp [Rows.uptoBulk]
 |held h=>simp [Rows.uptoBulk]
theorem a52 {H:Type} {d:DataW H} {l:List (DataW H)} (h:d ∈ l):Rows.uptoBulk d<=Rows.uptoBulkAll l:=by
 induction l with
 |nil=>cases h
 |cons x r ih=>
  simp only [Rows.uptoBulkAll]
  cases List.mem_cons.1 h with
  |inl e=>subst e;omega
  |inr e=>have:=ih e;omega
theorem b2K {H:Type} (l:List (DataW H)):l.length<=Rows.uptoBulkAll l:=by
 induction l with
 |nil=>simp [Rows.uptoBulkAll]
 |cons x r ih=>have:=b3Z x;simp only [Rows.uptoBulkAll,List.length_cons];omega
theorem a5I {H:Type} {enc:TypeId × Value->H} {P:Program} {w:World} {base n:Nat} {spare:Nat->Bool} {held:Bool} {t e:TypeId} {A:Option Addr} {len cap:Nat} {x:DataW H × List MemPlace}
 (ht:P.underlying t=some (.slice e)) (h:DataW.trod enc P w base spare held n t [.slice A len cap]=some x):len<=Rows.uptoBulk x.1:=by
 rcases DataW.trod_slice ht h with ⟨e1,_⟩|⟨a,len',cap',elems,rest,k,_,e1,e2,_,_,_,e3,_⟩
 ·injection e1 with e1 _
  injection e1 with _ e1 _
  omega
 ·injection e1 with e1 _
  injection e1 with _ e1 _
  have h7:=b2K (elems.map (·.1))
  rw [List.length_map] at h7
  have h8:Rows.uptoBulk x.1=Rows.uptoBulkAll (elems.map (·.1))+Rows.uptoBulkAll (rest.map (·.1))+1:=by rw [e2];simp [Rows.uptoBulk]
  omega
theorem a25 {w:World} {ι:Io} {M:Ms} {n:Nat} {k:SK} {rows:List (List T)} {v:Value} (h:RC w ι M (.t (.sl n k rows)) v):∃A c,v=.slice A rows.length c:=by
 cases h with
 |t h=>cases h with
  |sl f=>exact ⟨_,_,rfl⟩
theorem b1p {w:World} {ι:Io} {M:Ms} {n:Int} {v:Value} (h:RC w ι M (.t (ti n)) v):v=.int .i64 n:=by
 cases h with
 |t h=>cases h with
  |atm h=>rfl
theorem b5s {H:Type} {enc:TypeId × Value->H} {w:World} {base:Nat} {spare:Nat->Bool} {held:Bool} {d:DataW H} {p:List MemPlace} {ι:Io} {M:Ms} {t:e8} {v:Value}
 (hr:RS w ι M (trS t) v) (ht:DataW.Trod enc Tryz.prog w base spare held 32 v d p):t.finds.length<=Rows.uptoBulk d∧t.cleans.length<=Rows.uptoBulk d:=by
 cases hr with
 |agg vs hl hr=>
  match vs,hl with
  |[u0,u1,u2,u3,u4,u5,u6,u7,u8,u9],_=>
   obtain rfl:=b1p (hr 0 _ rfl)
   obtain rfl:=b1p (hr 1 _ rfl)
   obtain rfl:=b1p (hr 2 _ rfl)
   obtain ⟨A3,c3,rfl⟩:=a25 (hr 3 _ rfl)
   obtain ⟨A4,c4,rfl⟩:=a25 (hr 4 _ rfl)
   obtain ⟨A5,c5,rfl⟩:=a25 (hr 5 _ rfl)
   obtain ⟨A6,c6,rfl⟩:=a25 (hr 6 _ rfl)
   obtain ⟨A7,c7,rfl⟩:=a25 (hr 7 _ rfl)
   obtain ⟨A8,c8,rfl⟩:=a25 (hr 8 _ rfl)
   obtain ⟨A9,c9,rfl⟩:=a25 (hr 9 _ rfl)
   obtain ⟨fuel,hf⟩:=ht
   obtain ⟨xs,n,_,hx,_,hlen,hg⟩:=DataW.trod_struct Tryz.underlying32 hf
   have hc1:Tryz.prog.cellsOf 29=1:=by kernel_rfl
   have hc2:Tryz.prog.cellsOf 30=1:=by kernel_rfl
   have h1:=hg 1 _ rfl
   have h2:=hg 2 _ rfl
   have hl3:xs.length=3:=hlen
   injection hx with hd _
   have hd2:Rows.uptoBulk d=Rows.uptoBulkAll (xs.map (·.1))+1:=by rw [hd];simp [Rows.uptoBulk]
   obtain ⟨x1,hx1⟩:∃x,xs[1]? =some x:=⟨_,lg0 (by omega)⟩
   obtain ⟨x2,hx2⟩:∃x,xs[2]? =some x:=⟨_,lg0 (by omega)⟩
   rw [hx1] at h1
   rw [hx2] at h2
   change DataW.trod enc Tryz.prog w base spare held n 29 (List.take (Tryz.prog.cellsOf 29) _)=some x1 at h1
   change DataW.trod enc Tryz.prog w base spare held n 30 (List.take (Tryz.prog.cellsOf 30) _)=some x2 at h2
   rw [hc1] at h1
   rw [hc2] at h2
   have b1:=a5I Tryz.underlying29 h1
   have b2:=a5I Tryz.underlying30 h2
   have p1:=a52 (List.mem_map.2 ⟨x1,lg2 hx1,rfl⟩:x1.1 ∈ xs.map (·.1))
   have p2:=a52 (List.mem_map.2 ⟨x2,lg2 hx2,rfl⟩:x2.1 ∈ xs.map (·.1))
   have q1:(t.finds.map J9.row).length=t.finds.length:=by simp
   have q2:(t.cleans.map J3.row).length=t.cleans.length:=by simp
   omega
open Go.RowKit Go.ChangeShapes Go.WideShapes Go.Deep
theorem b3R {H:Type} {enc:TypeId × Value->H} {w:World} {base:Nat} {spare:Nat->Bool} {held:Bool} {d:DataW H} {p:List MemPlace} {ι:Io} {M:Ms} {t:e8} {v:Value}
 (hr:RS w ι M (trS t) v) (ht:DataW.Trod enc Tryz.prog w base spare held 32 v d p):t.ev.recalls.length<=Rows.uptoBulk d:=by
 cases hr with
 |agg vs hl hr=>
  match vs,hl with
  |[u0,u1,u2,u3,u4,u5,u6,u7,u8,u9],_=>
   obtain rfl:=b1p (hr 0 _ rfl)
   obtain rfl:=b1p (hr 1 _ rfl)
   obtain rfl:=b1p (hr 2 _ rfl)
   obtain ⟨A3,c3,rfl⟩:=a25 (hr 3 _ rfl)
   obtain ⟨A4,c4,rfl⟩:=a25 (hr 4 _ rfl)
   obtain ⟨A5,c5,rfl⟩:=a25 (hr 5 _ rfl)
   obtain ⟨A6,c6,rfl⟩:=a25 (hr 6 _ rfl)
   obtain ⟨A7,c7,rfl⟩:=a25 (hr 7 _ rfl)
   obtain ⟨A8,c8,rfl⟩:=a25 (hr 8 _ rfl)
   obtain ⟨A9,c9,rfl⟩:=a25 (hr 9 _ rfl)
   obtain ⟨fuel,hf⟩:=ht
   obtain ⟨xs,n,_,hx,_,hlen,hg⟩:=DataW.trod_struct Tryz.underlying32 hf
   have hc0:Tryz.prog.cellsOf 28=8:=by kernel_rfl
   have hc6:Tryz.prog.cellsOf 25=1:=by kernel_rfl
   have h0:=hg 0 _ rfl
   have hl3:xs.length=3:=hlen
   injection hx with hd _
   have hd2:Rows.uptoBulk d=Rows.uptoBulkAll (xs.map (·.1))+1:=by rw [hd];simp [Rows.uptoBulk]
   obtain ⟨x0,hx0⟩:∃x,xs[0]? =some x:=⟨_,lg0 (by omega)⟩
   rw [hx0] at h0
   change DataW.trod enc Tryz.prog w base spare held n 28 (List.take (Tryz.prog.cellsOf 28) _)=some x0 at h0
   rw [hc0] at h0
   obtain ⟨ys,n',_,hy,_,hlen',hg'⟩:=DataW.trod_struct Tryz.underlying28 h0
   have h6:=hg' 6 _ rfl
   have hl8:ys.length=8:=hlen'
   have hy':=congrArg Prod.fst hy
   have hd3:Rows.uptoBulk x0.1=Rows.uptoBulkAll (ys.map (·.1))+1:=by rw [hy'];simp [Rows.uptoBulk]
   obtain ⟨y6,hy6⟩:∃x,ys[6]? =some x:=⟨_,lg0 (by omega)⟩
   rw [hy6] at h6
   change DataW.trod enc Tryz.prog w base spare held n' 25 (List.take (Tryz.prog.cellsOf 25) _)=some y6 at h6
   rw [hc6] at h6
   have b6:=a5I Tryz.underlying25 h6
   have p0:=a52 (List.mem_map.2 ⟨x0,lg2 hx0,rfl⟩:x0.1 ∈ xs.map (·.1))
   have p6:=a52 (List.mem_map.2 ⟨y6,lg2 hy6,rfl⟩:y6.1 ∈ ys.map (·.1))
   have q6:(t.ev.recalls.map y0.row).length=t.ev.recalls.length:=by simp
   omega
section
open Go.RowKit Go.ChangeShapes Go.WideShapes Go.ChangeAt
set_option maxRecDepth 100000 in
theorem a3S (os:Os) (started:os.Started) (H:Type) (enc:TypeId × Value->H) (F:Stop.Interp):
 ReturnsInHanded {} Tryz.checked os 6 .any ((Rows.OpenSpec.upto Rows.quarantineMoreSpec).pre6 enc Tryz.prog Tryz.f6 Rows.quarantineMoreUptoRow.domain false) (((Rows.OpenSpec.upto Rows.quarantineMoreSpec).at F).post enc Tryz.prog Tryz.f6 false true false false):=by
 refine returnsInHanded_of_cond (C:=Tryz.checked) (s:=Rows.OpenSpec.upto Rows.quarantineMoreSpec) (k:=Rows.uptoSmall) rfl aZ9 started (by kernel_rfl) Tryz.func6
  (OpenSpec.witness (enc:=enc) (C:=Tryz.checked) (s:=Rows.OpenSpec.upto Rows.quarantineMoreSpec) (k:=Rows.uptoSmall) rfl false ⟨#[],#[.agg #[.int .i64 0,.int .i64 0,.int .i64 0,.slice none 0 0,.slice none 0 0,.slice none 0 0,.slice none 0 0,.slice none 0 0,.slice none 0 0,.slice none 0 0],.int .i64 0,.agg #[.int .i64 0,.int .i64 0],.agg #[.int .i64 0,.int .i64 0]],[]⟩ 12 (by kernel_rfl) (by kernel_rfl) (by kernel_rfl) (by kernel_rfl)
    (x:=([.agg [.agg [.lit (.int .i64 0),.lit (.int .i64 0),.lit (.int .i64 0),.nil,.nil,.nil,.nil,.nil],.nil,.nil],.lit (.int .i64 0),.agg [.lit (.int .i64 0),.lit (.int .i64 0)],.agg [.lit (.int .i64 0),.lit (.int .i64 0)]],[],[])) (by kernel_rfl) rfl (by kernel_rfl)) ?_
 intro W base args ds gs before hval0 hW hcnd hk _
 have hval:∀(j:Nat) t v,Tryz.f6.params[j]? =some t->args[j]? =some v->Value.okWide Tryz.prog W .any base t v:=hval0
 have hW':=hW
 obtain ⟨p,q,hA0,hV,rfl,hfz,hnd⟩:=hW
 have hA:DataW.TrodAll enc Tryz.prog W 0 (fun _=>true) true Tryz.f6.params.toList args.toList ds p:=hA0
 rw [Tryz.params6] at hA hval
 obtain ⟨v0,vs0,d0,ds0,p0,q0,hargs,rfl,rfl,h0,r0⟩:=trodAll_cons hA
 obtain ⟨v1,vs1,d1,ds1,p1,q1,rfl,rfl,rfl,h1,r1⟩:=trodAll_cons r0
 obtain ⟨v2,vs2,d2,ds2,p2,q2,rfl,rfl,rfl,h2,r2⟩:=trodAll_cons r1
 obtain ⟨v3,vs3,d3,ds3,p3,q3,rfl,rfl,rfl,h3,r3⟩:=trodAll_cons r2
 obtain ⟨rfl,rfl,rfl⟩:=trodAll_nil r3
 obtain rfl:args=#[v0,v1,v2,v3]:=by cases args;simp_all
 obtain ⟨rfl,rfl⟩:=trodVars_none hV
 obtain ⟨a0,t0⟩:=Go.Proofs.YtdbogogfeffjlaaGreat.open_trace (hval 0 32 v0 rfl rfl) h0
 obtain ⟨a1,rfl,rfl,rfl,w1⟩:=open_int Tryz.underlying3 (hval 1 3 v1 rfl rfl) h1
 obtain ⟨a2,t2⟩:=Go.Proofs.YtdbogogfeffjlaaGreat.open_clean (hval 2 36 v2 rfl rfl) h2
 obtain ⟨a3,t3⟩:=Go.Proofs.YtdbogogfeffjlaaGreat.open_recall (hval 3 54 v3 rfl rfl) h3
 have h9:Rows.uptoBulkAll ([d0,.lit (.int .i64 a1),d2,d3]++[])<=1048576:=of_decide_eq_true hk
 simp only [List.cons_append,List.nil_append,Rows.uptoBulkAll] at h9
 have h8:=b5s t0 h0
 have h7:=b3R t0 h0
 have hc:a0.cleans.length<=1048576:=by omega
 have hr9:a0.ev.recalls.length<=1048576:=by omega
 refine (a6x (a7Z a0 a1 a2 a3 hc hr9) (.cons (t0) (.cons (b4g) (.cons (t2) (.cons (t3) (.nil)))))).mono fun ee W' ⟨he,hg⟩=>?_
 subst he
 exact ⟨_,rfl,aK9 hW' aB6 (by rw [Tryz.params6];intro t ht;simp at ht;first|(rcases ht with rfl|rfl|rfl|rfl<;>exact ⟨by kernel_rfl,of_decide_eq_true (by kernel_rfl)⟩)|(rcases ht with rfl|rfl|rfl|rfl<;>exact ⟨by kernel_rfl,of_decide_eq_true (by kernel_rfl)⟩)) rfl rfl (by kernel_rfl) Tryz.underlying4 hg⟩
theorem a4n:(Rows.quarantineMoreUptoRow.inPlace == Tryz.pinned.checked.prog.inPlace 6)=true:=by kernel_rfl
theorem a5T:(Rows.quarantineMoreUptoRow.unfollowed == Tryz.pinned.checked.prog.unfollowed 6)=true:=by kernel_rfl
theorem a68:(Rows.quarantineMoreUptoRow.recurses == Tryz.pinned.checked.prog.recurses 6)=true:=by kernel_rfl
theorem a4i:(Rows.quarantineMoreUptoRow.named == Tryz.pinned.checked.prog.varsNamed 6)=true:=by kernel_rfl
theorem a4C:(Rows.quarantineMoreUptoRow.loops == (Tryz.f6.params.toList++(Rows.OpenSpec.upto Rows.quarantineMoreSpec).bare.plain.varTypes Tryz.pinned.checked.prog).any (Tryz.pinned.checked.prog.loopsFrom ·))=true:=by kernel_rfl
set_option maxRecDepth 100000 in
theorem a3O:joinedFacts Tryz.pinned.checked.prog 6 Tryz.f6 ((Rows.OpenSpec.upto Rows.quarantineMoreSpec).bare) Rows.quarantineMoreUptoRow=true:=ap6 (by kernel_rfl) b10 b0m (by kernel_rfl) (by kernel_rfl) (by kernel_rfl) (by kernel_rfl) (by kernel_rfl) (by kernel_rfl) a4n a5T a68 a4i (by kernel_rfl) (by kernel_rfl) (by kernel_rfl) a4C (by kernel_rfl) (by kernel_rfl) (by kernel_rfl) (by kernel_rfl) (by kernel_rfl) b0I (by kernel_rfl) aH6 aF2 b0O b14 (by kernel_rfl) (by kernel_rfl) (by kernel_rfl) (by kernel_rfl) (by kernel_rfl)
theorem quarantineMore_holds:Rows.QuarantineMoreUptoSaid:=
 OpenClaim.holds_of_cond 6 Tryz.f6 rfl rfl rfl rfl rfl rfl rfl ⟨rfl,rfl,rfl,rfl,rfl⟩ rfl rfl rfl rfl rfl (by kernel_rfl) Tryz.func6 a3O
  (of_decide_eq_true (by kernel_rfl)) (by unfold Func.isWrapper;first|(rw [if_pos (by decide +kernel)];kernel_rfl)|(rw [if_neg (by decide +kernel)];exact ⟨rfl,rfl⟩))
  (fun os started H enc _ F=>a3S os started H enc F)
end
section
end
end Go.Proofs.YtdbogogfeffjlaaGreat
