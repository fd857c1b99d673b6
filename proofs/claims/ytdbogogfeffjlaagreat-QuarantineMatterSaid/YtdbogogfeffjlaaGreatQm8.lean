/- Chapter 21 in plain Lean: the system of a kind of foreign matter, and its solutions. No program is in sight. -/
import Derived.Test.YtdbogogfeffjlaaGreatQm7
namespace Go.Proofs.YtdbogogfeffjlaaGreat
set_option linter.unusedVariables false
set_option linter.unusedSimpArgs false
set_option maxRecDepth 100000
open Go.RowKit
open St1 St2 St3 St4 St5 St6 St7 St8 StA StB
noncomputable def as7 (t:e7) (kind:Int) (a b i:Nat):List Rat:=if a0X (y0 a) (O3 (p9 t kind i) (y0 a))=true then U8 (p9 t kind i) (y0 b) else U8 (p9 t kind i) (y0 a)
noncomputable def a1Q (t:e7) (kind:Int) (a b:Nat) (l:List Nat):List (List Fr):=l.map fun i=>(as7 t kind a b i).map fz
theorem b0Y {t:e7} {kind:Int} {a b k i:Nat} {l:List Nat} (h:l[k]? =some i):a1Q t kind a b (l.take (k+1))=a1Q t kind a b (l.take k)++[(as7 t kind a b i).map fz]:=by
 unfold a1Q;rw [List.take_add_one,h];simp
theorem aB9 (t:e7) (kind:Int) (a b:Nat) (l:List Nat):(a1Q t kind a b l).length=l.length:=by simp [a1Q]
abbrev aS8 (hh:List (List Fr)):Blk:={ mode:=.live,elem:=44,size:=1,rows:=toC (hh.map a0Y),box:=false }
theorem a83 {n v:Nat} (h:v<n):f8 (-1) ((n:Nat):Int) (y0 v)=true:=T4 (by omega) (by show ((v:Nat):Int)<_;omega) (by show ((1:Int):Rat)≠0;decide) rfl
theorem U7 (v:Nat):A8 (y0 v):=V3 (by decide) (by decide)
set_option maxHeartbeats 8000000 in
theorem b5n (t:e7) (hs:t.Sized) (hQ:QT t) (find:Int) (f:L7) (f0:0<=find) (hf:t.finds[find.toNat]? =some f) (g:Nat) (hg:g<t.ev.moves.length) (hw:a5v t f.kind g (K6 t f.kind f.mv.toNat)=none):
 a9 Tryz.prog 54 [trS t,a7 .i64 find,a7 .i64 g] [] (.tup [aH3 (a1Q t f.kind f.mv.toNat g (i5 t.ev)),f5 true]) []:=by
 have wi:=al8 t hs hQ find f f0 hf g hg
 rw [hw] at wi
 unfold b4L at wi
 have kn:=aE5 t hs find g
 rw [b4v hQ f0 hf hg] at kn
 have hm:=hQ.m
 obtain ⟨q1,q2,q3,q4,q5⟩:=p8 hQ.h
 have hfg:=A0 q4 f (lg2 hf)
 obtain ⟨mv,hmv⟩:∃mv:Nat,f.mv=mv:=⟨f.mv.toNat,by omega⟩
 have hmv2:f.mv.toNat=mv:=by omega
 have li:=b0e t.ev hs.ev q1
 have m1:((T6 t.ev).map d9).length=(i5 t.ev).length:=by rw [List.length_map,a5s]
 have ll:(i5 t.ev).length<=t.ev.moves.length:=x7 _
 rw [hmv2]
 have on1:=a6Z mv 1 (by decide) (by decide)
 rw [← hmv] at on1
 have on2:=a6Z g 1 (by decide) (by decide)
 (refine ac Tryz.func54 ?_;(conv=>whnf);repeat ((first|refine b0x ?_|refine zy ?_);conv=>whnf))
 repeat' (first|refine zz ?_|refine qp wi ?_|refine qp kn ?_|refine qp li ?_|refine zd ?_ ?_<;>intro h<;>try omega|refine zy ?_|fail)<;>conv=>whnf
 all_goals try omega
 refine d6 c8 (fun k=>([J,a7 .i64 find,a7 .i64 g,S.c (C.t (T.ptr (trT t))),J,J,J,J,J,J,J,S.c (C.own 0 0 (a1Q t f.kind mv g ((i5 t.ev).take k)).length true),d8 (T6 t.ev),J,J,J,J,J,J,J,J,J,J,J,J,J,J,J,J,J,J,J,J,J,J,J,J,d8 (T6 t.ev),a7 .i64 (i5 t.ev).length,a7 .i64 k,J,J,J,J,J,J,J,J,J,J,J,J,J,J,J,J,J,J,J,J,J,J,J,J,J,J,J,J,J,J,J,J,J,J,J,J,J,J,J,J,J,J],[aS8 (a1Q t f.kind mv g ((i5 t.ev).take k))])) (i5 t.ev).length (fun _=>True) [none] trivial
  ⟨rfl,rfl,⟨⟨rfl,rfl⟩,trivial⟩,⟨rfl,rfl,rfl,⟨rfl,rfl,rfl⟩,rfl,rfl,c6 (by simp [m1]),rfl,trivial⟩⟩ ?_
 intro k hk _
 have pl:=aB9 t f.kind mv g ((i5 t.ev).take k)
 have pt:((i5 t.ev).take k).length=k:=by rw [List.length_take];omega
 have lA:(a1Q t f.kind mv g ((i5 t.ev).take k)).length<=(aS8 (a1Q t f.kind mv g ((i5 t.ev).take k))).rows.length:=by show _<=(toC _).length;simp [toC]
 by_cases hlt:k<(i5 t.ev).length
 ·obtain ⟨i,hi⟩:∃i,(i5 t.ev)[k]? =some i:=⟨_,lg0 hlt⟩
  have hii:=a5o hi
  have al:=aZ5 t hs hQ.h find f f0 hf i (by omega)
  have hG:=F3 (kind:=f.kind) i hQ (by omega) (by omega) (by omega)
  have ss:=hG.sm
  have nn:((p9 t f.kind i).n.toNat:Nat)=t.ev.moves.length:=by show ((t.ev.moves.length:Nat):Int).toNat=_;omega
  have r1:f8 (-1) (((p9 t f.kind i).n.toNat:Nat):Int) (y0 mv)=true:=by rw [nn];exact a83 (by omega)
  have r2:f8 (-1) (((p9 t f.kind i).n.toNat:Nat):Int) (y0 g)=true:=by rw [nn];exact a83 hg
  have mu1:=aP9 (p9 t f.kind i) (y0 mv) ss hG.p.z hG.pos r1 (U7 _)
  have mu2:=aP9 (p9 t f.kind i) (y0 g) ss hG.p.z hG.pos r2 (U7 _)
  have x15:=b4g ss r1 (U7 mv)
  have xl:=af9 (s:=p9 t f.kind i) (g:=y0 mv)
  have po:=a9K (y0 mv) (O3 (p9 t f.kind i) (y0 mv)) (by rw [xl];exact r1) (U7 _) (fun v hv=>by have:=x15 v hv;omega) (by omega) (fun k=>by
   have h1:=a6F (M6 (U7 mv)) x15 k
   have h2:=Nat.mul_le_mul_right (31+4) (show (y0 mv).length<=9 by simp [y0])
   omega)
  have eN:as7 t f.kind mv g i=if a0X (y0 mv) (O3 (p9 t f.kind i) (y0 mv))=true then U8 (p9 t f.kind i) (y0 g) else U8 (p9 t f.kind i) (y0 mv):=rfl
  rw [b0Y hi,eN]
  generalize a1Q t f.kind mv g ((i5 t.ev).take k)=P at *
  generalize p9 t f.kind i=s at *
  generalize O3 s (y0 g)=x2 at *
  generalize U8 s (y0 g)=y2 at *
  generalize O3 s (y0 mv)=x1 at *
  generalize U8 s (y0 mv)=y1 at *
  unfold y0 at mu1 mu2 po
  rw [← hmv] at mu1
  cases hb:a0X (y0 mv) x1 with
  |true=>
   unfold y0 at hb
   rw [hb,←hmv] at po
   rw [if_pos rfl]
   conv=>whnf
   repeat' (first|refine zz ?_|refine qp al ?_|refine qp on1 ?_|refine qp on2 ?_|refine qp mu1 ?_|refine qp mu2 ?_|refine qp po ?_|refine qp toC ?_|refine qp 7 ?_|refine b8 hii ?_|refine p4 f0 hf ?_|refine o7 lA (by simp [toC];omega) ?_|refine bl0 [7] ?_|refine zd ?_ ?_<;>intro h<;>try omega|refine zy ?_|fail)<;>conv=>whnf
   all_goals first
    |omega
    |(refine ⟨hlt,trivial,[some 2],rfl,rfl,⟨a8 (rows:=(P++[y2.map fz]).map a0Y) rfl rfl rfl ?_ rfl,trivial⟩,⟨rfl,rfl,rfl,⟨rfl,rfl,?_,fun h=>h⟩,rfl,rfl,rfl,c6 (by omega),trivial⟩⟩
      ·exact y5 (f:=a0Y) (x:=y2.map fz) rfl
      ·simp [toC])
  |false=>
   unfold y0 at hb
   rw [hb,←hmv] at po
   rw [if_neg (by decide)]
   conv=>whnf
   repeat' (first|refine zz ?_|refine qp al ?_|refine qp on1 ?_|refine qp on2 ?_|refine qp mu1 ?_|refine qp mu2 ?_|refine qp po ?_|refine qp toC ?_|refine qp 7 ?_|refine b8 hii ?_|refine p4 f0 hf ?_|refine o7 lA (by simp [toC];omega) ?_|refine bl0 [7] ?_|refine zd ?_ ?_<;>intro h<;>try omega|refine zy ?_|fail)<;>conv=>whnf
   all_goals first
    |omega
    |(refine ⟨hlt,trivial,[some 2],rfl,rfl,⟨a8 (rows:=(P++[y1.map fz]).map a0Y) rfl rfl rfl ?_ rfl,trivial⟩,⟨rfl,rfl,rfl,⟨rfl,rfl,?_,fun h=>h⟩,rfl,rfl,rfl,c6 (by omega),trivial⟩⟩
      ·exact y5 (f:=a0Y) (x:=y1.map fz) rfl
      ·simp [toC])
 ·have hke:k=(i5 t.ev).length:=by omega
  subst hke
  rw [lg4 (Nat.le_refl _)] at *
  conv=>whnf
  repeat' (first|refine zz ?_|refine zd ?_ ?_<;>intro h<;>try omega|refine zy ?_|fail)<;>conv=>whnf
  all_goals first
   |omega
   |exact k5 ⟨(show VC _ (fun id=>E1 [] id=true) (C.own 0 0 _ true) _ from t5 (k:=aS8 (a1Q t f.kind mv g (i5 t.ev))) rfl rfl (fun h=>h) rfl rfl (by simp)),rfl,trivial⟩
theorem aW5 (t:e7) (hs:t.Sized) (find:Int):a9 Tryz.prog 100 [trS t,a7 .i64 find] [] (f5 (a0v t find)) []:=by
 have ck:=aE0 t hs
 have m1:(t.finds.map L7.row).length=t.finds.length:=by simp
 unfold a0v
 by_cases h1:o9 t=0
 ·rw [decide_eq_true h1,Bool.true_and]
  (refine ac Tryz.func100 ?_;(conv=>whnf);repeat ((first|refine b0x ?_|refine zy ?_);conv=>whnf))
  repeat' (first|refine zz ?_|refine qp ck ?_|refine zd ?_ ?_<;>intro h<;>try omega|refine zy ?_|fail)<;>conv=>whnf
  all_goals first
   |omega
   |(refine b9 ?_;symm;simp only [Bool.and_eq_true,decide_eq_true_eq,Bool.and_eq_false_iff,decide_eq_false_iff_not];omega)
 ·rw [decide_eq_false h1,Bool.false_and,Bool.false_and]
  (refine ac Tryz.func100 ?_;(conv=>whnf);repeat ((first|refine b0x ?_|refine zy ?_);conv=>whnf))
  repeat' (first|refine zz ?_|refine qp ck ?_|refine zd ?_ ?_<;>intro h<;>try omega|refine zy ?_|fail)<;>conv=>whnf
  all_goals first
   |omega
   |exact b9 rfl
def a1z (e:Ev) (i:Nat):Bool:=decide (i ∈ i5 e)
theorem al4 {e:Ev} {i:Nat} {m:p6} (hm:e.moves[i]? =some m):a1z e i=decide (m9 e m.src=0):=by
 unfold a1z
 rw [decide_eq_decide,L6]
 constructor
 ·rintro ⟨x,hx,h⟩;rw [hm] at hx;injection hx with hx;rw [hx];exact h
 ·intro h;exact ⟨m,hm,h⟩
theorem a8C (e:Ev) (h0:z6 e=0) (i:Nat) (hi:i<e.moves.length):a9 Tryz.prog 45 [evS e,a7 .i64 i] [] (f5 (a1z e i)) []:=by
 obtain ⟨m,hm⟩:∃m,e.moves[i]? =some m:=⟨_,lg0 hi⟩
 have ms:=O4 (B3 h0 (lg2 hm))
 obtain ⟨p,hp⟩:∃p,e.places[m.src.toNat]? =some p:=⟨_,lg0 (by omega)⟩
 have hk0:m9 e m.src=p.kind:=by unfold m9;rw [hp];rfl
 rw [al4 hm,hk0]
 (refine ac Tryz.func45 ?_;(conv=>whnf);repeat ((first|refine b0x ?_|refine zy ?_);conv=>whnf))
 repeat' (first|refine zz ?_|refine b8 hm ?_|refine p4 ms.1 hp ?_|refine zd ?_ ?_<;>intro h<;>try omega|refine zy ?_|fail)<;>conv=>whnf
 all_goals first
  |omega
  |(refine b9 ?_;symm;simp;omega)
  |(refine b9 ?_;symm;simp;assumption)
theorem b2J (v c:Int) (h0:-9223372036854775808<=c) (h1:c<=9223372036854775807):a9 Tryz.prog 101 [a7 .i64 v,a7 .i64 c] [] (n9 [(v,((c:Int):Rat))]) []:=by
 have ic:=a2b c h0 h1
 (refine ac Tryz.func101 ?_;(conv=>whnf);repeat ((first|refine b0x ?_|refine zy ?_);conv=>whnf))
 repeat' (first|refine zz ?_|refine qp ic ?_|refine zd ?_ ?_<;>intro h<;>try omega|refine zy ?_|fail)<;>conv=>whnf
 all_goals first
  |exact k5 (show a8c [] _ _ _ from rfl)
theorem aQ3 (t:e7) (kind:Int) (hs:t.Sized) (h1:o9 t=0) (k0:0<=kind) (k1:kind<8) (H:Hp):U1 Tryz.prog 81 [.agg (b1K t),a7 .i64 kind] H (.tup [.agg [.t (ti t.ev.moves.length),.own H.length 0 (N6 (t8 t) kind).rows.length true],a7 .i64 0]) [J2 (N6 (t8 t) kind).rows]:=by
 have hc:¬(o9 (t8 t)≠0∨kind<0∨8<=kind):=by have:=a1Y h1;omega
 have h:=a87 (aP6 (t8 t) kind ⟨hs.ev,by simp [t8],hs.c⟩ hc)
 exact a5a (j:=1) h rfl rfl (c7 _) rfl rfl
def T2 (t:e7) (kind:Int) (i k:Nat):List B1:=(N6 (t8 t) kind).rows++J3 (p5 t.ev k) i
theorem aE9 {t:e7} {kind:Int} {i k:Nat} {m:p6} (hm:t.ev.moves[k]? =some m):T2 t kind i (k+1)=if k≠i∧a1z t.ev k=true then T2 t kind i k++[n6 k 2 ((0:Int):Rat)] else T2 t kind i k:=by
 unfold T2
 conv=>lhs;unfold p5
 rw [hm,al4 hm]
 simp only [decide_eq_true_eq]
 by_cases h1:m9 t.ev m.src=0
 ·rw [if_pos h1]
  unfold J3
  rw [List.filter_append,List.map_append]
  by_cases h2:k≠i
  ·rw [if_pos ⟨h2,h1⟩];simp [h2]
  ·rw [if_neg (fun h=>h2 h.1)];simp [h2]
 ·rw [if_neg h1,if_neg (fun h=>h1 h.2)]
theorem aL7 {t:e7} {kind:Int} {i k:Nat} (hm:t.ev.moves.length<=14) (hc:t.cleans.length<=50) (hk:k<=14):(T2 t kind i k).length<=750:=by
 unfold T2
 have hl:=O7 (t:=t8 t) (kind:=kind) t.ev.moves.length
 have hl2:t.ev.moves.length*(2+(t8 t).finds.length+(t8 t).cleans.length)<=14*52:=Nat.mul_le_mul hm (by show 2+0+t.cleans.length<=52;omega)
 have hl3:=a1s (p5 t.ev k) i
 have hl4:=x7 (e:=t.ev) k
 have hl7:(N6 (t8 t) kind).rows.length<=14*52:=Nat.le_trans hl hl2
 rw [List.length_append];omega
set_option maxHeartbeats 8000000 in
theorem aF0 (t:e7) (hs:t.Sized) (find:Int) (f:L7) (hf:t.finds[find.toNat]? =some f) (i:Nat) (h:a76 t find i=true) (hm:t.ev.moves.length<=14):
 a9 Tryz.prog 33 [trS t,a7 .i64 find,a7 .i64 i] [] (.tup [a2i (p9 t f.kind i),a7 .i64 0]) []:=by
 have fi:=aW5 t hs find
 unfold a76 at h
 obtain ⟨h1,h2⟩:=(Bool.and_eq_true _ _).mp h
 rw [h1] at fi
 obtain ⟨h3,h4,_⟩:=ai3 h1
 obtain ⟨q1,q2,q3,q4,q5⟩:=p8 h3
 have hg:=A0 q4 f (lg2 hf)
 have h5:=(of_decide_eq_true h2).2
 rw [Int.toNat_natCast] at h5
 have il:i<t.ev.moves.length:=by
  obtain ⟨m,hm,_⟩:=L6.1 h5
  exact (lg1 hm).1
 have m1:(t.ev.moves.map p6.row).length=t.ev.moves.length:=by simp
 have lf:=a8C t.ev q1 i il
 have e1:a1z t.ev i=true:=decide_eq_true h5
 rw [e1] at lf
 have sy:=fun H:Hp=>aQ3 t f.kind hs h3 (by omega) (by omega) H
 have i0:=a2b 0 (by decide) (by decide)
 have eM0:T2 t f.kind i 0=(N6 (t8 t) f.kind).rows:=by unfold T2 p5 J3;simp
 (refine ac Tryz.func33 ?_;(conv=>whnf);repeat ((first|refine b0x ?_|refine zy ?_);conv=>whnf))
 repeat' (first|refine zz ?_|refine qp fi ?_|refine qp lf ?_|refine qp 10 ?_|refine p4 h4 hf ?_|refine .inl ⟨_,_,sy _,?_⟩|refine bl0 [10] ?_|refine zd ?_ ?_<;>intro h<;>try omega|refine zy ?_|fail)<;>conv=>whnf
 all_goals try omega
 refine d6 c8 (fun k=>([J,J,a7 .i64 i,S.c (C.t (T.ptr (trT t))),J,J,S.c (C.ptr 0 0 0),J,J,S.c (C.ptr 1 0 0),J,a7 .i64 k,J,J,J,J,J,J,J,J,J,J,J,J,J,J,J,J,J,J,J,J,J,J,J,J,J,J,J,J,J,J,J,J,J,J,J,J,J,J,J,J,J,J,J,J,J,J,J,J,J,J,J,J,J,J,J,J,J,J,J,J,J,J,J],[a0P,a21 t.ev.moves.length 2 (T2 t f.kind i k).length,J2 (T2 t f.kind i k)])) t.ev.moves.length (fun _=>True) [some 0,some 3,some 2] trivial
  ⟨rfl,rfl,⟨⟨rfl,rfl,rfl,.inr ⟨⟨rfl,rfl,trivial⟩,trivial⟩⟩,⟨rfl,rfl,rfl,.inr ⟨⟨rfl,⟨rfl,rfl,by rw [eM0],fun h=>h⟩,trivial⟩,trivial⟩⟩,a8 (rows:=(T2 t f.kind i 0).map w5) rfl rfl rfl (by rw [eM0]) rfl,trivial⟩,⟨rfl,rfl,⟨rfl,rfl,rfl⟩,⟨rfl,rfl,rfl⟩,rfl,trivial⟩⟩ ?_
 intro k hk _
 have lk:=aL7 (t:=t) (kind:=f.kind) (i:=i) (k:=k) hm q3 (by omega)
 by_cases hlt:k<t.ev.moves.length
 ·obtain ⟨m,hm2⟩:∃m,t.ev.moves[k]? =some m:=⟨_,lg0 hlt⟩
  have lfk:=a8C t.ev q1 k hlt
  have on:=b2J k 1 (by decide) (by decide)
  rw [aE9 hm2]
  have lA:(T2 t f.kind i k).length<=(J2 (T2 t f.kind i k)).rows.length:=by show _<=(toC _).length;simp [toC]
  generalize T2 t f.kind i k=R at *
  by_cases hki:k=i
  ·rw [if_neg (fun h=>h.1 hki)]
   cases a1z t.ev k<;>
   ·conv=>whnf
    repeat' (first|refine zz ?_|refine qp lfk ?_|refine zd ?_ ?_<;>intro h<;>try omega|refine zy ?_|fail)<;>conv=>whnf
    all_goals first
     |omega
     |exact ⟨hlt,trivial,[some 0,some 1,some 2],rfl,rfl,⟨⟨rfl,rfl,rfl,.inr ⟨⟨rfl,rfl,trivial⟩,trivial⟩⟩,⟨rfl,rfl,rfl,.inr ⟨⟨rfl,⟨rfl,rfl,rfl,fun h=>h⟩,trivial⟩,trivial⟩⟩,c9 (c7 _),trivial⟩,⟨rfl,rfl,⟨rfl,rfl,rfl⟩,⟨rfl,rfl,rfl⟩,c6 (by omega),trivial⟩⟩
  ·cases hb:a1z t.ev k with
   |false=>
    rw [hb] at lfk
    rw [if_neg (fun h=>by cases h.2)]
    conv=>whnf
    repeat' (first|refine zz ?_|refine qp lfk ?_|refine zd ?_ ?_<;>intro h<;>try omega|refine zy ?_|fail)<;>conv=>whnf
    all_goals first
     |omega
     |exact ⟨hlt,trivial,[some 0,some 1,some 2],rfl,rfl,⟨⟨rfl,rfl,rfl,.inr ⟨⟨rfl,rfl,trivial⟩,trivial⟩⟩,⟨rfl,rfl,rfl,.inr ⟨⟨rfl,⟨rfl,rfl,rfl,fun h=>h⟩,trivial⟩,trivial⟩⟩,c9 (c7 _),trivial⟩,⟨rfl,rfl,⟨rfl,rfl,rfl⟩,⟨rfl,rfl,rfl⟩,c6 (by omega),trivial⟩⟩
   |true=>
    rw [hb] at lfk
    rw [if_pos ⟨hki,rfl⟩]
    conv=>whnf
    repeat' (first|refine zz ?_|refine qp lfk ?_|refine qp on ?_|refine qp i0 ?_|refine qp toC ?_|refine qp (0,1) ?_|refine o7 lA (by simp [toC];omega) ?_|refine bl0 [0,1] ?_|refine zd ?_ ?_<;>intro h<;>try omega|refine zy ?_|fail)<;>conv=>whnf
    all_goals first
     |omega
     |(refine ⟨hlt,trivial,[some 0,some 1,some 3],rfl,rfl,⟨⟨rfl,rfl,rfl,.inr ⟨⟨rfl,rfl,trivial⟩,trivial⟩⟩,⟨rfl,rfl,rfl,.inr ⟨⟨rfl,⟨rfl,rfl,?_,fun h=>h⟩,trivial⟩,trivial⟩⟩,a8 (rows:=(R++[n6 k 2 ((0:Int):Rat)]).map w5) rfl rfl rfl ?_ rfl,trivial⟩,⟨rfl,rfl,⟨rfl,rfl,rfl⟩,⟨rfl,rfl,rfl⟩,c6 (by omega),trivial⟩⟩
       ·simp [toC]
       ·exact y5 (f:=w5) (x:=n6 k 2 ((0:Int):Rat)) rfl)
 ·have hke:k=t.ev.moves.length:=by omega
  subst hke
  have e9:T2 t f.kind i t.ev.moves.length=(p9 t f.kind i).rows:=rfl
  conv=>whnf
  repeat' (first|refine zz ?_|refine zd ?_ ?_<;>intro h<;>try omega|refine zy ?_|fail)<;>conv=>whnf
  all_goals first
   |omega
   |(rw [e9];exact k5 ⟨⟨rfl,show VC _ (fun id=>E1 [] id=true) _ _ from t5 rfl rfl (by intro h;cases h) rfl rfl (by rw [List.length_map]),trivial⟩,rfl,trivial⟩)
theorem b5z {s:f7} {g:List (Int × Rat)} {Y:List Rat} (hr:i8 s=true) (h:a33 s g Y=true):b5I s (v7 g) (yN Y) (a2j s (yN Y)):=by
 unfold a33 a3e at h
 simp only [Bool.and_eq_true,decide_eq_true_eq,List.all_eq_true] at h
 obtain ⟨⟨⟨h1,h2⟩,h3⟩,h4⟩:=h
 refine ⟨fun i w hw=>?_,fun l hl=>?_,rfl⟩
 ·have:=h2 i (List.mem_range.2 (lg1 hw).1)
  unfold sgB at this
  rw [L3 hw] at this
  simp only [Bool.not_eq_true',Bool.or_eq_false_iff,Bool.and_eq_false_iff,decide_eq_false_iff_not] at this
  obtain ⟨a,b⟩:=this
  exact ⟨fun hk=>by
   rcases a with a|a
   ·exact absurd hk a
   ·exact Rat.not_lt.1 a,fun hk=>by
   rcases b with b|b
   ·exact absurd hk b
   ·exact Rat.not_lt.1 b⟩
 ·exact h4 l (List.mem_range.2 hl)
theorem never_holds {s:f7} {g:List (Int × Rat)} {z:List Rat} (hr:i8 s=true) (hl:s.rows.length<6000) (hg:f8 (-1) s.n g=true) (hz:j7 s z=true) (h0:k7 g z=0):j7 (aK4 s g) z=true:=by
 obtain ⟨h1,h2,h3,h4⟩:=Y7.1 hz
 refine Y7.2 ⟨aB8 hr hl hg,h2,h3,fun w hw=>?_⟩
 rcases List.mem_append.1 hw with h|h
 ·exact h4 w h
 ·have h:=List.mem_singleton.1 h
  subst h
  have e1:((0:Int):Rat)=0:=rfl
  simp only
  rw [h0,e1]
  exact ⟨fun _=>Rat.le_refl,fun _=>Rat.le_refl⟩
theorem b0d {f:Nat->Rat} {B N:Nat} (h:∀i,rl (f i)<=B) (h0:∀i,N<=i->f i=0):∀k,rl (f9 f k)<=N*(B+1)+1:=by
 intro k
 by_cases hk:k<=N
 ·have h1:=a8A (f:=f) (B:=B) k fun j _=>h j
  have h2:=Nat.mul_le_mul_right (B+1) hk
  omega
 ·obtain ⟨d,rfl⟩:∃d,k=N+d:=⟨k - N,by omega⟩
  have e:f9 f (N+d)=f9 f N:=by
   clear hk
   induction d with
   |zero=>rfl
   |succ d ih=>show f9 f (N+d)+f (N+d)=_;rw [h0 _ (by omega),ih];grind
  rw [e]
  exact a8A (f:=f) (B:=B) N fun j _=>h j
theorem b2T {s:f7} {Y:List Rat} {B C N:Nat} (hl:Y.length=s.rows.length) (hN:Y.length<=N) (hB:1<=B) (hy:∀v ∈ Y,rl v<=B) (hc:∀w ∈ s.rows,(∀ t ∈ w.terms,rl t.2<=C)∧rl w.value<=C) (hC:1<=C) (hn:N*(B+C+1)+1<=40000) (hm:N<=1000000):b20 s Y:=by
 have hyi:∀i,rl (yN Y i)<=B:=fun i=>by
  unfold yN
  by_cases h:i<Y.length
  ·rw [lg3,lg0 h];exact hy _ (List.getElem_mem _)
  ·rw [lg3,List.getElem?_eq_none (by omega)];have:=rl0;show rl 0<=B;omega
 have hy0:∀i,N<=i->yN Y i=0:=fun i hi=>by unfold yN;rw [lg3,List.getElem?_eq_none (by omega)];rfl
 have hrow:∀i,(∀ t ∈ (w6 s i).terms,rl t.2<=C)∧rl (w6 s i).value<=C:=fun i=>by
  by_cases h:i<s.rows.length
  ·rw [L3 (lg0 h)];exact hc _ (List.getElem_mem _)
  ·have e:w6 s i=⟨[],2,0⟩:=by unfold w6;rw [lg3,List.getElem?_eq_none (by omega)];rfl
   rw [e]
   exact ⟨fun (t:Int × Rat) (ht:t ∈ [])=>by simp at ht,by have:=rl0;show rl 0<=C;omega⟩
 have hcof:∀i l,rl (v7 (w6 s i).terms l)<=C:=fun i l=>by
  have key:∀k,rl (I9 (w6 s i).terms k l)<=C:=by
   intro k
   induction k with
   |zero=>have:=rl0;show rl 0<=C;omega
   |succ k ih=>
    cases hk:(w6 s i).terms[k]? with
    |none=>rw [I9,hk];exact ih
    |some t=>
     rw [G9 hk]
     simp only
     split
     ·exact (hrow i).1 t (lg2 hk)
     ·exact ih
  exact key _
 refine ⟨fun v hv=>by
  have h1:=hy v hv
  by_cases h2:N=0
  ·have:Y=[]:=List.length_eq_zero_iff.1 (by omega)
   subst this;cases hv
  ·have:1*(B+C+1)<=N*(B+C+1):=Nat.mul_le_mul_right _ (by omega)
   omega,fun l k=>?_,fun k=>?_,hl,by omega⟩
 ·have:=b0d (f:=fun i=>yN Y i*v7 (w6 s i).terms l) (B:=B+C) (N:=N) (fun i=>by have:=a2Y (yN Y i) (v7 (w6 s i).terms l);have:=hyi i;have:=hcof i l;omega) (fun i hi=>by rw [hy0 i hi];grind) k
  have e:rl (a4Z s (yN Y) l k)<=N*(B+C+1)+1:=this
  omega
 ·have:=b0d (f:=fun i=>yN Y i*(w6 s i).value) (B:=B+C) (N:=N) (fun i=>by have:=a2Y (yN Y i) (w6 s i).value;have:=hyi i;have:=(hrow i).2;omega) (fun i hi=>by rw [hy0 i hi];grind) k
  have e:rl (a4T s (yN Y) k)<=N*(B+C+1)+1:=this
  omega
theorem b7I {X:List Rat} {d:Nat} (h:∀f ∈ X.map fz,(f.p.dl.length:Int)<=d∧(f.q.dl.length:Int)<=d):∀v ∈ X,rl v<=d:=fun v hv=>by
 have:=h (fz v) (List.mem_map.2 ⟨v,hv,rfl⟩)
 have h1:(bl v.num:Int)<=d:=this.1
 have h2:(bl v.den:Int)<=d:=this.2
 show max (bl v.num) (bl v.den)<=d
 omega
theorem b7c {x:Rat}:decide (x=0)=decide (sgR x=0):=by
 rw [decide_eq_decide]
 have p1:=a3Z (x:=x)
 have p2:=b2e (x:=x)
 constructor
 ·intro h;subst h;have q1:¬(0:Rat)<0:=by decide
  have:=mt p1.1 q1;have:=mt p2.1 q1;omega
 ·intro h
  have q1:¬0<x:=fun h'=>by have:=p1.2 h';omega
  have q2:¬x<0:=fun h'=>by have:=p2.2 h';omega
  grind
structure b1g (s:f7) (Y:List Rat):Prop where
 y:∀v ∈ Y,rl v<=40000
 l:Y.length<=1000000
 m:Y.length=s.rows.length->b20 s Y
theorem b5Y {s:f7} {g:List (Int × Rat)} {Y:List Rat}:aN1 s g (Y.map fz)=(decide (Y.length=s.rows.length) && (a33 s g Y && decide (a2j s (yN Y)=0))):=by
 unfold aN1
 rw [a9D,a74,List.length_map,Bool.and_true]
theorem ak7 {s:f7} {Y:List Rat} {g:List (Int × Rat)} (h:a33 s g Y=true):Y.length=s.rows.length:=by
 unfold a33 a3e at h
 simp only [Bool.and_eq_true,decide_eq_true_eq] at h
 omega
theorem a90 {s:f7} {g:List (Int × Rat)} {Y:List Rat}:aN1 s g (Y.map fz)=(a33 s g Y && decide (a2j s (yN Y)=0)):=by
 rw [b5Y]
 cases h:a33 s g Y with
 |false=>simp
 |true=>rw [decide_eq_true (ak7 h)];rfl
theorem aA0 (s:f7) (h:a0s s) (v:Nat) (Y:List Rat) (hy:b1g s Y):
 a9 Tryz.prog 145 [a2i s,a7 .i64 v,j8 (Y.map fz)] [] (f5 (aN1 s (ad7 v) (Y.map fz))) []:=by
 have h9:=h.n
 have on:=b2J v (-1) (by decide) (by decide)
 have lo:=b4C s (ab5 h) h.r (ad7 v) (by simp [ad7]) (fun t ht=>by simp [ad7] at ht;subst ht;have h1:=b8K;show rl ((-1:Int):Rat)<=200;omega) Y hy.y hy.l hy.m
 rw [a90]
 unfold ad9 at lo
 cases hb:a33 s (ad7 v) Y with
 |false=>
  rw [hb,if_neg (by decide)] at lo
  rw [Bool.false_and]
  (refine ac Tryz.func145 ?_;(conv=>whnf);repeat ((first|refine b0x ?_|refine zy ?_);conv=>whnf))
  repeat' (first|refine zz ?_|refine qp on ?_|refine qp lo ?_|refine qp 7 ?_|refine bl0 [7] ?_|refine zd ?_ ?_<;>intro h<;>try omega|refine zy ?_|fail)<;>conv=>whnf
  all_goals first
   |omega
   |exact b9 rfl
 |true=>
  rw [hb,if_pos rfl] at lo
  rw [Bool.true_and]
  have hx:=(hy.m (ak7 hb)).v s.rows.length
  have hx2:rl (a2j s (yN Y))<=50000:=hx
  generalize a2j s (yN Y)=x at lo hx2
  have sg:=a0S x (by omega)
  rw [b7c]
  generalize sgR x=U at sg
  (refine ac Tryz.func145 ?_;(conv=>whnf);repeat ((first|refine b0x ?_|refine zy ?_);conv=>whnf))
  repeat' (first|refine zz ?_|refine qp on ?_|refine qp lo ?_|refine qp sg ?_|refine qp 7 ?_|refine bl0 [7] ?_|refine zd ?_ ?_<;>intro h<;>try omega|refine zy ?_|fail)<;>conv=>whnf
  all_goals first
   |omega
   |(refine b9 ?_;symm;simp;omega)
set_option maxHeartbeats 4000000 in
theorem b2z (t:e7) (hs:t.Sized) (h:QT t) (find:Int) (f:L7) (f0:0<=find) (hf:t.finds[find.toNat]? =some f) (g:Nat) (hg:g<t.ev.moves.length) (i:Nat) (hi:i ∈ i5 t.ev) (Z:List Rat) (hp:PtB (p9 t f.kind i) Z)
 (hH:j7 (p9 t f.kind i) Z=true) (pa:0<Z.getD g 0) (pb:0<Z.getD f.mv.toNat 0):
 a9 Tryz.prog 75 [trS t,a7 .i64 find,a7 .i64 g,a7 .i64 i,j8 (Z.map fz)] [] (f5 true) []:=by
 have hfit:=a2F h f0 hf
 have hm:=h.m
 obtain ⟨q1,q2,q3,q4,q5⟩:=p8 h.h
 have hfg:=A0 q4 f (lg2 hf)
 have ha:a76 t find i=true:=by unfold a76;rw [hfit,decide_eq_true (by exact ⟨by omega,by rw [Int.toNat_natCast];exact hi⟩)];rfl
 have al:=aF0 t hs find f hf i ha (by omega)
 have ss:=a0i (kind:=f.kind) i h
 have ho:=b5w (p9 t f.kind i) (ab5 ss) ss.r Z hp
 rw [hH] at ho
 have eN:(p9 t f.kind i).n=((t.ev.moves.length:Nat):Int):=rfl
 have zl:(Z.length:Int)=t.ev.moves.length:=by have:=(P1 hH).2;exact this
 obtain ⟨a,ha⟩:∃a,Z[g]? =some a:=⟨_,lg0 (by omega)⟩
 obtain ⟨b,hb⟩:∃b,Z[f.mv.toNat]? =some b:=⟨_,lg0 (by omega)⟩
 have ga:(Z.map fz)[g]? =some (fz a):=by rw [List.getElem?_map,ha];rfl
 have gb:(Z.map fz)[f.mv.toNat]? =some (fz b):=by rw [List.getElem?_map,hb];rfl
 have sa:=a0S a (by have:=hp.v a (lg2 ha);omega)
 have sb:=a0S b (by have:=hp.v b (lg2 hb);omega)
 have ea:Z.getD g 0=a:=by rw [lg3,ha];rfl
 have eb:Z.getD f.mv.toNat 0=b:=by rw [lg3,hb];rfl
 rw [ea] at pa
 rw [eb] at pb
 have ua:=a3Z.2 pa
 have ub:=a3Z.2 pb
 generalize sgR a=U at sa ua
 generalize sgR b=V at sb ub
 have hg1:=hfg.1
 (refine ac Tryz.func75 ?_;(conv=>whnf);repeat ((first|refine b0x ?_|refine zy ?_);conv=>whnf))
 repeat' (first|refine zz ?_|refine qp al ?_|refine qp ho ?_|refine qp sa ?_|refine qp sb ?_|refine qp 7 ?_|refine b8 ga ?_|refine p4 f0 hf ?_|refine p4 hg1 gb ?_|refine bl0 [7] ?_|refine zd ?_ ?_<;>intro h<;>try omega|refine zy ?_|fail)<;>conv=>whnf
 all_goals first
  |omega
  |exact b9 rfl
theorem a7X {e:Ev}:∀{k n:Nat},k<=n->∃l,p5 e n=p5 e k++l:=by
 intro k n h
 induction n with
 |zero=>have:k=0:=by omega
        subst this;exact ⟨[],by simp⟩
 |succ n ih=>
  by_cases hk:k=n+1
  ·subst hk;exact ⟨[],by simp⟩
  ·obtain ⟨l,hl⟩:=ih (by omega)
   conv=>enter [1,l,1];unfold p5
   split
   ·split
    ·exact ⟨l++[n],by rw [hl,List.append_assoc]⟩
    ·exact ⟨l,hl⟩
   ·exact ⟨l,hl⟩
theorem aD9 {e:Ev} {k:Nat} (h:k ∈ i5 e):(i5 e)[(p5 e k).length]? =some k:=by
 obtain ⟨m,hm,h0⟩:=L6.1 h
 have hk:=(lg1 hm).1
 obtain ⟨l,hl⟩:=a7X (e:=e) (show k+1<=e.moves.length by omega)
 have e1:p5 e (k+1)=p5 e k++[k]:=by conv=>lhs;unfold p5;rw [hm];simp only [if_pos h0]
 show (p5 e e.moves.length)[_]? =_
 rw [hl,e1,List.append_assoc,List.getElem?_append_right (Nat.le_refl _)]
 simp
theorem at0 {e:Ev} {k:Nat} (hk:k<e.moves.length):(p5 e (k+1)).length=(p5 e k).length+if k ∈ i5 e then 1 else 0:=by
 obtain ⟨m,hm⟩:∃m,e.moves[k]? =some m:=⟨_,lg0 hk⟩
 have h1:k ∈ i5 e↔m9 e m.src=0:=by
  rw [L6]
  exact ⟨fun ⟨x,hx,h⟩=>by rw [hm] at hx;injection hx with hx;rw [hx];exact h,fun h=>⟨m,hm,h⟩⟩
 conv=>lhs;unfold p5
 rw [hm]
 simp only
 by_cases h:m9 e m.src=0
 ·rw [if_pos h,if_pos (h1.2 h)];simp
 ·rw [if_neg h,if_neg (fun h'=>h (h1.1 h'))];simp
set_option maxHeartbeats 8000000 in
theorem b0r (t:e7) (hs:t.Sized) (hQ:QT t) (find:Int) (f:L7) (f0:0<=find) (hf:t.finds[find.toNat]? =some f) (g:Nat) (hg:g<t.ev.moves.length) (pf:List (List Rat))
 (hp:∀(k i:Nat) (y:List Rat),(i5 t.ev)[k]? =some i->pf[k]? =some y->b1g (p9 t f.kind i) y) (hc:a97 t f.kind f.mv.toNat g (pf.map fun y=>y.map fz)=true):
 a9 Tryz.prog 76 [trS t,a7 .i64 find,a7 .i64 g,aH3 (pf.map fun y=>y.map fz)] [] (f5 true) []:=by
 have fi:=aW5 t hs find
 rw [a2F hQ f0 hf] at fi
 have hm:=hQ.m
 obtain ⟨q1,q2,q3,q4,q5⟩:=p8 hQ.h
 have hfg:=A0 q4 f (lg2 hf)
 obtain ⟨mv,hmv⟩:∃mv:Nat,f.mv=mv:=⟨f.mv.toNat,by omega⟩
 have hmv2:f.mv.toNat=mv:=by omega
 rw [hmv2] at hc
 unfold a97 at hc
 rw [Bool.and_eq_true,decide_eq_true_eq,List.length_map,List.all_eq_true] at hc
 obtain ⟨hl,hc⟩:=hc
 obtain ⟨P,hP⟩:∃P,P=pf.map fun y=>y.map fz:=⟨_,rfl⟩
 rw [← hP] at hc ⊢
 have m1:(t.ev.moves.map p6.row).length=t.ev.moves.length:=by simp
 have m2:(P.map a0Y).length=pf.length:=by rw [hP];simp
 have ll:(i5 t.ev).length<=t.ev.moves.length:=x7 _
 (refine ac Tryz.func76 ?_;(conv=>whnf);repeat ((first|refine b0x ?_|refine zy ?_);conv=>whnf))
 repeat' (first|refine zz ?_|refine qp fi ?_|refine zd ?_ ?_<;>intro h<;>try omega|refine zy ?_|fail)<;>conv=>whnf
 all_goals try omega
 refine d6 c8 (fun k=>([J,a7 .i64 find,a7 .i64 g,aH3 P,S.c (C.t (T.ptr (trT t))),J,J,J,J,a7 .i64 (p5 t.ev k).length,a7 .i64 k,J,J,J,J,J,J,J,J,J,J,J,J,J,J,J,J,J,J,J,J,J,J,J,J,J,J,J,J,J,J,J,J,J,J,J,J,J,J,J,J,J,J,J,J,J,J,J,J,J,J,J,J,J,J,J,J,J,J,J,J,J,J,J,J,J,J,J,J,J,J,J],[])) t.ev.moves.length (fun _=>True) [] trivial
  ⟨rfl,rfl,trivial,⟨rfl,rfl,rfl,rfl,rfl,rfl,trivial⟩⟩ ?_
 intro k hk _
 obtain ⟨lp,hlp⟩:=a7X (e:=t.ev) hk
 have lle:(p5 t.ev k).length<=(i5 t.ev).length:=by show _<=(p5 t.ev t.ev.moves.length).length;rw [hlp];simp
 by_cases hlt:k<t.ev.moves.length
 ·have lf:=a8C t.ev q1 k hlt
  have nx:=at0 hlt
  by_cases hkl:k ∈ i5 t.ev
  ·have e1:a1z t.ev k=true:=decide_eq_true hkl
   rw [e1] at lf
   rw [if_pos hkl] at nx
   have gi:=aD9 hkl
   have gl:=(lg1 gi).1
   obtain ⟨Y,hY⟩:∃Y,pf[(p5 t.ev k).length]? =some Y:=⟨_,lg0 (by omega)⟩
   have hy:P[(p5 t.ev k).length]? =some (Y.map fz):=by rw [hP,List.getElem?_map,hY];rfl
   have hcl:=hc _ (List.mem_range.2 gl)
   have hid:(i5 t.ev).getD (p5 t.ev k).length 0=k:=by rw [lg3,gi];rfl
   have hyd:P.getD (p5 t.ev k).length []=Y.map fz:=by rw [lg3,hy];rfl
   rw [hid,hyd] at hcl
   have ha:a76 t find k=true:=by unfold a76;rw [a2F hQ f0 hf,decide_eq_true (by exact ⟨by omega,by rw [Int.toNat_natCast];exact hkl⟩)];rfl
   have al:=aF0 t hs find f hf k ha (by omega)
   have ss:=a0i (kind:=f.kind) k hQ
   have my:=hp _ k Y gi hY
   have n1:=aA0 (p9 t f.kind k) ss mv Y my
   have n2:=aA0 (p9 t f.kind k) ss g Y my
   rw [← hmv] at n1
   unfold b6L at hcl
   rw [nx]
   generalize p5 t.ev k=L at *
   cases h1:aN1 (p9 t f.kind k) (ad7 mv) (Y.map fz) with
   |true=>
    rw [h1] at n1
    conv=>whnf
    repeat' (first|refine zz ?_|refine qp lf ?_|refine qp al ?_|refine qp n1 ?_|refine qp n2 ?_|refine qp 7 ?_|refine p4 f0 hf ?_|refine b8 hy ?_|refine bl0 [7] ?_|refine zd ?_ ?_<;>intro h<;>try omega|refine zy ?_|fail)<;>conv=>whnf
    all_goals first
     |omega
     |exact ⟨hlt,trivial,[],rfl,rfl,trivial,⟨rfl,rfl,rfl,rfl,c6 (by omega),c6 (by omega),trivial⟩⟩
   |false=>
    rw [h1,Bool.false_or] at hcl
    rw [h1] at n1
    rw [hcl] at n2
    conv=>whnf
    repeat' (first|refine zz ?_|refine qp lf ?_|refine qp al ?_|refine qp n1 ?_|refine qp n2 ?_|refine qp 7 ?_|refine p4 f0 hf ?_|refine b8 hy ?_|refine bl0 [7] ?_|refine zd ?_ ?_<;>intro h<;>try omega|refine zy ?_|fail)<;>conv=>whnf
    all_goals first
     |omega
     |exact ⟨hlt,trivial,[],rfl,rfl,trivial,⟨rfl,rfl,rfl,rfl,c6 (by omega),c6 (by omega),trivial⟩⟩
  ·have e1:a1z t.ev k=false:=decide_eq_false hkl
   rw [e1] at lf
   rw [if_neg hkl,Nat.add_zero] at nx
   rw [nx]
   generalize p5 t.ev k=L at *
   conv=>whnf
   repeat' (first|refine zz ?_|refine qp lf ?_|refine zd ?_ ?_<;>intro h<;>try omega|refine zy ?_|fail)<;>conv=>whnf
   all_goals first
    |omega
    |exact ⟨hlt,trivial,[],rfl,rfl,trivial,⟨rfl,rfl,rfl,rfl,rfl,c6 (by omega),trivial⟩⟩
 ·have hke:k=t.ev.moves.length:=by omega
  subst hke
  have e1:(p5 t.ev t.ev.moves.length).length=pf.length:=hl.symm
  rw [e1]
  conv=>whnf
  repeat' (first|refine zz ?_|refine zd ?_ ?_<;>intro h<;>try omega|refine zy ?_|fail)<;>conv=>whnf
  all_goals first
   |omega
   |exact b9 rfl
theorem aZ0 (v:Nat):N9 (y0 v)=ad7 v:=by
 unfold N9 V9 y0 ad7
 have:((1:Int):Rat)*((-1:Int):Rat)=((-1:Int):Rat):=by decide +kernel
 simp only [List.map_cons,List.map_nil,this]
theorem b1q {s:f7} {g:List (Int × Rat)} {Y:List Rat} (hr:i8 s=true) (hg:f8 (-1) ((s.n.toNat:Nat):Int) g=true) (h:a33 s (N9 g) Y=true) (h0:a2j s (yN Y)=0) {z:List Rat} (hz:j7 s z=true):k7 g z<=0:=by
 have hb:=b0v (g:=N9 g) (b5z hr h) hz
 have e:f9 (fun l=>v7 (N9 g) l*z.getD l 0) s.n.toNat=k7 (N9 g) z:=(K3 (T9 hg) z).symm
 rw [e,a2h (s:=s) (g:=g),h0] at hb
 grind
theorem ag2 {s:f7} {g:List (Int × Rat)} (h:ag8 s g) (hp:a0X g (O3 s g)=false):a33 s (N9 g) (U8 s g)=true∧a2j s (yN (U8 s g))=0:=by
 unfold a0X at hp
 have hp:=of_decide_eq_false hp
 rcases ar8 (g:=N9 g) h.r h.z with ho|⟨c,ho⟩
 ·unfold O3 at hp
  unfold U8
  rw [ho] at hp ⊢
  simp only at hp ⊢
  obtain ⟨p1,p2⟩:=a1V h.r h.og ho
  obtain ⟨b1,b2⟩:=b6l (Y:=zOf s.rows.length (N8 s (v8 s (N9 g)))) h.r h.og (b1J h.r h.og ho) Q0 (fun i hi=>b4s hi)
  refine ⟨b1,?_⟩
  rw [b2,a2h (s:=s) (g:=g)]
  have:=h.p _ p1
  grind
 ·exfalso
  obtain ⟨r1,r2⟩:=au6 h.r h.og ho
  unfold O3 at hp
  rw [ho] at hp
  simp only at hp
  have h0:=(a1V h.r rfl h.z).1
  have h3:=P1 h0
  have hn:=a0h h.r
  rw [a2n (n:=s.n.toNat) (by omega) r1.len h.t] at hp
  rw [a2h (s:=s) (g:=g)] at r2
  have:=h.p _ h0
  grind
theorem a9H {t:e7} {kind:Int} {i v:Nat} (h:QT t) (k0:0<=kind) (k1:kind<8) (hv:v<t.ev.moves.length):(isA t kind i).getD v false=true↔∃z,aa0 t kind i z∧0<z.getD v 0:=by
 rw [b04 h (by omega) k0 k1 (by omega)]
 unfold aS1
 simp only [if_pos hv]
theorem b1v {t:e7} {kind:Int} {g:Nat} {l:List Nat}:a5v t kind g l=none↔∀i ∈ l,(isA t kind i).getD g false=false:=by
 unfold a5v
 rw [List.find?_eq_none]
 exact ⟨fun h i hi=>by simpa using h i hi,fun h i hi=>by simpa using h i hi⟩
theorem aT8 {t:e7} {kind:Int} {mv g:Nat}:a5v t kind g (K6 t kind mv)=none↔J1 t kind mv g=false:=by
 rw [b1v]
 unfold J1
 rw [List.any_eq_false]
 exact ⟨fun h i hi=>by rw [h i hi];decide,fun h i hi=>by simpa using h i hi⟩
theorem a7o {t:e7} {kind:Int} {i v:Nat} (h:QT t) (k0:0<=kind) (k1:kind<8) (hv:v<t.ev.moves.length):ag8 (p9 t kind i) (y0 v):=by
 have hG:=F3 (kind:=kind) i h (by omega) k0 k1
 have hm:y0 v ∈ G6 t.ev:=by
  unfold G6 E9
  exact List.mem_append_left _ (List.mem_map.2 ⟨v,List.mem_range.2 hv,rfl⟩)
 exact ⟨hG.p.r,hG.p.z,hG.p.g _ hm,hG.p.p _ hm⟩
theorem a9j {t:e7} {kind:Int} {i v:Nat} (h:QT t) (k0:0<=kind) (k1:kind<8) (hv:v<t.ev.moves.length):a0X (y0 v) (O3 (p9 t kind i) (y0 v))=(isA t kind i).getD v false:=by
 have hG:=a7o (i:=i) h k0 k1 hv
 obtain ⟨m1,m2⟩:=a9T hG
 rw [Bool.eq_iff_iff,a9H h k0 k1 hv]
 unfold a0X
 rw [decide_eq_true_eq]
 constructor
 ·intro hp;exact ⟨_,(U6 h k0 k1).1 m1,by rw [← a4u];exact hp⟩
 ·rintro ⟨z,hz,hp⟩;exact m2 ⟨z,(U6 h k0 k1).2 hz,by rw [a4u];exact hp⟩
theorem aM5 {t:e7} {kind:Int} {mv g:Nat} (h:QT t) (k0:0<=kind) (k1:kind<8) (hmv:mv<t.ev.moves.length) (hg:g<t.ev.moves.length) (hw:J1 t kind mv g=false):a97 t kind mv g (a1Q t kind mv g (i5 t.ev))=true:=by
 unfold a97
 rw [aB9,decide_eq_true rfl,Bool.true_and,List.all_eq_true]
 intro k hk
 have hk:=List.mem_range.1 hk
 obtain ⟨i,hi⟩:∃i,(i5 t.ev)[k]? =some i:=⟨_,lg0 hk⟩
 have hid:(i5 t.ev).getD k 0=i:=by rw [lg3,hi];rfl
 have hyd:(a1Q t kind mv g (i5 t.ev)).getD k []=(as7 t kind mv g i).map fz:=by rw [lg3];unfold a1Q;rw [List.getElem?_map,hi];rfl
 rw [hid,hyd]
 unfold b6L as7
 rw [a9j h k0 k1 hmv,a90,a90,←aZ0,←aZ0]
 cases hb:(isA t kind i).getD mv false with
 |true=>
  have hi2:i ∈ K6 t kind mv:=List.mem_filter.2 ⟨lg2 hi,hb⟩
  unfold J1 at hw
  have hr:(isA t kind i).getD g false=false:=by simpa using List.any_eq_false.1 hw i hi2
  obtain ⟨a,b⟩:=ag2 (a7o (i:=i) h k0 k1 hg) (by rw [a9j h k0 k1 hg];exact hr)
  rw [if_pos rfl,a,b]
  simp
 |false=>
  obtain ⟨a,b⟩:=ag2 (a7o (i:=i) h k0 k1 hmv) (by rw [a9j h k0 k1 hmv];exact hb)
  rw [if_neg (by decide),a,b]
  rfl
theorem aO2 {s:f7} (h:a0s s):∀w ∈ s.rows,a9J 11 w:=fun w hw=>by
 obtain ⟨a,b⟩:=h.i w hw
 exact ⟨a,by have:=a5Y b;omega⟩
theorem b1z {s:f7} {g:List (Int × Rat)} (h:a0s s) (h8:s.n.toNat<=8) (hw:A8 g):b1g s (U8 s g):=by
 have hl:=h.l
 unfold U8
 split
 ·have hr:∀w ∈ s.rows,(∀ t ∈ w.terms,rl t.2<=11)∧rl w.value<=11:=fun w hw=>⟨fun t ht=>by have:=M6 (h.i w hw).1 t ht;omega,by have:=a5Y (h.i w hw).2;omega⟩
  exact ⟨fun v hv=>absurd hv (List.not_mem_nil),Nat.zero_le _,fun e=>b2T (B:=1) (C:=11) (N:=0) e (Nat.le_refl _) (by decide) (fun v hv=>absurd hv (List.not_mem_nil)) hr (by decide) (by decide) (by decide)⟩
 ·exact ⟨b32 (aO2 h) (Z1 hw) h8,by rw [Q0];omega,fun _=>b0H (aO2 h) (Z1 hw) h8 (by omega)⟩
theorem aH1 {t:e7} {kind:Int} {i:Nat} (j:Nat) (h:QT t):b1g (p9 t kind i) (U8 (p9 t kind i) (y0 j)):=
 b1z (a0i i h) (by show ((t.ev.moves.length:Nat):Int).toNat<=8;have:=h.m;omega) (U7 _)
theorem b0M {t:e7} {kind:Int} {a b:Nat} (h:QT t) (k i:Nat) (y:List Rat) (hi:(i5 t.ev)[k]? =some i) (hy:((i5 t.ev).map fun i=>as7 t kind a b i)[k]? =some y):b1g (p9 t kind i) y:=by
 rw [List.getElem?_map,hi] at hy
 injection hy with hy
 subst hy
 show b1g _ (as7 t kind a b i)
 unfold as7
 split
 ·exact aH1 b h
 ·exact aH1 a h
theorem b0V {s:f7} {x:List Rat} {B:Nat} (h:a0s s) (hB:B<=2000) (hl:x.length<=1000000) (hx:∀v ∈ x,rl v<=B):PtB s x:=by
 have h9:=h.n
 have:=Nat.mul_le_mul (show s.n.toNat<=9 by omega) (show B+4<=2004 by omega)
 exact b6Q h.r (aO2 h) (B:=B) (by omega) (by omega) hl hx
theorem b4N {t:e7} {kind:Int} {i:Nat} (h:QT t) (h0:0<t.ev.moves.length) (k0:0<=kind) (k1:kind<8):∀v ∈ a5c t kind i,rl v<=1100:=by
 have hG:=F3 (kind:=kind) i h h0 k0 k1
 intro v hv
 unfold a5c a9o at hv
 obtain ⟨u,hu,rfl⟩:=List.mem_map.1 hv
 have hk:a0d (p9 t kind i) (G6 t.ev)<=(G6 t.ev).length:=a43 (a4h _ _).2
 have hl:=hG.l
 have h1:=a8x hG _ u hu
 generalize a0d (p9 t kind i) (G6 t.ev)=K at *
 have h2:=Nat.mul_le_mul_right 32 (show K+1<=31 by omega)
 have h3:=a2Y u (Rat.divInt 1 ((K+1:Nat):Int))
 have h4:=N0 (p:=1) (q:=((K+1:Nat):Int)) (by omega)
 have h5:=o5 (x:=1) (by decide) (by decide)
 have h6:=o5 (x:=((K+1:Nat):Int)) (by omega) (by omega)
 omega
theorem b4t {t:e7} {kind:Int} {i:Nat} (h:QT t) (h0:0<t.ev.moves.length) (k0:0<=kind) (k1:kind<8):PtB (p9 t kind i) (a5c t kind i):=by
 have hA:=(ah7 (i:=i) h h0 k0 k1).1
 have hl:=hA.p.len
 have hm:=h.m
 have e:(t8 t).ev.moves.length=t.ev.moves.length:=rfl
 exact b0V (B:=1100) (a0i i h) (by decide) (by omega) (b4N h h0 k0 k1)
def a8f (k:Nat):List C8:=[⟨0,0,0⟩,⟨0,1,0⟩]++([1,1,2,5].take k).map fun x=>⟨x,-1,-1⟩
def exQ (cl:List Q6):e7:=⟨⟨1,2,0,a8f 4,[⟨0,0,2,-1,0,false⟩,⟨0,1,3,-1,0,false⟩,⟨0,2,4,-1,0,true⟩,⟨0,4,5,-1,0,false⟩,⟨0,3,4,-1,0,true⟩],[],[],[]⟩,[⟨3,0,1⟩,⟨4,0,1⟩],cl⟩
abbrev b7m (l:List C8):Blk:={ mode:=.live,elem:=77,size:=3,rows:=toC (l.map C8.row),box:=false }
abbrev b9r (id len:Nat):Blk:={ mode:=.live,elem:=28,size:=8,rows:=[[.t (ti 1),.t (ti 2),.t (ti 0),.own id 0 len true,.t (.sl 0 .nil []),.t (.sl 0 .nil []),.t (.sl 0 .nil []),.t (.sl 0 .nil [])]],box:=true }
abbrev b9o:Blk:={ mode:=.live,elem:=32,size:=10,rows:=[[.t (ti 0),.t (ti 0),.t (ti 0),.t (.sl 0 .nil []),.t (.sl 0 .nil []),.t (.sl 0 .nil []),.t (.sl 0 .nil []),.t (.sl 0 .nil []),.t (.sl 0 .nil []),.t (.sl 0 .nil [])]],box:=true }
theorem b3y {k:Nat} (h:k<=4):(a8f k).length=2+k:=by simp [a8f];omega
set_option maxHeartbeats 4000000 in
theorem a7P (cl:List Q6):a9 Tryz.prog 74 [.c (.t (a1C cl))] [] (trS (exQ cl)) []:=by
 refine ac Tryz.func74 ?_
 conv=>whnf
 refine a3n.own ?_
 conv=>whnf
 repeat' (first|refine zz ?_|refine zd ?_ ?_<;>intro h<;>try omega|refine zy ?_|fail)<;>conv=>whnf
 refine d6 c8 (fun k=>([S.c (C.t (a1C cl)),J,S.c (C.ptr 0 0 0),a7 .i64 (-1),S.c (C.ptr 1 0 0),d8 [1,1,2,5],a7 .i64 k,J,J,J,J,J,J,J,J,J,J,J,J,J,J,J,J,J,J,J,J,J,J,J,J,J,J,J,J,J,J,J,J,J,J,J,J,J,J,J,J,J,J],[b9o,b9r 2 (a8f k).length,b7m (a8f k)])) 4 (fun _=>True) [some 0,some 1,some 2] trivial
  ⟨rfl,rfl,⟨c9 (c7 [[ti 0,ti 0,ti 0,.sl 0 .nil [],.sl 0 .nil [],.sl 0 .nil [],.sl 0 .nil [],.sl 0 .nil [],.sl 0 .nil [],.sl 0 .nil []]]),⟨rfl,rfl,rfl,.inr ⟨⟨rfl,rfl,rfl,⟨rfl,rfl,rfl,fun h=>h⟩,rfl,rfl,rfl,rfl,trivial⟩,trivial⟩⟩,a8 (rows:=(a8f 0).map C8.row) rfl rfl rfl rfl rfl,trivial⟩,⟨g9 rfl,⟨rfl,rfl,rfl⟩,rfl,⟨rfl,rfl,rfl⟩,rfl,rfl,trivial⟩⟩ ?_
 have m1:(([1,1,2,5]:List Int).map d9).length=4:=rfl
 intro k hk _
 by_cases hlt:k<4
 ·obtain ⟨x,hx,hb⟩:∃x:Int,([1,1,2,5]:List Int)[k]? =some x∧a8f (k+1)=a8f k++[⟨x,-1,-1⟩]:=by
   match k,hlt with
   |0,_=>exact ⟨1,rfl,rfl⟩
   |1,_=>exact ⟨1,rfl,rfl⟩
   |2,_=>exact ⟨2,rfl,rfl⟩
   |3,_=>exact ⟨5,rfl,rfl⟩
  have el:=b3y hk
  rw [hb]
  generalize a8f k=L at *
  have lA:L.length<=(b7m L).rows.length:=by show _<=(toC _).length;simp [toC]
  conv=>whnf
  repeat' (first|refine zz ?_|refine qp toC ?_|refine qp (0,1) ?_|refine b8 hx ?_|refine o7 lA (by simp [toC];omega) ?_|refine bl0 [0,1] ?_|refine zd ?_ ?_<;>intro h<;>try omega|refine zy ?_|fail)<;>conv=>whnf
  all_goals first
   |omega
   |(refine ⟨hlt,trivial,[some 0,some 1,some 3],rfl,rfl,⟨c9 (c7 [[ti 0,ti 0,ti 0,.sl 0 .nil [],.sl 0 .nil [],.sl 0 .nil [],.sl 0 .nil [],.sl 0 .nil [],.sl 0 .nil [],.sl 0 .nil []]]),⟨rfl,rfl,rfl,.inr ⟨⟨rfl,rfl,rfl,⟨rfl,rfl,?_,fun h=>h⟩,rfl,rfl,rfl,rfl,trivial⟩,trivial⟩⟩,a8 (rows:=(L++[(⟨x,-1,-1⟩:C8)]).map C8.row) rfl rfl rfl ?_ rfl,trivial⟩,⟨rfl,⟨rfl,rfl,rfl⟩,rfl,⟨rfl,rfl,rfl⟩,rfl,c6 (by omega),trivial⟩⟩
     ·simp [toC]
     ·exact y5 (f:=C8.row) (x:=(⟨x,-1,-1⟩:C8)) rfl)
 ·have hke:k=4:=by omega
  subst hke
  conv=>whnf
  repeat' (first|refine zz ?_|refine a3n.weak ?_|refine zd ?_ ?_<;>intro h<;>try omega|refine zy ?_|fail)<;>conv=>whnf
  all_goals first
   |omega
   |exact k5 ⟨rfl,rfl,rfl,(show VC _ (fun id=>E1 [] id=true) (C.own 2 0 _ true) _ from t5 (k:=b7m (a8f 4)) rfl rfl (fun h=>h) rfl rfl rfl),rfl,rfl,rfl,rfl,rfl,rfl,trivial⟩
def b6t (s:f7) (gL:List (List (Int × Rat))) (w:List Rat) (Ys:List (List Rat)) (out:List Bool):Bool:=
 decide (out.length=gL.length) && j7 s w && (List.range gL.length).all fun g=>if out.getD g false=true then decide (0<k7 (gL.getD g []) w) else a33 s (N9 (gL.getD g [])) (Ys.getD g []) && decide (a2j s (yN (Ys.getD g []))=0)
theorem a8v {s:f7} {gL:List (List (Int × Rat))} {w:List Rat} {Ys:List (List Rat)} {out:List Bool} (h:a0T s gL) (hc:b6t s gL w Ys out=true):isF s gL=out:=by
 unfold b6t at hc
 simp only [Bool.and_eq_true,decide_eq_true_eq,List.all_eq_true] at hc
 obtain ⟨⟨h1,h2⟩,h3⟩:=hc
 have hl:(isF s gL).length=gL.length:=M8 _ _ _
 refine a4U (by omega) fun i hi=>?_
 have hi2:i<gL.length:=by omega
 have h4:=h3 i (List.mem_range.2 hi2)
 have hiff:=b49 h hi2
 cases ho:out.getD i false with
 |true=>
  rw [ho,if_pos rfl,decide_eq_true_eq] at h4
  exact hiff.2 ⟨w,h2,h4⟩
 |false=>
  rw [ho,if_neg (by decide),Bool.and_eq_true,decide_eq_true_eq] at h4
  cases hb:(isF s gL).getD i false with
  |false=>rfl
  |true=>
   obtain ⟨z,hz,hp⟩:=hiff.1 hb
   have:=b1q h.r (h.g _ (N3 hi2)) h4.1 h4.2 hz
   grind
def q0:List Rat:=[]
def qe (l:List Int):List Rat:=l.map fun x=>((x:Int):Rat)
theorem aL3:o9 (exQ [])=0:=by decide +kernel
theorem aJ5:o9 (exQ [⟨2,0⟩])=0:=by decide +kernel
theorem a3A:QT (exQ []):=⟨aL3,by decide,by decide⟩
theorem b6W:QT (exQ [⟨2,0⟩]):=⟨aJ5,by decide,by decide⟩
theorem H4 (cl:List Q6) (h:cl.length<=1000000):(exQ cl).Sized:=⟨⟨by simp [exQ,a8f],by simp [exQ,a8f],by simp [exQ],by simp [exQ],by simp [exQ]⟩,by simp [exQ],by simpa [exQ] using h⟩
theorem b3v:isA (exQ []) 0 0=[true,false,true,true,false,false,false,false,false,true,true]:=
 a8v (F3 0 a3A (by decide) (by decide) (by decide)).p (w:=qe [2,0,2,1,0]) (Ys:=[[],qe [0,0,0,-1],[],[],qe [0,0,1,-1],qe [0,0,0,0],qe [0,0,0,0],qe [-1,0,0,0],qe [0,0,-1,0],[],[]]) (by decide +kernel)
theorem b8N:isA (exQ []) 0 1=[false,true,false,false,true,false,false,false,false,true,false]:=
 a8v (F3 1 a3A (by decide) (by decide) (by decide)).p (w:=qe [0,2,0,0,2]) (Ys:=[qe [0,0,0,-1],[],qe [1,0,0,-1],qe [1,1,0,-1],[],qe [0,0,0,0],qe [0,0,0,0],qe [-1,0,0,0],qe [0,0,-1,0],[],qe [1,1,0,-1]]) (by decide +kernel)
theorem b9s:isA (exQ [⟨2,0⟩]) 0 0=[false,false,false,false,false,false,false,false,false,false,false]:=
 a8v (F3 0 b6W (by decide) (by decide) (by decide)).p (w:=qe [0,0,0,0,0]) (Ys:=[qe [-1,-1,0,0,0],qe [0,0,0,0,-1],qe [0,-1,0,0,0],qe [0,-1,1,0,0],qe [0,0,0,1,-1],qe [0,0,0,0,0],qe [0,0,0,0,0],qe [-1,0,0,0,0],qe [0,0,0,-1,0],qe [0,-1,0,1,-1],qe [0,-1,1,0,0]]) (by decide +kernel)
theorem b9w:isA (exQ [⟨2,0⟩]) 0 1=[false,true,false,false,true,false,false,false,false,true,false]:=
 a8v (F3 1 b6W (by decide) (by decide) (by decide)).p (w:=qe [0,2,0,0,2]) (Ys:=[qe [0,0,0,0,-1],[],qe [0,-1,0,0,0],qe [0,-1,1,0,0],[],qe [0,0,0,0,0],qe [0,0,0,0,0],qe [-1,0,0,0,0],qe [0,0,0,-1,0],[],qe [0,-1,1,0,0]]) (by decide +kernel)
theorem b1S:i5 (exQ []).ev=[0,1]:=by decide +kernel
theorem b9m:i5 (exQ [⟨2,0⟩]).ev=[0,1]:=by decide +kernel
theorem b93 (mv:Nat):K6 (exQ []) 0 mv=[0,1].filter fun i=>((if i=0 then [true,false,true,true,false,false,false,false,false,true,true] else [false,true,false,false,true,false,false,false,false,true,false]):List Bool).getD mv false:=by
 unfold K6
 rw [b1S]
 refine List.filter_congr fun i hi=>?_
 have hi:i=0∨i=1:=by simpa using hi
 rcases hi with rfl|rfl
 ·rw [b3v];rfl
 ·rw [b8N];rfl
theorem b2B:K6 (exQ []) 0 3=[0]:=by rw [b93];decide +kernel
theorem b6v:K6 (exQ []) 0 4=[1]:=by rw [b93];decide +kernel
theorem b91:K6 (exQ [⟨2,0⟩]) 0 3=[]:=by
 unfold K6
 rw [b9m]
 simp [b9s,b9w]
theorem ab6 (g:Nat):J1 (exQ []) 0 3 g=([true,false,true,true,false,false,false,false,false,true,true]:List Bool).getD g false:=by
 unfold J1
 rw [b2B]
 show ((isA (exQ []) 0 0).getD g false || false)=_
 rw [b3v,Bool.or_false]
theorem b1O (g:Nat):J1 (exQ []) 0 4 g=([false,true,false,false,true,false,false,false,false,true,false]:List Bool).getD g false:=by
 unfold J1
 rw [b6v]
 show ((isA (exQ []) 0 1).getD g false || false)=_
 rw [b8N,Bool.or_false]
theorem b7F:F6 (exQ []) 0 3=[0,2,3]∧D6 (exQ []) 0 3=[4,5]:=by
 unfold F6 D6 L0 E0 a0t
 have:(fun g=>J1 (exQ []) 0 3 g)=fun g=>([true,false,true,true,false,false,false,false,false,true,true]:List Bool).getD g false:=funext ab6
 rw [this]
 decide +kernel
theorem b8c:F6 (exQ []) 0 4=[1,4]∧D6 (exQ []) 0 4=[4]:=by
 unfold F6 D6 L0 E0 a0t
 have:(fun g=>J1 (exQ []) 0 4 g)=fun g=>([false,true,false,false,true,false,false,false,false,true,false]:List Bool).getD g false:=funext b1O
 rw [this]
 decide +kernel
theorem b9p:a84 (exQ []) 0 3=[3]:=by
 unfold a84;rw [b7F.1];decide +kernel
theorem b9k:a84 (exQ []) 0 4=[]:=by
 unfold a84;rw [b8c.1];decide +kernel
theorem exW:a5v (exQ []) 0 2 (K6 (exQ []) 0 3)=some 0:=by
 rw [b2B]
 unfold a5v
 have:(isA (exQ []) 0 0).getD 2 false=true:=by rw [b3v];rfl
 simp [List.find?_cons]
 rw [lg3] at this
 simp [this]
theorem exN:a5v (exQ []) 0 4 (K6 (exQ []) 0 3)=none:=by
 rw [aT8,ab6];rfl
theorem a0K (a b:List Int) (ha:a.length<=1000000) (hb:b.length<=1000000):a9 Tryz.prog 38 [d8 a,d8 b] [] (f5 (decide (a=b))) []:=by
 have s:=aL0 a b ha hb
 (refine ac Tryz.func38 ?_;(conv=>whnf);repeat (refine zy ?_;conv=>whnf))
 repeat' (first|refine zz ?_|refine qp s ?_|refine zd ?_ ?_<;>intro h<;>try omega|refine zy ?_|fail)<;>conv=>whnf
 all_goals (refine b9 ?_;symm;assumption)
def f03:L7:=⟨3,0,1⟩
def f14:L7:=⟨4,0,1⟩
theorem b8g:a9 Tryz.prog 34 [trS (exQ []),a7 .i64 0] [] (.tup [d8 [0],a7 .i64 0]) []:=by
 have h:=a4j (exQ []) (H4 _ (by decide)) a3A 0 f03 (by decide) rfl
 rw [show K6 (exQ []) f03.kind f03.mv.toNat=[0] from b2B] at h
 exact h
theorem b8X:a9 Tryz.prog 34 [trS (exQ []),a7 .i64 1] [] (.tup [d8 [1],a7 .i64 0]) []:=by
 have h:=a4j (exQ []) (H4 _ (by decide)) a3A 1 f14 (by decide) rfl
 rw [show K6 (exQ []) f14.kind f14.mv.toNat=[1] from b6v] at h
 exact h
theorem b8C:a9 Tryz.prog 34 [trS (exQ []),a7 .i64 2] [] (.tup [.c (.t (.sl 0 .nil [])),a7 .i64 1]) []:=
 ad1 (exQ []) (H4 _ (by decide)) 2 (by unfold a0v;simp [exQ])
theorem b8w:a9 Tryz.prog 34 [trS (exQ [⟨2,0⟩]),a7 .i64 0] [] (.tup [d8 [],a7 .i64 0]) []:=by
 have h:=a4j (exQ [⟨2,0⟩]) (H4 _ (by decide)) b6W 0 f03 (by decide) rfl
 rw [show K6 (exQ [⟨2,0⟩]) f03.kind f03.mv.toNat=[] from b91] at h
 exact h
theorem b8y:a9 Tryz.prog 23 [trS (exQ []),a7 .i64 0] [] (.tup [d8 [0,2,3],d8 [4,5],a7 .i64 0]) []:=by
 have h:=ac1 (exQ []) (H4 _ (by decide)) a3A 0 f03 (by decide) rfl
 rw [show F6 (exQ []) f03.kind f03.mv.toNat=[0,2,3] from b7F.1,show D6 (exQ []) f03.kind f03.mv.toNat=[4,5] from b7F.2] at h
 exact h
theorem b8T:a9 Tryz.prog 23 [trS (exQ []),a7 .i64 1] [] (.tup [d8 [1,4],d8 [4],a7 .i64 0]) []:=by
 have h:=ac1 (exQ []) (H4 _ (by decide)) a3A 1 f14 (by decide) rfl
 rw [show F6 (exQ []) f14.kind f14.mv.toNat=[1,4] from b8c.1,show D6 (exQ []) f14.kind f14.mv.toNat=[4] from b8c.2] at h
 exact h
theorem b8u:a9 Tryz.prog 39 [trS (exQ []),a7 .i64 0] [] (.tup [d8 [3],a7 .i64 0]) []:=by
 have h:=b2k (exQ []) (H4 _ (by decide)) a3A 0 f03 (by decide) rfl
 rw [show a84 (exQ []) f03.kind f03.mv.toNat=[3] from b9p] at h
 exact h
theorem b8P:a9 Tryz.prog 39 [trS (exQ []),a7 .i64 1] [] (.tup [d8 [],a7 .i64 0]) []:=by
 have h:=b2k (exQ []) (H4 _ (by decide)) a3A 1 f14 (by decide) rfl
 rw [show a84 (exQ []) f14.kind f14.mv.toNat=[] from b9k] at h
 exact h
theorem b9q:a9 Tryz.prog 42 [trS (exQ []),a7 .i64 0,a7 .i64 2] [] (.tup [a7 .i64 0,j8 ((a5c (exQ []) 0 0).map fz),f5 true]) []:=by
 have h:=al8 (exQ []) (H4 _ (by decide)) a3A 0 f03 (by decide) rfl 2 (by decide)
 rw [show a5v (exQ []) f03.kind 2 (K6 (exQ []) f03.kind f03.mv.toNat)=some 0 from exW] at h
 exact h
theorem b8U:a9 Tryz.prog 75 [trS (exQ []),a7 .i64 0,a7 .i64 2,a7 .i64 0,j8 ((a5c (exQ []) 0 0).map fz)] [] (f5 true) []:=by
 obtain ⟨w1,w2⟩:=ah7 (kind:=0) (i:=0) a3A (by decide) (by decide) (by decide)
 have p2:=w2 2 (by decide) (by rw [b3v];rfl)
 have p3:=w2 3 (by decide) (by rw [b3v];rfl)
 unfold aS1 at p2 p3
 rw [if_pos (by decide)] at p2 p3
 exact b2z (exQ []) (H4 _ (by decide)) a3A 0 f03 (by decide) rfl 2 (by decide) 0 (by rw [b1S];decide) (a5c (exQ []) 0 0) (b4t a3A (by decide) (by decide) (by decide)) ((U6 a3A (by decide) (by decide)).2 w1) p2 p3
theorem b9v:a9 Tryz.prog 54 [trS (exQ []),a7 .i64 0,a7 .i64 4] [] (.tup [aH3 (a1Q (exQ []) 0 3 4 [0,1]),f5 true]) []:=by
 have h:=b5n (exQ []) (H4 _ (by decide)) a3A 0 f03 (by decide) rfl 4 (by decide) exN
 rw [b1S] at h
 exact h
theorem b9B:a9 Tryz.prog 76 [trS (exQ []),a7 .i64 0,a7 .i64 4,aH3 (a1Q (exQ []) 0 3 4 [0,1])] [] (f5 true) []:=by
 have hc:a97 (exQ []) 0 3 4 (a1Q (exQ []) 0 3 4 [0,1])=true:=by
  have:=aM5 (kind:=0) (mv:=3) (g:=4) a3A (by decide) (by decide) (by decide) (by decide) (by rw [ab6];rfl)
  rwa [b1S] at this
 have e:a1Q (exQ []) 0 3 4 [0,1]=((i5 (exQ []).ev).map fun i=>as7 (exQ []) 0 3 4 i).map fun y=>y.map fz:=by rw [b1S];unfold a1Q;rw [List.map_map];rfl
 rw [e] at hc ⊢
 refine b0r (exQ []) (H4 _ (by decide)) a3A 0 f03 (by decide) rfl 4 (by decide) _ (fun k i y hi hy=>b0M a3A k i y hi hy) hc
set_option maxHeartbeats 4000000 in
theorem b23:a9 Tryz.prog 22 [] [] (f5 true) []:=by
 have x0:=a7P []
 have x1:=a7P [⟨2,0⟩]
 have o0:=b8g
 have o1:=b8X
 have o2:=b8C
 have oc:=b8w
 have l0:=b8y
 have l1:=b8T
 have d0:=b8u
 have d1:=b8P
 have wi:=b9q
 have sh:=b8U
 have pr:=b9v
 have cl:=b9B
 have m1:=a0K [0] [0] (by decide) (by decide)
 have m2:=a0K [1] [1] (by decide) (by decide)
 have m3:=a0K [0,2,3] [0,2,3] (by decide) (by decide)
 have m4:=a0K [4,5] [4,5] (by decide) (by decide)
 have m5:=a0K [1,4] [1,4] (by decide) (by decide)
 have m6:=a0K [4] [4] (by decide) (by decide)
 have m7:=a0K [3] [3] (by decide) (by decide)
 rw [decide_eq_true rfl] at m1 m2 m3 m4 m5 m6 m7
 generalize exQ []=t0 at *
 generalize exQ [⟨2,0⟩]=t1 at *
 generalize (a5c t0 0 0).map fz=wz at *
 generalize a1Q t0 0 3 4 [0,1]=pz at *
 (refine ac Tryz.func22 ?_;(conv=>whnf);repeat (refine zy ?_;conv=>whnf))
 repeat' (first|refine zz ?_|refine qp x1 ?_|refine qp o0 ?_|refine qp o1 ?_|refine qp o2 ?_|refine qp oc ?_|refine qp l0 ?_|refine qp l1 ?_|refine qp d0 ?_|refine qp d1 ?_|refine qp wi ?_|refine qp sh ?_|refine qp pr ?_|refine qp cl ?_|refine qp m1 ?_|refine qp m2 ?_|refine qp m3 ?_|refine qp m4 ?_|refine qp m5 ?_|refine qp m6 ?_|refine qp m7 ?_|refine .inl ⟨_,_,Z5 x0 ⟨rfl,trivial⟩ rfl,?_⟩|refine a3n.weak ?_|refine zd ?_ ?_<;>intro h<;>try omega|refine zy ?_|fail)<;>conv=>whnf
 all_goals first
  |omega
  |exact b9 rfl
  |exact absurd rfl h
theorem aN7 (l:List Int) (n:Int) (hl:l.length<=1000000):a9 Tryz.prog 40 [d8 l,a7 .i64 n] [] (f5 (l.any fun x=>decide (x=n))) []:=by
 have m1:(l.map d9).length=l.length:=by simp
 (refine ac Tryz.func40 ?_;(conv=>whnf);repeat (refine zy ?_;conv=>whnf))
 repeat' (first|refine zz ?_|refine zd ?_ ?_<;>intro h<;>try omega|refine zy ?_|fail)<;>conv=>whnf
 refine d6 c8 (fun k=>([d8 l,a7 .i64 n,J,J,J,a7 .i64 k,J,J,J,J,J,J,J,J,J,J,J,J],[])) l.length (fun k=>(l.take k).any (fun x=>decide (x=n))=false) [] (by simp)
  ⟨rfl,rfl,trivial,⟨rfl,rfl,rfl,trivial⟩⟩ ?_
 intro k hk hI
 by_cases hlt:k<l.length
 ·obtain ⟨x,hx⟩:∃x,l[k]? =some x:=⟨_,lg0 hlt⟩
  by_cases hxn:x=n
  ·have e:l.any (fun x=>decide (x=n))=true:=List.any_eq_true.2 ⟨x,lg2 hx,decide_eq_true hxn⟩
   rw [e]
   conv=>whnf
   repeat' (first|refine zz ?_|refine b8 hx ?_|refine zd ?_ ?_<;>intro h<;>try omega|refine zy ?_|fail)<;>conv=>whnf
   all_goals first
    |omega
    |exact b9 rfl
  ·conv=>whnf
   repeat' (first|refine zz ?_|refine b8 hx ?_|refine zd ?_ ?_<;>intro h<;>try omega|refine zy ?_|fail)<;>conv=>whnf
   all_goals first
    |omega
    |exact ⟨hlt,by rw [a9m hx,List.any_append,hI];simp [hxn],[],rfl,rfl,trivial,⟨rfl,rfl,rfl,trivial⟩⟩
 ·have hke:k=l.length:=by omega
  subst hke
  rw [lg4 (Nat.le_refl _)] at hI
  rw [hI]
  conv=>whnf
  repeat' (first|refine zz ?_|refine zd ?_ ?_<;>intro h<;>try omega|refine zy ?_|fail)<;>conv=>whnf
  all_goals first
   |omega
   |exact b9 rfl
theorem aK5 {t:e7} {kind:Int} {mv g:Nat}:g ∈ F6 t kind mv↔g<t.ev.moves.length∧J1 t kind mv g=true:=by
 unfold F6 L0 a0t
 rw [List.mem_filter,List.mem_filter,List.mem_range,decide_eq_true_eq]
 exact ⟨fun h=>⟨h.2,h.1.2⟩,fun h=>⟨⟨by omega,h.2⟩,h.1⟩⟩
theorem aF5 {t:e7} {kind:Int} {mv p:Nat}:p ∈ D6 t kind mv↔p<t.ev.places.length∧J1 t kind mv (t.ev.moves.length+p)=true:=by
 unfold D6 E0 a0t
 rw [List.mem_map]
 constructor
 ·rintro ⟨g,hg,rfl⟩
  rw [List.mem_filter,List.mem_filter,List.mem_range] at hg
  obtain ⟨⟨h1,h2⟩,h3⟩:=hg
  have h3:¬g<t.ev.moves.length:=by simpa using h3
  exact ⟨by omega,by rw [show t.ev.moves.length+(g - t.ev.moves.length)=g by omega];exact h2⟩
 ·rintro ⟨h1,h2⟩
  exact ⟨t.ev.moves.length+p,by rw [List.mem_filter,List.mem_filter,List.mem_range];exact ⟨⟨by omega,h2⟩,by simp⟩,by omega⟩
theorem a9M {l:List Nat} {g:Nat}:((C9 l).any fun x=>decide (x=(g:Int)))=decide (g ∈ l):=by
 rw [Bool.eq_iff_iff,List.any_eq_true,decide_eq_true_eq]
 unfold C9
 constructor
 ·rintro ⟨x,hx,he⟩
  obtain ⟨n,hn,rfl⟩:=List.mem_map.1 hx
  have:=of_decide_eq_true he
  have e:n=g:=by omega
  rw [← e];exact hn
 ·intro h;exact ⟨(g:Int),List.mem_map.2 ⟨g,h,rfl⟩,decide_eq_true rfl⟩
structure b6G (t:e7) (find:Int) (f:L7):Prop where
 q:QT t
 s:t.Sized
 f0:0<=find
 hf:t.finds[find.toNat]? =some f
 k0:0<=f.kind
 k1:f.kind<8
 m0:0<=f.mv
 m1:f.mv<t.ev.moves.length
 ml:f.mv.toNat<t.ev.moves.length
theorem b5T {t:e7} {m:Int} {find:Int} (hm:m<=8) (hs:a2s t m=true) (hf:a0v t find=true):∃f,b6G t find f:=by
 obtain ⟨s1,s2,s3⟩:=a4V (by omega) hs
 obtain ⟨h1,h2,f,h3⟩:=ai3 hf
 obtain ⟨q1,q2,q3,q4,q5⟩:=p8 h1
 have hg:=A0 q4 f (lg2 h3)
 unfold a2s a4o at hs
 simp only [Bool.and_eq_true,decide_eq_true_eq] at hs
 exact ⟨f,⟨h1,by omega,by omega⟩,s1,h2,h3,by omega,by omega,by omega,by omega,by omega⟩
def a3u (bl:List Bool) (i:Nat) (x:p6) (a:List Bool):List Bool:=
 cond (a.getD x.src.toNat false) (cond x.all ((cond (bl.getD i true) a (a.set x.dst.toNat true)).set x.src.toNat false) (cond (bl.getD i true) a (a.set x.dst.toNat true))) a
def a4N (e:Ev) (bl:List Bool) (m:Nat) (d:Nat):Nat->List Bool
 |0=>(List.replicate e.places.length false).set d true
 |k+1=>match e.moves[m+1+k]? with
  |some x=>a3u bl (m+1+k) x (a4N e bl m d k)
  |none=>a4N e bl m d k
theorem at4 {bl:List Bool} {i:Nat} {x:p6} {a:List Bool}:(a3u bl i x a).length=a.length:=by
 unfold a3u
 cases a.getD x.src.toNat false<;>cases x.all<;>cases bl.getD i true<;>simp
theorem ab3 {e:Ev} {bl:List Bool} {m d:Nat}:∀k,(a4N e bl m d k).length=e.places.length
 |0=>by simp [a4N]
 |k+1=>by
  unfold a4N
  split
  ·rw [at4,ab3 k]
  ·exact ab3 k
theorem b1E {e:Ev} {bl:List Bool} {m d k:Nat} {x:p6} (h:e.moves[m+1+k]? =some x):a4N e bl m d (k+1)=a3u bl (m+1+k) x (a4N e bl m d k):=by
 rw [a4N,h]
def a8W (e:Ev) (bl:List Bool) (m:Int):List Int:=match e.moves[m.toNat]? with
 |some x=>a1r (au0 e bl x.dst m.toNat) 0 e.moves
 |none=>[]
structure BQ where
 bef:List Int
 que:List Int
theorem aj7 {e:Ev} {m:p6} (h:D2 e m=true):m.src≠m.dst:=by
 simp [D2] at h;exact h.1.1.1.1.1.2
def b7W:List Int->List Int->Bool
 |x::a,y::b=>if x=y then b7W a b else decide (x<y)
 |_,_=>false
def b9e (a b:List Int):Bool:=if b=[]∨a.length≠b.length then decide (b=[]) || decide (a.length<b.length) else b7W a b
section
def a3k (p:List Int):Int:=p.getLast?.getD 0
theorem a5B {p:List Int} {k:Int}:a3k (p++[k])=k:=by simp [a3k]
def ltP (p q:List Int):Prop:=p.length<q.length∨(p.length=q.length∧b7W p q=true)
inductive Pa (fr:Int) (nxt:Int->List Int):List Int->Prop
 |one:Pa fr nxt [fr]
 |snoc {p:List Int} {k:Int} (h:Pa fr nxt p) (hk:k ∈ nxt (a3k p)):Pa fr nxt (p++[k])
def b9b (ps:List (List Int)) (k:Int):Bool:=ps.any fun q=>decide (a3k q=k)
def b4F (p:List Int) (ps:List (List Int)) (k:Int):List (List Int):=if b9b ps k=true then ps else ps++[p++[k]]
section
variable {fr:Int} {nxt:Int->List Int}
theorem Pa.ge (hgt:∀m k,k ∈ nxt m->m<k) {p:List Int} (h:Pa fr nxt p):fr<=a3k p:=by
 induction h with
 |one=>simp [a3k]
 |snoc h hk ih=>rw [a5B];have:=hgt _ _ hk;omega
def b5l (nxt:Int->List Int) (ps:List (List Int)) (p:List Int):List (List Int):=(nxt (a3k p)).foldl (b4F p) ps
def b9f (nxt:Int->List Int) (ps:List (List Int)) (b:Nat):List (List Int):=(ps.drop b).foldl (b5l nxt) ps
end
end
theorem av8 {e:Ev} {bl:List Bool} (m k:Int) (h:k ∈ a8W e bl m):m<k:=by
 unfold a8W at h
 split at h
 ·obtain ⟨i,z,hz,hP,rfl⟩:=a2J.1 h
  simp [au0] at hP
  omega
 ·cases h
def a5W (e:Ev) (i k:Nat):Bool:=match e.moves[i]?,e.moves[k]? with
 |some u,some v=>decide (i<k) && decide (v.src=u.dst) && a2y e u.dst i k
 |_,_=>false
theorem ah5 {e:Ev} {bl:List Bool} {i j:Nat}:(j:Int) ∈ a8W e bl i↔a5W e i j=true∧bl.getD j true=false:=by
 unfold a8W a5W
 rw [Int.toNat_natCast]
 cases hi:e.moves[i]? with
 |none=>simp
 |some u=>
  simp only
  constructor
  ·intro h
   obtain ⟨k,z,hz,hP,hk⟩:=a2J.1 h
   have:k=j:=by omega
   subst this
   rw [Nat.zero_add] at hP
   simp only [au0,Bool.and_eq_true,Bool.not_eq_true'] at hP
   rw [hz]
   exact ⟨by simp only [Bool.and_eq_true];exact hP.1,hP.2⟩
  ·rintro ⟨h1,h2⟩
   cases hj:e.moves[j]? with
   |none=>rw [hj] at h1;cases h1
   |some v=>
    rw [hj] at h1
    refine a2J.2 ⟨j,v,hj,?_,by omega⟩
    rw [Nat.zero_add]
    simp only [au0,Bool.and_eq_true,Bool.not_eq_true']
    simp only [Bool.and_eq_true] at h1
    exact ⟨h1,h2⟩
theorem b25 {e:Ev} {i j:Nat} (h:a5W e i j=true):i<j∧j<e.moves.length:=by
 unfold a5W at h
 split at h
 ·rename_i u v hu hv
  simp only [Bool.and_eq_true,decide_eq_true_eq] at h
  exact ⟨h.1.1,(lg1 hv).1⟩
 ·cases h
theorem Pa.case {e:Ev} {bl:List Bool} {fr:Nat} {q:List Int} (h:Pa fr (a8W e bl) q) {k:Nat} (hk:a3k q=k):(q=[(fr:Int)]∧k=fr)∨∃(p:List Int) (i:Nat),q=p++[(k:Int)]∧Pa fr (a8W e bl) p∧a3k p=i∧fr<=i∧a5W e i k=true∧bl.getD k true=false:=by
 cases h with
 |one=>left;simp [a3k] at hk;exact ⟨rfl,by omega⟩
 |@snoc p j hp hj=>
  right
  rw [a5B] at hk
  subst hk
  have hge:=hp.ge av8
  obtain ⟨i,hi⟩:=Int.eq_ofNat_of_zero_le (show 0<=a3k p by omega)
  rw [hi] at hj
  obtain ⟨h1,h2⟩:=ah5.1 hj
  exact ⟨p,i,rfl,hp,hi,by omega,h1,h2⟩
theorem ag1 {a:List Bool} {i j:Nat} {v:Bool} (h:i<a.length):(a.set i v).getD j false=if j=i then v else a.getD j false:=by
 rw [lg3,lg3]
 by_cases hj:j=i
 ·subst hj;rw [List.getElem?_set_self h,if_pos rfl];rfl
 ·rw [List.getElem?_set_ne (Ne.symm hj),if_neg hj]
def Rch (e:Ev) (bl:List Bool) (m v:Nat):Prop:=∃q,Pa m (a8W e bl) q∧a3k q=(v:Int)
theorem Rch.self {e:Ev} {bl:List Bool} {m:Nat}:Rch e bl m m:=⟨_,.one,rfl⟩
theorem Rch.ge {e:Ev} {bl:List Bool} {m v:Nat} (h:Rch e bl m v):m<=v:=by
 obtain ⟨q,h1,h2⟩:=h
 have:=h1.ge av8
 omega
theorem Rch.step {e:Ev} {bl:List Bool} {m v k:Nat} (h:Rch e bl m v) (hs:a5W e v k=true) (hb:bl.getD k true=false):Rch e bl m k:=by
 obtain ⟨q,h1,h2⟩:=h
 exact ⟨q++[(k:Int)],.snoc h1 (by rw [h2];exact ah5.2 ⟨hs,hb⟩),a5B⟩
theorem Rch.case {e:Ev} {bl:List Bool} {m k:Nat} (h:Rch e bl m k):k=m∨∃v,Rch e bl m v∧a5W e v k=true∧bl.getD k true=false:=by
 obtain ⟨q,h1,h2⟩:=h
 rcases h1.case h2 with ⟨_,h⟩|⟨p,i,_,h4,h5,_,h7,h8⟩
 ·exact .inl h
 ·exact .inr ⟨i,⟨p,h4,h5⟩,h7,h8⟩
def a4Y (e:Ev) (bl:List Bool) (m i p:Nat):Prop:=∃(v:Nat) (u:p6),v<i∧e.moves[v]? =some u∧Rch e bl m v∧u.dst=(p:Int)∧a2y e u.dst v i=true
theorem a4Y.reach {e:Ev} {bl:List Bool} {m i:Nat} {x:p6} (hx:e.moves[i]? =some x) (hm:m<i) {p:Nat} (hp:x.src=(p:Int)) (hb:bl.getD i true=false):Rch e bl m i↔a4Y e bl m i p:=by
 constructor
 ·intro h
  rcases h.case with h|⟨v,h1,h2,_⟩
  ·omega
  ·have h3:=b25 h2
   unfold a5W at h2
   split at h2
   ·rename_i u w hu hw
    rw [hx] at hw
    injection hw with hw
    subst hw
    simp only [Bool.and_eq_true,decide_eq_true_eq] at h2
    exact ⟨v,u,h3.1,hu,h1,by rw [← h2.1.2,hp],h2.2⟩
   ·cases h2
 ·rintro ⟨v,u,h1,h2,h3,h4,h5⟩
  refine h3.step ?_ hb
  unfold a5W
  rw [h2,hx]
  simp only [Bool.and_eq_true,decide_eq_true_eq]
  exact ⟨⟨h1,by rw [hp,h4]⟩,h5⟩
theorem ak5 {a:List Bool} {i j:Nat} (h:i<a.length):(a.set i true).getD j false=true↔j=i∨a.getD j false=true:=by
 rw [ag1 h]
 split
 ·rename_i hq;simp [hq]
 ·rename_i hq;simp [hq]
theorem b0t {a:List Bool} {i j:Nat} (h:i<a.length):(a.set i false).getD j false=true↔j≠i∧a.getD j false=true:=by
 rw [ag1 h]
 split
 ·rename_i hq;simp [hq]
 ·rename_i hq;simp [hq]
theorem atTo_holds {e:Ev} (h0:z6 e=0) {bl:List Bool} {m:Nat} {x0:p6} (hm:e.moves[m]? =some x0):∀k,m+1+k<=e.moves.length->∀p,(a4N e bl m x0.dst.toNat k).getD p false=true↔a4Y e bl m (m+1+k) p
 |0,_,p=>by
  have hd:=a10 (B3 h0 (lg2 hm))
  have hl:x0.dst.toNat<(List.replicate e.places.length false).length:=by simp;omega
  rw [a4N,ak5 hl]
  have hr:(List.replicate e.places.length false).getD p false=false:=by simp [lg3,List.getElem?_replicate];split<;>rfl
  rw [hr]
  constructor
  ·rintro (h|h)
   ·exact ⟨m,x0,by omega,hm,.self,by omega,a6r⟩
   ·cases h
  ·rintro ⟨v,u,h1,h2,h3,h4,h5⟩
   have:=h3.ge
   obtain rfl:v=m:=by omega
   rw [hm] at h2
   injection h2 with h2
   subst h2
   exact .inl (by omega)
 |k+1,hk,p=>by
  have hlt:m+1+k<e.moves.length:=by omega
  obtain ⟨x,hx⟩:∃x,e.moves[m+1+k]? =some x:=⟨_,lg0 hlt⟩
  have hmo:=B3 h0 (lg2 hx)
  have hsr:=O4 hmo
  have hdr:=a10 hmo
  have hne:=aj7 hmo
  have ih:=atTo_holds h0 (bl:=bl) hm k (by omega)
  have hal:=ab3 (e:=e) (bl:=bl) (m:=m) (d:=x0.dst.toNat) k
  obtain ⟨s,hs⟩:=Int.eq_ofNat_of_zero_le hsr.1
  obtain ⟨d,hd⟩:=Int.eq_ofNat_of_zero_le hdr.1
  rw [b1E hx]
  unfold a3u
  rw [hs,hd,Int.toNat_natCast,Int.toNat_natCast]
  have hsd:s≠d:=by omega
  -- what holds before the next move
  have old:∀q:Nat,(∃ (v:Nat) (u:p6),v<m+1+k∧e.moves[v]? =some u∧Rch e bl m v∧u.dst=(q:Int)∧a2y e u.dst v (m+1+(k+1))=true)↔a4Y e bl m (m+1+k) q∧¬(s=q∧x.all=true):=fun q=>by
   constructor
   ·rintro ⟨v,u,h1,h2,h3,h4,h5⟩
    have:=h3.ge
    rw [show m+1+(k+1)=m+1+k+1 by omega,a85 hx (by omega),Bool.and_eq_true] at h5
    refine ⟨⟨v,u,h1,h2,h3,h4,h5.1⟩,?_⟩
    rintro ⟨rfl,ha⟩
    have h6:=h5.2
    rw [ha,h4,hs] at h6
    simp at h6
   ·rintro ⟨⟨v,u,h1,h2,h3,h4,h5⟩,h6⟩
    refine ⟨v,u,h1,h2,h3,h4,?_⟩
    rw [show m+1+(k+1)=m+1+k+1 by omega,a85 hx (by omega),h5,Bool.true_and]
    cases ha:x.all with
    |false=>simp
    |true=>
     have:¬s=q:=fun h=>h6 ⟨h,ha⟩
     simp [hs,h4]
     omega
  have new:∀q:Nat,a4Y e bl m (m+1+(k+1)) q↔(a4Y e bl m (m+1+k) q∧¬(s=q∧x.all=true))∨(d=q∧Rch e bl m (m+1+k)):=fun q=>by
   rw [← old q]
   constructor
   ·rintro ⟨v,u,h1,h2,h3,h4,h5⟩
    by_cases hv:v=m+1+k
    ·subst hv
     rw [hx] at h2
     injection h2 with h2
     subst h2
     exact .inr ⟨by omega,h3⟩
    ·exact .inl ⟨v,u,by omega,h2,h3,h4,h5⟩
   ·rintro (⟨v,u,h1,h2,h3,h4,h5⟩|⟨rfl,h⟩)
    ·exact ⟨v,u,by omega,h2,h3,h4,h5⟩
    ·exact ⟨m+1+k,x,by omega,hx,h,hd,a6r⟩
  have hrch:Rch e bl m (m+1+k)↔(a4N e bl m x0.dst.toNat k).getD s false=true∧bl.getD (m+1+k) true=false:=by
   constructor
   ·intro h
    have hb:bl.getD (m+1+k) true=false:=by
     rcases h.case with h'|⟨v,_,_,h'⟩
     ·omega
     ·exact h'
    exact ⟨(ih s).2 ((a4Y.reach hx (by omega) hs hb).1 h),hb⟩
   ·rintro ⟨h1,h2⟩
    exact (a4Y.reach hx (by omega) hs h2).2 ((ih s).1 h1)
  rw [new p]
  cases ha:(a4N e bl m x0.dst.toNat k).getD s false with
  |false=>
   rw [cond_false]
   have hnr:¬Rch e bl m (m+1+k):=fun h=>by have:=(hrch.1 h).1;rw [ha] at this;cases this
   have hnh:¬a4Y e bl m (m+1+k) s:=fun h=>by have:=(ih s).2 h;rw [ha] at this;cases this
   rw [ih p]
   constructor
   ·intro h
    exact .inl ⟨h,fun hq=>hnh (hq.1 ▸ h)⟩
   ·rintro (h|h)
    ·exact h.1
    ·exact absurd h.2 hnr
  |true=>
   rw [cond_true]
   have hr2:Rch e bl m (m+1+k)↔bl.getD (m+1+k) true=false:=by rw [hrch,ha];simp
   have h1:∀q:Nat,(cond (bl.getD (m+1+k) true) (a4N e bl m x0.dst.toNat k) ((a4N e bl m x0.dst.toNat k).set d true)).getD q false=true↔a4Y e bl m (m+1+k) q∨(d=q∧Rch e bl m (m+1+k)):=fun q=>by
    rw [hr2]
    cases hb:bl.getD (m+1+k) true with
    |true=>rw [cond_true,ih q];simp
    |false=>
     rw [cond_false,ak5 (by rw [hal];omega),ih q]
     constructor
     ·rintro (h|h)
      ·exact .inr ⟨h.symm,rfl⟩
      ·exact .inl h
     ·rintro (h|h)
      ·exact .inr h
      ·exact .inl h.1.symm
   have hlen:(cond (bl.getD (m+1+k) true) (a4N e bl m x0.dst.toNat k) ((a4N e bl m x0.dst.toNat k).set d true)).length=e.places.length:=by
    cases bl.getD (m+1+k) true<;>simp [hal]
   cases hall:x.all with
   |false=>
    rw [cond_false,h1 p]
    simp
   |true=>
    rw [cond_true,b0t (by rw [hlen];omega),h1 p]
    constructor
    ·rintro ⟨h2,h3|h3⟩
     ·exact .inl ⟨h3,fun h=>h2 h.1.symm⟩
     ·exact .inr h3
    ·rintro (⟨h2,h3⟩|⟨h2,h3⟩)
     ·exact ⟨fun h=>h3 ⟨h.symm,rfl⟩,.inl h2⟩
     ·exact ⟨by omega,.inr ⟨h2,h3⟩⟩
theorem aG8 {t:e7} {kind:Int} {z:List Rat} (h:aS5 t kind z):∀k p:Nat,m9 t.ev p=0->t7 t.ev z k p<=0
 |0,p,_=>Rat.le_refl
 |k+1,p,hp=>by
  have ih:=aG8 h k p hp
  cases hx:t.ev.moves[k]? with
  |none=>rw [a91 hx];exact ih
  |some x=>
   have hmo:=B3 (p8 h.tr).1 (lg2 hx)
   have hz:=(h.step k x hx).1.pos
   rw [a2e hx]
   split
   ·grind
   ·split
    ·rename_i hd
     have:=a9t hmo
     rw [hd] at this
     exact absurd hp this
    ·exact ih
theorem au8 {t:e7} {find:Int} {f:L7} (h:b6G t find f) {Z:List Rat} (hZ:aS5 (t8 t) f.kind Z) {i:Nat} (hi:a6R t.ev i) (ho:∀j,a6R t.ev j->j≠i->Z.getD j 0=0) (hp:0<Z.getD f.mv.toNat 0):
 i ∈ K6 t f.kind f.mv.toNat∧(∀ g:Nat,g<t.ev.moves.length->0<Z.getD g 0->g ∈ F6 t f.kind f.mv.toNat)∧(∀ p:Nat,p<t.ev.places.length->0<t7 t.ev Z t.ev.moves.length p->p ∈ D6 t f.kind f.mv.toNat):=by
 have hA:aa0 t f.kind i Z:=⟨hZ,ho⟩
 have hml:=h.ml
 have hor:i ∈ K6 t f.kind f.mv.toNat:=List.mem_filter.2 ⟨L6.2 hi,(a9H h.q h.k0 h.k1 hml).2 ⟨Z,hA,hp⟩⟩
 refine ⟨hor,fun g hg hgp=>aK5.2 ⟨hg,List.any_eq_true.2 ⟨i,hor,(a9H h.q h.k0 h.k1 hg).2 ⟨Z,hA,hgp⟩⟩⟩,fun p hpl hpp=>?_⟩
 refine aF5.2 ⟨hpl,List.any_eq_true.2 ⟨i,hor,(b04 h.q (by omega) h.k0 h.k1 (by omega)).2 ⟨Z,hA,?_⟩⟩⟩
 unfold aS1
 rw [if_neg (by omega),Nat.add_sub_cancel_left,if_neg ?_]
 ·exact hpp
 ·intro hk
  have:=aG8 (t:=t8 t) hZ t.ev.moves.length p hk
  have this:t7 t.ev Z t.ev.moves.length p<=0:=this
  grind
theorem ar1 {P:Program} {g:FuncId} {t:e7} {x y:S} {H H':Hp} {r:S} (h:a9 P g [trS (t8 t),x,y] H r H'):a9 P g [.agg (b1K t),x,y] H r H':=by
 refine a5u h rfl fun w ι M j a b v hx hy hr=>?_
 rcases j with _|_|_|j
 ·injection hx with hx;injection hy with hy;subst hx hy;exact b3H hr
 ·injection hx with hx;injection hy with hy;subst hx hy;exact hr
 ·injection hx with hx;injection hy with hy;subst hx hy;exact hr
 ·simp at hx
def lfB (e:Ev) (Z:List Rat) (i:Nat):Bool:=a1z e i && decide (0<Z.getD i 0)
def lfK (e:Ev) (Z:List Rat):Nat->Int
 |0=>-1
 |k+1=>if lfB e Z k=true then k else lfK e Z k
structure LfI (e:Ev) (Z:List Rat) (k:Nat):Prop where
 u:∀j,j<k->lfB e Z j=true->lfK e Z k=j
 s:lfK e Z k=-1∨∃j:Nat,j<k∧lfB e Z j=true∧lfK e Z k=j
theorem LfI.zero (e:Ev) (Z:List Rat):LfI e Z 0:=⟨fun j hj=>by omega,.inl rfl⟩
theorem LfI.yes {e:Ev} {Z:List Rat} {k:Nat} (h:LfI e Z k) (hk:lfB e Z k=true) (hn:lfK e Z k<0):LfI e Z (k+1):=by
 have e1:lfK e Z (k+1)=k:=by rw [lfK,if_pos hk]
 refine ⟨fun j hj hb=>?_,.inr ⟨k,by omega,hk,e1⟩⟩
 rw [e1]
 by_cases hjk:j=k
 ·rw [hjk]
 ·have:=h.u j (by omega) hb;omega
theorem LfI.no {e:Ev} {Z:List Rat} {k:Nat} (h:LfI e Z k) (hk:lfB e Z k=false):LfI e Z (k+1):=by
 have e1:lfK e Z (k+1)=lfK e Z k:=by rw [lfK,if_neg (by rw [hk];decide)]
 refine ⟨fun j hj hb=>?_,?_⟩
 ·rw [e1]
  by_cases hjk:j=k
  ·subst hjk;rw [hk] at hb;cases hb
  ·exact h.u j (by omega) hb
 ·rw [e1]
  rcases h.s with h1|⟨j,h1,h2⟩
  ·exact .inl h1
  ·exact .inr ⟨j,by omega,h2⟩
theorem aW1 {e:Ev} {Z:List Rat}:∀k,-1<=lfK e Z k∧lfK e Z k<k
 |0=>⟨(show (-1:Int)<=-1 by decide),(show (-1:Int)<0 by decide)⟩
 |k+1=>by
  have ih:=aW1 (e:=e) (Z:=Z) k
  rw [lfK]
  split<;>omega
set_option maxHeartbeats 8000000 in
theorem a5x (t:e7) (find:Int) (z:List Fr):a9 Tryz.prog 11 [trS t,a7 .i64 find,j8 z] [] (f5 true) []:=by
 have sa:=b23
 have sm:=b36 t 7
 have fp:=aQ8 z 10 3 (by decide)
 have m3:(t.finds.map L7.row).length=t.finds.length:=by simp
 cases hsm:a2s t 7 with
 |false=>
  rw [hsm] at sm
  (refine ac Tryz.func11 ?_;(conv=>whnf);repeat ((first|refine b0x ?_|refine zy ?_);conv=>whnf))
  repeat' (first|refine zz ?_|refine qp sa ?_|refine qp sm ?_|refine zd ?_ ?_<;>intro h<;>try omega|refine zy ?_|fail)<;>conv=>whnf
  all_goals first
   |omega
   |exact b9 rfl
 |true=>
 rw [hsm] at sm
 cases hz:a8S z 10 3 with
 |false=>
  rw [hz] at fp
  (refine ac Tryz.func11 ?_;(conv=>whnf);repeat ((first|refine b0x ?_|refine zy ?_);conv=>whnf))
  repeat' (first|refine zz ?_|refine qp sa ?_|refine qp sm ?_|refine qp fp ?_|refine zd ?_ ?_<;>intro h<;>try omega|refine zy ?_|fail)<;>conv=>whnf
  all_goals first
   |omega
   |exact b9 rfl
 |true=>
 rw [hz] at fp
 obtain ⟨s1,s2,s3⟩:=a4V (by decide) hsm
 have ck:=a67 t s1
 cases hf:a0v t find with
 |false=>
  have hn:¬(o9 t=0∧0<=find∧find<t.finds.length):=fun ⟨a,b,c⟩=>by
   unfold a0v at hf;rw [decide_eq_true a,decide_eq_true b,decide_eq_true c] at hf;cases hf
  (refine ac Tryz.func11 ?_;(conv=>whnf);repeat ((first|refine b0x ?_|refine zy ?_);conv=>whnf))
  repeat' (first|refine zz ?_|refine qp sa ?_|refine qp sm ?_|refine qp fp ?_|refine qp ck ?_|refine zd ?_ ?_<;>intro h<;>try omega|refine zy ?_|fail)<;>conv=>whnf
  all_goals first
   |omega
   |exact b9 rfl
 |true=>
 obtain ⟨f,hF⟩:=b5T (by decide) hsm hf
 rw [hF.q.h] at ck
 have fl:=(lg1 hF.hf).1
 have f0:=hF.f0
 have hp:=hF.q.p
 have hm:=hF.q.m
 have h0:=(p8 hF.q.h).1
 have hf2:=hF.hf
 obtain ⟨z1,z2⟩:=ax2 hz
 have mt:=ar1 (b2O (t8 t) f.kind z ⟨s1.ev,by simp [t8],s1.c⟩ (by omega) (fun x hx=>by have:=z2 x hx;omega))
 by_cases hmz:R8 (t8 t) f.kind z≠0
 ·generalize R8 (t8 t) f.kind z=E at mt hmz
  (refine ac Tryz.func11 ?_;(conv=>whnf);repeat ((first|refine b0x ?_|refine zy ?_);conv=>whnf))
  repeat' (first|refine zz ?_|refine qp sa ?_|refine qp sm ?_|refine qp fp ?_|refine qp ck ?_|refine qp mt ?_|refine p4 f0 hf2 ?_|refine zd ?_ ?_<;>intro h<;>try omega|refine zy ?_|fail)<;>conv=>whnf
  all_goals first
   |omega
   |exact b9 rfl
 have hmz:R8 (t8 t) f.kind z=0:=Decidable.not_not.1 hmz
 rw [hmz] at mt
 obtain ⟨Z,rfl,hZ⟩:=aB2.1 hmz
 have zl:Z.length=t.ev.moves.length:=hZ.len
 have rZ:∀v ∈ Z,rl v<=3:=b7I (d:=3) z2
 have m1:((Z.map fz).map j5).length=t.ev.moves.length:=by simp [zl]
 have m2:(t.ev.places.map C8.row).length=t.ev.places.length:=by simp
 (refine ac Tryz.func11 ?_;(conv=>whnf);repeat ((first|refine b0x ?_|refine zy ?_);conv=>whnf))
 repeat' (first|refine zz ?_|refine qp sa ?_|refine qp sm ?_|refine qp fp ?_|refine qp ck ?_|refine qp mt ?_|refine p4 f0 hf2 ?_|refine zd ?_ ?_<;>intro h<;>try omega|refine zy ?_|fail)<;>conv=>whnf
 all_goals try omega
 refine d6 c8 (fun k=>([J,a7 .i64 find,j8 (Z.map fz),S.c (C.t (T.ptr (trT t))),J,J,J,f5 true,J,a7 .i64 (lfK t.ev Z k),a7 .i64 k,J,J,J,J,J,J,J,J,J,J,J,J,J,J,J,J,J,J,J,J,J,J,J,J,J,J,J,J,J,J,J,J,J,J,J,J,J,J,J,J,J,J,J,J,J,J,J,J,J,J,J,J,J,J,J,J,J,J,J,J,J,J,J,J,J,J,J,J,J,J,J,J,J,J,J,J,J,J,J,J,J,J,J,J,J,J,J,J,J,J,J,J,J,J,J,J,J,J,J,J,J,J,J,J,J,J,J,J,J,J,J,J,J,J,J,J,J,J,J,J,J,J,J,J,J,J,J,J,J,J,J,J,J,J,J,J,J,J,J,J,J,J,J,J,J,J,J,J,J,J,J,J,J,J,J,J,J,J,J,J,J,J,J,J,J,J,J,J,J,J,J,J,J,J,J,J,J,J,J,J,J,J,J,J,J,J,J,J,J,J,J,J,J,J,J,J,J,J,J,J,J,J,J,J,J,J,J,J,J,J],[])) t.ev.moves.length (LfI t.ev Z) [] (LfI.zero _ _)
  ⟨rfl,rfl,trivial,⟨rfl,rfl,rfl,rfl,rfl,rfl,trivial⟩⟩ ?_
 intro k hk hI
 have lw:=aW1 (e:=t.ev) (Z:=Z) k
 by_cases hlt:k<t.ev.moves.length
 ·obtain ⟨v,hv⟩:∃v,Z[k]? =some v:=⟨_,lg0 (by omega)⟩
  have gv:(Z.map fz)[k]? =some (fz v):=by rw [List.getElem?_map,hv];rfl
  have hvd:Z.getD k 0=v:=by rw [lg3,hv];rfl
  have lf:=a8C t.ev h0 k hlt
  have sg:=a0S v (by have:=rZ v (lg2 hv);omega)
  have hlb:lfB t.ev Z k=(a1z t.ev k && decide (sgR v > 0)):=by
   unfold lfB
   rw [hvd]
   congr 1
   rw [decide_eq_decide];exact a3Z.symm
  generalize sgR v=V at sg hlb
  cases hl:a1z t.ev k with
  |false=>
   rw [hl] at lf hlb
   have hI':=hI.no hlb
   have e1:lfK t.ev Z (k+1)=lfK t.ev Z k:=by rw [lfK,if_neg (by rw [hlb];simp)]
   conv=>whnf
   repeat' (first|refine zz ?_|refine qp lf ?_|refine qp sg ?_|refine b8 gv ?_|refine zd ?_ ?_<;>intro h<;>try omega|refine zy ?_|fail)<;>conv=>whnf
   all_goals first
    |omega
    |exact ⟨hlt,hI',[],rfl,rfl,trivial,⟨rfl,rfl,rfl,rfl,c6 e1.symm,c6 (by omega),trivial⟩⟩
  |true=>
   rw [hl,Bool.true_and] at hlb
   rw [hl] at lf
   by_cases hV:V > 0
   ·rw [decide_eq_true hV] at hlb
    have e1:lfK t.ev Z (k+1)=k:=by rw [lfK,if_pos hlb]
    conv=>whnf
    repeat' (first|refine zz ?_|refine qp lf ?_|refine qp sg ?_|refine b8 gv ?_|refine zd ?_ ?_<;>intro h<;>try omega|refine zy ?_|fail)<;>conv=>whnf
    all_goals first
     |omega
     |exact b9 rfl
     |exact ⟨hlt,hI.yes hlb (by omega),[],rfl,rfl,trivial,⟨rfl,rfl,rfl,rfl,c6 e1.symm,c6 (by omega),trivial⟩⟩
   ·rw [decide_eq_false hV] at hlb
    have e1:lfK t.ev Z (k+1)=lfK t.ev Z k:=by rw [lfK,if_neg (by rw [hlb];simp)]
    conv=>whnf
    repeat' (first|refine zz ?_|refine qp lf ?_|refine qp sg ?_|refine b8 gv ?_|refine zd ?_ ?_<;>intro h<;>try omega|refine zy ?_|fail)<;>conv=>whnf
    all_goals first
     |omega
     |exact ⟨hlt,hI.no hlb,[],rfl,rfl,trivial,⟨rfl,rfl,rfl,rfl,c6 e1.symm,c6 (by omega),trivial⟩⟩
 have hke:k=t.ev.moves.length:=by omega
 subst hke
 obtain ⟨vm,hvm⟩:∃v,Z[f.mv.toNat]? =some v:=⟨_,lg0 (by have:=hF.ml;omega)⟩
 have gm:(Z.map fz)[f.mv.toNat]? =some (fz vm):=by rw [List.getElem?_map,hvm];rfl
 have hmd:Z.getD f.mv.toNat 0=vm:=by rw [lg3,hvm];rfl
 have hm0:=hF.m0
 have sm2:=a0S vm (by have:=rZ vm (lg2 hvm);omega)
 by_cases hq:lfK t.ev Z t.ev.moves.length<0∨sgR vm=0
 ·generalize sgR vm=V at sm2 hq
  conv=>whnf
  repeat' (first|refine zz ?_|refine qp sm2 ?_|refine p4 f0 hf2 ?_|refine p4 hm0 gm ?_|refine zd ?_ ?_<;>intro h<;>try omega|refine zy ?_|fail)<;>conv=>whnf
  all_goals first
   |omega
   |exact b9 rfl
 have hq1:¬lfK t.ev Z t.ev.moves.length<0:=fun h=>hq (.inl h)
 have hq2:sgR vm≠0:=fun h=>hq (.inr h)
 obtain ⟨i,i1,i2,i3⟩:∃j:Nat,j<t.ev.moves.length∧lfB t.ev Z j=true∧lfK t.ev Z t.ev.moves.length=j:=by
  rcases hI.s with h|h
  ·omega
  ·exact h
 obtain ⟨x0,hx0⟩:∃x,t.ev.moves[f.mv.toNat]? =some x:=⟨_,lg0 hF.ml⟩
 have hmp:0<Z.getD f.mv.toNat 0:=by
  rw [hmd]
  have h1:=(hZ.step f.mv.toNat x0 hx0).1.pos
  rw [hmd] at h1
  have h2:vm≠0:=fun h=>hq2 (a1X.2 h)
  grind
 have lB:∀j,a6R t.ev j↔a1z t.ev j=true:=fun j=>by
  unfold a1z;rw [decide_eq_true_eq];exact L6.symm
 obtain ⟨r1,r2,r3⟩:=au8 hF hZ (i:=i) ((lB i).2 (by unfold lfB at i2;exact ((Bool.and_eq_true _ _).mp i2).1)) (fun j hj hji=>by
  obtain ⟨xj,hxj,_⟩:=hj
  have hpos:=(hZ.step j xj hxj).1.pos
  have hno:¬0<Z.getD j 0:=fun hp=>by
   have:=hI.u j (lg1 hxj).1 (by unfold lfB;rw [(lB j).1 ⟨xj,hxj,‹_›⟩,decide_eq_true hp];rfl)
   omega
  grind) hmp
 have og:=a4j t s1 hF.q find f hF.f0 hF.hf
 have lo:=ac1 t s1 hF.q find f hF.f0 hF.hf
 have lO:(C9 (K6 t f.kind f.mv.toNat)).length<=8:=by
  rw [a0Q]
  have a:(K6 t f.kind f.mv.toNat).length<=(i5 t.ev).length:=List.length_filter_le _ _
  have b:(i5 t.ev).length<=t.ev.moves.length:=x7 _
  omega
 have lM:(C9 (F6 t f.kind f.mv.toNat)).length<=28:=by rw [a0Q];have:=a54 t f.kind f.mv.toNat (t.ev.moves.length+t.ev.places.length);show (L0 _ _ _ _).length<=_;omega
 have lP:(C9 (D6 t f.kind f.mv.toNat)).length<=28:=by rw [a0Q];have:=a7N t f.kind f.mv.toNat (t.ev.moves.length+t.ev.places.length);show (E0 _ _ _ _).length<=_;omega
 have hO:=aN7 (C9 (K6 t f.kind f.mv.toNat)) i (by omega)
 rw [a9M,decide_eq_true r1] at hO
 rw [i3]
 have hMg:∀g:Nat,g<t.ev.moves.length->0<Z.getD g 0->a9 Tryz.prog 40 [d8 (C9 (F6 t f.kind f.mv.toNat)),a7 .i64 g] [] (f5 true) []:=fun g h1 h2=>by
  have h:=aN7 (C9 (F6 t f.kind f.mv.toNat)) g (by omega)
  rwa [a9M,decide_eq_true (r2 g h1 h2)] at h
 have hPg:∀p:Nat,p<t.ev.places.length->0<t7 t.ev Z t.ev.moves.length p->a9 Tryz.prog 40 [d8 (C9 (D6 t f.kind f.mv.toNat)),a7 .i64 p] [] (f5 true) []:=fun p h1 h2=>by
  have h:=aN7 (C9 (D6 t f.kind f.mv.toNat)) p (by omega)
  rwa [a9M,decide_eq_true (r3 p h1 h2)] at h
 generalize C9 (K6 t f.kind f.mv.toNat)=O at *
 generalize C9 (F6 t f.kind f.mv.toNat)=M at *
 generalize C9 (D6 t f.kind f.mv.toNat)=P at *
 generalize sgR vm=V at sm2 hq2
 generalize hN:t.ev.places.length=N at *
 have i0:=a2b 0 (by decide) (by decide)
 conv=>whnf
 repeat' (first|refine zz ?_|refine qp sm2 ?_|refine qp og ?_|refine qp lo ?_|refine qp hO ?_|refine p4 f0 hf2 ?_|refine p4 hm0 gm ?_|refine a2q (by omega) (by omega) (by omega) (by decide) ?_|refine zd ?_ ?_<;>intro h<;>try omega|refine zy ?_|fail)<;>conv=>whnf
 all_goals try omega
 refine d6 c8 (fun k=>([J,J,j8 (Z.map fz),S.c (C.t (T.ptr (trT t))),J,J,J,f5 true,J,J,J,J,J,d8 M,d8 P,J,S.c (C.own 0 0 N true),a7 .i64 k,J,J,J,J,J,J,J,J,J,J,J,J,J,J,J,J,J,J,J,J,J,J,J,J,J,J,J,J,J,J,J,J,J,J,J,J,J,J,J,J,J,J,J,J,J,J,J,J,J,J,J,J,J,J,J,J,J,J,J,J,J,J,J,J,J,J,J,J,J,J,J,J,J,J,J,J,J,J,J,J,J,J,J,J,J,J,J,J,J,J,J,J,J,J,J,J,J,J,J,J,J,J,J,J,J,J,J,J,J,J,J,J,J,J,J,J,J,J,J,J,J,J,J,J,J,J,J,J,J,J,J,J,J,J,J,J,J,J,J,J,J,J,J,J,J,J,J,J,J,J,J,J,J,J,J,J,J,J,J,J,J,J,J,J,J,J,J,J,J,J,J,J,J,J,J,J,J,J,J,J,J,J,J,J,J,J,J,J,J,J,J,J,J,J,J,J,J,J,J,J,J,J,J],[flB (pZ k N)])) N (fun _=>True) [some 0] trivial
  ⟨rfl,rfl,⟨⟨rfl,rfl,rfl,.inr (a6z ?_ ?_)⟩,trivial⟩,⟨rfl,rfl,rfl,rfl,rfl,⟨rfl,rfl,by omega,fun h=>h⟩,rfl,trivial⟩⟩ ?_
 ·first
   |(simp [C4,toC,a6H];done)
   |(simp [C4,toC,a6H];omega)
 ·intro i x y hx hy
  simp only [C4,List.getElem?_replicate] at hx
  split at hx
  ·rename_i hi
   injection hx with hx
   subst hx
   have hy:(toC ((pZ 0 N).map j5))[i]? =some y:=hy
   rw [toC,List.getElem?_map,List.getElem?_map,a7e (by omega),if_neg (by omega)] at hy
   injection hy with hy
   subst hy
   exact ⟨rfl,rfl,rfl,rfl,trivial⟩
  ·cases hx
 intro k hk _
 by_cases hlt:k<N
 ·obtain ⟨pf,hpf⟩:∃pf,(pZ k N)[k]? =some pf:=⟨_,a7e hlt⟩
  have gp:(pZ k N)[0+(k:Int).toNat]? =some pf:=by rw [Nat.zero_add,show (k:Int).toNat=k by omega];exact hpf
  have eM:0+(k:Int).toNat=k:=by omega
  conv=>whnf
  repeat' (first|refine zz ?_|refine qp i0 ?_|refine j6 gp ?_|refine zd ?_ ?_<;>intro h<;>try omega|refine zy ?_|fail)<;>conv=>whnf
  all_goals first
   |omega
   |(refine ⟨hlt,trivial,[some 0],rfl,rfl,⟨a8 (rows:=(pZ (k+1) N).map j5) rfl rfl rfl ?_ rfl,trivial⟩,⟨rfl,rfl,rfl,rfl,rfl,⟨rfl,rfl,rfl,fun h=>h⟩,c6 (by omega),trivial⟩⟩
     have e:=F0 (row:=pZ k N) (y:=fz 0) eM
     rw [b4l hlt] at e
     exact congrArg Blk.rows e)
 have hke:k=N:=by omega
 subst hke
 have z0:pZ k k=rF k (fun p=>t7 t.ev Z 0 p):=b2m k
 rw [z0]
 have bS:∀j p,j<=7->rl (t7 t.ev Z j p)<=29:=fun j p hj=>by
  have h1:=aJ4 (e:=t.ev) (H:=col Z) (B:=3) (fun l hl x hx=>by
   obtain ⟨v,hv,rfl⟩:=List.mem_map.1 hl
   rw [List.mem_singleton] at hx;subst hx;exact rZ _ hv) (by decide) j p 0
  have h2:j*(3+1)<=7*4:=Nat.mul_le_mul hj (by decide)
  show rl (stk t.ev (col Z) j p 0)<=29
  omega
 conv=>whnf
 repeat' (first|refine zz ?_|refine zd ?_ ?_<;>intro h<;>try omega|refine zy ?_|fail)<;>conv=>whnf
 all_goals try omega
 refine d6 c8 (fun j=>([J,J,j8 (Z.map fz),S.c (C.t (T.ptr (trT t))),J,J,J,f5 true,J,J,J,J,J,d8 M,d8 P,J,S.c (C.own 0 0 k true),J,a7 .i64 j,J,J,J,J,J,J,J,J,J,J,J,J,J,J,J,J,J,J,J,J,J,J,J,J,J,J,J,J,J,J,J,J,J,J,J,J,J,J,J,J,J,J,J,J,J,J,J,J,J,J,J,J,J,J,J,J,J,J,J,J,J,J,J,J,J,J,J,J,J,J,J,J,J,J,J,J,J,J,J,J,J,J,J,J,J,J,J,J,J,J,J,J,J,J,J,J,J,J,J,J,J,J,J,J,J,J,J,J,J,J,J,J,J,J,J,J,J,J,J,J,J,J,J,J,J,J,J,J,J,J,J,J,J,J,J,J,J,J,J,J,J,J,J,J,J,J,J,J,J,J,J,J,J,J,J,J,J,J,J,J,J,J,J,J,J,J,J,J,J,J,J,J,J,J,J,J,J,J,J,J,J,J,J,J,J,J,J,J,J,J,J,J,J,J,J,J,J,J,J,J,J,J],[flB (rF k fun p=>t7 t.ev Z j p)])) t.ev.moves.length (fun _=>True) [some 0] trivial
  ⟨rfl,rfl,⟨c9 (c7 _),trivial⟩,⟨rfl,rfl,rfl,rfl,rfl,⟨rfl,rfl,rfl,fun h=>h⟩,rfl,trivial⟩⟩ ?_
 intro j hj _
 by_cases hlt:j<t.ev.moves.length
 ·obtain ⟨v,hv⟩:∃v,Z[j]? =some v:=⟨_,lg0 (by omega)⟩
  have gv:(Z.map fz)[j]? =some (fz v):=by rw [List.getElem?_map,hv];rfl
  have hvd:Z.getD j 0=v:=by rw [lg3,hv];rfl
  have rv:=rZ v (lg2 hv)
  have sg:=a0S v (by omega)
  obtain ⟨x,hx⟩:∃x,t.ev.moves[j]? =some x:=⟨_,lg0 hlt⟩
  have hmo:=B3 h0 (lg2 hx)
  have msr:=O4 hmo
  have mds:=a10 hmo
  have mne:=aj7 hmo
  have g1:(rF k fun p=>t7 t.ev Z j p)[0+x.dst.toNat]? =some (fz (t7 t.ev Z j x.dst.toNat)):=by rw [Nat.zero_add];exact B9 (by omega)
  have g2:(rF k fun p=>t7 t.ev Z j p)[0+x.src.toNat]? =some (fz (t7 t.ev Z j x.src.toNat)):=by rw [Nat.zero_add];exact B9 (by omega)
  have b1:=bS j x.dst.toNat (by omega)
  have b2:=bS j x.src.toNat (by omega)
  have ad:=aG9 (t7 t.ev Z j x.dst.toNat) v (by omega) (by omega)
  have sb:=b6E (t7 t.ev Z j x.src.toNat) v (by omega) (by omega)
  have eN:((rF k fun p=>t7 t.ev Z j p).set x.dst.toNat (fz (t7 t.ev Z j x.dst.toNat+v))).set x.src.toNat (fz (t7 t.ev Z j x.src.toNat - v))=rF k fun p=>t7 t.ev Z (j+1) p:=by
   rw [L2 (s:=x.dst.toNat) (by omega),L2 (s:=x.src.toNat) (by omega)]
   refine u4 fun p hp=>?_
   rw [a2e hx,hvd]
   by_cases c1:p=x.src.toNat
   ·rw [if_pos c1,if_pos (show x.src=(p:Int) by omega),c1]
   ·rw [if_neg c1,if_neg (show ¬x.src=(p:Int) by omega)]
    by_cases c2:p=x.dst.toNat
    ·rw [if_pos c2,if_pos (show x.dst=(p:Int) by omega),c2]
    ·rw [if_neg c2,if_neg (show ¬x.dst=(p:Int) by omega)]
  by_cases hV:sgR v > 0
  ·have hM:=hMg j hlt (by rw [hvd];exact a3Z.1 hV)
   rw [← eN]
   generalize sgR v=W at sg hV
   generalize rF k (fun p=>t7 t.ev Z j p)=R at *
   conv=>whnf
   repeat' (first|refine zz ?_|refine qp sg ?_|refine qp hM ?_|refine qp ad ?_|refine qp sb ?_|refine qp 12 ?_|refine b8 gv ?_|refine b8 hx ?_|refine j6 g1 ?_|refine j6 g2 ?_|refine a0g (by omega) g2 ?_|refine bl0 [12] ?_|refine zd ?_ ?_<;>intro h<;>try omega|refine zy ?_|fail)<;>conv=>whnf
   all_goals first
    |omega
    |(refine ⟨hlt,trivial,[some 0],rfl,rfl,⟨a8 (rows:=((R.set x.dst.toNat (fz (t7 t.ev Z j x.dst.toNat+v))).set x.src.toNat (fz (t7 t.ev Z j x.src.toNat - v))).map j5) rfl rfl rfl ?_ rfl,trivial⟩,⟨rfl,rfl,rfl,rfl,rfl,⟨rfl,rfl,rfl,fun h=>h⟩,c6 (by omega),trivial⟩⟩
      simp [toC,s8,List.map_set,j5])
  ·rw [← eN]
   generalize sgR v=W at sg hV
   generalize rF k (fun p=>t7 t.ev Z j p)=R at *
   conv=>whnf
   repeat' (first|refine zz ?_|refine qp sg ?_|refine qp ad ?_|refine qp sb ?_|refine qp 12 ?_|refine b8 gv ?_|refine b8 hx ?_|refine j6 g1 ?_|refine j6 g2 ?_|refine a0g (by omega) g2 ?_|refine bl0 [12] ?_|refine zd ?_ ?_<;>intro h<;>try omega|refine zy ?_|fail)<;>conv=>whnf
   all_goals first
    |omega
    |(refine ⟨hlt,trivial,[some 0],rfl,rfl,⟨a8 (rows:=((R.set x.dst.toNat (fz (t7 t.ev Z j x.dst.toNat+v))).set x.src.toNat (fz (t7 t.ev Z j x.src.toNat - v))).map j5) rfl rfl rfl ?_ rfl,trivial⟩,⟨rfl,rfl,rfl,rfl,rfl,⟨rfl,rfl,rfl,fun h=>h⟩,c6 (by omega),trivial⟩⟩
      simp [toC,s8,List.map_set,j5])
 have hke:j=t.ev.moves.length:=by omega
 subst hke
 conv=>whnf
 repeat' (first|refine zz ?_|refine zd ?_ ?_<;>intro h<;>try omega|refine zy ?_|fail)<;>conv=>whnf
 all_goals try omega
 refine d6 c8 (fun p=>([J,J,J,J,J,J,J,f5 true,J,J,J,J,J,J,d8 P,J,S.c (C.own 0 0 k true),J,J,J,J,J,J,J,a7 .i64 p,J,J,J,J,J,J,J,J,J,J,J,J,J,J,J,J,J,J,J,J,J,J,J,J,J,J,J,J,J,J,J,J,J,J,J,J,J,J,J,J,J,J,J,J,J,J,J,J,J,J,J,J,J,J,J,J,J,J,J,J,J,J,J,J,J,J,J,J,J,J,J,J,J,J,J,J,J,J,J,J,J,J,J,J,J,J,J,J,J,J,J,J,J,J,J,J,J,J,J,J,J,J,J,J,J,J,J,J,J,J,J,J,J,J,J,J,J,J,J,J,J,J,J,J,J,J,J,J,J,J,J,J,J,J,J,J,J,J,J,J,J,J,J,J,J,J,J,J,J,J,J,J,J,J,J,J,J,J,J,J,J,J,J,J,J,J,J,J,J,J,J,J,J,J,J,J,J,J,J,J,J,J,J,J,J,J,J,J,J,J,J,J,J,J,J,J],[flB (rF k fun p=>t7 t.ev Z t.ev.moves.length p)])) k (fun _=>True) [some 0] trivial
  ⟨rfl,rfl,⟨c9 (c7 _),trivial⟩,⟨rfl,rfl,⟨rfl,rfl,rfl,fun h=>h⟩,rfl,trivial⟩⟩ ?_
 intro p hp2 _
 by_cases hlt:p<k
 ·have g1:(rF k fun p=>t7 t.ev Z t.ev.moves.length p)[0+(p:Int).toNat]? =some (fz (t7 t.ev Z t.ev.moves.length p)):=by rw [Nat.zero_add,Int.toNat_natCast];exact B9 hlt
  have b1:=bS t.ev.moves.length p (by omega)
  have sg:=a0S (t7 t.ev Z t.ev.moves.length p) (by omega)
  have hP:=hPg p hlt
  rw [← a3Z] at hP
  generalize t7 t.ev Z t.ev.moves.length p=w at sg hP g1
  generalize sgR w=W at sg hP
  by_cases hW:W > 0
  ·have hP2:=hP hW
   conv=>whnf
   repeat' (first|refine zz ?_|refine qp sg ?_|refine qp hP2 ?_|refine j6 g1 ?_|refine zd ?_ ?_<;>intro h<;>try omega|refine zy ?_|fail)<;>conv=>whnf
   all_goals first
    |omega
    |exact ⟨hlt,trivial,[some 0],rfl,rfl,⟨c9 (c7 _),trivial⟩,⟨rfl,rfl,⟨rfl,rfl,rfl,fun h=>h⟩,c6 (by omega),trivial⟩⟩
  ·conv=>whnf
   repeat' (first|refine zz ?_|refine qp sg ?_|refine j6 g1 ?_|refine zd ?_ ?_<;>intro h<;>try omega|refine zy ?_|fail)<;>conv=>whnf
   all_goals first
    |omega
    |exact ⟨hlt,trivial,[some 0],rfl,rfl,⟨c9 (c7 _),trivial⟩,⟨rfl,rfl,⟨rfl,rfl,rfl,fun h=>h⟩,c6 (by omega),trivial⟩⟩
 have hke:p=k:=by omega
 subst hke
 conv=>whnf
 repeat' (first|refine zz ?_|refine zd ?_ ?_<;>intro h<;>try omega|refine zy ?_|fail)<;>conv=>whnf
 all_goals first
  |omega
  |exact b9 rfl
section
open Go.RowKit Go.ChangeShapes Go.WideShapes Go.Deep
section
variable {H:Type} {enc:TypeId × Value->H} {P:Program}
theorem ae2 (hl:laidOutB P=true) {W W':World} {sp:Nat->Bool}:∀{ts:List TypeId} {vs:List Value} {ds:List (DataW H)} {ps:List MemPlace},(∀ t ∈ ts,P.readableRec t=true∧t<P.types.size)->
 DataW.TrodAll enc P W 0 (fun _=>true) true ts vs ds ps->(∀ p ∈ ps,W.sameAt W' p)->(∀ p ∈ ps,sp p.block=true)->DataW.TrodAll enc P W' 0 sp true ts vs ds ps:=by
 intro ts
 induction ts with
 |nil=>
  intro vs ds ps _ h _ _
  obtain ⟨rfl,rfl,rfl⟩:=trodAll_nil h
  exact trodAll_mk0
 |cons t ts ih=>
  intro vs ds ps hr h hsame hs
  obtain ⟨v,vs',d,ds',p,q,rfl,rfl,rfl,h1,h2⟩:=trodAll_cons h
  obtain ⟨ht,hlt⟩:=hr t (by simp)
  exact trodAll_cons_mk (WideElems.Trod_stays hl ht hlt h1 (fun x hx=>hsame x (by simp [hx])) (fun x hx=>hs x (by simp [hx]))) (ih (fun t ht=>hr t (by simp [ht])) h2 (fun x hx=>hsame x (by simp [hx])) (fun x hx=>hs x (by simp [hx])))
theorem b31 {f:Func} {s:ChangeSpec} {fresh handsOn:Bool} {W W':World} {args:Array Value} {ds gs:List (DataW H)} {before:List MemPlace} {tb:TypeId}
 (hW:DataW.Whole enc P f.params.toList s.vars false W args.toList ds gs before) (hl:laidOutB P=true) (hr:∀t ∈ f.params.toList,P.readableRec t=true∧t<P.types.size) (hv:s.vars=[])
 (hfn:s.fn H (ds++gs)={ results:=[.lit (.bool true)],args:=ds }) (hres:f.resultTypes=#[tb]) (hbool:P.underlying tb=some .bool) (hb:Below W.heap.size W W'):
 s.post enc P f false fresh handsOn false W args (.bool true) W':=by
 have hW':=hW
 obtain ⟨p,q,hA,hV,rfl,hfz,hnd⟩:=hW
 rw [hv] at hV
 obtain ⟨rfl,rfl⟩:=trodVars_none hV
 have hlt:∀x ∈ p,x.block<W.heap.size:=fun x hx=>by have:=hW'.lt x (by simpa using hx);simpa using this
 refine ⟨ds,[],p++[],[],p,[],hW',?_,?_,?_,hb.frame _,fun h=>by cases h⟩
 ·rw [hfn,hres]
  exact trodAll_mk1 (shut_bool hbool true)
 ·rw [hfn]
  exact ae2 hl hr hA (fun x hx=>hb.same (hlt x hx)) (fun x hx=>by simpa using hlt x hx)
 ·rw [hv,hfn]
  exact rfl
variable {w:World} {base:Nat} {spare:Nat->Bool} {held:Bool}
end
end
section
open Go.RowKit Go.ChangeShapes Go.WideShapes Go.Deep
section
variable {H:Type} {enc:TypeId × Value->H} {w:World} {base:Nat} {spare:Nat->Bool} {held:Bool}
end
theorem b5v:ownKnob Tryz.prog.godebug=none:=by kernel_rfl
theorem b3U:laidOutB Tryz.prog=true:=by kernel_rfl
end
theorem b7P {w:World} {n:Int}:RS w (fun _=>none) (fun _=>False) (a7 .i64 n) (.int .i64 n):=RS.int
inductive ai8 (w:World):List S->List Value->Prop
 |nil:ai8 w [] []
 |cons {s:S} {v:Value} {ss:List S} {vs:List Value} (h:RS w (fun _=>none) (fun _=>False) s v) (hs:ai8 w ss vs):ai8 w (s::ss) (v::vs)
theorem ai8.get {w:World} {ss:List S} {vs:List Value} (h:ai8 w ss vs):vs.length=ss.length∧∀(j:Nat) (s:S),ss[j]? =some s->RS w (fun _=>none) (fun _=>False) s (vs.getD j undef):=by
 induction h with
 |nil=>exact ⟨rfl,by simp⟩
 |cons h hs ih=>
  refine ⟨by simp [ih.1],fun j s hj=>?_⟩
  cases j with
  |zero=>simp at hj;subst hj;exact h
  |succ j=>simpa using ih.2 j s (by simpa using hj)
theorem ao5 {P:Program} {g:FuncId} {ss:List S} {b:Bool} (h:a9 P g ss [] (f5 b) []) {w:World} {vs:List Value} (ha:ai8 w ss vs):
 Calls P g vs.toArray w fun e w'=>e=.returned (.bool b)∧Below w.heap.size w w':=by
 obtain ⟨h1,h2⟩:=ha.get
 refine Calls.mono (h.2 w (fun _=>none) (fun _=>False) vs h1 h2 ⟨by simp,by simp,by simp,by simp,by simp⟩ (fun _ h=>h.elim) (fun _ _=>rfl)) ?_
 rintro e w' ⟨v,rfl,ι',M',q1,q2,q3,q4,q5⟩
 rw [q1.inv_atm]
 exact ⟨rfl,q5.os,q5.tape,q5.output,q5.size,fun k hk=>q5.keep k hk (by rintro ⟨id,k,_,_,hk,_⟩;simp at hk)⟩
open Go.RowKit Go.ChangeShapes Go.WideShapes Go.ChangeAt
theorem b1b {P:Program} {f:FuncId} {fn:Func} {s:ChangeSpec} {c:OpenClaim}
 (h1:c.wf (OpenSpec.ofChange s)=true) (h2:laidOutB P=true) (h3:mapsRowed P=true) (h4:fn.params.all (P.readableRec ·)=true) (h5:namedTie P c.named s.vars=true)
 (h6:(c.stops == [])=true) (h7:(P.stops == [])=true) (h8:(c.knobs == [])=true) (h9:(P.stopKnobs == [])=true)
 (h10:(c.inPlace == P.inPlace f)=true) (h11:(c.unfollowed == P.unfollowed f)=true) (h12:(c.recurses == P.recurses f)=true) (h13:(c.named == P.varsNamed f)=true)
 (h14:(c.maps == (fn.params.toList++s.plain.varTypes P).any (P.mapsRec ·))=true) (h15:(c.ifaces == (fn.params.toList++s.plain.varTypes P).any (P.ifacesRec ·))=true) (h16:(c.mapsOut == P.mapsAmong fn.resultTypes.toList)=true)
 (h17:(c.loops == (fn.params.toList++s.plain.varTypes P).any (P.loopsFrom ·))=true) (h18:(c.wideKeys == (fn.params.toList++s.plain.varTypes P++fn.resultTypes.toList).any (P.wideKeysFrom ·))=true)
 (h19:s.vars.all (P.varReadable ·)=true) (h20:fn.resultTypes.all (fun t=>P.readableRec t && decide (t<P.types.size))=true) (h21:(c.ifacesOut == fn.resultTypes.toList.any (P.ifacesRec ·))=true) (h22:(c.loopsOut == fn.resultTypes.toList.any (P.loopsFrom ·))=true)
 (h23:(c.plainKeys == P.plainKeys)=true) (h24:c.shortTexts.isNone=true) (h25:P.stopsHeard=true) (h26:P.mayEnter=true) (h27:(c.lifted == P.liftsFinal)=true) (h28:(P.make == some c.make)=true)
 (h29:c.domain.isEmpty=true) (h29b:(c.kinds == [])=true) (h30:(c.pinned == c.pinnedBy)=true)
 (h31:(c.veiled == (fn.params.toList++s.plain.varTypes P++fn.resultTypes.toList).any (P.veiledRec ·))=true) (h32:c.veiledFits P fn.params.toList (fn.params.toList++s.plain.varTypes P++fn.resultTypes.toList)=true):
 joinedFacts P f fn s c=true:=by
 unfold joinedFacts
 rw [h1,h2,h3,h4,h5,h6,h7,h8,h9,h10,h11,h12,h13,h14,h15,h16,h17,h18,h19,h20,h21,h22,h23,h24,h25,h26,h27,h28,if_pos h29,h29b,h30,h31,h32]
 rfl
theorem b5M:laidOutB Tryz.pinned.checked.prog=true:=by kernel_rfl
theorem b5e:mapsRowed Tryz.pinned.checked.prog=true:=by kernel_rfl
theorem b4P:Tryz.pinned.checked.prog.plainKeys=true:=by kernel_rfl
theorem b3d:Tryz.pinned.checked.prog.stopsHeard=true:=by kernel_rfl
theorem b3I:Tryz.pinned.checked.prog.mayEnter=true:=by kernel_rfl
theorem b5G:(Rows.sourceTrueRow.lifted == Tryz.pinned.checked.prog.liftsFinal)=true:=by kernel_rfl
theorem b5b:(Tryz.pinned.checked.prog.make == some Rows.sourceTrueRow.make)=true:=by kernel_rfl
section
open Go.RowKit Go.ChangeShapes Go.WideShapes Go.Deep
inductive Sh where
 |int (k:IntKind)
 |bool
 |sl (row:List Sh)
inductive Fit:Sh->T->Prop
 |int {k:IntKind} {n:Int} (h:(Lit.int k n).wf=true):Fit (.int k) (.atm (.int k n))
 |bool {b:Bool}:Fit .bool (.atm (.bool b))
 |sl {row:List Sh} {rows:List (List T)} (hl:∀r ∈ rows,r.length=row.length) (h:∀r ∈ rows,∀(j:Nat) (s:Sh) (t:T),row[j]? =some s->r[j]? =some t->Fit s t):Fit (.sl row) (.sl row.length .any rows)
inductive C0 (P:Program):TypeId->List Sh->Prop
 |int {t:TypeId} {k:IntKind} (h:P.underlying t=some (.int k)):C0 P t [.int k]
 |bool {t:TypeId} (h:P.underlying t=some .bool):C0 P t [.bool]
 |sl {t e:TypeId} {row:List Sh} (h:P.underlying t=some (.slice e)) (hc:P.cellsOf e=row.length) (hp:0<row.length) (he:C0 P e row):C0 P t [.sl row]
 |struct {t:TypeId} {fs:Array Field} (parts:List (List Sh)) (h:P.underlying t=some (.struct fs)) (hl:parts.length=fs.size)
   (ho:∀(i:Nat) (f:Field) (p:List Sh),fs[i]? =some f->parts[i]? =some p->f.offset=(parts.take i).flatten.length∧P.cellsOf f.type=p.length)
   (hc:P.cellsOf t=parts.flatten.length)
   (he:∀(i:Nat) (f:Field) (p:List Sh),fs[i]? =some f->parts[i]? =some p->C0 P f.type p):C0 P t parts.flatten
section
variable {H:Type} {enc:TypeId × Value->H} {P:Program} {w:World} {base:Nat} {spare:Nat->Bool} {held:Bool}
def aq0 (w:World) (shs:List Sh) (cs:List Value):Prop:=
 cs.length=shs.length∧∃ts:List T,ts.length=shs.length∧∀(j:Nat) (s:Sh),shs[j]? =some s->∃u t,cs[j]? =some u∧ts[j]? =some t∧RT w (fun _=>False) t u∧Fit s t
theorem a9Q {α:Type}:∀(parts:List (List α)) (j:Nat) (x:α),parts.flatten[j]? =some x->∃i p k,parts[i]? =some p∧p[k]? =some x∧j=(parts.take i).flatten.length+k
 |[],j,x,h=>by simp at h
 |p::r,j,x,h=>by
  rw [List.flatten_cons] at h
  by_cases hj:j<p.length
  ·rw [List.getElem?_append_left hj] at h
   exact ⟨0,p,j,rfl,h,by simp⟩
  ·rw [List.getElem?_append_right (by omega)] at h
   obtain ⟨i,q,k,h1,h2,h3⟩:=a9Q r _ x h
   exact ⟨i+1,q,k,by simpa using h1,h2,by rw [List.take_succ_cons,List.flatten_cons,List.length_append];omega⟩
theorem a0A {α:Type} {p:Nat->α->Prop}:∀(n:Nat),(∀ i,i<n->∃x,p i x)->∃xs:List α,xs.length=n∧∀i x,xs[i]? =some x->p i x
 |0,_=>⟨[],rfl,by simp⟩
 |n+1,h=>by
  obtain ⟨xs,h1,h2⟩:=a0A n fun i hi=>h i (by omega)
  obtain ⟨x,hx⟩:=h n (by omega)
  refine ⟨xs++[x],by simp [h1],fun i y hy=>?_⟩
  by_cases hi:i<xs.length
  ·rw [List.getElem?_append_left hi] at hy;exact h2 i y hy
  ·rw [List.getElem?_append_right (by omega)] at hy
   have:i=n:=by
    have:=(lg1 hy).1
    simp at this;omega
   subst this
   rw [h1] at hy
   simp at hy
   subst hy
   exact hx
theorem aU3 {t:TypeId} {shs:List Sh} (h:C0 P t shs):∀(n:Nat) (cs:List Value) (x:DataW H × List MemPlace),DataW.trod enc P w base spare held n t cs=some x->aq0 w shs cs:=by
 induction h with
 |int h=>
  intro n cs x hx
  obtain ⟨a,rfl,_,hw⟩:=DataW.trod_int h hx
  exact ⟨rfl,[.atm (.int _ a)],rfl,fun j s hj=>by
   match j,hj with
   |0,hj=>simp at hj;subst hj;exact ⟨_,_,rfl,rfl,.atm rfl,.int hw⟩⟩
 |bool h=>
  intro n cs x hx
  obtain ⟨a,rfl,_⟩:=DataW.trod_bool h hx
  exact ⟨rfl,[.atm (.bool a)],rfl,fun j s hj=>by
   match j,hj with
   |0,hj=>simp at hj;subst hj;exact ⟨_,_,rfl,rfl,.atm rfl,.bool⟩⟩
 |@sl t e row h hc hp he ih=>
  intro n cs x hx
  have key:∀(rows:List (List T)) (u:Value),cs=[u]->RT w (fun _=>False) (.sl row.length .any rows) u->(∀ r ∈ rows,r.length=row.length)->(∀ r ∈ rows,∀(j:Nat) (s:Sh) (t:T),row[j]? =some s->r[j]? =some t->Fit s t)->aq0 w [.sl row] cs:=by
   rintro rows u rfl hu h1 h2
   exact ⟨rfl,[.sl row.length .any rows],rfl,fun j s hj=>by
    match j,hj with
    |0,hj=>simp at hj;subst hj;exact ⟨_,_,rfl,rfl,hu,.sl h1 h2⟩⟩
  rcases open_slice h hx with ⟨h0,_⟩|⟨a,len,cap,m,n,D,Pl,hcs,hb,hl,hm,hmm,hx,hi⟩
  ·exact key [] _ h0 (.sl (b:=0) (off:=0) (fun _ _=>undef) (by simp) (by simp) (by unfold maxLen;omega) (by intro h;cases h) (by intro h;cases h) (by simp) (by simp [at2]) (by simp [at2])) (by simp) (by simp)
  ·by_cases hz:len=0
   ·subst hz
    exact key [] _ hcs (.sl (b:=0) (off:=0) (fun _ _=>undef) (by simp) (by simp) hm (by intro h;cases h) (by intro h;cases h) (by simp) (by simp [at2]) (by simp [at2])) (by simp) (by simp)
   have hlm:len<=m:=by rw [hmm];split<;>omega
   have each:∀i,i<len->∃cs':List Value,(∀ j,j<row.length->w.cell? (a.add (i*row.length+j))=cs'[j]?)∧aq0 w row cs':=by
    intro i hil
    obtain ⟨cs',hc',ht'⟩:=hi i (by omega)
    rw [hc] at hc'
    obtain ⟨_,hcl,hat⟩:=World.cells?_some hc'
    exact ⟨cs',fun j hj=>by rw [← Go.Deep.add_add];exact hat j hj,ih n cs' _ ht'⟩
   obtain ⟨css,hcl,hcs2⟩:=a0A len each
   obtain ⟨rows,hrl,hrows⟩:=a0A (α:=List T) (p:=fun i ts=>ts.length=row.length∧∀(j:Nat) (s:Sh),row[j]? =some s->∃u t,(css.getD i [])[j]? =some u∧ts[j]? =some t∧RT w (fun _=>False) t u∧Fit s t) len (fun i hi=>by
    have hg:css[i]? =some (css[i]'(by omega)):=lg0 (by omega)
    obtain ⟨_,_,ts,h1,h2⟩:=hcs2 i _ hg
    refine ⟨ts,h1,?_⟩
    rw [lg3,hg]
    exact h2)
   have hcell:∀i j,i<len->j<row.length->w.cell? (a.add (i*row.length+j))=some ((css.getD i []).getD j undef):=by
    intro i j hi hj
    have hg:css[i]? =some (css[i]'(by omega)):=lg0 (by omega)
    obtain ⟨h1,h2,_⟩:=hcs2 i _ hg
    rw [h1 j hj]
    have hgd:css.getD i []=css[i]'(by omega):=by rw [lg3,hg];rfl
    rw [hgd,lg3,lg0 (by omega)];rfl
   have hspot:a.spot=none:=by
    have:=World.cell?_spot (hcell 0 0 (by omega) hp)
    simpa [Addr.add] using this
   obtain ⟨b,off,sp⟩:=a
   simp only at hspot
   subst hspot
   have hadd:∀k,(⟨b,off,none⟩:Addr).add k=⟨b,off+k,none⟩:=by
    intro k
    unfold Addr.add
    split
    ·subst_vars;rfl
    ·rfl
   have hat:∀i j c,at2 rows i j=some c->i<len∧j<row.length∧∃r s,rows[i]? =some r∧r[j]? =some c∧row[j]? =some s:=by
    intro i j c hc
    obtain ⟨r,q1,q2⟩:=A6 hc
    have hil:i<len:=by rw [← hrl];exact (lg1 q1).1
    have hjl:j<row.length:=by rw [← (hrows i r q1).1];exact (lg1 q2).1
    exact ⟨hil,hjl,r,_,q1,q2,lg0 hjl⟩
   refine key rows (.slice (some ⟨b,off,none⟩) len cap) hcs ?_ ?_ ?_
   ·rw [← hrl]
    refine .sl (b:=b) (off:=off) (fun i j=>(css.getD i []).getD j undef) ?_ (by omega) hm (by intro h;cases h) (by intro h;cases h) (fun _=>rfl) ?_ ?_
    ·intro r hr
     obtain ⟨i,hi⟩:=List.mem_iff_getElem?.1 hr
     exact (hrows i r hi).1
    ·intro i j c hc
     obtain ⟨hil,hjl,_⟩:=hat i j c hc
     have:=hcell i j hil hjl
     rw [hadd] at this
     exact ⟨this,fun h=>h⟩
    ·intro i j c hc
     obtain ⟨hil,hjl,r,s,q1,q2,q3⟩:=hat i j c hc
     obtain ⟨u,t,h1,h2,h3,h4⟩:=(hrows i r q1).2 j s q3
     rw [q2] at h2
     injection h2 with h2
     subst h2
     rw [lg3 (l:=css.getD i []),h1]
     exact h3
   ·intro r hr
    obtain ⟨i,hi⟩:=List.mem_iff_getElem?.1 hr
    exact (hrows i r hi).1
   ·intro r hr j s t hs ht
    obtain ⟨i,hi⟩:=List.mem_iff_getElem?.1 hr
    obtain ⟨u,t',h1,h2,h3,h4⟩:=(hrows i r hi).2 j s hs
    rw [ht] at h2
    injection h2 with h2
    subst h2
    exact h4
 |@struct t fs parts h hl ho hc he ih=>
  intro n cs x hx
  obtain ⟨xs,n',hn',hy,hlen,hyl,hf⟩:=DataW.trod_struct h hx
  have hlen':cs.length=parts.flatten.length:=by rw [hlen,hc]
  have each:∀j,j<parts.flatten.length->∃t,∀s,parts.flatten[j]? =some s->∃u,cs[j]? =some u∧RT w (fun _=>False) t u∧Fit s t:=by
   intro j hj
   obtain ⟨i,p,k,q1,q2,q3⟩:=a9Q parts j _ (lg0 hj)
   have hi:i<fs.size:=by rw [← hl];exact (lg1 q1).1
   have hfi:fs[i]? =some fs[i]:=Array.getElem?_eq_getElem hi
   obtain ⟨o1,o2⟩:=ho i _ p hfi q1
   have h1:=hf i _ hfi
   have hxi:xs[i]? =some (xs[i]'(by omega)):=lg0 (by omega)
   obtain ⟨r1,ts,r2,r3⟩:=ih i _ p hfi q1 n' _ _ (h1.trans hxi)
   obtain ⟨u,t,e1,e2,e3,e4⟩:=r3 k _ q2
   refine ⟨t,fun s hs=>⟨u,?_,e3,?_⟩⟩
   ·have hk:k<p.length:=(lg1 q2).1
    rw [List.getElem?_take,o2,if_pos hk,List.getElem?_drop,o1,←q3] at e1
    exact e1
   ·rw [lg0 hj] at hs
    injection hs with hs
    rw [← hs];exact e4
  obtain ⟨ts,t1,t2⟩:=a0A parts.flatten.length each
  refine ⟨hlen',ts,t1,fun j s hj=>?_⟩
  have hjl:=(lg1 hj).1
  have htj:ts[j]? =some (ts[j]'(by omega)):=lg0 (by omega)
  obtain ⟨u,h1,h2,h3⟩:=t2 j _ htj s hj
  exact ⟨u,_,h1,htj,h2,h3⟩
end
theorem Fit.int_inv {k:IntKind} {t:T} (h:Fit (.int k) t):∃n,t=.atm (.int k n)∧(Lit.int k n).wf=true:=by cases h with|int h=>exact ⟨_,rfl,h⟩
theorem Fit.bool_inv {t:T} (h:Fit .bool t):∃b,t=.atm (.bool b):=by cases h with|bool=>exact ⟨_,rfl⟩
theorem aw6 {α:Type} {f:α->List T} {p:α->Prop}:∀{rows:List (List T)},(∀ r ∈ rows,∃x,r=f x∧p x)->∃xs:List α,rows=xs.map f∧∀x ∈ xs,p x
 |[],_=>⟨[],rfl,by simp⟩
 |r::rs,h=>by
  obtain ⟨x,rfl,hx⟩:=h r (by simp)
  obtain ⟨xs,rfl,hxs⟩:=aw6 (rows:=rs) (f:=f) (p:=p) fun r hr=>h r (List.mem_cons_of_mem _ hr)
  exact ⟨x::xs,rfl,fun y hy=>by rcases List.mem_cons.1 hy with rfl|hy;exact hx;exact hxs y hy⟩
theorem Fit.sl_inv {α:Type} (f:α->List T) (p:α->Prop) {row:List Sh} {t:T} (h:Fit (.sl row) t)
 (hrow:∀r:List T,r.length=row.length->(∀ (j:Nat) (s:Sh) (t:T),row[j]? =some s->r[j]? =some t->Fit s t)->∃x,r=f x∧p x):
 ∃xs:List α,t=.sl row.length .any (xs.map f)∧∀x ∈ xs,p x:=by
 cases h with
 |sl hl h=>
  obtain ⟨xs,rfl,hx⟩:=aw6 (f:=f) (p:=p) (fun r hr=>hrow r (hl r hr) (h r hr))
  exact ⟨xs,rfl,hx⟩
end
section
open Go.RowKit Go.ChangeShapes Go.WideShapes Go.Deep
abbrev d7:Sh:=.int .i64
abbrev b2L:List Sh:=[d7,.sl [d7]]
abbrev ao8:List Sh:=[d7,.sl [d7],d7,.sl [d7]]
theorem v5:C0 Tryz.prog 3 [d7]:=.int Tryz.underlying3
theorem b3P:C0 Tryz.prog 55 [.sl [d7]]:=.sl Tryz.underlying55 (by kernel_rfl) (by decide) v5
theorem a3J {P:Program} {t:TypeId} {fs:Array Field} {p0 p1:List Sh} (h:P.underlying t=some (.struct fs)) (hl:fs.size=2)
 (h0:∃f,fs[0]? =some f∧f.offset=0∧P.cellsOf f.type=p0.length∧C0 P f.type p0) (h1:∃f,fs[1]? =some f∧f.offset=p0.length∧P.cellsOf f.type=p1.length∧C0 P f.type p1)
 (hc:P.cellsOf t=p0.length+p1.length):C0 P t (p0++p1):=by
 obtain ⟨f0,a1,a2,a3,a4⟩:=h0
 obtain ⟨f1,b1,b2,b3,b4⟩:=h1
 have:=C0.struct (P:=P) (t:=t) (fs:=fs) [p0,p1] h (by simp [hl]) (fun i f p hf hp=>by
  match i,hp with
  |0,hp=>simp at hp;subst hp;rw [a1] at hf;injection hf with hf;subst hf;exact ⟨by simp [a2],a3⟩
  |1,hp=>simp at hp;subst hp;rw [b1] at hf;injection hf with hf;subst hf;exact ⟨by simp [b2],b3⟩
  |n+2,hp=>simp at hp) (by simp [hc]) (fun i f p hf hp=>by
  match i,hp with
  |0,hp=>simp at hp;subst hp;rw [a1] at hf;injection hf with hf;subst hf;exact a4
  |1,hp=>simp at hp;subst hp;rw [b1] at hf;injection hf with hf;subst hf;exact b4
  |n+2,hp=>simp at hp)
 simpa using this
theorem b0l:C0 Tryz.prog 81 b2L:=
 a3J (p0:=[d7]) (p1:=[.sl [d7]]) Tryz.underlying81 (by kernel_rfl) ⟨_,rfl,rfl,by kernel_rfl,v5⟩ ⟨_,rfl,rfl,by kernel_rfl,b3P⟩ (by kernel_rfl)
theorem b2a:C0 Tryz.prog 83 ao8:=
 a3J (p0:=b2L) (p1:=b2L) Tryz.underlying83 (by kernel_rfl) ⟨_,rfl,rfl,by kernel_rfl,b0l⟩ ⟨_,rfl,rfl,by kernel_rfl,b0l⟩ (by kernel_rfl)
theorem b0D:C0 Tryz.prog 44 [.sl ao8]:=.sl Tryz.underlying44 (by kernel_rfl) (by decide) b2a
theorem aJ1:C0 Tryz.prog 54 [d7,d7]:=
 a3J (p0:=[d7]) (p1:=[d7]) Tryz.underlying54 (by kernel_rfl) ⟨_,rfl,rfl,by kernel_rfl,v5⟩ ⟨_,rfl,rfl,by kernel_rfl,v5⟩ (by kernel_rfl)
theorem aC4 {t:T} (h:Fit (.sl [d7]) t):∃l:List Int,t=F8 l:=by
 obtain ⟨xs,rfl,_⟩:=h.sl_inv d9 (fun _=>True) (fun r hl hr=>by
  match r,hl with
  |[u],_=>
   obtain ⟨n,rfl,_⟩:=(hr 0 _ _ rfl rfl).int_inv
   exact ⟨n,rfl,trivial⟩)
 exact ⟨xs,rfl⟩
theorem ax0 {r:List T} (hl:r.length=4) (hr:∀(j:Nat) (s:Sh) (t:T),ao8[j]? =some s->r[j]? =some t->Fit s t):∃f:Fr,r=j5 f:=by
 match r,hl with
 |[a,b,c,d],_=>
  obtain ⟨n,rfl,_⟩:=(hr 0 _ _ rfl rfl).int_inv
  obtain ⟨l,rfl⟩:=aC4 (hr 1 _ _ rfl rfl)
  obtain ⟨m,rfl,_⟩:=(hr 2 _ _ rfl rfl).int_inv
  obtain ⟨k,rfl⟩:=aC4 (hr 3 _ _ rfl rfl)
  exact ⟨⟨⟨n,l⟩,⟨m,k⟩⟩,rfl⟩
theorem b1l {t:T} (h:Fit (.sl ao8) t):∃l:List Fr,t=B4 l:=by
 obtain ⟨xs,rfl,_⟩:=h.sl_inv j5 (fun _=>True) (fun r hl hr=>by
  obtain ⟨f,rfl⟩:=ax0 hl hr
  exact ⟨f,rfl,trivial⟩)
 exact ⟨xs,rfl⟩
section
variable {H:Type} {enc:TypeId × Value->H} {w:World} {base:Nat} {spare:Nat->Bool} {held:Bool}
theorem b2Q {shs:List Sh} {l:List Value} (h:aq0 w shs l):∃ts:List T,ts.length=shs.length∧(∀ (j:Nat) (s:Sh) (t:T),shs[j]? =some s->ts[j]? =some t->Fit s t)∧RS w (fun _=>none) (fun _=>False) (.agg (ts.map C.t)) (.agg ⟨l⟩):=by
 obtain ⟨h0,ts,h1,h2⟩:=h
 refine ⟨ts,h1,fun j s t hs ht=>?_,?_⟩
 ·obtain ⟨u,t',e1,e2,e3,e4⟩:=h2 j s hs
  rw [ht] at e2;injection e2 with e2;subst e2;exact e4
 ·refine .agg l (by simp [h0,h1]) fun j c hc=>?_
  rw [List.getElem?_map] at hc
  obtain ⟨t,ht,rfl⟩:=Option.map_eq_some_iff.1 hc
  have hj:j<shs.length:=by rw [← h1];exact (lg1 ht).1
  obtain ⟨u,t',e1,e2,e3,e4⟩:=h2 j _ (lg0 hj)
  rw [ht] at e2;injection e2 with e2;subst e2
  rw [lg3,e1]
  exact .t e3
end
end
section
open Go.RowKit Go.ChangeShapes Go.WideShapes Go.Deep
def aw8 (P:Program):List Field->List (List Sh)->Nat->Prop
 |[],[],_=>True
 |f::fs,p::ps,o=>(f.offset=o∧P.cellsOf f.type=p.length∧C0 P f.type p)∧aw8 P fs ps (o+p.length)
 |_,_,_=>False
theorem aw8.get {P:Program}:∀{fs:List Field} {ps:List (List Sh)} {o:Nat},aw8 P fs ps o->ps.length=fs.length∧∀(i:Nat) (f:Field) (p:List Sh),fs[i]? =some f->ps[i]? =some p->f.offset=o+(ps.take i).flatten.length∧P.cellsOf f.type=p.length∧C0 P f.type p
 |[],[],o,_=>⟨rfl,by simp⟩
 |f::fs,p::ps,o,h=>by
  obtain ⟨⟨h1,h2,h3⟩,h4⟩:=h
  obtain ⟨l,g⟩:=aw8.get h4
  refine ⟨by simp [l],fun i f' p' hf hp=>?_⟩
  cases i with
  |zero=>simp at hf hp;subst hf hp;exact ⟨by simp [h1],h2,h3⟩
  |succ i=>
   obtain ⟨g1,g2,g3⟩:=g i f' p' (by simpa using hf) (by simpa using hp)
   exact ⟨by rw [g1];simp;omega,g2,g3⟩
 |[],_::_,_,h=>h.elim
 |_::_,[],_,h=>h.elim
theorem O1 {P:Program} {t:TypeId} {fs:Array Field} (parts:List (List Sh)) (h:P.underlying t=some (.struct fs)) (hf:aw8 P fs.toList parts 0) (hc:P.cellsOf t=parts.flatten.length):C0 P t parts.flatten:=by
 obtain ⟨l,g⟩:=hf.get
 refine C0.struct parts h (by simpa using l) (fun i f p hi hp=>?_) hc (fun i f p hi hp=>?_)
 ·obtain ⟨g1,g2,g3⟩:=g i f p (by simpa using hi) hp
  exact ⟨by rw [g1];simp,g2⟩
 ·exact (g i f p (by simpa using hi) hp).2.2
theorem b2p:C0 Tryz.prog 4 [.bool]:=.bool Tryz.underlying4
theorem b1H:C0 Tryz.prog 77 [d7,d7,d7]:=
 O1 [[d7],[d7],[d7]] Tryz.underlying77 ⟨⟨by kernel_rfl,by kernel_rfl,v5⟩,⟨by kernel_rfl,by kernel_rfl,v5⟩,⟨by kernel_rfl,by kernel_rfl,v5⟩,trivial⟩ (by kernel_rfl)
theorem b1X:C0 Tryz.prog 79 [d7,d7,d7,d7,d7,.bool]:=
 O1 [[d7],[d7],[d7],[d7],[d7],[.bool]] Tryz.underlying79 ⟨⟨by kernel_rfl,by kernel_rfl,v5⟩,⟨by kernel_rfl,by kernel_rfl,v5⟩,⟨by kernel_rfl,by kernel_rfl,v5⟩,⟨by kernel_rfl,by kernel_rfl,v5⟩,⟨by kernel_rfl,by kernel_rfl,v5⟩,⟨by kernel_rfl,by kernel_rfl,b2p⟩,trivial⟩ (by kernel_rfl)
theorem b1N:C0 Tryz.prog 209 [d7,d7,d7,d7,d7,d7]:=
 O1 [[d7],[d7],[d7],[d7],[d7],[d7]] Tryz.underlying209 ⟨⟨by kernel_rfl,by kernel_rfl,v5⟩,⟨by kernel_rfl,by kernel_rfl,v5⟩,⟨by kernel_rfl,by kernel_rfl,v5⟩,⟨by kernel_rfl,by kernel_rfl,v5⟩,⟨by kernel_rfl,by kernel_rfl,v5⟩,⟨by kernel_rfl,by kernel_rfl,v5⟩,trivial⟩ (by kernel_rfl)
theorem aS9:C0 Tryz.prog 216 [d7,d7,d7,d7]:=
 O1 [[d7],[d7],[d7],[d7]] Tryz.underlying216 ⟨⟨by kernel_rfl,by kernel_rfl,v5⟩,⟨by kernel_rfl,by kernel_rfl,v5⟩,⟨by kernel_rfl,by kernel_rfl,v5⟩,⟨by kernel_rfl,by kernel_rfl,v5⟩,trivial⟩ (by kernel_rfl)
theorem b39:C0 Tryz.prog 34 [d7,d7,d7]:=
 O1 [[d7],[d7],[d7]] Tryz.underlying34 ⟨⟨by kernel_rfl,by kernel_rfl,v5⟩,⟨by kernel_rfl,by kernel_rfl,v5⟩,⟨by kernel_rfl,by kernel_rfl,v5⟩,trivial⟩ (by kernel_rfl)
theorem b1e:C0 Tryz.prog 36 [d7,d7]:=
 O1 [[d7],[d7]] Tryz.underlying36 ⟨⟨by kernel_rfl,by kernel_rfl,v5⟩,⟨by kernel_rfl,by kernel_rfl,v5⟩,trivial⟩ (by kernel_rfl)
theorem aM3:C0 Tryz.prog 22 [.sl [d7,d7,d7]]:=.sl Tryz.underlying22 (by kernel_rfl) (by decide) b1H
theorem b0S:C0 Tryz.prog 23 [.sl [d7,d7,d7,d7,d7,.bool]]:=.sl Tryz.underlying23 (by kernel_rfl) (by decide) b1X
theorem b0N:C0 Tryz.prog 24 [.sl [d7,d7,d7,d7,d7,d7]]:=.sl Tryz.underlying24 (by kernel_rfl) (by decide) b1N
theorem aI0:C0 Tryz.prog 25 [.sl [d7,d7]]:=.sl Tryz.underlying25 (by kernel_rfl) (by decide) aJ1
theorem au7:C0 Tryz.prog 26 [.sl [d7,d7,d7,d7]]:=.sl Tryz.underlying26 (by kernel_rfl) (by decide) aS9
theorem b0p:C0 Tryz.prog 29 [.sl [d7,d7,d7]]:=.sl Tryz.underlying29 (by kernel_rfl) (by decide) b39
theorem aU1:C0 Tryz.prog 30 [.sl [d7,d7]]:=.sl Tryz.underlying30 (by kernel_rfl) (by decide) b1e
abbrev b7J:List Sh:=[d7,d7,d7,.sl [d7,d7,d7],.sl [d7,d7,d7,d7,d7,.bool],.sl [d7,d7,d7,d7,d7,d7],.sl [d7,d7],.sl [d7,d7,d7,d7]]
theorem b76:C0 Tryz.prog 28 b7J:=
 O1 [[d7],[d7],[d7],[.sl [d7,d7,d7]],[.sl [d7,d7,d7,d7,d7,.bool]],[.sl [d7,d7,d7,d7,d7,d7]],[.sl [d7,d7]],[.sl [d7,d7,d7,d7]]] Tryz.underlying28
  ⟨⟨by kernel_rfl,by kernel_rfl,v5⟩,⟨by kernel_rfl,by kernel_rfl,v5⟩,⟨by kernel_rfl,by kernel_rfl,v5⟩,⟨by kernel_rfl,by kernel_rfl,aM3⟩,⟨by kernel_rfl,by kernel_rfl,b0S⟩,⟨by kernel_rfl,by kernel_rfl,b0N⟩,⟨by kernel_rfl,by kernel_rfl,aI0⟩,⟨by kernel_rfl,by kernel_rfl,au7⟩,trivial⟩ (by kernel_rfl)
abbrev b9y:List Sh:=b7J++[.sl [d7,d7,d7],.sl [d7,d7]]
theorem b6Y:C0 Tryz.prog 32 b9y:=
 O1 [b7J,[.sl [d7,d7,d7]],[.sl [d7,d7]]] Tryz.underlying32
  ⟨⟨by kernel_rfl,by kernel_rfl,b76⟩,⟨by kernel_rfl,by kernel_rfl,b0p⟩,⟨by kernel_rfl,by kernel_rfl,aU1⟩,trivial⟩ (by kernel_rfl)
theorem B8 {t:T} (h:Fit d7 t):∃n,t=ti n:=by obtain ⟨n,h,_⟩:=h.int_inv;exact ⟨n,h⟩
section
variable {α:Type} {t:T}
theorem aN9 (h:Fit (.sl [d7,d7,d7]) t):∃l:List C8,t=a0D l:=by
 obtain ⟨xs,rfl,_⟩:=h.sl_inv C8.row (fun _=>True) (fun r hl hr=>by
  match r,hl with
  |[a,b,c],_=>
   obtain ⟨a,rfl⟩:=B8 (hr 0 _ _ rfl rfl)
   obtain ⟨b,rfl⟩:=B8 (hr 1 _ _ rfl rfl)
   obtain ⟨c,rfl⟩:=B8 (hr 2 _ _ rfl rfl)
   exact ⟨⟨a,b,c⟩,rfl,trivial⟩)
 exact ⟨xs,rfl⟩
theorem b0F (h:Fit (.sl [d7,d7,d7]) t):∃l:List L7,t=a9R l:=by
 obtain ⟨xs,rfl,_⟩:=h.sl_inv L7.row (fun _=>True) (fun r hl hr=>by
  match r,hl with
  |[a,b,c],_=>
   obtain ⟨a,rfl⟩:=B8 (hr 0 _ _ rfl rfl)
   obtain ⟨b,rfl⟩:=B8 (hr 1 _ _ rfl rfl)
   obtain ⟨c,rfl⟩:=B8 (hr 2 _ _ rfl rfl)
   exact ⟨⟨a,b,c⟩,rfl,trivial⟩)
 exact ⟨xs,rfl⟩
theorem aQ6 (h:Fit (.sl [d7,d7]) t):∃l:List Q6,t=a1C l:=by
 obtain ⟨xs,rfl,_⟩:=h.sl_inv Q6.row (fun _=>True) (fun r hl hr=>by
  match r,hl with
  |[a,b],_=>
   obtain ⟨a,rfl⟩:=B8 (hr 0 _ _ rfl rfl)
   obtain ⟨b,rfl⟩:=B8 (hr 1 _ _ rfl rfl)
   exact ⟨⟨a,b⟩,rfl,trivial⟩)
 exact ⟨xs,rfl⟩
theorem aF2 (h:Fit (.sl [d7,d7]) t):∃l:List z4,t=G1 l:=by
 obtain ⟨xs,rfl,_⟩:=h.sl_inv z4.row (fun _=>True) (fun r hl hr=>by
  match r,hl with
  |[a,b],_=>
   obtain ⟨a,rfl⟩:=B8 (hr 0 _ _ rfl rfl)
   obtain ⟨b,rfl⟩:=B8 (hr 1 _ _ rfl rfl)
   exact ⟨⟨a,b⟩,rfl,trivial⟩)
 exact ⟨xs,rfl⟩
theorem as5 (h:Fit (.sl [d7,d7,d7,d7]) t):∃l:List a0p,t=Z7 l:=by
 obtain ⟨xs,rfl,_⟩:=h.sl_inv a0p.row (fun _=>True) (fun r hl hr=>by
  match r,hl with
  |[a,b,c,d],_=>
   obtain ⟨a,rfl⟩:=B8 (hr 0 _ _ rfl rfl)
   obtain ⟨b,rfl⟩:=B8 (hr 1 _ _ rfl rfl)
   obtain ⟨c,rfl⟩:=B8 (hr 2 _ _ rfl rfl)
   obtain ⟨d,rfl⟩:=B8 (hr 3 _ _ rfl rfl)
   exact ⟨⟨a,b,c,d⟩,rfl,trivial⟩)
 exact ⟨xs,rfl⟩
theorem b0q (h:Fit (.sl [d7,d7,d7,d7,d7,d7]) t):∃l:List G5,t=W5 l:=by
 obtain ⟨xs,rfl,_⟩:=h.sl_inv G5.row (fun _=>True) (fun r hl hr=>by
  match r,hl with
  |[a,b,c,d,e,f],_=>
   obtain ⟨a,rfl⟩:=B8 (hr 0 _ _ rfl rfl)
   obtain ⟨b,rfl⟩:=B8 (hr 1 _ _ rfl rfl)
   obtain ⟨c,rfl⟩:=B8 (hr 2 _ _ rfl rfl)
   obtain ⟨d,rfl⟩:=B8 (hr 3 _ _ rfl rfl)
   obtain ⟨e,rfl⟩:=B8 (hr 4 _ _ rfl rfl)
   obtain ⟨f,rfl⟩:=B8 (hr 5 _ _ rfl rfl)
   exact ⟨⟨a,b,c,d,e,f⟩,rfl,trivial⟩)
 exact ⟨xs,rfl⟩
theorem b0Q (h:Fit (.sl [d7,d7,d7,d7,d7,.bool]) t):∃l:List p6,t=a0J l:=by
 obtain ⟨xs,rfl,_⟩:=h.sl_inv p6.row (fun _=>True) (fun r hl hr=>by
  match r,hl with
  |[a,b,c,d,e,f],_=>
   obtain ⟨a,rfl⟩:=B8 (hr 0 _ _ rfl rfl)
   obtain ⟨b,rfl⟩:=B8 (hr 1 _ _ rfl rfl)
   obtain ⟨c,rfl⟩:=B8 (hr 2 _ _ rfl rfl)
   obtain ⟨d,rfl⟩:=B8 (hr 3 _ _ rfl rfl)
   obtain ⟨e,rfl⟩:=B8 (hr 4 _ _ rfl rfl)
   obtain ⟨f,rfl⟩:=(hr 5 _ _ rfl rfl).bool_inv
   exact ⟨⟨a,b,c,d,e,f⟩,rfl,trivial⟩)
 exact ⟨xs,rfl⟩
end
section
variable {H:Type} {enc:TypeId × Value->H} {w:World} {base:Nat} {spare:Nat->Bool} {held:Bool}
theorem open_fracs {v:Value} {d:DataW H} {p:List MemPlace} {r:Reach} {b0:Nat} (hv:Value.okWide Tryz.prog w r b0 44 v) (h:DataW.Trod enc Tryz.prog w base spare held 44 v d p):∃l,RS w (fun _=>none) (fun _=>False) (j8 l) v:=by
 obtain ⟨a,len,cap,rfl⟩:=okWide_slice Tryz.underlying44 hv
 obtain ⟨fuel,hf⟩:=h
 obtain ⟨_,ts,h1,h2⟩:=aU3 b0D fuel _ _ hf
 obtain ⟨u,t,e1,e2,e3,e4⟩:=h2 0 _ rfl
 obtain ⟨hh,rfl⟩:=b1l e4
 injection e1 with e1
 subst e1
 exact ⟨hh,.c (.t e3)⟩
theorem open_trace {v:Value} {d:DataW H} {p:List MemPlace} {r:Reach} {b0:Nat} (hv:Value.okWide Tryz.prog w r b0 32 v) (h:DataW.Trod enc Tryz.prog w base spare held 32 v d p):∃t:e7,RS w (fun _=>none) (fun _=>False) (trS t) v:=by
 obtain ⟨⟨l⟩,rfl,_⟩:=okWide_struct Tryz.underlying32 hv
 obtain ⟨fuel,hf⟩:=h
 obtain ⟨ts,h1,h2,h3⟩:=b2Q (aU3 b6Y fuel _ _ hf)
 match ts,h1 with
 |[a,b,c,d,e,f,g,h,i,j],_=>
  obtain ⟨a,rfl⟩:=B8 (h2 0 _ _ rfl rfl)
  obtain ⟨b,rfl⟩:=B8 (h2 1 _ _ rfl rfl)
  obtain ⟨c,rfl⟩:=B8 (h2 2 _ _ rfl rfl)
  obtain ⟨d,rfl⟩:=aN9 (h2 3 _ _ rfl rfl)
  obtain ⟨e,rfl⟩:=b0Q (h2 4 _ _ rfl rfl)
  obtain ⟨f,rfl⟩:=b0q (h2 5 _ _ rfl rfl)
  obtain ⟨g,rfl⟩:=aF2 (h2 6 _ _ rfl rfl)
  obtain ⟨h,rfl⟩:=as5 (h2 7 _ _ rfl rfl)
  obtain ⟨i,rfl⟩:=b0F (h2 8 _ _ rfl rfl)
  obtain ⟨j,rfl⟩:=aQ6 (h2 9 _ _ rfl rfl)
  exact ⟨⟨⟨a,b,c,d,e,f,g,h⟩,i,j⟩,h3⟩
end
end
section
open Go.RowKit Go.ChangeShapes Go.WideShapes Go.ChangeAt
set_option maxRecDepth 100000 in
theorem a2f (os:Os) (started:os.Started) (H:Type) (enc:TypeId × Value->H):
 ReturnsInHanded {} Tryz.checked os 11 .any (Rows.quarantineMatterSpec.pre6 enc Tryz.prog Tryz.f11 Rows.quarantineMatterRow.domain false) (Rows.quarantineMatterSpec.post enc Tryz.prog Tryz.f11 false true false false):=by
 refine returnsInHanded_of_change (C:=Tryz.checked) b5v started (by kernel_rfl) Tryz.func11
  (ChangeSpec.witness6 (enc:=enc) (C:=Tryz.checked) false ⟨#[],#[.agg #[.int .i64 0,.int .i64 0,.int .i64 0,.slice none 0 0,.slice none 0 0,.slice none 0 0,.slice none 0 0,.slice none 0 0,.slice none 0 0,.slice none 0 0],.int .i64 0,.slice none 0 0],[]⟩ 12 (by kernel_rfl) (by kernel_rfl) (by kernel_rfl) (by kernel_rfl)) ?_
 intro W base args ds gs before hval0 hW hcnd _
 have hval:∀(j:Nat) t v,Tryz.f11.params[j]? =some t->args[j]? =some v->Value.okWide Tryz.prog W .any base t v:=hval0
 have hW':=hW
 obtain ⟨p,q,hA0,hV,rfl,hfz,hnd⟩:=hW
 have hA:DataW.TrodAll enc Tryz.prog W 0 (fun _=>true) true Tryz.f11.params.toList args.toList ds p:=hA0
 rw [Tryz.params11] at hA hval
 obtain ⟨v0,vs0,d0,ds0,p0,q0,hargs,rfl,rfl,h0,r0⟩:=trodAll_cons hA
 obtain ⟨v1,vs1,d1,ds1,p1,q1,rfl,rfl,rfl,h1,r1⟩:=trodAll_cons r0
 obtain ⟨v2,vs2,d2,ds2,p2,q2,rfl,rfl,rfl,h2,r2⟩:=trodAll_cons r1
 obtain ⟨rfl,rfl,rfl⟩:=trodAll_nil r2
 obtain rfl:args=#[v0,v1,v2]:=by cases args;simp_all
 obtain ⟨rfl,rfl⟩:=trodVars_none hV
 obtain ⟨a0,t0⟩:=Go.Proofs.YtdbogogfeffjlaaGreat.open_trace (hval 0 32 v0 rfl rfl) h0
 obtain ⟨a1,rfl,rfl,rfl,w1⟩:=open_int Tryz.underlying3 (hval 1 3 v1 rfl rfl) h1
 obtain ⟨a2,t2⟩:=Go.Proofs.YtdbogogfeffjlaaGreat.open_fracs (hval 2 44 v2 rfl rfl) h2
 refine (ao5 (a5x a0 a1 a2) (.cons (t0) (.cons (b7P) (.cons (t2) (.nil))))).mono fun ee W' ⟨he,hg⟩=>?_
 subst he
 exact ⟨_,rfl,b31 hW' b3U (by rw [Tryz.params11];intro t ht;simp at ht;first|(rcases ht with rfl|rfl|rfl<;>exact ⟨by kernel_rfl,of_decide_eq_true (by kernel_rfl)⟩)|(rcases ht with rfl|rfl|rfl<;>exact ⟨by kernel_rfl,of_decide_eq_true (by kernel_rfl)⟩)) rfl rfl (by kernel_rfl) Tryz.underlying4 hg⟩
theorem a2A:(Rows.quarantineMatterRow.inPlace == Tryz.pinned.checked.prog.inPlace 11)=true:=by kernel_rfl
theorem a3D:(Rows.quarantineMatterRow.unfollowed == Tryz.pinned.checked.prog.unfollowed 11)=true:=by kernel_rfl
theorem a3Y:(Rows.quarantineMatterRow.recurses == Tryz.pinned.checked.prog.recurses 11)=true:=by kernel_rfl
theorem a2R:(Rows.quarantineMatterRow.named == Tryz.pinned.checked.prog.varsNamed 11)=true:=by kernel_rfl
theorem a2P:(Rows.quarantineMatterRow.loops == (Tryz.f11.params.toList++Rows.quarantineMatterSpec.plain.varTypes Tryz.pinned.checked.prog).any (Tryz.pinned.checked.prog.loopsFrom ·))=true:=by kernel_rfl
set_option maxRecDepth 100000 in
theorem a2p:joinedFacts Tryz.pinned.checked.prog 11 Tryz.f11 (Rows.quarantineMatterSpec) Rows.quarantineMatterRow=true:=b1b (by kernel_rfl) b5M b5e (by kernel_rfl) (by kernel_rfl) (by kernel_rfl) (by kernel_rfl) (by kernel_rfl) (by kernel_rfl) a2A a3D a3Y a2R (by kernel_rfl) (by kernel_rfl) (by kernel_rfl) a2P (by kernel_rfl) (by kernel_rfl) (by kernel_rfl) (by kernel_rfl) (by kernel_rfl) b4P (by kernel_rfl) b3d b3I b5G b5b (by kernel_rfl) (by kernel_rfl) (by kernel_rfl) (by kernel_rfl) (by kernel_rfl)
theorem quarantineMatter_holds:Rows.QuarantineMatterSaid:=
 OpenClaim.holds_of_wide 11 Tryz.f11 rfl rfl rfl rfl rfl rfl rfl ⟨rfl,rfl,rfl,rfl,rfl⟩ rfl rfl rfl rfl rfl (by kernel_rfl) Tryz.func11 a2p
  (of_decide_eq_true (by kernel_rfl)) (by unfold Func.isWrapper;first|(rw [if_pos (by decide +kernel)];kernel_rfl)|(rw [if_neg (by decide +kernel)];exact ⟨rfl,rfl⟩))
  (fun os started H enc _=>a2f os started H enc)
end
end Go.Proofs.YtdbogogfeffjlaaGreat
