/- Part 7. -/
import Derived.Test.YtdbogogfeffjlaaGreatQf6
namespace Go.Proofs.YtdbogogfeffjlaaGreat
set_option linter.unusedVariables false
set_option linter.unusedSimpArgs false
set_option maxRecDepth 100000
open Go.RowKit
open St1 St2 St3 St4 St5 St6 St7 St8 StA StB
def T1 (t:e8) (find:Int):Bool:=decide (v8 t=0) && decide (0<=find) && decide (find<t.finds.length)
theorem a4V (t:e8) (hs:t.Sized) (find:Int):a9 Tryz.prog 77 [trS t,a7 .i64 find] [] (f9 (T1 t find)) []:=by
 have ck:=a6r t hs
 have m1:(t.finds.map J9.row).length=t.finds.length:=by simp
 unfold T1
 by_cases h1:v8 t=0
 ·rw [decide_eq_true h1,Bool.true_and]
  (refine ac Tryz.func77 ?_;(conv=>whnf);repeat ((first|refine b0x ?_|refine zy ?_);conv=>whnf))
  repeat' (first|refine zz ?_|refine qp ck ?_|refine zd ?_ ?_<;>intro h<;>try omega|refine zy ?_|fail)<;>conv=>whnf
  all_goals first
   |omega
   |(refine b7 ?_;symm;simp only [Bool.and_eq_true,decide_eq_true_eq,Bool.and_eq_false_iff,decide_eq_false_iff_not];omega)
 ·rw [decide_eq_false h1,Bool.false_and,Bool.false_and]
  (refine ac Tryz.func77 ?_;(conv=>whnf);repeat ((first|refine b0x ?_|refine zy ?_);conv=>whnf))
  repeat' (first|refine zz ?_|refine qp ck ?_|refine zd ?_ ?_<;>intro h<;>try omega|refine zy ?_|fail)<;>conv=>whnf
  all_goals first
   |omega
   |exact b7 rfl
def a1n (e:Ev) (k:Nat):List Int:=(t7 e k).map fun i:Nat=>(i:Int)
theorem b1M (e:Ev) (k:Nat):(a1n e k).length=(t7 e k).length:=by simp [a1n]
theorem aV3 {e:Ev} {k:Nat} {m:x4} (h:e.moves[k]? =some m):a1n e (k+1)=if o4 e m.src=0 then a1n e k++[(k:Int)] else a1n e k:=by
 unfold a1n
 conv=>lhs;unfold t7
 rw [h]
 simp only
 split
 ·simp
 ·rfl
def Q7 (e:Ev):List Int:=a1n e e.moves.length
theorem at8 (e:Ev) (hs:e.Sized) (h0:C6 e=0):a9 Tryz.prog 97 [evS e] [] (e7 (Q7 e)) []:=by
 have m1:(e.moves.map x4.row).length=e.moves.length:=by simp
 have l1:=hs.s2
 unfold Q7
 (refine ac Tryz.func97 ?_;(conv=>whnf);repeat ((first|refine b0x ?_|refine zy ?_);conv=>whnf))
 repeat' (first|refine zz ?_|refine zd ?_ ?_<;>intro h<;>try omega|refine zy ?_|fail)<;>conv=>whnf
 refine f5 d7 (fun k=>([J,S.c (C.t (T.ptr (evT e))),J,S.c (C.own 0 0 (a1n e k).length true),J,J,J,S.c (C.t (a1L e.moves)),a7 .i64 e.moves.length,a7 .i64 k,J,J,J,J,J,J,J,J,J,J,J,J,J,J,J,J,J,J],[s8 (a1n e k)])) e.moves.length (fun _=>True) [none] trivial
  ⟨rfl,rfl,⟨⟨rfl,rfl⟩,trivial⟩,⟨rfl,⟨rfl,rfl,rfl⟩,rfl,b9 (by simp),rfl,trivial⟩⟩ ?_
 intro k hk _
 have ll:=B5 (e:=e) k
 have lA:(a1n e k).length<=(s8 (a1n e k)).rows.length:=by show _<=(toC _).length;simp [toC]
 have l2:=b1M e k
 by_cases hlt:k<e.moves.length
 ·obtain ⟨m,hm⟩:∃m,e.moves[k]? =some m:=⟨_,lg0 hlt⟩
  have ms:=S5 (E1 h0 (lg2 hm))
  obtain ⟨p,hp⟩:∃p,e.places[m.src.toNat]? =some p:=⟨_,lg0 (by omega)⟩
  have hk0:o4 e m.src=p.kind:=by unfold o4;rw [hp];rfl
  rw [aV3 hm,hk0]
  by_cases hb:p.kind=0
  ·rw [if_pos hb]
   conv=>whnf
   repeat' (first|refine zz ?_|refine qp toC ?_|refine d8 hm ?_|refine o7 ms.1 hp ?_|refine q9 lA (by simp [toC];omega) ?_|refine zd ?_ ?_<;>intro h<;>try omega|refine zy ?_|fail)<;>conv=>whnf
   all_goals first
    |omega
    |(refine ⟨hlt,trivial,[some 2],rfl,rfl,⟨a8 (rows:=(a1n e k++[(k:Int)]).map f8) rfl rfl rfl ?_ rfl,trivial⟩,⟨rfl,⟨rfl,rfl,?_,fun h=>h⟩,rfl,rfl,b9 (by omega),trivial⟩⟩
      ·exact C9 (f:=f8) (x:=(k:Int)) rfl
      ·simp [toC])
  ·rw [if_neg hb]
   conv=>whnf
   repeat' (first|refine zz ?_|refine d8 hm ?_|refine o7 ms.1 hp ?_|refine zd ?_ ?_<;>intro h<;>try omega|refine zy ?_|fail)<;>conv=>whnf
   all_goals first
    |omega
    |exact ⟨hlt,trivial,[some 0],rfl,rfl,⟨a8 (rows:=(a1n e k).map f8) rfl rfl rfl rfl rfl,trivial⟩,⟨rfl,⟨rfl,rfl,rfl,fun h=>h⟩,rfl,rfl,b9 (by omega),trivial⟩⟩
 ·have hke:k=e.moves.length:=by omega
  subst hke
  conv=>whnf
  repeat' (first|refine zz ?_|refine zd ?_ ?_<;>intro h<;>try omega|refine zy ?_|fail)<;>conv=>whnf
  all_goals first
   |omega
   |exact T7 rfl (fun h=>h) rfl rfl (by simp)
theorem a7A (v c:Int) (h0:-9223372036854775808<=c) (h1:c<=9223372036854775807):a9 Tryz.prog 122 [a7 .i64 v,a7 .i64 c] [] (s6 [(v,((c:Int):Rat))]) []:=by
 have ic:=N7 c h0 h1
 (refine ac Tryz.func122 ?_;(conv=>whnf);repeat ((first|refine b0x ?_|refine zy ?_);conv=>whnf))
 repeat' (first|refine zz ?_|refine qp ic ?_|refine zd ?_ ?_<;>intro h<;>try omega|refine zy ?_|fail)<;>conv=>whnf
 all_goals first
  |exact k8 (show a8W [] _ _ _ from rfl)
def b6S (t:e8):List C:=[.t (ti t.ev.mats),.t (ti t.ev.hhs),.t (ti t.ev.scs),.t (a17 t.ev.places),.t (a1L t.ev.moves),.t (Z6 t.ev.certs),.t (J6 t.ev.recalls),.t (a0p t.ev.purities),.t (.sl 0 .nil []),.t (a26 t.cleans)]
theorem b8J {w:World} {ι:Io} {M:Ms} {t:e8} {v:Value} (h:RS w ι M (.agg (b6S t)) v):RS w ι M (trS (y8 t)) v:=by
 cases h with
 |agg vs hl hr=>
  refine .agg vs hl fun j c hj=>?_
  by_cases h8:j=8
  ·subst h8
   injection hj with hj;subst hj
   have h9:=hr 8 _ rfl
   cases h9 with
   |t h9=>exact .t (h9.weak rfl)
  ·refine hr j c ?_
   rcases j with _|_|_|_|_|_|_|_|_|_|j
   all_goals first
    |exact hj
    |exact absurd rfl h8
theorem a8u {P:Program} {g:FuncId} {t:e8} {x:S} {H H':Hp} {r:S} (h:a9 P g [trS (y8 t),x] H r H'):a9 P g [.agg (b6S t),x] H r H':=by
 refine a9V h rfl fun w ι M j a b v hx hy hr=>?_
 rcases j with _|_|j
 ·injection hx with hx;injection hy with hy;subst hx hy;exact b8J hr
 ·injection hx with hx;injection hy with hy;subst hx hy;exact hr
 ·simp at hx
theorem b1G (t:e8) (kind:Int) (hs:t.Sized) (h1:v8 t=0) (k0:0<=kind) (k1:kind<8) (H:Hp):X7 Tryz.prog 60 [.agg (b6S t),a7 .i64 kind] H (.tup [.agg [.t (ti t.ev.moves.length),.own H.length 0 (R0 (y8 t) kind).rows.length true],a7 .i64 0]) [M9 (R0 (y8 t) kind).rows]:=by
 have hc:¬(v8 (y8 t)≠0∨kind<0∨8<=kind):=by have:=a1c h1;omega
 have h:=a8u (b2f (y8 t) kind ⟨hs.ev,by simp [y8],hs.c⟩ hc)
 exact a6f (j:=1) h rfl rfl (d6 _) rfl rfl
def aY0 (l:List Nat) (i k:Nat):List D9:=N0 (l.take k) i
theorem b1V {l:List Nat} {i k j:Nat} (h:l[k]? =some j):aY0 l i (k+1)=if j≠i then aY0 l i k++[p7 j 2 ((0:Int):Rat)] else aY0 l i k:=by
 unfold aY0 N0
 have e:l.take (k+1)=l.take k++[j]:=by rw [List.take_add_one,h];rfl
 rw [e,List.filter_append,List.map_append]
 by_cases hj:j≠i
 ·rw [if_pos hj];simp [hj]
 ·rw [if_neg hj];simp [hj]
def U1 (t:e8) (kind:Int) (i k:Nat):List D9:=(R0 (y8 t) kind).rows++aY0 (i9 t.ev) i k
theorem aS5 {t:e8} {kind:Int} {i k:Nat} (hm:t.ev.moves.length<=14) (hc:t.cleans.length<=50):(U1 t kind i k).length<=750:=by
 unfold U1
 have hl:=S3 (t:=y8 t) (kind:=kind) t.ev.moves.length
 have hl2:t.ev.moves.length*(2+(y8 t).finds.length+(y8 t).cleans.length)<=14*52:=Nat.mul_le_mul hm (by show 2+0+t.cleans.length<=52;omega)
 have hl3:=a2d ((i9 t.ev).take k) i
 have hl4:=B5 (e:=t.ev) t.ev.moves.length
 have hl5:((i9 t.ev).take k).length<=(i9 t.ev).length:=by rw [List.length_take];omega
 have hl6:(i9 t.ev).length<=t.ev.moves.length:=hl4
 have hl7:(R0 (y8 t) kind).rows.length<=14*52:=Nat.le_trans hl hl2
 rw [List.length_append]
 show _+(N0 ((i9 t.ev).take k) i).length<=750
 omega
theorem aS6 (t:e8) (kind:Int) (i:Nat):U1 t kind i (i9 t.ev).length=(o6 t kind i).rows:=by
 unfold U1 aY0 o6;rw [lg4 (Nat.le_refl _)]
theorem a66 {e:Ev} {k j:Nat} (h:(i9 e)[k]? =some j):(Q7 e)[k]? =some (j:Int):=by
 unfold Q7 a1n
 rw [List.getElem?_map]
 have:(t7 e e.moves.length)[k]? =some j:=h
 rw [this];rfl
theorem a38 (e:Ev):(Q7 e).length=(i9 e).length:=by simp [Q7,a1n,i9]
set_option maxHeartbeats 4000000 in
theorem ax5 (t:e8) (hs:t.Sized) (h1:v8 t=0) (find:Int) (f:J9) (f0:0<=find) (hf:t.finds[find.toNat]? =some f) (i:Nat) (hm:t.ev.moves.length<=14):
 a9 Tryz.prog 99 [trS t,a7 .i64 find,a7 .i64 i,e7 (Q7 t.ev)] [] (a0U (o6 t f.kind i)) []:=by
 obtain ⟨q1,q2,q3,q4,q5⟩:=n8 h1
 have hg:=E6 q4 f (lg2 hf)
 have m1:((Q7 t.ev).map f8).length=(i9 t.ev).length:=by rw [List.length_map,a38]
 have sy:=fun H:Hp=>b1G t f.kind hs h1 (by omega) (by omega) H
 have i0:=N7 0 (by decide) (by decide)
 have ll:(i9 t.ev).length<=t.ev.moves.length:=B5 _
 have eK0:U1 t f.kind i 0=(R0 (y8 t) f.kind).rows:=by unfold U1 aY0;rw [List.take_zero];simp [N0]
 (refine ac Tryz.func99 ?_;(conv=>whnf);repeat (refine zy ?_;conv=>whnf))
 repeat' (first|refine zz ?_|refine qp 5 ?_|refine o7 f0 hf ?_|refine .inl ⟨_,_,sy _,?_⟩|refine bl0 [5] ?_|refine zd ?_ ?_<;>intro h<;>try omega|refine zy ?_|fail)<;>conv=>whnf
 refine f5 d7 (fun k=>([J,J,a7 .i64 i,J,J,J,J,J,S.c (C.ptr 0 0 0),J,S.c (C.ptr 1 0 0),J,J,J,J,J,J,J,J,J,J,J,J,J,J,J,J,e7 (Q7 t.ev),a7 .i64 (i9 t.ev).length,a7 .i64 k,J,J,J,J,J,J,J,J,J,J,J,J,J,J,J,J,J],[a1m,a2R t.ev.moves.length 2 (U1 t f.kind i k).length,M9 (U1 t f.kind i k)])) (i9 t.ev).length (fun _=>True) [some 1,some 3,some 2] trivial
  ⟨rfl,rfl,⟨⟨rfl,rfl,rfl,.inr ⟨⟨rfl,rfl,trivial⟩,trivial⟩⟩,⟨rfl,rfl,rfl,.inr ⟨⟨rfl,⟨rfl,rfl,by rw [eK0],fun h=>h⟩,trivial⟩,trivial⟩⟩,a8 (rows:=(U1 t f.kind i 0).map z6) rfl rfl rfl (by rw [eK0]) rfl,trivial⟩,⟨rfl,⟨rfl,rfl,rfl⟩,⟨rfl,rfl,rfl⟩,rfl,b9 (by rw [m1]),rfl,trivial⟩⟩ ?_
 intro k hk _
 have lk:=aS5 (t:=t) (kind:=f.kind) (i:=i) (k:=k) hm q3
 by_cases hlt:k<(i9 t.ev).length
 ·obtain ⟨j,hj⟩:∃j,(i9 t.ev)[k]? =some j:=⟨_,lg0 hlt⟩
  have hji:=a66 hj
  have on:=a7A j 1 (by decide) (by decide)
  have eS:U1 t f.kind i (k+1)=if j≠i then U1 t f.kind i k++[p7 j 2 ((0:Int):Rat)] else U1 t f.kind i k:=by
   unfold U1
   rw [b1V hj]
   split
   ·rw [List.append_assoc]
   ·rfl
  rw [eS]
  have lA:(U1 t f.kind i k).length<=(M9 (U1 t f.kind i k)).rows.length:=by show _<=(toC _).length;simp [toC]
  by_cases hji2:j≠i
  ·rw [if_pos hji2]
   conv=>whnf
   repeat' (first|refine zz ?_|refine qp on ?_|refine qp i0 ?_|refine qp toC ?_|refine qp (0,1) ?_|refine d8 hji ?_|refine q9 lA (by simp [toC];omega) ?_|refine bl0 [0,1] ?_|refine zd ?_ ?_<;>intro h<;>try omega|refine zy ?_|fail)<;>conv=>whnf
   all_goals first
    |omega
    |(refine ⟨hlt,trivial,[some 0,some 1,some 3],rfl,rfl,⟨⟨rfl,rfl,rfl,.inr ⟨⟨rfl,rfl,trivial⟩,trivial⟩⟩,⟨rfl,rfl,rfl,.inr ⟨⟨rfl,⟨rfl,rfl,?_,fun h=>h⟩,trivial⟩,trivial⟩⟩,a8 (rows:=(U1 t f.kind i k++[p7 j 2 ((0:Int):Rat)]).map z6) rfl rfl rfl ?_ rfl,trivial⟩,⟨rfl,⟨rfl,rfl,rfl⟩,⟨rfl,rfl,rfl⟩,rfl,rfl,b9 (by omega),trivial⟩⟩
      ·simp [toC]
      ·exact C9 (f:=z6) (x:=p7 j 2 ((0:Int):Rat)) rfl)
  ·rw [if_neg hji2]
   conv=>whnf
   repeat' (first|refine zz ?_|refine qp on ?_|refine qp i0 ?_|refine d8 hji ?_|refine zd ?_ ?_<;>intro h<;>try omega|refine zy ?_|fail)<;>conv=>whnf
   all_goals first
    |omega
    |exact ⟨hlt,trivial,[some 0,some 1,some 2],rfl,rfl,⟨⟨rfl,rfl,rfl,.inr ⟨⟨rfl,rfl,trivial⟩,trivial⟩⟩,⟨rfl,rfl,rfl,.inr ⟨⟨rfl,⟨rfl,rfl,rfl,fun h=>h⟩,trivial⟩,trivial⟩⟩,d9 (d6 _),trivial⟩,⟨rfl,⟨rfl,rfl,rfl⟩,⟨rfl,rfl,rfl⟩,rfl,rfl,b9 (by omega),trivial⟩⟩
 ·have hke:k=(i9 t.ev).length:=by omega
  subst hke
  have e9:=aS6 t f.kind i
  conv=>whnf
  repeat' (first|refine zz ?_|refine zd ?_ ?_<;>intro h<;>try omega|refine zy ?_|fail)<;>conv=>whnf
  all_goals first
   |omega
   |(rw [e9];exact k8 ⟨rfl,show VC _ (fun id=>G3 [] id=true) _ _ from v4 rfl rfl (by intro h;cases h) rfl rfl (by rw [List.length_map]),trivial⟩)
def a8X (i:Nat):Rat:=if i % 2=0 then 1 else -1
theorem b1P (i:Nat):a8X (i+1)=-(a8X i):=by
 unfold a8X
 by_cases h:i % 2=0
 ·rw [if_pos h,if_neg (by omega)]
 ·rw [if_neg h,if_pos (by omega)];grind
def y9 (i:Nat) (M:Nat->Nat->Rat):Nat->Nat->Rat:=fun r c=>M (if r<i then r else r+1) (c+1)
def I6:Nat->(Nat->Nat->Rat)->Rat
 |0,_=>1
 |n+1,M=>g7 (fun i=>a8X i*M i 0*I6 n (y9 i M)) (n+1)
theorem N8 (n:Nat) (M:Nat->Nat->Rat):I6 (n+1) M=g7 (fun i=>a8X i*M i 0*I6 n (y9 i M)) (n+1):=rfl
theorem a1i:∀{n:Nat} {M N:Nat->Nat->Rat},(∀ i j,i<n->j<n->M i j=N i j)->I6 n M=I6 n N
 |0,_,_,_=>rfl
 |n+1,M,N,h=>by
  rw [N8,N8]
  refine f7 fun i hi=>?_
  rw [h i 0 hi (by omega),a1i (n:=n) (M:=y9 i M) (N:=y9 i N) fun r c hr hc=>?_]
  unfold y9
  split
  ·exact h _ _ (by omega) (by omega)
  ·exact h _ _ (by omega) (by omega)
def D8 (M:Nat->Nat->Rat) (r:Nat) (v:Nat->Rat):Nat->Nat->Rat:=fun i=>if i=r then v else M i
theorem a7H {M:Nat->Nat->Rat} {r:Nat}:D8 M r (M r)=M:=by
 funext i;unfold D8;by_cases h:i=r
 ·rw [if_pos h,h]
 ·rw [if_neg h]
theorem a9v {M:Nat->Nat->Rat} {r:Nat} {v:Nat->Rat}:y9 r (D8 M r v)=y9 r M:=by
 funext a c;unfold y9 D8
 by_cases h:a<r
 ·rw [if_pos h,if_neg (by omega)]
 ·rw [if_neg h,if_neg (by omega)]
theorem a9p {M:Nat->Nat->Rat} {i r:Nat} {v:Nat->Rat} (h:i<r):y9 i (D8 M r v)=D8 (y9 i M) (r - 1) (fun c=>v (c+1)):=by
 funext a c;unfold y9 D8
 by_cases ha:a<i
 ·simp only [if_pos ha]
  rw [if_neg (by omega),if_neg (by omega)]
 ·simp only [if_neg ha]
  by_cases h2:a+1=r
  ·rw [if_pos h2,if_pos (by omega)]
  ·rw [if_neg h2,if_neg (by omega)]
theorem ae8 {M:Nat->Nat->Rat} {i r:Nat} {v:Nat->Rat} (h:r<i):y9 i (D8 M r v)=D8 (y9 i M) r (fun c=>v (c+1)):=by
 funext a c;unfold y9 D8
 by_cases ha:a<i
 ·simp only [if_pos ha]
  by_cases h2:a=r
  ·rw [if_pos h2,if_pos h2]
  ·rw [if_neg h2,if_neg h2]
 ·simp only [if_neg ha]
  rw [if_neg (by omega),if_neg (by omega)]
theorem a5c:∀{n:Nat} {M:Nat->Nat->Rat} {r:Nat} {a b:Rat} {v w:Nat->Rat},r<n->I6 n (D8 M r fun c=>a*v c+b*w c)=a*I6 n (D8 M r v)+b*I6 n (D8 M r w)
 |0,_,_,_,_,_,_,h=>by omega
 |n+1,M,r,a,b,v,w,h=>by
  rw [N8,N8,N8,←E4,←E4,←a0z]
  refine f7 fun i hi=>?_
  by_cases e:i=r
  ·subst e
   rw [a9v,a9v,a9v]
   unfold D8
   simp only [if_true]
   grind
  ·have e2:∀u:Nat->Rat,D8 M r u i 0=M i 0:=fun u=>by unfold D8;rw [if_neg e]
   rw [e2,e2,e2]
   by_cases h2:i<r
   ·rw [a9p h2,a9p h2,a9p h2,a5c (n:=n) (M:=y9 i M) (r:=r - 1) (a:=a) (b:=b) (v:=fun c=>v (c+1)) (w:=fun c=>w (c+1)) (by omega)]
    grind
   ·rw [ae8 (by omega),ae8 (by omega),ae8 (by omega),a5c (n:=n) (M:=y9 i M) (r:=r) (a:=a) (b:=b) (v:=fun c=>v (c+1)) (w:=fun c=>w (c+1)) (by omega)]
    grind
theorem b0T {f:Nat->Rat} {r:Nat}:∀{n:Nat},r+1<n->(∀ i,i<n->i≠r->i≠r+1->f i=0)->g7 f n=f r+f (r+1)
 |0,h,_=>by omega
 |n+1,h,h0=>by
  show g7 f n+f n=_
  by_cases e:n=r+1
  ·subst e
   show g7 f r+f r+f (r+1)=_
   rw [v7 fun j hj=>h0 j (by omega) (by omega) (by omega)];grind
  ·rw [b0T (r:=r) (by omega) (fun i hi=>h0 i (by omega)),h0 n (by omega) (by omega) e];grind
theorem a4P:∀{n:Nat} {M:Nat->Nat->Rat} {r:Nat},r+1<n->M r=M (r+1)->I6 n M=0
 |0,_,_,h,_=>by omega
 |n+1,M,r,h,he=>by
  rw [N8,b0T h fun i hi h1 h2=>?_]
  ·have em:y9 r M=y9 (r+1) M:=by
    funext a c;unfold y9
    by_cases h1:a<r
    ·rw [if_pos h1,if_pos (by omega)]
    ·rw [if_neg h1]
     by_cases h2:a<r+1
     ·have:a=r:=by omega
      subst this
      rw [if_pos h2,he]
     ·rw [if_neg h2]
   rw [em,he,b1P];grind
  ·by_cases hlt:i<r
   ·rw [a4P (n:=n) (M:=y9 i M) (r:=r - 1) (by omega) (by
     funext c;unfold y9
     rw [if_neg (by omega),if_neg (by omega),show r - 1+1=r by omega,he])]
    grind
   ·rw [a4P (n:=n) (M:=y9 i M) (r:=r) (by omega) (by
     funext c;unfold y9
     rw [if_pos (by omega),if_pos (by omega),he])]
    grind
theorem a4N {M:Nat->Nat->Rat} {r s:Nat} {v w:Nat->Rat} (h:r≠s):D8 (D8 M r v) s w=D8 (D8 M s w) r v:=by
 funext i;unfold D8
 by_cases h1:i=r
 ·subst h1;rw [if_neg h,if_pos rfl,if_pos rfl]
 ·rw [if_neg h1]
  by_cases h2:i=s
  ·simp only [if_pos h2,if_neg h1]
  ·simp only [if_neg h2,if_neg h1]
theorem a0F {M:Nat->Nat->Rat} {r:Nat} {v:Nat->Rat}:D8 M r v r=v:=by unfold D8;rw [if_pos rfl]
theorem a00 {M:Nat->Nat->Rat} {r i:Nat} {v:Nat->Rat} (h:i≠r):D8 M r v i=M i:=by unfold D8;rw [if_neg h]
theorem at9 {n:Nat} {M:Nat->Nat->Rat} {r:Nat} (v w:Nat->Rat) (h:r<n):I6 n (D8 M r fun c=>v c+w c)=I6 n (D8 M r v)+I6 n (D8 M r w):=by
 have:=a5c (M:=M) (a:=1) (b:=1) (v:=v) (w:=w) h
 have e:(fun c=>(1:Rat)*v c+1*w c)=fun c=>v c+w c:=by funext c;grind
 rw [e] at this;grind
theorem b30 {n:Nat} {M:Nat->Nat->Rat} {r:Nat} (h:r+1<n) (v w:Nat->Rat):I6 n (D8 (D8 M r v) (r+1) w)=-(I6 n (D8 (D8 M r w) (r+1) v)):=by
 have key:I6 n (D8 (D8 M r fun c=>v c+w c) (r+1) fun c=>v c+w c)=0:=a4P h (by rw [a0F,a00 (by omega),a0F])
 rw [at9 v w h,a4N (show r≠r+1 by omega),a4N (show r≠r+1 by omega),at9 v w (by omega),at9 v w (by omega)] at key
 have z1:I6 n (D8 (D8 M (r+1) v) r v)=0:=a4P h (by rw [a0F,a00 (by omega),a0F])
 have z2:I6 n (D8 (D8 M (r+1) w) r w)=0:=a4P h (by rw [a0F,a00 (by omega),a0F])
 rw [z1,z2] at key
 rw [a4N (show r≠r+1 by omega),a4N (show r≠r+1 by omega)]
 grind
theorem aV9:∀(d:Nat) {n:Nat} {M:Nat->Nat->Rat} {r s:Nat},s=r+1+d->s<n->M r=M s->I6 n M=0
 |0,n,M,r,s,hs,hn,he=>by subst hs;exact a4P hn he
 |d+1,n,M,r,s,hs,hn,he=>by
  obtain ⟨q,rfl⟩:∃q,s=q+1:=⟨s - 1,by omega⟩
  have e1:M=D8 (D8 M q (M q)) (q+1) (M (q+1)):=by rw [a7H,a7H]
  rw [e1,b30 hn]
  have:=aV9 d (n:=n) (M:=D8 (D8 M q (M (q+1))) (q+1) (M q)) (r:=r) (s:=q) (by omega) (by omega) (by
   rw [a00 (by omega),a00 (by omega),a00 (by omega),a0F,he])
  rw [this];grind
theorem b4V {n:Nat} {M:Nat->Nat->Rat} {r s:Nat} (hr:r<n) (hs:s<n) (h:r≠s) (he:M r=M s):I6 n M=0:=by
 by_cases hlt:r<s
 ·exact aV9 (s - r - 1) (by omega) hs he
 ·exact aV9 (r - s - 1) (r:=s) (s:=r) (by omega) hr he.symm
theorem b1c {n:Nat} {M:Nat->Nat->Rat} {r:Nat} (hr:r<n) (c:Nat->Rat) (v:Nat->Nat->Rat):∀k,I6 n (D8 M r fun l=>g7 (fun i=>c i*v i l) k)=g7 (fun i=>c i*I6 n (D8 M r (v i))) k
 |0=>by
  have:=a5c (M:=M) (a:=0) (b:=0) (v:=fun _=>0) (w:=fun _=>0) hr
  have e:(fun l:Nat=>g7 (fun i=>c i*v i l) 0)=fun _=>(0:Rat)*0+0*0:=by funext l;show (0:Rat)=_;grind
  rw [e,this];show _=(0:Rat);grind
 |k+1=>by
  have ih:=b1c (M:=M) hr c v k
  have:=a5c (M:=M) (a:=1) (b:=c k) (v:=fun l=>g7 (fun i=>c i*v i l) k) (w:=v k) hr
  have e:(fun l=>g7 (fun i=>c i*v i l) (k+1))=fun l=>(1:Rat)*g7 (fun i=>c i*v i l) k+c k*v k l:=by funext l;show g7 _ k+_=_;grind
  rw [e,this,ih];show _=g7 _ k+_;grind
theorem ae6 {n:Nat} {M:Nat->Nat->Rat} {c:Nat->Rat} {u:Nat->Rat} (hu:∀l,l<n->u l=g7 (fun k=>c k*M k l) n) {j:Nat} (hj:j<n):I6 n (D8 M j u)=c j*I6 n M:=by
 have e:I6 n (D8 M j u)=I6 n (D8 M j fun l=>g7 (fun k=>c k*M k l) n):=a1i fun a b ha hb=>by
  unfold D8
  split
  ·exact hu b hb
  ·rfl
 rw [e,b1c hj,C0 hj,a7H,v7 fun k hk=>?_]
 ·grind
 ·by_cases h:k=j
  ·rw [if_pos h]
  ·rw [if_neg h,b4V (r:=k) (s:=j) hk hj h (by rw [a00 h,a0F])];grind
theorem aW5 (i:Nat):∃z:Int,a8X i=((z:Int):Rat)∧z.natAbs=1:=by
 unfold a8X
 split
 ·exact ⟨1,rfl,rfl⟩
 ·exact ⟨-1,rfl,rfl⟩
def a6T:Nat->(Nat->Nat)->Nat
 |0,_=>1
 |n+1,B=>(n+1)*(B 0*a6T n fun c=>B (c+1))
theorem aC9 {f:Nat->Rat} {B:Nat}:∀{n:Nat},(∀ i,i<n->∃z:Int,f i=((z:Int):Rat)∧z.natAbs<=B)->∃z:Int,g7 f n=((z:Int):Rat)∧z.natAbs<=n*B
 |0,_=>⟨0,rfl,by simp⟩
 |n+1,h=>by
  obtain ⟨a,ha,ha2⟩:=aC9 (n:=n) fun i hi=>h i (by omega)
  obtain ⟨b,hb,hb2⟩:=h n (by omega)
  refine ⟨a+b,by show g7 f n+f n=_;rw [ha,hb];push_cast;rfl,?_⟩
  have:=Int.natAbs_add_le a b
  rw [Nat.succ_mul];omega
theorem a4Y:∀{n:Nat} {M:Nat->Nat->Rat} {B:Nat->Nat},(∀ i j,i<n->j<n->∃z:Int,M i j=((z:Int):Rat)∧z.natAbs<=B j)->∃z:Int,I6 n M=((z:Int):Rat)∧z.natAbs<=a6T n B
 |0,_,_,_=>⟨1,rfl,by simp [a6T]⟩
 |n+1,M,B,h=>by
  rw [N8]
  refine aC9 fun i hi=>?_
  obtain ⟨a,ha,ha2⟩:=aW5 i
  obtain ⟨b,hb,hb2⟩:=h i 0 hi (by omega)
  obtain ⟨c,hc,hc2⟩:=a4Y (n:=n) (M:=y9 i M) (B:=fun c=>B (c+1)) fun r c hr hc=>by
   unfold y9
   split
   ·exact h _ _ (by omega) (by omega)
   ·exact h _ _ (by omega) (by omega)
  refine ⟨a*b*c,by rw [ha,hb,hc];push_cast;rfl,?_⟩
  rw [Int.natAbs_mul,Int.natAbs_mul,ha2,Nat.one_mul]
  exact Nat.mul_le_mul hb2 hc2
theorem a1J {f:Nat->Rat}:∀n:Nat,g7 f (n+1)=f 0+g7 (fun l=>f (l+1)) n
 |0=>by simp only [g7];grind
 |n+1=>by
  have ih:=a1J (f:=f) n
  have e:g7 f (n+1+1)=g7 f (n+1)+f (n+1):=rfl
  rw [e,ih]
  simp only [g7];grind
def a3T:Nat->Nat->Rat:=fun i j=>if i=j then 1 else 0
theorem b0F:∀n,I6 n a3T=1
 |0=>rfl
 |n+1=>by
  rw [N8,a1J (f:=fun i=>a8X i*a3T i 0*I6 n (y9 i a3T)),v7 fun i hi=>?_]
  ·have e:y9 0 a3T=a3T:=by
    funext a c;unfold y9 a3T
    simp
   rw [e,b0F n]
   have:a8X 0=1:=rfl
   have h2:a3T 0 0=1:=rfl
   rw [this,h2];grind
  ·have:a3T (i+1) 0=0:=by unfold a3T;rw [if_neg (by omega)]
   rw [this];grind
section
def uV (n:Nat) (D0:Fd) (w:Nat):Nat->Rat
 |0=>if w<n then 0 else D0.V (w - n)
 |l+1=>if w<n then (if w=l then 1 else 0) else -(D0.A (w - n) l)
def uG (g0:Nat->Rat):Nat->Rat
 |0=>0
 |l+1=>g0 l
structure a1k (m n:Nat) (D:Fd):Prop where
 o:∀i,i<m->D.O i=n+i
 f:∀j,j<n->D.F j=j
def muF (n:Nat) (D0 D:Fd):Nat->Nat->Rat
 |0=>a3T 0
 |j+1=>uV n D0 (D.F j)
theorem b52 {m n:Nat} {D0:Fd} (h0:a1k m n D0) (l:Nat) (hl:l<n+1):Ids m n D0 (fun w=>uV n D0 w l) (a3T 0 l):=by
 intro i hi
 rw [h0.o i hi]
 rw [f7 (g:=fun j=>D0.A i j*uV n D0 j l) fun j hj=>by rw [h0.f j hj]]
 cases l with
 |zero=>
  rw [v7 fun j hj=>by show D0.A i j*(if j<n then (0:Rat) else _)=0;rw [if_pos hj];grind]
  show (if n+i<n then (0:Rat) else D0.V (n+i - n))=a3T 0 0*D0.V i - 0
  rw [if_neg (by omega),show n+i - n=i by omega]
  have:a3T 0 0=1:=rfl
  rw [this];grind
 |succ l=>
  rw [f7 (g:=fun j=>if j=l then D0.A i l else 0) fun j hj=>by
   show D0.A i j*(if j<n then (if j=l then (1:Rat) else 0) else _)=_
   rw [if_pos hj]
   by_cases h:j=l
   ·subst h;rw [if_pos rfl,if_pos rfl];grind
   ·rw [if_neg h,if_neg h];grind]
  rw [C0 (s:=l) (by omega),if_pos rfl,v7 fun j hj=>by
   by_cases h:j=l
   ·rw [if_pos h]
   ·rw [if_neg h,if_neg h]]
  show (if n+i<n then _ else -(D0.A (n+i - n) l))=a3T 0 (l+1)*D0.V i - _
  rw [if_neg (by omega),show n+i - n=i by omega]
  have:a3T 0 (l+1)=0:=rfl
  rw [this];grind
section
variable {m n:Nat} {D0 D:Fd}
def coV (D:Fd) (i:Nat):Nat->Rat
 |0=>D.V i
 |j+1=>-(D.A i j)
def coG (z:Rat) (D:Fd):Nat->Rat
 |0=>z
 |j+1=>D.G j
theorem aZ4 (h0:a1k m n D0) (hI:∀y c,Ids m n D0 y c↔Ids m n D y c) {i:Nat} (hi:i<m):∀l,l<n+1->uV n D0 (D.O i) l=g7 (fun k=>coV D i k*muF n D0 D k l) (n+1):=by
 intro l hl
 have h:=(hI _ _).1 (b52 h0 l hl) i hi
 rw [h,a1J]
 show _=D.V i*a3T 0 l+g7 (fun j=>-(D.A i j)*uV n D0 (D.F j) l) n
 rw [f7 (f:=fun j=>-(D.A i j)*uV n D0 (D.F j) l) (g:=fun j=>(-1:Rat)*(D.A i j*uV n D0 (D.F j) l)) fun j hj=>by grind,E4]
 grind
theorem b62 (h0:a1k m n D0) (hI:∀y c,Ids m n D0 y c↔Ids m n D y c) {g0:Nat->Rat} {z:Rat} (hg:X3 n D g0 m z):∀l,l<n+1->uG g0 l=g7 (fun k=>coG z D k*muF n D0 D k l) (n+1):=by
 intro l hl
 have h:=hg _ _ ((hI _ _).1 (b52 h0 l hl))
 rw [a1J]
 show _=z*a3T 0 l+g7 (fun j=>D.G j*uV n D0 (D.F j) l) n
 have e:g7 (fun j=>g0 j*uV n D0 j l) n=uG g0 l:=by
  cases l with
  |zero=>rw [v7 fun j hj=>by show g0 j*(if j<n then (0:Rat) else _)=0;rw [if_pos hj];grind];rfl
  |succ l=>
   rw [f7 (g:=fun j=>if j=l then g0 l else 0) fun j hj=>by
    show g0 j*(if j<n then (if j=l then (1:Rat) else 0) else _)=_
    rw [if_pos hj]
    by_cases h:j=l
    ·subst h;rw [if_pos rfl,if_pos rfl];grind
    ·rw [if_neg h,if_neg h];grind]
   rw [C0 (s:=l) (by omega),if_pos rfl,v7 fun j hj=>by
    by_cases h:j=l
    ·rw [if_pos h]
    ·rw [if_neg h,if_neg h]]
   show _=g0 l
   grind
 rw [← e,h]
 grind
theorem b9d (h0:a1k m n D0) (hI:∀y c,Ids m n D0 y c↔Ids m n D y c) {i:Nat} (hi:i<m):I6 (n+1) (D8 (muF n D0 D) 0 (uV n D0 (D.O i)))=D.V i*I6 (n+1) (muF n D0 D):=ae6 (aZ4 h0 hI hi) (j:=0) (by omega)
theorem b7k (h0:a1k m n D0) (hI:∀y c,Ids m n D0 y c↔Ids m n D y c) {i j:Nat} (hi:i<m) (hj:j<n):I6 (n+1) (D8 (muF n D0 D) (j+1) (uV n D0 (D.O i)))=-(D.A i j)*I6 (n+1) (muF n D0 D):=ae6 (aZ4 h0 hI hi) (j:=j+1) (by omega)
theorem b9P (h0:a1k m n D0) (hI:∀y c,Ids m n D0 y c↔Ids m n D y c) {g0:Nat->Rat} {z:Rat} (hg:X3 n D g0 m z) {j:Nat} (hj:j<n):I6 (n+1) (D8 (muF n D0 D) (j+1) (uG g0))=D.G j*I6 (n+1) (muF n D0 D):=ae6 (b62 h0 hI hg) (j:=j+1) (by omega)
theorem b1T (h0:a1k m n D0):I6 (n+1) (muF n D0 D0)=1:=by
 rw [← b0F (n+1)]
 refine a1i fun i j hi hj=>?_
 cases i with
 |zero=>rfl
 |succ i=>
  show uV n D0 (D0.F i) j=_
  rw [h0.f i (by omega)]
  cases j with
  |zero=>show (if i<n then (0:Rat) else _)=_;rw [if_pos (by omega)];rfl
  |succ j=>
   show (if i<n then (if i=j then (1:Rat) else 0) else _)=_
   rw [if_pos (by omega)]
   unfold a3T
   by_cases h:i=j
   ·rw [if_pos h,if_pos (by omega)]
   ·rw [if_neg h,if_neg (by omega)]
theorem b4H (h0:a1k m n D0) (hI:∀y c,Ids m n D0 y c↔Ids m n D y c) {r s:Nat} (hr:r<m) (hs:s<n):I6 (n+1) (muF n D0 (D.exch r s))=-(D.A r s)*I6 (n+1) (muF n D0 D):=by
 rw [← b7k h0 hI hr hs]
 refine a1i fun i j hi hj=>?_
 cases i with
 |zero=>rfl
 |succ i=>
  show uV n D0 ((D.exch r s).F i) j=D8 (muF n D0 D) (s+1) (uV n D0 (D.O r)) (i+1) j
  rw [a1W]
  by_cases h:i=s
  ·subst h;rw [if_pos rfl,a0F]
  ·rw [if_neg h,a00 (by omega)];rfl
end
theorem b4I {m n:Nat} {D0:Fd} {g0:Nat->Rat} (h0:a1k m n D0) (hv:a5Q m n D0 g0 D0):∀{k:Nat} {D:Fd},itS m n k D0=some D->I6 (n+1) (muF n D0 D)≠0
 |0,D,h=>by injection h with h;subst h;rw [b1T h0];decide
 |k+1,D,h=>by
  rw [a02] at h
  cases hk:itS m n k D0 with
  |none=>rw [hk] at h;cases h
  |some D1=>
   rw [hk] at h
   have h:G1 m n D1=some D:=h
   obtain ⟨r,s,hs,rfl⟩:=a5E h
   obtain ⟨h1,h2,h3⟩:=a5h hs
   have hp:=a79 h3
   rw [b4H h0 (a2N hv hk).i h1 h2]
   intro e
   rcases Rat.mul_eq_zero.1 e with e|e
   ·exact hp (by grind)
   ·exact b4I h0 hv hk e
def b74 (K:Rat) (M:Nat->Nat->Rat):Nat->Nat->Rat:=fun i j=>if j=0 then K*M i 0 else M i j
theorem b61 (n:Nat) (K:Rat) (M:Nat->Nat->Rat):I6 (n+1) (b74 K M)=K*I6 (n+1) M:=by
 rw [N8,N8,←E4]
 refine f7 fun i hi=>?_
 have e:y9 i (b74 K M)=y9 i M:=by
  funext a c;unfold y9 b74;rw [if_neg (by omega)]
 rw [e]
 show a8X i*(if (0:Nat)=0 then K*M i 0 else _)*_=_
 rw [if_pos rfl];grind
theorem as9 {n:Nat} {M:Nat->Nat->Rat} {r:Nat} (hr:r<n) (h:∀c,c<n->M r c=0):I6 n M=0:=by
 have e:I6 n M=I6 n (D8 M r fun c=>(0:Rat)*0+0*0):=a1i fun i j hi hj=>by
  unfold D8
  by_cases hir:i=r
  ·subst hir;rw [if_pos rfl,h j hj];grind
  ·rw [if_neg hir]
 rw [e,a5c (v:=fun _=>0) (w:=fun _=>0) hr];grind
theorem b0e {n:Nat} {M:Nat->Nat->Rat} (h1:M 0 0=1) (h0:∀c,c<n->M 0 (c+1)=0):I6 (n+1) M=I6 n (y9 0 M):=by
 rw [N8,a1J (f:=fun i=>a8X i*M i 0*I6 n (y9 i M)),v7 fun i hi=>?_]
 ·have:a8X 0=1:=rfl
  rw [this,h1];grind
 ·rw [as9 (n:=n) (M:=y9 (i+1) M) (r:=0) (by omega) fun c hc=>by
   unfold y9;rw [if_pos (by omega)];exact h0 c hc]
  grind
structure aP7 (m n K BV BA BG:Nat) (D0:Fd) (g0:Nat->Rat):Prop where
 k:0<K
 v:∀i,i<m->∃z:Int,(K:Rat)*D0.V i=((z:Int):Rat)∧z.natAbs<=BV
 a:∀i j,i<m->j<n->∃z:Int,D0.A i j=((z:Int):Rat)∧z.natAbs<=BA
 g:∀j,j<n->∃z:Int,g0 j=((z:Int):Rat)∧z.natAbs<=BG
 a1:1<=BA
 ag:BA<=BG
theorem ax8 {m n K BV BA BG:Nat} {D0:Fd} {g0:Nat->Rat} (h:aP7 m n K BV BA BG D0 g0) {w l:Nat} (hw:w<n+m) (hl:l<n):∃z:Int,uV n D0 w (l+1)=((z:Int):Rat)∧z.natAbs<=BA:=by
 have:=h.a1
 show ∃z:Int,(if w<n then (if w=l then (1:Rat) else 0) else -(D0.A (w - n) l))=_∧_
 by_cases h1:w<n
 ·rw [if_pos h1]
  by_cases h2:w=l
  ·rw [if_pos h2];exact ⟨1,rfl,by simpa using this⟩
  ·rw [if_neg h2];exact ⟨0,rfl,by simp⟩
 ·rw [if_neg h1]
  obtain ⟨z,hz,hb⟩:=h.a (w - n) l (by omega) hl
  exact ⟨-z,by rw [hz];push_cast;rfl,by rw [Int.natAbs_neg];exact hb⟩
theorem b6c {m n K BV BA BG:Nat} {D0:Fd} {g0:Nat->Rat} (h:aP7 m n K BV BA BG D0 g0) {w:Nat} (hw:w<n+m):∃z:Int,(K:Rat)*uV n D0 w 0=((z:Int):Rat)∧z.natAbs<=BV:=by
 show ∃z:Int,(K:Rat)*(if w<n then (0:Rat) else D0.V (w - n))=_∧_
 by_cases h1:w<n
 ·rw [if_pos h1];exact ⟨0,by show _=(0:Rat);grind,by simp⟩
 ·rw [if_neg h1];exact h.v _ (by omega)
theorem b5W {m n K BV BA BG:Nat} {D0 D:Fd} {g0:Nat->Rat} (h:aP7 m n K BV BA BG D0 g0) (hf:∀j,j<n->D.F j<n+m):∃z:Int,I6 (n+1) (muF n D0 D)=((z:Int):Rat)∧z.natAbs<=a6T n fun _=>BA:=by
 rw [b0e (M:=muF n D0 D) rfl fun c hc=>rfl]
 refine a4Y fun i j hi hj=>?_
 unfold y9
 rw [if_neg (by omega)]
 exact ax8 h (hf i hi) hj
theorem aG2 {m n K BV BA BG:Nat} {D0 D:Fd} {g0:Nat->Rat} (h:aP7 m n K BV BA BG D0 g0) (hf:∀j,j<n->D.F j<n+m) {B:Nat} {u:Nat->Rat} (hB:BA<=B) (hu:∀l,l<n->∃z:Int,u (l+1)=((z:Int):Rat)∧z.natAbs<=B) (j:Nat):∃z:Int,I6 (n+1) (D8 (muF n D0 D) (j+1) u)=((z:Int):Rat)∧z.natAbs<=a6T n fun _=>B:=by
 rw [b0e (M:=D8 (muF n D0 D) (j+1) u) (by rw [a00 (by omega)];rfl) fun c hc=>by rw [a00 (by omega)];rfl]
 refine a4Y fun i k hi hk=>?_
 have em:y9 0 (D8 (muF n D0 D) (j+1) u) i k=D8 (muF n D0 D) (j+1) u (i+1) (k+1):=by unfold y9;rw [if_neg (by omega)]
 rw [em]
 by_cases e:i+1=j+1
 ·rw [e,a0F];exact hu k hk
 ·rw [a00 e]
  obtain ⟨z,hz,hb⟩:=ax8 h (hf i hi) hk
  exact ⟨z,hz,by omega⟩
theorem b2I {m n K BV BA BG:Nat} {D0 D:Fd} {g0:Nat->Rat} (h:aP7 m n K BV BA BG D0 g0) (hf:∀j,j<n->D.F j<n+m) {w:Nat} (hw:w<n+m):∃z:Int,(K:Rat)*I6 (n+1) (D8 (muF n D0 D) 0 (uV n D0 w))=((z:Int):Rat)∧z.natAbs<=a6T (n+1) fun c=>if c=0 then BV else BA:=by
 rw [← b61]
 refine a4Y fun i j hi hj=>?_
 have key:∀w,w<n+m->∃z:Int,(if j=0 then (K:Rat)*uV n D0 w 0 else uV n D0 w j)=((z:Int):Rat)∧z.natAbs<=if j=0 then BV else BA:=fun w hw=>by
  by_cases h1:j=0
  ·rw [if_pos h1,if_pos h1];exact b6c h hw
  ·rw [if_neg h1,if_neg h1]
   obtain ⟨l,rfl⟩:∃l,j=l+1:=⟨j - 1,by omega⟩
   exact ax8 h hw (by omega)
 unfold b74 D8
 cases i with
 |zero=>simp only [if_true];exact key w hw
 |succ i=>
  simp only [if_neg (show i+1≠0 by omega)]
  exact key (D.F i) (hf i (by omega))
theorem a91 {x:Rat} {p q:Int} (hq:q≠0) (h:((q:Int):Rat)*x=((p:Int):Rat)):rl x<=max (bl p) (bl q):=by
 have hqn:((q:Int):Rat)≠0:=by intro e;exact hq (by exact_mod_cast e)
 have e:x=Rat.divInt p q:=by
  rw [Rat.divInt_eq_div,←h]
  rw [Rat.mul_comm,Rat.div_def,Rat.mul_assoc,Rat.mul_inv_cancel _ hqn];grind
 rw [e];exact Q1 hq
theorem a5S {z:Int} {X k:Nat} (h:z.natAbs<=X) (hX:(X:Int)<pw k):bl z<=k:=O3 (by omega)
theorem aO6 {m n K BV BA BG b:Nat} {D0 D:Fd} {g0:Nat->Rat} (h0:a1k m n D0) (h:aP7 m n K BV BA BG D0 g0) (hv:a5Q m n D0 g0 D0) (hD:W5 m n D0 D)
 (b1:((a6T (n+1) fun c=>if c=0 then BV else BA:Nat):Int)<pw b) (b2:((a6T n fun _=>BG:Nat):Int)<pw b) (b3:((K*a6T n fun _=>BA:Nat):Int)<pw b) (b4:((a6T n fun _=>BA:Nat):Int)<pw b):
 (∀ i,i<m->rl (D.V i)<=b)∧(∀ i j,i<m->j<n->rl (D.A i j)<=b)∧∀j,j<n->rl (D.G j)<=b:=by
 obtain ⟨k,hk⟩:=hD
 have hi:=a2N hv hk
 have hn:=b4I h0 hv hk
 obtain ⟨d,hd,hdb⟩:=b5W h (D:=D) hi.p.fb
 rw [hd] at hn
 have hd0:d≠0:=fun e=>hn (by rw [e];rfl)
 refine ⟨fun i him=>?_,fun i j him hj=>?_,fun j hj=>?_⟩
 ·obtain ⟨p,hp,hpb⟩:=b2I h (D:=D) hi.p.fb (hi.p.ob i him)
  rw [b9d h0 hi.i him,hd] at hp
  have hK:=h.k
  have e:=a91 (x:=D.V i) (p:=p) (q:=(K:Int)*d) (by
   intro e
   rcases Int.mul_eq_zero.1 e with e|e
   ·omega
   ·exact hd0 e) (by rw [← hp];push_cast;grind)
  have q1:=a5S hpb b1
  have q2:bl ((K:Int)*d)<=b:=a5S (X:=K*a6T n fun _=>BA) (by rw [Int.natAbs_mul];exact Nat.mul_le_mul (by simp) hdb) b3
  omega
 ·obtain ⟨p,hp,hpb⟩:=aG2 h (D:=D) hi.p.fb (Nat.le_refl _) (u:=uV n D0 (D.O i)) (fun l hl=>ax8 h (hi.p.ob i him) hl) j
  rw [b7k h0 hi.i him hj,hd] at hp
  have e:=a91 (x:=-(D.A i j)) (p:=p) (q:=d) hd0 (by rw [← hp];grind)
  rw [S7] at e
  have q1:=a5S hpb b4
  have q2:=a5S hdb b4
  omega
 ·obtain ⟨z,hz⟩:=hi.g
  obtain ⟨p,hp,hpb⟩:=aG2 h (D:=D) hi.p.fb h.ag (u:=uG g0) (fun l hl=>h.g l hl) j
  rw [b9P h0 hi.i hz hj,hd] at hp
  have e:=a91 (x:=D.G j) (p:=p) (q:=d) hd0 (by rw [← hp];grind)
  have q1:=a5S hpb b2
  have q2:=a5S hdb b4
  omega
end
def ae9 (v:Rat):Prop:=∃z:Int,((1000:Nat):Rat)*v=((z:Int):Rat)∧z.natAbs<=2305843009213693952
def b3g (w:D9):Prop:=E8 w.terms∧ae9 w.value
theorem b1F {x:Int} (h0:-1000000000000000<=x) (h1:x<=1000000000000000):ae9 ((x:Int):Rat):=⟨1000*x,by push_cast;rfl,by omega⟩
theorem a5X:ae9 0:=⟨0,by show _=(0:Rat);grind,by decide⟩
theorem b1R {x:Rat} (h:ae9 x):ae9 (-x):=by
 obtain ⟨z,h1,h2⟩:=h
 exact ⟨-z,by push_cast;rw [← h1];grind,by rw [Int.natAbs_neg];exact h2⟩
theorem b3z {cs:List K0} {rs:List y0} {scale reading day:Int} {lo hi:Rat} (h:C3 cs rs scale reading day=some (lo,hi)):ae9 hi:=by
 unfold C3 at h
 split at h
 ·cases h
 ·rename_i i hi
  obtain ⟨hb,c,hc,_,hcv⟩:=L4 hi
  have e:a0X cs i=c:=by unfold a0X;rw [hc];rfl
  rw [e] at h
  split at h
  ·cases h
  ·split at h
   ·rename_i hr
    injection h with h
    injection h with h1 h2
    rw [← h2]
    unfold J5 O6 at hcv
    rw [V5] at hr
    simp only [Bool.and_eq_true,decide_eq_true_eq,V5] at hcv
    obtain ⟨⟨⟨⟨⟨⟨⟨h1,h2⟩,h3⟩,_⟩,h4⟩,h5⟩,h6⟩,h7⟩:=hcv
    have e1:0<=c.permille*reading:=Int.mul_nonneg (by omega) (by omega)
    have e2:c.permille*reading<=1000*1099511627776:=Int.mul_le_mul (by omega) (by omega) (by omega) (by omega)
    have e3:0<=c.drift*(day - c.since):=Int.mul_nonneg (by omega) (by omega)
    have e4:c.drift*(day - c.since)<=10000000*100000:=Int.mul_le_mul (by omega) (by omega) (by omega) (by omega)
    refine ⟨1000*reading+(c.permille*reading+1000*(c.grams+c.drift*(day - c.since))),?_,by omega⟩
    unfold a2p
    have e5:((1000:Nat):Rat)*Rat.divInt (c.permille*reading) 1000=((c.permille*reading:Int):Rat):=by
     rw [Rat.divInt_eq_div]
     have:((1000:Nat):Rat)=((1000:Int):Rat):=rfl
     rw [this]
     rw [Rat.div_def,←Rat.mul_assoc,Rat.mul_comm (((1000:Int):Rat)),Rat.mul_assoc,Rat.mul_inv_cancel _ (by decide)];grind
    have e6:((1000:Nat):Rat)*((reading:Rat)+(Rat.divInt (c.permille*reading) 1000+((c.grams+c.drift*(day - c.since):Int):Rat)))=((1000:Nat):Rat)*(reading:Rat)+(((1000:Nat):Rat)*Rat.divInt (c.permille*reading) 1000+((1000:Nat):Rat)*((c.grams+c.drift*(day - c.since):Int):Rat)):=by grind
    rw [e6,e5];push_cast;rfl
   ·cases h
theorem b9k {t:e8} {kind:Int} (ht:v8 t=0):∀w ∈ (R0 t kind).rows,b3g w:=by
 classical
 obtain ⟨q1,q2,q3,q4,q5⟩:=n8 ht
 have key:(p9 t kind t.ev.moves.length).all (fun w=>decide (b3g w))=true:=(a0G _ (Nat.le_refl _)).2 fun i x hi hx=>by
  rw [List.all_eq_true]
  intro w hw
  refine decide_eq_true ?_
  unfold N6 at hw
  rw [List.mem_append,List.mem_append,List.mem_append] at hw
  rcases hw with ((hw|hw)|hw)|hw
  ·split at hw
   ·cases hw
   ·simp at hw;subst hw
    exact ⟨a89 (a5C _) (Y4 (by decide) (by decide)),a5X⟩
  ·unfold P4 at hw
   split at hw
   ·cases hw
   ·rename_i lo hi' hiv
    simp at hw;subst hw
    refine ⟨Y4 (by decide) (by decide),?_⟩
    unfold G0 at hiv
    split at hiv
    ·cases hiv
    ·exact b3z hiv
  ·obtain ⟨g,hg,rfl⟩:=List.mem_map.1 hw
   unfold j5 at hg
   obtain ⟨f,hf',rfl⟩:=List.mem_map.1 hg
   have:=E6 q4 f (List.mem_filter.1 hf').1
   exact ⟨Y4 (by decide) (by decide),b1F (by omega) (by omega)⟩
  ·rw [List.mem_replicate] at hw
   rw [hw.2]
   exact ⟨Y4 (by decide) (by decide),a5X⟩
 intro w hw
 exact of_decide_eq_true (List.all_eq_true.1 key w hw)
theorem a9N {c:Int} (h:bl c<=1):c.natAbs<=1048575:=by
 have h1:=O5 c.natAbs
 have h2:(dg c.natAbs).length<=1:=h
 have h3:pw (dg c.natAbs).length<=pw 1:=by
  have:(dg c.natAbs).length=0∨(dg c.natAbs).length=1:=by omega
  rcases this with h|h<;>rw [h]
  ·decide
  ·exact Int.le_refl _
 have h4:pw 1=1048576:=by decide
 omega
theorem b5l {b:Bool} {x:Rat} {c:Int} (h:x=((c:Int):Rat)):∃c':Int,U4 b x=((c':Int):Rat)∧c'.natAbs=c.natAbs:=by
 cases b with
 |false=>exact ⟨c,h,rfl⟩
 |true=>exact ⟨-c,by show -x=_;rw [h];push_cast;rfl,Int.natAbs_neg c⟩
theorem b6T {s:g8} {g:List (Int × Rat)}:a1k (g4 s).length s.n.toNat (i5 s g):=⟨fun _ _=>rfl,fun _ _=>rfl⟩
theorem b1z {s:g8} {g:List (Int × Rat)} (hI:∀w ∈ s.rows,b3g w) (hg:E8 g):aP7 (g4 s).length s.n.toNat 1000 2305843009213693952 1048575 1048575 (i5 s g) (fun j=>-(z7 g j)) where
 k:=by decide
 v:=fun i hi=>by
  obtain ⟨f,hf⟩:∃f,(g4 s)[i]? =some f:=⟨_,lg0 hi⟩
  obtain ⟨x,hx,_⟩:=Y6.1 (lg2 hf)
  have h2:=(hI x (lg2 hx)).2
  have hfd:(g4 s).getD i (0,false)=f:=by rw [lg3,hf];rfl
  have eV:(i5 s g).V i=U4 f.2 x.value:=by show a3N s ((g4 s).getD i (0,false))=_;rw [hfd];unfold a3N;rw [hx]
  rw [eV]
  cases f.2 with
  |false=>exact h2
  |true=>exact b1R h2
 a:=fun i j hi hj=>by
  obtain ⟨f,hf⟩:∃f,(g4 s)[i]? =some f:=⟨_,lg0 hi⟩
  obtain ⟨x,hx,_⟩:=Y6.1 (lg2 hf)
  have h1:=(hI x (lg2 hx)).1
  have hfd:(g4 s).getD i (0,false)=f:=by rw [lg3,hf];rfl
  have eA:(i5 s g).A i j=U4 f.2 (z7 x.terms j):=by show a29 s ((g4 s).getD i (0,false)) j=_;rw [hfd];unfold a29;rw [hx]
  rw [eA]
  obtain ⟨c,hc,hb⟩:=a1h h1 x.terms.length j
  obtain ⟨c',hc',hb'⟩:=b5l (b:=f.2) (x:=z7 x.terms j) hc
  exact ⟨c',hc',by rw [hb'];exact a9N hb⟩
 g:=fun j hj=>by
  obtain ⟨c,hc,hb⟩:=a1h hg g.length j
  exact ⟨-c,by rw [show z7 g j=((c:Int):Rat) from hc];push_cast;rfl,by rw [Int.natAbs_neg];exact a9N hb⟩
 a1:=by decide
 ag:=by decide
theorem b2r:∀n,n<10->((a6T (n+1) fun c=>if c=0 then 2305843009213693952 else 1048575:Nat):Int)<pw 15∧((a6T n fun _=>1048575:Nat):Int)<pw 15∧((1000*a6T n fun _=>1048575:Nat):Int)<pw 15:=by decide +kernel
structure a0t (s:g8):Prop where
 r:j0 s=true
 i:∀w ∈ s.rows,b3g w
 n:s.n<=9
 l:s.rows.length<=999
theorem b3n {s:g8} {g:List (Int × Rat)} (h:a0t s) (hg:E8 g):∀D,W5 (g4 s).length s.n.toNat (i5 s g) D->BdD (g4 s).length s.n.toNat 15 D:=by
 intro D hD
 have hn:=a0P h.r
 have:=h.n
 obtain ⟨p1,p2,p3⟩:=b2r s.n.toNat (by omega)
 obtain ⟨b1,b2,b3⟩:=aO6 b6T (b1z h.i hg) a2E hD p1 p2 p3 p2
 exact ⟨b1,fun i hi j hj=>b2 i j hi hj,b3⟩
theorem a6R {v:Rat} (h:ae9 v):rl v<=4:=by
 obtain ⟨z,h1,h2⟩:=h
 have:=a91 (x:=v) (p:=z) (q:=1000) (by decide) (by rw [← h1];rfl)
 have b1:bl z<=4:=a5S h2 (by decide)
 have b2:bl 1000<=4:=by have:=t4 (x:=1000) (by decide) (by decide);omega
 omega
theorem a6p {s:g8} {g:List (Int × Rat)} (h:a0t s) (hg:g9 (-1) ((s.n.toNat:Nat):Int) g=true) (hw:E8 g):K3 s g s.n.toNat 15:=by
 have hn:=a0P h.r
 have h9:=h.n
 have hl:=h.l
 have hwr:=P8 hw
 have rows:∀w ∈ s.rows,w.terms.length<=100∧(∀ t ∈ w.terms,rl t.2<=200)∧rl w.value<=200:=fun w hw=>by
  obtain ⟨i,hi,rfl⟩:=List.getElem_of_mem hw
  have hrt:=(Z8 h.r (lg0 hi)).1
  have h1:=E0 hrt
  have h2:=h.i _ (List.getElem_mem hi)
  exact ⟨by omega,fun t ht=>by have:=P8 h2.1 t ht;omega,by have:=a6R h2.2;omega⟩
 refine ⟨⟨h.r,hg,hn.symm,by omega,fun w hw=>?_,fun t ht=>by have:=hwr t ht;omega,by omega⟩,⟨by omega,rows⟩,fun t ht=>by have:=hwr t ht;omega,b3n h hw,by decide,?_,by omega⟩
 ·obtain ⟨a1,a2,a3⟩:=rows w hw
  exact ⟨by omega,fun t ht=>by have:=a2 t ht;omega⟩
 ·have:s.n.toNat<=9:=by omega
  have:=Nat.mul_le_mul_right (15+2) (show s.n.toNat+3<=12 by omega)
  omega
theorem b5V {s:g8} {g:List (Int × Rat)} (h:a0t s) (hg:g9 (-1) ((s.n.toNat:Nat):Int) g=true) (hw:E8 g):∀v ∈ B8 s g,rl v<=15:=b2c (a6p h hg hw)
theorem b7f {s:g8} {g:List (Int × Rat)} {n B c:Nat} (h:K3 s g n B) (hc:c<n) {j:Nat} (hj:j<n):rl (a0b (g4 s).length n (z9 s g) 0 (fun q=>if q=c then 1 else 0) j)<=B:=by
 have hb:=ac6 h
 have hB:=h.b1
 have hp:a0a (g4 s).length n (z9 s g):=by have hn:=h.nn;subst hn;exact S4.p
 rw [← b09 hp hc hj]
 have key:∀k,k<=(g4 s).length->rl (ptK n (z9 s g).O (fun i=>-((z9 s g).A i c)) (fun j=>if (z9 s g).F c<n∧j=(z9 s g).F c then 1 else 0) k j)<=B:=by
  intro k
  induction k with
  |zero=>
   intro _
   have:=rl0;have:=rl1
   show rl (if _ then (1:Rat) else 0)<=_
   split<;>omega
  |succ k ih=>
   intro hk
   rw [S0]
   simp only
   split
   ·rw [S7];exact hb.a k (by omega) c hc
   ·exact ih (by omega)
 exact key _ (Nat.le_refl _)
theorem b0D {x y:List Rat} {A B:Nat} (hx:∀v ∈ x,rl v<=A) (hy:∀v ∈ y,rl v<=B):∀v ∈ Y9 x y,rl v<=A+B+1:=by
 intro v hv
 unfold Y9 at hv
 obtain ⟨i,hi,rfl⟩:=List.getElem_of_mem hv
 rw [List.getElem_zipWith]
 rw [List.length_zipWith] at hi
 have h1:=hx _ (List.getElem_mem (show i<x.length by omega))
 have h2:=hy _ (List.getElem_mem (show i<y.length by omega))
 have:=a4e x[i] y[i]
 omega
theorem b3O {s:g8} {g:List (Int × Rat)} (h:a0t s) (hg:g9 (-1) ((s.n.toNat:Nat):Int) g=true) (hw:E8 g):∀v ∈ S2 s g,rl v<=31:=by
 unfold S2
 split
 ·rename_i c hc
  refine b0D (A:=15) (B:=15) (b5V h rfl (fun t ht=>by cases ht)) fun v hv=>?_
  have hl:=a6p h (Y2 hg) (a0n hw)
  unfold a5p at hv
  obtain ⟨j,hj,rfl⟩:=a4S hv
  exact b7f hl (a6Q hc).1 hj
 ·intro v hv
  have:=b5V h (Y2 hg) (a0n hw) v hv
  omega
theorem al2 {s:g8} {g:List (Int × Rat)}:(S2 s g).length=s.n.toNat:=by
 unfold S2
 split
 ·exact a1O (by unfold B8;rw [T3]) (by unfold a5p;rw [T3])
 ·unfold B8;rw [T3]
set_option maxHeartbeats 2000000 in
theorem b67 (n:Nat) (a b:Nat->Rat) (h0:0<n) (hn:n<=1000) (ha:∀j,j<n->rl (a j)<=60000) (hb:∀j,j<n->rl (b j)<=60000):
 a9 Tryz.prog 197 [n6 (rF n a),n6 (rF n b)] [] (n6 (rF n fun j=>a j+b j)) []:=by
 have m1:((rF n b).map s7).length=n:=by simp [M6]
 have cl:=a7n (rF n a) (by rw [M6];exact h0) (by rw [M6];omega)
 rw [M6] at cl
 have e9:rF n (fun j=>a j+b j)=rF n (smF a b n):=y5 fun j hj=>by unfold smF;rw [if_pos hj]
 rw [e9]
 (refine ac Tryz.func197 ?_;(conv=>whnf);repeat (refine zy ?_;conv=>whnf))
 repeat' (first|refine zz ?_|refine .inr ⟨_,_,cl,?_⟩|refine zd ?_ ?_<;>intro h<;>try omega|refine zy ?_|fail)<;>conv=>whnf
 refine f5 d7 (fun k=>([J,J,J,J,J,S.c (C.own 0 0 n true),J,J,J,J,n6 (rF n b),a7 .i64 n,a7 .i64 k,J,J,J,J,J,J,J,J,J,J,J,J,J,J,J,J,J,J],[flB (rF n (smF a b k))])) n (fun _=>True) [some 0] trivial
  ⟨rfl,rfl,⟨a8 (rows:=(rF n a).map s7) rfl rfl rfl rfl (by rw [y5 (g:=smF a b 0) (h:=a) fun j hj=>by unfold smF;rw [if_neg (by omega)]]),trivial⟩,⟨⟨rfl,rfl,rfl,fun h=>h⟩,i7 rfl,b9 (by omega),b9 rfl,trivial⟩⟩ ?_
 intro k hk _
 by_cases hlt:k<n
 ·have eK:0+(k:Int).toNat=k:=by omega
  have ad:=a39 (a k) (b k) (ha k hlt) (hb k hlt)
  have gp:(rF n (smF a b k))[0+(k:Int).toNat]? =some (fz (a k)):=by rw [eK,H6 hlt];unfold smF;rw [if_neg (by omega)]
  have e:x5 (flB (rF n (smF a b k))) ((flB (rF n (smF a b k))).rows.set (0+(k:Int).toNat) (frC (fz (a k+b k))))=flB (rF n (smF a b (k+1))):=by
   rw [I3 eK,R8 hlt]
   refine congrArg flB (y5 fun j hj=>?_)
   unfold smF
   by_cases h:j=k
   ·subst h;rw [if_pos rfl,if_pos (by omega)]
   ·rw [if_neg h]
    have:(j<k)↔(j<k+1):=by omega
    simp only [this]
  conv=>whnf
  repeat' (first|refine zz ?_|refine qp ad ?_|refine qp 10 ?_|refine a4I rfl hlt ?_|refine s9 gp ?_|refine bl0 [10] ?_|refine zd ?_ ?_<;>intro h<;>try omega|refine zy ?_|fail)<;>conv=>whnf
  all_goals first
   |omega
   |exact ⟨hlt,trivial,[some 0],rfl,rfl,⟨⟨rfl,rfl,rfl,.inl ⟨congrArg Blk.rows e,(congrArg Blk.rows e) ▸ d6 _⟩⟩,trivial⟩,⟨⟨rfl,rfl,rfl,fun h=>h⟩,rfl,rfl,b9 (by omega),trivial⟩⟩
 ·have hke:k=n:=by omega
  subst hke
  conv=>whnf
  repeat' (first|refine zz ?_|refine zd ?_ ?_<;>intro h<;>try omega|refine zy ?_|fail)<;>conv=>whnf
  all_goals first
   |omega
   |exact T7 rfl (fun h=>h) rfl rfl (by simp [M6])
theorem a0y (x:List Rat):x.map fz=rF x.length (fun j=>x.getD j 0):=by
 unfold rF
 refine List.ext_getElem? fun j=>?_
 rw [List.getElem?_map,List.getElem?_map]
 by_cases h:j<x.length
 ·rw [lg0 h,a5i h]
  simp [lg3,lg0 h]
 ·rw [List.getElem?_eq_none (by omega),List.getElem?_eq_none (by simp;omega)];rfl
theorem b3T (x y:List Rat) (h:x.length=y.length) (h0:0<x.length) (hn:x.length<=1000) (hx:∀v ∈ x,rl v<=60000) (hy:∀v ∈ y,rl v<=60000):
 a9 Tryz.prog 197 [n6 (x.map fz),n6 (y.map fz)] [] (n6 ((Y9 x y).map fz)) []:=by
 have gx:∀(x:List Rat),(∀ v ∈ x,rl v<=60000)->∀j,j<x.length->rl (x.getD j 0)<=60000:=fun x hx j hj=>by
  rw [lg3,lg0 hj];exact hx _ (List.getElem_mem hj)
 have r:=b67 x.length (fun j=>x.getD j 0) (fun j=>y.getD j 0) h0 hn (gx x hx) (fun j hj=>gx y hy j (by omega))
 rw [← a0y x] at r
 rw [show rF x.length (fun j=>y.getD j 0)=y.map fz by rw [a0y y,h]] at r
 rw [show rF x.length (fun j=>x.getD j 0+y.getD j 0)=(Y9 x y).map fz by
  rw [a0y (Y9 x y),a1O (n:=x.length) rfl h.symm]
  exact y5 fun j hj=>(a5f (n:=x.length) rfl h.symm hj).symm] at r
 exact r
noncomputable def X5 (s:g8) (g:List (Int × Rat)):List Rat:=match a0W s (R4 g) with
 |.col _=>[]
 |_=>zOf s.rows.length (Q9 s (z9 s (R4 g)))
set_option maxHeartbeats 4000000 in
theorem aQ9 (s:g8) (g:List (Int × Rat)) (h:a0t s) (hz:a0W s []=.best) (h0:0<s.n) (hg:g9 (-1) ((s.n.toNat:Nat):Int) g=true) (hw:E8 g):
 a9 Tryz.prog 121 [a0U s,s6 g] [] (.tup [n6 ((S2 s g).map fz),n6 ((X5 s g).map fz)]) []:=by
 have hn:=a0P h.r
 have h9:=h.n
 have p:=a6p h (Y2 hg) (a0n hw)
 have i1:=N7 (-1) (by decide) (by decide)
 have tm:=b5I g ((-1:Int):Rat) (by decide) (a2b (by omega) hg) (fun t ht=>by have:=P8 hw t ht;omega) (by have:=t4 (x:=-1) (by decide) (by decide);have:=t4 (x:=1) (by decide) (by decide);show max (bl (-1)) (bl 1)<=200;omega)
 have ep:Z4 g ((-1:Int):Rat)=R4 g:=rfl
 rw [ep] at tm
 have vb:∀k,rl (k9 ((R4 g).take k) (B8 s (R4 g)))<=50000:=fun k=>by
  have h1:=a6P (P8 (a0n hw)) (b5V h (Y2 hg) (a0n hw)) k
  have h2:=E0 (Y2 hg)
  have h3:(R4 g).length<=9:=by omega
  have h4:=Nat.mul_le_mul_right (15+4) h3
  omega
 rcases ax9 (g:=R4 g) h.r hz with ho|⟨c,ho⟩
 ·have le:=b8F p ho vb
  have e1:S2 s g=B8 s (R4 g):=by unfold S2;rw [ho]
  have e2:X5 s g=zOf s.rows.length (Q9 s (z9 s (R4 g))):=by unfold X5;rw [ho]
  have e3:rF s.rows.length (Q9 s (z9 s (R4 g)))=(X5 s g).map fz:=by rw [e2,aV0]
  have l3:(X5 s g).length=s.rows.length:=by rw [e2,T3]
  rw [e1]
  rw [e3] at le
  (refine ac Tryz.func121 ?_;(conv=>whnf);repeat ((first|refine b0x ?_|refine zy ?_);conv=>whnf))
  repeat' (first|refine zz ?_|refine qp i1 ?_|refine qp tm ?_|refine qp 7 ?_|refine .inl ⟨_,_,le _,?_⟩|refine bl0 [7] ?_|refine zd ?_ ?_<;>intro h<;>try omega|refine zy ?_|fail)<;>conv=>whnf
  all_goals first
   |omega
   |exact k8 ⟨rfl,(show VC _ (fun id=>G3 [] id=true) (C.own _ 0 _ true) _ from v4 (k:=flB ((X5 s g).map fz)) rfl rfl (fun h=>h) rfl rfl (by simp [l3])),trivial⟩
 ·have hcn:c<s.n.toNat:=(a6Q ho).1
  have pz:=a6p h (g:=[]) rfl (fun t ht=>by cases ht)
  have le:=b6L p pz ho hz
  have e1:S2 s g=Y9 (B8 s []) (a5p s (R4 g) c):=by unfold S2;rw [ho]
  have e2:X5 s g=[]:=by unfold X5;rw [ho]
  have lp:(B8 s []).length=s.n.toNat:=by unfold B8;rw [T3]
  have lr:(a5p s (R4 g) c).length=s.n.toNat:=by unfold a5p;rw [T3]
  have pl:=b3T (B8 s []) (a5p s (R4 g) c) (by omega) (by omega) (by omega) (fun v hv=>by have:=b5V h rfl (fun t ht=>by cases ht) v hv;omega) (fun v hv=>by
   unfold a5p at hv
   obtain ⟨j,hj,rfl⟩:=a4S hv
   have:=b7f p hcn hj
   omega)
  rw [e1,e2]
  (refine ac Tryz.func121 ?_;(conv=>whnf);repeat ((first|refine b0x ?_|refine zy ?_);conv=>whnf))
  repeat' (first|refine zz ?_|refine qp i1 ?_|refine qp tm ?_|refine qp pl ?_|refine qp 7 ?_|refine .inl ⟨_,_,le _,?_⟩|refine bl0 [7] ?_|refine zd ?_ ?_<;>intro h<;>try omega|refine zy ?_|fail)<;>conv=>whnf
  all_goals first
   |omega
   |exact k8 ⟨rfl,rfl,trivial⟩
theorem ab7 (g:List (Int × Rat)) (x:List Rat) (hg:g9 (-1) (x.length:Int) g=true) (hw:E8 g) (hx:∀v ∈ x,rl v<=40000) (hl:x.length<=9) (hb:∀k,rl (k9 (g.take k) x)<=50000):
 a9 Tryz.prog 123 [s6 g,n6 (x.map fz)] [] (f9 (a1X g x)) []:=by
 have hgl:=E0 hg
 have va:=aI9 g x (by omega) (fun t ht=>by have:=P8 hw t ht;omega) hx (fun k=>by have:=hb k;omega) (by omega) hg
 have bv:=hb g.length
 rw [lg4 (Nat.le_refl _)] at bv
 have sg:=a35 (k9 g x) (by omega)
 have sp:=a61 (x:=k9 g x)
 have e:a1X g x=decide (sgR (k9 g x) > 0):=by unfold a1X;rw [decide_eq_decide];exact sp.symm
 rw [e]
 generalize sgR (k9 g x)=U at sg
 clear sp e
 (refine ac Tryz.func123 ?_;(conv=>whnf);repeat ((first|refine b0x ?_|refine zy ?_);conv=>whnf))
 repeat' (first|refine zz ?_|refine qp va ?_|refine qp sg ?_|refine qp 5 ?_|refine bl0 [5] ?_|refine zd ?_ ?_<;>intro h<;>try omega|refine zy ?_|fail)<;>conv=>whnf
 all_goals first
  |omega
  |(refine b7 ?_;first|exact (decide_eq_true (by omega)).symm|exact (decide_eq_false (by omega)).symm)
theorem a90 (x:Rat) (h:rl x<=60000):a9 Tryz.prog 270 [frS (fz x)] [] (frS (fz x)) []:=by
 have n1:=a2V x h
 have n2:=a2V (-x) (by rw [S7];exact h)
 rw [show - -x=x by grind] at n2
 (refine ac Tryz.func270 ?_;(conv=>whnf);repeat ((first|refine b0x ?_|refine zy ?_);conv=>whnf))
 repeat' (first|refine zz ?_|refine qp n1 ?_|refine qp n2 ?_|refine zd ?_ ?_<;>intro h<;>try omega|refine zy ?_|fail)<;>conv=>whnf
 all_goals exact aK2 rfl
theorem a7K (b:List (Int × Rat)):z4 [] b=b:=by rw [z4]
theorem aW1 (t:Int × Rat) (r:List (Int × Rat)):z4 (t::r) []=t::z4 r []:=by
 rw [z4]
 cases r with
 |nil=>rw [z4]
 |cons a r=>rw [z4]
theorem b4v {t u:Int × Rat} {r q:List (Int × Rat)} (h:t.1<u.1):z4 (t::r) (u::q)=t::z4 r (u::q):=by rw [z4,if_pos h]
theorem b4t {t u:Int × Rat} {r q:List (Int × Rat)} (h:u.1<t.1):z4 (t::r) (u::q)=u::z4 (t::r) q:=by rw [z4,if_neg (by omega),if_pos h]
theorem aQ1 {t u:Int × Rat} {r q:List (Int × Rat)} (h:t.1=u.1) (h0:t.2+u.2=0):z4 (t::r) (u::q)=z4 r q:=by rw [z4,if_neg (by omega),if_neg (by omega),if_pos h0]
theorem b3G {t u:Int × Rat} {r q:List (Int × Rat)} (h:t.1=u.1) (h0:¬t.2+u.2=0):z4 (t::r) (u::q)=(t.1,t.2+u.2)::z4 r q:=by rw [z4,if_neg (by omega),if_neg (by omega),if_neg h0]
structure b9E (a b:List (Int × Rat)) (n:Nat) (x:List (Int × Rat) × List (Int × Rat) × List (Int × Rat)):Prop where
 e:x.1++z4 x.2.1 x.2.2=z4 a b
 o:x.1.length+x.2.1.length+x.2.2.length<=n
 a:∀t ∈ x.2.1,rl t.2<=200
 b:∀t ∈ x.2.2,rl t.2<=200
set_option maxHeartbeats 8000000 in
theorem b8B (a b:List (Int × Rat)) (ha:g9 (-1) 1500 a=true) (hb:g9 (-1) 1500 b=true) (ba:∀t ∈ a,rl t.2<=200) (bb:∀t ∈ b,rl t.2<=200):
 a9 Tryz.prog 221 [s6 a,s6 b] [] (s6 (z4 a b)) []:=by
 have la:=E0 ha
 have lb:=E0 hb
 have r1:=P3 a 1500 (by omega) ba
 have r2:=P3 b 1500 (by omega) bb
 rw [ha] at r1
 rw [hb] at r2
 (refine ac Tryz.func221 ?_;(conv=>whnf);repeat ((first|refine b0x ?_|refine zy ?_);conv=>whnf))
 repeat' (first|refine zz ?_|refine qp r1 ?_|refine qp r2 ?_|refine zd ?_ ?_<;>intro h<;>try omega|refine zy ?_|fail)<;>conv=>whnf
 all_goals try (exfalso;simp_all;done)
 refine o5 d7 (σ:=List (Int × Rat) × List (Int × Rat) × List (Int × Rat)) (fun x=>([s6 x.2.1,s6 x.2.2,J,J,J,S.c (C.own 0 0 x.1.length true),J,J,J,J,J,J,J,J,J,J,J,J,J,J,J,J,J,J,J,J,J,J,J,J,J,J,J,J,J,J,J,J,J,J,J,J,J,J,J,J,J,J,J,J,J,J,J,J,J,J,J,J,J,J,J,J,J,J,J,J,J,J,J,J,J,J,J,J,J,J,J,J,J,J,J,J,J,J,J,J,J,J,J,J,J,J,J,J,J,J,J,J,J,J,J,J,J,J,J,J,J,J,J,J,J,J,J,J,J,J,J,J],[R6 x.1])) (b9E a b 3000) (fun x=>x.2.1.length+x.2.2.length) ([],a,b) [none]
  ⟨rfl,by simp;omega,ba,bb⟩ ⟨rfl,rfl,⟨⟨rfl,rfl⟩,trivial⟩,⟨rfl,rfl,⟨rfl,rfl,rfl⟩,trivial⟩⟩ ?_
 rintro ⟨o,a',b'⟩ ⟨h1,h2,h3,h4⟩
 simp only at h1 h2 h3 h4
 rw [← h1]
 show a4y _ _ _ _ ([s6 a',s6 b',J,J,J,S.c (C.own 0 0 o.length true),J,J,J,J,J,J,J,J,J,J,J,J,J,J,J,J,J,J,J,J,J,J,J,J,J,J,J,J,J,J,J,J,J,J,J,J,J,J,J,J,J,J,J,J,J,J,J,J,J,J,J,J,J,J,J,J,J,J,J,J,J,J,J,J,J,J,J,J,J,J,J,J,J,J,J,J,J,J,J,J,J,J,J,J,J,J,J,J,J,J,J,J,J,J,J,J,J,J,J,J,J,J,J,J,J,J,J,J,J,J,J,J]) [R6 o] _
 have ma:(a'.map j9).length=a'.length:=by simp
 have mb:(b'.map j9).length=b'.length:=by simp
 have lA:o.length<=(R6 o).rows.length:=by show o.length<=(toC _).length;simp [toC]
 cases a' with
 |nil=>
  have na:([]:List (Int × Rat)).length=0:=rfl
  cases b' with
  |nil=>
   rw [a7K,List.append_nil]
   conv=>whnf
   repeat' (first|refine zz ?_|refine zd ?_ ?_<;>intro h<;>try omega|refine zy ?_|fail)<;>conv=>whnf
   all_goals first
    |omega
    |exact T7 rfl (fun h=>h) rfl rfl (by simp)
  |cons u q=>
   have nb:(u::q).length=q.length+1:=rfl
   have bu:=h4 u (List.mem_cons_self ..)
   have fr:=a90 u.2 (by omega)
   conv=>whnf
   repeat' (first|refine zz ?_|refine qp fr ?_|refine qp 0 ?_|refine qp toC ?_|refine a41 (by omega) (by omega) (by omega) ?_|refine I2 (k:=0) rfl (show (u::q)[0]? =some u from rfl) ?_|refine q9 lA (by simp [toC];omega) ?_|refine zd ?_ ?_<;>intro h<;>try omega|refine zy ?_|fail)<;>conv=>whnf
   all_goals first
    |omega
    |exact ⟨[some 1],(o++[(u.1,u.2)],[],q),⟨rfl,rfl,⟨a8 (rows:=(o++[(u.1,u.2)]).map j9) rfl rfl rfl (C9 (f:=j9) (x:=(u.1,u.2)) rfl) rfl,trivial⟩,⟨rfl,i7 (aC6 u q),⟨rfl,rfl,by simp [toC],fun h=>h⟩,trivial⟩⟩,⟨by simp only [a7K];rw [← h1,a7K,List.append_assoc];try rfl,by simp only [List.length_append,List.length_cons,List.length_nil] at h2 ⊢;omega,h3,fun t ht=>h4 t (List.mem_cons_of_mem _ ht)⟩,by simp⟩
 |cons t r=>
  have na:(t::r).length=r.length+1:=rfl
  have bt:=h3 t (List.mem_cons_self ..)
  cases b' with
  |nil=>
   have nb:([]:List (Int × Rat)).length=0:=rfl
   have fr:=a90 t.2 (by omega)
   conv=>whnf
   repeat' (first|refine zz ?_|refine qp fr ?_|refine qp 0 ?_|refine qp toC ?_|refine a41 (by omega) (by omega) (by omega) ?_|refine I2 (k:=0) rfl (show (t::r)[0]? =some t from rfl) ?_|refine q9 lA (by simp [toC];omega) ?_|refine zd ?_ ?_<;>intro h<;>try omega|refine zy ?_|fail)<;>conv=>whnf
   all_goals first
    |omega
    |exact ⟨[some 1],(o++[(t.1,t.2)],r,[]),⟨rfl,rfl,⟨a8 (rows:=(o++[(t.1,t.2)]).map j9) rfl rfl rfl (C9 (f:=j9) (x:=(t.1,t.2)) rfl) rfl,trivial⟩,⟨i7 (aC6 t r),rfl,⟨rfl,rfl,by simp [toC],fun h=>h⟩,trivial⟩⟩,⟨by show _++z4 _ _=z4 a b;rw [← h1,aW1,List.append_assoc];rfl,by simp only [List.length_append,List.length_cons,List.length_nil] at h2 ⊢;omega,fun t ht=>h3 t (List.mem_cons_of_mem _ ht),h4⟩,by simp⟩
  |cons u q=>
   have nb:(u::q).length=q.length+1:=rfl
   have bu:=h4 u (List.mem_cons_self ..)
   rcases Int.lt_trichotomy t.1 u.1 with hlt|he|hgt
   ·have fr:=a90 t.2 (by omega)
    conv=>whnf
    repeat' (first|refine zz ?_|refine qp fr ?_|refine qp 0 ?_|refine qp 0 ?_|refine qp toC ?_|refine a41 (by omega) (by omega) (by omega) ?_|refine I2 (k:=0) rfl (show (t::r)[0]? =some t from rfl) ?_|refine I2 (k:=0) rfl (show (u::q)[0]? =some u from rfl) ?_|refine q9 lA (by simp [toC];omega) ?_|refine zd ?_ ?_<;>intro h<;>try omega|refine zy ?_|fail)<;>conv=>whnf
    all_goals first
     |omega
     |exact ⟨[some 1],(o++[(t.1,t.2)],r,u::q),⟨rfl,rfl,⟨a8 (rows:=(o++[(t.1,t.2)]).map j9) rfl rfl rfl (C9 (f:=j9) (x:=(t.1,t.2)) rfl) rfl,trivial⟩,⟨i7 (aC6 t r),rfl,⟨rfl,rfl,by simp [toC],fun h=>h⟩,trivial⟩⟩,⟨by show _++z4 _ _=z4 a b;rw [← h1,b4v hlt,List.append_assoc];rfl,by simp only [List.length_append,List.length_cons,List.length_nil] at h2 ⊢;omega,fun t ht=>h3 t (List.mem_cons_of_mem _ ht),h4⟩,by simp⟩
   ·have ad:=a39 t.2 u.2 (by omega) (by omega)
    have ab:=a4e t.2 u.2
    have sg:=a35 (t.2+u.2) (by omega)
    have sz:=a6I (x:=t.2+u.2)
    by_cases hz:t.2+u.2=0
    ·have hs:=sz.2 hz
     conv=>whnf
     repeat' (first|refine zz ?_|refine qp ad ?_|refine qp sg ?_|refine qp 0 ?_|refine qp 0 ?_|refine qp toC ?_|refine qp 11 ?_|refine a41 (by omega) (by omega) (by omega) ?_|refine I2 (k:=0) rfl (show (t::r)[0]? =some t from rfl) ?_|refine I2 (k:=0) rfl (show (u::q)[0]? =some u from rfl) ?_|refine q9 lA (by simp [toC];omega) ?_|refine bl0 [11] ?_|refine zd ?_ ?_<;>intro h<;>try omega|refine zy ?_|fail)<;>conv=>whnf
     all_goals first
      |omega
      |exact ⟨[some 0],(o,r,q),⟨rfl,rfl,⟨a8 (rows:=o.map j9) rfl rfl rfl rfl rfl,trivial⟩,⟨i7 (aC6 t r),i7 (aC6 u q),⟨rfl,rfl,rfl,fun h=>h⟩,trivial⟩⟩,⟨by show _++z4 _ _=z4 a b;rw [← h1,aQ1 he hz],by simp only [List.length_append,List.length_cons,List.length_nil] at h2 ⊢;omega,fun t ht=>h3 t (List.mem_cons_of_mem _ ht),fun t ht=>h4 t (List.mem_cons_of_mem _ ht)⟩,by simp;omega⟩
    ·have hs:sgR (t.2+u.2)≠0:=fun h=>hz (sz.1 h)
     conv=>whnf
     repeat' (first|refine zz ?_|refine qp ad ?_|refine qp sg ?_|refine qp 0 ?_|refine qp 0 ?_|refine qp toC ?_|refine qp 11 ?_|refine a41 (by omega) (by omega) (by omega) ?_|refine I2 (k:=0) rfl (show (t::r)[0]? =some t from rfl) ?_|refine I2 (k:=0) rfl (show (u::q)[0]? =some u from rfl) ?_|refine q9 lA (by simp [toC];omega) ?_|refine bl0 [11] ?_|refine zd ?_ ?_<;>intro h<;>try omega|refine zy ?_|fail)<;>conv=>whnf
     all_goals first
      |omega
      |exact ⟨[some 2],(o++[(t.1,t.2+u.2)],r,q),⟨rfl,rfl,⟨a8 (rows:=(o++[(t.1,t.2+u.2)]).map j9) rfl rfl rfl (C9 (f:=j9) (x:=(t.1,t.2+u.2)) rfl) rfl,trivial⟩,⟨i7 (aC6 t r),i7 (aC6 u q),⟨rfl,rfl,by simp [toC],fun h=>h⟩,trivial⟩⟩,⟨by show _++z4 _ _=z4 a b;rw [← h1,b3G he hz,List.append_assoc];rfl,by simp only [List.length_append,List.length_cons,List.length_nil] at h2 ⊢;omega,fun t ht=>h3 t (List.mem_cons_of_mem _ ht),fun t ht=>h4 t (List.mem_cons_of_mem _ ht)⟩,by simp;omega⟩
   ·have fr:=a90 u.2 (by omega)
    conv=>whnf
    repeat' (first|refine zz ?_|refine qp fr ?_|refine qp 0 ?_|refine qp 0 ?_|refine qp toC ?_|refine a41 (by omega) (by omega) (by omega) ?_|refine I2 (k:=0) rfl (show (t::r)[0]? =some t from rfl) ?_|refine I2 (k:=0) rfl (show (u::q)[0]? =some u from rfl) ?_|refine q9 lA (by simp [toC];omega) ?_|refine zd ?_ ?_<;>intro h<;>try omega|refine zy ?_|fail)<;>conv=>whnf
    all_goals first
     |omega
     |exact ⟨[some 1],(o++[(u.1,u.2)],t::r,q),⟨rfl,rfl,⟨a8 (rows:=(o++[(u.1,u.2)]).map j9) rfl rfl rfl (C9 (f:=j9) (x:=(u.1,u.2)) rfl) rfl,trivial⟩,⟨rfl,i7 (aC6 u q),⟨rfl,rfl,by simp [toC],fun h=>h⟩,trivial⟩⟩,⟨by show _++z4 _ _=z4 a b;rw [← h1,b4t hgt,List.append_assoc];rfl,by simp only [List.length_append,List.length_cons,List.length_nil] at h2 ⊢;omega,h3,fun t ht=>h4 t (List.mem_cons_of_mem _ ht)⟩,by simp⟩
theorem ap7 {ρ:List (Option Nat)} {H:Hp} {x y:C} (h:ah9 ρ H x y):∀{A:List (List T)},a4M ρ H (toC A++[[x]]) (toC A++[[y]])
 |[]=>⟨⟨h,trivial⟩,trivial⟩
 |a::A=>⟨O1 a,ap7 h⟩
theorem as3 {ρ:List (Option Nat)} {H:Hp} {id len:Nat} {app:Bool} {size:Nat} {k:Blk} {rows:List (List T)} (hn:G3 ρ id=true) (hk:H[id]? =some k) (hd:¬k.mode.gone) (hs:k.size=size) (hc:k.rows=toC rows) (hl:len=rows.length):
 ah9 ρ H (.own id 0 len app) (.t (.sl size .any rows)):=show VC H _ _ _ from v4 hn hk hd hs hc hl
def a3F (g:List (Int × Rat)):List T:=[a7X g]
abbrev b73 (l:List (List (Int × Rat))):T:=.sl 1 .any (l.map a3F)
abbrev a4J (l:List (List (Int × Rat))):S:=.c (.t (b73 l))
abbrev ab2 (l:List (List (Int × Rat))):Blk:={ mode:=.live,elem:=64,size:=1,rows:=toC (l.map a3F),box:=false }
def C1 (i:Nat):List (Int × Rat):=[((i:Int),((1:Int):Rat))]
def x6 (e:Ev) (p k:Nat):List (Int × Rat):=if o4 e p=0 then [] else j6 e p k
def I5 (e:Ev) (k p:Nat):List (List (Int × Rat)):=(List.range k).map C1++(List.range p).map fun p=>x6 e p e.moves.length
def K4 (e:Ev):List (List (Int × Rat)):=I5 e e.moves.length e.places.length
theorem a63 (e:Ev) (k p:Nat):(I5 e k p).length=k+p:=by simp [I5]
theorem b40 (e:Ev) (k:Nat):I5 e (k+1) 0=I5 e k 0++[C1 k]:=by simp [I5,List.range_succ]
theorem b4c (e:Ev) (k p:Nat):I5 e k (p+1)=I5 e k p++[x6 e p e.moves.length]:=by simp [I5,List.range_succ,List.append_assoc]
theorem a3A (e:Ev) (p:Nat):x6 e p 0=[]:=by unfold x6;split<;>rfl
theorem a6w {e:Ev} {p k:Nat} {m:x4} (h:e.moves[k]? =some m):x6 e p (k+1)=if o4 e p=0 then [] else if m.dst=p then x6 e p k++[((k:Int),((1:Int):Rat))] else if m.src=p then x6 e p k++[((k:Int),((-1:Int):Rat))] else x6 e p k:=by
 unfold x6
 by_cases h0:o4 e p=0
 ·rw [if_pos h0,if_pos h0]
 ·rw [if_neg h0,if_neg h0,if_neg h0]
  conv=>lhs;unfold j6
  rw [h]
theorem a8I (e:Ev) (p:Nat):∀k,(x6 e p k).length<=k
 |0=>by rw [a3A];simp
 |k+1=>by
  have ih:=a8I e p k
  cases hm:e.moves[k]? with
  |none=>
   have:x6 e p (k+1)=x6 e p k:=by
    unfold x6
    conv=>lhs;unfold j6
    rw [hm]
   rw [this];omega
  |some m=>
   rw [a6w hm]
   split
   ·simp
   ·split
    ·simp;omega
    ·split
     ·simp;omega
     ·omega
abbrev plB (p:J1):Blk:={ mode:=.live,elem:=77,size:=3,rows:=[p.row.map .t],box:=true }
set_option maxHeartbeats 8000000 in
theorem b68 (e:Ev) (hs:e.Sized) (hm:e.moves.length<=1000) (hp:e.places.length<=1000):a9 Tryz.prog 146 [evS e] [] (a4J (K4 e)) []:=by
 have m1:(e.moves.map x4.row).length=e.moves.length:=by simp
 have m2:(e.places.map J1.row).length=e.places.length:=by simp
 unfold K4
 (refine ac Tryz.func146 ?_;(conv=>whnf);repeat ((first|refine b0x ?_|refine zy ?_);conv=>whnf))
 repeat' (first|refine zz ?_|refine zd ?_ ?_<;>intro h<;>try omega|refine zy ?_|fail)<;>conv=>whnf
 refine f5 d7 (fun k=>([J,S.c (C.t (T.ptr (evT e))),J,S.c (C.own 0 0 k true),J,J,J,J,J,J,J,J,a7 .i64 e.moves.length,a7 .i64 k,J,J,J,J,J,J,J,J,J,J,J,J,J,J,J,J,J,J,J,J,J,J,J,J,J,J,J,J,J,J,J,J,J,J,J,J,J,J,J,J,J,J,J,J,J,J,J,J,J,J,J,J,J],[ab2 (I5 e k 0)])) e.moves.length (fun _=>True) [none] trivial
  ⟨rfl,rfl,⟨⟨rfl,rfl⟩,trivial⟩,⟨rfl,⟨rfl,rfl,rfl⟩,b9 (by simp),rfl,trivial⟩⟩ ?_
 intro k hk _
 have l1:=a63 e k 0
 by_cases hlt:k<e.moves.length
 ·have on:=a7A k 1 (by decide) (by decide)
  have lA:k<=(ab2 (I5 e k 0)).rows.length:=by show _<=(toC _).length;simp [toC,l1]
  rw [b40]
  conv=>whnf
  repeat' (first|refine zz ?_|refine qp on ?_|refine qp toC ?_|refine q9 lA (by simp [toC];omega) ?_|refine zd ?_ ?_<;>intro h<;>try omega|refine zy ?_|fail)<;>conv=>whnf
  all_goals first
   |omega
   |(refine ⟨hlt,trivial,[some 1],rfl,rfl,⟨a8 (rows:=(I5 e k 0++[C1 k]).map a3F) rfl rfl rfl ?_ rfl,trivial⟩,⟨rfl,⟨rfl,rfl,rfl,fun h=>h⟩,rfl,b9 (by omega),trivial⟩⟩
     exact C9 (f:=a3F) (x:=C1 k) (by omega))
 have hke:k=e.moves.length:=by omega
 subst hke
 conv=>whnf
 repeat' (first|refine zz ?_|refine zd ?_ ?_<;>intro h<;>try omega|refine zy ?_|fail)<;>conv=>whnf
 all_goals try omega
 refine f5 d7 (fun p=>([J,S.c (C.t (T.ptr (evT e))),J,S.c (C.own 0 0 (e.moves.length+p) true),J,J,J,J,J,J,J,J,J,J,J,J,J,J,J,J,J,J,J,S.c (C.t (a17 e.places)),a7 .i64 e.places.length,a7 .i64 p,J,J,J,J,J,J,J,J,J,J,J,J,J,J,J,J,J,J,J,J,J,J,J,J,J,J,J,J,J,J,J,J,J,J,J,J,J,J,J,J,J],[ab2 (I5 e e.moves.length p)])) e.places.length (fun _=>True) [some 0] trivial
  ⟨rfl,rfl,⟨a8 (rows:=(I5 e e.moves.length 0).map a3F) rfl rfl rfl rfl rfl,trivial⟩,⟨rfl,⟨rfl,rfl,rfl,fun h=>h⟩,rfl,b9 (by simp),rfl,trivial⟩⟩ ?_
 intro p hpl _
 have l2:=a63 e e.moves.length p
 by_cases hlt:p<e.places.length
 ·obtain ⟨pl,hpp⟩:∃pl,e.places[p]? =some pl:=⟨_,lg0 hlt⟩
  have hkp:o4 e p=pl.kind:=by unfold o4;simp [hpp]
  rw [b4c]
  conv=>whnf
  repeat' (first|refine zz ?_|refine d8 hpp ?_|refine zd ?_ ?_<;>intro h<;>try omega|refine zy ?_|fail)<;>conv=>whnf
  all_goals try omega
  refine f5 d7 (fun i=>([J,S.c (C.t (T.ptr (evT e))),J,S.c (C.own 0 0 (e.moves.length+p) true),J,a7 .i64 p,S.c (C.ptr 1 0 0),S.c (C.own 2 0 (x6 e p i).length true),J,J,J,J,J,J,J,J,J,J,J,J,J,J,J,S.c (C.t (a17 e.places)),a7 .i64 e.places.length,a7 .i64 p,J,J,J,J,J,S.c (C.t (a1L e.moves)),a7 .i64 e.moves.length,a7 .i64 i,J,J,J,J,J,J,J,J,J,J,J,J,J,J,J,J,J,J,J,J,J,J,J,J,J,J,J,J,J,J,J,J,J],[ab2 (I5 e e.moves.length p),plB pl,R6 (x6 e p i)])) e.moves.length (fun _=>True) [some 0,some 1,none] trivial
   ⟨rfl,rfl,⟨d9 (d6 _),d9 (d6 [pl.row]),⟨(by show (toC ((x6 e p 0).map j9))=[];rw [a3A];rfl),rfl⟩,trivial⟩,⟨rfl,⟨rfl,rfl,rfl,fun h=>h⟩,rfl,⟨rfl,rfl,rfl⟩,⟨rfl,rfl,by rw [a3A];rfl⟩,rfl,rfl,rfl,rfl,b9 (by simp),rfl,trivial⟩⟩ ?_
  intro i hi _
  have l3:=a8I e p i
  by_cases hil:i<e.moves.length
  ·obtain ⟨m,hmm⟩:∃m,e.moves[i]? =some m:=⟨_,lg0 hil⟩
   have on:=a7A i 1 (by decide) (by decide)
   have on2:=a7A i (-1) (by decide) (by decide)
   have lA:(x6 e p i).length<=(R6 (x6 e p i)).rows.length:=by show _<=(toC _).length;simp [toC]
   have eS:=a6w (p:=p) hmm
   rw [hkp] at eS
   by_cases h0:pl.kind=0
   ·have e0:∀k,x6 e p k=[]:=fun k=>by unfold x6;rw [hkp,if_pos h0]
    rw [e0,e0]
    conv=>whnf
    repeat' (first|refine zz ?_|refine d8 hmm ?_|refine zd ?_ ?_<;>intro h<;>try omega|refine zy ?_|fail)<;>conv=>whnf
    all_goals first
     |omega
     |exact ⟨hil,trivial,[some 0,some 1,some 2],rfl,rfl,⟨d9 (d6 _),d9 (d6 [pl.row]),d9 (d6 _),trivial⟩,⟨rfl,⟨rfl,rfl,rfl,fun h=>h⟩,rfl,⟨rfl,rfl,rfl⟩,⟨rfl,rfl,rfl,fun h=>h⟩,rfl,rfl,rfl,rfl,rfl,b9 (by omega),trivial⟩⟩
   rw [if_neg h0] at eS
   by_cases h1:m.dst=p
   ·rw [if_pos h1] at eS
    rw [eS]
    conv=>whnf
    repeat' (first|refine zz ?_|refine qp on ?_|refine qp toC ?_|refine d8 hmm ?_|refine q9 lA (by simp [toC];omega) ?_|refine zd ?_ ?_<;>intro h<;>try omega|refine zy ?_|fail)<;>conv=>whnf
    all_goals first
     |omega
     |(refine ⟨hil,trivial,[some 0,some 1,some 4],rfl,rfl,⟨d9 (d6 _),d9 (d6 [pl.row]),a8 (rows:=(x6 e p i++[((i:Int),((1:Int):Rat))]).map j9) rfl rfl rfl ?_ rfl,trivial⟩,⟨rfl,⟨rfl,rfl,rfl,fun h=>h⟩,rfl,⟨rfl,rfl,rfl⟩,⟨rfl,rfl,?_,fun h=>h⟩,rfl,rfl,rfl,rfl,rfl,b9 (by omega),trivial⟩⟩
       ·exact C9 (f:=j9) (x:=((i:Int),((1:Int):Rat))) rfl
       ·simp [toC])
   rw [if_neg h1] at eS
   by_cases h2:m.src=p
   ·rw [if_pos h2] at eS
    rw [eS]
    conv=>whnf
    repeat' (first|refine zz ?_|refine qp on2 ?_|refine qp toC ?_|refine d8 hmm ?_|refine q9 lA (by simp [toC];omega) ?_|refine zd ?_ ?_<;>intro h<;>try omega|refine zy ?_|fail)<;>conv=>whnf
    all_goals first
     |omega
     |(refine ⟨hil,trivial,[some 0,some 1,some 4],rfl,rfl,⟨d9 (d6 _),d9 (d6 [pl.row]),a8 (rows:=(x6 e p i++[((i:Int),((-1:Int):Rat))]).map j9) rfl rfl rfl ?_ rfl,trivial⟩,⟨rfl,⟨rfl,rfl,rfl,fun h=>h⟩,rfl,⟨rfl,rfl,rfl⟩,⟨rfl,rfl,?_,fun h=>h⟩,rfl,rfl,rfl,rfl,rfl,b9 (by omega),trivial⟩⟩
       ·exact C9 (f:=j9) (x:=((i:Int),((-1:Int):Rat))) rfl
       ·simp [toC])
   rw [if_neg h2] at eS
   rw [eS]
   conv=>whnf
   repeat' (first|refine zz ?_|refine d8 hmm ?_|refine zd ?_ ?_<;>intro h<;>try omega|refine zy ?_|fail)<;>conv=>whnf
   all_goals first
    |omega
    |exact ⟨hil,trivial,[some 0,some 1,some 2],rfl,rfl,⟨d9 (d6 _),d9 (d6 [pl.row]),d9 (d6 _),trivial⟩,⟨rfl,⟨rfl,rfl,rfl,fun h=>h⟩,rfl,⟨rfl,rfl,rfl⟩,⟨rfl,rfl,rfl,fun h=>h⟩,rfl,rfl,rfl,rfl,rfl,b9 (by omega),trivial⟩⟩
  ·have hie:i=e.moves.length:=by omega
   subst hie
   have lA:e.moves.length+p<=(ab2 (I5 e e.moves.length p)).rows.length:=by show _<=(toC _).length;simp [toC,l2]
   conv=>whnf
   repeat' (first|refine zz ?_|refine qp (toC,C4) ?_|refine a3W.own ?_|refine ⟨Nat.le_refl _,?_⟩|refine q9 lA (by simp [toC,C4];omega) ?_|refine zd ?_ ?_<;>intro h<;>try omega|refine zy ?_|fail)<;>conv=>whnf
   all_goals first
    |omega
    |(refine ⟨hlt,trivial,[some 4],rfl,rfl,⟨⟨rfl,rfl,rfl,.inr ?_⟩,trivial⟩,⟨rfl,⟨rfl,rfl,rfl,fun h=>h⟩,rfl,rfl,b9 (by omega),trivial⟩⟩
      show a4M [some 4] _ (List.take (e.moves.length+p) (toC ((I5 e e.moves.length p).map a3F))++[[C.own 2 0 (x6 e p e.moves.length).length true]]) (toC ((I5 e e.moves.length p++[x6 e p e.moves.length]).map a3F))
      rw [lg4 (by simp [toC,l2]),show toC ((I5 e e.moves.length p++[x6 e p e.moves.length]).map a3F)=toC ((I5 e e.moves.length p).map a3F)++[[C.t (a7X (x6 e p e.moves.length))]] by simp [toC,a3F]]
      refine ap7 ?_
      exact as3 (k:=R6 (x6 e p e.moves.length)) rfl rfl (by intro h;cases h) rfl rfl (by rw [List.length_map]))
 ·have hpe:p=e.places.length:=by omega
  subst hpe
  conv=>whnf
  repeat' (first|refine zz ?_|refine zd ?_ ?_<;>intro h<;>try omega|refine zy ?_|fail)<;>conv=>whnf
  all_goals first
   |omega
   |exact T7 rfl (fun h=>h) rfl rfl (by simp [l2])
structure a7V (s:g8) (gL:List (List (Int × Rat))):Prop where
 p:a1K s gL
 sm:a0t s
 pos:0<s.n
 w:∀g ∈ gL,a0x 1 g
 l:gL.length<=30
theorem a78 {B:Nat} {g:List (Int × Rat)} (h:a0x B g) (hB:B<=1048575):E8 g:=fun t ht=>by
 obtain ⟨c,h1,h2⟩:=h t ht
 exact ⟨c,h1,t4 (by omega) (by omega)⟩
theorem a6n {s:g8} {gL:List (List (Int × Rat))} (h:a7V s gL) (out:List Bool):∀k,k<=gL.length->a0x k (N9 gL out k)
 |0,_=>fun t ht=>by cases ht
 |k+1,hk=>by
  have ih:=a6n h out k (by omega)
  unfold N9
  split
  ·intro t ht;obtain ⟨c,h1,h2⟩:=ih t ht;exact ⟨c,h1,by omega⟩
  ·exact aX2 _ (Nat.le_refl _) ih (h.w _ (Q2 (by omega)))
theorem ag0 {s:g8} {gL:List (List (Int × Rat))} (h:a7V s gL) (out:List Bool) (k:Nat) (hk:k<=gL.length):E8 (N9 gL out k):=a78 (a6n h out k hk) (by have:=h.l;omega)
theorem az7 {s:g8} {gL:List (List (Int × Rat))} (h:a7V s gL) (out:List Bool):∀v ∈ a0O s gL out,rl v<=31:=b3O h.sm (a0q h.p out _ (Nat.le_refl _)) (ag0 h out _ (Nat.le_refl _))
theorem a9F {s:g8} {gL:List (List (Int × Rat))} {out:List Bool}:(a0O s gL out).length=s.n.toNat:=al2
theorem a6S {s:g8} {gL:List (List (Int × Rat))}:∀k,(Z0 s gL k).length=s.n.toNat
 |0=>a9F
 |k+1=>a1O (a6S k) a9F
theorem a9h {s:g8} {gL:List (List (Int × Rat))} (h:a7V s gL) (k:Nat):∀v ∈ Z0 s gL k,rl v<=(k+1)*32:=by
 induction k with
 |zero=>
  intro v hv
  have hv:v ∈ a0O s gL (x3 s gL 0):=hv
  exact Nat.le_trans (az7 h (x3 s gL 0) v hv) (by decide)
 |succ k ih=>
  have hf:=az7 h (x3 s gL (k+1))
  intro v hv
  have hv:v ∈ Y9 (Z0 s gL k) (a0O s gL (x3 s gL (k+1))):=hv
  generalize Z0 s gL k=X at ih hv
  generalize a0O s gL (x3 s gL (k+1))=Y at hf hv
  have h1:=b0D ih hf v hv
  have e:(k+1+1)*32=(k+1)*32+32:=Nat.succ_mul _ _
  rw [e];exact h1
def a21 (b:Bool):List T:=[tb b]
abbrev a6L (l:List Bool):T:=.sl 1 .any (l.map a21)
abbrev b8M (l:List Bool):S:=.c (.t (a6L l))
abbrev Z9 (l:List Bool):Blk:={ mode:=.live,elem:=4,size:=1,rows:=toC (l.map a21),box:=false }
def a3n (gL:List (List (Int × Rat))) (out:List Bool) (x:List Rat) (i:Nat):List Bool:=(List.range gL.length).map fun j=>if j<i then (out.getD j false || a1X (gL.getD j []) x) else out.getD j false
def a46 (gL:List (List (Int × Rat))) (out:List Bool) (x:List Rat) (i:Nat):Bool:=(List.range i).any fun j=>!out.getD j false && a1X (gL.getD j []) x
theorem a6M (gL:List (List (Int × Rat))) (out:List Bool) (x:List Rat) (i:Nat):(a3n gL out x i).length=gL.length:=by simp [a3n]
theorem b1w {gL:List (List (Int × Rat))} {out:List Bool} {x:List Rat} (h:out.length=gL.length):a3n gL out x 0=out:=by
 refine List.ext_getElem (by rw [a6M,h]) fun i h1 h2=>?_
 simp [a3n,lg3,lg0 h2]
theorem b4R {gL:List (List (Int × Rat))} {out:List Bool} {x:List Rat} {i:Nat} (h:i<gL.length):(a3n gL out x i)[i]? =some (out.getD i false):=by
 unfold a3n;rw [List.getElem?_map,a5i h];simp
theorem aG9 (s:g8) (gL:List (List (Int × Rat))) (k:Nat):a3n gL (x3 s gL k) (a0O s gL (x3 s gL k)) gL.length=x3 s gL (k+1):=by
 show _=ar5 s gL (x3 s gL k)
 unfold a3n ar5
 exact List.map_congr_left fun j hj=>by rw [if_pos (List.mem_range.1 hj)]
theorem b4F {gL:List (List (Int × Rat))} {out:List Bool} {x:List Rat} {i:Nat} (h:i<gL.length) (hp:a1X (gL.getD i []) x=true):(a3n gL out x i).set i true=a3n gL out x (i+1):=by
 refine List.ext_getElem? fun j=>?_
 rw [List.getElem?_set]
 by_cases hj:j<gL.length
 ·unfold a3n
  rw [List.getElem?_map,List.getElem?_map,a5i hj,List.length_map,List.length_range]
  by_cases hij:i=j
  ·subst hij;rw [if_pos rfl,if_pos h]
   show some true=some (if i<i+1 then (out.getD i false || a1X (gL.getD i []) x) else out.getD i false)
   rw [if_pos (show i<i+1 by omega),hp,Bool.or_true]
  ·rw [if_neg hij]
   show some (if j<i then (out.getD j false || a1X (gL.getD j []) x) else out.getD j false)=some (if j<i+1 then (out.getD j false || a1X (gL.getD j []) x) else out.getD j false)
   by_cases hji:j<i
   ·rw [if_pos hji,if_pos (by omega)]
   ·rw [if_neg hji,if_neg (by omega)]
 ·rw [List.getElem?_eq_none (by rw [a6M];omega),List.getElem?_eq_none (by rw [a6M];omega),a6M]
  by_cases hij:i=j
  ·subst hij;omega
  ·rw [if_neg hij]
theorem ao1 {gL:List (List (Int × Rat))} {out:List Bool} {x:List Rat} {i:Nat} (h:out.getD i false=true∨a1X (gL.getD i []) x=false):a3n gL out x (i+1)=a3n gL out x i:=by
 unfold a3n
 refine List.map_congr_left fun j hj=>?_
 by_cases hij:j=i
 ·subst hij
  rw [if_pos (by omega),if_neg (by omega)]
  rcases h with h|h
  ·rw [h];rfl
  ·rw [h,Bool.or_false]
 ·by_cases hji:j<i
  ·rw [if_pos hji,if_pos (by omega)]
  ·rw [if_neg hji,if_neg (by omega)]
theorem aU2 (gL:List (List (Int × Rat))) (out:List Bool) (x:List Rat) (i:Nat):a46 gL out x (i+1)=(a46 gL out x i || (!out.getD i false && a1X (gL.getD i []) x)):=by
 unfold a46;rw [List.range_succ,List.any_append];simp
theorem aq0 {s:g8} {gL:List (List (Int × Rat))} {k:Nat}:a46 gL (x3 s gL k) (a0O s gL (x3 s gL k)) gL.length=false↔x3 s gL (k+1)=x3 s gL k:=by
 unfold a46
 rw [List.any_eq_false]
 constructor
 ·intro h
  refine a5w (by rw [P5,P5]) fun i hi=>?_
  rw [P5] at hi
  rw [a1p hi]
  have:=h i (List.mem_range.2 hi)
  cases ho:(x3 s gL k).getD i false with
  |true=>rfl
  |false=>
   rw [ho] at this
   cases hp:a1X (gL.getD i []) (a0O s gL (x3 s gL k)) with
   |false=>rfl
   |true=>rw [hp] at this;exact absurd rfl this
 ·intro h i hi
  have hi:=List.mem_range.1 hi
  have:=a1p (s:=s) (k:=k) hi
  rw [h] at this
  cases ho:(x3 s gL k).getD i false with
  |true=>simp
  |false=>
   rw [ho,Bool.false_or] at this
   rw [← this];simp
theorem aE6 {l:List Bool} {i n:Nat} (h:n=i):x5 (Z9 l) ((Z9 l).rows.set n [C.t (tb true)])=Z9 (l.set i true):=by
 subst h
 unfold x5
 simp [toC,List.map_set,a21]
noncomputable def aV6 (s:g8) (gL:List (List (Int × Rat))):Nat->T
 |0=>.sl 0 .nil []
 |k+1=>F2 ((Z0 s gL k).map fz)
def scF (a:Nat->Rat) (c:Rat) (k:Nat):Nat->Rat:=fun j=>if j<k then a j*c else a j
theorem b4B (x y:List Rat) (h:x.length=y.length) (h0:0<x.length) (hn:x.length<=1000) (hx:∀v ∈ x,rl v<=60000) (hy:∀v ∈ y,rl v<=60000):
 a9 Tryz.prog 197 [n6 (x.map fz),n6 (y.map fz)] [] (.c (.own 0 0 x.length true)) [flB ((Y9 x y).map fz)]:=by
 obtain ⟨n,hnx⟩:∃n,x.length=n:=⟨_,rfl⟩
 have gx:∀(x:List Rat),(∀ v ∈ x,rl v<=60000)->∀j,j<x.length->rl (x.getD j 0)<=60000:=fun x hx j hj=>by
  rw [lg3,lg0 hj];exact hx _ (List.getElem_mem hj)
 have ha:=gx x hx
 have hb:=gx y hy
 rw [a0y x,a0y y,a0y (Y9 x y),a1O (n:=x.length) rfl h.symm,←h,hnx]
 rw [hnx] at ha h0 hn
 rw [← h,hnx] at hb
 have hs:∀j,j<n->(Y9 x y).getD j 0=x.getD j 0+y.getD j 0:=fun j hj=>a5f (n:=n) hnx (by omega) hj
 have e0:rF n (fun j=>(Y9 x y).getD j 0)=rF n (smF (fun j=>x.getD j 0) (fun j=>y.getD j 0) n):=y5 fun j hj=>by unfold smF;rw [if_pos hj];exact hs j hj
 rw [e0]
 have ha:∀j,j<n->rl ((fun j=>x.getD j 0) j)<=60000:=ha
 have hb:∀j,j<n->rl ((fun j=>y.getD j 0) j)<=60000:=hb
 generalize (fun j=>x.getD j 0)=a at ha ⊢
 generalize (fun j=>y.getD j 0)=b at hb ⊢
 have m1:((rF n b).map s7).length=n:=by simp [M6]
 have cl:=a7n (rF n a) (by rw [M6];exact h0) (by rw [M6];omega)
 rw [M6] at cl
 (refine ac Tryz.func197 ?_;(conv=>whnf);repeat (refine zy ?_;conv=>whnf))
 repeat' (first|refine zz ?_|refine .inr ⟨_,_,cl,?_⟩|refine zd ?_ ?_<;>intro h<;>try omega|refine zy ?_|fail)<;>conv=>whnf
 refine f5 d7 (fun k=>([J,J,J,J,J,S.c (C.own 0 0 n true),J,J,J,J,n6 (rF n b),a7 .i64 n,a7 .i64 k,J,J,J,J,J,J,J,J,J,J,J,J,J,J,J,J,J,J],[flB (rF n (smF a b k))])) n (fun _=>True) [some 0] trivial
  ⟨rfl,rfl,⟨a8 (rows:=(rF n a).map s7) rfl rfl rfl rfl (by rw [y5 (g:=smF a b 0) (h:=a) fun j hj=>by unfold smF;rw [if_neg (by omega)]]),trivial⟩,⟨⟨rfl,rfl,rfl,fun h=>h⟩,i7 rfl,b9 (by omega),b9 rfl,trivial⟩⟩ ?_
 intro k hk _
 by_cases hlt:k<n
 ·have eK:0+(k:Int).toNat=k:=by omega
  have ad:=a39 (a k) (b k) (ha k hlt) (hb k hlt)
  have gp:(rF n (smF a b k))[0+(k:Int).toNat]? =some (fz (a k)):=by rw [eK,H6 hlt];unfold smF;rw [if_neg (by omega)]
  have e:x5 (flB (rF n (smF a b k))) ((flB (rF n (smF a b k))).rows.set (0+(k:Int).toNat) (frC (fz (a k+b k))))=flB (rF n (smF a b (k+1))):=by
   rw [I3 eK,R8 hlt]
   refine congrArg flB (y5 fun j hj=>?_)
   unfold smF
   by_cases h:j=k
   ·subst h;rw [if_pos rfl,if_pos (by omega)]
   ·rw [if_neg h]
    have:(j<k)↔(j<k+1):=by omega
    simp only [this]
  conv=>whnf
  repeat' (first|refine zz ?_|refine qp ad ?_|refine qp 10 ?_|refine a4I rfl hlt ?_|refine s9 gp ?_|refine bl0 [10] ?_|refine zd ?_ ?_<;>intro h<;>try omega|refine zy ?_|fail)<;>conv=>whnf
  all_goals first
   |omega
   |exact ⟨hlt,trivial,[some 0],rfl,rfl,⟨⟨rfl,rfl,rfl,.inl ⟨congrArg Blk.rows e,(congrArg Blk.rows e) ▸ d6 _⟩⟩,trivial⟩,⟨⟨rfl,rfl,rfl,fun h=>h⟩,rfl,rfl,b9 (by omega),trivial⟩⟩
 ·have hke:k=n:=by omega
  subst hke
  conv=>whnf
  repeat' (first|refine zz ?_|refine zd ?_ ?_<;>intro h<;>try omega|refine zy ?_|fail)<;>conv=>whnf
  all_goals first
   |omega
   |exact ⟨[some 0],rfl,rfl,⟨d9 (d6 _),trivial⟩,⟨rfl,rfl,rfl,fun h=>h⟩⟩
theorem aE8 {out:List Bool} {j:Nat} {b:Bool} {K:List C->Prop} (h:out[j]? =some b) (k:K [C.t (tb b)]):∃row,(Z9 out).rows[j]? =some row∧K row:=⟨_,by show (toC (out.map a21))[j]? =_;simp [toC,a21,h],k⟩
theorem aL7 {O:Blk} {y:List Rat} {n:Nat} (hl:y.length=n):a4l [some 0] [O,flB (y.map fz)] (.c (.own [O].length 0 n true)) (.c (.t (F2 (y.map fz)))):=by
 show ah9 [some 0] [O,flB (y.map fz)] (.own 1 0 n true) (.t (.sl 4 .any ((y.map fz).map s7)))
 refine as3 (k:=flB (y.map fz)) (app:=true) rfl rfl ?_ rfl rfl ?_
 ·intro h;cases h
 ·rw [List.length_map,List.length_map,hl]
set_option maxHeartbeats 16000000 in
theorem b28 (s:g8) (gL:List (List (Int × Rat))) (h:a7V s gL):
 a9 Tryz.prog 147 [a0U s,a4J gL] [] (.tup [b8M (isF s gL),n6 ((a9B s gL).map fz)]) []:=by
 have hG:=h
 have hL:=h.l
 have h9:=h.sm.n
 have hpos:=h.pos
 have hn:=a0P h.sm.r
 obtain ⟨n,hnn⟩:∃n,s.n.toNat=n:=⟨_,rfl⟩
 have m1:(gL.map a3F).length=gL.length:=by simp
 have cl:∀x:List Rat,x.length=n->a9 Tryz.prog 205 [n6 (x.map fz)] [] (.c (.own 0 0 n true)) [flB (x.map fz)]:=fun x hx=>by
  have:=a7n (x.map fz) (by rw [List.length_map];omega) (by rw [List.length_map];omega)
  rwa [List.length_map,hx] at this
 have eR:List.replicate (((gL.map a3F).length:Nat):Int).toNat [E7 (Value.bool false)]=toC ((x3 s gL 0).map a21):=by
  rw [Int.toNat_natCast,m1]
  show _=toC ((List.replicate gL.length false).map a21)
  simp [toC,a21]
  exact .inr rfl
 (refine ac Tryz.func147 ?_;(conv=>whnf);repeat ((first|refine b0x ?_|refine zy ?_);conv=>whnf))
 repeat' (first|refine zz ?_|refine a3K (by omega) (by omega) (by omega) (by decide) ?_|refine zd ?_ ?_<;>intro h<;>try omega|refine zy ?_|fail)<;>conv=>whnf
 refine f5 d7 (fun k=>([J,a4J gL,S.c (C.t (T.ptr [ti s.n,M3 s.rows])),J,J,J,S.c (C.own 0 0 gL.length true),S.c (C.t (aV6 s gL k)),a7 .i64 k,J,J,J,J,J,J,J,J,J,J,J,J,J,J,J,J,J,J,J,J,J,J,J,J,J,J,J,J,J,J,J,J,J,J,J,J,J,J,J,J,J,J,J,J,J,J,J,J,J,J,J,J,J,J,J,J,J,J,J,J,J,J,J,J,J,J,J,J,J,J,J,J,J,J,J,J,J,J,J,J,J,J,J,J,J,J,J,J,J,J,J,J,J,J],[Z9 (x3 s gL k)])) (gL.length+1) (fun k=>∀j,j<k->x3 s gL (j+1)≠x3 s gL j) [some 0] (fun j hj=>by omega)
  ⟨rfl,rfl,⟨⟨rfl,rfl,rfl,.inl ⟨eR,eR ▸ d6 _⟩⟩,trivial⟩,⟨rfl,rfl,⟨rfl,rfl,by omega,fun h=>h⟩,rfl,rfl,trivial⟩⟩ ?_
 intro k hk hI
 have hkl:=a4f hI
 have olen:=P5 s gL k
 generalize hout:x3 s gL k=out at olen
 conv=>whnf
 repeat' (first|refine zz ?_|refine zd ?_ ?_<;>intro h<;>try omega|refine zy ?_|fail)<;>conv=>whnf
 refine f5 d7 (fun i=>([J,a4J gL,S.c (C.t (T.ptr [ti s.n,M3 s.rows])),J,J,J,S.c (C.own 0 0 gL.length true),S.c (C.t (aV6 s gL k)),a7 .i64 k,s6 (N9 gL out i),J,J,J,J,J,J,J,J,J,J,J,J,J,J,J,J,a4J gL,a7 .i64 gL.length,a7 .i64 i,J,J,J,J,J,J,J,J,J,J,J,J,J,J,J,J,J,J,J,J,J,J,J,J,J,J,J,J,J,J,J,J,J,J,J,J,J,J,J,J,J,J,J,J,J,J,J,J,J,J,J,J,J,J,J,J,J,J,J,J,J,J,J,J,J,J,J,J,J,J,J,J,J,J],[Z9 out])) gL.length (fun _=>True) [some 0] trivial
  ⟨rfl,rfl,⟨d9 (d6 _),trivial⟩,⟨rfl,rfl,⟨rfl,rfl,rfl,fun h=>h⟩,i7 rfl,rfl,rfl,rfl,b9 (by simp),rfl,trivial⟩⟩ ?_
 intro i hi _
 by_cases hil:i<gL.length
 ·obtain ⟨g,hg⟩:∃g,gL[i]? =some g:=⟨_,lg0 hil⟩
  have hgd:gL.getD i []=g:=by rw [lg3,hg];rfl
  obtain ⟨b,hb⟩:∃b,out[i]? =some b:=⟨_,lg0 (by omega)⟩
  have hbd:out.getD i false=b:=by rw [lg3,hb];rfl
  have gp:out[0+(i:Int).toNat]? =some b:=by rw [Nat.zero_add,show (i:Int).toNat=i by omega];exact hb
  have eS:N9 gL out (i+1)=if b=true then N9 gL out i else z4 (N9 gL out i) g:=by
   conv=>lhs;unfold N9
   rw [hbd,hgd]
  rw [eS]
  have pl:=b8B (N9 gL out i) g (a2b (by omega) (a0q h.p out i (by omega))) (a2b (by omega) (h.p.g g (lg2 hg)))
   (fun t ht=>by have:=P8 (ag0 h out i (by omega)) t ht;omega) (fun t ht=>by have:=P8 (a78 (h.w g (lg2 hg)) (by decide)) t ht;omega)
  cases b with
  |true=>
   rw [if_pos rfl]
   conv=>whnf
   repeat' (first|refine zz ?_|refine qp pl ?_|refine d8 hg ?_|refine aE8 gp ?_|refine zd ?_ ?_<;>intro h<;>try omega|refine zy ?_|fail)<;>conv=>whnf
   all_goals first
    |omega
    |exact ⟨hil,trivial,[some 0],rfl,rfl,⟨d9 (d6 _),trivial⟩,⟨rfl,rfl,⟨rfl,rfl,rfl,fun h=>h⟩,i7 rfl,rfl,rfl,rfl,rfl,b9 (by omega),trivial⟩⟩
  |false=>
   rw [if_neg (by decide)]
   conv=>whnf
   repeat' (first|refine zz ?_|refine qp pl ?_|refine d8 hg ?_|refine aE8 gp ?_|refine zd ?_ ?_<;>intro h<;>try omega|refine zy ?_|fail)<;>conv=>whnf
   all_goals first
    |omega
    |exact ⟨hil,trivial,[some 0],rfl,rfl,⟨d9 (d6 _),trivial⟩,⟨rfl,rfl,⟨rfl,rfl,rfl,fun h=>h⟩,i7 rfl,rfl,rfl,rfl,rfl,b9 (by omega),trivial⟩⟩
 have hie:i=gL.length:=by omega
 subst hie
 have mu:=aQ9 s (N9 gL out gL.length) h.sm h.p.z hpos (a0q h.p out _ (Nat.le_refl _)) (ag0 h out _ (Nat.le_refl _))
 have xr:=az7 h out
 have xl:(a0O s gL out).length=n:=by rw [a9F,hnn]
 have ex:S2 s (N9 gL out gL.length)=a0O s gL out:=rfl
 rw [ex] at mu
 have m2:(((a0O s gL out).map fz).map s7).length=n:=by rw [List.length_map,List.length_map,xl]
 have po:∀g ∈ gL,a9 Tryz.prog 123 [s6 g,n6 ((a0O s gL out).map fz)] [] (f9 (a1X g (a0O s gL out))) []:=fun g hg=>
  ab7 g (a0O s gL out) (by rw [xl];have:=h.p.g g hg;rwa [hnn] at this) (a78 (h.w g hg) (by decide)) (fun v hv=>by have:=xr v hv;omega) (by omega) (fun k=>by
   have h1:=a6P (P8 (a78 (h.w g hg) (by decide))) xr k
   have h2:=E0 (h.p.g g hg)
   have h3:g.length<=9:=by omega
   have h4:=Nat.mul_le_mul_right (31+4) h3
   omega)
 have eX:a0O s gL (x3 s gL k)=a0O s gL out:=by rw [hout]
 obtain ⟨x,hx⟩:∃x,a0O s gL out=x:=⟨_,rfl⟩
 rw [hx] at mu xr xl m2 po eX
 conv=>whnf
 repeat' (first|refine zz ?_|refine qp mu ?_|refine qp 5 ?_|refine bl0 [5] ?_|refine zd ?_ ?_<;>intro h<;>try omega|refine zy ?_|fail)<;>conv=>whnf
 all_goals try omega
 refine f5 d7 (fun i=>([J,a4J gL,S.c (C.t (T.ptr [ti s.n,M3 s.rows])),J,J,J,S.c (C.own 0 0 gL.length true),S.c (C.t (aV6 s gL k)),a7 .i64 k,J,J,J,n6 (x.map fz),J,f9 (a46 gL out x i),J,J,J,J,J,J,J,J,J,J,J,J,J,J,J,J,J,J,J,J,J,J,J,J,J,J,J,J,J,J,J,J,J,a4J gL,a7 .i64 gL.length,a7 .i64 i,J,J,J,J,J,J,J,J,J,J,J,J,J,J,J,J,J,J,J,J,J,J,J,J,J,J,J,J,J,J,J,J,J,J,J,J,J,J,J,J,J,J,J,J,J,J,J,J,J,J,J,J],[Z9 (a3n gL out x i)])) gL.length (fun _=>True) [some 0] trivial
  ⟨rfl,rfl,⟨a8 (rows:=out.map a21) rfl rfl rfl rfl (by rw [b1w olen]),trivial⟩,⟨rfl,rfl,⟨rfl,rfl,rfl,fun h=>h⟩,i7 rfl,rfl,rfl,rfl,rfl,b9 (by simp),rfl,trivial⟩⟩ ?_
 intro i hi _
 by_cases hil:i<gL.length
 ·obtain ⟨g,hg⟩:∃g,gL[i]? =some g:=⟨_,lg0 hil⟩
  have hgd:gL.getD i []=g:=by rw [lg3,hg];rfl
  obtain ⟨b,hb⟩:∃b,out.getD i false=b:=⟨_,rfl⟩
  have gp:(a3n gL out x i)[0+(i:Int).toNat]? =some b:=by rw [Nat.zero_add,show (i:Int).toNat=i by omega,b4R hil,hb]
  have pg:=po g (lg2 hg)
  rw [aU2,hb,hgd]
  have eM:0+(i:Int).toNat=i:=by omega
  generalize a46 gL out x i=mo
  cases b with
  |true=>
   rw [ao1 (.inl hb)]
   cases mo<;>
   ·conv=>whnf
    repeat' (first|refine zz ?_|refine qp pg ?_|refine d8 hg ?_|refine aE8 gp ?_|refine zd ?_ ?_<;>intro h<;>try omega|refine zy ?_|fail)<;>conv=>whnf
    all_goals first
     |omega
     |exact ⟨hil,trivial,[some 0],rfl,rfl,⟨d9 (d6 _),trivial⟩,⟨rfl,rfl,⟨rfl,rfl,rfl,fun h=>h⟩,i7 rfl,rfl,rfl,rfl,rfl,rfl,b9 (by omega),trivial⟩⟩
  |false=>
   cases hq:a1X g x with
   |false=>
    rw [hq] at pg
    rw [ao1 (.inr (by rw [hgd];exact hq))]
    cases mo<;>
    ·conv=>whnf
     repeat' (first|refine zz ?_|refine qp pg ?_|refine d8 hg ?_|refine aE8 gp ?_|refine zd ?_ ?_<;>intro h<;>try omega|refine zy ?_|fail)<;>conv=>whnf
     all_goals first
      |omega
      |exact ⟨hil,trivial,[some 0],rfl,rfl,⟨d9 (d6 _),trivial⟩,⟨rfl,rfl,⟨rfl,rfl,rfl,fun h=>h⟩,i7 rfl,rfl,rfl,rfl,rfl,rfl,b9 (by omega),trivial⟩⟩
   |true=>
    rw [hq] at pg
    have eB:=aE6 (l:=a3n gL out x i) eM
    rw [b4F hil (by rw [hgd];exact hq)] at eB
    cases mo<;>
    ·conv=>whnf
     repeat' (first|refine zz ?_|refine qp pg ?_|refine d8 hg ?_|refine aE8 gp ?_|refine zd ?_ ?_<;>intro h<;>try omega|refine zy ?_|fail)<;>conv=>whnf
     all_goals first
      |omega
      |exact ⟨hil,trivial,[some 0],rfl,rfl,⟨⟨rfl,rfl,rfl,.inl ⟨congrArg Blk.rows eB,(congrArg Blk.rows eB) ▸ d6 _⟩⟩,trivial⟩,⟨rfl,rfl,⟨rfl,rfl,rfl,fun h=>h⟩,i7 rfl,rfl,rfl,rfl,rfl,rfl,b9 (by omega),trivial⟩⟩
 have hie:i=gL.length:=by omega
 subst hie
 cases k with
 |zero=>
  have ey:Z0 s gL 0=x:=by show a0O s gL (x3 s gL 0)=x;exact eX
  have cq:=fun H:Hp=>a56 (H:=H) (cl x xl) rfl rfl (d6 _)
  have eT:aV6 s gL 0=.sl 0 .nil []:=rfl
  rw [eT]
  have eT1:aV6 s gL (0+1)=F2 (x.map fz):=by show F2 ((Z0 s gL 0).map fz)=_;rw [ey]
  have yl:x.length=n:=by rw [← ey,a6S,hnn]
  have yr:∀v ∈ x,rl v<=1000:=fun v hv=>by
   rw [← ey] at hv
   have h1:=a9h hG _ v hv
   have h2:=Nat.mul_le_mul_right 32 (show 0+1<=31 by omega)
   omega
  have oE:a3n gL out x gL.length=x3 s gL (0+1):=by rw [← hout,←eX];exact aG9 s gL _
  have mE:a46 gL out x gL.length=false↔x3 s gL (0+1)=x3 s gL 0:=by rw [← hout,←eX];exact aq0
  rw [oE]
  cases hmo:a46 gL out x gL.length with
  |true=>
   have hne:x3 s gL (0+1)≠x3 s gL 0:=fun e=>by rw [mE.2 e] at hmo;cases hmo
   have hI2:∀j,j<0+1->x3 s gL (j+1)≠x3 s gL j:=fun j hj=>by
    by_cases hjk:j=0
    ·subst hjk;exact hne
    ·exact hI j (by omega)
   have hf2:=a4f hI2
   rw [eT1]
   generalize x3 s gL (0+1)=O'
   generalize x=y at yl yr cq ⊢
   conv=>whnf
   repeat' (first|refine zz ?_|refine .inl ⟨_,_,cq _,?_⟩|refine zd ?_ ?_<;>intro h<;>try omega|refine zy ?_|fail)<;>conv=>whnf
   all_goals first
    |omega
    |exact ⟨by omega,hI2,[some 0],rfl,rfl,⟨d9 (d6 _),trivial⟩,⟨rfl,rfl,⟨rfl,rfl,rfl,fun h=>h⟩,aL7 yl,b9 (by omega),trivial⟩⟩
  |false=>
   have hK:=b0L (mE.1 hmo) hI
   have eF:x3 s gL (0+1)=isF s gL:=by unfold isF;rw [← hK];exact mE.1 hmo
   have eW:a9B s gL=x.map fun v=>v*Rat.divInt 1 ((0+1:Nat):Int):=by unfold a9B;rw [← hK,ey]
   rw [eF,eW]
   have of:=b3f 1 ((0:Nat)+1:Int) (by omega) (by decide) (by decide) (by omega) (by omega)
   have e1:Rat.divInt 1 ((0+1:Nat):Int)=Rat.divInt 1 ((0:Nat)+1:Int):=by push_cast;rfl
   rw [e1]
   have shr:rl (Rat.divInt 1 ((0:Nat)+1:Int))<=1:=by
    have h1:=Q1 (p:=1) (q:=((0:Nat)+1:Int)) (by omega)
    have h2:=t4 (x:=1) (by decide) (by decide)
    have h3:=t4 (x:=((0:Nat)+1:Int)) (by omega) (by omega)
    omega
   generalize Rat.divInt 1 ((0:Nat)+1:Int)=sh at of shr
   have iL:(isF s gL).length=gL.length:=P5 _ _ _
   generalize isF s gL=I' at iL
   generalize x=y at yl yr cq ⊢
   have m5:((y.map fz).map s7).length=n:=by rw [List.length_map,List.length_map,yl]
   conv=>whnf
   repeat' (first|refine zz ?_|refine qp of ?_|refine qp 7 ?_|refine qp 5 ?_|refine .inl ⟨_,_,cq _,?_⟩|refine bl0 [7] ?_|refine bl0 [5] ?_|refine zd ?_ ?_<;>intro h<;>try omega|refine zy ?_|fail)<;>conv=>whnf
   all_goals try omega
   refine f5 d7 (fun j=>([J,J,J,J,J,J,S.c (C.own 0 0 gL.length true),S.c (C.own 1 0 n true),J,J,J,J,J,J,J,J,J,S.c (C.ptr 2 0 0),J,J,J,J,J,J,J,J,J,J,J,J,J,J,J,J,J,J,J,J,J,J,J,J,J,J,J,J,J,J,J,J,J,J,J,J,J,J,J,J,J,J,J,J,J,J,J,J,J,J,J,J,J,J,J,J,J,J,J,J,J,J,J,J,J,J,S.c (C.own 1 0 n true),a7 .i64 n,a7 .i64 j,J,J,J,J,J,J,J,J,J,J,J,J,J,J,J,J],[Z9 I',flB (rF n (scF (fun j=>y.getD j 0) sh j)),frX sh])) n (fun _=>True) [some 0,some 1,some 2] trivial
    ⟨rfl,rfl,⟨d9 (d6 _),a8 (rows:=(y.map fz).map s7) rfl rfl rfl rfl (by rw [a0y y,yl,y5 (g:=scF (fun j=>y.getD j 0) sh 0) (h:=fun j=>y.getD j 0) fun j hj=>by unfold scF;rw [if_neg (by omega)]]),aS2 _,trivial⟩,⟨⟨rfl,rfl,rfl,fun h=>h⟩,⟨rfl,rfl,rfl,fun h=>h⟩,⟨rfl,rfl,rfl⟩,⟨rfl,rfl,rfl,fun h=>h⟩,b9 (by omega),rfl,trivial⟩⟩ ?_
   intro j hj _
   by_cases hjl:j<n
   ·have hyj:rl (y.getD j 0)<=1000:=by rw [lg3,lg0 (by omega)];exact yr _ (List.getElem_mem _)
    have mu2:=ad8 (y.getD j 0) sh (by omega) (by omega)
    have eJ:0+(j:Int).toNat=j:=by omega
    have gj:(rF n (scF (fun j=>y.getD j 0) sh j))[0+(j:Int).toNat]? =some (fz (y.getD j 0)):=by rw [eJ,H6 hjl];unfold scF;rw [if_neg (by omega)]
    have e:x5 (flB (rF n (scF (fun j=>y.getD j 0) sh j))) ((flB (rF n (scF (fun j=>y.getD j 0) sh j))).rows.set (0+(j:Int).toNat) (frC (fz (y.getD j 0*sh))))=flB (rF n (scF (fun j=>y.getD j 0) sh (j+1))):=by
     rw [I3 eJ,R8 hjl]
     refine congrArg flB (y5 fun q hq=>?_)
     unfold scF
     by_cases hqj:q=j
     ·subst hqj;rw [if_pos rfl,if_pos (by omega)]
     ·rw [if_neg hqj]
      by_cases hq2:q<j
      ·rw [if_pos hq2,if_pos (by omega)]
      ·rw [if_neg hq2,if_neg (by omega)]
    conv=>whnf
    repeat' (first|refine zz ?_|refine qp mu2 ?_|refine qp 7 ?_|refine qp 5 ?_|refine s9 gj ?_|refine bl0 [7] ?_|refine bl0 [5] ?_|refine zd ?_ ?_<;>intro h<;>try omega|refine zy ?_|fail)<;>conv=>whnf
    all_goals first
     |omega
     |exact ⟨hjl,trivial,[some 0,some 1,some 2],rfl,rfl,⟨d9 (d6 _),⟨rfl,rfl,rfl,.inl ⟨congrArg Blk.rows e,(congrArg Blk.rows e) ▸ d6 _⟩⟩,aS2 _,trivial⟩,⟨⟨rfl,rfl,rfl,fun h=>h⟩,⟨rfl,rfl,rfl,fun h=>h⟩,⟨rfl,rfl,rfl⟩,⟨rfl,rfl,rfl,fun h=>h⟩,rfl,b9 (by omega),trivial⟩⟩
   ·have hje:j=n:=by omega
    subst hje
    have eE:rF j (scF (fun j=>y.getD j 0) sh j)=(y.map fun v=>v*sh).map fz:=by
     rw [a0y (y.map _),List.length_map,yl]
     refine y5 fun q hq=>?_
     unfold scF
     rw [if_pos hq]
     show y.getD q 0*sh=(y.map fun v=>v*sh).getD q 0
     rw [lg3,lg3,List.getElem?_map,lg0 (by omega)];rfl
    rw [eE]
    conv=>whnf
    repeat' (first|refine zz ?_|refine zd ?_ ?_<;>intro h<;>try omega|refine zy ?_|fail)<;>conv=>whnf
    all_goals first
     |omega
     |exact k8 ⟨(show VC _ (fun id=>G3 [] id=true) (C.own 0 0 _ true) _ from v4 (k:=Z9 I') rfl rfl (fun h=>h) rfl rfl (by rw [List.length_map,iL])),(show VC _ (fun id=>G3 [] id=true) (C.own 1 0 _ true) _ from v4 (k:=flB ((y.map fun v=>v*sh).map fz)) rfl rfl (fun h=>h) rfl rfl (by rw [List.length_map,List.length_map,List.length_map,yl])),trivial⟩
 |succ k=>
  have ey:Z0 s gL (k+1)=Y9 (Z0 s gL k) x:=by show Y9 (Z0 s gL k) (a0O s gL (x3 s gL (k+1)))=_;rw [eX]
  have sl:=a6S (s:=s) (gL:=gL) k
  have sr:=a9h hG k
  have hl7:0<(((Z0 s gL k).map fz).map s7).length:=by rw [List.length_map,List.length_map,sl];omega
  have pl:=b4B (Z0 s gL k) x (by rw [sl,xl,hnn]) (by omega) (by omega) (fun v hv=>by have:=sr v hv;omega) (fun v hv=>by have:=xr v hv;omega)
  rw [sl,hnn] at pl
  have pq:=fun H:Hp=>a56 (H:=H) pl rfl rfl (d6 _)
  have eT:aV6 s gL (k+1)=F2 ((Z0 s gL k).map fz):=rfl
  rw [eT]
  have eT1:aV6 s gL (k+1+1)=F2 ((Y9 (Z0 s gL k) x).map fz):=by show F2 ((Z0 s gL (k+1)).map fz)=_;rw [ey]
  have yl:(Y9 (Z0 s gL k) x).length=n:=by rw [← ey,a6S,hnn]
  have yr:∀v ∈ (Y9 (Z0 s gL k) x),rl v<=1000:=fun v hv=>by
   rw [← ey] at hv
   have h1:=a9h hG _ v hv
   have h2:=Nat.mul_le_mul_right 32 (show (k+1)+1<=31 by omega)
   omega
  have oE:a3n gL out x gL.length=x3 s gL ((k+1)+1):=by rw [← hout,←eX];exact aG9 s gL _
  have mE:a46 gL out x gL.length=false↔x3 s gL ((k+1)+1)=x3 s gL (k+1):=by rw [← hout,←eX];exact aq0
  rw [oE]
  cases hmo:a46 gL out x gL.length with
  |true=>
   have hne:x3 s gL ((k+1)+1)≠x3 s gL (k+1):=fun e=>by rw [mE.2 e] at hmo;cases hmo
   have hI2:∀j,j<(k+1)+1->x3 s gL (j+1)≠x3 s gL j:=fun j hj=>by
    by_cases hjk:j=(k+1)
    ·subst hjk;exact hne
    ·exact hI j (by omega)
   have hf2:=a4f hI2
   rw [eT1]
   generalize x3 s gL ((k+1)+1)=O'
   generalize (Y9 (Z0 s gL k) x)=y at yl yr pq ⊢
   conv=>whnf
   repeat' (first|refine zz ?_|refine ⟨hl7,?_⟩|refine .inl ⟨_,_,pq _,?_⟩|refine zd ?_ ?_<;>intro h<;>try omega|refine zy ?_|fail)<;>conv=>whnf
   all_goals first
    |omega
    |exact ⟨by omega,hI2,[some 0],rfl,rfl,⟨d9 (d6 _),trivial⟩,⟨rfl,rfl,⟨rfl,rfl,rfl,fun h=>h⟩,aL7 yl,b9 (by omega),trivial⟩⟩
  |false=>
   have hK:=b0L (mE.1 hmo) hI
   have eF:x3 s gL ((k+1)+1)=isF s gL:=by unfold isF;rw [← hK];exact mE.1 hmo
   have eW:a9B s gL=(Y9 (Z0 s gL k) x).map fun v=>v*Rat.divInt 1 (((k+1)+1:Nat):Int):=by unfold a9B;rw [← hK,ey]
   rw [eF,eW]
   have of:=b3f 1 (((k+1):Nat)+1:Int) (by omega) (by decide) (by decide) (by omega) (by omega)
   have e1:Rat.divInt 1 (((k+1)+1:Nat):Int)=Rat.divInt 1 (((k+1):Nat)+1:Int):=by push_cast;rfl
   rw [e1]
   have shr:rl (Rat.divInt 1 (((k+1):Nat)+1:Int))<=1:=by
    have h1:=Q1 (p:=1) (q:=(((k+1):Nat)+1:Int)) (by omega)
    have h2:=t4 (x:=1) (by decide) (by decide)
    have h3:=t4 (x:=(((k+1):Nat)+1:Int)) (by omega) (by omega)
    omega
   generalize Rat.divInt 1 (((k+1):Nat)+1:Int)=sh at of shr
   have iL:(isF s gL).length=gL.length:=P5 _ _ _
   generalize isF s gL=I' at iL
   generalize (Y9 (Z0 s gL k) x)=y at yl yr pq ⊢
   have m5:((y.map fz).map s7).length=n:=by rw [List.length_map,List.length_map,yl]
   conv=>whnf
   repeat' (first|refine zz ?_|refine qp of ?_|refine qp 7 ?_|refine qp 5 ?_|refine ⟨hl7,?_⟩|refine .inl ⟨_,_,pq _,?_⟩|refine bl0 [7] ?_|refine bl0 [5] ?_|refine zd ?_ ?_<;>intro h<;>try omega|refine zy ?_|fail)<;>conv=>whnf
   all_goals try omega
   refine f5 d7 (fun j=>([J,J,J,J,J,J,S.c (C.own 0 0 gL.length true),S.c (C.own 1 0 n true),J,J,J,J,J,J,J,J,J,S.c (C.ptr 2 0 0),J,J,J,J,J,J,J,J,J,J,J,J,J,J,J,J,J,J,J,J,J,J,J,J,J,J,J,J,J,J,J,J,J,J,J,J,J,J,J,J,J,J,J,J,J,J,J,J,J,J,J,J,J,J,J,J,J,J,J,J,J,J,J,J,J,J,S.c (C.own 1 0 n true),a7 .i64 n,a7 .i64 j,J,J,J,J,J,J,J,J,J,J,J,J,J,J,J,J],[Z9 I',flB (rF n (scF (fun j=>y.getD j 0) sh j)),frX sh])) n (fun _=>True) [some 0,some 1,some 2] trivial
    ⟨rfl,rfl,⟨d9 (d6 _),a8 (rows:=(y.map fz).map s7) rfl rfl rfl rfl (by rw [a0y y,yl,y5 (g:=scF (fun j=>y.getD j 0) sh 0) (h:=fun j=>y.getD j 0) fun j hj=>by unfold scF;rw [if_neg (by omega)]]),aS2 _,trivial⟩,⟨⟨rfl,rfl,rfl,fun h=>h⟩,⟨rfl,rfl,rfl,fun h=>h⟩,⟨rfl,rfl,rfl⟩,⟨rfl,rfl,rfl,fun h=>h⟩,b9 (by omega),rfl,trivial⟩⟩ ?_
   intro j hj _
   by_cases hjl:j<n
   ·have hyj:rl (y.getD j 0)<=1000:=by rw [lg3,lg0 (by omega)];exact yr _ (List.getElem_mem _)
    have mu2:=ad8 (y.getD j 0) sh (by omega) (by omega)
    have eJ:0+(j:Int).toNat=j:=by omega
    have gj:(rF n (scF (fun j=>y.getD j 0) sh j))[0+(j:Int).toNat]? =some (fz (y.getD j 0)):=by rw [eJ,H6 hjl];unfold scF;rw [if_neg (by omega)]
    have e:x5 (flB (rF n (scF (fun j=>y.getD j 0) sh j))) ((flB (rF n (scF (fun j=>y.getD j 0) sh j))).rows.set (0+(j:Int).toNat) (frC (fz (y.getD j 0*sh))))=flB (rF n (scF (fun j=>y.getD j 0) sh (j+1))):=by
     rw [I3 eJ,R8 hjl]
     refine congrArg flB (y5 fun q hq=>?_)
     unfold scF
     by_cases hqj:q=j
     ·subst hqj;rw [if_pos rfl,if_pos (by omega)]
     ·rw [if_neg hqj]
      by_cases hq2:q<j
      ·rw [if_pos hq2,if_pos (by omega)]
      ·rw [if_neg hq2,if_neg (by omega)]
    conv=>whnf
    repeat' (first|refine zz ?_|refine qp mu2 ?_|refine qp 7 ?_|refine qp 5 ?_|refine s9 gj ?_|refine bl0 [7] ?_|refine bl0 [5] ?_|refine zd ?_ ?_<;>intro h<;>try omega|refine zy ?_|fail)<;>conv=>whnf
    all_goals first
     |omega
     |exact ⟨hjl,trivial,[some 0,some 1,some 2],rfl,rfl,⟨d9 (d6 _),⟨rfl,rfl,rfl,.inl ⟨congrArg Blk.rows e,(congrArg Blk.rows e) ▸ d6 _⟩⟩,aS2 _,trivial⟩,⟨⟨rfl,rfl,rfl,fun h=>h⟩,⟨rfl,rfl,rfl,fun h=>h⟩,⟨rfl,rfl,rfl⟩,⟨rfl,rfl,rfl,fun h=>h⟩,rfl,b9 (by omega),trivial⟩⟩
   ·have hje:j=n:=by omega
    subst hje
    have eE:rF j (scF (fun j=>y.getD j 0) sh j)=(y.map fun v=>v*sh).map fz:=by
     rw [a0y (y.map _),List.length_map,yl]
     refine y5 fun q hq=>?_
     unfold scF
     rw [if_pos hq]
     show y.getD q 0*sh=(y.map fun v=>v*sh).getD q 0
     rw [lg3,lg3,List.getElem?_map,lg0 (by omega)];rfl
    rw [eE]
    conv=>whnf
    repeat' (first|refine zz ?_|refine zd ?_ ?_<;>intro h<;>try omega|refine zy ?_|fail)<;>conv=>whnf
    all_goals first
     |omega
     |exact k8 ⟨(show VC _ (fun id=>G3 [] id=true) (C.own 0 0 _ true) _ from v4 (k:=Z9 I') rfl rfl (fun h=>h) rfl rfl (by rw [List.length_map,iL])),(show VC _ (fun id=>G3 [] id=true) (C.own 1 0 _ true) _ from v4 (k:=flB ((y.map fun v=>v*sh).map fz)) rfl rfl (fun h=>h) rfl rfl (by rw [List.length_map,List.length_map,List.length_map,yl])),trivial⟩
theorem b6V {cs:List K0} {rs:List y0} {scale reading day:Int} {lo hi:Rat} (h:C3 cs rs scale reading day=some (lo,hi)):0<=hi:=by
 unfold C3 at h
 split at h
 ·cases h
 ·rename_i i hi
  obtain ⟨hb,c,hc,_,hcv⟩:=L4 hi
  have e:a0X cs i=c:=by unfold a0X;rw [hc];rfl
  rw [e] at h
  split at h
  ·cases h
  ·split at h
   ·rename_i hr
    injection h with h
    injection h with h1 h2
    rw [← h2]
    unfold J5 O6 at hcv
    rw [V5] at hr
    simp only [Bool.and_eq_true,decide_eq_true_eq,V5] at hcv
    obtain ⟨⟨⟨⟨⟨⟨⟨h1,h2⟩,h3⟩,_⟩,h4⟩,h5⟩,h6⟩,h7⟩:=hcv
    have e1:0<=c.permille*reading:=Int.mul_nonneg (by omega) (by omega)
    have e3:0<=c.drift*(day - c.since):=Int.mul_nonneg (by omega) (by omega)
    have r1:(0:Rat)<=(reading:Rat):=by exact_mod_cast hr.1
    have r2:(0:Rat)<=Rat.divInt (c.permille*reading) 1000:=by rw [Rat.divInt_nonneg_iff_of_pos_right (by decide)];exact e1
    have r3:(0:Rat)<=((c.grams+c.drift*(day - c.since):Int):Rat):=by exact_mod_cast (show (0:Int)<=c.grams+c.drift*(day - c.since) by omega)
    unfold a2p
    grind
   ·cases h
theorem b1x {t:e8} {kind:Int} (ht:v8 t=0) (k0:0<=kind) (k1:kind<8):a9K (y8 t) kind (List.replicate t.ev.moves.length 0):=by
 refine ⟨a1c ht,k0,k1,by simp [y8],fun i x hx=>?_⟩
 rw [ab3,b2i (fun j=>ab3 _ j)]
 refine ⟨⟨Rat.le_refl,fun _=>Rat.le_refl,fun _=>rfl⟩,?_,fun g hg=>(by simp [j5,y8] at hg),fun _=>rfl⟩
 show aF6 (G0 t.ev x) 0=true
 cases hiv:G0 t.ev x with
 |none=>rfl
 |some p=>
  obtain ⟨lo,hi⟩:=p
  simp only [aF6,decide_eq_true_eq]
  unfold G0 at hiv
  split at hiv
  ·cases hiv
  ·exact b6V hiv
theorem ad7 {t:e8} {kind:Int} (i:Nat) (ht:v8 t=0) (k0:0<=kind) (k1:kind<8):a6k t kind i (List.replicate t.ev.moves.length 0):=
 ⟨b1x ht k0 k1,fun j _ _=>ab3 _ j⟩
structure QT (t:e8):Prop where
 h:v8 t=0
 m:t.ev.moves.length<=8
 p:t.ev.places.length<=20
theorem QT.c {t:e8} (h:QT t):t.cleans.length<=50:=(n8 h.h).2.2.1
theorem Q4 {t:e8} {kind:Int} {i:Nat} {z:List Rat} (h:QT t) (k0:0<=kind) (k1:kind<8):j7 (o6 t kind i) z=true↔a6k t kind i z:=alone_holds h.h k0 k1 (by have:=h.m;omega)
theorem b1j {l:List Nat} {i:Nat}:∀w ∈ N0 l i,b3g w:=by
 intro w hw
 obtain ⟨j,hj,rfl⟩:=List.mem_map.1 hw
 exact ⟨Y4 (by decide) (by decide),a5X⟩
theorem T0 {t:e8} {kind:Int} (i:Nat) (h:QT t):a0t (o6 t kind i):=by
 have hm:=h.m
 have hc:=h.c
 refine ⟨a8G (by omega) hc,fun w hw=>?_,by show ((t.ev.moves.length:Nat):Int)<=9;omega,?_⟩
 ·rcases List.mem_append.1 hw with hw|hw
  ·exact b9k (a1c h.h) w hw
  ·exact b1j w hw
 ·have h1:=S3 (t:=y8 t) (kind:=kind) t.ev.moves.length
  have h2:t.ev.moves.length*(2+(y8 t).finds.length+(y8 t).cleans.length)<=14*52:=Nat.mul_le_mul (by omega) (by show 2+0+t.cleans.length<=52;omega)
  have h3:=a2d (i9 t.ev) i
  have h4:(i9 t.ev).length<=t.ev.moves.length:=B5 _
  show ((p9 (y8 t) kind t.ev.moves.length)++N0 (i9 t.ev) i).length<=999
  rw [List.length_append]
  omega
theorem a5g (i:Nat) (z:List Rat):k9 (C1 i) z=z.getD i 0:=by
 unfold C1
 show _=_
 simp only [k9,Int.toNat_natCast]
 have:((1:Int):Rat)=1:=rfl
 rw [this];grind
theorem a8y {e:Ev} (h0:C6 e=0) (z:List Rat) (p:Nat) (k:Nat):k9 (x6 e p k) z=if o4 e p=0 then 0 else a06 e z k p:=by
 unfold x6
 split
 ·rfl
 ·exact a6g h0 z p k
theorem ao9 {e:Ev} {p:Int}:∀k,a0x 1 (j6 e p k)
 |0=>fun t ht=>by cases ht
 |k+1=>by
  have ih:=ao9 (e:=e) (p:=p) k
  unfold j6
  cases hx:e.moves[k]? with
  |none=>exact ih
  |some y=>
   simp only
   split
   ·intro t ht
    rcases List.mem_append.1 ht with ht|ht
    ·exact ih t ht
    ·simp at ht;subst ht;exact ⟨1,rfl,by decide⟩
   ·split
    ·intro t ht
     rcases List.mem_append.1 ht with ht|ht
     ·exact ih t ht
     ·simp at ht;subst ht;exact ⟨-1,rfl,by decide⟩
    ·exact ih
theorem a7P {e:Ev} {g:List (Int × Rat)} (h:g ∈ K4 e):(∃ i,i<e.moves.length∧g=C1 i)∨∃p,p<e.places.length∧g=x6 e p e.moves.length:=by
 unfold K4 I5 at h
 rcases List.mem_append.1 h with h|h
 ·obtain ⟨i,hi,rfl⟩:=List.mem_map.1 h;exact .inl ⟨i,List.mem_range.1 hi,rfl⟩
 ·obtain ⟨p,hp,rfl⟩:=List.mem_map.1 h;exact .inr ⟨p,List.mem_range.1 hp,rfl⟩
theorem a5m (e:Ev):(K4 e).length=e.moves.length+e.places.length:=a63 _ _ _
theorem aX9 {e:Ev} {i:Nat} (h:i<e.moves.length):(K4 e).getD i []=C1 i:=by
 unfold K4 I5
 rw [lg3,List.getElem?_append_left (by simpa using h)]
 simp [h]
theorem aM7 {e:Ev} {p:Nat} (h:p<e.places.length):(K4 e).getD (e.moves.length+p) []=x6 e p e.moves.length:=by
 unfold K4 I5
 rw [lg3,List.getElem?_append_right (by simp)]
 simp [h]
theorem I7 {t:e8} {kind:Int} (i:Nat) (h:QT t) (h0:0<t.ev.moves.length) (k0:0<=kind) (k1:kind<8):a7V (o6 t kind i) (K4 t.ev):=by
 have hs:=T0 (kind:=kind) i h
 have hck:=(n8 h.h).1
 refine ⟨⟨hs.r,(ay4 hs.r).2 ⟨_,(Q4 h k0 k1).2 (ad7 i h.h k0 k1)⟩,fun g hg=>?_,fun g hg z hz=>?_⟩,hs,by show (0:Int)<((t.ev.moves.length:Nat):Int);omega,fun g hg=>?_,by rw [a5m];have:=h.m;have:=h.p;omega⟩
 ·show g9 (-1) ((((t.ev.moves.length:Nat):Int).toNat:Nat):Int) g=true
  rw [Int.toNat_natCast]
  rcases a7P hg with ⟨i,hi,rfl⟩|⟨p,hp,rfl⟩
  ·exact W6 (by omega) (by show ((i:Nat):Int)<_;omega) (by show ((1:Int):Rat)≠0;decide) rfl
  ·unfold x6
   split
   ·rfl
   ·exact (a2h _ (Int.le_refl _)).1
 ·have hA:=(Q4 h k0 k1).1 hz
  rcases a7P hg with ⟨j,hj,rfl⟩|⟨p,hp,rfl⟩
  ·rw [a5g]
   obtain ⟨x,hx⟩:∃x,t.ev.moves[j]? =some x:=⟨_,lg0 hj⟩
   exact (hA.p.step j x hx).1.pos
  ·rw [a8y hck]
   split
   ·exact Rat.le_refl
   ·rename_i hk
    exact a9n hA.p _ _ hk
 ·rcases a7P hg with ⟨j,hj,rfl⟩|⟨p,hp,rfl⟩
  ·intro t ht;simp [C1] at ht;subst ht;exact ⟨1,rfl,by decide⟩
  ·unfold x6
   split
   ·intro t ht;cases ht
   ·exact ao9 _
noncomputable def isA (t:e8) (kind:Int) (i:Nat):List Bool:=isF (o6 t kind i) (K4 t.ev)
noncomputable def F5 (t:e8) (kind:Int) (mv:Nat):List Nat:=(i9 t.ev).filter fun i=>(isA t kind i).getD mv false
noncomputable def C5 (t:e8) (kind:Int) (mv g:Nat):Bool:=(F5 t kind mv).any fun i=>(isA t kind i).getD g false
def aj4 (e:Ev) (z:List Rat) (g:Nat):Rat:=if g<e.moves.length then z.getD g 0 else if o4 e ((g - e.moves.length:Nat):Int)=0 then 0 else a06 e z e.moves.length (g - e.moves.length)
theorem a87 {e:Ev} (h0:C6 e=0) (z:List Rat) {g:Nat} (hg:g<e.moves.length+e.places.length):k9 ((K4 e).getD g []) z=aj4 e z g:=by
 unfold aj4
 by_cases h:g<e.moves.length
 ·rw [if_pos h,aX9 h,a5g]
 ·obtain ⟨p,rfl⟩:∃p,g=e.moves.length+p:=⟨g - e.moves.length,by omega⟩
  rw [if_neg h,aM7 (by omega),a8y h0,Nat.add_sub_cancel_left]
theorem au6 {t:e8} {kind:Int} {i g:Nat} (h:QT t) (h0:0<t.ev.moves.length) (k0:0<=kind) (k1:kind<8) (hg:g<t.ev.moves.length+t.ev.places.length):
 (isA t kind i).getD g false=true↔∃z,a6k t kind i z∧0<aj4 t.ev z g:=by
 have hG:=I7 (kind:=kind) i h h0 k0 k1
 have hck:=(n8 h.h).1
 rw [isA,b4w hG.p (by rw [a5m];exact hg)]
 constructor
 ·rintro ⟨z,hz,hp⟩;exact ⟨z,(Q4 h k0 k1).1 hz,by rw [← a87 hck z hg];exact hp⟩
 ·rintro ⟨z,hz,hp⟩;exact ⟨z,(Q4 h k0 k1).2 hz,by rw [a87 hck z hg];exact hp⟩
noncomputable def a3m (t:e8) (kind:Int) (i:Nat):List Rat:=a9B (o6 t kind i) (K4 t.ev)
theorem a8j {t:e8} {kind:Int} {i:Nat} (h:QT t) (h0:0<t.ev.moves.length) (k0:0<=kind) (k1:kind<8):a6k t kind i (a3m t kind i)∧∀g,g<t.ev.moves.length+t.ev.places.length->(isA t kind i).getD g false=true->0<aj4 t.ev (a3m t kind i) g:=by
 have hG:=I7 (kind:=kind) i h h0 k0 k1
 have hck:=(n8 h.h).1
 obtain ⟨h1,h2⟩:=b59 hG.p
 refine ⟨(Q4 h k0 k1).1 h1,fun g hg hi=>?_⟩
 rw [← a87 hck _ hg]
 exact h2 g (by rw [a5m];exact hg) hi
theorem az2 (t:e8) (kind:Int) (i:Nat):(isA t kind i).length=t.ev.moves.length+t.ev.places.length:=by
 rw [← a5m];exact P5 _ _ _
noncomputable def a5Y (t:e8) (kind:Int) (i:Nat):List T:=[ti i,a6L (isA t kind i),F2 ((a3m t kind i).map fz)]
noncomputable abbrev ba3 (t:e8) (kind:Int) (l:List Nat):T:=.sl 3 .any (l.map (a5Y t kind))
noncomputable abbrev ax3 (t:e8) (kind:Int) (l:List Nat):S:=.c (.t (ba3 t kind l))
noncomputable abbrev b97 (t:e8) (kind:Int) (l:List Nat):Blk:={ mode:=.live,elem:=127,size:=3,rows:=toC (l.map (a5Y t kind)),box:=false }
noncomputable def a86 (t:e8) (kind:Int) (mv k:Nat):List Nat:=((i9 t.ev).take k).filter fun i=>(isA t kind i).getD mv false
theorem b1l {t:e8} {kind:Int} {mv k i:Nat} (h:(i9 t.ev)[k]? =some i):a86 t kind mv (k+1)=if (isA t kind i).getD mv false=true then a86 t kind mv k++[i] else a86 t kind mv k:=by
 unfold a86
 have e:(i9 t.ev).take (k+1)=(i9 t.ev).take k++[i]:=by rw [List.take_add_one,h];rfl
 rw [e,List.filter_append]
 by_cases hj:(isA t kind i).getD mv false=true
 ·rw [if_pos hj];simp [lg3] at hj ⊢;rw [hj]
 ·rw [if_neg hj];simp [lg3] at hj ⊢;rw [hj]
theorem b3X (t:e8) (kind:Int) (mv k:Nat):(a86 t kind mv k).length<=(i9 t.ev).length:=by
 unfold a86
 exact Nat.le_trans (List.length_filter_le _ _) (by rw [List.length_take];omega)
theorem b3Y (t:e8) (kind:Int) (mv:Nat):a86 t kind mv (i9 t.ev).length=F5 t kind mv:=by
 unfold a86 F5;rw [lg4 (Nat.le_refl _)]
set_option maxHeartbeats 4000000 in
theorem a7t (t:e8) (hs:t.Sized) (h:QT t) (find:Int) (f:J9) (f0:0<=find) (hf:t.finds[find.toNat]? =some f):
 a9 Tryz.prog 78 [trS t,a7 .i64 find] [] (ax3 t f.kind (F5 t f.kind f.mv.toNat)) []:=by
 obtain ⟨q1,q2,q3,q4,q5⟩:=n8 h.h
 have hg:=E6 q4 f (lg2 hf)
 have hm:=h.m
 have hp:=h.p
 have m1:((Q7 t.ev).map f8).length=(i9 t.ev).length:=by rw [List.length_map,a38]
 have ll:(i9 t.ev).length<=t.ev.moves.length:=B5 _
 have li:=at8 t.ev hs.ev q1
 have go:=b68 t.ev hs.ev (by omega) (by omega)
 (refine ac Tryz.func78 ?_;(conv=>whnf);repeat ((first|refine b0x ?_|refine zy ?_);conv=>whnf))
 repeat' (first|refine zz ?_|refine qp li ?_|refine qp go ?_|refine zd ?_ ?_<;>intro h<;>try omega|refine zy ?_|fail)<;>conv=>whnf
 refine f5 d7 (fun k=>([J,a7 .i64 find,S.c (C.t (T.ptr (trT t))),J,J,S.c (C.own 0 0 (a86 t f.kind f.mv.toNat k).length true),e7 (Q7 t.ev),a4J (K4 t.ev),J,J,J,J,J,J,J,J,J,J,e7 (Q7 t.ev),a7 .i64 (i9 t.ev).length,a7 .i64 k,J,J,J,J,J,J,J,J,J,J,J,J,J,J,J,J,J,J,J,J,J,J,J,J,J,J,J,J,J,J,J],[b97 t f.kind (a86 t f.kind f.mv.toNat k)])) (i9 t.ev).length (fun _=>True) [none] trivial
  ⟨rfl,rfl,⟨⟨rfl,rfl⟩,trivial⟩,⟨rfl,rfl,⟨rfl,rfl,rfl⟩,rfl,rfl,rfl,b9 (by simp [m1]),rfl,trivial⟩⟩ ?_
 intro k hk _
 have l2:=b3X t f.kind f.mv.toNat k
 by_cases hlt:k<(i9 t.ev).length
 ·obtain ⟨i,hi⟩:∃i,(i9 t.ev)[k]? =some i:=⟨_,lg0 hlt⟩
  have hii:=a66 hi
  have al:=ax5 t hs h.h find f f0 hf i (by omega)
  have il:i<t.ev.moves.length:=by
   obtain ⟨m,hm,_⟩:=M7.1 (lg2 hi)
   exact (lg1 hm).1
  have re:=b28 (o6 t f.kind i) (K4 t.ev) (I7 i h (by omega) (by omega) (by omega))
  have lA:(a86 t f.kind f.mv.toNat k).length<=(b97 t f.kind (a86 t f.kind f.mv.toNat k)).rows.length:=by show _<=(toC _).length;simp [toC]
  have iA:=az2 t f.kind i
  obtain ⟨b,hb⟩:∃b,(isA t f.kind i)[f.mv.toNat]? =some b:=⟨_,lg0 (by omega)⟩
  have hbd:(isA t f.kind i).getD f.mv.toNat false=b:=by rw [lg3,hb];rfl
  have eA:isF (o6 t f.kind i) (K4 t.ev)=isA t f.kind i:=rfl
  have eW:a9B (o6 t f.kind i) (K4 t.ev)=a3m t f.kind i:=rfl
  rw [eA,eW] at re
  have gb:∀{K:List T->Prop},K [tb b]->∃row,0<=f.mv∧((isA t f.kind i).map a21)[f.mv.toNat]? =some row∧K row:=fun hK=>o7 (f:=a21) hg.1 hb hK
  rw [b1l hi,hbd]
  cases b with
  |true=>
   rw [if_pos rfl]
   conv=>whnf
   repeat' (first|refine zz ?_|refine qp al ?_|refine qp re ?_|refine qp toC ?_|refine d8 hii ?_|refine o7 f0 hf ?_|refine gb ?_|refine q9 lA (by simp [toC];omega) ?_|refine zd ?_ ?_<;>intro h<;>try omega|refine zy ?_|fail)<;>conv=>whnf
   all_goals first
    |omega
    |(refine ⟨hlt,trivial,[some 1],rfl,rfl,⟨a8 (rows:=(a86 t f.kind f.mv.toNat k++[i]).map (a5Y t f.kind)) rfl rfl rfl ?_ rfl,trivial⟩,⟨rfl,rfl,⟨rfl,rfl,?_,fun h=>h⟩,rfl,rfl,rfl,rfl,b9 (by omega),trivial⟩⟩
      ·exact C9 (f:=a5Y t f.kind) (x:=i) rfl
      ·simp [toC])
  |false=>
   rw [if_neg (by decide)]
   conv=>whnf
   repeat' (first|refine zz ?_|refine qp al ?_|refine qp re ?_|refine d8 hii ?_|refine o7 f0 hf ?_|refine gb ?_|refine zd ?_ ?_<;>intro h<;>try omega|refine zy ?_|fail)<;>conv=>whnf
   all_goals first
    |omega
    |exact ⟨hlt,trivial,[some 0],rfl,rfl,⟨d9 (d6 _),trivial⟩,⟨rfl,rfl,⟨rfl,rfl,rfl,fun h=>h⟩,rfl,rfl,rfl,rfl,b9 (by omega),trivial⟩⟩
 ·have hke:k=(i9 t.ev).length:=by omega
  subst hke
  rw [b3Y]
  conv=>whnf
  repeat' (first|refine zz ?_|refine zd ?_ ?_<;>intro h<;>try omega|refine zy ?_|fail)<;>conv=>whnf
  all_goals first
   |omega
   |exact T7 rfl (fun h=>h) rfl rfl (by simp)
theorem a28 {t:e8} (h:QT t) {find:Int} {f:J9} (f0:0<=find) (hf:t.finds[find.toNat]? =some f):T1 t find=true:=by
 have hl:=(lg1 hf).1
 unfold T1
 rw [decide_eq_true h.h,decide_eq_true f0,decide_eq_true (by omega)];rfl
def w6 (l:List Nat):List Int:=l.map fun i:Nat=>(i:Int)
theorem Z1 (l:List Nat):(w6 l).length=l.length:=by simp [w6]
theorem b1S {l:List Nat} {k i:Nat} (h:l[k]? =some i):w6 (l.take (k+1))=w6 (l.take k)++[(i:Int)]:=by
 unfold w6;rw [List.take_add_one,h];simp
theorem aj6 (t:e8) (hs:t.Sized) (find:Int) (h:T1 t find=false):a9 Tryz.prog 34 [trS t,a7 .i64 find] [] (.tup [.c (.t (.sl 0 .nil [])),a7 .i64 1]) []:=by
 have fi:=a4V t hs find
 rw [h] at fi
 (refine ac Tryz.func34 ?_;(conv=>whnf);repeat ((first|refine b0x ?_|refine zy ?_);conv=>whnf))
 repeat' (first|refine zz ?_|refine qp fi ?_|refine zd ?_ ?_<;>intro h<;>try omega|refine zy ?_|fail)<;>conv=>whnf
 all_goals first
  |omega
  |exact k8 ⟨rfl,rfl,trivial⟩
set_option maxHeartbeats 4000000 in
theorem a58 (t:e8) (hs:t.Sized) (h:QT t) (find:Int) (f:J9) (f0:0<=find) (hf:t.finds[find.toNat]? =some f):
 a9 Tryz.prog 34 [trS t,a7 .i64 find] [] (.tup [e7 (w6 (F5 t f.kind f.mv.toNat)),a7 .i64 0]) []:=by
 have fi:=a4V t hs find
 rw [a28 h f0 hf] at fi
 have re:=a7t t hs h find f f0 hf
 have hm:=h.m
 have rl2:(F5 t f.kind f.mv.toNat).length<=t.ev.moves.length:=Nat.le_trans (List.length_filter_le _ _) (B5 _)
 have m1:((F5 t f.kind f.mv.toNat).map (a5Y t f.kind)).length=(F5 t f.kind f.mv.toNat).length:=by simp
 generalize F5 t f.kind f.mv.toNat=l at re m1 rl2
 (refine ac Tryz.func34 ?_;(conv=>whnf);repeat ((first|refine b0x ?_|refine zy ?_);conv=>whnf))
 repeat' (first|refine zz ?_|refine qp fi ?_|refine qp re ?_|refine zd ?_ ?_<;>intro h<;>try omega|refine zy ?_|fail)<;>conv=>whnf
 refine f5 d7 (fun k=>([J,J,J,J,J,J,S.c (C.own 0 0 (w6 (l.take k)).length true),J,J,J,J,J,J,J,J,ax3 t f.kind l,a7 .i64 l.length,a7 .i64 k,J,J,J,J,J,J,J,J,J,J],[s8 (w6 (l.take k))])) l.length (fun _=>True) [none] trivial
  ⟨rfl,rfl,⟨⟨rfl,rfl⟩,trivial⟩,⟨⟨rfl,rfl,rfl⟩,rfl,b9 (by simp),rfl,trivial⟩⟩ ?_
 intro k hk _
 have lN:=Z1 (l.take k)
 have lT:(l.take k).length=k:=by rw [List.length_take];omega
 have lA:(w6 (l.take k)).length<=(s8 (w6 (l.take k))).rows.length:=by show _<=(toC _).length;simp [toC]
 by_cases hlt:k<l.length
 ·obtain ⟨i,hi⟩:∃i,l[k]? =some i:=⟨_,lg0 hlt⟩
  rw [b1S hi]
  conv=>whnf
  repeat' (first|refine zz ?_|refine qp toC ?_|refine d8 hi ?_|refine q9 lA (by simp [toC];omega) ?_|refine zd ?_ ?_<;>intro h<;>try omega|refine zy ?_|fail)<;>conv=>whnf
  all_goals first
   |omega
   |(refine ⟨hlt,trivial,[some 2],rfl,rfl,⟨a8 (rows:=(w6 (l.take k)++[(i:Int)]).map f8) rfl rfl rfl ?_ rfl,trivial⟩,⟨⟨rfl,rfl,?_,fun h=>h⟩,rfl,rfl,b9 (by omega),trivial⟩⟩
     ·exact C9 (f:=f8) (x:=(i:Int)) rfl
     ·simp [toC])
 ·have hke:k=l.length:=by omega
  subst hke
  rw [lg4 (Nat.le_refl _)] at *
  conv=>whnf
  repeat' (first|refine zz ?_|refine zd ?_ ?_<;>intro h<;>try omega|refine zy ?_|fail)<;>conv=>whnf
  all_goals first
   |omega
   |exact k8 ⟨(show VC _ (fun id=>G3 [] id=true) (C.own 0 0 _ true) _ from v4 (k:=s8 (w6 l)) rfl rfl (fun h=>h) rfl rfl (by simp)),rfl,trivial⟩
def a4x (t:e8) (find mv:Int):Bool:=T1 t find && decide (0<=mv) && decide (mv<t.ev.moves.length)
theorem aa9 (t:e8) (hs:t.Sized) (find mv:Int):a9 Tryz.prog 107 [trS t,a7 .i64 find,a7 .i64 mv] [] (f9 (a4x t find mv)) []:=by
 have fi:=a4V t hs find
 have m1:(t.ev.moves.map x4.row).length=t.ev.moves.length:=by simp
 unfold a4x
 cases hb:T1 t find with
 |true=>
  rw [hb] at fi
  rw [Bool.true_and]
  (refine ac Tryz.func107 ?_;(conv=>whnf);repeat ((first|refine b0x ?_|refine zy ?_);conv=>whnf))
  repeat' (first|refine zz ?_|refine qp fi ?_|refine zd ?_ ?_<;>intro h<;>try omega|refine zy ?_|fail)<;>conv=>whnf
  all_goals first
   |omega
   |(refine b7 ?_;symm;simp only [Bool.and_eq_true,decide_eq_true_eq,Bool.and_eq_false_iff,decide_eq_false_iff_not];omega)
 |false=>
  rw [hb] at fi
  rw [Bool.false_and,Bool.false_and]
  (refine ac Tryz.func107 ?_;(conv=>whnf);repeat ((first|refine b0x ?_|refine zy ?_);conv=>whnf))
  repeat' (first|refine zz ?_|refine qp fi ?_|refine zd ?_ ?_<;>intro h<;>try omega|refine zy ?_|fail)<;>conv=>whnf
  all_goals first
   |omega
   |exact b7 rfl
noncomputable def a2u (t:e8) (kind:Int) (g:Nat) (l:List Nat):Option Nat:=l.find? fun i=>(isA t kind i).getD g false
noncomputable def b4a (t:e8) (kind:Int) (o:Option Nat):S:=match o with
 |some i=>.tup [a7 .i64 i,n6 ((a3m t kind i).map fz),f9 true]
 |none=>.tup [a7 .i64 0,.c (.t (.sl 0 .nil [])),f9 false]
set_option maxHeartbeats 4000000 in
theorem a7s (t:e8) (hs:t.Sized) (h:QT t) (find:Int) (f:J9) (f0:0<=find) (hf:t.finds[find.toNat]? =some f) (g:Nat) (hg:g<t.ev.moves.length):
 a9 Tryz.prog 42 [trS t,a7 .i64 find,a7 .i64 g] [] (b4a t f.kind (a2u t f.kind g (F5 t f.kind f.mv.toNat))) []:=by
 have kn:=aa9 t hs find g
 have hk:a4x t find g=true:=by unfold a4x;rw [a28 h f0 hf,decide_eq_true (by omega),decide_eq_true (by omega)];rfl
 rw [hk] at kn
 have re:=a7t t hs h find f f0 hf
 have hm:=h.m
 have rl2:(F5 t f.kind f.mv.toNat).length<=t.ev.moves.length:=Nat.le_trans (List.length_filter_le _ _) (B5 _)
 have m1:((F5 t f.kind f.mv.toNat).map (a5Y t f.kind)).length=(F5 t f.kind f.mv.toNat).length:=by simp
 generalize F5 t f.kind f.mv.toNat=l at re m1 rl2
 (refine ac Tryz.func42 ?_;(conv=>whnf);repeat ((first|refine b0x ?_|refine zy ?_);conv=>whnf))
 repeat' (first|refine zz ?_|refine qp kn ?_|refine qp re ?_|refine zd ?_ ?_<;>intro h<;>try omega|refine zy ?_|fail)<;>conv=>whnf
 refine f5 d7 (fun k=>([J,J,a7 .i64 g,J,J,J,J,J,J,J,J,J,J,J,J,J,J,J,ax3 t f.kind l,a7 .i64 l.length,a7 .i64 k,J,J,J,J,J,J,J,J,J,J,J,J,J],[])) l.length (fun k=>a2u t f.kind g (l.drop k)=a2u t f.kind g l) [] rfl
  ⟨rfl,rfl,trivial,⟨rfl,rfl,b9 (by simp),rfl,trivial⟩⟩ ?_
 intro k hk hI
 by_cases hlt:k<l.length
 ·obtain ⟨i,hi⟩:∃i,l[k]? =some i:=⟨_,lg0 hlt⟩
  have hd:l.drop k=i::l.drop (k+1):=by rw [List.drop_eq_getElem_cons hlt];rw [lg0 hlt] at hi;injection hi with hi;rw [hi]
  have iA:=az2 t f.kind i
  obtain ⟨b,hb⟩:∃b,(isA t f.kind i)[g]? =some b:=⟨_,lg0 (by omega)⟩
  have hbd:(isA t f.kind i).getD g false=b:=by rw [lg3,hb];rfl
  have gb:∀{K:List T->Prop},K [tb b]->∃row,0<=(g:Int)∧((isA t f.kind i).map a21)[(g:Int).toNat]? =some row∧K row:=fun hK=>d8 (f:=a21) hb hK
  unfold a2u at hI
  rw [hd,List.find?_cons,hbd] at hI
  cases b with
  |true=>
   have e:a2u t f.kind g l=some i:=by unfold a2u;rw [← hI]
   rw [e]
   unfold b4a
   conv=>whnf
   repeat' (first|refine zz ?_|refine d8 hi ?_|refine gb ?_|refine zd ?_ ?_<;>intro h<;>try omega|refine zy ?_|fail)<;>conv=>whnf
   all_goals first
    |omega
    |exact k8 ⟨rfl,rfl,rfl,trivial⟩
  |false=>
   conv=>whnf
   repeat' (first|refine zz ?_|refine d8 hi ?_|refine gb ?_|refine zd ?_ ?_<;>intro h<;>try omega|refine zy ?_|fail)<;>conv=>whnf
   all_goals first
    |omega
    |exact ⟨hlt,hI,[],rfl,rfl,trivial,⟨rfl,rfl,rfl,b9 (by omega),trivial⟩⟩
 ·have hke:k=l.length:=by omega
  subst hke
  have e:a2u t f.kind g l=none:=by rw [← hI,List.drop_length];rfl
  rw [e]
  unfold b4a
  conv=>whnf
  repeat' (first|refine zz ?_|refine zd ?_ ?_<;>intro h<;>try omega|refine zy ?_|fail)<;>conv=>whnf
  all_goals first
   |omega
   |exact k8 ⟨rfl,rfl,rfl,trivial⟩
theorem a6F {H:Hp} {p:Nat->Prop} {id:Nat} {l:List Int} (hp:p id) (hk:H[id]? =some (s8 l)):VC H p (.own id 0 l.length true) (L5 l):=
 v4 (k:=s8 l) hp hk (fun h=>h) rfl rfl (by simp)
theorem b2k (t:e8) (kind:Int) (i g:Nat) (hg:g<t.ev.moves.length+t.ev.places.length):
 a9 Tryz.prog 80 [.agg [.t (ti i),.t (a6L (isA t kind i)),.t (F2 ((a3m t kind i).map fz))],.c (.t (aD9 g))] [] (f9 ((isA t kind i).getD g false)) []:=by
 have iA:=az2 t kind i
 obtain ⟨b,hb⟩:∃b,(isA t kind i)[g]? =some b:=⟨_,lg0 (by omega)⟩
 have hbd:(isA t kind i).getD g false=b:=by rw [lg3,hb];rfl
 rw [hbd]
 cases b<;>
 ·(refine ac Tryz.func80 ?_;(conv=>whnf);repeat ((first|refine b0x ?_|refine zy ?_);conv=>whnf))
  repeat' (first|refine zz ?_|refine d8 (f:=a21) hb ?_|refine zd ?_ ?_<;>intro h<;>try omega|refine zy ?_|fail)<;>conv=>whnf
  all_goals first
   |omega
   |exact b7 rfl
theorem aW9 (t:e8) (kind:Int) (l:List Nat) (hl:l.length<=1000000) (fg:FuncId) (caps:List T) (g:Nat) (hg:∀i ∈ l,a9 Tryz.prog fg (.agg [.t (ti i),.t (a6L (isA t kind i)),.t (F2 ((a3m t kind i).map fz))]::caps.map fun x=>.c (.t x)) [] (f9 ((isA t kind i).getD g false)) []):
 a9 Tryz.prog 148 [ax3 t kind l,.c (.t (.fn (.func fg) caps))] [] (a7 .i64 (F3 (fun i=>(isA t kind i).getD g false) l 0)) []:=by
 have l1:(l.map (a5Y t kind)).length=l.length:=by simp
 (refine ac Tryz.func148 ?_;(conv=>whnf);repeat (refine zy ?_;conv=>whnf))
 repeat' (first|refine zz ?_|refine zd ?_ ?_<;>intro h<;>try omega|refine zy ?_|fail)<;>conv=>whnf
 refine f5 d7 (fun k=>([ax3 t kind l,S.c (C.t (T.fn (.func fg) caps)),J,J,J,J,J,a7 .i64 l.length,a7 .i64 k,J,J,J,J,J,J,J,J,J,J],[])) l.length (fun k=>F3 (fun i=>(isA t kind i).getD g false) (l.drop k) k=F3 (fun i=>(isA t kind i).getD g false) l 0) [] rfl
  ⟨rfl,rfl,trivial,⟨i7 rfl,i7 rfl,b9 (by simp),rfl,trivial⟩⟩ ?_
 intro k hk hI
 by_cases hlt:k<l.length
 ·obtain ⟨r,hr⟩:∃r,l[k]? =some r:=⟨_,lg0 hlt⟩
  have hd:l.drop k=r::l.drop (k+1):=by
   rw [List.drop_eq_getElem_cons hlt]
   rw [lg0 hlt] at hr
   injection hr with hr
   rw [hr]
  have hgr:=hg r (lg2 hr)
  have ha:(S.agg [.t (ti r),.t (a6L (isA t kind r)),.t (F2 ((a3m t kind r).map fz))]::caps.map fun x=>S.c (C.t x)).all S.isT=true:=by simp [S.isT,C.isT]
  rw [hd] at hI
  have hI:(if (isA t kind r).getD g false then (k:Int) else F3 (fun i=>(isA t kind i).getD g false) (l.drop (k+1)) (k+1))=F3 (fun i=>(isA t kind i).getD g false) l 0:=hI
  cases hq:(isA t kind r).getD g false with
  |true=>
   rw [hq] at hgr hI
   conv=>whnf
   repeat' (first|refine zz ?_|refine .inl ⟨_,_,B7 hgr ha rfl,?_⟩|refine d8 hr ?_|refine zd ?_ ?_<;>intro h<;>try omega|refine zy ?_|fail)<;>conv=>whnf
   all_goals first
    |omega
    |exact j8 hI
  |false=>
   rw [hq] at hgr hI
   conv=>whnf
   repeat' (first|refine zz ?_|refine .inl ⟨_,_,B7 hgr ha rfl,?_⟩|refine d8 hr ?_|refine zd ?_ ?_<;>intro h<;>try omega|refine zy ?_|fail)<;>conv=>whnf
   all_goals first
    |omega
    |exact ⟨hlt,by simpa using hI,[],rfl,rfl,trivial,⟨rfl,rfl,rfl,rfl,trivial⟩⟩
 ·have hke:k=l.length:=by omega
  subst hke
  rw [List.drop_of_length_le (Nat.le_refl _)] at hI
  conv=>whnf
  repeat' (first|refine zz ?_|refine zd ?_ ?_<;>intro h<;>try omega|refine zy ?_|fail)<;>conv=>whnf
  all_goals first
   |omega
   |exact j8 hI
theorem aj2 (t:e8) (kind:Int) (l:List Nat) (hl:l.length<=1000000) (g:Nat) (hg:g<t.ev.moves.length+t.ev.places.length):
 a9 Tryz.prog 79 [ax3 t kind l,.c (.t (.fn (.func 80) [aD9 g]))] [] (f9 (l.any fun i=>(isA t kind i).getD g false)) []:=by
 have ix:=aW9 t kind l hl 80 [aD9 g] g (fun i _=>b2k t kind i g hg)
 (refine ac Tryz.func79 ?_;(conv=>whnf);repeat (refine zy ?_;conv=>whnf))
 repeat' (first|refine zz ?_|refine qp ix ?_|refine zd ?_ ?_<;>intro h<;>try omega|refine zy ?_|fail)<;>conv=>whnf
 all_goals (refine b7 ?_;rw [← a3r (fun i=>(isA t kind i).getD g false) l 0];symm;first|exact decide_eq_true (by omega)|exact decide_eq_false (by omega))
noncomputable def X2 (t:e8) (kind:Int) (mv:Nat) (k:Nat):List Nat:=(List.range k).filter fun g=>C5 t kind mv g
noncomputable def J0 (t:e8) (kind:Int) (mv k:Nat):List Nat:=(X2 t kind mv k).filter fun g=>decide (g<t.ev.moves.length)
noncomputable def F8 (t:e8) (kind:Int) (mv k:Nat):List Nat:=((X2 t kind mv k).filter fun g=>!decide (g<t.ev.moves.length)).map fun g=>g - t.ev.moves.length
theorem a8M (t:e8) (kind:Int) (mv k:Nat):X2 t kind mv (k+1)=if C5 t kind mv k=true then X2 t kind mv k++[k] else X2 t kind mv k:=by
 unfold X2
 rw [List.range_succ,List.filter_append]
 cases h:C5 t kind mv k<;>simp [h]
theorem aF7 (t:e8) (kind:Int) (mv k:Nat):J0 t kind mv (k+1)=if C5 t kind mv k=true then (if k<t.ev.moves.length then J0 t kind mv k++[k] else J0 t kind mv k) else J0 t kind mv k:=by
 unfold J0
 rw [a8M]
 by_cases h:C5 t kind mv k=true
 ·rw [if_pos h,if_pos h,List.filter_append]
  by_cases h2:k<t.ev.moves.length<;>simp [h2]
 ·rw [if_neg h,if_neg h]
theorem aB2 (t:e8) (kind:Int) (mv k:Nat):F8 t kind mv (k+1)=if C5 t kind mv k=true then (if k<t.ev.moves.length then F8 t kind mv k else F8 t kind mv k++[k - t.ev.moves.length]) else F8 t kind mv k:=by
 unfold F8
 rw [a8M]
 by_cases h:C5 t kind mv k=true
 ·rw [if_pos h,if_pos h,List.filter_append,List.map_append]
  by_cases h2:k<t.ev.moves.length<;>simp [h2]
 ·rw [if_neg h,if_neg h]
theorem ad4 (t:e8) (kind:Int) (mv k:Nat):(X2 t kind mv k).length<=k:=by
 unfold X2;exact Nat.le_trans (List.length_filter_le _ _) (by simp)
theorem a3l (t:e8) (kind:Int) (mv k:Nat):(J0 t kind mv k).length<=k:=Nat.le_trans (List.length_filter_le _ _) (ad4 _ _ _ _)
theorem a8F (t:e8) (kind:Int) (mv k:Nat):(F8 t kind mv k).length<=k:=by
 unfold F8;rw [List.length_map];exact Nat.le_trans (List.length_filter_le _ _) (ad4 _ _ _ _)
theorem aN4 (l:List Nat) (k:Nat):w6 (l++[k])=w6 l++[(k:Int)]:=by simp [w6]
noncomputable def t8 (t:e8) (kind:Int) (mv:Nat):List Nat:=J0 t kind mv (t.ev.moves.length+t.ev.places.length)
noncomputable def v5 (t:e8) (kind:Int) (mv:Nat):List Nat:=F8 t kind mv (t.ev.moves.length+t.ev.places.length)
theorem a4u (t:e8) (hs:t.Sized) (find:Int) (h:T1 t find=false):a9 Tryz.prog 23 [trS t,a7 .i64 find] [] (.tup [.c (.t (.sl 0 .nil [])),.c (.t (.sl 0 .nil [])),a7 .i64 1]) []:=by
 have fi:=a4V t hs find
 rw [h] at fi
 (refine ac Tryz.func23 ?_;(conv=>whnf);repeat ((first|refine b0x ?_|refine zy ?_);conv=>whnf))
 repeat' (first|refine zz ?_|refine qp fi ?_|refine zd ?_ ?_<;>intro h<;>try omega|refine zy ?_|fail)<;>conv=>whnf
 all_goals first
  |omega
  |exact k8 ⟨rfl,rfl,rfl,trivial⟩
set_option maxHeartbeats 8000000 in
theorem aM3 (t:e8) (hs:t.Sized) (h:QT t) (find:Int) (f:J9) (f0:0<=find) (hf:t.finds[find.toNat]? =some f):
 a9 Tryz.prog 23 [trS t,a7 .i64 find] [] (.tup [.c (.own 0 0 (w6 (t8 t f.kind f.mv.toNat)).length true),.c (.own 1 0 (w6 (v5 t f.kind f.mv.toNat)).length true),a7 .i64 0]) [s8 (w6 (t8 t f.kind f.mv.toNat)),s8 (w6 (v5 t f.kind f.mv.toNat))]:=by
 have fi:=a4V t hs find
 rw [a28 h f0 hf] at fi
 have re:=a7t t hs h find f f0 hf
 have hm:=h.m
 have hp:=h.p
 have rl2:(F5 t f.kind f.mv.toNat).length<=t.ev.moves.length:=Nat.le_trans (List.length_filter_le _ _) (B5 _)
 have m1:(t.ev.moves.map x4.row).length=t.ev.moves.length:=by simp
 have m2:(t.ev.places.map J1.row).length=t.ev.places.length:=by simp
 generalize hN:t.ev.moves.length+t.ev.places.length=N
 (refine ac Tryz.func23 ?_;(conv=>whnf);repeat ((first|refine b0x ?_|refine zy ?_);conv=>whnf))
 repeat' (first|refine zz ?_|refine qp fi ?_|refine qp re ?_|refine zd ?_ ?_<;>intro h<;>try omega|refine zy ?_|fail)<;>conv=>whnf
 refine f5 d7 (fun k=>([J,J,J,J,S.c (C.own 0 0 (w6 (J0 t f.kind f.mv.toNat k)).length true),S.c (C.own 1 0 (w6 (F8 t f.kind f.mv.toNat k)).length true),J,a7 .i64 t.ev.moves.length,ax3 t f.kind (F5 t f.kind f.mv.toNat),J,J,J,J,J,J,J,J,J,J,J,J,J,J,J,J,J,a7 .i64 N,a7 .i64 k,J,J,J,J,J,J,J,J,J,J,J,J,J,J,J,J,J,J,J,J,J,J],[s8 (w6 (J0 t f.kind f.mv.toNat k)),s8 (w6 (F8 t f.kind f.mv.toNat k))])) N (fun _=>True) [none,none] trivial
  ⟨rfl,rfl,⟨⟨rfl,rfl⟩,⟨rfl,rfl⟩,trivial⟩,⟨⟨rfl,rfl,rfl⟩,⟨rfl,rfl,rfl⟩,b9 (by simp),rfl,b9 (by simp;omega),rfl,trivial⟩⟩ ?_
 intro k hk _
 have c1:=a3l t f.kind f.mv.toNat k
 have c2:=a8F t f.kind f.mv.toNat k
 have d1:=Z1 (J0 t f.kind f.mv.toNat k)
 have d2:=Z1 (F8 t f.kind f.mv.toNat k)
 by_cases hlt:k<N
 ·have lA:(w6 (J0 t f.kind f.mv.toNat k)).length<=(s8 (w6 (J0 t f.kind f.mv.toNat k))).rows.length:=by show _<=(toC _).length;simp [toC]
  have lB:(w6 (F8 t f.kind f.mv.toNat k)).length<=(s8 (w6 (F8 t f.kind f.mv.toNat k))).rows.length:=by show _<=(toC _).length;simp [toC]
  have ct:=aj2 t f.kind (F5 t f.kind f.mv.toNat) (by omega) k (by omega)
  have eR:((F5 t f.kind f.mv.toNat).any fun i=>(isA t f.kind i).getD k false)=C5 t f.kind f.mv.toNat k:=rfl
  rw [eR] at ct
  rw [aF7,aB2]
  generalize J0 t f.kind f.mv.toNat k=X at *
  generalize F8 t f.kind f.mv.toNat k=Y at *
  have va:a1G [s8 (w6 X),s8 (w6 Y),{ mode:=.live,elem:=3,size:=1,rows:=[[.t (ti k)]],box:=true }] (fun _=>True) [ax3 t f.kind (F5 t f.kind f.mv.toNat),.c (.fn (.func 80) [.ptr 2 0 0])] [ax3 t f.kind (F5 t f.kind f.mv.toNat),.c (.t (.fn (.func 80) [aD9 k]))]:=
   ⟨b2h,aD7 (show _∧True from ⟨ad6 (k:={ mode:=.live,elem:=3,size:=1,rows:=[[.t (ti k)]],box:=true }) (row:=[.t (ti k)]) trivial rfl (fun h=>h) rfl (b4T [ti k]),trivial⟩),trivial⟩
  cases hb:C5 t f.kind f.mv.toNat k with
  |false=>
   rw [hb] at ct
   conv=>whnf
   repeat' (first|refine zz ?_|refine .inl ⟨_,_,k7 ct va rfl,?_⟩|refine zd ?_ ?_<;>intro h<;>try omega|refine zy ?_|fail)<;>conv=>whnf
   all_goals first
    |omega
    |exact ⟨hlt,trivial,[some 0,some 1],rfl,rfl,⟨d9 (d6 _),d9 (d6 _),trivial⟩,⟨⟨rfl,rfl,rfl,fun h=>h⟩,⟨rfl,rfl,rfl,fun h=>h⟩,rfl,rfl,rfl,b9 (by omega),trivial⟩⟩
  |true=>
   rw [hb] at ct
   rw [if_pos rfl,if_pos rfl]
   by_cases hkm:k<t.ev.moves.length
   ·rw [if_pos hkm,if_pos hkm,aN4]
    conv=>whnf
    repeat' (first|refine zz ?_|refine qp toC ?_|refine .inl ⟨_,_,k7 ct va rfl,?_⟩|refine q9 lA (by simp [toC];omega) ?_|refine zd ?_ ?_<;>intro h<;>try omega|refine zy ?_|fail)<;>conv=>whnf
    all_goals first
     |omega
     |(refine ⟨hlt,trivial,[some 3,some 1],rfl,rfl,⟨a8 (rows:=(w6 X++[(k:Int)]).map f8) rfl rfl rfl ?_ rfl,d9 (d6 _),trivial⟩,⟨⟨rfl,rfl,?_,fun h=>h⟩,⟨rfl,rfl,rfl,fun h=>h⟩,rfl,rfl,rfl,b9 (by omega),trivial⟩⟩
       ·exact C9 (f:=f8) (x:=(k:Int)) rfl
       ·simp [toC])
   ·rw [if_neg hkm,if_neg hkm,aN4]
    have eP:((k - t.ev.moves.length:Nat):Int)=(k:Int) - (t.ev.moves.length:Int):=by omega
    rw [eP]
    conv=>whnf
    repeat' (first|refine zz ?_|refine qp toC ?_|refine .inl ⟨_,_,k7 ct va rfl,?_⟩|refine q9 lB (by simp [toC];omega) ?_|refine zd ?_ ?_<;>intro h<;>try omega|refine zy ?_|fail)<;>conv=>whnf
    all_goals first
     |omega
     |(refine ⟨hlt,trivial,[some 0,some 3],rfl,rfl,⟨d9 (d6 _),a8 (rows:=(w6 Y++[(k:Int) - (t.ev.moves.length:Int)]).map f8) rfl rfl rfl ?_ rfl,trivial⟩,⟨⟨rfl,rfl,rfl,fun h=>h⟩,⟨rfl,rfl,?_,fun h=>h⟩,rfl,rfl,rfl,b9 (by omega),trivial⟩⟩
       ·exact C9 (f:=f8) (x:=(k:Int) - (t.ev.moves.length:Int)) rfl
       ·simp [toC])
 ·have hke:k=N:=by omega
  subst hke
  have e1:t8 t f.kind f.mv.toNat=J0 t f.kind f.mv.toNat k:=by unfold t8;rw [hN]
  have e2:v5 t f.kind f.mv.toNat=F8 t f.kind f.mv.toNat k:=by unfold v5;rw [hN]
  rw [e1,e2]
  generalize J0 t f.kind f.mv.toNat k=X at *
  generalize F8 t f.kind f.mv.toNat k=Y at *
  conv=>whnf
  repeat' (first|refine zz ?_|refine zd ?_ ?_<;>intro h<;>try omega|refine zy ?_|fail)<;>conv=>whnf
  all_goals first
   |omega
   |exact ⟨⟨[some 0,some 1],rfl,rfl,⟨d9 (d6 _),d9 (d6 _),trivial⟩,⟨⟨rfl,rfl,rfl,fun h=>h⟩,⟨rfl,rfl,rfl,fun h=>h⟩,rfl,trivial⟩⟩⟩
theorem a2x (t:e8) (hs:t.Sized) (h:QT t) (find:Int) (f:J9) (f0:0<=find) (hf:t.finds[find.toNat]? =some f):
 a9 Tryz.prog 23 [trS t,a7 .i64 find] [] (.tup [e7 (w6 (t8 t f.kind f.mv.toNat)),e7 (w6 (v5 t f.kind f.mv.toNat)),a7 .i64 0]) []:=by
 refine b24 (aM3 t hs h find f f0 hf) (k8 ⟨(show VC _ (fun id=>G3 [] id=true) _ _ from a6F rfl rfl),(show VC _ (fun id=>G3 [] id=true) _ _ from a6F rfl rfl),rfl,trivial⟩)
def a7a (q:Int->Bool) (xs:List Int) (i0:Nat):Nat->List Int × Nat
 |0=>(xs,i0)
 |m+1=>if q (xs.getD (i0+1+m) 0)=true then a7a q xs i0 m else ((a7a q xs i0 m).1.set (a7a q xs i0 m).2 (xs.getD (i0+1+m) 0),(a7a q xs i0 m).2+1)
structure ba1 (q:Int->Bool) (xs:List Int) (j:Nat) (r:List Int) (i:Nat):Prop where
 len:r.length=xs.length
 lt:i<j
 tk:r.take i=(xs.take j).filter fun x=>!q x
 dr:r.drop j=xs.drop j
theorem aq2 {q:Int->Bool} {xs:List Int} {i0:Nat} (h0:i0<xs.length) (h1:(xs.take i0).filter (fun x=>!q x)=xs.take i0) (h2:q (xs.getD i0 0)=true):
 ∀m,i0+1+m<=xs.length->ba1 q xs (i0+1+m) (a7a q xs i0 m).1 (a7a q xs i0 m).2
 |0,hm=>by
  refine ⟨rfl,by show i0<_;omega,?_,rfl⟩
  show xs.take i0=_
  rw [Nat.add_zero,List.take_add_one,List.filter_append,h1,lg0 h0]
  rw [lg3,lg0 h0] at h2
  simp at h2
  simp [h2]
 |m+1,hm=>by
  have ih:=aq2 h0 h1 h2 m (by omega)
  obtain ⟨a1,a2,a3,a4⟩:=ih
  unfold a7a
  generalize hj:i0+1+m=j at *
  have ej:i0+1+(m+1)=j+1:=by omega
  rw [ej]
  have hjl:j<xs.length:=by omega
  generalize a7a q xs i0 m=p at *
  obtain ⟨r,i⟩:=p
  simp only at a1 a2 a3 a4 ⊢
  have hx:xs.getD j 0=xs[j]:=by rw [lg3,lg0 hjl];rfl
  rw [hx]
  have ht:xs.take (j+1)=xs.take j++[xs[j]]:=by rw [List.take_add_one,lg0 hjl];rfl
  by_cases hq:q xs[j]=true
  ·rw [if_pos hq]
   refine ⟨a1,by show i<_;omega,?_,?_⟩
   ·show r.take i=_
    rw [a3,ht,List.filter_append];simp [hq]
   ·show r.drop (j+1)=_
    rw [← List.drop_drop,a4,List.drop_drop]
  ·rw [if_neg hq]
   refine ⟨by simp [a1],by show i+1<_;omega,?_,?_⟩
   ·show (r.set i xs[j]).take (i+1)=_
    rw [List.take_add_one,List.take_set_of_le (Nat.le_refl _),List.getElem?_set_self (by omega),a3,ht,List.filter_append]
    have:q xs[j]=false:=by simpa using hq
    simp [this]
   ·show (r.set i xs[j]).drop (j+1)=_
    rw [List.drop_set_of_lt (by omega),←List.drop_drop,a4,List.drop_drop]
theorem a8p {q:Int->Bool}:∀(xs:List Int) (k:Nat),(F3 q xs k=-1∧xs.filter (fun x=>!q x)=xs)∨∃i,F3 q xs k=((k+i:Nat):Int)∧i<xs.length∧(xs.take i).filter (fun x=>!q x)=xs.take i∧q (xs.getD i 0)=true
 |[],k=>.inl ⟨rfl,rfl⟩
 |x::r,k=>by
  unfold F3
  cases h:q x with
  |true=>exact .inr ⟨0,by simp,by simp,rfl,by simpa using h⟩
  |false=>
   rcases a8p (q:=q) r (k+1) with ⟨h1,h2⟩|⟨i,h1,h2,h3,h4⟩
   ·exact .inl ⟨by simpa using h1,by simp [h,h2]⟩
   ·refine .inr ⟨i+1,?_,by simp;omega,by simp [h,h3],by simpa using h4⟩
    show (if false=true then (k:Int) else F3 q r (k+1))=_
    rw [if_neg (by decide),h1];congr 1;omega
theorem aS7 (xs:List Int) (hl:xs.length<=1000000) (fg:FuncId) (caps:List T) (q:Int->Bool) (hg:∀x ∈ xs,a9 Tryz.prog fg (a7 .i64 x::caps.map fun x=>.c (.t x)) [] (f9 (q x)) []):
 a9 Tryz.prog 175 [e7 xs,.c (.t (.fn (.func fg) caps))] [] (a7 .i64 (F3 q xs 0)) []:=by
 have l1:(xs.map f8).length=xs.length:=by simp
 (refine ac Tryz.func175 ?_;(conv=>whnf);repeat (refine zy ?_;conv=>whnf))
 repeat' (first|refine zz ?_|refine zd ?_ ?_<;>intro h<;>try omega|refine zy ?_|fail)<;>conv=>whnf
 refine f5 d7 (fun k=>([e7 xs,S.c (C.t (T.fn (.func fg) caps)),J,J,J,J,J,a7 .i64 xs.length,a7 .i64 k,J,J,J,J,J,J,J,J,J,J],[])) xs.length (fun k=>F3 q (xs.drop k) k=F3 q xs 0) [] rfl
  ⟨rfl,rfl,trivial,⟨i7 rfl,i7 rfl,b9 (by simp),rfl,trivial⟩⟩ ?_
 intro k hk hI
 by_cases hlt:k<xs.length
 ·obtain ⟨r,hr⟩:∃r,xs[k]? =some r:=⟨_,lg0 hlt⟩
  have hd:xs.drop k=r::xs.drop (k+1):=by
   rw [List.drop_eq_getElem_cons hlt]
   rw [lg0 hlt] at hr
   injection hr with hr
   rw [hr]
  have hgr:=hg r (lg2 hr)
  have ha:(a7 .i64 r::caps.map fun x=>S.c (C.t x)).all S.isT=true:=by simp [S.isT,C.isT,a7]
  rw [hd] at hI
  have hI:(if q r then (k:Int) else F3 q (xs.drop (k+1)) (k+1))=F3 q xs 0:=hI
  cases hq:q r with
  |true=>
   rw [hq] at hgr hI
   conv=>whnf
   repeat' (first|refine zz ?_|refine .inl ⟨_,_,B7 hgr ha rfl,?_⟩|refine d8 hr ?_|refine zd ?_ ?_<;>intro h<;>try omega|refine zy ?_|fail)<;>conv=>whnf
   all_goals first
    |omega
    |exact j8 hI
  |false=>
   rw [hq] at hgr hI
   conv=>whnf
   repeat' (first|refine zz ?_|refine .inl ⟨_,_,B7 hgr ha rfl,?_⟩|refine d8 hr ?_|refine zd ?_ ?_<;>intro h<;>try omega|refine zy ?_|fail)<;>conv=>whnf
   all_goals first
    |omega
    |exact ⟨hlt,by simpa using hI,[],rfl,rfl,trivial,⟨rfl,rfl,rfl,rfl,trivial⟩⟩
 ·have hke:k=xs.length:=by omega
  subst hke
  rw [List.drop_of_length_le (Nat.le_refl _)] at hI
  conv=>whnf
  repeat' (first|refine zz ?_|refine zd ?_ ?_<;>intro h<;>try omega|refine zy ?_|fail)<;>conv=>whnf
  all_goals first
   |omega
   |exact j8 hI
theorem aw2 {l:List Int} {n:Nat} {v:Int} {K:List C->Prop} (h:l[n]? =some v) (k:K [C.t (ti v)]):∃row,(s8 l).rows[n]? =some row∧K row:=⟨_,by show (toC (l.map f8))[n]? =_;simp [toC,f8,h],k⟩
theorem b1H {l:List Int} {i n:Nat} {v:Int} (h:n=i):x5 (s8 l) ((s8 l).rows.set n [C.t (ti v)])=s8 (l.set i v):=by
 subst h
 unfold x5
 show ({ mode:=_,elem:=_,size:=_,rows:=(toC (l.map f8)).set n _,box:=_,app:=_ }:Blk)=_
 have:(toC (l.map f8)).set n [C.t (ti v)]=toC ((l.set n v).map f8):=by
  unfold toC
  rw [List.map_set,List.map_set];rfl
 rw [this]
set_option maxHeartbeats 8000000 in
theorem aM9 (xs ys:List Int) (hl:xs.length<=1000000) (fg:FuncId) (caps:List T) (q:Int->Bool) (hg:∀x ∈ xs,a9 Tryz.prog fg (a7 .i64 x::caps.map fun x=>.c (.t x)) [] (f9 (q x)) []):
 ∃zs,zs.take (xs.filter fun x=>!q x).length=(xs.filter fun x=>!q x)∧zs.length=xs.length∧a9 Tryz.prog 105 [.c (.own 0 0 xs.length true),.c (.t (.fn (.func fg) caps))] [s8 xs,s8 ys] (.c (.own 0 0 (xs.filter fun x=>!q x).length true)) [s8 zs,s8 ys]:=by
 have ix:=aS7 xs hl fg caps q hg
 have ha:(caps.map fun x=>S.c (C.t x)).all S.isT=true:=by simp [S.isT,C.isT]
 rcases a8p (q:=q) xs 0 with ⟨h1,h2⟩|⟨i0,h1,h2,h3,h4⟩
 ·rw [h1] at ix
  rw [h2]
  refine ⟨xs,lg4 (Nat.le_refl _),rfl,?_⟩
  (refine ac Tryz.func105 ?_;(conv=>whnf);repeat (refine zy ?_;conv=>whnf))
  repeat' (first|refine zz ?_|refine .inl ⟨_,_,a6e ix ⟨a0T (a6F trivial rfl),ai6,trivial⟩ rfl,?_⟩|refine zd ?_ ?_<;>intro h<;>try omega|refine zy ?_|fail)<;>conv=>whnf
  all_goals first
   |omega
   |exact ⟨⟨[some 0,some 1],rfl,rfl,⟨d9 (d6 _),d9 (d6 _),trivial⟩,⟨rfl,rfl,rfl,fun h=>h⟩⟩⟩
 ·rw [h1,Nat.zero_add] at ix
  have hD:=aq2 h2 h3 h4
  obtain ⟨n,hn⟩:∃n,i0+1+n=xs.length:=⟨xs.length - (i0+1),by omega⟩
  have hE:=hD n (by omega)
  generalize hF:a7a q xs i0 n=rn at hE
  obtain ⟨rs,i⟩:=rn
  obtain ⟨e1,e2,e3,e4⟩:=hE
  simp only at e1 e2 e3 e4
  rw [hn,lg4 (Nat.le_refl _)] at e3
  have e5:(rs.take i).length=i:=by rw [List.length_take];omega
  have hz:rs.take i++List.replicate (xs.length - i) (0:Int)=rs.take i++List.replicate (xs.length - i) (0:Int):=rfl
  refine ⟨rs.take i++List.replicate (xs.length - i) 0,?_,by rw [List.length_append,e5,List.length_replicate];omega,?_⟩
  ·rw [← e3,List.take_append_of_le_length (by omega),e5,List.take_take,Nat.min_self]
  have eC:D3 (0+(i:Int).toNat) ((xs.length:Int) - (i:Int)).toNat (toC (rs.map f8)) (List.replicate ((xs.length:Int) - (i:Int)).toNat [C.t (ti 0)])=toC ((rs.take i++List.replicate (xs.length - i) 0).map f8):=by
   have x1:0+(i:Int).toNat=i:=by omega
   have x2:((xs.length:Int) - (i:Int)).toNat=xs.length - i:=by omega
   rw [x1,x2]
   unfold D3 toC
   rw [lg4 (l:=List.replicate _ _) (by simp),List.length_replicate,List.drop_of_length_le (by simp;omega)]
   simp [f8,List.map_take]
  have eL:(xs.filter fun x=>!q x).length=i:=by rw [← e3];exact e5
  rw [eL]
  have hcl:=fun x hx=>hg x hx
  (refine ac Tryz.func105 ?_;(conv=>whnf);repeat (refine zy ?_;conv=>whnf))
  repeat' (first|refine zz ?_|refine .inl ⟨_,_,a6e ix ⟨a0T (a6F trivial rfl),ai6,trivial⟩ rfl,?_⟩|refine zd ?_ ?_<;>intro h<;>try omega|refine zy ?_|fail)<;>conv=>whnf
  refine f5 d7 (fun m=>([S.c (C.own 0 0 xs.length true),S.c (C.t (T.fn (.func fg) caps)),J,J,J,a7 .i64 (a7a q xs i0 m).2,a7 .i64 (i0+1+m),J,J,J,J,J,J,J,J,J,J,J,J,J,J,J,J,J,J,J,J,J,J,J,J,J,J,J,J,J,J,J,J,J,J,J],[s8 (a7a q xs i0 m).1,s8 ys])) n (fun _=>True) [some 0,some 1] trivial
   ⟨rfl,rfl,⟨d9 (d6 _),d9 (d6 _),trivial⟩,⟨⟨rfl,rfl,rfl,fun h=>h⟩,i7 rfl,rfl,b9 (by omega),trivial⟩⟩ ?_
  intro m hm _
  have hDm:=hD m (by omega)
  generalize hG:a7a q xs i0 m=p at hDm
  obtain ⟨r,k⟩:=p
  obtain ⟨d1,d2,d3,d4⟩:=hDm
  simp only at d1 d2 d3 d4 ⊢
  by_cases hlt:m<n
  ·obtain ⟨v,hv⟩:∃v,xs[i0+1+m]? =some v:=⟨_,lg0 (by omega)⟩
   have hvd:xs.getD (i0+1+m) 0=v:=by rw [lg3,hv];rfl
   have hrv:r[i0+1+m]? =some v:=by
    have:=congrArg (fun l=>l[0]?) d4
    simpa [List.getElem?_drop,hv] using this
   have gv:r[0+((i0+1+m:Nat):Int).toNat]? =some v:=by rw [Nat.zero_add,Int.toNat_natCast];exact hrv
   have hgv:=hg v (lg2 hv)
   have ha2:(a7 .i64 v::caps.map fun x=>S.c (C.t x)).all S.isT=true:=by simp [S.isT,C.isT,a7]
   have eG:a7a q xs i0 (m+1)=if q v=true then (r,k) else (r.set k v,k+1):=by
    conv=>lhs;unfold a7a
    rw [hG,hvd]
   rw [eG]
   cases hq:q v with
   |true=>
    rw [hq] at hgv
    rw [if_pos rfl]
    conv=>whnf
    repeat' (first|refine zz ?_|refine .inl ⟨_,_,B7 hgv ha2 rfl,?_⟩|refine aw2 gv ?_|refine zd ?_ ?_<;>intro h<;>try omega|refine zy ?_|fail)<;>conv=>whnf
    all_goals first
     |omega
     |exact ⟨hlt,trivial,[some 0,some 1],rfl,rfl,⟨d9 (d6 _),d9 (d6 _),trivial⟩,⟨⟨rfl,rfl,rfl,fun h=>h⟩,rfl,rfl,b9 (by omega),trivial⟩⟩
   |false=>
    rw [hq] at hgv
    rw [if_neg (by decide)]
    have eB:=b1H (l:=r) (v:=v) (show 0+(k:Int).toNat=k by omega)
    obtain ⟨u,hu⟩:∃u,r[0+(k:Int).toNat]? =some u:=⟨_,lg0 (by omega)⟩
    conv=>whnf
    repeat' (first|refine zz ?_|refine .inl ⟨_,_,B7 hgv ha2 rfl,?_⟩|refine aw2 gv ?_|refine aw2 hu ?_|refine zd ?_ ?_<;>intro h<;>try omega|refine zy ?_|fail)<;>conv=>whnf
    all_goals first
     |omega
     |exact ⟨hlt,trivial,[some 0,some 1],rfl,rfl,⟨⟨rfl,rfl,rfl,.inl ⟨congrArg Blk.rows eB,(congrArg Blk.rows eB) ▸ d6 _⟩⟩,d9 (d6 _),trivial⟩,⟨⟨rfl,rfl,rfl,fun h=>h⟩,rfl,b9 (by omega),b9 (by omega),trivial⟩⟩
  ·have hme:m=n:=by omega
   subst hme
   rw [hG] at hF
   injection hF with f1 f2
   subst f1 f2
   have rl2:(toC (r.map f8)).length=xs.length:=by simp [toC,d1]
   have s1:(0:Int)<=(k:Int)∧(k:Int)<=(xs.length:Int)∧(xs.length:Int)<=(xs.length:Int):=by omega
   have s2:(0:Int)<=0∧(0:Int)<=(k:Int)∧(k:Int)<=(xs.length:Int):=by omega
   have s3:0+(k:Int).toNat+((xs.length:Int) - (k:Int)).toNat<=(s8 r).rows.length:=by show _<=(toC (r.map f8)).length;omega
   conv=>whnf
   repeat' (first|refine zz ?_|refine ⟨s1,?_⟩|refine ⟨s2,?_⟩|refine ⟨s3,?_⟩|refine zd ?_ ?_<;>intro h<;>try omega|refine zy ?_|fail)<;>conv=>whnf
   all_goals first
    |omega
    |exact ⟨⟨[some 0,some 1],rfl,rfl,⟨a8 (rows:=(r.take k++List.replicate (xs.length - k) (0:Int)).map f8) rfl rfl rfl eC rfl,d9 (d6 _),trivial⟩,⟨rfl,rfl,by show ((k:Int) - 0).toNat=k;omega,fun h=>h⟩⟩⟩
def E5 (e:Ev) (i:Int):Bool:=match e.moves[i.toNat]? with
 |some m=>decide (o4 e m.dst=5)
 |none=>false
theorem b3J (t:e8) (h1:v8 t=0) (i:Nat) (hi:i<t.ev.moves.length):
 a9 Tryz.prog 104 [a7 .i64 i,.c (.t (T.ptr (trT t)))] [] (f9 (!E5 t.ev i)) []:=by
 have hck:=(n8 h1).1
 obtain ⟨m,hm⟩:∃m,t.ev.moves[i]? =some m:=⟨_,lg0 hi⟩
 have hmo:=E1 hck (lg2 hm)
 have ms:=a1q hmo
 obtain ⟨p,hp⟩:∃p,t.ev.places[m.dst.toNat]? =some p:=⟨_,lg0 (by omega)⟩
 have hk0:o4 t.ev m.dst=p.kind:=by unfold o4;rw [hp];rfl
 have e:E5 t.ev i=decide (p.kind=5):=by unfold E5;rw [Int.toNat_natCast,hm,←hk0]
 rw [e]
 (refine ac Tryz.func104 ?_;(conv=>whnf);repeat (refine zy ?_;conv=>whnf))
 repeat' (first|refine zz ?_|refine d8 hm ?_|refine o7 ms.1 hp ?_|refine zd ?_ ?_<;>intro h<;>try omega|refine zy ?_|fail)<;>conv=>whnf
 all_goals first
  |omega
  |(refine b7 ?_;symm;simp;omega)
  |(refine b7 ?_;symm;simp;assumption)
noncomputable def a6O (t:e8) (kind:Int) (mv:Nat):List Int:=(w6 (t8 t kind mv)).filter fun x=>!!E5 t.ev x
theorem b5A {H:Hp} {p:Nat->Prop} {id n:Nat} {l m:List Int} (hp:p id) (hk:H[id]? =some (s8 l)) (hm:l.take n=m) (hn:m.length=n):VC H p (.own id 0 n true) (L5 m):=by
 refine ⟨hp,s8 l,hk,fun h=>h,rfl,?_,?_⟩
 ·show 0+n<=(toC (l.map f8)).length
  have:=List.length_take (i:=n) (l:=l)
  rw [hm] at this
  simp [toC];omega
 ·show ((toC (l.map f8)).drop 0).take n=toC (m.map f8)
  rw [List.drop_zero,←hm]
  simp [toC,List.map_take]
theorem aP4 (t:e8) (hs:t.Sized) (h:QT t) (find:Int) (f:J9) (f0:0<=find) (hf:t.finds[find.toNat]? =some f):
 a9 Tryz.prog 39 [trS t,a7 .i64 find] [] (.tup [e7 (a6O t f.kind f.mv.toNat),a7 .i64 0]) []:=by
 have lo:=aM3 t hs h find f f0 hf
 have hm:=h.m
 have hp:=h.p
 have hlen:=a3l t f.kind f.mv.toNat (t.ev.moves.length+t.ev.places.length)
 have hlen2:(w6 (t8 t f.kind f.mv.toNat)).length<=1000000:=by rw [Z1];show (J0 _ _ _ _).length<=_;omega
 obtain ⟨zs,z1,z2,de⟩:=aM9 (w6 (t8 t f.kind f.mv.toNat)) (w6 (v5 t f.kind f.mv.toNat)) hlen2 104 [T.ptr (trT t)] (fun x=>!E5 t.ev x) (fun x hx=>by
  obtain ⟨i,hi,rfl⟩:=List.mem_map.1 hx
  have hi:=(List.mem_filter.1 hi).2
  exact b3J t h.h i (of_decide_eq_true hi))
 have eS:a6O t f.kind f.mv.toNat=(w6 (t8 t f.kind f.mv.toNat)).filter fun x=>!!E5 t.ev x:=rfl
 rw [eS]
 generalize w6 (t8 t f.kind f.mv.toNat)=X at *
 generalize w6 (v5 t f.kind f.mv.toNat)=Y at *
 generalize (X.filter fun x=>!!E5 t.ev x)=Z at *
 (refine ac Tryz.func39 ?_;(conv=>whnf);repeat ((first|refine b0x ?_|refine zy ?_);conv=>whnf))
 repeat' (first|refine zz ?_|refine .inr ⟨_,_,lo,?_⟩|refine .inr ⟨_,_,de,?_⟩|refine zd ?_ ?_<;>intro h<;>try omega|refine zy ?_|fail)<;>conv=>whnf
 all_goals first
  |omega
  |exact k8 ⟨(show VC _ (fun id=>G3 [] id=true) _ _ from b5A rfl rfl z1 rfl),rfl,trivial⟩
theorem a8f {α:Type} {l:List α} {k:Nat} {x:α} (h:l[k]? =some x):l.take (k+1)=l.take k++[x]:=by
 rw [List.take_add_one,h];rfl
theorem aW4 (a b:List Int) (ha:a.length<=1000000) (hb:b.length<=1000000):a9 Tryz.prog 103 [e7 a,e7 b] [] (f9 (decide (a=b))) []:=by
 have l1:(a.map f8).length=a.length:=by simp
 have l2:(b.map f8).length=b.length:=by simp
 (refine ac Tryz.func103 ?_;(conv=>whnf);repeat (refine zy ?_;conv=>whnf))
 repeat' (first|refine zz ?_|refine zd ?_ ?_<;>intro h<;>try omega|refine zy ?_|fail)<;>conv=>whnf
 ·refine b7 (decide_eq_false ?_).symm
  intro hab;subst hab;exact h rfl
 have hab:a.length=b.length:=by omega
 refine f5 d7 (fun k=>([e7 a,e7 b,J,J,J,a7 .i64 k,J,J,J,J,J,J,J,J,J,J,J,J,J,J,J,J,J,J,J,J],[])) a.length (fun k=>a.take k=b.take k) [] rfl
  ⟨rfl,rfl,trivial,⟨i7 rfl,i7 rfl,b9 rfl,trivial⟩⟩ ?_
 intro k hk hI
 conv=>whnf
 repeat' (first|refine zz ?_|refine zd ?_ ?_<;>intro h<;>try omega|refine zy ?_|fail)<;>conv=>whnf
 ·have hlt:k<a.length:=by omega
  obtain ⟨x,hx⟩:∃x,a[k]? =some x:=⟨_,lg0 hlt⟩
  obtain ⟨y,hy⟩:∃y,b[k]? =some y:=⟨_,lg0 (by omega)⟩
  repeat' (first|refine zz ?_|refine d8 hx ?_|refine d8 hy ?_|refine zd ?_ ?_<;>intro h<;>try omega|refine zy ?_|fail)<;>conv=>whnf
  ·have hne:x≠y:=‹x≠y›
   refine b7 (decide_eq_false ?_).symm
   intro hq;subst hq;rw [hx] at hy;injection hy with hy;exact hne hy
  ·have hxy:x=y:=by omega
   refine ⟨hlt,?_,[],rfl,rfl,trivial,⟨i7 rfl,i7 rfl,rfl,trivial⟩⟩
   rw [a8f hx,a8f hy,hI,hxy]
 ·refine b7 (decide_eq_true ?_).symm
  rw [lg4 (by omega),lg4 (by omega)] at hI
  exact hI
def a36 (e:Ev) (d:Int) (m i:Nat):Bool:=((e.moves.take i).drop (m+1)).all fun x=>!(decide (x.src=d) && x.all)
def au7 (e:Ev) (bl:List Bool) (d:Int) (m i:Nat) (x:x4):Bool:=decide (m<i) && decide (x.src=d) && a36 e d m i && !(bl.getD i true)
theorem a6t {e:Ev} {d:Int} {m:Nat}:a36 e d m (m+1)=true:=by
 unfold a36;rw [List.drop_eq_nil_of_le (by simp;omega)];rfl
theorem a8w {e:Ev} {d:Int} {m k:Nat} {x:x4} (h:e.moves[k]? =some x) (hm:m<k):a36 e d m (k+1)=(a36 e d m k && !(decide (x.src=d) && x.all)):=by
 unfold a36
 have hlt:=(lg1 h).1
 rw [a8f h,List.drop_append_of_le_length (by simp;omega),List.all_append]
 simp
theorem b50 (l:List Int) (n:Int) (ha:l.length<=1000000):a9 Tryz.prog 172 [e7 l,a7 .i64 n] [] (a7 .i64 (if (l.any fun x=>decide (x=n)) then (l.findIdx fun x=>decide (x=n)) else -1)) []:=by
 have l1:(l.map f8).length=l.length:=by simp
 (refine ac Tryz.func172 ?_;(conv=>whnf);repeat (refine zy ?_;conv=>whnf))
 refine f5 d7 (fun k=>([e7 l,a7 .i64 n,J,J,J,J,e7 l,a7 .i64 l.length,a7 .i64 k,J,J,J,J,J,J,J,J,J,J],[])) l.length (fun k=>(l.take k).any (fun x=>decide (x=n))=false) [] rfl
  ⟨rfl,rfl,trivial,⟨i7 rfl,rfl,i7 rfl,b9 (by simp),b9 rfl,trivial⟩⟩ ?_
 intro k hk hI
 conv=>whnf
 repeat' (first|refine zz ?_|refine zd ?_ ?_<;>intro h<;>try omega|refine zy ?_|fail)<;>conv=>whnf
 ·have hlt:k<l.length:=by omega
  obtain ⟨x,hx⟩:∃x,l[k]? =some x:=⟨_,lg0 hlt⟩
  have hxg:l[k]=x:=(lg1 hx).2
  repeat' (first|refine zz ?_|refine d8 hx ?_|refine zd ?_ ?_<;>intro h<;>try omega|refine zy ?_|fail)<;>conv=>whnf
  ·have hxn:x=n:=by omega
   refine j8 ?_
   rw [if_pos (a2W hx (by simpa using hxn)),(List.findIdx_eq hlt).2 ⟨by simp [hxg,hxn],fun j hj=>?_⟩]
   rw [List.any_eq_false] at hI
   have:=hI l[j] (List.mem_take_iff_getElem.2 ⟨j,by omega,rfl⟩)
   simpa using this
  ·have hne:¬x=n:=by omega
   refine ⟨hlt,?_,[],rfl,rfl,trivial,⟨rfl,rfl,rfl,rfl,rfl,trivial⟩⟩
   rw [a0D hx,hI]
   simpa using hne
 ·refine j8 ?_
  rw [lg4 (by omega)] at hI
  rw [hI];rfl
theorem aH1 (l:List Int) (n:Int) (ha:l.length<=1000000):a9 Tryz.prog 98 [e7 l,a7 .i64 n] [] (f9 (l.any fun x=>decide (x=n))) []:=by
 (refine ac Tryz.func98 ?_;(conv=>whnf);repeat (refine zy ?_;conv=>whnf))
 repeat' (first|refine zz ?_|refine qp (b50 _ _ ha) ?_|refine zd ?_ ?_<;>intro h<;>try omega|refine zy ?_|fail)<;>conv=>whnf
 all_goals
  refine b7 ?_
  cases hb:(l.any fun x=>decide (x=n)) with
  |true=>simp_all
  |false=>simp_all
theorem b1k (e:Ev) (i:Int):((Q7 e).any fun x=>decide (x=i))=decide (0<=i∧i.toNat ∈ i9 e):=by
 rw [Bool.eq_iff_iff,List.any_eq_true,decide_eq_true_eq]
 constructor
 ·rintro ⟨x,hx,he⟩
  have he:=of_decide_eq_true he
  subst he
  obtain ⟨n,hn,rfl⟩:=List.mem_map.1 hx
  exact ⟨by omega,by rw [Int.toNat_natCast];exact hn⟩
 ·rintro ⟨h0,h1⟩
  exact ⟨i,List.mem_map.2 ⟨i.toNat,h1,by omega⟩,decide_eq_true rfl⟩
def a0S (t:e8) (find lift:Int):Bool:=T1 t find && decide (0<=lift∧lift.toNat ∈ i9 t.ev)
theorem a59 {t:e8} {find:Int} (h:T1 t find=true):v8 t=0∧0<=find∧∃f,t.finds[find.toNat]? =some f:=by
 unfold T1 at h
 simp only [Bool.and_eq_true,decide_eq_true_eq] at h
 exact ⟨h.1.1,h.1.2,_,lg0 (by omega)⟩
theorem b0Y (t:e8) (hs:t.Sized) (find:Int) (f:J9) (hf:t.finds[find.toNat]? =some f) (i:Nat) (h:a0S t find i=true) (hm:t.ev.moves.length<=14):
 a9 Tryz.prog 32 [trS t,a7 .i64 find,a7 .i64 i] [] (.tup [a0U (o6 t f.kind i),a7 .i64 0]) []:=by
 have fi:=a4V t hs find
 unfold a0S at h
 obtain ⟨h1,h2⟩:=(Bool.and_eq_true _ _).mp h
 rw [h1] at fi
 obtain ⟨h3,h4,_⟩:=a59 h1
 have hck:=(n8 h3).1
 have li:=at8 t.ev hs.ev hck
 have ll:(Q7 t.ev).length<=1000000:=by
  rw [a38]
  have a:=B5 (e:=t.ev) t.ev.moves.length
  show (t7 t.ev t.ev.moves.length).length<=_
  omega
 have co:=aH1 (Q7 t.ev) i ll
 rw [b1k,h2] at co
 have al:=ax5 t hs h3 find f h4 hf i hm
 (refine ac Tryz.func32 ?_;(conv=>whnf);repeat ((first|refine b0x ?_|refine zy ?_);conv=>whnf))
 repeat' (first|refine zz ?_|refine qp fi ?_|refine qp li ?_|refine qp co ?_|refine qp al ?_|refine zd ?_ ?_<;>intro h<;>try omega|refine zy ?_|fail)<;>conv=>whnf
 all_goals first
  |omega
  |exact k8 ⟨⟨rfl,rfl,trivial⟩,rfl,trivial⟩
def aZ6 (s:g8) (a b:Nat) (z:List Fr):Bool:=(z.all D7 && j7 s (z.map fv)) && (decide (0<(z.map fv).getD a 0) && decide (0<(z.map fv).getD b 0))
structure PtR (s:g8) (x:List Fr):Prop where
 r:b5X x
 p:x.all D7=true->PtB s (x.map fv)
theorem aI1 (s:g8) (hb:ab1 s) (hr:j0 s=true) (z:List Fr) (hz:PtR s z):a9 Tryz.prog 43 [a0U s,n6 z] [] (f9 (z.all D7 && j7 s (z.map fv))) []:=by
 cases hx:z.all D7 with
 |false=>exact aQ4 s hb hr z hz.r hx
 |true=>
  have hp:=hz.p hx
  obtain ⟨Z,rfl⟩:=a5K hx
  rw [a6b] at hp ⊢
  rw [Bool.true_and]
  exact b2J s hb hr Z hp
theorem a3f {s:g8} (h:a0t s):ab1 s:=by
 have hn:=a0P h.r
 have h9:=h.n
 refine ⟨by have:=h.l;omega,fun w hw=>?_⟩
 obtain ⟨i,hi,rfl⟩:=List.getElem_of_mem hw
 have h1:=E0 (Z8 h.r (lg0 hi)).1
 have h2:=h.i _ (List.getElem_mem hi)
 exact ⟨by omega,fun t ht=>by have:=P8 h2.1 t ht;omega,by have:=a6R h2.2;omega⟩
set_option maxHeartbeats 4000000 in
theorem b4j (t:e8) (hs:t.Sized) (h:QT t) (find:Int) (f:J9) (f0:0<=find) (hf:t.finds[find.toNat]? =some f) (g:Nat) (hg:g<t.ev.moves.length) (i:Nat) (hi:i ∈ i9 t.ev) (z:List Fr) (hz:PtR (o6 t f.kind i) z):
 a9 Tryz.prog 44 [trS t,a7 .i64 find,a7 .i64 g,a7 .i64 i,n6 z] [] (f9 (aZ6 (o6 t f.kind i) g f.mv.toNat z)) []:=by
 have hfit:=a28 h f0 hf
 have hm:=h.m
 obtain ⟨q1,q2,q3,q4,q5⟩:=n8 h.h
 have hfg:=E6 q4 f (lg2 hf)
 have ha:a0S t find i=true:=by unfold a0S;rw [hfit,decide_eq_true (by exact ⟨by omega,by rw [Int.toNat_natCast];exact hi⟩)];rfl
 have hk:a4x t find g=true:=by unfold a4x;rw [hfit,decide_eq_true (by omega),decide_eq_true (by omega)];rfl
 have al:=b0Y t hs find f hf i ha (by omega)
 have kn:=aa9 t hs find g
 rw [hk] at kn
 have ss:=T0 (kind:=f.kind) i h
 have ho:=aI1 (o6 t f.kind i) (a3f ss) ss.r z hz
 unfold aZ6
 cases hB:(z.all D7 && j7 (o6 t f.kind i) (z.map fv)) with
 |false=>
  rw [hB] at ho
  rw [Bool.false_and]
  (refine ac Tryz.func44 ?_;(conv=>whnf);repeat ((first|refine b0x ?_|refine zy ?_);conv=>whnf))
  repeat' (first|refine zz ?_|refine qp al ?_|refine qp kn ?_|refine qp ho ?_|refine zd ?_ ?_<;>intro h<;>try omega|refine zy ?_|fail)<;>conv=>whnf
  all_goals first
   |omega
   |exact b7 rfl
 |true=>
  rw [hB] at ho
  rw [Bool.true_and]
  obtain ⟨hx,hH⟩:=(Bool.and_eq_true _ _).mp hB
  have hp:=hz.p hx
  obtain ⟨Z,rfl⟩:=a5K hx
  rw [a6b] at hp hH ⊢
  have zl:(Z.length:Int)=t.ev.moves.length:=by have:=(O8 hH).2;exact this
  obtain ⟨a,ha⟩:∃a,Z[g]? =some a:=⟨_,lg0 (by omega)⟩
  obtain ⟨b,hb⟩:∃b,Z[f.mv.toNat]? =some b:=⟨_,lg0 (by omega)⟩
  have ga:(Z.map fz)[g]? =some (fz a):=by rw [List.getElem?_map,ha];rfl
  have gb:(Z.map fz)[f.mv.toNat]? =some (fz b):=by rw [List.getElem?_map,hb];rfl
  have sa:=a35 a (by have:=hp.v a (lg2 ha);omega)
  have sb:=a35 b (by have:=hp.v b (lg2 hb);omega)
  have ea:Z.getD g 0=a:=by rw [lg3,ha];rfl
  have eb:Z.getD f.mv.toNat 0=b:=by rw [lg3,hb];rfl
  rw [ea,eb]
  have pa:=a61 (x:=a)
  have pb:=a61 (x:=b)
  have e1:decide (0<a)=decide (sgR a > 0):=by rw [decide_eq_decide];exact pa.symm
  have e2:decide (0<b)=decide (sgR b > 0):=by rw [decide_eq_decide];exact pb.symm
  rw [e1,e2]
  generalize sgR a=U at sa
  generalize sgR b=V at sb
  clear pa pb e1 e2
  have hg1:=hfg.1
  (refine ac Tryz.func44 ?_;(conv=>whnf);repeat ((first|refine b0x ?_|refine zy ?_);conv=>whnf))
  repeat' (first|refine zz ?_|refine qp al ?_|refine qp kn ?_|refine qp ho ?_|refine qp sa ?_|refine qp sb ?_|refine d8 ga ?_|refine o7 f0 hf ?_|refine o7 hg1 gb ?_|refine zd ?_ ?_<;>intro h<;>try omega|refine zy ?_|fail)<;>conv=>whnf
  all_goals first
   |omega
   |(refine b7 ?_;symm;simp only [Bool.and_eq_true,decide_eq_true_eq,Bool.and_eq_false_iff,decide_eq_false_iff_not];omega)
def aj7 (v:Nat):List (Int × Rat):=[((v:Int),((-1:Int):Rat))]
def b8L (t:e8) (kind:Int) (a b i:Nat) (y:List Fr):Bool:=aR1 (o6 t kind i) (aj7 a) y || aR1 (o6 t kind i) (aj7 b) y
def a9Q (t:e8) (kind:Int) (a b:Nat) (pf:List (List Fr)):Bool:=decide (pf.length=(i9 t.ev).length) && (List.range (i9 t.ev).length).all fun k=>b8L t kind a b ((i9 t.ev).getD k 0) (pf.getD k [])
theorem b3l {t:e8} (h:QT t) {find:Int} {f:J9} (f0:0<=find) (hf:t.finds[find.toNat]? =some f) {g:Nat} (hg:g<t.ev.moves.length):a4x t find g=true:=by
 unfold a4x;rw [a28 h f0 hf,decide_eq_true (by omega),decide_eq_true (by omega)];rfl

noncomputable def av8 (t:e8) (kind:Int) (a b i:Nat):List Rat:=if a1X (C1 a) (S2 (o6 t kind i) (C1 a))=true then X5 (o6 t kind i) (C1 b) else X5 (o6 t kind i) (C1 a)
noncomputable def a2i (t:e8) (kind:Int) (a b:Nat) (l:List Nat):List (List Fr):=l.map fun i=>(av8 t kind a b i).map fz
theorem b1u {t:e8} {kind:Int} {a b k i:Nat} {l:List Nat} (h:l[k]? =some i):a2i t kind a b (l.take (k+1))=a2i t kind a b (l.take k)++[(av8 t kind a b i).map fz]:=by
 unfold a2i;rw [List.take_add_one,h];simp
theorem aK4 (t:e8) (kind:Int) (a b:Nat) (l:List Nat):(a2i t kind a b l).length=l.length:=by simp [a2i]
abbrev aY6 (hh:List (List Fr)):Blk:={ mode:=.live,elem:=44,size:=1,rows:=toC (hh.map a1R),box:=false }
theorem a8s {n v:Nat} (h:v<n):g9 (-1) ((n:Nat):Int) (C1 v)=true:=W6 (by omega) (by show ((v:Nat):Int)<_;omega) (by show ((1:Int):Rat)≠0;decide) rfl
theorem X6 (v:Nat):E8 (C1 v):=Y4 (by decide) (by decide)
set_option maxHeartbeats 8000000 in
theorem b5i (t:e8) (hs:t.Sized) (hQ:QT t) (find:Int) (f:J9) (f0:0<=find) (hf:t.finds[find.toNat]? =some f) (g:Nat) (hg:g<t.ev.moves.length) (hw:a2u t f.kind g (F5 t f.kind f.mv.toNat)=none):
 a9 Tryz.prog 54 [trS t,a7 .i64 find,a7 .i64 g] [] (.tup [aF9 (a2i t f.kind f.mv.toNat g (i9 t.ev)),f9 true]) []:=by
 have wi:=a7s t hs hQ find f f0 hf g hg
 rw [hw] at wi
 unfold b4a at wi
 have kn:=aa9 t hs find g
 rw [b3l hQ f0 hf hg] at kn
 have hm:=hQ.m
 obtain ⟨q1,q2,q3,q4,q5⟩:=n8 hQ.h
 have hfg:=E6 q4 f (lg2 hf)
 obtain ⟨mv,hmv⟩:∃mv:Nat,f.mv=mv:=⟨f.mv.toNat,by omega⟩
 have hmv2:f.mv.toNat=mv:=by omega
 have li:=at8 t.ev hs.ev q1
 have m1:((Q7 t.ev).map f8).length=(i9 t.ev).length:=by rw [List.length_map,a38]
 have ll:(i9 t.ev).length<=t.ev.moves.length:=B5 _
 rw [hmv2]
 have on1:=a7A mv 1 (by decide) (by decide)
 rw [← hmv] at on1
 have on2:=a7A g 1 (by decide) (by decide)
 (refine ac Tryz.func54 ?_;(conv=>whnf);repeat ((first|refine b0x ?_|refine zy ?_);conv=>whnf))
 repeat' (first|refine zz ?_|refine qp wi ?_|refine qp kn ?_|refine qp li ?_|refine zd ?_ ?_<;>intro h<;>try omega|refine zy ?_|fail)<;>conv=>whnf
 all_goals try omega
 refine f5 d7 (fun k=>([J,a7 .i64 find,a7 .i64 g,S.c (C.t (T.ptr (trT t))),J,J,J,J,J,J,J,S.c (C.own 0 0 (a2i t f.kind mv g ((i9 t.ev).take k)).length true),e7 (Q7 t.ev),J,J,J,J,J,J,J,J,J,J,J,J,J,J,J,J,J,J,J,J,J,J,J,J,e7 (Q7 t.ev),a7 .i64 (i9 t.ev).length,a7 .i64 k,J,J,J,J,J,J,J,J,J,J,J,J,J,J,J,J,J,J,J,J,J,J,J,J,J,J,J,J,J,J,J,J,J,J,J,J,J,J,J,J,J,J],[aY6 (a2i t f.kind mv g ((i9 t.ev).take k))])) (i9 t.ev).length (fun _=>True) [none] trivial
  ⟨rfl,rfl,⟨⟨rfl,rfl⟩,trivial⟩,⟨rfl,rfl,rfl,⟨rfl,rfl,rfl⟩,rfl,rfl,b9 (by simp [m1]),rfl,trivial⟩⟩ ?_
 intro k hk _
 have pl:=aK4 t f.kind mv g ((i9 t.ev).take k)
 have pt:((i9 t.ev).take k).length=k:=by rw [List.length_take];omega
 have lA:(a2i t f.kind mv g ((i9 t.ev).take k)).length<=(aY6 (a2i t f.kind mv g ((i9 t.ev).take k))).rows.length:=by show _<=(toC _).length;simp [toC]
 by_cases hlt:k<(i9 t.ev).length
 ·obtain ⟨i,hi⟩:∃i,(i9 t.ev)[k]? =some i:=⟨_,lg0 hlt⟩
  have hii:=a66 hi
  have al:=ax5 t hs hQ.h find f f0 hf i (by omega)
  have hG:=I7 (kind:=f.kind) i hQ (by omega) (by omega) (by omega)
  have ss:=hG.sm
  have nn:((o6 t f.kind i).n.toNat:Nat)=t.ev.moves.length:=by show ((t.ev.moves.length:Nat):Int).toNat=_;omega
  have r1:g9 (-1) (((o6 t f.kind i).n.toNat:Nat):Int) (C1 mv)=true:=by rw [nn];exact a8s (by omega)
  have r2:g9 (-1) (((o6 t f.kind i).n.toNat:Nat):Int) (C1 g)=true:=by rw [nn];exact a8s hg
  have mu1:=aQ9 (o6 t f.kind i) (C1 mv) ss hG.p.z hG.pos r1 (X6 _)
  have mu2:=aQ9 (o6 t f.kind i) (C1 g) ss hG.p.z hG.pos r2 (X6 _)
  have x15:=b3O ss r1 (X6 mv)
  have xl:=al2 (s:=o6 t f.kind i) (g:=C1 mv)
  have po:=ab7 (C1 mv) (S2 (o6 t f.kind i) (C1 mv)) (by rw [xl];exact r1) (X6 _) (fun v hv=>by have:=x15 v hv;omega) (by omega) (fun k=>by
   have h1:=a6P (P8 (X6 mv)) x15 k
   have h2:=Nat.mul_le_mul_right (31+4) (show (C1 mv).length<=9 by simp [C1])
   omega)
  have eN:av8 t f.kind mv g i=if a1X (C1 mv) (S2 (o6 t f.kind i) (C1 mv))=true then X5 (o6 t f.kind i) (C1 g) else X5 (o6 t f.kind i) (C1 mv):=rfl
  rw [b1u hi,eN]
  generalize a2i t f.kind mv g ((i9 t.ev).take k)=P at *
  generalize o6 t f.kind i=s at *
  generalize S2 s (C1 g)=x2 at *
  generalize X5 s (C1 g)=y2 at *
  generalize S2 s (C1 mv)=x1 at *
  generalize X5 s (C1 mv)=y1 at *
  unfold C1 at mu1 mu2 po
  rw [← hmv] at mu1
  cases hb:a1X (C1 mv) x1 with
  |true=>
   unfold C1 at hb
   rw [hb,←hmv] at po
   rw [if_pos rfl]
   conv=>whnf
   repeat' (first|refine zz ?_|refine qp al ?_|refine qp on1 ?_|refine qp on2 ?_|refine qp mu1 ?_|refine qp mu2 ?_|refine qp po ?_|refine qp toC ?_|refine qp 7 ?_|refine d8 hii ?_|refine o7 f0 hf ?_|refine q9 lA (by simp [toC];omega) ?_|refine bl0 [7] ?_|refine zd ?_ ?_<;>intro h<;>try omega|refine zy ?_|fail)<;>conv=>whnf
   all_goals first
    |omega
    |(refine ⟨hlt,trivial,[some 2],rfl,rfl,⟨a8 (rows:=(P++[y2.map fz]).map a1R) rfl rfl rfl ?_ rfl,trivial⟩,⟨rfl,rfl,rfl,⟨rfl,rfl,?_,fun h=>h⟩,rfl,rfl,rfl,b9 (by omega),trivial⟩⟩
      ·exact C9 (f:=a1R) (x:=y2.map fz) rfl
      ·simp [toC])
  |false=>
   unfold C1 at hb
   rw [hb,←hmv] at po
   rw [if_neg (by decide)]
   conv=>whnf
   repeat' (first|refine zz ?_|refine qp al ?_|refine qp on1 ?_|refine qp on2 ?_|refine qp mu1 ?_|refine qp mu2 ?_|refine qp po ?_|refine qp toC ?_|refine qp 7 ?_|refine d8 hii ?_|refine o7 f0 hf ?_|refine q9 lA (by simp [toC];omega) ?_|refine bl0 [7] ?_|refine zd ?_ ?_<;>intro h<;>try omega|refine zy ?_|fail)<;>conv=>whnf
   all_goals first
    |omega
    |(refine ⟨hlt,trivial,[some 2],rfl,rfl,⟨a8 (rows:=(P++[y1.map fz]).map a1R) rfl rfl rfl ?_ rfl,trivial⟩,⟨rfl,rfl,rfl,⟨rfl,rfl,?_,fun h=>h⟩,rfl,rfl,rfl,b9 (by omega),trivial⟩⟩
      ·exact C9 (f:=a1R) (x:=y1.map fz) rfl
      ·simp [toC])
 ·have hke:k=(i9 t.ev).length:=by omega
  subst hke
  rw [lg4 (Nat.le_refl _)] at *
  conv=>whnf
  repeat' (first|refine zz ?_|refine zd ?_ ?_<;>intro h<;>try omega|refine zy ?_|fail)<;>conv=>whnf
  all_goals first
   |omega
   |exact k8 ⟨(show VC _ (fun id=>G3 [] id=true) (C.own 0 0 _ true) _ from v4 (k:=aY6 (a2i t f.kind mv g (i9 t.ev))) rfl rfl (fun h=>h) rfl rfl (by simp)),rfl,trivial⟩
theorem b0M (t:e8) (hs:t.Sized) (find:Int):a9 Tryz.prog 100 [trS t,a7 .i64 find] [] (f9 (T1 t find)) []:=by
 have ck:=aD1 t hs
 have m1:(t.finds.map J9.row).length=t.finds.length:=by simp
 unfold T1
 by_cases h1:v8 t=0
 ·rw [decide_eq_true h1,Bool.true_and]
  (refine ac Tryz.func100 ?_;(conv=>whnf);repeat ((first|refine b0x ?_|refine zy ?_);conv=>whnf))
  repeat' (first|refine zz ?_|refine qp ck ?_|refine zd ?_ ?_<;>intro h<;>try omega|refine zy ?_|fail)<;>conv=>whnf
  all_goals first
   |omega
   |(refine b7 ?_;symm;simp only [Bool.and_eq_true,decide_eq_true_eq,Bool.and_eq_false_iff,decide_eq_false_iff_not];omega)
 ·rw [decide_eq_false h1,Bool.false_and,Bool.false_and]
  (refine ac Tryz.func100 ?_;(conv=>whnf);repeat ((first|refine b0x ?_|refine zy ?_);conv=>whnf))
  repeat' (first|refine zz ?_|refine qp ck ?_|refine zd ?_ ?_<;>intro h<;>try omega|refine zy ?_|fail)<;>conv=>whnf
  all_goals first
   |omega
   |exact b7 rfl
def a7e (e:Ev) (i:Nat):Bool:=decide (i ∈ i9 e)
theorem am9 {e:Ev} {i:Nat} {m:x4} (hm:e.moves[i]? =some m):a7e e i=decide (o4 e m.src=0):=by
 unfold a7e
 rw [decide_eq_decide,M7]
 constructor
 ·rintro ⟨x,hx,h⟩;rw [hm] at hx;injection hx with hx;rw [hx];exact h
 ·intro h;exact ⟨m,hm,h⟩
theorem aw5 (e:Ev) (h0:C6 e=0) (i:Nat) (hi:i<e.moves.length):a9 Tryz.prog 45 [evS e,a7 .i64 i] [] (f9 (a7e e i)) []:=by
 obtain ⟨m,hm⟩:∃m,e.moves[i]? =some m:=⟨_,lg0 hi⟩
 have ms:=S5 (E1 h0 (lg2 hm))
 obtain ⟨p,hp⟩:∃p,e.places[m.src.toNat]? =some p:=⟨_,lg0 (by omega)⟩
 have hk0:o4 e m.src=p.kind:=by unfold o4;rw [hp];rfl
 rw [am9 hm,hk0]
 (refine ac Tryz.func45 ?_;(conv=>whnf);repeat ((first|refine b0x ?_|refine zy ?_);conv=>whnf))
 repeat' (first|refine zz ?_|refine d8 hm ?_|refine o7 ms.1 hp ?_|refine zd ?_ ?_<;>intro h<;>try omega|refine zy ?_|fail)<;>conv=>whnf
 all_goals first
  |omega
  |(refine b7 ?_;symm;simp;omega)
  |(refine b7 ?_;symm;simp;assumption)
theorem b33 (v c:Int) (h0:-9223372036854775808<=c) (h1:c<=9223372036854775807):a9 Tryz.prog 101 [a7 .i64 v,a7 .i64 c] [] (s6 [(v,((c:Int):Rat))]) []:=by
 have ic:=a2M c h0 h1
 (refine ac Tryz.func101 ?_;(conv=>whnf);repeat ((first|refine b0x ?_|refine zy ?_);conv=>whnf))
 repeat' (first|refine zz ?_|refine qp ic ?_|refine zd ?_ ?_<;>intro h<;>try omega|refine zy ?_|fail)<;>conv=>whnf
 all_goals first
  |exact k8 (show a8W [] _ _ _ from rfl)
theorem aW0 (t:e8) (kind:Int) (hs:t.Sized) (h1:v8 t=0) (k0:0<=kind) (k1:kind<8) (H:Hp):X7 Tryz.prog 81 [.agg (b6S t),a7 .i64 kind] H (.tup [.agg [.t (ti t.ev.moves.length),.own H.length 0 (R0 (y8 t) kind).rows.length true],a7 .i64 0]) [M9 (R0 (y8 t) kind).rows]:=by
 have hc:¬(v8 (y8 t)≠0∨kind<0∨8<=kind):=by have:=a1c h1;omega
 have h:=a8u (aZ2 (y8 t) kind ⟨hs.ev,by simp [y8],hs.c⟩ hc)
 exact a6f (j:=1) h rfl rfl (d6 _) rfl rfl
def W7 (t:e8) (kind:Int) (i k:Nat):List D9:=(R0 (y8 t) kind).rows++N0 (t7 t.ev k) i
theorem aM2 {t:e8} {kind:Int} {i k:Nat} {m:x4} (hm:t.ev.moves[k]? =some m):W7 t kind i (k+1)=if k≠i∧a7e t.ev k=true then W7 t kind i k++[p7 k 2 ((0:Int):Rat)] else W7 t kind i k:=by
 unfold W7
 conv=>lhs;unfold t7
 rw [hm,am9 hm]
 simp only [decide_eq_true_eq]
 by_cases h1:o4 t.ev m.src=0
 ·rw [if_pos h1]
  unfold N0
  rw [List.filter_append,List.map_append]
  by_cases h2:k≠i
  ·rw [if_pos ⟨h2,h1⟩];simp [h2]
  ·rw [if_neg (fun h=>h2 h.1)];simp [h2]
 ·rw [if_neg h1,if_neg (fun h=>h1 h.2)]
theorem aS4 {t:e8} {kind:Int} {i k:Nat} (hm:t.ev.moves.length<=14) (hc:t.cleans.length<=50) (hk:k<=14):(W7 t kind i k).length<=750:=by
 unfold W7
 have hl:=S3 (t:=y8 t) (kind:=kind) t.ev.moves.length
 have hl2:t.ev.moves.length*(2+(y8 t).finds.length+(y8 t).cleans.length)<=14*52:=Nat.mul_le_mul hm (by show 2+0+t.cleans.length<=52;omega)
 have hl3:=a2d (t7 t.ev k) i
 have hl4:=B5 (e:=t.ev) k
 have hl7:(R0 (y8 t) kind).rows.length<=14*52:=Nat.le_trans hl hl2
 rw [List.length_append];omega
set_option maxHeartbeats 8000000 in
theorem aJ5 (t:e8) (hs:t.Sized) (find:Int) (f:J9) (hf:t.finds[find.toNat]? =some f) (i:Nat) (h:a0S t find i=true) (hm:t.ev.moves.length<=14):
 a9 Tryz.prog 33 [trS t,a7 .i64 find,a7 .i64 i] [] (.tup [a0U (o6 t f.kind i),a7 .i64 0]) []:=by
 have fi:=b0M t hs find
 unfold a0S at h
 obtain ⟨h1,h2⟩:=(Bool.and_eq_true _ _).mp h
 rw [h1] at fi
 obtain ⟨h3,h4,_⟩:=a59 h1
 obtain ⟨q1,q2,q3,q4,q5⟩:=n8 h3
 have hg:=E6 q4 f (lg2 hf)
 have h5:=(of_decide_eq_true h2).2
 rw [Int.toNat_natCast] at h5
 have il:i<t.ev.moves.length:=by
  obtain ⟨m,hm,_⟩:=M7.1 h5
  exact (lg1 hm).1
 have m1:(t.ev.moves.map x4.row).length=t.ev.moves.length:=by simp
 have lf:=aw5 t.ev q1 i il
 have e1:a7e t.ev i=true:=decide_eq_true h5
 rw [e1] at lf
 have sy:=fun H:Hp=>aW0 t f.kind hs h3 (by omega) (by omega) H
 have i0:=a2M 0 (by decide) (by decide)
 have eM0:W7 t f.kind i 0=(R0 (y8 t) f.kind).rows:=by unfold W7 t7 N0;simp
 (refine ac Tryz.func33 ?_;(conv=>whnf);repeat ((first|refine b0x ?_|refine zy ?_);conv=>whnf))
 repeat' (first|refine zz ?_|refine qp fi ?_|refine qp lf ?_|refine qp 10 ?_|refine o7 h4 hf ?_|refine .inl ⟨_,_,sy _,?_⟩|refine bl0 [10] ?_|refine zd ?_ ?_<;>intro h<;>try omega|refine zy ?_|fail)<;>conv=>whnf
 all_goals try omega
 refine f5 d7 (fun k=>([J,J,a7 .i64 i,S.c (C.t (T.ptr (trT t))),J,J,S.c (C.ptr 0 0 0),J,J,S.c (C.ptr 1 0 0),J,a7 .i64 k,J,J,J,J,J,J,J,J,J,J,J,J,J,J,J,J,J,J,J,J,J,J,J,J,J,J,J,J,J,J,J,J,J,J,J,J,J,J,J,J,J,J,J,J,J,J,J,J,J,J,J,J,J,J,J,J,J,J,J,J,J,J,J],[a1m,a2R t.ev.moves.length 2 (W7 t f.kind i k).length,M9 (W7 t f.kind i k)])) t.ev.moves.length (fun _=>True) [some 0,some 3,some 2] trivial
  ⟨rfl,rfl,⟨⟨rfl,rfl,rfl,.inr ⟨⟨rfl,rfl,trivial⟩,trivial⟩⟩,⟨rfl,rfl,rfl,.inr ⟨⟨rfl,⟨rfl,rfl,by rw [eM0],fun h=>h⟩,trivial⟩,trivial⟩⟩,a8 (rows:=(W7 t f.kind i 0).map z6) rfl rfl rfl (by rw [eM0]) rfl,trivial⟩,⟨rfl,rfl,⟨rfl,rfl,rfl⟩,⟨rfl,rfl,rfl⟩,rfl,trivial⟩⟩ ?_
 intro k hk _
 have lk:=aS4 (t:=t) (kind:=f.kind) (i:=i) (k:=k) hm q3 (by omega)
 by_cases hlt:k<t.ev.moves.length
 ·obtain ⟨m,hm2⟩:∃m,t.ev.moves[k]? =some m:=⟨_,lg0 hlt⟩
  have lfk:=aw5 t.ev q1 k hlt
  have on:=b33 k 1 (by decide) (by decide)
  rw [aM2 hm2]
  have lA:(W7 t f.kind i k).length<=(M9 (W7 t f.kind i k)).rows.length:=by show _<=(toC _).length;simp [toC]
  generalize W7 t f.kind i k=R at *
  by_cases hki:k=i
  ·rw [if_neg (fun h=>h.1 hki)]
   cases a7e t.ev k<;>
   ·conv=>whnf
    repeat' (first|refine zz ?_|refine qp lfk ?_|refine zd ?_ ?_<;>intro h<;>try omega|refine zy ?_|fail)<;>conv=>whnf
    all_goals first
     |omega
     |exact ⟨hlt,trivial,[some 0,some 1,some 2],rfl,rfl,⟨⟨rfl,rfl,rfl,.inr ⟨⟨rfl,rfl,trivial⟩,trivial⟩⟩,⟨rfl,rfl,rfl,.inr ⟨⟨rfl,⟨rfl,rfl,rfl,fun h=>h⟩,trivial⟩,trivial⟩⟩,d9 (d6 _),trivial⟩,⟨rfl,rfl,⟨rfl,rfl,rfl⟩,⟨rfl,rfl,rfl⟩,b9 (by omega),trivial⟩⟩
  ·cases hb:a7e t.ev k with
   |false=>
    rw [hb] at lfk
    rw [if_neg (fun h=>by cases h.2)]
    conv=>whnf
    repeat' (first|refine zz ?_|refine qp lfk ?_|refine zd ?_ ?_<;>intro h<;>try omega|refine zy ?_|fail)<;>conv=>whnf
    all_goals first
     |omega
     |exact ⟨hlt,trivial,[some 0,some 1,some 2],rfl,rfl,⟨⟨rfl,rfl,rfl,.inr ⟨⟨rfl,rfl,trivial⟩,trivial⟩⟩,⟨rfl,rfl,rfl,.inr ⟨⟨rfl,⟨rfl,rfl,rfl,fun h=>h⟩,trivial⟩,trivial⟩⟩,d9 (d6 _),trivial⟩,⟨rfl,rfl,⟨rfl,rfl,rfl⟩,⟨rfl,rfl,rfl⟩,b9 (by omega),trivial⟩⟩
   |true=>
    rw [hb] at lfk
    rw [if_pos ⟨hki,rfl⟩]
    conv=>whnf
    repeat' (first|refine zz ?_|refine qp lfk ?_|refine qp on ?_|refine qp i0 ?_|refine qp toC ?_|refine qp (0,1) ?_|refine q9 lA (by simp [toC];omega) ?_|refine bl0 [0,1] ?_|refine zd ?_ ?_<;>intro h<;>try omega|refine zy ?_|fail)<;>conv=>whnf
    all_goals first
     |omega
     |(refine ⟨hlt,trivial,[some 0,some 1,some 3],rfl,rfl,⟨⟨rfl,rfl,rfl,.inr ⟨⟨rfl,rfl,trivial⟩,trivial⟩⟩,⟨rfl,rfl,rfl,.inr ⟨⟨rfl,⟨rfl,rfl,?_,fun h=>h⟩,trivial⟩,trivial⟩⟩,a8 (rows:=(R++[p7 k 2 ((0:Int):Rat)]).map z6) rfl rfl rfl ?_ rfl,trivial⟩,⟨rfl,rfl,⟨rfl,rfl,rfl⟩,⟨rfl,rfl,rfl⟩,b9 (by omega),trivial⟩⟩
       ·simp [toC]
       ·exact C9 (f:=z6) (x:=p7 k 2 ((0:Int):Rat)) rfl)
 ·have hke:k=t.ev.moves.length:=by omega
  subst hke
  have e9:W7 t f.kind i t.ev.moves.length=(o6 t f.kind i).rows:=rfl
  conv=>whnf
  repeat' (first|refine zz ?_|refine zd ?_ ?_<;>intro h<;>try omega|refine zy ?_|fail)<;>conv=>whnf
  all_goals first
   |omega
   |(rw [e9];exact k8 ⟨⟨rfl,show VC _ (fun id=>G3 [] id=true) _ _ from v4 rfl rfl (by intro h;cases h) rfl rfl (by rw [List.length_map]),trivial⟩,rfl,trivial⟩)
theorem b5J {s:g8} {g:List (Int × Rat)} {Y:List Rat} (hr:j0 s=true) (h:a3s s g Y=true):b6j s (z7 g) (yN Y) (a2z s (yN Y)):=by
 unfold a3s a3L at h
 simp only [Bool.and_eq_true,decide_eq_true_eq,List.all_eq_true] at h
 obtain ⟨⟨⟨h1,h2⟩,h3⟩,h4⟩:=h
 refine ⟨fun i w hw=>?_,fun l hl=>?_,rfl⟩
 ·have:=h2 i (List.mem_range.2 (lg1 hw).1)
  unfold sgB at this
  rw [P1 hw] at this
  simp only [Bool.not_eq_true',Bool.or_eq_false_iff,Bool.and_eq_false_iff,decide_eq_false_iff_not] at this
  obtain ⟨a,b⟩:=this
  exact ⟨fun hk=>by
   rcases a with a|a
   ·exact absurd hk a
   ·exact Rat.not_lt.1 a,fun hk=>by
   rcases b with b|b
   ·exact absurd hk b
   ·exact Rat.not_lt.1 b⟩
 ·exact h4 l (List.mem_range.2 hl)
theorem never_holds {s:g8} {g:List (Int × Rat)} {z:List Rat} (hr:j0 s=true) (hl:s.rows.length<6000) (hg:g9 (-1) s.n g=true) (hz:j7 s z=true) (h0:k9 g z=0):j7 (aR7 s g) z=true:=by
 obtain ⟨h1,h2,h3,h4⟩:=a0r.1 hz
 refine a0r.2 ⟨aE4 hr hl hg,h2,h3,fun w hw=>?_⟩
 rcases List.mem_append.1 hw with h|h
 ·exact h4 w h
 ·have h:=List.mem_singleton.1 h
  subst h
  have e1:((0:Int):Rat)=0:=rfl
  simp only
  rw [h0,e1]
  exact ⟨fun _=>Rat.le_refl,fun _=>Rat.le_refl⟩
theorem b0V {f:Nat->Rat} {B N:Nat} (h:∀i,rl (f i)<=B) (h0:∀i,N<=i->f i=0):∀k,rl (g7 f k)<=N*(B+1)+1:=by
 intro k
 by_cases hk:k<=N
 ·have h1:=a97 (f:=f) (B:=B) k fun j _=>h j
  have h2:=Nat.mul_le_mul_right (B+1) hk
  omega
 ·obtain ⟨d,rfl⟩:∃d,k=N+d:=⟨k - N,by omega⟩
  have e:g7 f (N+d)=g7 f N:=by
   clear hk
   induction d with
   |zero=>rfl
   |succ d ih=>show g7 f (N+d)+f (N+d)=_;rw [h0 _ (by omega),ih];grind
  rw [e]
  exact a97 (f:=f) (B:=B) N fun j _=>h j
theorem b3E {s:g8} {Y:List Rat} {B C N:Nat} (hl:Y.length=s.rows.length) (hN:Y.length<=N) (hB:1<=B) (hy:∀v ∈ Y,rl v<=B) (hc:∀w ∈ s.rows,(∀ t ∈ w.terms,rl t.2<=C)∧rl w.value<=C) (hC:1<=C) (hn:N*(B+C+1)+1<=40000) (hm:N<=1000000):b44 s Y:=by
 have hyi:∀i,rl (yN Y i)<=B:=fun i=>by
  unfold yN
  by_cases h:i<Y.length
  ·rw [lg3,lg0 h];exact hy _ (List.getElem_mem _)
  ·rw [lg3,List.getElem?_eq_none (by omega)];have:=rl0;show rl 0<=B;omega
 have hy0:∀i,N<=i->yN Y i=0:=fun i hi=>by unfold yN;rw [lg3,List.getElem?_eq_none (by omega)];rfl
 have hrow:∀i,(∀ t ∈ (A0 s i).terms,rl t.2<=C)∧rl (A0 s i).value<=C:=fun i=>by
  by_cases h:i<s.rows.length
  ·rw [P1 (lg0 h)];exact hc _ (List.getElem_mem _)
  ·have e:A0 s i=⟨[],2,0⟩:=by unfold A0;rw [lg3,List.getElem?_eq_none (by omega)];rfl
   rw [e]
   exact ⟨fun (t:Int × Rat) (ht:t ∈ [])=>by simp at ht,by have:=rl0;show rl 0<=C;omega⟩
 have hcof:∀i l,rl (z7 (A0 s i).terms l)<=C:=fun i l=>by
  have key:∀k,rl (M4 (A0 s i).terms k l)<=C:=by
   intro k
   induction k with
   |zero=>have:=rl0;show rl 0<=C;omega
   |succ k ih=>
    cases hk:(A0 s i).terms[k]? with
    |none=>rw [M4,hk];exact ih
    |some t=>
     rw [K7 hk]
     simp only
     split
     ·exact (hrow i).1 t (lg2 hk)
     ·exact ih
  exact key _
 refine ⟨fun v hv=>by
  have h1:=hy v hv
  by_cases h2:N=0
  ·have:Y=[]:=List.length_eq_zero_iff.1 (by omega)
   subst this;cases hv
  ·have:1*(B+C+1)<=N*(B+C+1):=Nat.mul_le_mul_right _ (by omega)
   omega,fun l k=>?_,fun k=>?_,hl,by omega⟩
 ·have:=b0V (f:=fun i=>yN Y i*z7 (A0 s i).terms l) (B:=B+C) (N:=N) (fun i=>by have:=a3c (yN Y i) (z7 (A0 s i).terms l);have:=hyi i;have:=hcof i l;omega) (fun i hi=>by rw [hy0 i hi];grind) k
  have e:rl (a5B s (yN Y) l k)<=N*(B+C+1)+1:=this
  omega
 ·have:=b0V (f:=fun i=>yN Y i*(A0 s i).value) (B:=B+C) (N:=N) (fun i=>by have:=a3c (yN Y i) (A0 s i).value;have:=hyi i;have:=(hrow i).2;omega) (fun i hi=>by rw [hy0 i hi];grind) k
  have e:rl (a5u s (yN Y) k)<=N*(B+C+1)+1:=this
  omega
theorem b5Y {x:List Fr} {d:Int} {n:Nat} (h:x.length<=n∧∀f ∈ x,(f.p.dl.length:Int)<=d∧(f.q.dl.length:Int)<=d) (hn:n<=1000000) (hd:d<=200000):b5X x:=⟨by omega,fun f hf=>by have:=h.2 f hf;omega⟩
theorem b8n {X:List Rat} {d:Nat} (h:∀f ∈ X.map fz,(f.p.dl.length:Int)<=d∧(f.q.dl.length:Int)<=d):∀v ∈ X,rl v<=d:=fun v hv=>by
 have:=h (fz v) (List.mem_map.2 ⟨v,hv,rfl⟩)
 have h1:(bl v.num:Int)<=d:=this.1
 have h2:(bl v.den:Int)<=d:=this.2
 show max (bl v.num) (bl v.den)<=d
 omega
theorem b7u {x:Rat}:decide (x=0)=decide (sgR x=0):=by
 rw [decide_eq_decide]
 have p1:=a61 (x:=x)
 have p2:=b2C (x:=x)
 constructor
 ·intro h;subst h;have q1:¬(0:Rat)<0:=by decide
  have:=mt p1.1 q1;have:=mt p2.1 q1;omega
 ·intro h
  have q1:¬0<x:=fun h'=>by have:=p1.2 h';omega
  have q2:¬x<0:=fun h'=>by have:=p2.2 h';omega
  grind
structure b1K (s:g8) (Y:List Rat):Prop where
 y:∀v ∈ Y,rl v<=40000
 l:Y.length<=1000000
 m:Y.length=s.rows.length->b44 s Y
theorem b6K {s:g8} {g:List (Int × Rat)} {Y:List Rat}:aR1 s g (Y.map fz)=(decide (Y.length=s.rows.length) && (a3s s g Y && decide (a2z s (yN Y)=0))):=by
 unfold aR1
 rw [a6b,a1e,List.length_map,Bool.and_true]
theorem ao2 {s:g8} {Y:List Rat} {g:List (Int × Rat)} (h:a3s s g Y=true):Y.length=s.rows.length:=by
 unfold a3s a3L at h
 simp only [Bool.and_eq_true,decide_eq_true_eq] at h
 omega
theorem ah4 {s:g8} {g:List (Int × Rat)} {Y:List Rat}:aR1 s g (Y.map fz)=(a3s s g Y && decide (a2z s (yN Y)=0)):=by
 rw [b6K]
 cases h:a3s s g Y with
 |false=>simp
 |true=>rw [decide_eq_true (ao2 h)];rfl
theorem aB5 (s:g8) (h:a0t s) (v:Nat) (Y:List Rat) (hy:b1K s Y):
 a9 Tryz.prog 145 [a0U s,a7 .i64 v,n6 (Y.map fz)] [] (f9 (aR1 s (aj7 v) (Y.map fz))) []:=by
 have h9:=h.n
 have on:=b33 v (-1) (by decide) (by decide)
 have lo:=b6i s (a3f h) h.r (aj7 v) (by simp [aj7]) (fun t ht=>by simp [aj7] at ht;subst ht;have h1:=b9o;show rl ((-1:Int):Rat)<=200;omega) Y hy.y hy.l hy.m
 rw [ah4]
 unfold ai2 at lo
 cases hb:a3s s (aj7 v) Y with
 |false=>
  rw [hb,if_neg (by decide)] at lo
  rw [Bool.false_and]
  (refine ac Tryz.func145 ?_;(conv=>whnf);repeat ((first|refine b0x ?_|refine zy ?_);conv=>whnf))
  repeat' (first|refine zz ?_|refine qp on ?_|refine qp lo ?_|refine qp 7 ?_|refine bl0 [7] ?_|refine zd ?_ ?_<;>intro h<;>try omega|refine zy ?_|fail)<;>conv=>whnf
  all_goals first
   |omega
   |exact b7 rfl
 |true=>
  rw [hb,if_pos rfl] at lo
  rw [Bool.true_and]
  have hx:=(hy.m (ao2 hb)).v s.rows.length
  have hx2:rl (a2z s (yN Y))<=50000:=hx
  generalize a2z s (yN Y)=x at lo hx2
  have sg:=a65 x (by omega)
  rw [b7u]
  generalize sgR x=U at sg
  (refine ac Tryz.func145 ?_;(conv=>whnf);repeat ((first|refine b0x ?_|refine zy ?_);conv=>whnf))
  repeat' (first|refine zz ?_|refine qp on ?_|refine qp lo ?_|refine qp sg ?_|refine qp 7 ?_|refine bl0 [7] ?_|refine zd ?_ ?_<;>intro h<;>try omega|refine zy ?_|fail)<;>conv=>whnf
  all_goals first
   |omega
   |(refine b7 ?_;symm;simp;omega)
set_option maxHeartbeats 4000000 in
theorem b4P (t:e8) (hs:t.Sized) (h:QT t) (find:Int) (f:J9) (f0:0<=find) (hf:t.finds[find.toNat]? =some f) (g:Nat) (hg:g<t.ev.moves.length) (i:Nat) (hi:i ∈ i9 t.ev) (Z:List Rat) (hp:PtB (o6 t f.kind i) Z)
 (hH:j7 (o6 t f.kind i) Z=true) (pa:0<Z.getD g 0) (pb:0<Z.getD f.mv.toNat 0):
 a9 Tryz.prog 75 [trS t,a7 .i64 find,a7 .i64 g,a7 .i64 i,n6 (Z.map fz)] [] (f9 true) []:=by
 have hfit:=a28 h f0 hf
 have hm:=h.m
 obtain ⟨q1,q2,q3,q4,q5⟩:=n8 h.h
 have hfg:=E6 q4 f (lg2 hf)
 have ha:a0S t find i=true:=by unfold a0S;rw [hfit,decide_eq_true (by exact ⟨by omega,by rw [Int.toNat_natCast];exact hi⟩)];rfl
 have al:=aJ5 t hs find f hf i ha (by omega)
 have ss:=T0 (kind:=f.kind) i h
 have ho:=b6d (o6 t f.kind i) (a3f ss) ss.r Z hp
 rw [hH] at ho
 have eN:(o6 t f.kind i).n=((t.ev.moves.length:Nat):Int):=rfl
 have zl:(Z.length:Int)=t.ev.moves.length:=by have:=(O8 hH).2;exact this
 obtain ⟨a,ha⟩:∃a,Z[g]? =some a:=⟨_,lg0 (by omega)⟩
 obtain ⟨b,hb⟩:∃b,Z[f.mv.toNat]? =some b:=⟨_,lg0 (by omega)⟩
 have ga:(Z.map fz)[g]? =some (fz a):=by rw [List.getElem?_map,ha];rfl
 have gb:(Z.map fz)[f.mv.toNat]? =some (fz b):=by rw [List.getElem?_map,hb];rfl
 have sa:=a65 a (by have:=hp.v a (lg2 ha);omega)
 have sb:=a65 b (by have:=hp.v b (lg2 hb);omega)
 have ea:Z.getD g 0=a:=by rw [lg3,ha];rfl
 have eb:Z.getD f.mv.toNat 0=b:=by rw [lg3,hb];rfl
 rw [ea] at pa
 rw [eb] at pb
 have ua:=a61.2 pa
 have ub:=a61.2 pb
 generalize sgR a=U at sa ua
 generalize sgR b=V at sb ub
 have hg1:=hfg.1
 (refine ac Tryz.func75 ?_;(conv=>whnf);repeat ((first|refine b0x ?_|refine zy ?_);conv=>whnf))
 repeat' (first|refine zz ?_|refine qp al ?_|refine qp ho ?_|refine qp sa ?_|refine qp sb ?_|refine qp 7 ?_|refine d8 ga ?_|refine o7 f0 hf ?_|refine o7 hg1 gb ?_|refine bl0 [7] ?_|refine zd ?_ ?_<;>intro h<;>try omega|refine zy ?_|fail)<;>conv=>whnf
 all_goals first
  |omega
  |exact b7 rfl
theorem a8o {e:Ev}:∀{k n:Nat},k<=n->∃l,t7 e n=t7 e k++l:=by
 intro k n h
 induction n with
 |zero=>have:k=0:=by omega
        subst this;exact ⟨[],by simp⟩
 |succ n ih=>
  by_cases hk:k=n+1
  ·subst hk;exact ⟨[],by simp⟩
  ·obtain ⟨l,hl⟩:=ih (by omega)
   conv=>enter [1,l,1];unfold t7
   split
   ·split
    ·exact ⟨l++[n],by rw [hl,List.append_assoc]⟩
    ·exact ⟨l,hl⟩
   ·exact ⟨l,hl⟩
theorem aO0 {e:Ev} {k:Nat} (h:k ∈ i9 e):(i9 e)[(t7 e k).length]? =some k:=by
 obtain ⟨m,hm,h0⟩:=M7.1 h
 have hk:=(lg1 hm).1
 obtain ⟨l,hl⟩:=a8o (e:=e) (show k+1<=e.moves.length by omega)
 have e1:t7 e (k+1)=t7 e k++[k]:=by conv=>lhs;unfold t7;rw [hm];simp only [if_pos h0]
 show (t7 e e.moves.length)[_]? =_
 rw [hl,e1,List.append_assoc,List.getElem?_append_right (Nat.le_refl _)]
 simp
theorem aA1 {e:Ev} {k:Nat} (hk:k<e.moves.length):(t7 e (k+1)).length=(t7 e k).length+if k ∈ i9 e then 1 else 0:=by
 obtain ⟨m,hm⟩:∃m,e.moves[k]? =some m:=⟨_,lg0 hk⟩
 have h1:k ∈ i9 e↔o4 e m.src=0:=by
  rw [M7]
  exact ⟨fun ⟨x,hx,h⟩=>by rw [hm] at hx;injection hx with hx;rw [hx];exact h,fun h=>⟨m,hm,h⟩⟩
 conv=>lhs;unfold t7
 rw [hm]
 simp only
 by_cases h:o4 e m.src=0
 ·rw [if_pos h,if_pos (h1.2 h)];simp
 ·rw [if_neg h,if_neg (fun h'=>h (h1.1 h'))];simp
set_option maxHeartbeats 8000000 in
theorem b2e (t:e8) (hs:t.Sized) (hQ:QT t) (find:Int) (f:J9) (f0:0<=find) (hf:t.finds[find.toNat]? =some f) (g:Nat) (hg:g<t.ev.moves.length) (pf:List (List Rat))
 (hp:∀(k i:Nat) (y:List Rat),(i9 t.ev)[k]? =some i->pf[k]? =some y->b1K (o6 t f.kind i) y) (hc:a9Q t f.kind f.mv.toNat g (pf.map fun y=>y.map fz)=true):
 a9 Tryz.prog 76 [trS t,a7 .i64 find,a7 .i64 g,aF9 (pf.map fun y=>y.map fz)] [] (f9 true) []:=by
 have fi:=b0M t hs find
 rw [a28 hQ f0 hf] at fi
 have hm:=hQ.m
 obtain ⟨q1,q2,q3,q4,q5⟩:=n8 hQ.h
 have hfg:=E6 q4 f (lg2 hf)
 obtain ⟨mv,hmv⟩:∃mv:Nat,f.mv=mv:=⟨f.mv.toNat,by omega⟩
 have hmv2:f.mv.toNat=mv:=by omega
 rw [hmv2] at hc
 unfold a9Q at hc
 rw [Bool.and_eq_true,decide_eq_true_eq,List.length_map,List.all_eq_true] at hc
 obtain ⟨hl,hc⟩:=hc
 obtain ⟨P,hP⟩:∃P,P=pf.map fun y=>y.map fz:=⟨_,rfl⟩
 rw [← hP] at hc ⊢
 have m1:(t.ev.moves.map x4.row).length=t.ev.moves.length:=by simp
 have m2:(P.map a1R).length=pf.length:=by rw [hP];simp
 have ll:(i9 t.ev).length<=t.ev.moves.length:=B5 _
 (refine ac Tryz.func76 ?_;(conv=>whnf);repeat ((first|refine b0x ?_|refine zy ?_);conv=>whnf))
 repeat' (first|refine zz ?_|refine qp fi ?_|refine zd ?_ ?_<;>intro h<;>try omega|refine zy ?_|fail)<;>conv=>whnf
 all_goals try omega
 refine f5 d7 (fun k=>([J,a7 .i64 find,a7 .i64 g,aF9 P,S.c (C.t (T.ptr (trT t))),J,J,J,J,a7 .i64 (t7 t.ev k).length,a7 .i64 k,J,J,J,J,J,J,J,J,J,J,J,J,J,J,J,J,J,J,J,J,J,J,J,J,J,J,J,J,J,J,J,J,J,J,J,J,J,J,J,J,J,J,J,J,J,J,J,J,J,J,J,J,J,J,J,J,J,J,J,J,J,J,J,J,J,J,J,J,J,J,J],[])) t.ev.moves.length (fun _=>True) [] trivial
  ⟨rfl,rfl,trivial,⟨rfl,rfl,rfl,rfl,rfl,rfl,trivial⟩⟩ ?_
 intro k hk _
 obtain ⟨lp,hlp⟩:=a8o (e:=t.ev) hk
 have lle:(t7 t.ev k).length<=(i9 t.ev).length:=by show _<=(t7 t.ev t.ev.moves.length).length;rw [hlp];simp
 by_cases hlt:k<t.ev.moves.length
 ·have lf:=aw5 t.ev q1 k hlt
  have nx:=aA1 hlt
  by_cases hkl:k ∈ i9 t.ev
  ·have e1:a7e t.ev k=true:=decide_eq_true hkl
   rw [e1] at lf
   rw [if_pos hkl] at nx
   have gi:=aO0 hkl
   have gl:=(lg1 gi).1
   obtain ⟨Y,hY⟩:∃Y,pf[(t7 t.ev k).length]? =some Y:=⟨_,lg0 (by omega)⟩
   have hy:P[(t7 t.ev k).length]? =some (Y.map fz):=by rw [hP,List.getElem?_map,hY];rfl
   have hcl:=hc _ (List.mem_range.2 gl)
   have hid:(i9 t.ev).getD (t7 t.ev k).length 0=k:=by rw [lg3,gi];rfl
   have hyd:P.getD (t7 t.ev k).length []=Y.map fz:=by rw [lg3,hy];rfl
   rw [hid,hyd] at hcl
   have ha:a0S t find k=true:=by unfold a0S;rw [a28 hQ f0 hf,decide_eq_true (by exact ⟨by omega,by rw [Int.toNat_natCast];exact hkl⟩)];rfl
   have al:=aJ5 t hs find f hf k ha (by omega)
   have ss:=T0 (kind:=f.kind) k hQ
   have my:=hp _ k Y gi hY
   have n1:=aB5 (o6 t f.kind k) ss mv Y my
   have n2:=aB5 (o6 t f.kind k) ss g Y my
   rw [← hmv] at n1
   unfold b8L at hcl
   rw [nx]
   generalize t7 t.ev k=L at *
   cases h1:aR1 (o6 t f.kind k) (aj7 mv) (Y.map fz) with
   |true=>
    rw [h1] at n1
    conv=>whnf
    repeat' (first|refine zz ?_|refine qp lf ?_|refine qp al ?_|refine qp n1 ?_|refine qp n2 ?_|refine qp 7 ?_|refine o7 f0 hf ?_|refine d8 hy ?_|refine bl0 [7] ?_|refine zd ?_ ?_<;>intro h<;>try omega|refine zy ?_|fail)<;>conv=>whnf
    all_goals first
     |omega
     |exact ⟨hlt,trivial,[],rfl,rfl,trivial,⟨rfl,rfl,rfl,rfl,b9 (by omega),b9 (by omega),trivial⟩⟩
   |false=>
    rw [h1,Bool.false_or] at hcl
    rw [h1] at n1
    rw [hcl] at n2
    conv=>whnf
    repeat' (first|refine zz ?_|refine qp lf ?_|refine qp al ?_|refine qp n1 ?_|refine qp n2 ?_|refine qp 7 ?_|refine o7 f0 hf ?_|refine d8 hy ?_|refine bl0 [7] ?_|refine zd ?_ ?_<;>intro h<;>try omega|refine zy ?_|fail)<;>conv=>whnf
    all_goals first
     |omega
     |exact ⟨hlt,trivial,[],rfl,rfl,trivial,⟨rfl,rfl,rfl,rfl,b9 (by omega),b9 (by omega),trivial⟩⟩
  ·have e1:a7e t.ev k=false:=decide_eq_false hkl
   rw [e1] at lf
   rw [if_neg hkl,Nat.add_zero] at nx
   rw [nx]
   generalize t7 t.ev k=L at *
   conv=>whnf
   repeat' (first|refine zz ?_|refine qp lf ?_|refine zd ?_ ?_<;>intro h<;>try omega|refine zy ?_|fail)<;>conv=>whnf
   all_goals first
    |omega
    |exact ⟨hlt,trivial,[],rfl,rfl,trivial,⟨rfl,rfl,rfl,rfl,rfl,b9 (by omega),trivial⟩⟩
 ·have hke:k=t.ev.moves.length:=by omega
  subst hke
  have e1:(t7 t.ev t.ev.moves.length).length=pf.length:=hl.symm
  rw [e1]
  conv=>whnf
  repeat' (first|refine zz ?_|refine zd ?_ ?_<;>intro h<;>try omega|refine zy ?_|fail)<;>conv=>whnf
  all_goals first
   |omega
   |exact b7 rfl
theorem b17 (v:Nat):R4 (C1 v)=aj7 v:=by
 unfold R4 Z4 C1 aj7
 have:((1:Int):Rat)*((-1:Int):Rat)=((-1:Int):Rat):=by decide +kernel
 simp only [List.map_cons,List.map_nil,this]
theorem b1q {s:g8} {g:List (Int × Rat)} {Y:List Rat} (hr:j0 s=true) (hg:g9 (-1) ((s.n.toNat:Nat):Int) g=true) (h:a3s s (R4 g) Y=true) (h0:a2z s (yN Y)=0) {z:List Rat} (hz:j7 s z=true):k9 g z<=0:=by
 have hb:=b1X (g:=R4 g) (b5J hr h) hz
 have e:g7 (fun l=>z7 (R4 g) l*z.getD l 0) s.n.toNat=k9 (R4 g) z:=(O2 (Y2 hg) z).symm
 rw [e,a2T (s:=s) (g:=g),h0] at hb
 grind
theorem ak2 {s:g8} {g:List (Int × Rat)} (h:as7 s g) (hp:a1X g (S2 s g)=false):a3s s (R4 g) (X5 s g)=true∧a2z s (yN (X5 s g))=0:=by
 unfold a1X at hp
 have hp:=of_decide_eq_false hp
 rcases ax9 (g:=R4 g) h.r h.z with ho|⟨c,ho⟩
 ·unfold S2 at hp
  unfold X5
  rw [ho] at hp ⊢
  simp only at hp ⊢
  obtain ⟨p1,p2⟩:=a2J h.r h.og ho
  obtain ⟨b1,b2⟩:=b5T (Y:=zOf s.rows.length (Q9 s (z9 s (R4 g)))) h.r h.og (b3r h.r h.og ho) T3 (fun i hi=>b2v hi)
  refine ⟨b1,?_⟩
  rw [b2,a2T (s:=s) (g:=g)]
  have:=h.p _ p1
  grind
 ·exfalso
  obtain ⟨r1,r2⟩:=av3 h.r h.og ho
  unfold S2 at hp
  rw [ho] at hp
  simp only at hp
  have h0:=(a2J h.r rfl h.z).1
  have h3:=O8 h0
  have hn:=a0P h.r
  rw [a2B (n:=s.n.toNat) (by omega) r1.len h.t] at hp
  rw [a2T (s:=s) (g:=g)] at r2
  have:=h.p _ h0
  grind
theorem ae1 {t:e8} {kind:Int} {i v:Nat} (h:QT t) (k0:0<=kind) (k1:kind<8) (hv:v<t.ev.moves.length):(isA t kind i).getD v false=true↔∃z,a6k t kind i z∧0<z.getD v 0:=by
 rw [au6 h (by omega) k0 k1 (by omega)]
 unfold aj4
 simp only [if_pos hv]
theorem b1h {t:e8} {kind:Int} {g:Nat} {l:List Nat}:a2u t kind g l=none↔∀i ∈ l,(isA t kind i).getD g false=false:=by
 unfold a2u
 rw [List.find?_eq_none]
 exact ⟨fun h i hi=>by simpa using h i hi,fun h i hi=>by simpa using h i hi⟩
theorem b1J {t:e8} {kind:Int} {g i:Nat} {l:List Nat} (h:a2u t kind g l=some i):i ∈ l∧(isA t kind i).getD g false=true:=by
 unfold a2u at h
 exact ⟨List.mem_of_find?_eq_some h,by simpa using List.find?_some h⟩
theorem ag2 {t:e8} {kind:Int} {mv g:Nat}:a2u t kind g (F5 t kind mv)=none↔C5 t kind mv g=false:=by
 rw [b1h]
 unfold C5
 rw [List.any_eq_false]
 exact ⟨fun h i hi=>by rw [h i hi];decide,fun h i hi=>by simpa using h i hi⟩
theorem a8b {t:e8} {kind:Int} {i v:Nat} (h:QT t) (k0:0<=kind) (k1:kind<8) (hv:v<t.ev.moves.length):as7 (o6 t kind i) (C1 v):=by
 have hG:=I7 (kind:=kind) i h (by omega) k0 k1
 have hm:C1 v ∈ K4 t.ev:=by
  unfold K4 I5
  exact List.mem_append_left _ (List.mem_map.2 ⟨v,List.mem_range.2 hv,rfl⟩)
 exact ⟨hG.p.r,hG.p.z,hG.p.g _ hm,hG.p.p _ hm⟩
theorem a9E {t:e8} {kind:Int} {i v:Nat} (h:QT t) (k0:0<=kind) (k1:kind<8) (hv:v<t.ev.moves.length):a1X (C1 v) (S2 (o6 t kind i) (C1 v))=(isA t kind i).getD v false:=by
 have hG:=a8b (i:=i) h k0 k1 hv
 obtain ⟨m1,m2⟩:=ac5 hG
 rw [Bool.eq_iff_iff,ae1 h k0 k1 hv]
 unfold a1X
 rw [decide_eq_true_eq]
 constructor
 ·intro hp;exact ⟨_,(Q4 h k0 k1).1 m1,by rw [← a5g];exact hp⟩
 ·rintro ⟨z,hz,hp⟩;exact m2 ⟨z,(Q4 h k0 k1).2 hz,by rw [a5g];exact hp⟩
theorem aQ3 {t:e8} {kind:Int} {mv g:Nat} (h:QT t) (k0:0<=kind) (k1:kind<8) (hmv:mv<t.ev.moves.length) (hg:g<t.ev.moves.length) (hw:C5 t kind mv g=false):a9Q t kind mv g (a2i t kind mv g (i9 t.ev))=true:=by
 unfold a9Q
 rw [aK4,decide_eq_true rfl,Bool.true_and,List.all_eq_true]
 intro k hk
 have hk:=List.mem_range.1 hk
 obtain ⟨i,hi⟩:∃i,(i9 t.ev)[k]? =some i:=⟨_,lg0 hk⟩
 have hid:(i9 t.ev).getD k 0=i:=by rw [lg3,hi];rfl
 have hyd:(a2i t kind mv g (i9 t.ev)).getD k []=(av8 t kind mv g i).map fz:=by rw [lg3];unfold a2i;rw [List.getElem?_map,hi];rfl
 rw [hid,hyd]
 unfold b8L av8
 rw [a9E h k0 k1 hmv,ah4,ah4,←b17,←b17]
 cases hb:(isA t kind i).getD mv false with
 |true=>
  have hi2:i ∈ F5 t kind mv:=List.mem_filter.2 ⟨lg2 hi,hb⟩
  unfold C5 at hw
  have hr:(isA t kind i).getD g false=false:=by simpa using List.any_eq_false.1 hw i hi2
  obtain ⟨a,b⟩:=ak2 (a8b (i:=i) h k0 k1 hg) (by rw [a9E h k0 k1 hg];exact hr)
  rw [if_pos rfl,a,b]
  simp
 |false=>
  obtain ⟨a,b⟩:=ak2 (a8b (i:=i) h k0 k1 hmv) (by rw [a9E h k0 k1 hmv];exact hb)
  rw [if_neg (by decide),a,b]
  rfl
theorem aU5 {s:g8} (h:a0t s):∀w ∈ s.rows,a9x 11 w:=fun w hw=>by
 obtain ⟨a,b⟩:=h.i w hw
 exact ⟨a,by have:=a6R b;omega⟩
theorem b1n {s:g8} {g:List (Int × Rat)} (h:a0t s) (h8:s.n.toNat<=8) (hw:E8 g):b1K s (X5 s g):=by
 have hl:=h.l
 unfold X5
 split
 ·have hr:∀w ∈ s.rows,(∀ t ∈ w.terms,rl t.2<=11)∧rl w.value<=11:=fun w hw=>⟨fun t ht=>by have:=P8 (h.i w hw).1 t ht;omega,by have:=a6R (h.i w hw).2;omega⟩
  exact ⟨fun v hv=>absurd hv (List.not_mem_nil),Nat.zero_le _,fun e=>b3E (B:=1) (C:=11) (N:=0) e (Nat.le_refl _) (by decide) (fun v hv=>absurd hv (List.not_mem_nil)) hr (by decide) (by decide) (by decide)⟩
 ·exact ⟨b3x (aU5 h) (a0n hw) h8,by rw [T3];omega,fun _=>b1m (aU5 h) (a0n hw) h8 (by omega)⟩
theorem aJ6 {t:e8} {kind:Int} {i:Nat} (j:Nat) (h:QT t):b1K (o6 t kind i) (X5 (o6 t kind i) (C1 j)):=
 b1n (T0 i h) (by show ((t.ev.moves.length:Nat):Int).toNat<=8;have:=h.m;omega) (X6 _)
theorem b2p {t:e8} {kind:Int} {a b:Nat} (h:QT t) (k i:Nat) (y:List Rat) (hi:(i9 t.ev)[k]? =some i) (hy:((i9 t.ev).map fun i=>av8 t kind a b i)[k]? =some y):b1K (o6 t kind i) y:=by
 rw [List.getElem?_map,hi] at hy
 injection hy with hy
 subst hy
 show b1K _ (av8 t kind a b i)
 unfold av8
 split
 ·exact aJ6 b h
 ·exact aJ6 a h
theorem an8 {s:g8} {x:List Rat} {B:Nat} (h:a0t s) (hB:B<=2000) (hl:x.length<=1000000) (hx:∀v ∈ x,rl v<=B):PtB s x:=by
 have h9:=h.n
 have:=Nat.mul_le_mul (show s.n.toNat<=9 by omega) (show B+4<=2004 by omega)
 exact b7D h.r (aU5 h) (B:=B) (by omega) (by omega) hl hx
theorem b22 {s:g8} {z:List Fr} (h:a0t s) (h3:aH0 z 10 3=true):PtR s z:=by
 have hf:=aN0 h3
 refine ⟨b5Y hf (by decide) (by decide),fun hh=>?_⟩
 obtain ⟨X,rfl⟩:=a5K hh
 have hX:=b8n (d:=3) hf.2
 rw [a6b]
 exact an8 (B:=3) h (by decide) (by have:=hf.1;rw [List.length_map] at this;omega) hX
theorem b5k {t:e8} {kind:Int} {i:Nat} (h:QT t) (h0:0<t.ev.moves.length) (k0:0<=kind) (k1:kind<8):∀v ∈ a3m t kind i,rl v<=1100:=by
 have hG:=I7 (kind:=kind) i h h0 k0 k1
 intro v hv
 unfold a3m a9B at hv
 obtain ⟨u,hu,rfl⟩:=List.mem_map.1 hv
 have hk:a0J (o6 t kind i) (K4 t.ev)<=(K4 t.ev).length:=a4f (a5a _ _).2
 have hl:=hG.l
 have h1:=a9h hG _ u hu
 generalize a0J (o6 t kind i) (K4 t.ev)=K at *
 have h2:=Nat.mul_le_mul_right 32 (show K+1<=31 by omega)
 have h3:=a3c u (Rat.divInt 1 ((K+1:Nat):Int))
 have h4:=Q1 (p:=1) (q:=((K+1:Nat):Int)) (by omega)
 have h5:=t4 (x:=1) (by decide) (by decide)
 have h6:=t4 (x:=((K+1:Nat):Int)) (by omega) (by omega)
 omega
theorem aJ7 {t:e8} {kind:Int} {i:Nat} (h:QT t) (h0:0<t.ev.moves.length) (k0:0<=kind) (k1:kind<8):PtB (o6 t kind i) (a3m t kind i):=by
 have hA:=(a8j (i:=i) h h0 k0 k1).1
 have hl:=hA.p.len
 have hm:=h.m
 have e:(y8 t).ev.moves.length=t.ev.moves.length:=rfl
 exact an8 (B:=1100) (T0 i h) (by decide) (by omega) (b5k h h0 k0 k1)
def a8S (k:Nat):List J1:=[⟨0,0,0⟩,⟨0,1,0⟩]++([1,1,2,5].take k).map fun x=>⟨x,-1,-1⟩
def exQ (cl:List J3):e8:=⟨⟨1,2,0,a8S 4,[⟨0,0,2,-1,0,false⟩,⟨0,1,3,-1,0,false⟩,⟨0,2,4,-1,0,true⟩,⟨0,4,5,-1,0,false⟩,⟨0,3,4,-1,0,true⟩],[],[],[]⟩,[⟨3,0,1⟩,⟨4,0,1⟩],cl⟩
abbrev b8w (l:List J1):Blk:={ mode:=.live,elem:=77,size:=3,rows:=toC (l.map J1.row),box:=false }
abbrev bb8 (id len:Nat):Blk:={ mode:=.live,elem:=28,size:=8,rows:=[[.t (ti 1),.t (ti 2),.t (ti 0),.own id 0 len true,.t (.sl 0 .nil []),.t (.sl 0 .nil []),.t (.sl 0 .nil []),.t (.sl 0 .nil [])]],box:=true }
abbrev bb2:Blk:={ mode:=.live,elem:=32,size:=10,rows:=[[.t (ti 0),.t (ti 0),.t (ti 0),.t (.sl 0 .nil []),.t (.sl 0 .nil []),.t (.sl 0 .nil []),.t (.sl 0 .nil []),.t (.sl 0 .nil []),.t (.sl 0 .nil []),.t (.sl 0 .nil [])]],box:=true }
theorem b3H {k:Nat} (h:k<=4):(a8S k).length=2+k:=by simp [a8S];omega
set_option maxHeartbeats 4000000 in
theorem a8x (cl:List J3):a9 Tryz.prog 74 [.c (.t (a26 cl))] [] (trS (exQ cl)) []:=by
 refine ac Tryz.func74 ?_
 conv=>whnf
 refine a3W.own ?_
 conv=>whnf
 repeat' (first|refine zz ?_|refine zd ?_ ?_<;>intro h<;>try omega|refine zy ?_|fail)<;>conv=>whnf
 refine f5 d7 (fun k=>([S.c (C.t (a26 cl)),J,S.c (C.ptr 0 0 0),a7 .i64 (-1),S.c (C.ptr 1 0 0),e7 [1,1,2,5],a7 .i64 k,J,J,J,J,J,J,J,J,J,J,J,J,J,J,J,J,J,J,J,J,J,J,J,J,J,J,J,J,J,J,J,J,J,J,J,J,J,J,J,J,J,J],[bb2,bb8 2 (a8S k).length,b8w (a8S k)])) 4 (fun _=>True) [some 0,some 1,some 2] trivial
  ⟨rfl,rfl,⟨d9 (d6 [[ti 0,ti 0,ti 0,.sl 0 .nil [],.sl 0 .nil [],.sl 0 .nil [],.sl 0 .nil [],.sl 0 .nil [],.sl 0 .nil [],.sl 0 .nil []]]),⟨rfl,rfl,rfl,.inr ⟨⟨rfl,rfl,rfl,⟨rfl,rfl,rfl,fun h=>h⟩,rfl,rfl,rfl,rfl,trivial⟩,trivial⟩⟩,a8 (rows:=(a8S 0).map J1.row) rfl rfl rfl rfl rfl,trivial⟩,⟨i7 rfl,⟨rfl,rfl,rfl⟩,rfl,⟨rfl,rfl,rfl⟩,rfl,rfl,trivial⟩⟩ ?_
 have m1:(([1,1,2,5]:List Int).map f8).length=4:=rfl
 intro k hk _
 by_cases hlt:k<4
 ·obtain ⟨x,hx,hb⟩:∃x:Int,([1,1,2,5]:List Int)[k]? =some x∧a8S (k+1)=a8S k++[⟨x,-1,-1⟩]:=by
   match k,hlt with
   |0,_=>exact ⟨1,rfl,rfl⟩
   |1,_=>exact ⟨1,rfl,rfl⟩
   |2,_=>exact ⟨2,rfl,rfl⟩
   |3,_=>exact ⟨5,rfl,rfl⟩
  have el:=b3H hk
  rw [hb]
  generalize a8S k=L at *
  have lA:L.length<=(b8w L).rows.length:=by show _<=(toC _).length;simp [toC]
  conv=>whnf
  repeat' (first|refine zz ?_|refine qp toC ?_|refine qp (0,1) ?_|refine d8 hx ?_|refine q9 lA (by simp [toC];omega) ?_|refine bl0 [0,1] ?_|refine zd ?_ ?_<;>intro h<;>try omega|refine zy ?_|fail)<;>conv=>whnf
  all_goals first
   |omega
   |(refine ⟨hlt,trivial,[some 0,some 1,some 3],rfl,rfl,⟨d9 (d6 [[ti 0,ti 0,ti 0,.sl 0 .nil [],.sl 0 .nil [],.sl 0 .nil [],.sl 0 .nil [],.sl 0 .nil [],.sl 0 .nil [],.sl 0 .nil []]]),⟨rfl,rfl,rfl,.inr ⟨⟨rfl,rfl,rfl,⟨rfl,rfl,?_,fun h=>h⟩,rfl,rfl,rfl,rfl,trivial⟩,trivial⟩⟩,a8 (rows:=(L++[(⟨x,-1,-1⟩:J1)]).map J1.row) rfl rfl rfl ?_ rfl,trivial⟩,⟨rfl,⟨rfl,rfl,rfl⟩,rfl,⟨rfl,rfl,rfl⟩,rfl,b9 (by omega),trivial⟩⟩
     ·simp [toC]
     ·exact C9 (f:=J1.row) (x:=(⟨x,-1,-1⟩:J1)) rfl)
 ·have hke:k=4:=by omega
  subst hke
  conv=>whnf
  repeat' (first|refine zz ?_|refine a3W.weak ?_|refine zd ?_ ?_<;>intro h<;>try omega|refine zy ?_|fail)<;>conv=>whnf
  all_goals first
   |omega
   |exact k8 ⟨rfl,rfl,rfl,(show VC _ (fun id=>G3 [] id=true) (C.own 2 0 _ true) _ from v4 (k:=b8w (a8S 4)) rfl rfl (fun h=>h) rfl rfl rfl),rfl,rfl,rfl,rfl,rfl,rfl,trivial⟩
def b7e (s:g8) (gL:List (List (Int × Rat))) (w:List Rat) (Ys:List (List Rat)) (out:List Bool):Bool:=
 decide (out.length=gL.length) && j7 s w && (List.range gL.length).all fun g=>if out.getD g false=true then decide (0<k9 (gL.getD g []) w) else a3s s (R4 (gL.getD g [])) (Ys.getD g []) && decide (a2z s (yN (Ys.getD g []))=0)
theorem a99 {s:g8} {gL:List (List (Int × Rat))} {w:List Rat} {Ys:List (List Rat)} {out:List Bool} (h:a1K s gL) (hc:b7e s gL w Ys out=true):isF s gL=out:=by
 unfold b7e at hc
 simp only [Bool.and_eq_true,decide_eq_true_eq,List.all_eq_true] at hc
 obtain ⟨⟨h1,h2⟩,h3⟩:=hc
 have hl:(isF s gL).length=gL.length:=P5 _ _ _
 refine a5w (by omega) fun i hi=>?_
 have hi2:i<gL.length:=by omega
 have h4:=h3 i (List.mem_range.2 hi2)
 have hiff:=b4w h hi2
 cases ho:out.getD i false with
 |true=>
  rw [ho,if_pos rfl,decide_eq_true_eq] at h4
  exact hiff.2 ⟨w,h2,h4⟩
 |false=>
  rw [ho,if_neg (by decide),Bool.and_eq_true,decide_eq_true_eq] at h4
  cases hb:(isF s gL).getD i false with
  |false=>rfl
  |true=>
   obtain ⟨z,hz,hp⟩:=hiff.1 hb
   have:=b1q h.r (h.g _ (Q2 hi2)) h4.1 h4.2 hz
   grind
def q0:List Rat:=[]
def qe (l:List Int):List Rat:=l.map fun x=>((x:Int):Rat)
theorem aT1:v8 (exQ [])=0:=by decide +kernel
theorem aP2:v8 (exQ [⟨2,0⟩])=0:=by decide +kernel
theorem a4F:QT (exQ []):=⟨aT1,by decide,by decide⟩
theorem b8T:QT (exQ [⟨2,0⟩]):=⟨aP2,by decide,by decide⟩
theorem K6 (cl:List J3) (h:cl.length<=1000000):(exQ cl).Sized:=⟨⟨by simp [exQ,a8S],by simp [exQ,a8S],by simp [exQ],by simp [exQ],by simp [exQ]⟩,by simp [exQ],by simpa [exQ] using h⟩
theorem b2X:isA (exQ []) 0 0=[true,false,true,true,false,false,false,false,false,true,true]:=
 a99 (I7 0 a4F (by decide) (by decide) (by decide)).p (w:=qe [2,0,2,1,0]) (Ys:=[[],qe [0,0,0,-1],[],[],qe [0,0,1,-1],qe [0,0,0,0],qe [0,0,0,0],qe [-1,0,0,0],qe [0,0,-1,0],[],[]]) (by decide +kernel)
theorem b9a:isA (exQ []) 0 1=[false,true,false,false,true,false,false,false,false,true,false]:=
 a99 (I7 1 a4F (by decide) (by decide) (by decide)).p (w:=qe [0,2,0,0,2]) (Ys:=[qe [0,0,0,-1],[],qe [1,0,0,-1],qe [1,1,0,-1],[],qe [0,0,0,0],qe [0,0,0,0],qe [-1,0,0,0],qe [0,0,-1,0],[],qe [1,1,0,-1]]) (by decide +kernel)
theorem bb9:isA (exQ [⟨2,0⟩]) 0 0=[false,false,false,false,false,false,false,false,false,false,false]:=
 a99 (I7 0 b8T (by decide) (by decide) (by decide)).p (w:=qe [0,0,0,0,0]) (Ys:=[qe [-1,-1,0,0,0],qe [0,0,0,0,-1],qe [0,-1,0,0,0],qe [0,-1,1,0,0],qe [0,0,0,1,-1],qe [0,0,0,0,0],qe [0,0,0,0,0],qe [-1,0,0,0,0],qe [0,0,0,-1,0],qe [0,-1,0,1,-1],qe [0,-1,1,0,0]]) (by decide +kernel)
theorem ba4:isA (exQ [⟨2,0⟩]) 0 1=[false,true,false,false,true,false,false,false,false,true,false]:=
 a99 (I7 1 b8T (by decide) (by decide) (by decide)).p (w:=qe [0,2,0,0,2]) (Ys:=[qe [0,0,0,0,-1],[],qe [0,-1,0,0,0],qe [0,-1,1,0,0],[],qe [0,0,0,0,0],qe [0,0,0,0,0],qe [-1,0,0,0,0],qe [0,0,0,-1,0],[],qe [0,-1,1,0,0]]) (by decide +kernel)
theorem b4O:i9 (exQ []).ev=[0,1]:=by decide +kernel
theorem bb5:i9 (exQ [⟨2,0⟩]).ev=[0,1]:=by decide +kernel
theorem b9R (mv:Nat):F5 (exQ []) 0 mv=[0,1].filter fun i=>((if i=0 then [true,false,true,true,false,false,false,false,false,true,true] else [false,true,false,false,true,false,false,false,false,true,false]):List Bool).getD mv false:=by
 unfold F5
 rw [b4O]
 refine List.filter_congr fun i hi=>?_
 have hi:i=0∨i=1:=by simpa using hi
 rcases hi with rfl|rfl
 ·rw [b2X];rfl
 ·rw [b9a];rfl
theorem b3d:F5 (exQ []) 0 3=[0]:=by rw [b9R];decide +kernel
theorem b7a:F5 (exQ []) 0 4=[1]:=by rw [b9R];decide +kernel
theorem b95:F5 (exQ [⟨2,0⟩]) 0 3=[]:=by
 unfold F5
 rw [bb5]
 simp [bb9,ba4]
theorem a9r (g:Nat):C5 (exQ []) 0 3 g=([true,false,true,true,false,false,false,false,false,true,true]:List Bool).getD g false:=by
 unfold C5
 rw [b3d]
 show ((isA (exQ []) 0 0).getD g false || false)=_
 rw [b2X,Bool.or_false]
theorem b3k (g:Nat):C5 (exQ []) 0 4 g=([false,true,false,false,true,false,false,false,false,true,false]:List Bool).getD g false:=by
 unfold C5
 rw [b7a]
 show ((isA (exQ []) 0 1).getD g false || false)=_
 rw [b9a,Bool.or_false]
theorem b8q:t8 (exQ []) 0 3=[0,2,3]∧v5 (exQ []) 0 3=[4,5]:=by
 unfold t8 v5 J0 F8 X2
 have:(fun g=>C5 (exQ []) 0 3 g)=fun g=>([true,false,true,true,false,false,false,false,false,true,true]:List Bool).getD g false:=funext a9r
 rw [this]
 decide +kernel
theorem b7y:t8 (exQ []) 0 4=[1,4]∧v5 (exQ []) 0 4=[4]:=by
 unfold t8 v5 J0 F8 X2
 have:(fun g=>C5 (exQ []) 0 4 g)=fun g=>([false,true,false,false,true,false,false,false,false,true,false]:List Bool).getD g false:=funext b3k
 rw [this]
 decide +kernel
theorem bb6:a6O (exQ []) 0 3=[3]:=by
 unfold a6O;rw [b8q.1];decide +kernel
theorem bb3:a6O (exQ []) 0 4=[]:=by
 unfold a6O;rw [b7y.1];decide +kernel
theorem exW:a2u (exQ []) 0 2 (F5 (exQ []) 0 3)=some 0:=by
 rw [b3d]
 unfold a2u
 have:(isA (exQ []) 0 0).getD 2 false=true:=by rw [b2X];rfl
 simp [List.find?_cons]
 rw [lg3] at this
 simp [this]
theorem exN:a2u (exQ []) 0 4 (F5 (exQ []) 0 3)=none:=by
 rw [ag2,a9r];rfl
end Go.Proofs.YtdbogogfeffjlaaGreat
