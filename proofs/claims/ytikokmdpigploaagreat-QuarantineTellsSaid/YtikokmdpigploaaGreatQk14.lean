/- Part 14. -/
import Derived.Test.YtikokmdpigploaaGreatQk13
namespace Go.Proofs.YtikokmdpigploaaGreat
set_option linter.all false
set_option maxRecDepth 100000
set_option maxHeartbeats 8000000
open Go.RowKit
open St1 St2 St3 St4 St5 St6 St7 St8 StA StB StC
def b3f (Y:List Rat) (n:Nat) (hl:Y.length<=1000000) (h:∀v ∈ Y,rl v<=200000):ec 238 [p5 (Y.map fz),eI n] [] (j8 (decide (Y.length=n))) []:=by
 have m2:((Y.map fz).map t5).length=Y.length:=zq;refine ac Tryz.func238 ?_;conv=>whnf
 repeat' (first|refine zx ?_|apply zD<;>intro h<;>try omega)<;>conv=>whnf
 refine i7 d9 (fun k=>([p5 (Y.map fz),eI n,J,J,J,eI k]++Jn 16,[])) Y.length tT [] trivial
  rz ?_
 intro k hk _;by_cases hlt:k<Y.length
 ·obtain ⟨x,hx⟩:∃x,Y[k]? =some x:=⟨_,lbf hlt⟩;have bx:=h x (lbm hx);have rr:=aa5 x om;conv=>whnf
  repeat' (first|refine zx ?_|refine f7 (a3X Y hx) ?_|apply zD<;>intro h<;>try omega)<;>conv=>whnf
  all_goals first|omega|(exfalso;simp_all;done)|exact ⟨hlt,trivial,[],rz⟩
 ·conv=>whnf
  repeat' (first|refine zx ?_|apply zD<;>intro h<;>try omega)<;>conv=>whnf
  all_goals first|omega|(refine g9 (lbI ?_).symm;omega)|(refine g9 (lbK ?_).symm;omega)
def yN (Y:List Rat) (i:Nat):Rat:=Y.getD i 0
def b2n {Y:List Rat} {k:Nat} {x:Rat} (h:Y[k]? =some x):yN Y k=x:=by unfold yN;rw [lbl,h];rfl
def sgB (s:j2) (Y:List Rat) (i:Nat):Bool:=!((decide ((C1 s i).kind=0) && decide (yN Y i<0)) || (decide ((C1 s i).kind=1) && decide (0<yN Y i)))
def a5q (s:j2) (Y:List Rat):Bool:=decide (Y.length=s.rows.length) && (List.range s.rows.length).all (sgB s Y)
def T8 {n k:Nat} (h:k<n):(List.range n)[k]? =some k:=by simp [h]
def a5V {f:Nat->Bool} {k:Nat}:(List.range (k+1)).all f=((List.range k).all f && f k):=by rw [a3D,a7S];simp
def a8b {f:Nat->Bool} {n k:Nat} (h:k<n) (hf:f k=false):(List.range n).all f=false:=C5 (T8 h) hf
theorem b6i (s:j2) (hb:aI2 s) (hr:n7 s=true) (Y:List Rat) (hl:Y.length<=1000000) (hy:∀v ∈ Y,rl v<=50000):
 d6 Tryz.prog 159 [S9 s,p5 (Y.map fz)] [] (j8 (a5q s Y)) []:=by
 have m1:(s.rows.map w5).length=s.rows.length:=by simp
 have m2:((Y.map fz).map t5).length=Y.length:=by simp
 have l1:=hb.n0
 have lr:=a8l s hb
 rw [hr] at lr
 have fr:=b3f Y s.rows.length hl (fun v hv=>by have:=hy v hv;omega)
 have fr2:d6 Tryz.prog 238 [p5 (Y.map fz),c9 .i64 ((s.rows.map w5).length:Nat)] [] (j8 (decide (Y.length=s.rows.length))) []:=by rw [m1];exact fr
 by_cases hn:Y.length≠s.rows.length
 ·have e2:a5q s Y=false:=by unfold a5q;rw [lbK hn];simp
  rw [lbK hn] at fr2
  rw [e2]
  (refine ac Tryz.func159 ?_;(conv=>whnf);repeat ((first|refine b0x ?_|refine zy ?_);conv=>whnf))
  repeat' (first|refine zx ?_|refine qp lr ?_|refine qp fr2 ?_|refine zd ?_ ?_<;>intro h<;>try omega|fail)<;>conv=>whnf
  all_goals first
   |omega
   |(exfalso;simp_all;done)
   |exact g9 rfl
 have hn:Y.length=s.rows.length:=by omega
 have e2:a5q s Y=(List.range s.rows.length).all (sgB s Y):=by unfold a5q;rw [lbI hn];simp
 rw [e2]
 rw [lbI hn] at fr2
 (refine ac Tryz.func159 ?_;(conv=>whnf);repeat ((first|refine b0x ?_|refine zy ?_);conv=>whnf))
 repeat' (first|refine zx ?_|refine qp lr ?_|refine qp fr2 ?_|refine zd ?_ ?_<;>intro h<;>try omega|fail)<;>conv=>whnf
 all_goals try (exfalso;simp_all;done)
 refine i7 d9 (fun k=>([J,p5 (Y.map fz),S.c (C.t (T.ptr [ti s.n,J7 s.rows])),J,J,c9 .i64 k]++Jn 47,[])) Y.length (fun k=>(List.range k).all (sgB s Y)=true) [] rfl
  ⟨rfl,rfl,trivial,⟨rfl,rfl,rfl,trivial⟩⟩ ?_
 intro k hk hI
 by_cases hlt:k<Y.length
 ·obtain ⟨x,hx⟩:∃x,Y[k]? =some x:=⟨_,lbf hlt⟩
  obtain ⟨w,hw⟩:∃w,s.rows[k]? =some w:=⟨_,lbf (by omega)⟩
  have bx:=hy x (lbm hx)
  have sg:=a6j x (by omega)
  have es:sgB s Y k=decide ((w.kind=0->¬sgR x<0)∧(w.kind=1->¬sgR x > 0)):=by
   unfold sgB
   rw [S3 hw,b2n hx,aj3,decide_eq_true_iff,a9q,b7s]
   simp
   grind
  generalize sgR x=U at sg es
  by_cases hok:(w.kind=0->¬U<0)∧(w.kind=1->¬U > 0)
  ·rw [lbI hok] at es
   obtain ⟨q1,q2⟩:=hok
   conv=>whnf
   repeat' (first|refine zx ?_|refine qp sg ?_|refine f7 (a3X Y hx) ?_|refine f7 hw ?_|refine zd ?_ ?_<;>intro h<;>try omega|fail)<;>conv=>whnf
   all_goals first
    |omega
    |exact ⟨hlt,by rw [a5V,hI,es];rfl,[],rfl,rfl,trivial,⟨rfl,rfl,rfl,trivial⟩⟩
  ·rw [lbK hok] at es
   rw [a8b (n:=s.rows.length) (by omega) es]
   have hor:(w.kind=0∧U<0)∨(w.kind=1∧U > 0):=by omega
   clear hok
   conv=>whnf
   repeat' (first|refine zx ?_|refine qp sg ?_|refine f7 (a3X Y hx) ?_|refine f7 hw ?_|refine zd ?_ ?_<;>intro h<;>try omega|fail)<;>conv=>whnf
   all_goals first
    |omega
    |exact g9 rfl
 ·have hke:k=s.rows.length:=by omega
  subst hke
  rw [hI]
  conv=>whnf
  repeat' (first|refine zx ?_|refine zd ?_ ?_<;>intro h<;>try omega|fail)<;>conv=>whnf
  all_goals first
   |omega
   |exact g9 rfl
def b9A {n:Int} {l:List (Int × Rat)} (hr:j9 (-1) n l=true) {i:Nat} {t:Int × Rat} (ht:l[i]? =some t):∀k,i<k->k<=l.length->L0 l k t.1.toNat=t.2:=by
 intro k hi hk;induction k with
 |zero=>omega
 |succ k ih=>
  obtain ⟨u,hu⟩:∃u,l[k]? =some u:=⟨_,lbf om⟩;rw [I1 hu];simp only;by_cases h:i=k
  ·subst h;rw [ht] at hu;injection hu with hu;subst hu
   rw [if_pos rfl]
  ·have:=a5f hr i k t u om ht hu;have:=E7 hr t (lbm ht);rw [if_neg om];exact ih om om
def b3w {n:Int} {l:List (Int × Rat)} (hr:j9 (-1) n l=true) {i:Nat} {t:Int × Rat} (ht:l[i]? =some t):A7 l t.1.toNat=t.2:=
 b9A hr ht _ (lbe.1 ht).1 (lbS _)
def b1k (l:List (Int × Rat)) (v:Nat) {n:Int} (hr:j9 (-1) n l=true) (hl:l.length<=1000000) (hv:v<=1000000):ec 163 [m8 l,eI v] [] (frS (fz (A7 l v))) []:=by
 have m1:(l.map k6).length=l.length:=zq;have i0:=a5s 0 de de;refine ac Tryz.func163 ?_;conv=>whnf
 repeat' (first|refine zx ?_|apply zD<;>intro h<;>try omega)<;>conv=>whnf
 refine i7 d9 (fun k=>([m8 l,eI v,J,J,sP 0 0 0,eI k]++Jn 19,[frB M4])) l.length (fun k=>∀i t,i<k->l[i]? =some t->t.1.toNat≠v) [some 0] (fun i t h=>om)
  ⟨rfl,rfl,⟨⟨rfl,rfl,rfl,.inr rz⟩,trivial⟩,rz⟩ ?_
 intro k hk hI;by_cases hlt:k<l.length
 ·obtain ⟨t,ht⟩:∃t,l[k]? =some t:=⟨_,lbf hlt⟩;have hm:=E7 hr t (lbm ht);by_cases he:t.1=v
  ·have e:A7 l v=t.2:=by rw [← b3w hr ht,he];rfl
   rw [e];conv=>whnf
   repeat' (first|refine zx ?_|refine f7 ht ?_|apply zD<;>intro h<;>try omega)<;>conv=>whnf
   all_goals first|omega|exact b05 rfl
  ·conv=>whnf
   repeat' (first|refine zx ?_|refine f7 ht ?_|apply zD<;>intro h<;>try omega)<;>conv=>whnf
   all_goals first
    |omega
    |exact ⟨hlt,fun i u hi hu=>by
      by_cases h:i=k
      ·subst h;rw [ht] at hu;injection hu with hu;subst hu;omega
      ·exact hI i u om hu,[some 0],rfl,rfl,⟨⟨rfl,rfl,rfl,.inl ⟨rfl,Q0 _⟩⟩,trivial⟩,rz⟩
 ·have hke:k=l.length:=by omega
  subst hke;have e:A7 l v=((0:Int):Rat):=a46 _ hI;rw [e];conv=>whnf
  repeat' (first|refine zx ?_|apply zD<;>intro h<;>try omega)<;>conv=>whnf
  all_goals first|omega|exact b05 rfl
def b8R (a b c:Rat) (ha:rl a<=60000) (hb:rl b<=50000) (hc:rl c<=200):ec 239 [frS (fz a),frS (fz b),frS (fz c)] [] (frS (fz (a+b*c))) []:=by
 have l:=a52 b c;have mu:=bl7 b c om om;have ad:=al7 a (b*c) om om;refine ac Tryz.func239 ?_;conv=>whnf
 repeat' (first|refine zx ?_|refine bl0 [5] ?_|apply zD<;>intro<;>try omega)<;>conv=>whnf
 all_goals exact b05 rfl
def Z7 (s:j2) (y:Nat->Rat) (k:Nat):List (Int × Rat):=((List.range k).filter fun v=>decide (V7 s y v≠0)).map fun v:Nat=>((v:Int),V7 s y v)
def aC3 (s:j2) (y:Nat->Rat) (k:Nat):Z7 s y (k+1)=if V7 s y k=0 then Z7 s y k else Z7 s y k++[((k:Int),V7 s y k)]:=by
 unfold Z7;rw [a3D,lb9,lbD];by_cases h:V7 s y k=0
 ·rw [if_pos h];simp [h]
 ·rw [if_neg h];simp [h]
def aS1 (s:j2) (y:Nat->Rat) (k:Nat):(Z7 s y k).length<=k:=by
 unfold Z7;rw [lbr];exact lbT (lbt _ _) zq
def a7f (s:j2) (y:Nat->Rat) (l k:Nat):Rat:=k7 (fun i=>y i*A7 (C1 s i).terms l) k
def a7i (s:j2) (y:Nat->Rat) (k:Nat):Rat:=k7 (fun i=>y i*(C1 s i).value) k
structure b8n (s:j2) (Y:List Rat):Prop where
 y:∀v ∈ Y,rl v<=40000
 n:∀l k,rl (a7f s (yN Y) l k)<=50000
 v:∀k,rl (a7i s (yN Y) k)<=50000
 l:Y.length=s.rows.length
 m:s.rows.length<=1000000
def b3c {l:List (Int × Rat)} (h:∀t ∈ l,rl t.2<=200) (v:Nat):rl (A7 l v)<=200:=by
 have key:∀k,rl (L0 l k v)<=200:=by
  intro k;induction k with
  |zero=>have:=rl0;show rl 0<=_;omega
  |succ k ih=>
   cases hk:l[k]? with
   |none=>rw [L0,hk];exact ih
   |some t=>
    rw [I1 hk];simp only;split
    ·exact h t (lbm hk)
    ·exact ih
 exact key _
def bE0 (s:j2) (hb:aI2 s) (hr:n7 s=true) (Y:List Rat) (hq:b8n s Y):
 ec 161 [S9 s,p5 (Y.map fz)] [] (.tup [m8 (Z7 s (yN Y) s.n.toNat),frS (fz (a4b s (yN Y)))]) []:=by
 have m1:(s.rows.map w5).length=s.rows.length:=zq;have m2:((Y.map fz).map t5).length=Y.length:=zq;have l1:=hb.n0;have hn:=hq.l;have lr:=a8l s hb;rw [hr] at lr;have hnn:0<=s.n∧s.n<=1500:=by
  unfold n7 at hr;simp only [lbO,lbJ] at hr;exact ⟨hr.1.1.1,hr.1.1.2⟩
 have fr:=b3f Y s.rows.length om (fun v hv=>by have:=hq.y v hv;omega);have fr2:ec 238 [p5 (Y.map fz),eI ((s.rows.map w5).length:Nat)] [] (j8 true) []:=by rw [m1];rw [lbI hn] at fr;exact fr
 have i0:=a5s 0 de de
 (refine ac Tryz.func161 ?_;(conv=>whnf);repeat ((first|refine b0x ?_|refine zy ?_);conv=>whnf))
 repeat' (first|refine zz ?_|refine qp lr ?_|refine qp fr2 ?_|refine qp i0 ?_|refine a4d.own ?_|apply zD<;>intro h<;>try omega|refine zy ?_|fail)<;>conv=>whnf
 all_goals try omega
 all_goals try (exfalso;simp_all;done)
 refine i7 d9 (fun v=>([J,p5 (Y.map fz),S.c (C.t (T.ptr [ti s.n,J7 s.rows])),J,J,sP 0 0 0,S.c (C.own 1 0 (Z7 s (yN Y) v).length true),eI v]++Jn 74,[frB M4,H4 (Z7 s (yN Y) v)])) s.n.toNat tT [some 0,some 1] trivial
  ⟨rfl,rfl,⟨⟨rfl,rfl,rfl,.inr rz⟩,d8 (rows:=[]) rfl rfl rfl rfl rfl,trivial⟩,⟨rfl,rfl,rz,⟨rfl,rfl,rfl,fun h=>h⟩,rz⟩⟩ ?_
 intro v hv _;have lv:=aS1 s (yN Y) v;by_cases hlt:v<s.n.toNat
 ·conv=>whnf
  repeat' (first|refine zx ?_|apply zD<;>intro h<;>try omega)<;>conv=>whnf
  all_goals try omega
  refine i7 d9 (fun k=>([J,p5 (Y.map fz),S.c (C.t (T.ptr [ti s.n,J7 s.rows])),J,J,sP 0 0 0,S.c (C.own 1 0 (Z7 s (yN Y) v).length true),eI v,sP 2 0 0,eI k]++Jn 72,[frB M4,H4 (Z7 s (yN Y) v),frB (fz (a7f s (yN Y) v k))])) Y.length tT [some 0,some 1,some 2] trivial
   ⟨rfl,rfl,⟨⟨rfl,rfl,rfl,.inr rz⟩,d8 (rows:=(Z7 s (yN Y) v).map k6) rfl rfl rfl rfl rfl,⟨rfl,rfl,rfl,.inl ⟨rfl,Q0 _⟩⟩,trivial⟩,⟨rfl,rfl,rz,⟨rfl,rfl,rfl,fun h=>h⟩,rz⟩⟩ ?_
  intro k hk _;by_cases hkl:k<Y.length
  ·obtain ⟨x,hx⟩:∃x,Y[k]? =some x:=⟨_,lbf hkl⟩;obtain ⟨w,hw⟩:∃w,s.rows[k]? =some w:=⟨_,lbf om⟩;obtain ⟨b1,b2,b3⟩:=hb.t w (lbm hw);have hrt:=(Y4 hr hw).1;have bx:=hq.y x (lbm hx);have co:=b1k w.terms v hrt om om;have bc:=b3c b2 v;have bm:=hq.n v k;have pl:=b8R (a7f s (yN Y) v k) x (A7 w.terms v) om om bc;have e:a7f s (yN Y) v k+x*A7 w.terms v=a7f s (yN Y) v (k+1):=by
    show _=a7f s (yN Y) v k+yN Y k*A7 (C1 s k).terms v;rw [S3 hw,b2n hx]
   rw [e] at pl;conv=>whnf
   repeat' (first|refine zx ?_|refine f7 (a3X Y hx) ?_|refine f7 hw ?_|apply zD<;>intro h<;>try omega)<;>conv=>whnf
   all_goals first|omega|exact ⟨hkl,trivial,[some 0,some 1,some 2],rfl,rfl,⟨⟨rfl,rfl,rfl,.inr rz⟩,d8 (rows:=(Z7 s (yN Y) v).map k6) rfl rfl rfl rfl rfl,⟨rfl,rfl,rfl,.inl ⟨rfl,Q0 _⟩⟩,trivial⟩,⟨rfl,rfl,rz,⟨rfl,rfl,rfl,fun h=>h⟩,rz⟩⟩
  ·have hke:k=s.rows.length:=by omega
   subst hke;have e:a7f s (yN Y) v s.rows.length=V7 s (yN Y) v:=rfl;rw [e];have bm:=hq.n v s.rows.length;rw [e] at bm;have sg:=a6j (V7 s (yN Y) v) om;have sz:=a6f (x:=V7 s (yN Y) v);have lA:(Z7 s (yN Y) v).length<=(H4 (Z7 s (yN Y) v)).rows.length:=by show _<=(toC _).length;simp [toC]
   by_cases hz:V7 s (yN Y) v=0
   ·have hs:=sz.2 hz;have e2:Z7 s (yN Y) (v+1)=Z7 s (yN Y) v:=by rw [aC3,if_pos hz]
    rw [e2];conv=>whnf
    repeat' (first|refine zx ?_|apply zD<;>intro h<;>try omega)<;>conv=>whnf
    all_goals first|omega|exact ⟨hlt,trivial,[some 0,some 1],rfl,rfl,⟨⟨rfl,rfl,rfl,.inr rz⟩,d8 (rows:=(Z7 s (yN Y) v).map k6) rfl rfl rfl rfl rfl,trivial⟩,⟨rfl,rfl,rz,⟨rfl,rfl,rfl,fun h=>h⟩,rz⟩⟩
   ·have hs:sgR (V7 s (yN Y) v)≠0:=fun h=>hz (sz.1 h)
    have e2:Z7 s (yN Y) (v+1)=Z7 s (yN Y) v++[((v:Int),V7 s (yN Y) v)]:=by rw [aC3,if_neg hz]
    rw [e2];conv=>whnf
    repeat' (first|refine zx ?_|refine o6 lA zu ?_|apply zD<;>intro h<;>try omega)<;>conv=>whnf
    all_goals first
     |omega
     |(refine ⟨hlt,trivial,[some 0,some 3],rfl,rfl,⟨⟨rfl,rfl,rfl,.inr rz⟩,d8 (rows:=(Z7 s (yN Y) v++[((v:Int),V7 s (yN Y) v)]).map k6) rfl rfl rfl ?_ ?_,trivial⟩,⟨rfl,rfl,rz,⟨rfl,rfl,?_,fun h=>h⟩,rz⟩⟩
       ·exact u6 (f:=k6) (x:=((v:Int),V7 s (yN Y) v)) rfl
       ·rfl
       ·simp [toC])
 ·have hke:v=s.n.toNat:=by omega
  subst hke;conv=>whnf
  repeat' (first|refine zx ?_|apply zD<;>intro h<;>try omega)<;>conv=>whnf
  all_goals try omega
  refine i7 d9 (fun k=>([J,p5 (Y.map fz),S.c (C.t (T.ptr [ti s.n,J7 s.rows])),J,J,sP 0 0 0,S.c (C.own 1 0 (Z7 s (yN Y) s.n.toNat).length true),J,J,J,sP 2 0 0,eI k]++Jn 70,[frB M4,H4 (Z7 s (yN Y) s.n.toNat),frB (fz (a7i s (yN Y) k))])) Y.length tT [some 0,some 1,some 2] trivial
   ⟨rfl,rfl,⟨⟨rfl,rfl,rfl,.inr rz⟩,d8 (rows:=(Z7 s (yN Y) s.n.toNat).map k6) rfl rfl rfl rfl rfl,⟨rfl,rfl,rfl,.inl ⟨rfl,Q0 _⟩⟩,trivial⟩,⟨rfl,rfl,rz,⟨rfl,rfl,rfl,fun h=>h⟩,rz⟩⟩ ?_
  intro k hk _;by_cases hkl:k<Y.length
  ·obtain ⟨x,hx⟩:∃x,Y[k]? =some x:=⟨_,lbf hkl⟩;obtain ⟨w,hw⟩:∃w,s.rows[k]? =some w:=⟨_,lbf om⟩;obtain ⟨b1,b2,b3⟩:=hb.t w (lbm hw);have bx:=hq.y x (lbm hx);have bm:=hq.v k;have pl:=b8R (a7i s (yN Y) k) x w.value om om b3;have e:a7i s (yN Y) k+x*w.value=a7i s (yN Y) (k+1):=by
    show _=a7i s (yN Y) k+yN Y k*(C1 s k).value;rw [S3 hw,b2n hx]
   rw [e] at pl;conv=>whnf
   repeat' (first|refine zx ?_|refine f7 (a3X Y hx) ?_|refine f7 hw ?_|apply zD<;>intro h<;>try omega)<;>conv=>whnf
   all_goals first|omega|exact ⟨hkl,trivial,[some 0,some 1,some 2],rfl,rfl,⟨⟨rfl,rfl,rfl,.inr rz⟩,d8 (rows:=(Z7 s (yN Y) s.n.toNat).map k6) rfl rfl rfl rfl rfl,⟨rfl,rfl,rfl,.inl ⟨rfl,Q0 _⟩⟩,trivial⟩,⟨rfl,rfl,rz,⟨rfl,rfl,rfl,fun h=>h⟩,rz⟩⟩
  ·have hke:k=s.rows.length:=by omega
   subst hke;have e:a7i s (yN Y) s.rows.length=a4b s (yN Y):=rfl;rw [e];conv=>whnf
   repeat' (first|refine zx ?_|apply zD<;>intro h<;>try omega)<;>conv=>whnf
   all_goals first|omega|exact n9 ⟨(show VC _ (fun id=>G8 [] id=true) (C.own 1 0 _ true) _ from s6 (k:=H4 (Z7 s (yN Y) s.n.toNat)) rfl rfl (fun h=>h) rfl rfl zq),rz⟩
def ay6 {n:Int}:∀{l:List (Int × Rat)} {last:Int},l.Pairwise (fun a b=>a.1<b.1)->(∀ t ∈ l,last<t.1∧t.1<n∧t.2≠0)->j9 last n l=true
 |[],_,_,_=>rfl
 |a::r,last,h1,h2=>by
  unfold j9;simp only [lbO,lbJ];obtain ⟨p1,p2⟩:=List.pairwise_cons.1 h1;have:=h2 a (a2T ..);exact ⟨⟨⟨this.1,this.2.1⟩,this.2.2⟩,ay6 p2 fun t ht=>⟨p1 t ht,(h2 t (a20 _ ht)).2⟩⟩
def ap6 {s:j2} {y:Nat->Rat} {k:Nat} {t:Int × Rat}:t ∈ Z7 s y k↔∃v:Nat,v<k∧V7 s y v≠0∧t=((v:Int),V7 s y v):=by
 unfold Z7;rw [lby];constructor
 ·rintro ⟨v,hv,rfl⟩;rw [lbz,lbC] at hv;exact ⟨v,hv.1,by simpa using hv.2,rfl⟩
 ·rintro ⟨v,h1,h2,rfl⟩;exact ⟨v,by rw [lbz,lbC];exact ⟨h1,by simpa using h2⟩,rfl⟩
def am3 (s:j2) (y:Nat->Rat) (k:Nat):j9 (-1) (k:Int) (Z7 s y k)=true:=by
 refine ay6 ?_ fun t ht=>?_
 ·unfold Z7;rw [List.pairwise_map];exact ((List.pairwise_lt_range (n:=k)).filter _).imp fun {a b} h=>by show (a:Int)<b;omega
 ·obtain ⟨v,h1,h2,rfl⟩:=ap6.1 ht;exact ⟨by simp only;omega,by simp only;omega,h2⟩
def b7W {s:j2} {y:Nat->Rat} {k v:Nat} (hv:v<k):A7 (Z7 s y k) v=V7 s y v:=by
 by_cases h:V7 s y v=0
 ·rw [h];refine a46 _ fun i t _ ht=>?_
  obtain ⟨u,h1,h2,rfl⟩:=ap6.1 (lbm ht);intro e;have e:u=v:=by simpa using e
  exact h2 (e ▸ h)
 ·obtain ⟨i,hi,he⟩:=X4 (ap6.2 ⟨v,hv,h,rfl⟩);have:=b3w (am3 s y k) (i:=i) (t:=((v:Int),V7 s y v)) (by rw [lbf hi,he]);simpa using this
def a4D (s:j2) (g:List (Int × Rat)) (Y:List Rat):Bool:=a5q s Y && j9 (-1) s.n g && (List.range s.n.toNat).all fun v=>decide (V7 s (yN Y) v<=A7 g v)
def aw5 (s:j2) (g:List (Int × Rat)) (Y:List Rat):S:=if a4D s g Y=true then .tup [frS (fz (a4b s (yN Y))),j8 true] else .tup [frS M4,j8 false]
def b9r (s:j2) (hb:aI2 s) (hr:n7 s=true) (g:List (Int × Rat)) (hg:g.length<=1000000) (hgb:∀t ∈ g,rl t.2<=200) (Y:List Rat) (hy:∀v ∈ Y,rl v<=40000) (hyl:Y.length<=1000000) (hq:Y.length=s.rows.length->b8n s Y):
 ec 90 [S9 s,m8 g,p5 (Y.map fz)] [] (aw5 s g Y) []:=by
 have hnn:0<=s.n∧s.n<=1500:=by
  unfold n7 at hr;simp only [lbO,lbJ] at hr;exact ⟨hr.1.1.1,hr.1.1.2⟩
 have sn:=b6i s hb hr Y hyl (fun v hv=>by have:=hy v hv;omega);have rt:=T2 g s.n hg hgb;rw [lbI hnn.1,H9] at rt;cases hs:a5q s Y with
 |false=>
  have e:aw5 s g Y=.tup [frS M4,j8 false]:=by unfold aw5 a4D;rw [hs];rfl
  rw [e];rw [hs] at sn
  (refine ac Tryz.func90 ?_;(conv=>whnf);repeat ((first|refine b0x ?_|refine zy ?_);conv=>whnf))
  repeat' (first|refine zx ?_|apply zD<;>intro h<;>try omega)<;>conv=>whnf
  all_goals first
   |(exfalso;simp_all;done)
   |exact n9 rz
 |true=>
 rw [hs] at sn;cases ht:j9 (-1) s.n g with
 |false=>
  have e:aw5 s g Y=.tup [frS M4,j8 false]:=by unfold aw5 a4D;rw [hs,ht];rfl
  rw [e];rw [ht] at rt
  (refine ac Tryz.func90 ?_;(conv=>whnf);repeat ((first|refine b0x ?_|refine zy ?_);conv=>whnf))
  repeat' (first|refine zx ?_|apply zD<;>intro h<;>try omega)<;>conv=>whnf
  all_goals first
   |(exfalso;simp_all;done)
   |exact n9 rz
 |true=>
 rw [ht] at rt;have hl:Y.length=s.rows.length:=by
  unfold a5q at hs;simp only [lbO,lbJ] at hs;exact hs.1
 have hq:=hq hl;have eb:a4D s g Y=(List.range s.n.toNat).all fun v=>decide (V7 s (yN Y) v<=A7 g v):=by unfold a4D;rw [hs,ht];simp
 have mx:=bE0 s hb hr Y hq;have ml:=aS1 s (yN Y) s.n.toNat;have mr:=am3 s (yN Y) s.n.toNat
 (refine ac Tryz.func90 ?_;(conv=>whnf);repeat ((first|refine b0x ?_|refine zy ?_);conv=>whnf))
 repeat' (first|refine zx ?_|refine bl0 [5] ?_|apply zD<;>intro h<;>try omega)<;>conv=>whnf
 all_goals try (exfalso;simp_all;done)
 refine i7 d9 (fun v=>([J,m8 g,J,S.c (C.t (T.ptr [ti s.n,J7 s.rows])),J,J,sP 0 0 0,J,m8 (Z7 s (yN Y) s.n.toNat),sP 1 0 0,eI v]++Jn 34,[frB M4,frB (fz (a4b s (yN Y)))])) s.n.toNat (fun k=>(List.range k).all (fun v=>decide (V7 s (yN Y) v<=A7 g v))=true) [some 0,some 1] rfl
  ⟨rfl,rfl,⟨⟨rfl,rfl,rfl,.inr rz⟩,⟨rfl,rfl,rfl,.inl ⟨rfl,Q0 _⟩⟩,trivial⟩,rz⟩ ?_
 intro v hv hI;by_cases hlt:v<s.n.toNat
 ·have c1:=b1k (Z7 s (yN Y) s.n.toNat) v mr om om;rw [b7W hlt] at c1;have c2:=b1k g v ht hg om;have b1:=hq.n v s.rows.length;have b2:=b3c hgb v;have b1:rl (V7 s (yN Y) v)<=50000:=b1;have cm:=aE6 (V7 s (yN Y) v) (A7 g v) om om;have k2:=b03 (x:=V7 s (yN Y) v) (y:=A7 g v);generalize a5d (V7 s (yN Y) v) (A7 g v)=U at cm k2;by_cases hok:U > 0
  ·have hF:decide (V7 s (yN Y) v<=A7 g v)=false:=lbK (Rat.not_le.2 (k2.1 hok));have e:aw5 s g Y=.tup [frS M4,j8 false]:=by
    unfold aw5;rw [eb,a8b (n:=s.n.toNat) hlt hF];rfl
   rw [e];clear k2;conv=>whnf
   repeat' (first|refine zx ?_|apply zD<;>intro h<;>try omega)<;>conv=>whnf
   all_goals first|omega|exact n9 rz
  ·have hT:decide (V7 s (yN Y) v<=A7 g v)=true:=lbI (lb5.1 (fun h=>hok (k2.2 h)));clear k2;conv=>whnf
   repeat' (first|refine zx ?_|apply zD<;>intro h<;>try omega)<;>conv=>whnf
   all_goals first|omega|exact ⟨hlt,by rw [a5V,hI,hT];rfl,[some 0,some 1],rfl,rfl,⟨⟨rfl,rfl,rfl,.inr rz⟩,⟨rfl,rfl,rfl,.inl ⟨rfl,Q0 _⟩⟩,trivial⟩,rz⟩
 ·have hke:v=s.n.toNat:=by omega
  subst hke;have e:aw5 s g Y=.tup [frS (fz (a4b s (yN Y))),j8 true]:=by
   unfold aw5;rw [eb,hI];rfl
  rw [e];conv=>whnf
  repeat' (first|refine zx ?_|apply zD<;>intro h<;>try omega)<;>conv=>whnf
  all_goals first|omega|exact n9 rz
def aE9 {t:Int × Rat} {r:List (Int × Rat)} (h:∀u ∈ r,u.1.toNat≠t.1.toNat) (v:Nat):∀k,k<=r.length->L0 (t::r) (k+1) v=if v=t.1.toNat then t.2 else L0 r k v
 |0,_=>by
  rw [I1 (l:=t::r) (k:=0) (t:=t) rfl];simp only;by_cases h1:v=t.1.toNat
  ·rw [if_pos h1,if_pos h1]
  ·rw [if_neg h1,if_neg h1]
   rfl
 |k+1,hk=>by
  have hx:r[k]? =some r[k]:=lbf om;have hne:=h _ (lbm hx);rw [I1 (l:=t::r) (k:=k+1) (t:=r[k]) zq,I1 hx];have ih:=aE9 h v k om;simp only;rw [ih];by_cases h1:v=t.1.toNat
  ·rw [if_pos h1,if_pos h1,if_neg om]
  ·rw [if_neg h1,if_neg h1]
def Y0 {last n:Int} {t:Int × Rat} {r:List (Int × Rat)} (h0:-1<=last) (h:j9 last n (t::r)=true) (v:Nat):A7 (t::r) v=if v=t.1.toNat then t.2 else A7 r v:=by
 refine aE9 (fun u hu=>?_) v r.length (lbS _);obtain ⟨j,hj,he⟩:=X4 hu;have h1:=a5f h 0 (j+1) t u om rfl (by simp [he,hj]);have h2:=E7 h t (a2T ..);omega
def a1f {last n:Int} {t:Int × Rat} {r:List (Int × Rat)} (h:j9 last n (t::r)=true):j9 t.1 n r=true:=by
 unfold j9 at h;simp only [lbO] at h;exact h.2
def aW5 {last last' n:Int} (hl:last'<=last) {l:List (Int × Rat)} (h:j9 last n l=true):j9 last' n l=true:=by
 cases l with
 |nil=>rfl
 |cons t r=>
  unfold j9 at h ⊢;simp only [lbO,lbJ] at h ⊢;exact ⟨⟨⟨om,h.1.1.2⟩,h.1.2⟩,h.2⟩
def al1 {last n:Int} {l:List (Int × Rat)} (h0:-1<=last) (h:j9 last n l=true) {v:Nat} (hv:(v:Int)<=last):A7 l v=0:=by
 refine a46 _ fun i t hi ht e=>?_
 have:=E7 h t (lbm ht);omega
def b0V (u:Int × Rat) (q:List (Int × Rat)):T.sl 5 (a1d SK.any none none) (List.drop (Int.toNat 1) (List.take (((((u::q).map k6).length:Nat):Int)).toNat ((u::q).map k6)))=.sl 5 .any (q.map k6):=by
 rw [lbn om];rfl
def b8d (x:Rat):sgR x<0↔x<((0:Int):Rat):=by unfold sgR;split<;>(try split)<;>simp_all
def b6w {x y:Rat} {ρ:List (Option Nat)} {H:Hp} (h:x=y):a68 ρ H (frS (fz x)) (frS (fz y)):=by subst h;exact rz
def ad4 (n lo hi:Int):ec 272 [eI n,eI lo,eI hi] [] (j8 (btw n lo hi)) []:=by
 refine ac Tryz.func272 ?_;conv=>whnf
 repeat' (first|refine zx ?_|apply zD<;>intro<;>try omega)<;>conv=>whnf
 all_goals (refine g9 ?_;simp only [btw];simp;omega)
def b0p (c:M9):ec 317 [aV5 c] [] (j8 (R6 c)) []:=by
 have w1:=ad4 c.scale 0 29;have w2:=ad4 c.grams 0 1099511627776;have w3:=ad4 c.permille 0 1000;have w4:=ad4 c.drift 0 10000000;rw [aB9] at w1;unfold R6;cases h1:idx c.scale 30<;>cases h2:btw c.grams 0 1099511627776<;>cases h3:btw c.permille 0 1000<;>cases h4:btw c.drift 0 10000000<;>rw [h1] at w1<;>rw [h2] at w2<;>rw [h3] at w3<;>rw [h4] at w4<;>
 ·refine ac Tryz.func317 ?_;conv=>whnf
  repeat' (first|refine zx ?_|apply zD<;>intro<;>try omega)<;>conv=>whnf
  all_goals (refine g9 ?_;simp;try omega)
def a64 (o:Option Nat):Int:=match o with
 |none=>-1
 |some b=>b
def bd2 (cs:List M9) (scale day:Int) (hl:cs.length<=1000000):
 ec 270 [.c (.t (a0O cs)),eI scale,eI day] [] (.tup [eI (a9x (D8 cs scale day cs.length)),j8 (D8 cs scale day cs.length).isSome]) []:=by
 have l1:(cs.map M9.row).length=cs.length:=zq;refine ac Tryz.func270 ?_;conv=>whnf
 repeat' (first|refine zx ?_|apply zD<;>intro h<;>try omega)<;>conv=>whnf
 refine i7 d9 (fun k=>([S.c (C.t (a0O cs)),eI scale,eI day,J,J,J,J,J,eI (a64 (D8 cs scale day k)),eI k]++Jn 47,[])) cs.length tT [] trivial
  rz ?_
 intro k hk _;by_cases hlt:k<cs.length
 ·obtain ⟨c,hc⟩:∃c,cs[k]? =some c:=⟨_,lbf hlt⟩;have cr:=b0p c;have ci:=ad4 day c.since c.till;have hst:D8 cs scale day (k+1)=if decide (c.scale=scale) && L8 c day && a5j cs (D8 cs scale day k) c then some k else D8 cs scale day k:=by
   conv=>lhs;unfold D8
   rw [hc]
  have nxt:∀z:Int,a64 (D8 cs scale day (k+1))=z->z=a64 (D8 cs scale day (k+1)):=fun z h=>h.symm
  cases hr:R6 c with
  |false=>
   have hcv:L8 c day=false:=by unfold L8;rw [hr];rfl
   rw [hcv] at hst;simp only [Bool.and_false,a1Z,a8t,if_false] at hst;rw [hr] at cr;rw [← hst];conv=>whnf
   repeat' (first|refine zx ?_|refine f7 hc ?_|apply zD<;>intro h<;>try omega)<;>conv=>whnf
   all_goals first
    |omega
    |(exfalso;simp_all;done)
    |exact ⟨hlt,trivial,[],rz⟩
  |true=>
  rw [hr] at cr;cases hb:btw day c.since c.till with
  |false=>
   have hcv:L8 c day=false:=by unfold L8;rw [hr,hb];rfl
   rw [hcv] at hst;simp only [Bool.and_false,a1Z,a8t,if_false] at hst;rw [hb] at ci;rw [← hst];conv=>whnf
   repeat' (first|refine zx ?_|refine f7 hc ?_|apply zD<;>intro h<;>try omega)<;>conv=>whnf
   all_goals first
    |omega
    |(exfalso;simp_all;done)
    |exact ⟨hlt,trivial,[],rz⟩
  |true=>
   have hcv:L8 c day=true:=by unfold L8;rw [hr,hb];rfl
   rw [hcv] at hst;rw [hb] at ci;cases hf:D8 cs scale day k with
   |none=>
    rw [hf] at hst;have e0:a64 none=-1:=rfl;rw [e0];by_cases hsc:c.scale=scale
    ·have hst2:(k:Int)=a64 (D8 cs scale day (k+1)):=by rw [hst,if_pos (by simp [hsc,a5j])];rfl
     clear hst hcv hr hb nxt;conv=>whnf
     repeat' (first|refine zx ?_|refine f7 hc ?_|apply zD<;>intro h<;>try omega)<;>conv=>whnf
     all_goals first|omega|exact ⟨hlt,trivial,[],rfl,rfl,trivial,⟨rfl,rfl,rfl,d7 hst2,rz⟩⟩
    ·have hst2:(-1:Int)=a64 (D8 cs scale day (k+1)):=by rw [hst,if_neg (by simp [hsc])];rfl
     clear hst hcv hr hb nxt;conv=>whnf
     repeat' (first|refine zx ?_|refine f7 hc ?_|apply zD<;>intro h<;>try omega)<;>conv=>whnf
     all_goals first
      |omega
      |exact ⟨hlt,trivial,[],rfl,rfl,trivial,⟨rfl,rfl,rfl,d7 hst2,rz⟩⟩
   |some b=>
    rw [hf] at hst;obtain ⟨hb',cb,hcb,_⟩:=O0 hf;have hsb:=b0S hcb;have e0:a64 (some b)=(b:Int):=rfl;have em:(if (0:Int) > (b:Int) then 0 else (b:Int))=(b:Int):=if_neg om;rw [e0];by_cases hsc:c.scale=scale∧cb.since<=c.since
    ·have hst2:(k:Int)=a64 (D8 cs scale day (k+1)):=by rw [hst,if_pos (by simp [hsc.1,a5j,hsb,hsc.2])];rfl
     clear hst hcv hr hb nxt;conv=>whnf
     repeat' (first|refine zx ?_|refine f7 hc ?_|refine D9 em hcb ?_|apply zD<;>intro h<;>try omega)<;>conv=>whnf
     all_goals first|omega|exact ⟨hlt,trivial,[],rfl,rfl,trivial,⟨rfl,rfl,rfl,d7 hst2,rz⟩⟩
    ·have hst2:(b:Int)=a64 (D8 cs scale day (k+1)):=by
      rw [hst,if_neg (by simp only [lbO,lbJ,a5j,hsb];intro h;exact hsc ⟨h.1.1,h.2⟩)];rfl
     clear hst hcv hr hb nxt;conv=>whnf
     repeat' (first|refine zx ?_|refine f7 hc ?_|refine D9 em hcb ?_|apply zD<;>intro h<;>try omega)<;>conv=>whnf
     all_goals first|omega|exact ⟨hlt,trivial,[],rfl,rfl,trivial,⟨rfl,rfl,rfl,d7 hst2,rz⟩⟩
 ·have hke:k=cs.length:=by omega
  subst hke;cases hf:D8 cs scale day cs.length with
  |none=>
   have e0:a64 none=-1:=rfl;rw [e0];conv=>whnf
   repeat' (first|refine zx ?_|apply zD<;>intro h<;>try omega)<;>conv=>whnf
   all_goals first
    |omega
    |exact n9 rz
  |some b=>
   have e0:a64 (some b)=(b:Int):=rfl;have em:(if (0:Int) > (b:Int) then 0 else (b:Int))=(b:Int):=if_neg om;rw [e0];conv=>whnf
   repeat' (first|refine zx ?_|apply zD<;>intro h<;>try omega)<;>conv=>whnf
   all_goals first|omega|exact n9 ⟨d7 em,rz⟩
def b0n (rs:List F6) (hl:rs.length<=1000000) (scale day:Int):ec 271 [.c (.t (L7 rs)),eI scale,eI day] [] (j8 (a2n rs scale day)) []:=by
 have l1:(rs.map F6.row).length=rs.length:=zq;refine ac Tryz.func271 ?_;conv=>whnf
 repeat' (first|refine zx ?_|apply zD<;>intro<;>try omega)<;>conv=>whnf
 refine i7 d9 (fun k=>([S.c (C.t (L7 rs)),eI scale,eI day,J,J,J,J,eI k]++Jn 22,[])) rs.length (fun k=>(rs.take k).any (fun r=>decide (r.scale=scale) && decide (r.since<=day))=false) [] rfl
  rz ?_
 intro k hk hI;by_cases hlt:k<rs.length
 ·obtain ⟨r,hr⟩:∃r,rs[k]? =some r:=⟨_,lbf hlt⟩;conv=>whnf
  repeat' (first|refine zx ?_|refine f7 hr ?_|apply zD<;>intro<;>try omega)<;>conv=>whnf
  all_goals first|omega|(refine ⟨hlt,?_,[],rz⟩;rw [a1t hr,hI];simp [*];done)|(refine ⟨hlt,?_,[],rz⟩;rw [a1t hr,hI];simp;omega)|(refine g9 ?_;unfold a2n;rw [a4L hr];simp [*];done)|(refine g9 ?_;unfold a2n;rw [a4L hr];simp;omega)
 ·rw [lbn om] at hI;conv=>whnf
  repeat' (first|refine zx ?_|apply zD<;>intro<;>try omega)<;>conv=>whnf
  all_goals first|omega|exact g9 hI.symm
def b6b (c:M9) (reading day:Int) (h:L8 c day=true) (hr:btw reading 0 1099511627776=true):ec 273 [aV5 c,eI reading,eI day] []
 (.tup [frS (fz (a3H c reading day)),j8 true]) []:=by
 have cr:=b0p c;have ci:=ad4 day c.since c.till;have wi:=ad4 reading 0 1099511627776;have hcr:R6 c=true:=by unfold L8 at h;simp only [lbO] at h;exact h.1
 have hci:btw day c.since c.till=true:=by unfold L8 at h;simp only [lbO] at h;exact h.2
 rw [hcr] at cr;rw [hci] at ci;rw [hr] at wi;have hc:=a4q h;obtain ⟨p0,p1,d0,d1⟩:=b8o.of h hr;rw [a09] at hr;have fo:=bs2 (c.permille*reading) 1000 de om om de;have fi:=a5s (c.grams+c.drift*(day - c.since)) om om;have h2:rl (Rat.divInt (c.permille*reading) 1000)<=4:=lbT (N1 de) (by have:=S2 (x:=c.permille*reading) om om;have:=S2 (x:=1000) de de;omega);have h3:rl ((c.grams+c.drift*(day - c.since):Int):Rat)<=4:=by rw [a18];have:=S2 (x:=c.grams+c.drift*(day - c.since)) om om;omega
 have ad:=al7 ((c.grams+c.drift*(day - c.since):Int):Rat) (Rat.divInt (c.permille*reading) 1000) om om;refine ac Tryz.func273 ?_;conv=>whnf
 repeat' (first|refine zx ?_|refine bl0 [7] ?_|refine bl0 [15] ?_|apply zD<;>intro h<;>try omega)<;>conv=>whnf
 all_goals first|(exfalso;simp_all;done)|exact b73 (by rw [Rat.add_comm];rfl) rfl
def b0h (cs:List M9) (rs:List F6) (hl:cs.length<=1000000) (hl2:rs.length<=1000000) (scale reading day:Int):
 ec 210 [.c (.t (a0O cs)),.c (.t (L7 rs)),eI scale,eI reading,eI day] [] (.tup (ivL (L9 cs rs scale reading day))) []:=by
 have f:=bd2 cs scale day hl;have r:=b0n rs hl2 scale day;have wi:=ad4 reading 0 1099511627776;unfold L9;cases hf:D8 cs scale day cs.length with
 |none=>
  rw [hf] at f;refine ac Tryz.func210 ?_;conv=>whnf
  repeat' (first|refine zx ?_|refine bl0 [1] ?_|apply zD<;>intro h<;>try omega)<;>conv=>whnf
  all_goals first
   |(exfalso;simp_all;done)
   |exact n9 rz
 |some i=>
  rw [hf] at f;obtain ⟨hb,c,hc,_,hcv⟩:=O0 hf;have e:a1V cs i=c:=by unfold a1V;rw [hc];rfl
  simp only [e];cases hrec:a2n rs scale day with
  |true=>
   rw [hrec] at r;refine ac Tryz.func210 ?_;conv=>whnf
   repeat' (first|refine zx ?_|refine bl0 [1] ?_|apply zD<;>intro h<;>try omega)<;>conv=>whnf
   all_goals first
    |(exfalso;simp_all;done)
    |exact n9 rz
  |false=>
   rw [hrec] at r;cases hr:btw reading 0 1099511627776 with
   |false=>
    rw [hr] at wi;refine ac Tryz.func210 ?_;conv=>whnf
    repeat' (first|refine zx ?_|refine bl0 [1] ?_|apply zD<;>intro h<;>try omega)<;>conv=>whnf
    all_goals first
     |exact n9 rz
     |(exfalso;simp_all;done)
   |true=>
    have er:=b6b c reading day hcv hr;have l1:=b1t hcv hr;rw [hr] at wi;rw [a09] at hr;have l2:rl (reading:Rat)<=4:=by rw [a18];have:=S2 (x:=reading) om om;omega
    have fi:=a5s reading om om;have f0:=a5s 0 om om;have sb:=bk9 (reading:Rat) (a3H c reading day) om om;have ad:=al7 (reading:Rat) (a3H c reading day) om om;have l4:=aM9 (reading:Rat) (a3H c reading day);have sg:=a6j ((reading:Rat) - a3H c reading day) om;have hs:=b8d ((reading:Rat) - a3H c reading day);refine ac Tryz.func210 ?_;conv=>whnf
    repeat' (first|refine zx ?_|refine f7 hc ?_|refine bl0 [1] ?_|refine bl0 [9] ?_|refine bl0 [6] ?_|apply zD<;>intro h<;>try omega)<;>conv=>whnf
    ·have hn:(reading:Rat) - a3H c reading day<((0:Int):Rat):=hs.1 om;refine n9 ⟨b6w ?_,rz⟩;unfold aH3;rw [if_pos hn]
    ·have hn:¬(reading:Rat) - a3H c reading day<((0:Int):Rat):=fun h=>absurd (hs.2 h) om
     refine n9 ⟨b6w ?_,rz⟩;unfold aH3;rw [if_neg hn]
    all_goals (have hq:(some i).isSome=false:=(by assumption);cases hq)
def a8Z (n lo hi:Int):ec 149 [eI n,eI lo,eI hi] [] (j8 (btw n lo hi)) []:=by
 refine ac Tryz.func149 ?_;conv=>whnf
 repeat' (first|refine zx ?_|apply zD<;>intro<;>try omega)<;>conv=>whnf
 all_goals (refine g9 ?_;simp only [btw];simp;omega)
def a3v (n m:Int):ec 149 [eI n,eI 0,eI (m - 1)] [] (j8 (idx n m)) []:=by
 rw [← b3l];exact a8Z n 0 (m - 1)
def bb7 (e:Ev) (hs:e.Sized):ec 225 [evS e] [] (j8 (a35 e)) []:=by
 have l1:(e.places.map K8.row).length=e.places.length:=zq;have l2:(e.moves.map A8.row).length=e.moves.length:=zq;have l3:(e.certs.map M9.row).length=e.certs.length:=zq;have l4:(e.recalls.map F6.row).length=e.recalls.length:=zq;have l5:(e.purities.map a21.row).length=e.purities.length:=zq;refine ac Tryz.func225 ?_;conv=>whnf
 repeat' (first|refine zx ?_|apply zD<;>intro<;>try omega)<;>conv=>whnf
 all_goals (refine g9 ?_;unfold a35;simp;omega)
def b5J (e:Ev) (p:K8) (h1:1<=e.mats) (h2:e.mats<=6) (h3:0<=e.hhs) (h4:e.hhs<=100):ec 226 [evS e,.agg (p.row.map .t)] [] (j8 (a08 e p)) []:=by
 have i3:=a3v p.kind 7;refine ac Tryz.func226 ?_;conv=>whnf
 repeat' (first|refine zx ?_|refine qp (a3v p.hh e.hhs) ?_|refine qp (a3v p.mat e.mats) ?_|apply zD<;>intro<;>try omega)<;>conv=>whnf
 all_goals first|omega|(refine g9 ?_;simp_all [a08]<;>decide)
def a3q (e:Ev) (k:Nat) (x:A8):Int:=if x.day<0∨100000<x.day∨(0<k∧x.day<a3N e k) then 17 else if L2 e x then 0 else 1
def bf4 (e:Ev) (k:Nat) (x:A8) (hx:e.moves[k]? =some x) (hf:a35 e=false) (h1:1<=e.mats) (h3:0<=e.hhs) (h5:0<=e.scs):ec 227 [evS e,eI k] [] (eI (a3q e k x)) []:=by
 have l1:(e.places.map K8.row).length=e.places.length:=zq;have l2:(e.moves.map A8.row).length=e.moves.length:=zq;have hk:k<e.moves.length:=(lbe.1 hx).1;unfold a35 at hf;simp only [a1h,lbL] at hf;obtain ⟨y,hy⟩:∃y,e.moves[k - 1]? =some y:=⟨_,lbf om⟩;have hl:0<k->a3N e k=y.day:=fun h=>by
  obtain ⟨j,rfl⟩:∃j,k=j+1:=⟨k - 1,om⟩;exact a2s hy
 have d:=a8Z x.day 0 100000;have is:=a3v x.src (e.places.map K8.row).length;have id:=a3v x.dst (e.places.map K8.row).length;have ic:=a3v x.scale e.scs;have ir:=a8Z x.reading 0 1099511627776;have hdd:(x.day<0∨100000<x.day∨(0<k∧x.day<a3N e k))↔(x.day<0∨100000<x.day∨(0<k∧x.day<y.day)):=by
  rcases a5l k with h|h
  ·simp [h]
  ·rw [hl h]
 clear hl;have em:(if (0:Int) > (k:Int) - 1 then 0 else (k:Int) - 1)=((k - 1:Nat):Int):=by split<;>omega
 by_cases hd:x.day<0∨100000<x.day∨(0<k∧x.day<y.day)
 ·have e1:a3q e k x=17:=by unfold a3q;rw [if_pos (hdd.2 hd)]
  clear hdd;rw [e1];have hb:=a09 (a:=x.day) (b:=0) (c:=100000);refine ac Tryz.func227 ?_;conv=>whnf
  repeat' (first|refine zx ?_|refine f7 hx ?_|refine D9 em hy ?_|apply zD<;>intro h<;>try omega)<;>conv=>whnf
  all_goals first|exact o4 rfl|(exfalso;have:=hb.1 (by assumption);omega)|omega
 have e1:a3q e k x=if L2 e x then 0 else 1:=by unfold a3q;rw [if_neg (fun h=>hd (hdd.1 h))]
 clear hdd;rw [e1];have hd':btw x.day 0 100000=true:=by rw [a09];omega
 rw [hd'] at d;cases h1:idx x.src e.places.length with
 |false=>
  rw [← l1] at h1;rw [h1] at is;rw [l1] at h1;refine ac Tryz.func227 ?_;conv=>whnf
  repeat' (first|refine zx ?_|refine f7 hx ?_|refine D9 em hy ?_|apply zD<;>intro h<;>try omega)<;>conv=>whnf
  all_goals first
   |(refine o4 ?_;simp [L2,h1];done)
   |(exfalso;simp_all;done)
   |omega
 |true=>
  obtain ⟨hs0,p,hp,kp⟩:=a6T h1;rw [← l1] at h1;rw [h1] at is;rw [l1] at h1;cases h2:idx x.dst e.places.length with
  |false=>
   rw [← l1] at h2;rw [h2] at id;rw [l1] at h2;refine ac Tryz.func227 ?_;conv=>whnf
   repeat' (first|refine zx ?_|refine f7 hx ?_|refine D9 em hy ?_|apply zD<;>intro h<;>try omega)<;>conv=>whnf
   all_goals first
    |(refine o4 ?_;simp [L2,h1,h2];done)
    |(exfalso;simp_all;done)
    |omega
  |true=>
   obtain ⟨hd0,q,hq,kq⟩:=a6T h2;rw [← l1] at h2;rw [h2] at id;rw [l1] at h2;refine ac Tryz.func227 ?_;conv=>whnf
   repeat' (first|refine zx ?_|refine qp ir ?_|refine f7 hx ?_|refine x5 hs0 hp ?_|refine x5 hd0 hq ?_|refine D9 em hy ?_|apply zD<;>intro h<;>try omega)<;>conv=>whnf
   all_goals first|(refine o4 ?_;simp_all [L2];done)|(exfalso;simp_all;done)|omega
theorem bb2 (e:Ev) (hs:e.Sized) (hf:a35 e=false) (h1:1<=e.mats) (h5:0<=e.scs):d6 Tryz.prog 228 [evS e] [] (j8 (a0k e)) []:=by
 have l2:(e.certs.map M9.row).length=e.certs.length:=by simp
 have l4:(e.recalls.map F6.row).length=e.recalls.length:=by simp
 have l6:(e.purities.map a21.row).length=e.purities.length:=by simp
 have l8:(e.moves.map A8.row).length=e.moves.length:=by simp
 unfold a35 at hf
 simp only [a1h,lbL] at hf
 (refine ac Tryz.func228 ?_;(conv=>whnf);repeat ((first|refine b0x ?_|refine zy ?_);conv=>whnf))
 repeat' (first|refine zx ?_|refine zd ?_ ?_<;>intro h<;>try omega|fail)<;>conv=>whnf
 refine i7 d9 (fun k=>([J,S.c (C.t (T.ptr (evT e))),J,c9 .i64 k]++Jn 124,[])) e.certs.length (fun k=>(e.certs.take k).all (a4y e)=true) [] rfl
  ⟨rfl,rfl,trivial,⟨rfl,rfl,trivial⟩⟩ ?_
 intro k hk hI
 by_cases hlt:k<e.certs.length
 ·obtain ⟨x,hx⟩:∃x,e.certs[k]? =some x:=⟨_,lbf hlt⟩
  conv=>whnf
  repeat' (first|refine zx ?_|refine qp (a3v x.scale e.scs) ?_|refine qp (a8Z x.till x.since 100000) ?_|refine qp (a8Z x.grams 0 1099511627776) ?_|refine qp (a8Z x.permille 0 1000) ?_|refine qp (a8Z x.drift 0 10000000) ?_|refine f7 hx ?_|refine zd ?_ ?_<;>intro h<;>try omega|fail)<;>conv=>whnf
  all_goals first
   |omega
   |(refine ⟨hlt,?_,[],rfl,rfl,trivial,⟨rfl,rfl,trivial⟩⟩;rw [y9 hx,hI];simp_all [a4y,btw];done)
   |(refine g9 ?_;rw [a0k,C5 hx];rfl;simp_all [a4y,btw];(try omega);done)
 ·have hc:e.certs.all (a4y e)=true:=by rw [← hI,lbn (by omega)]
  conv=>whnf
  repeat' (first|refine zx ?_|refine zd ?_ ?_<;>intro h<;>try omega|fail)<;>conv=>whnf
  all_goals try omega
  clear hI hlt hk
  refine i7 d9 (fun k=>([J,S.c (C.t (T.ptr (evT e))),J,J,J,c9 .i64 k]++Jn 122,[])) e.recalls.length (fun k=>(e.recalls.take k).all (a0S e)=true) [] rfl
   ⟨rfl,rfl,trivial,⟨rfl,rfl,trivial⟩⟩ ?_
  intro k hk hI
  by_cases hlt:k<e.recalls.length
  ·obtain ⟨x,hx⟩:∃x,e.recalls[k]? =some x:=⟨_,lbf hlt⟩
   conv=>whnf
   repeat' (first|refine zx ?_|refine qp (a3v x.scale e.scs) ?_|refine qp (a8Z x.since 0 100000) ?_|refine f7 hx ?_|refine zd ?_ ?_<;>intro h<;>try omega|fail)<;>conv=>whnf
   all_goals first
    |omega
    |(refine ⟨hlt,?_,[],rfl,rfl,trivial,⟨rfl,rfl,trivial⟩⟩;rw [y9 hx,hI];simp_all [a0S];done)
    |(refine g9 ?_;rw [a0k,hc,C5 hx];rfl;simp_all [a0S];done)
  ·have hr:e.recalls.all (a0S e)=true:=by rw [← hI,lbn (by omega)]
   conv=>whnf
   repeat' (first|refine zx ?_|refine zd ?_ ?_<;>intro h<;>try omega|fail)<;>conv=>whnf
   all_goals try omega
   clear hI hlt hk
   refine i7 d9 (fun k=>([J,S.c (C.t (T.ptr (evT e))),J,J,J,J,c9 .i64 k]++Jn 121,[])) e.purities.length (fun k=>(e.purities.take k).all (a0J e)=true) [] rfl
    ⟨rfl,rfl,trivial,⟨rfl,rfl,trivial⟩⟩ ?_
   intro k hk hI
   by_cases hlt:k<e.purities.length
   ·obtain ⟨x,hx⟩:∃x,e.purities[k]? =some x:=⟨_,lbf hlt⟩
    conv=>whnf
    repeat' (first|refine zx ?_|refine qp (a3v x.move (e.moves.map A8.row).length) ?_|refine qp (a3v x.mat e.mats) ?_|refine qp (a8Z x.most x.least 1000) ?_|refine f7 hx ?_|refine zd ?_ ?_<;>intro h<;>try omega|fail)<;>conv=>whnf
    all_goals first
     |omega
     |(refine ⟨hlt,?_,[],rfl,rfl,trivial,⟨rfl,rfl,trivial⟩⟩;rw [y9 hx,hI];simp_all [a0J,btw];done)
     |(refine g9 ?_;rw [a0k,hc,hr,C5 hx];rfl;simp_all [a0J,btw];(try omega);done)
   ·have hp:e.purities.all (a0J e)=true:=by rw [← hI,lbn (by omega)]
    conv=>whnf
    repeat' (first|refine zx ?_|refine zd ?_ ?_<;>intro h<;>try omega|fail)<;>conv=>whnf
    all_goals first
     |omega
     |(refine g9 ?_;rw [a0k,hc,hr,hp];rfl)
theorem b8C (e:Ev) (hs:e.Sized):d6 Tryz.prog 147 [evS e] [] (c9 .i64 (F3 e)) []:=by
 have l1:(e.places.map K8.row).length=e.places.length:=by simp
 have l8:(e.moves.map A8.row).length=e.moves.length:=by simp
 have fu:=bb7 e hs
 cases hf:a35 e with
 |true=>
  rw [hf] at fu
  (refine ac Tryz.func147 ?_;(conv=>whnf);repeat ((first|refine b0x ?_|refine zy ?_);conv=>whnf))
  repeat' (first|refine zx ?_|refine qp fu ?_|refine zd ?_ ?_<;>intro h<;>try omega|fail)<;>conv=>whnf
  all_goals first
   |(exfalso;simp_all;done)
   |(refine o4 ?_;unfold F3;rw [if_pos hf])
 |false=>
  rw [hf] at fu
  by_cases hb:e.mats<1∨e.hhs<0∨e.scs<0
  ·have e1:F3 e=1:=by
    unfold F3;rw [if_neg (by simp [hf]),if_pos (by rcases hb with h|h|h<;>simp [h])]
   rw [e1]
   (refine ac Tryz.func147 ?_;(conv=>whnf);repeat ((first|refine b0x ?_|refine zy ?_);conv=>whnf))
   repeat' (first|refine zx ?_|refine qp fu ?_|refine zd ?_ ?_<;>intro h<;>try omega|fail)<;>conv=>whnf
   all_goals first
    |(exfalso;simp_all;done)
    |omega
    |exact o4 rfl
  have hfb:=hf
  unfold a35 at hfb
  simp only [a1h,lbL] at hfb
  (refine ac Tryz.func147 ?_;(conv=>whnf);repeat ((first|refine b0x ?_|refine zy ?_);conv=>whnf))
  repeat' (first|refine zx ?_|refine qp fu ?_|refine zd ?_ ?_<;>intro h<;>try omega|fail)<;>conv=>whnf
  all_goals try omega
  refine i7 d9 (fun k=>([J,S.c (C.t (T.ptr (evT e))),J,c9 .i64 k]++Jn 48,[])) e.places.length (fun k=>(e.places.take k).all (a08 e)=true) [] rfl
   ⟨rfl,rfl,trivial,⟨rfl,rfl,trivial⟩⟩ ?_
  intro k hk hI
  by_cases hlt:k<e.places.length
  ·obtain ⟨x,hx⟩:∃x,e.places[k]? =some x:=⟨_,lbf hlt⟩
   have pl:=b5J e x (by omega) (by omega) (by omega) (by omega)
   conv=>whnf
   repeat' (first|refine zx ?_|refine qp pl ?_|refine f7 hx ?_|refine zd ?_ ?_<;>intro h<;>try omega|fail)<;>conv=>whnf
   all_goals first
    |omega
    |(refine ⟨hlt,?_,[],rfl,rfl,trivial,⟨rfl,rfl,trivial⟩⟩;rw [y9 hx,hI];simp_all;done)
    |(refine o4 ?_;unfold F3;rw [if_neg (by simp [hf]),if_pos (.inr (.inr (.inr (C5 hx (by assumption)))))])
  have hp:e.places.all (a08 e)=true:=by rw [← hI,lbn (by omega)]
  have hck:F3 e=if A9 e 0 e.moves≠0 then A9 e 0 e.moves else if a0k e then 0 else 1:=by
   unfold F3;rw [if_neg (by simp [hf]),if_neg (by rw [hp];simp;omega)]
  conv=>whnf
  repeat' (first|refine zx ?_|refine zd ?_ ?_<;>intro h<;>try omega|fail)<;>conv=>whnf
  all_goals try omega
  clear hI hlt hk
  refine i7 d9 (fun k=>([J,S.c (C.t (T.ptr (evT e))),J,J,c9 .i64 k]++Jn 47,[])) e.moves.length (fun k=>A9 e 0 e.moves=A9 e (a3N e k) (e.moves.drop k)∧0<=a3N e k) [] ⟨rfl,ab0 0⟩
   ⟨rfl,rfl,trivial,⟨rfl,rfl,trivial⟩⟩ ?_
  rintro k hk ⟨hI,hI2⟩
  by_cases hlt:k<e.moves.length
  ·obtain ⟨x,hx⟩:∃x,e.moves[k]? =some x:=⟨_,lbf hlt⟩
   have mv:=bf4 e k x hx hf (by omega) (by omega) (by omega)
   rw [a1y hx,A9] at hI
   have hm:A9 e 0 e.moves=if a3q e k x=0 then A9 e x.day (e.moves.drop (k+1)) else a3q e k x:=by
    rw [hI]
    unfold a3q
    have hk0:k=0->a3N e k=0:=fun h=>by subst h;rfl
    by_cases h1:x.day<a3N e k∨100000<x.day
    ·rw [if_pos h1,if_pos (c:=x.day<0∨100000<x.day∨(0<k∧x.day<a3N e k)) (by omega)];simp
    ·rw [if_neg h1,if_neg (c:=x.day<0∨100000<x.day∨(0<k∧x.day<a3N e k)) (by omega)]
     cases L2 e x<;>simp
   have hv:a3q e k x=0->0<=x.day:=fun h=>by unfold a3q at h;split at h<;>omega
   have hm0:a3q e k x=0->A9 e 0 e.moves=A9 e x.day (e.moves.drop (k+1)):=fun h=>by rw [hm,if_pos h]
   have hm1:a3q e k x≠0->A9 e 0 e.moves=a3q e k x:=fun h=>by rw [hm,if_neg h]
   clear hm hI
   conv=>whnf
   repeat' (first|refine zx ?_|refine qp mv ?_|refine zd ?_ ?_<;>intro h<;>try omega|fail)<;>conv=>whnf
   all_goals first
    |omega
    |(refine ⟨hlt,⟨?_,?_⟩,[],rfl,rfl,trivial,⟨rfl,rfl,trivial⟩⟩
      ·rw [a2s hx];exact hm0 (by omega)
      ·rw [a2s hx];exact hv (by omega))
    |(refine o4 ?_
      have hne:a3q e k x≠0:=by omega
      rw [hck,hm1 hne,if_pos hne])
  ·rw [List.drop_eq_nil_of_le (by omega),A9] at hI
   have sd:=bb2 e hs hf (by omega) (by omega)
   conv=>whnf
   repeat' (first|refine zx ?_|refine qp sd ?_|refine zd ?_ ?_<;>intro h<;>try omega|fail)<;>conv=>whnf
   all_goals first
    |omega
    |(refine o4 ?_;rw [hck,hI];simp_all;done)
def b0C (e:Ev) (hs:e.Sized) {k:Nat} {x:A8} (hx:e.moves[k]? =some x):ec 138 [evS e,eI k] [] (.tup (ivL (M5 e x))) []:=by
 have l1:=hs.s3;have l2:=hs.s4;have iv:=b0h e.certs e.recalls om om x.scale x.reading x.day;unfold M5;by_cases hsc:x.scale=-1
 ·rw [if_pos hsc];refine ac Tryz.func138 ?_;conv=>whnf
  repeat' (first|refine zx ?_|refine f7 hx ?_|refine bl0 [1] ?_|apply zD<;>intro<;>try omega)<;>conv=>whnf
  all_goals first|omega|exact n9 rz
 ·rw [if_neg hsc];cases hiv:L9 e.certs e.recalls x.scale x.reading x.day with
  |none=>
   rw [hiv] at iv;refine ac Tryz.func138 ?_;conv=>whnf
   repeat' (first|refine zx ?_|refine f7 hx ?_|apply zD<;>intro<;>try omega)<;>conv=>whnf
   all_goals first
    |omega
    |exact n9 rz
  |some p=>
   obtain ⟨lo,hi⟩:=p;rw [hiv] at iv;refine ac Tryz.func138 ?_;conv=>whnf
   repeat' (first|refine zx ?_|refine f7 hx ?_|apply zD<;>intro<;>try omega)<;>conv=>whnf
   all_goals first|omega|exact n9 rz
def b3U (e:Ev) (mv kind:Int):ec 148 [evS e,eI mv,eI kind] [] (eI (a25 e mv kind)) []:=by
 have l2:(e.moves.map A8.row).length=e.moves.length:=zq;refine ac Tryz.func148 ?_;conv=>whnf
 repeat' (first|refine zx ?_|apply zD<;>intro<;>try omega)<;>conv=>whnf
 all_goals (refine o4 ?_;unfold a25;(repeat' split)<;>first|rfl|omega)
theorem aX5 (t:j6) (hs:t.Sized):d6 Tryz.prog 79 [trS t] [] (c9 .i64 (y7 t)) []:=by
 have l1:=hs.f
 have l2:=hs.c
 have ck:=b8C t.ev hs.ev
 have m1:(t.finds.map P5.row).length=t.finds.length:=by simp
 have m2:(t.cleans.map Y8.row).length=t.cleans.length:=by simp
 by_cases h0:F3 t.ev≠0
 ·have e1:y7 t=F3 t.ev:=by unfold y7;rw [if_pos h0]
  rw [e1]
  (refine ac Tryz.func79 ?_;(conv=>whnf);repeat ((first|refine b0x ?_|refine zy ?_);conv=>whnf))
  repeat' (first|refine zx ?_|refine qp ck ?_|refine zd ?_ ?_<;>intro h<;>try omega|fail)<;>conv=>whnf
  all_goals first
   |omega
   |exact o4 rfl
 have h0:F3 t.ev=0:=by omega
 rw [h0] at ck
 by_cases h1:20<t.finds.length∨50<t.cleans.length
 ·have e1:y7 t=6:=by unfold y7;rw [if_neg (by omega),if_pos h1]
  rw [e1]
  (refine ac Tryz.func79 ?_;(conv=>whnf);repeat ((first|refine b0x ?_|refine zy ?_);conv=>whnf))
  repeat' (first|refine zx ?_|refine qp ck ?_|refine zd ?_ ?_<;>intro h<;>try omega|fail)<;>conv=>whnf
  all_goals first
   |omega
   |exact o4 rfl
 have e1:y7 t=if Q7 t.ev t.finds≠0 then Q7 t.ev t.finds else P8 t.ev t.cleans:=by unfold y7;rw [if_neg (by omega),if_neg h1]
 rw [e1]
 (refine ac Tryz.func79 ?_;(conv=>whnf);repeat ((first|refine b0x ?_|refine zy ?_);conv=>whnf))
 repeat' (first|refine zx ?_|refine qp ck ?_|refine zd ?_ ?_<;>intro h<;>try omega|fail)<;>conv=>whnf
 all_goals try omega
 refine i7 d9 (fun k=>([J,S.c (C.t (T.ptr (trT t))),J,J,c9 .i64 k]++Jn 73,[])) t.finds.length (fun k=>Q7 t.ev t.finds=Q7 t.ev (t.finds.drop k)) [] rfl
  ⟨rfl,rfl,trivial,⟨rfl,rfl,trivial⟩⟩ ?_
 intro k hk hI
 by_cases hlt:k<t.finds.length
 ·obtain ⟨f,hf⟩:∃f,t.finds[k]? =some f:=⟨_,lbf hlt⟩
  have mk:=b3U t.ev f.mv f.kind
  rw [a1y hf,Q7] at hI
  by_cases hm:a25 t.ev f.mv f.kind≠0
  ·rw [if_pos hm] at hI
   rw [hI,if_pos hm]
   conv=>whnf
   repeat' (first|refine zx ?_|refine qp mk ?_|refine f7 hf ?_|refine zd ?_ ?_<;>intro h<;>try omega|fail)<;>conv=>whnf
   all_goals first
    |omega
    |exact o4 rfl
  ·rw [if_neg hm] at hI
   by_cases hg:f.grams<1∨1099511627776<f.grams
   ·rw [if_pos hg] at hI
    rw [hI]
    conv=>whnf
    repeat' (first|refine zx ?_|refine qp mk ?_|refine f7 hf ?_|refine zd ?_ ?_<;>intro h<;>try omega|fail)<;>conv=>whnf
    all_goals first
     |omega
     |exact o4 rfl
   ·rw [if_neg hg] at hI
    conv=>whnf
    repeat' (first|refine zx ?_|refine qp mk ?_|refine f7 hf ?_|refine zd ?_ ?_<;>intro h<;>try omega|fail)<;>conv=>whnf
    all_goals first
     |omega
     |exact ⟨hlt,hI,[],rfl,rfl,trivial,⟨rfl,rfl,trivial⟩⟩
 ·rw [lbo (by omega)] at hI
  have hI:Q7 t.ev t.finds=0:=hI
  rw [hI,if_neg (by omega)]
  conv=>whnf
  repeat' (first|refine zx ?_|refine zd ?_ ?_<;>intro h<;>try omega|fail)<;>conv=>whnf
  all_goals try omega
  refine i7 d9 (fun k=>([J,S.c (C.t (T.ptr (trT t))),J,J,J,J,c9 .i64 k]++Jn 71,[])) t.cleans.length (fun k=>P8 t.ev t.cleans=P8 t.ev (t.cleans.drop k)) [] rfl
   ⟨rfl,rfl,trivial,⟨rfl,rfl,trivial⟩⟩ ?_
  intro j hj hJ
  by_cases hjt:j<t.cleans.length
  ·obtain ⟨c,hc⟩:∃c,t.cleans[j]? =some c:=⟨_,lbf hjt⟩
   have mk:=b3U t.ev c.mv c.kind
   rw [a1y hc,P8] at hJ
   by_cases hm:a25 t.ev c.mv c.kind≠0
   ·rw [if_pos hm] at hJ
    rw [hJ]
    conv=>whnf
    repeat' (first|refine zx ?_|refine qp mk ?_|refine f7 hc ?_|refine zd ?_ ?_<;>intro h<;>try omega|fail)<;>conv=>whnf
    all_goals first
     |omega
     |exact o4 rfl
   ·rw [if_neg hm] at hJ
    conv=>whnf
    repeat' (first|refine zx ?_|refine qp mk ?_|refine f7 hc ?_|refine zd ?_ ?_<;>intro h<;>try omega|fail)<;>conv=>whnf
    all_goals first
     |omega
     |exact ⟨hjt,hJ,[],rfl,rfl,trivial,⟨rfl,rfl,trivial⟩⟩
  ·rw [lbo (by omega)] at hJ
   have hJ:P8 t.ev t.cleans=0:=hJ
   rw [hJ]
   conv=>whnf
   repeat' (first|refine zx ?_|refine zd ?_ ?_<;>intro h<;>try omega|fail)<;>conv=>whnf
   all_goals first
    |omega
    |exact o4 rfl
def b6t (t:j6) (hs:t.Sized) (kind:Int):ec 136 [trS t,eI kind] [] (j8 (decide (y7 t=0∧0<=kind∧kind<8))) []:=by
 have ck:=aX5 t hs;refine ac Tryz.func136 ?_;conv=>whnf
 repeat' (first|refine zx ?_|apply zD<;>intro<;>try omega)<;>conv=>whnf
 all_goals (refine g9 ?_;simp;try omega)
def ag1 (v n:Int) (h1:-9223372036854775808<=n) (h2:n<=9223372036854775807):ec 209 [eI v,eI n] [] (.agg ((k6 (v,(n:Rat))).map .t)) []:=by
 have i1:=a5s n h1 h2;refine ac Tryz.func209 ?_;conv=>whnf
 repeat' (first|refine zx ?_|apply zD<;>intro<;>try omega)<;>conv=>whnf
 exact n9 rz
def b2f (i:Nat) (kind:Int) (v:Rat):ec 139 [eI i,eI kind,frS (fz v)] [] (aw9 (y5 i kind v)) []:=by
 have i1:=ag1 i 1 de de;refine ac Tryz.func139 ?_;conv=>whnf
 repeat' (first|refine zz ?_|refine qp i1 ?_|refine a4d.weak ?_|apply zD<;>intro<;>try omega|refine zy ?_|fail)<;>conv=>whnf
 exact n9 rz
abbrev bF5 (f:Fr):Blk:={ mode:=.live,elem:=86,size:=4,rows:=[frC f],box:=true }
def b14 (f:Fr):J9 [frC f]:=by simp [J9,frC,t5,C.isT]
theorem b8X (e:Ev) (h0:F3 e=0) {i:Nat} {x:A8} (hx:e.moves[i]? =some x):d6 Tryz.prog 137 [evS e,c9 .i64 i] [] (aw9 (x8 e i x)) []:=by
 obtain ⟨b1,b2,b3,b4⟩:=a0N h0
 have hi:i<e.moves.length:=(lbe.1 hx).1
 have m0:(e.moves.map A8.row).length=e.moves.length:=by simp
 have i0:=a5s 0 (by decide) (by decide)
 have im:=ag1 i (-1) (by decide) (by decide)
 have hil:=a1I (e:=e) (p:=x.src) i
 cases hal:x.all
 case' false=>have hK:(x8 e i x).kind=0:=by unfold x8;rw [hal];rfl
 case' true=>have hK:(x8 e i x).kind=2:=by unfold x8;rw [hal];rfl
 all_goals
  (refine ac Tryz.func137 ?_;(conv=>whnf);repeat ((first|refine b0x ?_|refine zy ?_);conv=>whnf))
  repeat' (first|refine zx ?_|refine qp i0 ?_|refine f7 hx ?_|refine zd ?_ ?_<;>intro h<;>try omega|fail)<;>conv=>whnf
  all_goals first
   |omega
   |(exfalso;simp_all;done)
   |skip
  refine i7 d9 (fun k=>([J,c9 .i64 i,S.c (C.t (T.ptr (evT e))),J,S.c (C.ptr 0 0 0),c9 .i64 x.src,S.c (C.ptr 1 0 0),c9 .i64 k]++Jn 58,[bl5,bj4 2 (k9 e x.src k).length (x8 e i x).kind,H4 (k9 e x.src k)])) i (fun _=>True) [some 0,some 1,none] trivial ?_ ?_
  ·refine ⟨rfl,rfl,⟨⟨rfl,rfl,rfl,.inr ⟨⟨rfl,rfl,rfl,rfl,rfl,rfl,trivial⟩,trivial⟩⟩,⟨rfl,rfl,rfl,.inr ⟨⟨⟨rfl,rfl,rfl⟩,?_,rfl,rfl,rfl,rfl,trivial⟩,trivial⟩⟩,⟨rfl,rfl⟩,trivial⟩,⟨rfl,rfl,⟨rfl,rfl,rfl⟩,rfl,⟨rfl,rfl,rfl⟩,rfl,trivial⟩⟩
   rw [hK];rfl
  intro k hk _
  have kl:=a1I (e:=e) (p:=x.src) k
  by_cases hlt:k<i
  ·obtain ⟨y,hy⟩:∃y,e.moves[k]? =some y:=⟨_,lbf (by omega)⟩
   have hmo:=O9 h0 (lbm hy)
   have hne:y.src≠y.dst:=by unfold L2 at hmo;simp only [lbO,lbJ] at hmo;exact hmo.1.1.1.1.1.2
   have t1:=ag1 k 1 (by decide) (by decide)
   have tm:=ag1 k (-1) (by decide) (by decide)
   have lA:(k9 e x.src k).length<=(H4 (k9 e x.src k)).rows.length:=by show _<=(toC _).length;simp [toC]
   have lC:((k9 e x.src k).length+1)*73<=140737488355328:=by omega
   by_cases c1:y.dst=x.src
   ·have et:k9 e x.src (k+1)=k9 e x.src k++[((k:Int),((1:Int):Rat))]:=by rw [X9 hy,if_pos c1]
    conv=>whnf
    repeat' (first|refine zx ?_|refine qp t1 ?_|refine qp tm ?_|refine f7 hy ?_|refine o6 lA lC ?_|refine zd ?_ ?_<;>intro h<;>try omega|fail)<;>conv=>whnf
    all_goals try omega
    refine ⟨hlt,trivial,[some 0,some 1,some 3],rfl,rfl,⟨⟨rfl,rfl,rfl,.inr ⟨⟨rfl,rfl,rfl,rfl,rfl,rfl,trivial⟩,trivial⟩⟩,⟨rfl,rfl,rfl,.inr ⟨⟨⟨rfl,rfl,?_,fun h=>h⟩,rfl,rfl,rfl,rfl,rfl,trivial⟩,trivial⟩⟩,d8 rfl rfl rfl ?_ rfl,trivial⟩,⟨rfl,rfl,⟨rfl,rfl,rfl⟩,rfl,⟨rfl,rfl,rfl⟩,rfl,trivial⟩⟩
    ·rw [et,lbq];rfl
    ·rw [et]
     show List.take (k9 e x.src k).length (toC ((k9 e x.src k).map k6))++toC [k6 ((k:Int),((1:Int):Rat))]=_
     exact a2m rfl
   ·by_cases c2:y.src=x.src
    ·have et:k9 e x.src (k+1)=k9 e x.src k++[((k:Int),((-1:Int):Rat))]:=by rw [X9 hy,if_neg c1,if_pos c2]
     conv=>whnf
     repeat' (first|refine zx ?_|refine qp t1 ?_|refine qp tm ?_|refine f7 hy ?_|refine o6 lA lC ?_|refine zd ?_ ?_<;>intro h<;>try omega|fail)<;>conv=>whnf
     all_goals try omega
     refine ⟨hlt,trivial,[some 0,some 1,some 3],rfl,rfl,⟨⟨rfl,rfl,rfl,.inr ⟨⟨rfl,rfl,rfl,rfl,rfl,rfl,trivial⟩,trivial⟩⟩,⟨rfl,rfl,rfl,.inr ⟨⟨⟨rfl,rfl,?_,fun h=>h⟩,rfl,rfl,rfl,rfl,rfl,trivial⟩,trivial⟩⟩,d8 rfl rfl rfl ?_ rfl,trivial⟩,⟨rfl,rfl,⟨rfl,rfl,rfl⟩,rfl,⟨rfl,rfl,rfl⟩,rfl,trivial⟩⟩
     ·rw [et,lbq];rfl
     ·rw [et]
      show List.take (k9 e x.src k).length (toC ((k9 e x.src k).map k6))++toC [k6 ((k:Int),((-1:Int):Rat))]=_
      exact a2m rfl
    ·have et:k9 e x.src (k+1)=k9 e x.src k:=by rw [X9 hy,if_neg c1,if_neg c2]
     conv=>whnf
     repeat' (first|refine zx ?_|refine f7 hy ?_|refine zd ?_ ?_<;>intro h<;>try omega|fail)<;>conv=>whnf
     all_goals try omega
     refine ⟨hlt,trivial,[some 0,some 1,some 2],rfl,rfl,⟨⟨rfl,rfl,rfl,.inr ⟨⟨rfl,rfl,rfl,rfl,rfl,rfl,trivial⟩,trivial⟩⟩,⟨rfl,rfl,rfl,.inr ⟨⟨⟨rfl,rfl,?_,fun h=>h⟩,rfl,rfl,rfl,rfl,rfl,trivial⟩,trivial⟩⟩,d8 rfl rfl rfl ?_ rfl,trivial⟩,⟨rfl,rfl,⟨rfl,rfl,rfl⟩,rfl,⟨rfl,rfl,rfl⟩,rfl,trivial⟩⟩
     ·rw [et]
     ·rw [et]
  ·have hke:k=i:=by omega
   subst hke
   have lA:(k9 e x.src k).length<=(H4 (k9 e x.src k)).rows.length:=by show _<=(toC _).length;simp [toC]
   have lC:((k9 e x.src k).length+1)*73<=140737488355328:=by omega
   conv=>whnf
   repeat' (first|refine zx ?_|refine qp im ?_|refine o6 lA lC ?_|refine zd ?_ ?_<;>intro h<;>try omega|fail)<;>conv=>whnf
   all_goals try omega
   refine n9 ⟨show VC _ (fun id=>G8 [] id=true) _ _ from s6 rfl rfl (by intro h;cases h) rfl (rows:=(k9 e x.src k++[((k:Int),((-1:Int):Rat))]).map k6) ?_ ?_,rfl,rfl,rfl,rfl,rfl,trivial⟩
   ·show List.take (k9 e x.src k).length (toC ((k9 e x.src k).map k6))++toC [k6 ((k:Int),((-1:Int):Rat))]=_
    exact a2m rfl
   ·rw [lbr,lbq];rfl
abbrev rEv (t:j6) (kind:Int) (k:Nat):Env:=[J,eI kind,S.c (C.t (T.ptr (trT t))),J,sP 0 0 0,J,sP 1 0 0,sP 2 0 0,eI k]++Jn 132
abbrev rHp (t:j6) (R:List z7):Hp:=[a8n,evB t.ev,a8K t.ev.moves.length 3 R.length,Z0 R]
def T5 {t:j6} {R:List z7} {N len:Nat} {H:Hp} {env env':Env} {rs:List (List C)} {kz:Blk} (hz:H[0]? =some kz) (hz2:a30 [some 0,some 1,some 2,some N] H kz a8n) (he:H[1]? =some (evB t.ev))
 (hs:H[2]? =some (a8K t.ev.moves.length N len)) (hr:H[N]? =some { mode:=.live,elem:=133,size:=6,rows:=rs,box:=false }) (hl:len=R.length) (hrs:rs=toC (R.map w5)) (hN:2<N)
 (hE:Z1 [some 0,some 1,some 2,some N] H env env'):Ent 0 [some 0,some 1,some 2,some N] env H env' (rHp t R):=by
 have b1:Nat.beq 0 N=false:=by cases h:Nat.beq 0 N with|false=>rfl|true=>exact absurd (a1a h) om
 refine ⟨rfl,a1c fun a b m h1 h2=>?_,⟨?_,?_,?_,?_,trivial⟩,hE⟩
 ·match a,b,h1,h2 with
  |0,0,_,_=>rfl
  |1,1,_,_=>rfl
  |2,2,_,_=>rfl
  |3,3,_,_=>rfl
  |0,1,h1,h2=>simp at h1 h2;omega
  |0,2,h1,h2=>simp at h1 h2;omega
  |0,3,h1,h2=>simp at h1 h2;omega
  |1,0,h1,h2=>simp at h1 h2;omega
  |1,2,h1,h2=>simp at h1 h2;omega
  |1,3,h1,h2=>simp at h1 h2;omega
  |2,0,h1,h2=>simp at h1 h2;omega
  |2,1,h1,h2=>simp at h1 h2;omega
  |2,3,h1,h2=>simp at h1 h2;omega
  |3,0,h1,h2=>simp at h1 h2;omega
  |3,1,h1,h2=>simp at h1 h2;omega
  |3,2,h1,h2=>simp at h1 h2;omega
  |n+4,_,h1,_=>simp at h1
  |0,n+4,_,h2=>simp at h2
  |1,n+4,_,h2=>simp at h2
  |2,n+4,_,h2=>simp at h2
  |3,n+4,_,h2=>simp at h2
 ·simp only [hz];exact hz2
 ·simp only [he];exact ⟨rfl,rfl,rfl,.inl ⟨rfl,y6 _⟩⟩
 ·simp only [hs];exact ⟨rfl,rfl,rfl,.inr ⟨⟨rfl,⟨rfl,rfl,hl,fun h=>h⟩,trivial⟩,trivial⟩⟩
 ·simp only [hr];exact d8 rfl rfl rfl hrs rfl
def a1g {ρ:List (Option Nat)} {H:Hp}:a30 ρ H a8n a8n:=⟨rfl,rfl,rfl,.inr rz⟩
def bc0 (o:Option (Rat × Rat)):∃lo:Fr,ivL o=[frS lo,frS (hiF o),j8 o.isSome]:=by
 cases o with
 |none=>exact ⟨M4,rfl⟩
 |some p=>exact ⟨fz p.1,rfl⟩
def b9K {i:Nat} {kind:Int} {f:Fr} {v:Rat} (h:f=fz v):ec 139 [eI i,eI kind,frS f] [] (aw9 (y5 i kind v)) []:=by subst h;exact b2f i kind v
def b1j (t:j6) (kind:Int) (hs:t.Sized) (h1:¬(y7 t≠0∨kind<0∨8<=kind)):ec 67 [trS t,eI kind] [] (.tup [.agg [.t (ti t.ev.moves.length),.own 0 0 (U8 t kind).rows.length true],eI 0]) [Z0 (U8 t kind).rows]:=by
 have rt:=b6t t hs kind;have m2:(t.ev.moves.map A8.row).length=t.ev.moves.length:=zq;have m4:(t.finds.map P5.row).length=t.finds.length:=zq;have m5:(t.cleans.map Y8.row).length=t.cleans.length:=zq;obtain ⟨k1,k2,k3⟩:y7 t=0∧0<=kind∧kind<8:=om;rw [lbI ⟨k1,k2,k3⟩] at rt;clear h1;obtain ⟨q1,q2,q3,q4,q5⟩:=v3 k1;obtain ⟨b1,b2,b3,b4⟩:=a0N q1
 (refine ac Tryz.func67 ?_;(conv=>whnf);repeat ((first|refine b0x ?_|refine zy ?_);conv=>whnf))
 repeat' (first|refine zx ?_|apply zD<;>intro h<;>try omega)<;>conv=>whnf
 all_goals try omega
 refine an0 (fun k=>(rEv t kind k,rHp t (t9 t kind k))) t.ev.moves.length tT [some 0,some 1,some 2,none] trivial ?_ ?_
 ·refine ⟨rfl,rfl,⟨⟨rfl,rfl,rfl,.inr rz⟩,⟨rfl,rfl,rfl,.inl ⟨rfl,y6 _⟩⟩,⟨rfl,rfl,rfl,.inr ⟨⟨?_,rz⟩,trivial⟩⟩,rz⟩,rz⟩;exact ah3 (by rw [m2])
 intro k hk _;refine y4 d9 ?_;conv=>whnf
 repeat' (first|refine zx ?_|apply zD<;>intro h<;>try omega)<;>conv=>whnf
 ·obtain ⟨x,hx⟩:∃x,t.ev.moves[k]? =some x:=⟨_,lbf om⟩;have hlt:k<t.ev.moves.length:=om;have hmo:=O9 q1 (lbm hx);have ms:=a2t hmo;obtain ⟨s,hsn⟩:∃s:Nat,x.src=s:=⟨x.src.toNat,om⟩;obtain ⟨pl,hpl⟩:∃pl,t.ev.places[s]? =some pl:=⟨_,lbf om⟩;have hkd:w9 t.ev x.src=pl.kind:=by rw [hsn];exact aG7 hpl
  have st:=b8X t.ev q1 hx;have iv:=b0C t.ev hs.ev hx;have rl0:=an2 (t:=t) (kind:=kind) (k:=k) om q2 q3;obtain ⟨lo,hlo⟩:=bc0 (M5 t.ev x);rw [hlo] at iv;have i0:=a5s 0 de de;have hcr:a0P (M5 t.ev x) k=if (M5 t.ev x).isSome then [y5 k 1 (hiR (M5 t.ev x))] else []:=by cases M5 t.ev x<;>rfl
  obtain ⟨R1,hR1⟩:∃R1:List z7,R1=t9 t kind k++(if pl.kind=0 then [] else [x8 t.ev k x]):=⟨_,rfl⟩;obtain ⟨R2,hR2⟩:∃R2:List z7,R2=R1++a0P (M5 t.ev x) k:=⟨_,rfl⟩;have l1:R1.length<=14401:=by rw [hR1];split<;>simp<;>omega
  have l2:R2.length<=14402:=by rw [hR2,hcr];split<;>simp<;>omega
  refine a8u (a7U ?_);refine x9 d9 (rEv t kind k) (rHp t R1) ?_ ?_
  ·have lA:(t9 t kind k).length<=(Z0 (t9 t kind k)).rows.length:=by show _<=(toC _).length;simp [toC]
   have lC:((t9 t kind k).length+1)*97<=140737488355328:=om;conv=>whnf
   repeat' (first|refine zx ?_|refine f7 hx ?_|refine D9 hsn hpl ?_|refine o6 lA lC ?_|apply zD<;>intro h<;>try omega)<;>conv=>whnf
   ·have eR:R1=t9 t kind k++[x8 t.ev k x]:=by rw [hR1,if_neg (by assumption)]
    refine ⟨[some 0,some 1,some 2,some 4],T5 rfl a1g rfl rfl rfl ?_ ?_ de rz⟩
    ·rw [eR];simp [toC]
    ·rw [eR];exact a2h rfl
   ·have eR:R1=t9 t kind k:=by rw [hR1,if_pos om,Y7]
    refine ⟨[some 0,some 1,some 2,some 3],T5 rfl a1g rfl rfl rfl ?_ ?_ de rz⟩
    ·rw [eR]
    ·rw [eR]
  have o1:=fun h=>b9K (i:=k) (kind:=1) (f:=hiF (M5 t.ev x)) (v:=hiR (M5 t.ev x)) h
  refine x9 d9 ([J,eI kind,S.c (C.t (T.ptr (trT t))),J,sP 0 0 0,J,sP 1 0 0,sP 2 0 0,eI k,J,sP 4 0 0,j8 (M5 t.ev x).isSome]++Jn 129) (rHp t R1++[bF5 (hiF (M5 t.ev x))]) ?_ ?_
  ·conv=>whnf
   repeat' (first|refine zx ?_|refine bl0 [6] ?_|apply zD<;>intro h<;>try omega)<;>conv=>whnf
   all_goals
    refine ⟨[some 0,some 1,some 2,some 3,some 5],rfl,rfl,⟨a1g,⟨rfl,rfl,rfl,.inl ⟨rfl,y6 _⟩⟩,⟨rfl,rfl,rfl,.inr ⟨⟨rfl,⟨rfl,rfl,rfl,fun h=>h⟩,trivial⟩,trivial⟩⟩,⟨rfl,rfl,rfl,.inl ⟨rfl,e7 _⟩⟩,⟨rfl,rfl,rfl,.inl ⟨rfl,b14 _⟩⟩,trivial⟩,⟨rfl,rfl,rz,rz,rz,rfl,rz,b3F h.symm,trivial⟩⟩
  refine x9 d9 (rEv t kind k) (rHp t R2) ?_ ?_
  ·have lA:R1.length<=(Z0 R1).rows.length:=by show _<=(toC _).length;simp [toC]
   have lC:(R1.length+1)*97<=140737488355328:=om;cases hc:(M5 t.ev x).isSome with
   |true=>
    have o1:=o1 (aU3 hc).1;have eR:R2=R1++[y5 k 1 (hiR (M5 t.ev x))]:=by rw [hR2,hcr,hc];rfl
    conv=>whnf
    repeat' (first|refine zx ?_|refine o6 lA lC ?_|apply zD<;>intro h<;>try omega)<;>conv=>whnf
    all_goals try (rw [hc] at h;exact absurd h de)
    refine ⟨[some 0,some 1,some 2,some 5],T5 rfl a1g rfl rfl rfl ?_ ?_ de rz⟩
    ·rw [eR];simp [toC]
    ·rw [eR];exact a2h rfl
   |false=>
    have eR:R2=R1:=by rw [hR2,hcr,hc];simp
    conv=>whnf
    repeat' (first|refine zx ?_|apply zD<;>intro h<;>try omega)<;>conv=>whnf
    all_goals try (rw [hc] at h;exact absurd h de)
    refine ⟨[some 0,some 1,some 2,some 3],T5 rfl a1g rfl rfl rfl ?_ ?_ de rz⟩
    ·rw [eR]
    ·rw [eR]
  obtain ⟨G,hG⟩:∃G:Nat->List z7,∀j,G j=R2++(t8 (t.finds.take j) kind k).map (fun g:Int=>y5 k 0 (g:Rat)):=⟨_,fun _=>rfl⟩;have lG:∀j,(G j).length<=14500:=fun j=>by
   have h1:(t8 (t.finds.take j) kind k).length<=20:=by
    unfold t8;rw [lbr];exact lbT (lbt _ _) (by rw [lbs];omega)
   rw [hG];simp;omega
  refine x9 d9 (rEv t kind k) (rHp t (G t.finds.length)) ?_ ?_
  ·conv=>whnf
   repeat' (first|refine zx ?_|apply zD<;>intro h<;>try omega)<;>conv=>whnf
   refine i7 d9 (fun j=>([J,eI kind,S.c (C.t (T.ptr (trT t))),J,sP 0 0 0,J,sP 1 0 0,sP 2 0 0,eI k,J,J,J,eI j]++Jn 128,rHp t (G j))) t.finds.length tT [some 0,some 1,some 2,some 3] trivial ?_ ?_
   ·refine T5 rfl a1g rfl rfl rfl ?_ ?_ de rz
    ·rw [hG];simp [t8]
    ·rw [hG];simp [t8]
   intro j hj _;have lj:=lG j;by_cases hjt:j<t.finds.length
   ·obtain ⟨f,hf⟩:∃f,t.finds[j]? =some f:=⟨_,lbf hjt⟩;have fb:=I0 q4 f (lbm hf);have ig:=a5s f.grams om om;have o0:=b2f k 0 (f.grams:Rat);have lA:(G j).length<=(Z0 (G j)).rows.length:=by show _<=(toC _).length;simp [toC]
    have lC:((G j).length+1)*97<=140737488355328:=om;have gs:G (j+1)=if f.kind=kind∧f.mv=(k:Int) then G j++[y5 k 0 (f.grams:Rat)] else G j:=by
     rw [hG,hG,a4N hf,a7Z];split<;>simp
    conv=>whnf
    repeat' (first|refine zx ?_|refine f7 hf ?_|refine o6 lA lC ?_|apply zD<;>intro h<;>try omega)<;>conv=>whnf
    all_goals first|omega|skip
    ·rw [if_pos om] at gs;refine ⟨hjt,trivial,[some 0,some 1,some 2,some 4],T5 rfl a1g rfl rfl rfl ?_ ?_ de rz⟩
     ·rw [gs];simp [toC]
     ·rw [gs];exact a2h rfl
    all_goals
     rw [if_neg om] at gs;refine ⟨hjt,trivial,[some 0,some 1,some 2,some 3],T5 rfl a1g rfl rfl rfl ?_ ?_ de rz⟩
     ·rw [gs]
     ·rw [gs]
   ·have hje:j=t.finds.length:=by omega
    subst hje;conv=>whnf
    repeat' (first|refine zx ?_|apply zD<;>intro h<;>try omega)<;>conv=>whnf
    all_goals first|omega|exact ⟨[some 0,some 1,some 2,some 3],T5 rfl a1g rfl rfl rfl rfl rfl de rz⟩
  have lGe:=lG t.finds.length;obtain ⟨K,hK⟩:∃K:Nat->List z7,∀j,K j=G t.finds.length++List.replicate (B2 (t.cleans.take j) kind k) (y5 k 2 ((0:Int):Rat)):=⟨_,fun _=>rfl⟩;have lK:∀j,(K j).length<=14600:=fun j=>by
   have h1:B2 (t.cleans.take j) kind k<=50:=by
    unfold B2;exact lbT (lbt _ _) (by rw [lbs];omega)
   rw [hK];simp;omega
  have hKe:K t.cleans.length=t9 t kind (k+1):=by
   rw [hK,hG,hR2,hR1,lbn (lbS _),lbn (lbS _)];show _=(match t.ev.moves[k]? with|none=>t9 t kind k|some x=>t9 t kind k++R8 t kind k x);rw [hx];simp only [R8,hkd,lbE]
  refine p6 d9 _ ?_;conv=>whnf
  repeat' (first|refine zx ?_|apply zD<;>intro h<;>try omega)<;>conv=>whnf
  refine i7 d9 (fun j=>([J,eI kind,S.c (C.t (T.ptr (trT t))),J,sP 0 0 0,J,sP 1 0 0,sP 2 0 0,eI k,J,J,J,J,eI j]++Jn 127,rHp t (K j))) t.cleans.length tT [some 0,some 1,some 2,some 3] trivial ?_ ?_
  ·refine T5 rfl a1g rfl rfl rfl ?_ ?_ de rz
   ·rw [hK];simp [B2]
   ·rw [hK];simp [B2]
  intro j hj _;have lj:=lK j;by_cases hjt:j<t.cleans.length
  ·obtain ⟨c,hc⟩:∃c,t.cleans[j]? =some c:=⟨_,lbf hjt⟩;have o0:=b2f k 2 ((0:Int):Rat);have lA:(K j).length<=(Z0 (K j)).rows.length:=by show _<=(toC _).length;simp [toC]
   have lC:((K j).length+1)*97<=140737488355328:=om;have gs:K (j+1)=if c.kind=kind∧c.mv=(k:Int) then K j++[y5 k 2 ((0:Int):Rat)] else K j:=by
    rw [hK,hK,a4N hc,a1u];split<;>simp [List.replicate_succ']
   conv=>whnf
   repeat' (first|refine zx ?_|refine f7 hc ?_|refine o6 lA lC ?_|apply zD<;>intro h<;>try omega)<;>conv=>whnf
   all_goals first|omega|skip
   ·rw [if_pos om] at gs;refine ⟨hjt,trivial,[some 0,some 1,some 2,some 4],T5 rfl a1g rfl rfl rfl ?_ ?_ de rz⟩
    ·rw [gs];simp [toC]
    ·rw [gs];exact a2h rfl
   all_goals
    rw [if_neg om] at gs;refine ⟨hjt,trivial,[some 0,some 1,some 2,some 3],T5 rfl a1g rfl rfl rfl ?_ ?_ de rz⟩
    ·rw [gs]
    ·rw [gs]
  ·have hje:j=t.cleans.length:=by omega
   subst hje;conv=>whnf
   repeat' (first|refine zx ?_|apply zD<;>intro h<;>try omega)<;>conv=>whnf
   all_goals try omega
   refine p6 d9 _ ?_;conv=>whnf
   repeat' (first|refine zx ?_|apply zD<;>intro h<;>try omega)<;>conv=>whnf
   all_goals try omega
   exact ⟨hlt,trivial,[some 0,some 1,some 2,some 3],T5 rfl a1g rfl rfl rfl (by rw [hKe]) (by rw [hKe]) de rz⟩
 ·have hke:k=t.ev.moves.length:=by omega
  subst hke;exact ⟨⟨[some 3],rfl,rfl,⟨d8 (rows:=(U8 t kind).rows.map w5) rfl rfl rfl rfl rfl,trivial⟩,⟨⟨rfl,⟨rfl,rfl,rfl,fun h=>h⟩,trivial⟩,rz⟩⟩⟩
def bk1 (x:Rat) (lx:rl x<=60000):ec 164 [frS (fz x)] [] (frS (fz (-x))) []:=by
 have r1:=aa5 x om;have x1:=G9 x;have n:=a5F x.num om;have e:fz (-x)=⟨bz (-x.num),bz x.den⟩:=by unfold fz;rw [ak5,Rat.neg_den]
 rw [e];refine ac Tryz.func164 ?_;conv=>whnf
 repeat' (first|refine zx ?_|apply zD<;>intro<;>try omega)<;>conv=>whnf
 all_goals first|(exfalso;simp_all;done)|exact n9 rz
def b20 (s:j2) (g:List (Int × Rat)):j2:=⟨s.n,s.rows++[⟨g,2,((0:Int):Rat)⟩]⟩
def b0c {s:j2} {g:List (Int × Rat)} (hr:n7 s=true) (hl:s.rows.length<6000) (hg:j9 (-1) s.n g=true):n7 (b20 s g)=true:=by
 unfold n7 at hr ⊢;simp only [lbO,lbJ] at hr ⊢;refine ⟨⟨hr.1.1,by simp [b20];omega⟩,?_⟩;show (s.rows++[_]).all (v6 s.n)=true;rw [a7S,hr.2];simp [v6,hg]
def a0M {s:j2} {g:List (Int × Rat)} (z:List Rat):∀l:List (Int × Rat),n8 (C4 l) z=-(n8 l z):=by
 intro l;have key:∀k,k<=l.length->n8 ((C4 l).take k) z=-(n8 (l.take k) z):=by
  intro k;induction k with
  |zero=>intro _;rw [a9d,a9d];show (0:Rat)=-0;grind
  |succ k ih=>
   intro hk;have ih:=ih om;have ht:l[k]? =some l[k]:=lbf om;rw [show (C4 l).take (k+1)=_ from a3p l _ ht,R5,b8i (show k<l.length by omega),R5,show (a0H l ((-1:Int):Rat)).take k=(C4 l).take k from rfl,ih];have e1:((-1:Int):Rat)=-1:=rfl;rw [e1];simp only;grind
 have:=key l.length (lbS _);rwa [lbn (by rw [a27];exact lbS _),lbn (lbS _)] at this
def b5C {s:j2} {Y:List Rat} (h:aY0 s (yN Y)) (hl:Y.length=s.rows.length):a5q s Y=true:=by
 unfold a5q;rw [lbI hl,H9,lbw];intro i hi;rw [lbC] at hi;have hx:s.rows[i]? =some s.rows[i]:=lbf hi;obtain ⟨h1,h2⟩:=h i _ hx;unfold sgB;rw [S3 hx];simp only [a9W,a1h,lbQ,lbL];refine ⟨?_,?_⟩
 ·by_cases h:s.rows[i].kind=0
  ·exact .inr (lb5.2 (h1 h))
  ·exact .inl h
 ·by_cases h:s.rows[i].kind=1
  ·exact .inr (lb5.2 (h2 h))
  ·exact .inl h
def be0 {s:j2} {g:List (Int × Rat)} {Y:List Rat} {y:Nat->Rat} {v:Rat} (hr:n7 s=true) (hg:j9 (-1) ((s.n.toNat:Nat):Int) g=true) (h:bi4 s (A7 g) y v) (hl:Y.length=s.rows.length) (hY:∀i,i<s.rows.length->yN Y i=y i):a4D s g Y=true∧a4b s (yN Y)=v:=by
 have hn:=L3 hr;have e1:∀l,V7 s (yN Y) l=V7 s y l:=fun l=>j7 fun i hi=>by rw [hY i hi]
 have e2:a4b s (yN Y)=a4b s y:=j7 fun i hi=>by rw [hY i hi]
 refine ⟨?_,by rw [e2,h.val]⟩;unfold a4D;rw [b5C (fun i w hw=>by rw [hY i (lbe.1 hw).1];exact h.sign i w hw) hl,←hn,hg,H9,H9,lbw];intro l hl;rw [lbC] at hl;have hl:l<s.n.toNat:=om;rw [e1];exact lbI (h.mix l hl)
def b6X {n:Nat} {y:Nat->Rat} {i:Nat} (h:i<n):yN (zOf n y) i=y i:=a8e h
def aq0 (D:Fd):Fd:={ D with V:=fun _=>0 }
def a9i {m n:Nat} {D:Fd} {y:Nat->Rat} {c:Rat}:Ids m n (aq0 D) y c↔Ids m n D y 0:=by
 constructor
 ·intro h i hi;have h1:y (D.O i)=c*0 - k7 (fun j=>D.A i j*y (D.F j)) n:=h i hi;show y (D.O i)=0*D.V i - k7 (fun j=>D.A i j*y (D.F j)) n;rw [h1];grind
 ·intro h i hi;have h1:y (D.O i)=0*D.V i - k7 (fun j=>D.A i j*y (D.F j)) n:=h i hi;show y (D.O i)=c*0 - k7 (fun j=>D.A i j*y (D.F j)) n;rw [h1];grind
def b24 {m n:Nat} {D:Fd} (h:X8 m n D):X8 m n (aq0 D):=⟨h.oi,h.fi,h.of,h.all,h.ob,h.fb⟩
def aW1 {s:j2} {g:List (Int × Rat)} {B:Nat} (hI:∀w ∈ s.rows,al3 B w):b15 (i8 s).length s.n.toNat 1 (aq0 (j5 s g)) where
 o:=fun i _=>rfl
 f:=fun j _=>rfl
 w:=fun i hi=>by
  obtain ⟨f,hf⟩:∃f,(i8 s)[i]? =some f:=⟨_,lbf hi⟩;obtain ⟨x,hx,_⟩:=Q1.1 (lbm hf);obtain ⟨h1,h2⟩:=hI x (lbm hx);have hfd:(i8 s).getD i (0,false)=f:=by rw [lbl,hf];rfl
  have eA:∀j,(j5 s g).A i j=S0 f.2 (A7 x.terms j):=fun j=>by show a23 s ((i8 s).getD i (0,false)) j=_;rw [hfd];unfold a23;rw [hx]
  have hc:∀j,∃c:Int,(j5 s g).A i j=((c:Int):Rat)∧bl c<=1:=fun j=>by
   obtain ⟨c,hc,hb⟩:=a1D h1 x.terms.length j;obtain ⟨c',hc',hb'⟩:=bi3 (b:=f.2) (x:=A7 x.terms j) hc;exact ⟨c',by rw [eA,hc'],om⟩
  refine ⟨1,0,fun j=>Classical.choose (hc j),de,o7 de de,o7 de de,fun j hj=>(a7F (hc j)).2,?_,fun j hj=>?_⟩
  ·have e0:((0:Int):Rat)=0:=rfl;have e1:((1:Int):Rat)=1:=rfl;show ((1:Int):Rat)*0=((0:Int):Rat);rw [e0,e1];grind
  ·show ((1:Int):Rat)*(j5 s g).A i j=((Classical.choose (hc j):Int):Rat);have hs:=(a7F (hc j)).1;generalize Classical.choose (hc j)=x at hs;rw [hs];have h1:((1:Int):Rat)=1:=rfl;rw [h1];grind
def b3t {s:j2} {g:List (Int × Rat)} {B:Nat} (hI:∀w ∈ s.rows,al3 B w) (hg:z5 g) {j:Nat} (hj:j<s.n.toNat):rl ((y8 s g).G j)<=2 ^ s.n.toNat*3:=by
 have inv:=O3 (s:=s) (g:=g);obtain ⟨z,hz⟩:=inv.g;have hc:∀j,∃c:Int,A7 g j=((c:Int):Rat)∧bl c<=1:=fun j=>a1D hg g.length j
 have hz0:a0g s.n.toNat (aq0 (y8 s g)) (fun j=>-(A7 g j)) (i8 s).length 0:=fun y c hy=>by
  have:=hz y 0 (a9i.1 hy);rw [this];show 0*z+_=c*0+_;have e:k7 (fun j=>(aq0 (y8 s g)).G j*y ((aq0 (y8 s g)).F j)) s.n.toNat=k7 (fun j=>(y8 s g).G j*y ((y8 s g).F j)) s.n.toNat:=rfl;rw [e];grind
 refine b9x (D:=aq0 (y8 s g)) (aW1 (g:=g) hI) de (b24 inv.p) (fun y c=>by rw [a9i,a9i];exact inv.i y 0) hz0 (q:=1) (b:=fun l=>-(Classical.choose (hc l))) de (o7 de de) (fun l hl=>?_) (fun l hl=>?_) hj
 ·have:=(a7F (hc l)).2;show bl (-(Classical.choose (hc l)))<=_;rw [ah7];omega
 ·have hs:=(a7F (hc l)).1;show ((1:Int):Rat)*-(A7 g l)=((-(Classical.choose (hc l)):Int):Rat);generalize Classical.choose (hc l)=x at hs ⊢;rw [hs];have e:((-x:Int):Rat)=-((x:Int):Rat):=by push_cast;rfl
  rw [e];have h1:((1:Int):Rat)=1:=rfl;rw [h1];grind
def b17 {f:Nat->Rat} {C:Nat}:∀n:Nat,(∀ j,j<n->rl (f j)<=C)->rl (k7 f n)<=n*(C+1)+1
 |0,_=>by have:=rl0;show rl 0<=_;omega
 |n+1,h=>by
  have ih:=b17 n fun j hj=>h j om
  have h1:=h n om;have h2:=a3A (k7 f n) (f n);have e:(n+1)*(C+1)=n*(C+1)+(C+1):=by rw [T4,Nat.one_mul]
  show rl (k7 f n+f n)<=_;omega
def b4y {k a:Nat} (v:Rat) (c:Nat->Rat):k7 (fun i=>(if a=i then v else 0)*c i) k=if a<k then v*c a else 0:=by
 by_cases h:a<k
 ·rw [if_pos h,a5C h]
 ·rw [if_neg h];exact x4 fun i hi=>by rw [if_neg om];grind
def b5y {s:j2} {w k:Nat} (p:Rat) (c:Nat->Rat) {P C:Nat} (hp:rl p<=P) (hc:∀i,rl (c i)<=C):rl (k7 (fun i=>chg s w p i*c i) k)<=P+C+1:=by
 by_cases h:s.n.toNat<=w
 ·rw [j7 (g:=fun i=>(if (F7 s (w - s.n.toNat)).1=i then -(S0 (F7 s (w - s.n.toNat)).2 p) else 0)*c i) fun i hi=>by
   unfold chg;by_cases h2:(F7 s (w - s.n.toNat)).1=i
   ·rw [if_pos ⟨h,h2⟩,if_pos h2]
   ·rw [if_neg (fun e=>h2 e.2),if_neg h2]]
  rw [b4y];split
  ·have h1:=a52 (-(S0 (F7 s (w - s.n.toNat)).2 p)) (c (F7 s (w - s.n.toNat)).1);have h2:=hc (F7 s (w - s.n.toNat)).1;have h3:rl (-(S0 (F7 s (w - s.n.toNat)).2 p))<=P:=by
    rw [U6];cases (F7 s (w - s.n.toNat)).2 with
    |false=>exact hp
    |true=>show rl (-p)<=P;rw [U6];exact hp
   omega
  ·have:=rl0;omega
 ·rw [x4 fun i hi=>by unfold chg;rw [if_neg (fun e=>h e.1)];grind];have:=rl0;omega
def am4 {s:j2} {g:List (Int × Rat)} {B C:Nat} (hI:∀w ∈ s.rows,al3 B w) (hg:z5 g) (c:Nat->Rat) (hc:∀i,rl (c i)<=C) (k:Nat):
 rl (k7 (fun i=>V4 s (y8 s g) i*c i) k)<=s.n.toNat*(2 ^ s.n.toNat*3+C+2)+1:=by
 have e:k7 (fun i=>V4 s (y8 s g) i*c i) k=k7 (fun j=>k7 (fun i=>chg s ((y8 s g).F j) (-((y8 s g).G j)) i*c i) k) s.n.toNat:=a89 (s:=s);rw [e];exact b17 _ fun j hj=>b5y _ c (by rw [U6];exact b3t hI hg hj) hc
def b6F {s:j2} {g:List (Int × Rat)} {B:Nat} (hI:∀w ∈ s.rows,al3 B w) (hg:z5 g) (i:Nat):rl (V4 s (y8 s g) i)<=s.n.toNat*(2 ^ s.n.toNat*3+1)+1:=by
 refine b17 _ fun j hj=>?_
 have h:=b3t (g:=g) hI hg hj;unfold chg;split
 ·rw [U6];cases (F7 s ((y8 s g).F j - s.n.toNat)).2 with
  |false=>show rl (-((y8 s g).G j))<=_;rw [U6];exact h
  |true=>show rl (- -((y8 s g).G j))<=_;rw [U6,U6];exact h
 ·have:=rl0;have h2:1<=2 ^ s.n.toNat:=Nat.one_le_two_pow;omega
def b5U {l:List (Int × Rat)} (h:z5 l) (v:Nat):rl (A7 l v)<=1:=by
 obtain ⟨c,hc,hb⟩:=a1D h l.length v;have e:A7 l v=((c:Int):Rat):=hc;rw [e,a18];have:=o7 (x:=1) de de;omega
def b3B {s:j2} {B:Nat} (hI:∀w ∈ s.rows,al3 B w) (hB:1<=B) (i:Nat):z5 (C1 s i).terms∧rl (C1 s i).value<=B:=by
 by_cases h:i<s.rows.length
 ·have hx:s.rows[i]? =some s.rows[i]:=lbf h;rw [S3 hx];exact hI _ (lbF _)
 ·have e:C1 s i=⟨[],2,0⟩:=by unfold C1;rw [lbl,lbd om];rfl
  rw [e];exact ⟨fun (t:Int × Rat) (ht:t ∈ [])=>by simp at ht,by have:=rl0;show rl 0<=B;omega⟩
def b6q {s:j2} {g:List (Int × Rat)} (c:Nat->Rat) (k:Nat):k7 (fun i=>yN (zOf s.rows.length (V4 s (y8 s g))) i*c i) k=k7 (fun i=>V4 s (y8 s g) i*(if i<s.rows.length then c i else 0)) k:=j7 fun i hi=>by
 by_cases h:i<s.rows.length
 ·rw [b6X h,if_pos h]
 ·have:yN (zOf s.rows.length (V4 s (y8 s g))) i=0:=by unfold yN;rw [lbl,lbd (by rw [S8];omega)];rfl
  rw [this,if_neg h];grind
def ar9:∀n,n<9->n*(2 ^ n*3+11+2)+1<=40000∧n*(2 ^ n*3+1)+1<=40000∧n*(2 ^ n*3+1+2)+1<=40000:=by decide
def br2 {s:j2} {g:List (Int × Rat)} (hI:∀w ∈ s.rows,al3 11 w) (hg:z5 g) (hn:s.n.toNat<=8) (l k:Nat):rl (a7f s (yN (zOf s.rows.length (V4 s (y8 s g)))) l k)<=40000:=by
 obtain ⟨p1,p2,p3⟩:=ar9 s.n.toNat om;unfold a7f;rw [b6q];have:=am4 hI hg (C:=1) (fun i=>if i<s.rows.length then A7 (C1 s i).terms l else 0) (fun i=>by
  split
  ·exact b5U (b3B hI de i).1 l
  ·exact rl0) k
 omega
def bv5 {s:j2} {g:List (Int × Rat)} (hI:∀w ∈ s.rows,al3 11 w) (hg:z5 g) (hn:s.n.toNat<=8) (k:Nat):rl (a7i s (yN (zOf s.rows.length (V4 s (y8 s g)))) k)<=40000:=by
 obtain ⟨p1,p2,p3⟩:=ar9 s.n.toNat om;unfold a7i;rw [b6q];have:=am4 hI hg (C:=11) (fun i=>if i<s.rows.length then (C1 s i).value else 0) (fun i=>by
  split
  ·exact (b3B hI de i).2
  ·have:=rl0;omega) k
 omega
def b6f {s:j2} {g:List (Int × Rat)} (hI:∀w ∈ s.rows,al3 11 w) (hg:z5 g) (hn:s.n.toNat<=8):∀v ∈ zOf s.rows.length (V4 s (y8 s g)),rl v<=40000:=by
 intro v hv;obtain ⟨p1,p2,p3⟩:=ar9 s.n.toNat om;obtain ⟨j,hj,rfl⟩:=a3h hv;have:=b6F hI hg j;omega
def b5i {s:j2} {g:List (Int × Rat)} (hI:∀w ∈ s.rows,al3 11 w) (hg:z5 g) (hn:s.n.toNat<=8) (hm:s.rows.length<=1000000):b8n s (zOf s.rows.length (V4 s (y8 s g))):=
 ⟨b6f hI hg hn,fun l k=>lbT (br2 hI hg hn l k) de,fun k=>lbT (bv5 hI hg hn k) de,S8,hm⟩
def bD0:rl ((-1:Int):Rat)<=1:=by rw [a18];exact o7 (x:=-1) de de
def bq9 {s:j2} {x:List Rat} {B:Nat} (hr:n7 s=true) (hI:∀w ∈ s.rows,al3 11 w) (hB:B<=40000) (hn:s.n.toNat*(B+4)+1<=50000) (hl:x.length<=1000000) (hx:∀v ∈ x,rl v<=B):PtB s x:=by
 refine ⟨fun v hv=>lbT (hx v hv) hB,fun w hw k=>?_,hl⟩;obtain ⟨i,hi,rfl⟩:=X4 hw;have hrt:=(Y4 hr (lbf hi)).1;have h1:=a2u (D5 (hI _ hw).1) hx k;have h2:=v8 hrt;have h3:s.rows[i].terms.length<=s.n.toNat:=om;have h4:=lbV (B+4) h3;omega
def a6x (e:Ev) (m k:Int):Bool:=decide (e.mats<=k) && decide (e.hhs<=6) && decide (e.scs<=6) && decide (e.places.length<=12) && decide ((e.moves.length:Int)<=m) && decide (e.certs.length<=10) && decide (e.recalls.length<=4) && decide (e.purities.length<=6)
def b5D (e:Ev) (m k:Int):ec 73 [evS e,eI m,eI k] [] (j8 (a6x e m k)) []:=by
 have m1:(e.places.map K8.row).length=e.places.length:=zq;have m2:(e.moves.map A8.row).length=e.moves.length:=zq;have m3:(e.certs.map M9.row).length=e.certs.length:=zq;have m4:(e.recalls.map F6.row).length=e.recalls.length:=zq;have m5:(e.purities.map a21.row).length=e.purities.length:=zq;refine ac Tryz.func73 ?_;conv=>whnf
 repeat' (first|refine zx ?_|apply zD<;>intro<;>try omega)<;>conv=>whnf
 all_goals
  refine g9 ?_;unfold a6x;simp only [m1,m2,m3,m4,m5] at *;first|(symm;simp only [lbO,lbJ];omega)|(symm;rw [← lbR];simp only [lbO,lbJ];omega)
def a5e (t:j6) (m:Int):Bool:=a6x t.ev m 3 && decide (t.ev.hhs<=4) && decide (t.finds.length<=6) && decide (t.cleans.length<=6)
def b7Q (t:j6) (m:Int):ec 26 [trS t,eI m] [] (j8 (a5e t m)) []:=by
 have r:=b5D t.ev m 3;have m1:(t.finds.map P5.row).length=t.finds.length:=zq;have m2:(t.cleans.map Y8.row).length=t.cleans.length:=zq;unfold a5e;cases hq:a6x t.ev m 3<;>rw [hq] at r<;>
 ·refine ac Tryz.func26 ?_;conv=>whnf
  repeat' (first|refine zx ?_|apply zD<;>intro<;>try omega)<;>conv=>whnf
  all_goals
   refine g9 ?_;simp only [m1,m2] at *;first|rfl|(symm;simp only [H9,lbO,lbJ];omega)|(symm;rw [← lbR];simp only [lbO,lbJ];omega)
def a7k {t:j6} {m:Int} (hm:m<=100) (h:a5e t m=true):t.Sized∧(t.ev.moves.length:Int)<=m∧t.ev.hhs<=4:=by
 unfold a5e a6x at h;simp only [lbO,lbJ] at h;exact ⟨⟨⟨om,om,om,om,om⟩,om,om⟩,om,om⟩
def b45 {f:Nat->Rat}:∀{n:Nat},0<k7 f n->∃j,j<n∧0<f j
 |0,h=>absurd (show (0:Rat)<0 from h) zk
 |n+1,h=>by
  simp only [k7] at h;by_cases h1:0<f n
  ·exact ⟨n,om,h1⟩
  ·obtain ⟨j,hj,hp⟩:=b45 (f:=f) (n:=n) zg;exact ⟨j,om,hp⟩
end Go.Proofs.YtikokmdpigploaaGreat
