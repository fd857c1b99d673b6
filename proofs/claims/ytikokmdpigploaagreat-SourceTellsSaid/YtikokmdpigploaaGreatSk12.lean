/- Part 12. -/
import Derived.Test.YtikokmdpigploaaGreatSk11
namespace Go.Proofs.YtikokmdpigploaaGreat
set_option linter.all false
set_option maxRecDepth 100000
set_option maxHeartbeats 8000000
open Go.RowKit
open St1 St2 St3 St4 St5 St6 St7 St8 StA StB StC
def b2c (Y:List Rat) (n:Nat) (hl:Y.length<=1000000) (h:∀v ∈ Y,rl v<=200000):ec 238 [n6 (Y.map fz),eI n] [] (i9 (decide (Y.length=n))) []:=by
 have m2:((Y.map fz).map o4).length=Y.length:=zq;refine ac Tryz.func238 ?_;conv=>whnf
 repeat' (first|refine zx ?_|apply zD<;>intro h<;>try omega)<;>conv=>whnf
 refine j3 d7 (fun k=>([n6 (Y.map fz),eI n,J,J,J,eI k]++Jn 16,[])) Y.length tT [] trivial
  rz ?_
 intro k hk _;by_cases hlt:k<Y.length
 ·obtain ⟨x,hx⟩:∃x,Y[k]? =some x:=⟨_,lbf hlt⟩;have bx:=h x (lbm hx);have rr:=a9o x om;conv=>whnf
  repeat' (first|refine zx ?_|refine i6 (W0 Y hx) ?_|apply zD<;>intro h<;>try omega)<;>conv=>whnf
  all_goals first|omega|(exfalso;simp_all;done)|exact ⟨hlt,trivial,[],rz⟩
 ·conv=>whnf
  repeat' (first|refine zx ?_|apply zD<;>intro h<;>try omega)<;>conv=>whnf
  all_goals first|omega|(refine d9 (lbG ?_).symm;omega)|(refine d9 (lbI ?_).symm;omega)
def yN (Y:List Rat) (i:Nat):Rat:=Y.getD i 0
def ao7 {Y:List Rat} {k:Nat} {x:Rat} (h:Y[k]? =some x):yN Y k=x:=by unfold yN;rw [lbl,h];rfl
def sgB (s:i8) (Y:List Rat) (i:Nat):Bool:=!((decide ((A6 s i).kind=0) && decide (yN Y i<0)) || (decide ((A6 s i).kind=1) && decide (0<yN Y i)))
def a06 (s:i8) (Y:List Rat):Bool:=decide (Y.length=s.rows.length) && (List.range s.rows.length).all (sgB s Y)
def b3u {n k:Nat} (h:k<n):(List.range n)[k]? =some k:=by simp [h]
def a26 {f:Nat->Bool} {k:Nat}:(List.range (k+1)).all f=((List.range k).all f && f k):=by rw [a5R,a0H];simp
def a3Y {f:Nat->Bool} {n k:Nat} (h:k<n) (hf:f k=false):(List.range n).all f=false:=x7 (b3u h) hf
theorem b54 (s:i8) (hb:T9 s) (hr:j6 s=true) (Y:List Rat) (hl:Y.length<=1000000) (hy:∀v ∈ Y,rl v<=50000):
 d6 Tryz.prog 159 [D8 s,n6 (Y.map fz)] [] (i9 (a06 s Y)) []:=by
 have m1:(s.rows.map p4).length=s.rows.length:=by simp
 have m2:((Y.map fz).map o4).length=Y.length:=by simp
 have l1:=hb.n0
 have lr:=a1y s hb
 rw [hr] at lr
 have fr:=b2c Y s.rows.length hl (fun v hv=>by have:=hy v hv;omega)
 have fr2:d6 Tryz.prog 238 [n6 (Y.map fz),c9 .i64 ((s.rows.map p4).length:Nat)] [] (i9 (decide (Y.length=s.rows.length))) []:=by rw [m1];exact fr
 by_cases hn:Y.length≠s.rows.length
 ·have e2:a06 s Y=false:=by unfold a06;rw [lbI hn];simp
  rw [lbI hn] at fr2
  rw [e2]
  (refine ac Tryz.func159 ?_;(conv=>whnf);repeat ((first|refine b0x ?_|refine zy ?_);conv=>whnf))
  repeat' (first|refine zx ?_|refine qp lr ?_|refine qp fr2 ?_|refine zd ?_ ?_<;>intro h<;>try omega|fail)<;>conv=>whnf
  all_goals first
   |omega
   |(exfalso;simp_all;done)
   |exact d9 rfl
 have hn:Y.length=s.rows.length:=by omega
 have e2:a06 s Y=(List.range s.rows.length).all (sgB s Y):=by unfold a06;rw [lbG hn];simp
 rw [e2]
 rw [lbG hn] at fr2
 (refine ac Tryz.func159 ?_;(conv=>whnf);repeat ((first|refine b0x ?_|refine zy ?_);conv=>whnf))
 repeat' (first|refine zx ?_|refine qp lr ?_|refine qp fr2 ?_|refine zd ?_ ?_<;>intro h<;>try omega|fail)<;>conv=>whnf
 all_goals try (exfalso;simp_all;done)
 refine j3 d7 (fun k=>([J,n6 (Y.map fz),S.c (C.t (T.ptr [ti s.n,G5 s.rows])),J,J,c9 .i64 k]++Jn 47,[])) Y.length (fun k=>(List.range k).all (sgB s Y)=true) [] rfl
  ⟨rfl,rfl,trivial,⟨rfl,rfl,rfl,trivial⟩⟩ ?_
 intro k hk hI
 by_cases hlt:k<Y.length
 ·obtain ⟨x,hx⟩:∃x,Y[k]? =some x:=⟨_,lbf hlt⟩
  obtain ⟨w,hw⟩:∃w,s.rows[k]? =some w:=⟨_,lbf (by omega)⟩
  have bx:=hy x (lbm hx)
  have sg:=a4z x (by omega)
  have es:sgB s Y k=decide ((w.kind=0->¬sgR x<0)∧(w.kind=1->¬sgR x > 0)):=by
   unfold sgB
   rw [O3 hw,ao7 hx,a7m,decide_eq_true_iff,a2X,aJ4]
   simp
   grind
  generalize sgR x=U at sg es
  by_cases hok:(w.kind=0->¬U<0)∧(w.kind=1->¬U > 0)
  ·rw [lbG hok] at es
   obtain ⟨q1,q2⟩:=hok
   conv=>whnf
   repeat' (first|refine zx ?_|refine qp sg ?_|refine i6 (W0 Y hx) ?_|refine i6 hw ?_|refine zd ?_ ?_<;>intro h<;>try omega|fail)<;>conv=>whnf
   all_goals first
    |omega
    |exact ⟨hlt,by rw [a26,hI,es];rfl,[],rfl,rfl,trivial,⟨rfl,rfl,rfl,trivial⟩⟩
  ·rw [lbI hok] at es
   rw [a3Y (n:=s.rows.length) (by omega) es]
   have hor:(w.kind=0∧U<0)∨(w.kind=1∧U > 0):=by omega
   clear hok
   conv=>whnf
   repeat' (first|refine zx ?_|refine qp sg ?_|refine i6 (W0 Y hx) ?_|refine i6 hw ?_|refine zd ?_ ?_<;>intro h<;>try omega|fail)<;>conv=>whnf
   all_goals first
    |omega
    |exact d9 rfl
 ·have hke:k=s.rows.length:=by omega
  subst hke
  rw [hI]
  conv=>whnf
  repeat' (first|refine zx ?_|refine zd ?_ ?_<;>intro h<;>try omega|fail)<;>conv=>whnf
  all_goals first
   |omega
   |exact d9 rfl
def b89 {n:Int} {l:List (Int × Rat)} (hr:j2 (-1) n l=true) {i:Nat} {t:Int × Rat} (ht:l[i]? =some t):∀k,i<k->k<=l.length->J5 l k t.1.toNat=t.2:=by
 intro k hi hk;induction k with
 |zero=>omega
 |succ k ih=>
  obtain ⟨u,hu⟩:∃u,l[k]? =some u:=⟨_,lbf om⟩;rw [G0 hu];simp only;by_cases h:i=k
  ·subst h;rw [ht] at hu;injection hu with hu;subst hu
   rw [if_pos rfl]
  ·have:=a2v hr i k t u om ht hu;have:=v8 hr t (lbm ht);rw [if_neg om];exact ih om om
def b2w {n:Int} {l:List (Int × Rat)} (hr:j2 (-1) n l=true) {i:Nat} {t:Int × Rat} (ht:l[i]? =some t):y5 l t.1.toNat=t.2:=
 b89 hr ht _ (lbe.1 ht).1 (lbQ _)
def b0u (l:List (Int × Rat)) (v:Nat) {n:Int} (hr:j2 (-1) n l=true) (hl:l.length<=1000000) (hv:v<=1000000):ec 163 [k7 l,eI v] [] (frS (fz (y5 l v))) []:=by
 have m1:(l.map o7).length=l.length:=zq;have i0:=a4Y 0 de de;refine ac Tryz.func163 ?_;conv=>whnf
 repeat' (first|refine zx ?_|apply zD<;>intro h<;>try omega)<;>conv=>whnf
 refine j3 d7 (fun k=>([k7 l,eI v,J,J,sP 0 0 0,eI k]++Jn 19,[frB C6])) l.length (fun k=>∀i t,i<k->l[i]? =some t->t.1.toNat≠v) [some 0] (fun i t h=>om)
  ⟨rfl,rfl,⟨⟨rfl,rfl,rfl,.inr rz⟩,trivial⟩,rz⟩ ?_
 intro k hk hI;by_cases hlt:k<l.length
 ·obtain ⟨t,ht⟩:∃t,l[k]? =some t:=⟨_,lbf hlt⟩;have hm:=v8 hr t (lbm ht);by_cases he:t.1=v
  ·have e:y5 l v=t.2:=by rw [← b2w hr ht,he];rfl
   rw [e];conv=>whnf
   repeat' (first|refine zx ?_|refine i6 ht ?_|apply zD<;>intro h<;>try omega)<;>conv=>whnf
   all_goals first|omega|exact aV4 rfl
  ·conv=>whnf
   repeat' (first|refine zx ?_|refine i6 ht ?_|apply zD<;>intro h<;>try omega)<;>conv=>whnf
   all_goals first
    |omega
    |exact ⟨hlt,fun i u hi hu=>by
      by_cases h:i=k
      ·subst h;rw [ht] at hu;injection hu with hu;subst hu;omega
      ·exact hI i u om hu,[some 0],rfl,rfl,⟨⟨rfl,rfl,rfl,.inl ⟨rfl,y3 _⟩⟩,trivial⟩,rz⟩
 ·have hke:k=l.length:=by omega
  subst hke;have e:y5 l v=((0:Int):Rat):=a09 _ hI;rw [e];conv=>whnf
  repeat' (first|refine zx ?_|apply zD<;>intro h<;>try omega)<;>conv=>whnf
  all_goals first|omega|exact aV4 rfl
def b7u (a b c:Rat) (ha:rl a<=60000) (hb:rl b<=50000) (hc:rl c<=200):ec 239 [frS (fz a),frS (fz b),frS (fz c)] [] (frS (fz (a+b*c))) []:=by
 have l:=a39 b c;have mu:=bc1 b c om om;have ad:=aQ6 a (b*c) om om;refine ac Tryz.func239 ?_;conv=>whnf
 repeat' (first|refine zx ?_|refine bl0 [5] ?_|apply zD<;>intro<;>try omega)<;>conv=>whnf
 all_goals exact aV4 rfl
def L5 (s:i8) (y:Nat->Rat) (k:Nat):List (Int × Rat):=((List.range k).filter fun v=>decide (J4 s y v≠0)).map fun v:Nat=>((v:Int),J4 s y v)
def a6k (s:i8) (y:Nat->Rat) (k:Nat):L5 s y (k+1)=if J4 s y k=0 then L5 s y k else L5 s y k++[((k:Int),J4 s y k)]:=by
 unfold L5;rw [a5R,lb7,lbB];by_cases h:J4 s y k=0
 ·rw [if_pos h];simp [h]
 ·rw [if_neg h];simp [h]
def af7 (s:i8) (y:Nat->Rat) (k:Nat):(L5 s y k).length<=k:=by
 unfold L5;rw [lbr];exact lbR (lbt _ _) zq
def Q4 (s:i8) (y:Nat->Rat) (l k:Nat):Rat:=k8 (fun i=>y i*y5 (A6 s i).terms l) k
def Y6 (s:i8) (y:Nat->Rat) (k:Nat):Rat:=k8 (fun i=>y i*(A6 s i).value) k
structure a8m (s:i8) (Y:List Rat):Prop where
 y:∀v ∈ Y,rl v<=40000
 n:∀l k,rl (Q4 s (yN Y) l k)<=50000
 v:∀k,rl (Y6 s (yN Y) k)<=50000
 l:Y.length=s.rows.length
 m:s.rows.length<=1000000
def b29 {l:List (Int × Rat)} (h:∀t ∈ l,rl t.2<=200) (v:Nat):rl (y5 l v)<=200:=by
 have key:∀k,rl (J5 l k v)<=200:=by
  intro k;induction k with
  |zero=>have:=rl0;show rl 0<=_;omega
  |succ k ih=>
   cases hk:l[k]? with
   |none=>rw [J5,hk];exact ih
   |some t=>
    rw [G0 hk];simp only;split
    ·exact h t (lbm hk)
    ·exact ih
 exact key _
def bt8 (s:i8) (hb:T9 s) (hr:j6 s=true) (Y:List Rat) (hq:a8m s Y):
 ec 161 [D8 s,n6 (Y.map fz)] [] (.tup [k7 (L5 s (yN Y) s.n.toNat),frS (fz (S6 s (yN Y)))]) []:=by
 have m1:(s.rows.map p4).length=s.rows.length:=zq;have m2:((Y.map fz).map o4).length=Y.length:=zq;have l1:=hb.n0;have hn:=hq.l;have lr:=a1y s hb;rw [hr] at lr;have hnn:0<=s.n∧s.n<=1500:=by
  unfold j6 at hr;simp only [lbM,lbH] at hr;exact ⟨hr.1.1.1,hr.1.1.2⟩
 have fr:=b2c Y s.rows.length om (fun v hv=>by have:=hq.y v hv;omega);have fr2:ec 238 [n6 (Y.map fz),eI ((s.rows.map p4).length:Nat)] [] (i9 true) []:=by rw [m1];rw [lbG hn] at fr;exact fr
 have i0:=a4Y 0 de de
 (refine ac Tryz.func161 ?_;(conv=>whnf);repeat ((first|refine b0x ?_|refine zy ?_);conv=>whnf))
 repeat' (first|refine zz ?_|refine qp lr ?_|refine qp fr2 ?_|refine qp i0 ?_|refine a4M.own ?_|apply zD<;>intro h<;>try omega|refine zy ?_|fail)<;>conv=>whnf
 all_goals try omega
 all_goals try (exfalso;simp_all;done)
 refine j3 d7 (fun v=>([J,n6 (Y.map fz),S.c (C.t (T.ptr [ti s.n,G5 s.rows])),J,J,sP 0 0 0,S.c (C.own 1 0 (L5 s (yN Y) v).length true),eI v]++Jn 74,[frB C6,Q1 (L5 s (yN Y) v)])) s.n.toNat tT [some 0,some 1] trivial
  ⟨rfl,rfl,⟨⟨rfl,rfl,rfl,.inr rz⟩,e8 (rows:=[]) rfl rfl rfl rfl rfl,trivial⟩,⟨rfl,rfl,rz,⟨rfl,rfl,rfl,fun h=>h⟩,rz⟩⟩ ?_
 intro v hv _;have lv:=af7 s (yN Y) v;by_cases hlt:v<s.n.toNat
 ·conv=>whnf
  repeat' (first|refine zx ?_|apply zD<;>intro h<;>try omega)<;>conv=>whnf
  all_goals try omega
  refine j3 d7 (fun k=>([J,n6 (Y.map fz),S.c (C.t (T.ptr [ti s.n,G5 s.rows])),J,J,sP 0 0 0,S.c (C.own 1 0 (L5 s (yN Y) v).length true),eI v,sP 2 0 0,eI k]++Jn 72,[frB C6,Q1 (L5 s (yN Y) v),frB (fz (Q4 s (yN Y) v k))])) Y.length tT [some 0,some 1,some 2] trivial
   ⟨rfl,rfl,⟨⟨rfl,rfl,rfl,.inr rz⟩,e8 (rows:=(L5 s (yN Y) v).map o7) rfl rfl rfl rfl rfl,⟨rfl,rfl,rfl,.inl ⟨rfl,y3 _⟩⟩,trivial⟩,⟨rfl,rfl,rz,⟨rfl,rfl,rfl,fun h=>h⟩,rz⟩⟩ ?_
  intro k hk _;by_cases hkl:k<Y.length
  ·obtain ⟨x,hx⟩:∃x,Y[k]? =some x:=⟨_,lbf hkl⟩;obtain ⟨w,hw⟩:∃w,s.rows[k]? =some w:=⟨_,lbf om⟩;obtain ⟨b1,b2,b3⟩:=hb.t w (lbm hw);have hrt:=(a1A hr hw).1;have bx:=hq.y x (lbm hx);have co:=b0u w.terms v hrt om om;have bc:=b29 b2 v;have bm:=hq.n v k;have pl:=b7u (Q4 s (yN Y) v k) x (y5 w.terms v) om om bc;have e:Q4 s (yN Y) v k+x*y5 w.terms v=Q4 s (yN Y) v (k+1):=by
    show _=Q4 s (yN Y) v k+yN Y k*y5 (A6 s k).terms v;rw [O3 hw,ao7 hx]
   rw [e] at pl;conv=>whnf
   repeat' (first|refine zx ?_|refine i6 (W0 Y hx) ?_|refine i6 hw ?_|apply zD<;>intro h<;>try omega)<;>conv=>whnf
   all_goals first|omega|exact ⟨hkl,trivial,[some 0,some 1,some 2],rfl,rfl,⟨⟨rfl,rfl,rfl,.inr rz⟩,e8 (rows:=(L5 s (yN Y) v).map o7) rfl rfl rfl rfl rfl,⟨rfl,rfl,rfl,.inl ⟨rfl,y3 _⟩⟩,trivial⟩,⟨rfl,rfl,rz,⟨rfl,rfl,rfl,fun h=>h⟩,rz⟩⟩
  ·have hke:k=s.rows.length:=by omega
   subst hke;have e:Q4 s (yN Y) v s.rows.length=J4 s (yN Y) v:=rfl;rw [e];have bm:=hq.n v s.rows.length;rw [e] at bm;have sg:=a4z (J4 s (yN Y) v) om;have sz:=a1e (x:=J4 s (yN Y) v);have lA:(L5 s (yN Y) v).length<=(Q1 (L5 s (yN Y) v)).rows.length:=by show _<=(toC _).length;simp [toC]
   by_cases hz:J4 s (yN Y) v=0
   ·have hs:=sz.2 hz;have e2:L5 s (yN Y) (v+1)=L5 s (yN Y) v:=by rw [a6k,if_pos hz]
    rw [e2];conv=>whnf
    repeat' (first|refine zx ?_|apply zD<;>intro h<;>try omega)<;>conv=>whnf
    all_goals first|omega|exact ⟨hlt,trivial,[some 0,some 1],rfl,rfl,⟨⟨rfl,rfl,rfl,.inr rz⟩,e8 (rows:=(L5 s (yN Y) v).map o7) rfl rfl rfl rfl rfl,trivial⟩,⟨rfl,rfl,rz,⟨rfl,rfl,rfl,fun h=>h⟩,rz⟩⟩
   ·have hs:sgR (J4 s (yN Y) v)≠0:=fun h=>hz (sz.1 h)
    have e2:L5 s (yN Y) (v+1)=L5 s (yN Y) v++[((v:Int),J4 s (yN Y) v)]:=by rw [a6k,if_neg hz]
    rw [e2];conv=>whnf
    repeat' (first|refine zx ?_|refine w6 lA zu ?_|apply zD<;>intro h<;>try omega)<;>conv=>whnf
    all_goals first
     |omega
     |(refine ⟨hlt,trivial,[some 0,some 3],rfl,rfl,⟨⟨rfl,rfl,rfl,.inr rz⟩,e8 (rows:=(L5 s (yN Y) v++[((v:Int),J4 s (yN Y) v)]).map o7) rfl rfl rfl ?_ ?_,trivial⟩,⟨rfl,rfl,rz,⟨rfl,rfl,?_,fun h=>h⟩,rz⟩⟩
       ·exact Y0 (f:=o7) (x:=((v:Int),J4 s (yN Y) v)) rfl
       ·rfl
       ·simp [toC])
 ·have hke:v=s.n.toNat:=by omega
  subst hke;conv=>whnf
  repeat' (first|refine zx ?_|apply zD<;>intro h<;>try omega)<;>conv=>whnf
  all_goals try omega
  refine j3 d7 (fun k=>([J,n6 (Y.map fz),S.c (C.t (T.ptr [ti s.n,G5 s.rows])),J,J,sP 0 0 0,S.c (C.own 1 0 (L5 s (yN Y) s.n.toNat).length true),J,J,J,sP 2 0 0,eI k]++Jn 70,[frB C6,Q1 (L5 s (yN Y) s.n.toNat),frB (fz (Y6 s (yN Y) k))])) Y.length tT [some 0,some 1,some 2] trivial
   ⟨rfl,rfl,⟨⟨rfl,rfl,rfl,.inr rz⟩,e8 (rows:=(L5 s (yN Y) s.n.toNat).map o7) rfl rfl rfl rfl rfl,⟨rfl,rfl,rfl,.inl ⟨rfl,y3 _⟩⟩,trivial⟩,⟨rfl,rfl,rz,⟨rfl,rfl,rfl,fun h=>h⟩,rz⟩⟩ ?_
  intro k hk _;by_cases hkl:k<Y.length
  ·obtain ⟨x,hx⟩:∃x,Y[k]? =some x:=⟨_,lbf hkl⟩;obtain ⟨w,hw⟩:∃w,s.rows[k]? =some w:=⟨_,lbf om⟩;obtain ⟨b1,b2,b3⟩:=hb.t w (lbm hw);have bx:=hq.y x (lbm hx);have bm:=hq.v k;have pl:=b7u (Y6 s (yN Y) k) x w.value om om b3;have e:Y6 s (yN Y) k+x*w.value=Y6 s (yN Y) (k+1):=by
    show _=Y6 s (yN Y) k+yN Y k*(A6 s k).value;rw [O3 hw,ao7 hx]
   rw [e] at pl;conv=>whnf
   repeat' (first|refine zx ?_|refine i6 (W0 Y hx) ?_|refine i6 hw ?_|apply zD<;>intro h<;>try omega)<;>conv=>whnf
   all_goals first|omega|exact ⟨hkl,trivial,[some 0,some 1,some 2],rfl,rfl,⟨⟨rfl,rfl,rfl,.inr rz⟩,e8 (rows:=(L5 s (yN Y) s.n.toNat).map o7) rfl rfl rfl rfl rfl,⟨rfl,rfl,rfl,.inl ⟨rfl,y3 _⟩⟩,trivial⟩,⟨rfl,rfl,rz,⟨rfl,rfl,rfl,fun h=>h⟩,rz⟩⟩
  ·have hke:k=s.rows.length:=by omega
   subst hke;have e:Y6 s (yN Y) s.rows.length=S6 s (yN Y):=rfl;rw [e];conv=>whnf
   repeat' (first|refine zx ?_|apply zD<;>intro h<;>try omega)<;>conv=>whnf
   all_goals first|omega|exact m9 ⟨(show VC _ (fun id=>L9 [] id=true) (C.own 1 0 _ true) _ from u5 (k:=Q1 (L5 s (yN Y) s.n.toNat)) rfl rfl (fun h=>h) rfl rfl zq),rz⟩
def au8 {n:Int}:∀{l:List (Int × Rat)} {last:Int},l.Pairwise (fun a b=>a.1<b.1)->(∀ t ∈ l,last<t.1∧t.1<n∧t.2≠0)->j2 last n l=true
 |[],_,_,_=>rfl
 |a::r,last,h1,h2=>by
  unfold j2;simp only [lbM,lbH];obtain ⟨p1,p2⟩:=List.pairwise_cons.1 h1;have:=h2 a (a0P ..);exact ⟨⟨⟨this.1,this.2.1⟩,this.2.2⟩,au8 p2 fun t ht=>⟨p1 t ht,(h2 t (a4s _ ht)).2⟩⟩
def a82 {s:i8} {y:Nat->Rat} {k:Nat} {t:Int × Rat}:t ∈ L5 s y k↔∃v:Nat,v<k∧J4 s y v≠0∧t=((v:Int),J4 s y v):=by
 unfold L5;rw [lbw];constructor
 ·rintro ⟨v,hv,rfl⟩;rw [lbx,lbA] at hv;exact ⟨v,hv.1,by simpa using hv.2,rfl⟩
 ·rintro ⟨v,h1,h2,rfl⟩;exact ⟨v,by rw [lbx,lbA];exact ⟨h1,by simpa using h2⟩,rfl⟩
def a41 (s:i8) (y:Nat->Rat) (k:Nat):j2 (-1) (k:Int) (L5 s y k)=true:=by
 refine au8 ?_ fun t ht=>?_
 ·unfold L5;rw [List.pairwise_map];exact ((List.pairwise_lt_range (n:=k)).filter _).imp fun {a b} h=>by show (a:Int)<b;omega
 ·obtain ⟨v,h1,h2,rfl⟩:=a82.1 ht;exact ⟨by simp only;omega,by simp only;omega,h2⟩
def ap0 {s:i8} {y:Nat->Rat} {k v:Nat} (hv:v<k):y5 (L5 s y k) v=J4 s y v:=by
 by_cases h:J4 s y v=0
 ·rw [h];refine a09 _ fun i t _ ht=>?_
  obtain ⟨u,h1,h2,rfl⟩:=a82.1 (lbm ht);intro e;have e:u=v:=by simpa using e
  exact h2 (e ▸ h)
 ·obtain ⟨i,hi,he⟩:=a1k (a82.2 ⟨v,hv,h,rfl⟩);have:=b2w (a41 s y k) (i:=i) (t:=((v:Int),J4 s y v)) (by rw [lbf hi,he]);simpa using this
def a23 (s:i8) (g:List (Int × Rat)) (Y:List Rat):Bool:=a06 s Y && j2 (-1) s.n g && (List.range s.n.toNat).all fun v=>decide (J4 s (yN Y) v<=y5 g v)
def a3o (s:i8) (g:List (Int × Rat)) (Y:List Rat):S:=if a23 s g Y=true then .tup [frS (fz (S6 s (yN Y))),i9 true] else .tup [frS C6,i9 false]
def aF7 (s:i8) (hb:T9 s) (hr:j6 s=true) (g:List (Int × Rat)) (hg:g.length<=1000000) (hgb:∀t ∈ g,rl t.2<=200) (Y:List Rat) (hy:∀v ∈ Y,rl v<=40000) (hyl:Y.length<=1000000) (hq:Y.length=s.rows.length->a8m s Y):
 ec 90 [D8 s,k7 g,n6 (Y.map fz)] [] (a3o s g Y) []:=by
 have hnn:0<=s.n∧s.n<=1500:=by
  unfold j6 at hr;simp only [lbM,lbH] at hr;exact ⟨hr.1.1.1,hr.1.1.2⟩
 have sn:=b54 s hb hr Y hyl (fun v hv=>by have:=hy v hv;omega);have rt:=K5 g s.n hg hgb;rw [lbG hnn.1,C2] at rt;cases hs:a06 s Y with
 |false=>
  have e:a3o s g Y=.tup [frS C6,i9 false]:=by unfold a3o a23;rw [hs];rfl
  rw [e];rw [hs] at sn
  (refine ac Tryz.func90 ?_;(conv=>whnf);repeat ((first|refine b0x ?_|refine zy ?_);conv=>whnf))
  repeat' (first|refine zx ?_|apply zD<;>intro h<;>try omega)<;>conv=>whnf
  all_goals first
   |(exfalso;simp_all;done)
   |exact m9 rz
 |true=>
 rw [hs] at sn;cases ht:j2 (-1) s.n g with
 |false=>
  have e:a3o s g Y=.tup [frS C6,i9 false]:=by unfold a3o a23;rw [hs,ht];rfl
  rw [e];rw [ht] at rt
  (refine ac Tryz.func90 ?_;(conv=>whnf);repeat ((first|refine b0x ?_|refine zy ?_);conv=>whnf))
  repeat' (first|refine zx ?_|apply zD<;>intro h<;>try omega)<;>conv=>whnf
  all_goals first
   |(exfalso;simp_all;done)
   |exact m9 rz
 |true=>
 rw [ht] at rt;have hl:Y.length=s.rows.length:=by
  unfold a06 at hs;simp only [lbM,lbH] at hs;exact hs.1
 have hq:=hq hl;have eb:a23 s g Y=(List.range s.n.toNat).all fun v=>decide (J4 s (yN Y) v<=y5 g v):=by unfold a23;rw [hs,ht];simp
 have mx:=bt8 s hb hr Y hq;have ml:=af7 s (yN Y) s.n.toNat;have mr:=a41 s (yN Y) s.n.toNat
 (refine ac Tryz.func90 ?_;(conv=>whnf);repeat ((first|refine b0x ?_|refine zy ?_);conv=>whnf))
 repeat' (first|refine zx ?_|refine bl0 [5] ?_|apply zD<;>intro h<;>try omega)<;>conv=>whnf
 all_goals try (exfalso;simp_all;done)
 refine j3 d7 (fun v=>([J,k7 g,J,S.c (C.t (T.ptr [ti s.n,G5 s.rows])),J,J,sP 0 0 0,J,k7 (L5 s (yN Y) s.n.toNat),sP 1 0 0,eI v]++Jn 34,[frB C6,frB (fz (S6 s (yN Y)))])) s.n.toNat (fun k=>(List.range k).all (fun v=>decide (J4 s (yN Y) v<=y5 g v))=true) [some 0,some 1] rfl
  ⟨rfl,rfl,⟨⟨rfl,rfl,rfl,.inr rz⟩,⟨rfl,rfl,rfl,.inl ⟨rfl,y3 _⟩⟩,trivial⟩,rz⟩ ?_
 intro v hv hI;by_cases hlt:v<s.n.toNat
 ·have c1:=b0u (L5 s (yN Y) s.n.toNat) v mr om om;rw [ap0 hlt] at c1;have c2:=b0u g v ht hg om;have b1:=hq.n v s.rows.length;have b2:=b29 hgb v;have b1:rl (J4 s (yN Y) v)<=50000:=b1;have cm:=aA6 (J4 s (yN Y) v) (y5 g v) om om;have k2:=a1b (x:=J4 s (yN Y) v) (y:=y5 g v);generalize a1p (J4 s (yN Y) v) (y5 g v)=U at cm k2;by_cases hok:U > 0
  ·have hF:decide (J4 s (yN Y) v<=y5 g v)=false:=lbI (a5E.2 (k2.1 hok));have e:a3o s g Y=.tup [frS C6,i9 false]:=by
    unfold a3o;rw [eb,a3Y (n:=s.n.toNat) hlt hF];rfl
   rw [e];clear k2;conv=>whnf
   repeat' (first|refine zx ?_|apply zD<;>intro h<;>try omega)<;>conv=>whnf
   all_goals first|omega|exact m9 rz
  ·have hT:decide (J4 s (yN Y) v<=y5 g v)=true:=lbG (lb3.1 (fun h=>hok (k2.2 h)));clear k2;conv=>whnf
   repeat' (first|refine zx ?_|apply zD<;>intro h<;>try omega)<;>conv=>whnf
   all_goals first|omega|exact ⟨hlt,by rw [a26,hI,hT];rfl,[some 0,some 1],rfl,rfl,⟨⟨rfl,rfl,rfl,.inr rz⟩,⟨rfl,rfl,rfl,.inl ⟨rfl,y3 _⟩⟩,trivial⟩,rz⟩
 ·have hke:v=s.n.toNat:=by omega
  subst hke;have e:a3o s g Y=.tup [frS (fz (S6 s (yN Y))),i9 true]:=by
   unfold a3o;rw [eb,hI];rfl
  rw [e];conv=>whnf
  repeat' (first|refine zx ?_|apply zD<;>intro h<;>try omega)<;>conv=>whnf
  all_goals first|omega|exact m9 rz
def a7G {P:Program} {g:FuncId} {x y:S} {H H':Hp} {r:S} (h:d6 P g [x,k7 [],y] H r H'):d6 P g [x,.c (.t (.sl 0 .nil [])),y] H r H':=by
 refine a3Q h rfl fun w ι M j a b v hx hy hr=>?_
 rcases j with _|_|_|j
 ·injection hx with hx;injection hy with hy;subst hx hy;exact hr
 ·injection hx with hx;injection hy with hy;subst hx hy
  cases hr with
  |c hr=>cases hr with
   |t hr=>exact .c (.t (hr.weak rfl))
 ·injection hx with hx;injection hy with hy;subst hx hy;exact hr
 ·simp at hx
def as9 (s:i8) (Y:List Rat):Bool:=a23 s [] Y && decide (0<S6 s (yN Y))
def az7 (s:i8) (hb:T9 s) (hr:j6 s=true) (Y:List Rat) (hy:∀v ∈ Y,rl v<=40000) (hyl:Y.length<=1000000) (hq:Y.length=s.rows.length->a8m s Y):
 ec 88 [D8 s,n6 (Y.map fz)] [] (i9 (as9 s Y)) []:=by
 have lo:=a7G (aF7 s hb hr [] zq (fun t ht=>by cases ht) Y hy hyl hq);unfold a3o at lo;unfold as9;cases hB:a23 s [] Y with
 |false=>
  rw [hB,if_neg de] at lo;refine ac Tryz.func88 ?_;conv=>whnf
  repeat' (first|refine zx ?_|refine bl0 [5] ?_|apply zD<;>intro<;>try omega)<;>conv=>whnf
  all_goals first
   |(exfalso;simp_all;done)
   |exact d9 rfl
 |true=>
  rw [hB] at lo;have hl:Y.length=s.rows.length:=by
   unfold a23 a06 at hB;simp only [lbM,lbH] at hB;exact hB.1.1.1
  have b:=(hq hl).v s.rows.length;have b:rl (S6 s (yN Y))<=50000:=b;have sg:=a4z (S6 s (yN Y)) om;have sp:=a2X (x:=S6 s (yN Y));have e:decide (0<S6 s (yN Y))=decide (sgR (S6 s (yN Y)) > 0):=by rw [decide_eq_decide];exact sp.symm
  rw [e];rw [if_pos rfl] at lo;generalize sgR (S6 s (yN Y))=U at sg;clear sp e;refine ac Tryz.func88 ?_;conv=>whnf
  repeat' (first|refine zx ?_|refine bl0 [5] ?_|apply zD<;>intro<;>try omega)<;>conv=>whnf
  all_goals first|(exfalso;simp_all;done)|(refine d9 ?_;rw [C2];exact (lbG om).symm)|(refine d9 ?_;rw [C2];exact (lbI om).symm)
structure a6D (z:List Fr):Prop where
 l:z.length<=1000000
 d:∀f ∈ z,f.p.dl.length<=200000∧f.q.dl.length<=200000
def b5k {Z:List Rat} (hl:Z.length<=1000000) (h:∀v ∈ Z,rl v<=200000):a6D (Z.map fz):=⟨by simpa using hl,fun f hf=>by
 obtain ⟨x,hx,rfl⟩:=lbw.1 hf;have:=h x hx;have a:=E0 x;have b:=D5 x;exact ⟨by show bl x.num<=_;omega,by show bl x.den<=_;omega⟩⟩
def b4L (s:i8) (hb:T9 s) (hr:j6 s=true) (y:List Fr) (hy:a6D y):
 ec 231 [D8 s,n6 y] [] (i9 (decide (y.length=s.rows.length) && y.all t7)) []:=by
 have m1:(s.rows.map p4).length=s.rows.length:=zq;have m2:(y.map o4).length=y.length:=zq;have l1:=hb.n0;have l2:=hy.l;have lr:=a3r s hb;rw [hr] at lr;by_cases hn:y.length≠s.rows.length
 ·rw [lbI hn,a2i];refine ac Tryz.func231 ?_;conv=>whnf
  repeat' (first|refine zx ?_|apply zD<;>intro<;>try omega)<;>conv=>whnf
  all_goals first|omega|exact d9 rfl
 have hn:y.length=s.rows.length:=om;rw [lbG hn,C2];refine ac Tryz.func231 ?_;conv=>whnf
 repeat' (first|refine zx ?_|apply zD<;>intro<;>try omega)<;>conv=>whnf
 all_goals try omega
 refine j3 d7 (fun k=>(Jn 18++[n6 y,eI y.length,eI k]++Jn 7,[])) y.length (fun k=>(y.take k).all t7=true) [] rfl
  ⟨rfl,rfl,trivial,⟨rfl,e7 zq,rz⟩⟩ ?_
 intro k hk hI;by_cases hlt:k<y.length
 ·obtain ⟨x,hx⟩:∃x,y[k]? =some x:=⟨_,lbf hlt⟩;obtain ⟨d1,d2⟩:=hy.d x (lbm hx);have rr:=a87 x d1 d2;cases hq:t7 x with
  |true=>
   rw [hq] at rr;conv=>whnf
   repeat' (first|refine zx ?_|refine i6 hx ?_|apply zD<;>intro<;>try omega)<;>conv=>whnf
   all_goals first
    |omega
    |exact ⟨hlt,by rw [t5 hx,hI,hq];rfl,[],rz⟩
  |false=>
   rw [hq] at rr;rw [x7 hx hq];conv=>whnf
   repeat' (first|refine zx ?_|refine i6 hx ?_|apply zD<;>intro<;>try omega)<;>conv=>whnf
   all_goals first|omega|exact d9 rfl
 ·rw [lbn om] at hI;rw [hI];conv=>whnf
  repeat' (first|refine zx ?_|apply zD<;>intro<;>try omega)<;>conv=>whnf
  all_goals first|omega|exact d9 rfl
def b28 (s:i8) (hb:T9 s) (hr:j6 s=true) (Y:List Rat) (hl:Y.length<=1000000) (hy:∀v ∈ Y,rl v<=200000):
 ec 231 [D8 s,n6 (Y.map fz)] [] (i9 (decide (Y.length=s.rows.length))) []:=by
 have h:=b4L s hb hr (Y.map fz) (b5k hl hy);rw [a6d,a8P,lbr] at h;exact h
def a9J (s:i8) (hb:T9 s) (hr:j6 s=true) (y:List Fr) (hy:a6D y) (h:(decide (y.length=s.rows.length) && y.all t7)=false):
 ec 152 [D8 s,n6 y] [] (i9 false) []:=by
 have mu:=b4L s hb hr y hy;rw [h] at mu;refine ac Tryz.func152 ?_;conv=>whnf
 repeat' (first|refine zx ?_|apply zD<;>intro h<;>try omega)<;>conv=>whnf
 all_goals exact d9 rfl
def b3M (s:i8) (hb:T9 s) (hr:j6 s=true) (Y:List Rat) (hl:Y.length<=1000000) (hy:∀v ∈ Y,rl v<=50000):
 ec 152 [D8 s,n6 (Y.map fz)] [] (i9 (a06 s Y)) []:=by
 have m1:(s.rows.map p4).length=s.rows.length:=zq;have m2:((Y.map fz).map o4).length=Y.length:=zq;have l1:=hb.n0;have mu:=b28 s hb hr Y hl (fun v hv=>by have:=hy v hv;omega);by_cases hn:Y.length≠s.rows.length
 ·have e2:a06 s Y=false:=by unfold a06;rw [lbI hn];simp
  rw [e2];exact a9J s hb hr (Y.map fz) (b5k hl (fun v hv=>by have:=hy v hv;omega)) (by rw [lbI (by simpa using hn)];rfl)
 have hn:Y.length=s.rows.length:=om;have e2:a06 s Y=(List.range s.rows.length).all (sgB s Y):=by unfold a06;rw [lbG hn];simp
 rw [e2];rw [lbG hn] at mu
 (refine ac Tryz.func152 ?_;(conv=>whnf);repeat ((first|refine b0x ?_|refine zy ?_);conv=>whnf))
 repeat' (first|refine zx ?_|apply zD<;>intro<;>try omega)<;>conv=>whnf
 refine j3 d7 (fun k=>([J,J,S.c (C.t (T.ptr [ti s.n,G5 s.rows])),J,J,J,J,J,J,J,J,J,n6 (Y.map fz),eI Y.length,eI k]++Jn 21,[])) Y.length (fun k=>(List.range k).all (sgB s Y)=true) [] rfl
  ⟨rfl,rfl,trivial,⟨rfl,rfl,e7 zq,rz⟩⟩ ?_
 intro k hk hI;by_cases hlt:k<Y.length
 ·obtain ⟨x,hx⟩:∃x,Y[k]? =some x:=⟨_,lbf hlt⟩;obtain ⟨w,hw⟩:∃w,s.rows[k]? =some w:=⟨_,lbf om⟩;have bx:=hy x (lbm hx);have sg:=R6 x om;have es:sgB s Y k=decide ((w.kind=0->¬sgR x<0)∧(w.kind=1->¬sgR x > 0)):=by
   unfold sgB;rw [O3 hw,ao7 hx,a7m,decide_eq_true_iff,a2X,aJ4];simp;grind
  generalize sgR x=U at sg es;by_cases hok:(w.kind=0->¬U<0)∧(w.kind=1->¬U > 0)
  ·rw [lbG hok] at es;obtain ⟨q1,q2⟩:=hok;conv=>whnf
   repeat' (first|refine zx ?_|refine i6 (W0 Y hx) ?_|refine i6 hw ?_|apply zD<;>intro<;>try omega)<;>conv=>whnf
   all_goals first|omega|exact ⟨hlt,by rw [a26,hI,es];rfl,[],rz⟩
  ·rw [lbI hok] at es;rw [a3Y (n:=s.rows.length) om es];have hor:(w.kind=0∧U<0)∨(w.kind=1∧U > 0):=om;clear hok;conv=>whnf
   repeat' (first|refine zx ?_|refine i6 (W0 Y hx) ?_|refine i6 hw ?_|apply zD<;>intro<;>try omega)<;>conv=>whnf
   all_goals first|omega|exact d9 rfl
 ·have hke:k=s.rows.length:=by omega
  subst hke;rw [hI];conv=>whnf
  repeat' (first|refine zx ?_|apply zD<;>intro<;>try omega)<;>conv=>whnf
  all_goals first|omega|exact d9 rfl
def b6F (a b c:Rat) (ha:rl a<=60000) (hb:rl b<=50000) (hc:rl c<=200):ec 232 [frS (fz a),frS (fz b),frS (fz c)] [] (frS (fz (a+b*c))) []:=by
 have l:=a39 b c;have mu:=aK8 b c om om;have ad:=a60 a (b*c) om om;refine ac Tryz.func232 ?_;conv=>whnf
 repeat' (first|refine zx ?_|refine bl0 [5] ?_|refine bl0 [4] ?_|apply zD<;>intro<;>try omega)<;>conv=>whnf
 all_goals exact aV4 rfl
def ab5 (s:i8) (y:Nat->Rat) (i k:Nat):Nat->Rat:=fun v=>Q4 s y v i+y i*J5 (A6 s i).terms k v
def b3P (s:i8) (y:Nat->Rat) (i:Nat):ab5 s y i 0=fun v=>Q4 s y v i:=by
 funext v;show _+_*(0:Rat)=_;grind
def b6E (s:i8) (y:Nat->Rat) (i:Nat):ab5 s y i (A6 s i).terms.length=fun v=>Q4 s y v (i+1):=rfl
def b3L {s:i8} {y:Nat->Rat} {i k:Nat} {n:Int} {t:Int × Rat} (hr:j2 (-1) n (A6 s i).terms=true) (ht:(A6 s i).terms[k]? =some t):
 ab5 s y i k t.1.toNat=Q4 s y t.1.toNat i∧(fun j=>if j=t.1.toNat then Q4 s y t.1.toNat i+y i*t.2 else ab5 s y i k j)=ab5 s y i (k+1):=by
 have z:J5 (A6 s i).terms k t.1.toNat=0:=a09 _ fun a u ha hu=>by
  have h1:=a2v hr a k u t ha hu ht;have h2:=v8 hr u (lbm hu);have h3:=v8 hr t (lbm ht);omega
 refine ⟨by unfold ab5;rw [z];grind,?_⟩;funext j;unfold ab5;rw [G0 ht];simp only;by_cases h:j=t.1.toNat
 ·subst h;rw [if_pos rfl,if_pos rfl]
 ·rw [if_neg h,if_neg h]
def bm6 (s:i8) (hb:T9 s) (hr:j6 s=true) (Y:List Rat) (hq:a8m s Y) (hn1:s.n<=1000):
 ec 154 [D8 s,n6 (Y.map fz)] [] (.tup [k7 (L5 s (yN Y) s.n.toNat),frS (fz (S6 s (yN Y)))]) []:=by
 have m1:(s.rows.map p4).length=s.rows.length:=zq;have m2:((Y.map fz).map o4).length=Y.length:=zq;have l1:=hb.n0;have hn:=hq.l;have hm:=hq.m;have h0n:=(Q9 hr);obtain ⟨n,hnn⟩:∃n:Nat,s.n.toNat=n:=⟨_,rfl⟩;have en:s.n=n:=om;have mu:=b28 s hb hr Y om (fun v hv=>by have:=hq.y v hv;omega);rw [lbG hn] at mu;have i0:=O7 0 de de;rw [hnn];rw [show D8 s=.agg [.t (ti (n:Int)),.t (G5 s.rows)] by rw [← en]] at mu ⊢
 (refine ac Tryz.func154 ?_;(conv=>whnf);repeat ((first|refine b0x ?_|refine zy ?_);conv=>whnf))
 repeat' (first|refine zx ?_|refine a1g om om om de ?_|apply zD<;>intro h<;>try omega)<;>conv=>whnf
 refine j3 d7 (fun k=>([J,n6 (Y.map fz),S.c (C.t (T.ptr [ti (n:Int),G5 s.rows])),J,J,sP 0 0 0,S.c (C.own 1 0 n true)]++Jn 18++[eI n,eI k]++Jn 72,[frB C6,flB (pZ k n)])) n tT [some 0,some 1] trivial
  ⟨rfl,rfl,⟨⟨rfl,rfl,rfl,.inr rz⟩,⟨rfl,rfl,rfl,.inr (a0s ?_ ?_)⟩,trivial⟩,⟨rfl,rfl,rz,⟨rfl,rfl,om,fun h=>h⟩,e7 om,e7 rfl,trivial⟩⟩ ?_
 ·simp [D4,toC,a98]
 ·intro i x y hx hy;simp only [D4,lbk] at hx;split at hx
  ·rename_i hi;injection hx with hx;subst hx;have hy:(toC ((pZ 0 n).map o4))[i]? =some y:=hy;rw [toC,lba,lba,a37 om,if_neg om] at hy;injection hy with hy;subst hy;exact rz
  ·cases hx
 intro k hk _;by_cases hlt:k<n
 ·obtain ⟨pf,hpf⟩:∃pf,(pZ k n)[k]? =some pf:=⟨_,a37 hlt⟩;have gp:(pZ k n)[0+(k:Int).toNat]? =some pf:=by rw [P9,show (k:Int).toNat=k by omega];exact hpf
  have eM:0+(k:Int).toNat=k:=om;conv=>whnf
  repeat' (first|refine zx ?_|refine s8 gp ?_|apply zD<;>intro h<;>try omega)<;>conv=>whnf
  all_goals first
   |omega
   |(refine ⟨hlt,trivial,[some 0,some 1],rfl,rfl,⟨⟨rfl,rfl,rfl,.inr rz⟩,e8 (rows:=(pZ (k+1) n).map o4) rfl rfl rfl ?_ rfl,trivial⟩,⟨rfl,rfl,rz,⟨rfl,rfl,rfl,fun h=>h⟩,rfl,e7 om,trivial⟩⟩
     have e:=J9 (row:=pZ k n) (y:=fz 0) eM;rw [b0h hlt] at e;exact congrArg Blk.rows e)
 have hke:k=n:=om;subst hke;conv=>whnf
 repeat' (first|refine zx ?_|apply zD<;>intro h<;>try omega)<;>conv=>whnf
 all_goals try omega
 refine j3 d7 (fun i=>([J,J,S.c (C.t (T.ptr [ti (k:Int),G5 s.rows])),J,J,sP 0 0 0,S.c (C.own 1 0 k true),J,sP 2 0 0]++Jn 26++[n6 (Y.map fz),eI Y.length,eI i]++Jn 61,[frB C6,flB (rF k fun v=>Q4 s (yN Y) v i),frB (fz (Y6 s (yN Y) i))])) Y.length tT [some 0,some 1,some 2] trivial
  ⟨rfl,rfl,⟨⟨rfl,rfl,rfl,.inr rz⟩,e8 (rows:=(rF k fun _=>0).map o4) rfl rfl rfl (by rw [← ai9]) rfl,⟨rfl,rfl,rfl,.inl ⟨rfl,y3 _⟩⟩,trivial⟩,⟨rfl,rz,⟨rfl,rfl,rfl,fun h=>h⟩,rz,rfl,e7 zq,rz⟩⟩ ?_
 intro i hi _;by_cases hil:i<Y.length
 ·obtain ⟨x,hx⟩:∃x,Y[i]? =some x:=⟨_,lbf hil⟩;obtain ⟨w,hw⟩:∃w,s.rows[i]? =some w:=⟨_,lbf om⟩;obtain ⟨b1,b2,b3⟩:=hb.t w (lbm hw);have hrt:=(a1A hr hw).1;have bx:=hq.y x (lbm hx);have eyx:yN Y i=x:=ao7 hx;have erw:A6 s i=w:=O3 hw;have mv:=hq.v i;have sg:=R6 x om;have sz:=a1e (x:=x);have pv:=b6F (Y6 s (yN Y) i) x w.value om om b3;have ev:Y6 s (yN Y) i+x*w.value=Y6 s (yN Y) (i+1):=by
   show _=Y6 s (yN Y) i+yN Y i*(A6 s i).value;rw [erw,eyx]
  rw [ev] at pv;by_cases hx0:x=0
  ·have hs:=sz.2 hx0;have e1:(fun v=>Q4 s (yN Y) v (i+1))=fun v=>Q4 s (yN Y) v i:=by
    funext v;show Q4 s (yN Y) v i+yN Y i*_=_;rw [eyx,hx0];grind
   have e2:Y6 s (yN Y) (i+1)=Y6 s (yN Y) i:=by
    show Y6 s (yN Y) i+yN Y i*_=_;rw [eyx,hx0];grind
   rw [e1,e2];conv=>whnf
   repeat' (first|refine zx ?_|refine i6 (W0 Y hx) ?_|apply zD<;>intro h<;>try omega)<;>conv=>whnf
   all_goals first|omega|exact ⟨hil,trivial,[some 0,some 1,some 2],rfl,rfl,⟨⟨rfl,rfl,rfl,.inr rz⟩,j0 (i5 _),⟨rfl,rfl,rfl,.inl ⟨rfl,y3 _⟩⟩,trivial⟩,⟨rfl,rz,⟨rfl,rfl,rfl,fun h=>h⟩,rz,rfl,rfl,e7 om,trivial⟩⟩
  ·have hs:sgR x≠0:=fun h=>hx0 (sz.1 h)
   have m4:(w.terms.map o7).length=w.terms.length:=zq;conv=>whnf
   repeat' (first|refine zx ?_|refine i6 (W0 Y hx) ?_|refine i6 hw ?_|apply zD<;>intro h<;>try omega)<;>conv=>whnf
   all_goals try omega
   refine j3 d7 (fun j=>([J,J,S.c (C.t (T.ptr [ti (k:Int),G5 s.rows])),J,J,sP 0 0 0,S.c (C.own 1 0 k true),J,sP 2 0 0,eI i,sP 3 0 0]++Jn 24++[n6 (Y.map fz),eI Y.length,eI i]++Jn 12++[k7 w.terms,eI w.terms.length,eI j]++Jn 46,[frB C6,flB (rF k (ab5 s (yN Y) i j)),frB (fz (Y6 s (yN Y) i)),frB (fz x)])) w.terms.length tT [some 0,some 1,some 2,some 3] trivial
    ⟨rfl,rfl,⟨⟨rfl,rfl,rfl,.inr rz⟩,e8 (rows:=(rF k fun v=>Q4 s (yN Y) v i).map o4) rfl rfl rfl rfl (by rw [b3P]),⟨rfl,rfl,rfl,.inl ⟨rfl,y3 _⟩⟩,⟨rfl,rfl,rfl,.inl ⟨rfl,y3 _⟩⟩,trivial⟩,⟨rfl,rz,⟨rfl,rfl,rfl,fun h=>h⟩,rz,rfl,rz,rfl,rfl,rfl,rfl,e7 zq,rz⟩⟩ ?_
   intro j hj _;by_cases hjl:j<w.terms.length
   ·obtain ⟨t,ht⟩:∃t,w.terms[j]? =some t:=⟨_,lbf hjl⟩;have tm:=v8 hrt t (lbm ht);have tb:=b2 t (lbm ht);obtain ⟨p1,p2⟩:=b3L (s:=s) (y:=yN Y) (i:=i) (k:=j) (n:=(s.n.toNat:Nat)) (t:=t) (by rw [erw];exact hrt) (by rw [erw];exact ht);have bm:=hq.n t.1.toNat i;have ad:=b6F (Q4 s (yN Y) t.1.toNat i) x t.2 om om tb;have hv:t.1.toNat<k:=om;have g1:(rF k (ab5 s (yN Y) i j))[0+t.1.toNat]? =some (fz (Q4 s (yN Y) t.1.toNat i)):=by rw [P9,G4 hv,p1]
    have eM:0+t.1.toNat=t.1.toNat:=om;rw [eyx] at p2;conv=>whnf
    repeat' (first|refine zx ?_|refine i6 ht ?_|refine s8 g1 ?_|apply zD<;>intro h<;>try omega)<;>conv=>whnf
    all_goals first
     |omega
     |(refine ⟨hjl,trivial,[some 0,some 1,some 2,some 3],rfl,rfl,⟨⟨rfl,rfl,rfl,.inr rz⟩,e8 (rows:=(rF k (ab5 s (yN Y) i (j+1))).map o4) rfl rfl rfl ?_ rfl,⟨rfl,rfl,rfl,.inl ⟨rfl,y3 _⟩⟩,⟨rfl,rfl,rfl,.inl ⟨rfl,y3 _⟩⟩,trivial⟩,⟨rfl,rz,⟨rfl,rfl,rfl,fun h=>h⟩,rz,rfl,rz,rfl,rfl,rfl,rfl,rfl,e7 om,trivial⟩⟩
       have e:=J9 (row:=rF k (ab5 s (yN Y) i j)) (y:=fz (Q4 s (yN Y) t.1.toNat i+x*t.2)) eM;rw [X6 hv,p2] at e;exact congrArg Blk.rows e)
   ·have hje:j=w.terms.length:=by omega
    subst hje;have e3:ab5 s (yN Y) i w.terms.length=fun v=>Q4 s (yN Y) v (i+1):=by rw [← erw];exact b6E s (yN Y) i
    rw [e3];conv=>whnf
    repeat' (first|refine zx ?_|refine i6 hw ?_|apply zD<;>intro h<;>try omega)<;>conv=>whnf
    all_goals first|omega|exact ⟨hil,trivial,[some 0,some 1,some 2],rfl,rfl,⟨⟨rfl,rfl,rfl,.inr rz⟩,j0 (i5 _),⟨rfl,rfl,rfl,.inl ⟨rfl,y3 _⟩⟩,trivial⟩,⟨rfl,rz,⟨rfl,rfl,rfl,fun h=>h⟩,rz,rfl,rfl,e7 om,trivial⟩⟩
 have hie:i=s.rows.length:=om;subst hie;have e4:(fun v=>Q4 s (yN Y) v s.rows.length)=J4 s (yN Y):=rfl;have e5:Y6 s (yN Y) s.rows.length=S6 s (yN Y):=rfl;rw [e4,e5];conv=>whnf
 repeat' (first|refine zx ?_|apply zD<;>intro h<;>try omega)<;>conv=>whnf
 all_goals try omega
 refine j3 d7 (fun v=>([J,J,J,J,J,sP 0 0 0,J,J,sP 2 0 0,J,J,J,J,S.c (C.own 3 0 (L5 s (yN Y) v).length true)]++Jn 66++[S.c (C.own 1 0 k true),eI k,eI v]++Jn 16,[frB C6,flB (rF k (J4 s (yN Y))),frB (fz (S6 s (yN Y))),Q1 (L5 s (yN Y) v)])) k tT [some 0,some 1,some 2,none] trivial
  ⟨rfl,rfl,⟨⟨rfl,rfl,rfl,.inr rz⟩,j0 (i5 _),⟨rfl,rfl,rfl,.inl ⟨rfl,y3 _⟩⟩,rz⟩,⟨rz,rz,rz,⟨rfl,rfl,rfl,fun h=>h⟩,rfl,e7 rfl,trivial⟩⟩ ?_
 intro v hv _;have lv:=af7 s (yN Y) v;by_cases hlt:v<k
 ·have bm:=hq.n v s.rows.length;have em:Q4 s (yN Y) v s.rows.length=J4 s (yN Y) v:=rfl;rw [em] at bm;have sg:=R6 (J4 s (yN Y) v) om;have sz:=a1e (x:=J4 s (yN Y) v);have g1:(rF k (J4 s (yN Y)))[0+(v:Int).toNat]? =some (fz (J4 s (yN Y) v)):=by rw [P9,show (v:Int).toNat=v by omega,G4 hlt]
  have lA:(L5 s (yN Y) v).length<=(Q1 (L5 s (yN Y) v)).rows.length:=by show _<=(toC _).length;simp [toC]
  by_cases hz:J4 s (yN Y) v=0
  ·have hs:=sz.2 hz;have e2:L5 s (yN Y) (v+1)=L5 s (yN Y) v:=by rw [a6k,if_pos hz]
   rw [e2];conv=>whnf
   repeat' (first|refine zx ?_|refine s8 g1 ?_|apply zD<;>intro h<;>try omega)<;>conv=>whnf
   all_goals first|omega|exact ⟨hlt,trivial,[some 0,some 1,some 2,some 3],rfl,rfl,⟨⟨rfl,rfl,rfl,.inr rz⟩,j0 (i5 _),⟨rfl,rfl,rfl,.inl ⟨rfl,y3 _⟩⟩,j0 (i5 _),trivial⟩,⟨rz,rz,⟨rfl,rfl,rfl,fun h=>h⟩,⟨rfl,rfl,rfl,fun h=>h⟩,rfl,e7 om,trivial⟩⟩
  ·have hs:sgR (J4 s (yN Y) v)≠0:=fun h=>hz (sz.1 h)
   have e2:L5 s (yN Y) (v+1)=L5 s (yN Y) v++[((v:Int),J4 s (yN Y) v)]:=by rw [a6k,if_neg hz]
   rw [e2];conv=>whnf
   repeat' (first|refine zx ?_|refine s8 g1 ?_|refine w6 lA zu ?_|apply zD<;>intro h<;>try omega)<;>conv=>whnf
   all_goals first
    |omega
    |(refine ⟨hlt,trivial,[some 0,some 1,some 2,some 5],rfl,rfl,⟨⟨rfl,rfl,rfl,.inr rz⟩,j0 (i5 _),⟨rfl,rfl,rfl,.inl ⟨rfl,y3 _⟩⟩,e8 (rows:=(L5 s (yN Y) v++[((v:Int),J4 s (yN Y) v)]).map o7) rfl rfl rfl ?_ rfl,trivial⟩,⟨rz,rz,⟨rfl,rfl,?_,fun h=>h⟩,⟨rfl,rfl,rfl,fun h=>h⟩,rfl,e7 om,trivial⟩⟩
      ·exact Y0 (f:=o7) (x:=((v:Int),J4 s (yN Y) v)) rfl
      ·simp [toC])
 ·have hke:v=k:=by omega
  subst hke;conv=>whnf
  repeat' (first|refine zx ?_|apply zD<;>intro h<;>try omega)<;>conv=>whnf
  all_goals first|omega|exact m9 ⟨(show VC _ (fun id=>L9 [] id=true) (C.own 3 0 _ true) _ from u5 (k:=Q1 (L5 s (yN Y) v)) rfl rfl (fun h=>h) rfl rfl zq),rz⟩
def aA8 {t:Int × Rat} {r:List (Int × Rat)} (h:∀u ∈ r,u.1.toNat≠t.1.toNat) (v:Nat):∀k,k<=r.length->J5 (t::r) (k+1) v=if v=t.1.toNat then t.2 else J5 r k v
 |0,_=>by
  rw [G0 (l:=t::r) (k:=0) (t:=t) rfl];simp only;by_cases h1:v=t.1.toNat
  ·rw [if_pos h1,if_pos h1]
  ·rw [if_neg h1,if_neg h1]
   rfl
 |k+1,hk=>by
  have hx:r[k]? =some r[k]:=lbf om;have hne:=h _ (lbm hx);rw [G0 (l:=t::r) (k:=k+1) (t:=r[k]) zq,G0 hx];have ih:=aA8 h v k om;simp only;rw [ih];by_cases h1:v=t.1.toNat
  ·rw [if_pos h1,if_pos h1,if_neg om]
  ·rw [if_neg h1,if_neg h1]
def M7 {last n:Int} {t:Int × Rat} {r:List (Int × Rat)} (h0:-1<=last) (h:j2 last n (t::r)=true) (v:Nat):y5 (t::r) v=if v=t.1.toNat then t.2 else y5 r v:=by
 refine aA8 (fun u hu=>?_) v r.length (lbQ _);obtain ⟨j,hj,he⟩:=a1k hu;have h1:=a2v h 0 (j+1) t u om rfl (by simp [he,hj]);have h2:=v8 h t (a0P ..);omega
def O6 {last n:Int} {t:Int × Rat} {r:List (Int × Rat)} (h:j2 last n (t::r)=true):j2 t.1 n r=true:=by
 unfold j2 at h;simp only [lbM] at h;exact h.2
def a3j {last n:Int} {l:List (Int × Rat)} (h0:-1<=last) (h:j2 last n l=true) {v:Nat} (hv:(v:Int)<=last):y5 l v=0:=by
 refine a09 _ fun i t hi ht e=>?_
 have:=v8 h t (lbm ht);omega
def ac1 (a b:List (Int × Rat)):Prop:=∀v,y5 a v<=y5 b v
def aZ7 {last n:Int} {t:Int × Rat} {r b:List (Int × Rat)} (h0:-1<=last) (ha:j2 last n (t::r)=true) (hb:j2 t.1 n b=true):ac1 (t::r) b↔t.2<=0∧ac1 r b:=by
 have hm:=v8 ha t (a0P ..);have z1:=a3j (v:=t.1.toNat) om hb om;have z2:=a3j (v:=t.1.toNat) om (O6 ha) om;constructor
 ·intro h;refine ⟨?_,fun v=>?_⟩
  ·have:=h t.1.toNat;rw [M7 h0 ha,if_pos rfl,z1] at this;exact this
  ·by_cases hv:v=t.1.toNat
   ·subst hv;rw [z1,z2];exact lb2
   ·have:=h v;rwa [M7 h0 ha,if_neg hv] at this
 ·rintro ⟨h1,h2⟩ v;rw [M7 h0 ha];by_cases hv:v=t.1.toNat
  ·rw [if_pos hv,hv,z1];exact h1
  ·rw [if_neg hv];exact h2 v
def ax8 {last n:Int} {u:Int × Rat} {a q:List (Int × Rat)} (h0:-1<=last) (hb:j2 last n (u::q)=true) (ha:j2 u.1 n a=true):ac1 a (u::q)↔0<=u.2∧ac1 a q:=by
 have hm:=v8 hb u (a0P ..);have z1:=a3j (v:=u.1.toNat) om ha om;have z2:=a3j (v:=u.1.toNat) om (O6 hb) om;constructor
 ·intro h;refine ⟨?_,fun v=>?_⟩
  ·have:=h u.1.toNat;rw [M7 h0 hb,if_pos rfl,z1] at this;exact this
  ·by_cases hv:v=u.1.toNat
   ·subst hv;rw [z1,z2];exact lb2
   ·have:=h v;rwa [M7 h0 hb,if_neg hv] at this
 ·rintro ⟨h1,h2⟩ v;rw [M7 h0 hb];by_cases hv:v=u.1.toNat
  ·rw [if_pos hv,hv,z1];exact h1
  ·rw [if_neg hv];exact h2 v
def b70 {last n:Int} {t u:Int × Rat} {r q:List (Int × Rat)} (h0:-1<=last) (ha:j2 last n (t::r)=true) (hb:j2 last n (u::q)=true) (he:t.1=u.1):ac1 (t::r) (u::q)↔t.2<=u.2∧ac1 r q:=by
 have hm:=v8 ha t (a0P ..);have z1:=a3j (v:=t.1.toNat) om (O6 ha) om;have z2:=a3j (v:=t.1.toNat) om (O6 hb) om;constructor
 ·intro h;refine ⟨?_,fun v=>?_⟩
  ·have:=h t.1.toNat;rwa [M7 h0 ha,M7 h0 hb,if_pos rfl,if_pos (by rw [he])] at this
  ·by_cases hv:v=t.1.toNat
   ·subst hv;rw [z1,z2];exact lb2
   ·have:=h v;rwa [M7 h0 ha,M7 h0 hb,if_neg hv,if_neg (by rw [← he];exact hv)] at this
 ·rintro ⟨h1,h2⟩ v;rw [M7 h0 ha,M7 h0 hb,←he];by_cases hv:v=t.1.toNat
  ·rw [if_pos hv,if_pos hv];exact h1
  ·rw [if_neg hv,if_neg hv];exact h2 v
open Classical in
noncomputable def at5 (a b:List (Int × Rat)):Bool:=decide (ac1 a b)
def a5V {a b:List (Int × Rat)}:at5 a b=true↔ac1 a b:=by unfold at5;simp
def a7O {a b a' b':List (Int × Rat)} {p:Prop} (h:ac1 a b↔p∧ac1 a' b') (hp:p):at5 a b=at5 a' b':=by
 rw [a7m,a5V,a5V,h];exact ⟨fun h=>h.2,fun h=>⟨hp,h⟩⟩
def a7V {a b a' b':List (Int × Rat)} {p:Prop} (h:ac1 a b↔p∧ac1 a' b') (hp:¬p):at5 a b=false:=by
 rw [← lbP,a5V,h];exact fun h=>hp h.1
def b4o (u:Int × Rat) (q:List (Int × Rat)):T.sl 5 (a0I SK.any none none) (List.drop (Int.toNat 1) (List.take (((((u::q).map o7).length:Nat):Int)).toNat ((u::q).map o7)))=.sl 5 .any (q.map o7):=by
 rw [lbn om];rfl
def b8G (n:Int) (a b:List (Int × Rat)) (ha:j2 (-1) n a=true) (hb:j2 (-1) n b=true) (hn:n<=1500) (ba:∀t ∈ a,rl t.2<=60000) (bb:∀t ∈ b,rl t.2<=60000):
 ec 155 [k7 a,k7 b] [] (i9 (at5 a b)) []:=by
 have i0:=O7 0 de de;have r0:=rl0;refine ac Tryz.func155 ?_;conv=>whnf
 repeat' (first|refine zx ?_|apply zD<;>intro h<;>try omega)<;>conv=>whnf
 refine p9 d7 (σ:=Int × List (Int × Rat) × List (Int × Rat)) (fun x=>([k7 x.2.1,k7 x.2.2,J,J,J,sP 0 0 0]++Jn 71,[frB (fz ((0:Int):Rat))])) (fun x=>-1<=x.1∧j2 x.1 n x.2.1=true∧j2 x.1 n x.2.2=true∧(∀ t ∈ x.2.1,rl t.2<=60000)∧(∀ t ∈ x.2.2,rl t.2<=60000)∧at5 a b=at5 x.2.1 x.2.2) (fun x=>x.2.1.length+x.2.2.length) (-1,a,b) [some 0]
  ⟨Int.le_refl _,ha,hb,ba,bb,rfl⟩ ⟨rfl,rfl,⟨⟨rfl,rfl,rfl,.inl ⟨rfl,y3 _⟩⟩,trivial⟩,rz⟩ ?_
 rintro ⟨last,a',b'⟩ ⟨h0,h1,h2,h3,h4,h5⟩;simp only at h0 h1 h2 h3 h4 h5;rw [h5];show a4U _ _ _ _ ([k7 a',k7 b',J,J,J,sP 0 0 0]++Jn 71) [frB (fz ((0:Int):Rat))] _;have ma:(a'.map o7).length=a'.length:=zq;have mb:(b'.map o7).length=b'.length:=zq;have lena:=s9 h1;have lenb:=s9 h2;clear h5;cases a' with
 |nil=>
  have na:([]:List (Int × Rat)).length=0:=rfl;cases b' with
  |nil=>
   have e:at5 [] []=true:=a5V.2 fun v=>lb2
   rw [e];conv=>whnf
   repeat' (first|refine zx ?_|apply zD<;>intro h<;>try omega)<;>conv=>whnf
   all_goals first
    |omega
    |exact d9 rfl
  |cons u q=>
   have hm:=v8 h2 u (a0P ..);have nb:(u::q).length=q.length+1:=rfl;have eq:=ax8 (a:=[]) h0 h2 rfl;have bu:=h4 u (a0P ..);have cm:=a00 ((0:Int):Rat) u.2 (by have e:rl ((0:Int):Rat)=rl 0:=rfl;omega) bu;have k2:=a1b (x:=((0:Int):Rat)) (y:=u.2);generalize a1p ((0:Int):Rat) u.2=U at cm k2;by_cases hU:U > 0
   ·rw [a7V eq (a5E.2 (k2.1 hU))];clear k2;conv=>whnf
    repeat' (first|refine zx ?_|refine a2f om om om ?_|refine y7 (k:=0) rfl (show (u::q)[0]? =some u from rfl) ?_|refine bl0 [1] ?_|refine bl0 [4,5] ?_|apply zD<;>intro h<;>try omega)<;>conv=>whnf
    all_goals first|omega|exact d9 rfl
   ·rw [a7O eq (lb3.1 fun h=>hU (k2.2 h))];clear k2;conv=>whnf
    repeat' (first|refine zx ?_|refine a2f om om om ?_|refine y7 (k:=0) rfl (show (u::q)[0]? =some u from rfl) ?_|refine bl0 [1] ?_|refine bl0 [4,5] ?_|apply zD<;>intro h<;>try omega)<;>conv=>whnf
    all_goals first
     |omega
     |exact ⟨[some 0],(u.1,[],q),⟨rfl,rfl,⟨⟨rfl,rfl,rfl,.inl ⟨rfl,y3 _⟩⟩,trivial⟩,⟨rfl,l9 (b4o u q),rz⟩⟩,⟨om,rfl,O6 h2,h3,fun t ht=>h4 t (a4s _ ht),rfl⟩,zq⟩
 |cons t r=>
  have hm:=v8 h1 t (a0P ..);have bt:=h3 t (a0P ..);have na:(t::r).length=r.length+1:=rfl;cases b' with
  |nil=>
   have nb:([]:List (Int × Rat)).length=0:=rfl;have eq:=aZ7 (b:=[]) h0 h1 rfl;have cm:=a00 t.2 ((0:Int):Rat) bt (by have e:rl ((0:Int):Rat)=rl 0:=rfl;omega);have k2:=a1b (x:=t.2) (y:=((0:Int):Rat));generalize a1p t.2 ((0:Int):Rat)=U at cm k2;by_cases hU:U > 0
   ·rw [a7V eq (a5E.2 (k2.1 hU))];clear k2;conv=>whnf
    repeat' (first|refine zx ?_|refine a2f om om om ?_|refine y7 (k:=0) rfl (show (t::r)[0]? =some t from rfl) ?_|refine bl0 [1] ?_|refine bl0 [4,5] ?_|apply zD<;>intro h<;>try omega)<;>conv=>whnf
    all_goals first|omega|exact d9 rfl
   ·rw [a7O eq (lb3.1 fun h=>hU (k2.2 h))];clear k2;conv=>whnf
    repeat' (first|refine zx ?_|refine a2f om om om ?_|refine y7 (k:=0) rfl (show (t::r)[0]? =some t from rfl) ?_|refine bl0 [1] ?_|refine bl0 [4,5] ?_|apply zD<;>intro h<;>try omega)<;>conv=>whnf
    all_goals first
     |omega
     |exact ⟨[some 0],(t.1,r,[]),⟨rfl,rfl,⟨⟨rfl,rfl,rfl,.inl ⟨rfl,y3 _⟩⟩,trivial⟩,⟨l9 (b4o t r),rz⟩⟩,⟨om,O6 h1,rfl,fun t ht=>h3 t (a4s _ ht),h4,rfl⟩,zq⟩
  |cons u q=>
   have nb:(u::q).length=q.length+1:=rfl;have hmu:=v8 h2 u (a0P ..);have bu:=h4 u (a0P ..);rcases a3a t.1 u.1 with hlt|he|hgt
   ·have hrb:j2 t.1 n (u::q)=true:=by
     have:=h2;unfold j2 at this ⊢;simp only [lbM,lbH] at this ⊢;exact ⟨⟨⟨om,this.1.1.2⟩,this.1.2⟩,this.2⟩
    have eq:=aZ7 h0 h1 hrb;have cm:=a00 t.2 ((0:Int):Rat) bt (by have e:rl ((0:Int):Rat)=rl 0:=rfl;omega);have k2:=a1b (x:=t.2) (y:=((0:Int):Rat));generalize a1p t.2 ((0:Int):Rat)=U at cm k2;by_cases hU:U > 0
    ·rw [a7V eq (a5E.2 (k2.1 hU))];clear k2;conv=>whnf
     repeat' (first|refine zx ?_|refine a2f om om om ?_|refine y7 (k:=0) rfl (show (u::q)[0]? =some u from rfl) ?_|refine y7 (k:=0) rfl (show (t::r)[0]? =some t from rfl) ?_|refine bl0 [1] ?_|refine bl0 [4,5] ?_|apply zD<;>intro h<;>try omega)<;>conv=>whnf
     all_goals first|omega|exact d9 rfl
    ·rw [a7O eq (lb3.1 fun h=>hU (k2.2 h))];clear k2;conv=>whnf
     repeat' (first|refine zx ?_|refine a2f om om om ?_|refine y7 (k:=0) rfl (show (u::q)[0]? =some u from rfl) ?_|refine y7 (k:=0) rfl (show (t::r)[0]? =some t from rfl) ?_|refine bl0 [1] ?_|refine bl0 [4,5] ?_|apply zD<;>intro h<;>try omega)<;>conv=>whnf
     all_goals first|omega|exact ⟨[some 0],(t.1,r,u::q),⟨rfl,rfl,⟨⟨rfl,rfl,rfl,.inl ⟨rfl,y3 _⟩⟩,trivial⟩,⟨l9 (b4o t r),rz⟩⟩,⟨om,O6 h1,hrb,fun t ht=>h3 t (a4s _ ht),h4,rfl⟩,zq⟩
   ·have eq:=b70 h0 h1 h2 he;have cm:=a00 t.2 u.2 bt bu;have k2:=a1b (x:=t.2) (y:=u.2);generalize a1p t.2 u.2=U at cm k2;by_cases hU:U > 0
    ·rw [a7V eq (a5E.2 (k2.1 hU))];clear k2;conv=>whnf
     repeat' (first|refine zx ?_|refine a2f om om om ?_|refine y7 (k:=0) rfl (show (u::q)[0]? =some u from rfl) ?_|refine y7 (k:=0) rfl (show (t::r)[0]? =some t from rfl) ?_|refine bl0 [1] ?_|refine bl0 [4,5] ?_|apply zD<;>intro h<;>try omega)<;>conv=>whnf
     all_goals first|omega|exact d9 rfl
    ·rw [a7O eq (lb3.1 fun h=>hU (k2.2 h))];clear k2;conv=>whnf
     repeat' (first|refine zx ?_|refine a2f om om om ?_|refine y7 (k:=0) rfl (show (u::q)[0]? =some u from rfl) ?_|refine y7 (k:=0) rfl (show (t::r)[0]? =some t from rfl) ?_|refine bl0 [1] ?_|refine bl0 [4,5] ?_|apply zD<;>intro h<;>try omega)<;>conv=>whnf
     all_goals first|omega|exact ⟨[some 0],(t.1,r,q),⟨rfl,rfl,⟨⟨rfl,rfl,rfl,.inl ⟨rfl,y3 _⟩⟩,trivial⟩,⟨l9 (b4o t r),l9 (b4o u q),rz⟩⟩,⟨om,O6 h1,by rw [he];exact O6 h2,fun t ht=>h3 t (a4s _ ht),fun t ht=>h4 t (a4s _ ht),rfl⟩,by simp;omega⟩
   ·have hra:j2 u.1 n (t::r)=true:=by
     have:=h1;unfold j2 at this ⊢;simp only [lbM,lbH] at this ⊢;exact ⟨⟨⟨om,this.1.1.2⟩,this.1.2⟩,this.2⟩
    have eq:=ax8 h0 h2 hra;have cm:=a00 ((0:Int):Rat) u.2 (by have e:rl ((0:Int):Rat)=rl 0:=rfl;omega) bu;have k2:=a1b (x:=((0:Int):Rat)) (y:=u.2);generalize a1p ((0:Int):Rat) u.2=U at cm k2;by_cases hU:U > 0
    ·rw [a7V eq (a5E.2 (k2.1 hU))];clear k2;conv=>whnf
     repeat' (first|refine zx ?_|refine a2f om om om ?_|refine y7 (k:=0) rfl (show (u::q)[0]? =some u from rfl) ?_|refine y7 (k:=0) rfl (show (t::r)[0]? =some t from rfl) ?_|refine bl0 [1] ?_|refine bl0 [4,5] ?_|apply zD<;>intro h<;>try omega)<;>conv=>whnf
     all_goals first|omega|exact d9 rfl
    ·rw [a7O eq (lb3.1 fun h=>hU (k2.2 h))];clear k2;conv=>whnf
     repeat' (first|refine zx ?_|refine a2f om om om ?_|refine y7 (k:=0) rfl (show (u::q)[0]? =some u from rfl) ?_|refine y7 (k:=0) rfl (show (t::r)[0]? =some t from rfl) ?_|refine bl0 [1] ?_|refine bl0 [4,5] ?_|apply zD<;>intro h<;>try omega)<;>conv=>whnf
     all_goals first|omega|exact ⟨[some 0],(u.1,t::r,q),⟨rfl,rfl,⟨⟨rfl,rfl,rfl,.inl ⟨rfl,y3 _⟩⟩,trivial⟩,⟨rfl,l9 (b4o u q),rz⟩⟩,⟨om,hra,O6 h2,h3,fun t ht=>h4 t (a4s _ ht),rfl⟩,zq⟩
def b6f {s:i8} {g:List (Int × Rat)} {y:Nat->Rat} (hr:j6 s=true) (hg:j2 (-1) s.n g=true):at5 (L5 s y s.n.toNat) g=(List.range s.n.toNat).all fun v=>decide (J4 s y v<=y5 g v):=by
 have hn:=Q9 hr;have hm:=a41 s y s.n.toNat;rw [a7m,a5V,lbv];constructor
 ·intro h v hv;rw [lbA] at hv;have:=h v;rw [ap0 hv] at this;exact lbG this
 ·intro h v;by_cases hv:v<s.n.toNat
  ·rw [ap0 hv];exact lbK (h v (lbA.2 hv))
  ·rw [show y5 (L5 s y s.n.toNat) v=0 from a09 _ fun i t _ ht=>by
    have:=v8 hm t (lbm ht);omega,show y5 g v=0 from a09 _ fun i t _ ht=>by
    have:=v8 hg t (lbm ht);omega]
   exact lb2
def aa4 (s:i8) (hb:T9 s) (hr:j6 s=true) (g:List (Int × Rat)) (y:List Fr) (hy:a6D y) (h:(decide (y.length=s.rows.length) && y.all t7)=false):
 ec 85 [D8 s,k7 g,n6 y] [] (.tup [frS C6,i9 false]) []:=by
 have sn:=a9J s hb hr y hy h;refine ac Tryz.func85 ?_;conv=>whnf
 repeat' (first|refine zx ?_|apply zD<;>intro h<;>try omega)<;>conv=>whnf
 all_goals exact m9 rz
def aT8 (s:i8) (hb:T9 s) (hr:j6 s=true) (hn1:s.n<=1000) (g:List (Int × Rat)) (hg:g.length<=1000000) (hgb:∀t ∈ g,rl t.2<=200) (Y:List Rat) (hy:∀v ∈ Y,rl v<=40000) (hyl:Y.length<=1000000) (hq:Y.length=s.rows.length->a8m s Y):
 ec 85 [D8 s,k7 g,n6 (Y.map fz)] [] (a3o s g Y) []:=by
 have h0n:=Q9 hr;have sn:=b3M s hb hr Y hyl (fun v hv=>by have:=hy v hv;omega);have rt:=N3 g s.n hg hgb;rw [lbG (show 0<=s.n by omega),C2] at rt;cases hs:a06 s Y with
 |false=>
  have e:a3o s g Y=.tup [frS C6,i9 false]:=by unfold a3o a23;rw [hs];rfl
  rw [e];rw [hs] at sn;refine ac Tryz.func85 ?_;conv=>whnf
  repeat' (first|refine zx ?_|apply zD<;>intro<;>try omega)<;>conv=>whnf
  all_goals first
   |(exfalso;simp_all;done)
   |exact m9 rz
 |true=>
 rw [hs] at sn;cases ht:j2 (-1) s.n g with
 |false=>
  have e:a3o s g Y=.tup [frS C6,i9 false]:=by unfold a3o a23;rw [hs,ht];rfl
  rw [e];rw [ht] at rt;refine ac Tryz.func85 ?_;conv=>whnf
  repeat' (first|refine zx ?_|apply zD<;>intro<;>try omega)<;>conv=>whnf
  all_goals first
   |(exfalso;simp_all;done)
   |exact m9 rz
 |true=>
 rw [ht] at rt;have hl:Y.length=s.rows.length:=by
  unfold a06 at hs;simp only [lbM,lbH] at hs;exact hs.1
 have hq:=hq hl;have mx:=bm6 s hb hr Y hq hn1;have mr:=a41 s (yN Y) s.n.toNat;have be:=b8G s.n (L5 s (yN Y) s.n.toNat) g (by rw [← h0n];exact mr) ht om (fun t ht=>by
  obtain ⟨v,h1,h2,rfl⟩:=a82.1 ht;have h3:rl (J4 s (yN Y) v)<=50000:=hq.n v s.rows.length;show rl (J4 s (yN Y) v)<=60000;omega) (fun t ht=>by have:=hgb t ht;omega)
 rw [b6f hr ht] at be;have eb:a23 s g Y=(List.range s.n.toNat).all fun v=>decide (J4 s (yN Y) v<=y5 g v):=by unfold a23;rw [hs,ht];simp
 unfold a3o;rw [eb];generalize (List.range s.n.toNat).all (fun v=>decide (J4 s (yN Y) v<=y5 g v))=B at be;cases B with
 |true=>
  rw [if_pos rfl];refine ac Tryz.func85 ?_;conv=>whnf
  repeat' (first|refine zx ?_|refine bl0 [5] ?_|apply zD<;>intro<;>try omega)<;>conv=>whnf
  all_goals first
   |(exfalso;simp_all;done)
   |exact m9 rz
 |false=>
  rw [if_neg de];refine ac Tryz.func85 ?_;conv=>whnf
  repeat' (first|refine zx ?_|refine bl0 [5] ?_|apply zD<;>intro<;>try omega)<;>conv=>whnf
  all_goals first|(exfalso;simp_all;done)|exact m9 rz
def ar9 (s:i8) (hb:T9 s) (hr:j6 s=true) (y:List Fr) (hy:a6D y) (h:(decide (y.length=s.rows.length) && y.all t7)=false):
 ec 83 [D8 s,n6 y] [] (i9 false) []:=by
 have lo:=a7G (aa4 s hb hr [] y hy h);refine ac Tryz.func83 ?_;conv=>whnf
 repeat' (first|refine zx ?_|refine bl0 [5] ?_|apply zD<;>intro h<;>try omega)<;>conv=>whnf
 all_goals first|(exfalso;simp_all;done)|exact d9 rfl
def b1D (s:i8) (hb:T9 s) (hr:j6 s=true) (hn1:s.n<=1000) (Y:List Rat) (hy:∀v ∈ Y,rl v<=40000) (hyl:Y.length<=1000000) (hq:Y.length=s.rows.length->a8m s Y):
 ec 83 [D8 s,n6 (Y.map fz)] [] (i9 (as9 s Y)) []:=by
 have lo:=a7G (aT8 s hb hr hn1 [] zq (fun t ht=>by cases ht) Y hy hyl hq);unfold a3o at lo;unfold as9;cases hB:a23 s [] Y with
 |false=>
  rw [hB,if_neg de] at lo;refine ac Tryz.func83 ?_;conv=>whnf
  repeat' (first|refine zx ?_|refine bl0 [5] ?_|apply zD<;>intro<;>try omega)<;>conv=>whnf
  all_goals first
   |(exfalso;simp_all;done)
   |exact d9 rfl
 |true=>
  rw [hB,if_pos rfl] at lo;have hl:Y.length=s.rows.length:=by
   unfold a23 a06 at hB;simp only [lbM,lbH] at hB;exact hB.1.1.1
  have b:=(hq hl).v s.rows.length;have b:rl (S6 s (yN Y))<=50000:=b;have sg:=R6 (S6 s (yN Y)) om;have sp:=a2X (x:=S6 s (yN Y));have e:decide (0<S6 s (yN Y))=decide (sgR (S6 s (yN Y)) > 0):=by rw [decide_eq_decide];exact sp.symm
  rw [e];generalize sgR (S6 s (yN Y))=U at sg;clear sp e;refine ac Tryz.func83 ?_;conv=>whnf
  repeat' (first|refine zx ?_|refine bl0 [5] ?_|apply zD<;>intro<;>try omega)<;>conv=>whnf
  all_goals first
   |(exfalso;simp_all;done)
   |(refine d9 ?_;rw [C2];first|exact (lbG om).symm|exact (lbI om).symm)
def b6W (x:Rat):sgR x<0↔x<((0:Int):Rat):=by unfold sgR;split<;>(try split)<;>simp_all
def b5h {x y:Rat} {ρ:List (Option Nat)} {H:Hp} (h:x=y):a6E ρ H (frS (fz x)) (frS (fz y)):=by subst h;exact rz
def a9V (n lo hi:Int):ec 272 [eI n,eI lo,eI hi] [] (i9 (btw n lo hi)) []:=by
 refine ac Tryz.func272 ?_;conv=>whnf
 repeat' (first|refine zx ?_|apply zD<;>intro<;>try omega)<;>conv=>whnf
 all_goals (refine d9 ?_;simp only [btw];simp;omega)
def aW8 (c:L8):ec 317 [aR3 c] [] (i9 (Q3 c)) []:=by
 have w1:=a9V c.scale 0 29;have w2:=a9V c.grams 0 1099511627776;have w3:=a9V c.permille 0 1000;have w4:=a9V c.drift 0 10000000;rw [ax7] at w1;unfold Q3;cases h1:idx c.scale 30<;>cases h2:btw c.grams 0 1099511627776<;>cases h3:btw c.permille 0 1000<;>cases h4:btw c.drift 0 10000000<;>rw [h1] at w1<;>rw [h2] at w2<;>rw [h3] at w3<;>rw [h4] at w4<;>
 ·refine ac Tryz.func317 ?_;conv=>whnf
  repeat' (first|refine zx ?_|apply zD<;>intro<;>try omega)<;>conv=>whnf
  all_goals (refine d9 ?_;simp;try omega)
def a5z (o:Option Nat):Int:=match o with
 |none=>-1
 |some b=>b
def b94 (cs:List L8) (scale day:Int) (hl:cs.length<=1000000):
 ec 270 [.c (.t (a0G cs)),eI scale,eI day] [] (.tup [eI (a8U (C9 cs scale day cs.length)),i9 (C9 cs scale day cs.length).isSome]) []:=by
 have l1:(cs.map L8.row).length=cs.length:=zq;refine ac Tryz.func270 ?_;conv=>whnf
 repeat' (first|refine zx ?_|apply zD<;>intro h<;>try omega)<;>conv=>whnf
 refine j3 d7 (fun k=>([S.c (C.t (a0G cs)),eI scale,eI day,J,J,J,J,J,eI (a5z (C9 cs scale day k)),eI k]++Jn 47,[])) cs.length tT [] trivial
  rz ?_
 intro k hk _;by_cases hlt:k<cs.length
 ·obtain ⟨c,hc⟩:∃c,cs[k]? =some c:=⟨_,lbf hlt⟩;have cr:=aW8 c;have ci:=a9V day c.since c.till;have hst:C9 cs scale day (k+1)=if decide (c.scale=scale) && K6 c day && a4P cs (C9 cs scale day k) c then some k else C9 cs scale day k:=by
   conv=>lhs;unfold C9
   rw [hc]
  have nxt:∀z:Int,a5z (C9 cs scale day (k+1))=z->z=a5z (C9 cs scale day (k+1)):=fun z h=>h.symm
  cases hr:Q3 c with
  |false=>
   have hcv:K6 c day=false:=by unfold K6;rw [hr];rfl
   rw [hcv] at hst;simp only [a4L,a2i,a85,if_false] at hst;rw [hr] at cr;rw [← hst];conv=>whnf
   repeat' (first|refine zx ?_|refine i6 hc ?_|apply zD<;>intro h<;>try omega)<;>conv=>whnf
   all_goals first
    |omega
    |(exfalso;simp_all;done)
    |exact ⟨hlt,trivial,[],rz⟩
  |true=>
  rw [hr] at cr;cases hb:btw day c.since c.till with
  |false=>
   have hcv:K6 c day=false:=by unfold K6;rw [hr,hb];rfl
   rw [hcv] at hst;simp only [a4L,a2i,a85,if_false] at hst;rw [hb] at ci;rw [← hst];conv=>whnf
   repeat' (first|refine zx ?_|refine i6 hc ?_|apply zD<;>intro h<;>try omega)<;>conv=>whnf
   all_goals first
    |omega
    |(exfalso;simp_all;done)
    |exact ⟨hlt,trivial,[],rz⟩
  |true=>
   have hcv:K6 c day=true:=by unfold K6;rw [hr,hb];rfl
   rw [hcv] at hst;rw [hb] at ci;cases hf:C9 cs scale day k with
   |none=>
    rw [hf] at hst;have e0:a5z none=-1:=rfl;rw [e0];by_cases hsc:c.scale=scale
    ·have hst2:(k:Int)=a5z (C9 cs scale day (k+1)):=by rw [hst,if_pos (by simp [hsc,a4P])];rfl
     clear hst hcv hr hb nxt;conv=>whnf
     repeat' (first|refine zx ?_|refine i6 hc ?_|apply zD<;>intro h<;>try omega)<;>conv=>whnf
     all_goals first|omega|exact ⟨hlt,trivial,[],rfl,rfl,trivial,⟨rfl,rfl,rfl,e7 hst2,rz⟩⟩
    ·have hst2:(-1:Int)=a5z (C9 cs scale day (k+1)):=by rw [hst,if_neg (by simp [hsc])];rfl
     clear hst hcv hr hb nxt;conv=>whnf
     repeat' (first|refine zx ?_|refine i6 hc ?_|apply zD<;>intro h<;>try omega)<;>conv=>whnf
     all_goals first
      |omega
      |exact ⟨hlt,trivial,[],rfl,rfl,trivial,⟨rfl,rfl,rfl,e7 hst2,rz⟩⟩
   |some b=>
    rw [hf] at hst;obtain ⟨hb',cb,hcb,_⟩:=N5 hf;have hsb:=b00 hcb;have e0:a5z (some b)=(b:Int):=rfl;have em:(if (0:Int) > (b:Int) then 0 else (b:Int))=(b:Int):=if_neg om;rw [e0];by_cases hsc:c.scale=scale∧cb.since<=c.since
    ·have hst2:(k:Int)=a5z (C9 cs scale day (k+1)):=by rw [hst,if_pos (by simp [hsc.1,a4P,hsb,hsc.2])];rfl
     clear hst hcv hr hb nxt;conv=>whnf
     repeat' (first|refine zx ?_|refine i6 hc ?_|refine y7 em hcb ?_|apply zD<;>intro h<;>try omega)<;>conv=>whnf
     all_goals first|omega|exact ⟨hlt,trivial,[],rfl,rfl,trivial,⟨rfl,rfl,rfl,e7 hst2,rz⟩⟩
    ·have hst2:(b:Int)=a5z (C9 cs scale day (k+1)):=by
      rw [hst,if_neg (by simp only [lbM,lbH,a4P,hsb];intro h;exact hsc ⟨h.1.1,h.2⟩)];rfl
     clear hst hcv hr hb nxt;conv=>whnf
     repeat' (first|refine zx ?_|refine i6 hc ?_|refine y7 em hcb ?_|apply zD<;>intro h<;>try omega)<;>conv=>whnf
     all_goals first|omega|exact ⟨hlt,trivial,[],rfl,rfl,trivial,⟨rfl,rfl,rfl,e7 hst2,rz⟩⟩
 ·have hke:k=cs.length:=by omega
  subst hke;cases hf:C9 cs scale day cs.length with
  |none=>
   have e0:a5z none=-1:=rfl;rw [e0];conv=>whnf
   repeat' (first|refine zx ?_|apply zD<;>intro h<;>try omega)<;>conv=>whnf
   all_goals first
    |omega
    |exact m9 rz
  |some b=>
   have e0:a5z (some b)=(b:Int):=rfl;have em:(if (0:Int) > (b:Int) then 0 else (b:Int))=(b:Int):=if_neg om;rw [e0];conv=>whnf
   repeat' (first|refine zx ?_|apply zD<;>intro h<;>try omega)<;>conv=>whnf
   all_goals first|omega|exact m9 ⟨e7 em,rz⟩
def aW6 (rs:List E9) (hl:rs.length<=1000000) (scale day:Int):ec 271 [.c (.t (N6 rs)),eI scale,eI day] [] (i9 (a1P rs scale day)) []:=by
 have l1:(rs.map E9.row).length=rs.length:=zq;refine ac Tryz.func271 ?_;conv=>whnf
 repeat' (first|refine zx ?_|apply zD<;>intro<;>try omega)<;>conv=>whnf
 refine j3 d7 (fun k=>([S.c (C.t (N6 rs)),eI scale,eI day,J,J,J,J,eI k]++Jn 22,[])) rs.length (fun k=>(rs.take k).any (fun r=>decide (r.scale=scale) && decide (r.since<=day))=false) [] rfl
  rz ?_
 intro k hk hI;by_cases hlt:k<rs.length
 ·obtain ⟨r,hr⟩:∃r,rs[k]? =some r:=⟨_,lbf hlt⟩;conv=>whnf
  repeat' (first|refine zx ?_|refine i6 hr ?_|apply zD<;>intro<;>try omega)<;>conv=>whnf
  all_goals first|omega|(refine ⟨hlt,?_,[],rz⟩;rw [a35 hr,hI];simp [*];done)|(refine ⟨hlt,?_,[],rz⟩;rw [a35 hr,hI];simp;omega)|(refine d9 ?_;unfold a1P;rw [a7a hr];simp [*];done)|(refine d9 ?_;unfold a1P;rw [a7a hr];simp;omega)
 ·rw [lbn om] at hI;conv=>whnf
  repeat' (first|refine zx ?_|apply zD<;>intro<;>try omega)<;>conv=>whnf
  all_goals first|omega|exact d9 hI.symm
def b4Y (c:L8) (reading day:Int) (h:K6 c day=true) (hr:btw reading 0 1099511627776=true):ec 273 [aR3 c,eI reading,eI day] []
 (.tup [frS (fz (a2u c reading day)),i9 true]) []:=by
 have cr:=aW8 c;have ci:=a9V day c.since c.till;have wi:=a9V reading 0 1099511627776;have hcr:Q3 c=true:=by unfold K6 at h;simp only [lbM] at h;exact h.1
 have hci:btw day c.since c.till=true:=by unfold K6 at h;simp only [lbM] at h;exact h.2
 rw [hcr] at cr;rw [hci] at ci;rw [hr] at wi;have hc:=a3U h;obtain ⟨p0,p1,d0,d1⟩:=b75.of h hr;rw [W8] at hr;have fo:=bi9 (c.permille*reading) 1000 de om om de;have fi:=a4Y (c.grams+c.drift*(day - c.since)) om om;have h2:rl (Rat.divInt (c.permille*reading) 1000)<=4:=lbR (S7 de) (by have:=P7 (x:=c.permille*reading) om om;have:=P7 (x:=1000) de de;omega);have h3:rl ((c.grams+c.drift*(day - c.since):Int):Rat)<=4:=by rw [U9];have:=P7 (x:=c.grams+c.drift*(day - c.since)) om om;omega
 have ad:=aQ6 ((c.grams+c.drift*(day - c.since):Int):Rat) (Rat.divInt (c.permille*reading) 1000) om om;refine ac Tryz.func273 ?_;conv=>whnf
 repeat' (first|refine zx ?_|refine bl0 [7] ?_|refine bl0 [15] ?_|apply zD<;>intro h<;>try omega)<;>conv=>whnf
 all_goals first|(exfalso;simp_all;done)|exact b5R (by rw [Rat.add_comm];rfl) rfl
def aW2 (cs:List L8) (rs:List E9) (hl:cs.length<=1000000) (hl2:rs.length<=1000000) (scale reading day:Int):
 ec 210 [.c (.t (a0G cs)),.c (.t (N6 rs)),eI scale,eI reading,eI day] [] (.tup (ivL (L4 cs rs scale reading day))) []:=by
 have f:=b94 cs scale day hl;have r:=aW6 rs hl2 scale day;have wi:=a9V reading 0 1099511627776;unfold L4;cases hf:C9 cs scale day cs.length with
 |none=>
  rw [hf] at f;refine ac Tryz.func210 ?_;conv=>whnf
  repeat' (first|refine zx ?_|refine bl0 [1] ?_|apply zD<;>intro h<;>try omega)<;>conv=>whnf
  all_goals first
   |(exfalso;simp_all;done)
   |exact m9 rz
 |some i=>
  rw [hf] at f;obtain ⟨hb,c,hc,_,hcv⟩:=N5 hf;have e:a1m cs i=c:=by unfold a1m;rw [hc];rfl
  simp only [e];cases hrec:a1P rs scale day with
  |true=>
   rw [hrec] at r;refine ac Tryz.func210 ?_;conv=>whnf
   repeat' (first|refine zx ?_|refine bl0 [1] ?_|apply zD<;>intro h<;>try omega)<;>conv=>whnf
   all_goals first
    |(exfalso;simp_all;done)
    |exact m9 rz
  |false=>
   rw [hrec] at r;cases hr:btw reading 0 1099511627776 with
   |false=>
    rw [hr] at wi;refine ac Tryz.func210 ?_;conv=>whnf
    repeat' (first|refine zx ?_|refine bl0 [1] ?_|apply zD<;>intro h<;>try omega)<;>conv=>whnf
    all_goals first
     |exact m9 rz
     |(exfalso;simp_all;done)
   |true=>
    have er:=b4Y c reading day hcv hr;have l1:=b0D hcv hr;rw [hr] at wi;rw [W8] at hr;have l2:rl (reading:Rat)<=4:=by rw [U9];have:=P7 (x:=reading) om om;omega
    have fi:=a4Y reading om om;have f0:=a4Y 0 om om;have sb:=bb5 (reading:Rat) (a2u c reading day) om om;have ad:=aQ6 (reading:Rat) (a2u c reading day) om om;have l4:=aI7 (reading:Rat) (a2u c reading day);have sg:=a4z ((reading:Rat) - a2u c reading day) om;have hs:=b6W ((reading:Rat) - a2u c reading day);refine ac Tryz.func210 ?_;conv=>whnf
    repeat' (first|refine zx ?_|refine i6 hc ?_|refine bl0 [1] ?_|refine bl0 [9] ?_|refine bl0 [6] ?_|apply zD<;>intro h<;>try omega)<;>conv=>whnf
    ·have hn:(reading:Rat) - a2u c reading day<((0:Int):Rat):=hs.1 om;refine m9 ⟨b5h ?_,rz⟩;unfold aC6;rw [if_pos hn]
    ·have hn:¬(reading:Rat) - a2u c reading day<((0:Int):Rat):=fun h=>absurd (hs.2 h) om
     refine m9 ⟨b5h ?_,rz⟩;unfold aC6;rw [if_neg hn]
    all_goals (have hq:(some i).isSome=false:=(by assumption);cases hq)
def a6U (n lo hi:Int):ec 149 [eI n,eI lo,eI hi] [] (i9 (btw n lo hi)) []:=by
 refine ac Tryz.func149 ?_;conv=>whnf
 repeat' (first|refine zx ?_|apply zD<;>intro<;>try omega)<;>conv=>whnf
 all_goals (refine d9 ?_;simp only [btw];simp;omega)
def a2Y (n m:Int):ec 149 [eI n,eI 0,eI (m - 1)] [] (i9 (idx n m)) []:=by
 rw [← b2j];exact a6U n 0 (m - 1)
def b8U (e:Ev) (hs:e.Sized):ec 225 [evS e] [] (i9 (a2y e)) []:=by
 have l1:(e.places.map X4.row).length=e.places.length:=zq;have l2:(e.moves.map A8.row).length=e.moves.length:=zq;have l3:(e.certs.map L8.row).length=e.certs.length:=zq;have l4:(e.recalls.map E9.row).length=e.recalls.length:=zq;have l5:(e.purities.map a1o.row).length=e.purities.length:=zq;refine ac Tryz.func225 ?_;conv=>whnf
 repeat' (first|refine zx ?_|apply zD<;>intro<;>try omega)<;>conv=>whnf
 all_goals (refine d9 ?_;unfold a2y;simp;omega)
def b4D (e:Ev) (p:X4) (h1:1<=e.mats) (h2:e.mats<=6) (h3:0<=e.hhs) (h4:e.hhs<=100):ec 226 [evS e,.agg (p.row.map .t)] [] (i9 (Y9 e p)) []:=by
 have i3:=a2Y p.kind 7;refine ac Tryz.func226 ?_;conv=>whnf
 repeat' (first|refine zx ?_|refine qp (a2Y p.hh e.hhs) ?_|refine qp (a2Y p.mat e.mats) ?_|apply zD<;>intro<;>try omega)<;>conv=>whnf
 all_goals first|omega|(refine d9 ?_;simp_all [Y9]<;>decide)
def a2Q (e:Ev) (k:Nat) (x:A8):Int:=if x.day<0∨100000<x.day∨(0<k∧x.day<a3i e k) then 17 else if R5 e x then 0 else 1
def b9r (e:Ev) (k:Nat) (x:A8) (hx:e.moves[k]? =some x) (hf:a2y e=false) (h1:1<=e.mats) (h3:0<=e.hhs) (h5:0<=e.scs):ec 227 [evS e,eI k] [] (eI (a2Q e k x)) []:=by
 have l1:(e.places.map X4.row).length=e.places.length:=zq;have l2:(e.moves.map A8.row).length=e.moves.length:=zq;have hk:k<e.moves.length:=(lbe.1 hx).1;unfold a2y at hf;simp only [a4W,lbJ] at hf;obtain ⟨y,hy⟩:∃y,e.moves[k - 1]? =some y:=⟨_,lbf om⟩;have hl:0<k->a3i e k=y.day:=fun h=>by
  obtain ⟨j,rfl⟩:∃j,k=j+1:=⟨k - 1,om⟩;exact a1S hy
 have d:=a6U x.day 0 100000;have is:=a2Y x.src (e.places.map X4.row).length;have id:=a2Y x.dst (e.places.map X4.row).length;have ic:=a2Y x.scale e.scs;have ir:=a6U x.reading 0 1099511627776;have hdd:(x.day<0∨100000<x.day∨(0<k∧x.day<a3i e k))↔(x.day<0∨100000<x.day∨(0<k∧x.day<y.day)):=by
  rcases a4R k with h|h
  ·simp [h]
  ·rw [hl h]
 clear hl;have em:(if (0:Int) > (k:Int) - 1 then 0 else (k:Int) - 1)=((k - 1:Nat):Int):=by split<;>omega
 by_cases hd:x.day<0∨100000<x.day∨(0<k∧x.day<y.day)
 ·have e1:a2Q e k x=17:=by unfold a2Q;rw [if_pos (hdd.2 hd)]
  clear hdd;rw [e1];have hb:=W8 (a:=x.day) (b:=0) (c:=100000);refine ac Tryz.func227 ?_;conv=>whnf
  repeat' (first|refine zx ?_|refine i6 hx ?_|refine y7 em hy ?_|apply zD<;>intro h<;>try omega)<;>conv=>whnf
  all_goals first|exact n8 rfl|(exfalso;have:=hb.1 (by assumption);omega)|omega
 have e1:a2Q e k x=if R5 e x then 0 else 1:=by unfold a2Q;rw [if_neg (fun h=>hd (hdd.1 h))]
 clear hdd;rw [e1];have hd':btw x.day 0 100000=true:=by rw [W8];omega
 rw [hd'] at d;cases h1:idx x.src e.places.length with
 |false=>
  rw [← l1] at h1;rw [h1] at is;rw [l1] at h1;refine ac Tryz.func227 ?_;conv=>whnf
  repeat' (first|refine zx ?_|refine i6 hx ?_|refine y7 em hy ?_|apply zD<;>intro h<;>try omega)<;>conv=>whnf
  all_goals first
   |(refine n8 ?_;simp [R5,h1];done)
   |(exfalso;simp_all;done)
   |omega
 |true=>
  obtain ⟨hs0,p,hp,kp⟩:=a6r h1;rw [← l1] at h1;rw [h1] at is;rw [l1] at h1;cases h2:idx x.dst e.places.length with
  |false=>
   rw [← l1] at h2;rw [h2] at id;rw [l1] at h2;refine ac Tryz.func227 ?_;conv=>whnf
   repeat' (first|refine zx ?_|refine i6 hx ?_|refine y7 em hy ?_|apply zD<;>intro h<;>try omega)<;>conv=>whnf
   all_goals first
    |(refine n8 ?_;simp [R5,h1,h2];done)
    |(exfalso;simp_all;done)
    |omega
  |true=>
   obtain ⟨hd0,q,hq,kq⟩:=a6r h2;rw [← l1] at h2;rw [h2] at id;rw [l1] at h2;refine ac Tryz.func227 ?_;conv=>whnf
   repeat' (first|refine zx ?_|refine qp ir ?_|refine i6 hx ?_|refine G7 hs0 hp ?_|refine G7 hd0 hq ?_|refine y7 em hy ?_|apply zD<;>intro h<;>try omega)<;>conv=>whnf
   all_goals first|(refine n8 ?_;simp_all [R5];done)|(exfalso;simp_all;done)|omega
theorem b8Q (e:Ev) (hs:e.Sized) (hf:a2y e=false) (h1:1<=e.mats) (h5:0<=e.scs):d6 Tryz.prog 228 [evS e] [] (i9 (Z7 e)) []:=by
 have l2:(e.certs.map L8.row).length=e.certs.length:=by simp
 have l4:(e.recalls.map E9.row).length=e.recalls.length:=by simp
 have l6:(e.purities.map a1o.row).length=e.purities.length:=by simp
 have l8:(e.moves.map A8.row).length=e.moves.length:=by simp
 unfold a2y at hf
 simp only [a4W,lbJ] at hf
 (refine ac Tryz.func228 ?_;(conv=>whnf);repeat ((first|refine b0x ?_|refine zy ?_);conv=>whnf))
 repeat' (first|refine zx ?_|refine zd ?_ ?_<;>intro h<;>try omega|fail)<;>conv=>whnf
 refine j3 d7 (fun k=>([J,S.c (C.t (T.ptr (evT e))),J,c9 .i64 k]++Jn 124,[])) e.certs.length (fun k=>(e.certs.take k).all (a40 e)=true) [] rfl
  ⟨rfl,rfl,trivial,⟨rfl,rfl,trivial⟩⟩ ?_
 intro k hk hI
 by_cases hlt:k<e.certs.length
 ·obtain ⟨x,hx⟩:∃x,e.certs[k]? =some x:=⟨_,lbf hlt⟩
  conv=>whnf
  repeat' (first|refine zx ?_|refine qp (a2Y x.scale e.scs) ?_|refine qp (a6U x.till x.since 100000) ?_|refine qp (a6U x.grams 0 1099511627776) ?_|refine qp (a6U x.permille 0 1000) ?_|refine qp (a6U x.drift 0 10000000) ?_|refine i6 hx ?_|refine zd ?_ ?_<;>intro h<;>try omega|fail)<;>conv=>whnf
  all_goals first
   |omega
   |(refine ⟨hlt,?_,[],rfl,rfl,trivial,⟨rfl,rfl,trivial⟩⟩;rw [t5 hx,hI];simp_all [a40,btw];done)
   |(refine d9 ?_;rw [Z7,x7 hx];rfl;simp_all [a40,btw];(try omega);done)
 ·have hc:e.certs.all (a40 e)=true:=by rw [← hI,lbn (by omega)]
  conv=>whnf
  repeat' (first|refine zx ?_|refine zd ?_ ?_<;>intro h<;>try omega|fail)<;>conv=>whnf
  all_goals try omega
  clear hI hlt hk
  refine j3 d7 (fun k=>([J,S.c (C.t (T.ptr (evT e))),J,J,J,c9 .i64 k]++Jn 122,[])) e.recalls.length (fun k=>(e.recalls.take k).all (a0k e)=true) [] rfl
   ⟨rfl,rfl,trivial,⟨rfl,rfl,trivial⟩⟩ ?_
  intro k hk hI
  by_cases hlt:k<e.recalls.length
  ·obtain ⟨x,hx⟩:∃x,e.recalls[k]? =some x:=⟨_,lbf hlt⟩
   conv=>whnf
   repeat' (first|refine zx ?_|refine qp (a2Y x.scale e.scs) ?_|refine qp (a6U x.since 0 100000) ?_|refine i6 hx ?_|refine zd ?_ ?_<;>intro h<;>try omega|fail)<;>conv=>whnf
   all_goals first
    |omega
    |(refine ⟨hlt,?_,[],rfl,rfl,trivial,⟨rfl,rfl,trivial⟩⟩;rw [t5 hx,hI];simp_all [a0k];done)
    |(refine d9 ?_;rw [Z7,hc,x7 hx];rfl;simp_all [a0k];done)
  ·have hr:e.recalls.all (a0k e)=true:=by rw [← hI,lbn (by omega)]
   conv=>whnf
   repeat' (first|refine zx ?_|refine zd ?_ ?_<;>intro h<;>try omega|fail)<;>conv=>whnf
   all_goals try omega
   clear hI hlt hk
   refine j3 d7 (fun k=>([J,S.c (C.t (T.ptr (evT e))),J,J,J,J,c9 .i64 k]++Jn 121,[])) e.purities.length (fun k=>(e.purities.take k).all (a0f e)=true) [] rfl
    ⟨rfl,rfl,trivial,⟨rfl,rfl,trivial⟩⟩ ?_
   intro k hk hI
   by_cases hlt:k<e.purities.length
   ·obtain ⟨x,hx⟩:∃x,e.purities[k]? =some x:=⟨_,lbf hlt⟩
    conv=>whnf
    repeat' (first|refine zx ?_|refine qp (a2Y x.move (e.moves.map A8.row).length) ?_|refine qp (a2Y x.mat e.mats) ?_|refine qp (a6U x.most x.least 1000) ?_|refine i6 hx ?_|refine zd ?_ ?_<;>intro h<;>try omega|fail)<;>conv=>whnf
    all_goals first
     |omega
     |(refine ⟨hlt,?_,[],rfl,rfl,trivial,⟨rfl,rfl,trivial⟩⟩;rw [t5 hx,hI];simp_all [a0f,btw];done)
     |(refine d9 ?_;rw [Z7,hc,hr,x7 hx];rfl;simp_all [a0f,btw];(try omega);done)
   ·have hp:e.purities.all (a0f e)=true:=by rw [← hI,lbn (by omega)]
    conv=>whnf
    repeat' (first|refine zx ?_|refine zd ?_ ?_<;>intro h<;>try omega|fail)<;>conv=>whnf
    all_goals first
     |omega
     |(refine d9 ?_;rw [Z7,hc,hr,hp];rfl)
theorem aZ4 (e:Ev) (hs:e.Sized):d6 Tryz.prog 147 [evS e] [] (c9 .i64 (E6 e)) []:=by
 have l1:(e.places.map X4.row).length=e.places.length:=by simp
 have l8:(e.moves.map A8.row).length=e.moves.length:=by simp
 have fu:=b8U e hs
 cases hf:a2y e with
 |true=>
  rw [hf] at fu
  (refine ac Tryz.func147 ?_;(conv=>whnf);repeat ((first|refine b0x ?_|refine zy ?_);conv=>whnf))
  repeat' (first|refine zx ?_|refine qp fu ?_|refine zd ?_ ?_<;>intro h<;>try omega|fail)<;>conv=>whnf
  all_goals first
   |(exfalso;simp_all;done)
   |(refine n8 ?_;unfold E6;rw [if_pos hf])
 |false=>
  rw [hf] at fu
  by_cases hb:e.mats<1∨e.hhs<0∨e.scs<0
  ·have e1:E6 e=1:=by
    unfold E6;rw [if_neg (by simp [hf]),if_pos (by rcases hb with h|h|h<;>simp [h])]
   rw [e1]
   (refine ac Tryz.func147 ?_;(conv=>whnf);repeat ((first|refine b0x ?_|refine zy ?_);conv=>whnf))
   repeat' (first|refine zx ?_|refine qp fu ?_|refine zd ?_ ?_<;>intro h<;>try omega|fail)<;>conv=>whnf
   all_goals first
    |(exfalso;simp_all;done)
    |omega
    |exact n8 rfl
  have hfb:=hf
  unfold a2y at hfb
  simp only [a4W,lbJ] at hfb
  (refine ac Tryz.func147 ?_;(conv=>whnf);repeat ((first|refine b0x ?_|refine zy ?_);conv=>whnf))
  repeat' (first|refine zx ?_|refine qp fu ?_|refine zd ?_ ?_<;>intro h<;>try omega|fail)<;>conv=>whnf
  all_goals try omega
  refine j3 d7 (fun k=>([J,S.c (C.t (T.ptr (evT e))),J,c9 .i64 k]++Jn 48,[])) e.places.length (fun k=>(e.places.take k).all (Y9 e)=true) [] rfl
   ⟨rfl,rfl,trivial,⟨rfl,rfl,trivial⟩⟩ ?_
  intro k hk hI
  by_cases hlt:k<e.places.length
  ·obtain ⟨x,hx⟩:∃x,e.places[k]? =some x:=⟨_,lbf hlt⟩
   have pl:=b4D e x (by omega) (by omega) (by omega) (by omega)
   conv=>whnf
   repeat' (first|refine zx ?_|refine qp pl ?_|refine i6 hx ?_|refine zd ?_ ?_<;>intro h<;>try omega|fail)<;>conv=>whnf
   all_goals first
    |omega
    |(refine ⟨hlt,?_,[],rfl,rfl,trivial,⟨rfl,rfl,trivial⟩⟩;rw [t5 hx,hI];simp_all;done)
    |(refine n8 ?_;unfold E6;rw [if_neg (by simp [hf]),if_pos (.inr (.inr (.inr (x7 hx (by assumption)))))])
  have hp:e.places.all (Y9 e)=true:=by rw [← hI,lbn (by omega)]
  have hck:E6 e=if z7 e 0 e.moves≠0 then z7 e 0 e.moves else if Z7 e then 0 else 1:=by
   unfold E6;rw [if_neg (by simp [hf]),if_neg (by rw [hp];simp;omega)]
  conv=>whnf
  repeat' (first|refine zx ?_|refine zd ?_ ?_<;>intro h<;>try omega|fail)<;>conv=>whnf
  all_goals try omega
  clear hI hlt hk
  refine j3 d7 (fun k=>([J,S.c (C.t (T.ptr (evT e))),J,J,c9 .i64 k]++Jn 47,[])) e.moves.length (fun k=>z7 e 0 e.moves=z7 e (a3i e k) (e.moves.drop k)∧0<=a3i e k) [] ⟨rfl,Int.le_refl 0⟩
   ⟨rfl,rfl,trivial,⟨rfl,rfl,trivial⟩⟩ ?_
  rintro k hk ⟨hI,hI2⟩
  by_cases hlt:k<e.moves.length
  ·obtain ⟨x,hx⟩:∃x,e.moves[k]? =some x:=⟨_,lbf hlt⟩
   have mv:=b9r e k x hx hf (by omega) (by omega) (by omega)
   rw [a14 hx,z7] at hI
   have hm:z7 e 0 e.moves=if a2Q e k x=0 then z7 e x.day (e.moves.drop (k+1)) else a2Q e k x:=by
    rw [hI]
    unfold a2Q
    have hk0:k=0->a3i e k=0:=fun h=>by subst h;rfl
    by_cases h1:x.day<a3i e k∨100000<x.day
    ·rw [if_pos h1,if_pos (c:=x.day<0∨100000<x.day∨(0<k∧x.day<a3i e k)) (by omega)];simp
    ·rw [if_neg h1,if_neg (c:=x.day<0∨100000<x.day∨(0<k∧x.day<a3i e k)) (by omega)]
     cases R5 e x<;>simp
   have hv:a2Q e k x=0->0<=x.day:=fun h=>by unfold a2Q at h;split at h<;>omega
   have hm0:a2Q e k x=0->z7 e 0 e.moves=z7 e x.day (e.moves.drop (k+1)):=fun h=>by rw [hm,if_pos h]
   have hm1:a2Q e k x≠0->z7 e 0 e.moves=a2Q e k x:=fun h=>by rw [hm,if_neg h]
   clear hm hI
   conv=>whnf
   repeat' (first|refine zx ?_|refine qp mv ?_|refine zd ?_ ?_<;>intro h<;>try omega|fail)<;>conv=>whnf
   all_goals first
    |omega
    |(refine ⟨hlt,⟨?_,?_⟩,[],rfl,rfl,trivial,⟨rfl,rfl,trivial⟩⟩
      ·rw [a1S hx];exact hm0 (by omega)
      ·rw [a1S hx];exact hv (by omega))
    |(refine n8 ?_
      have hne:a2Q e k x≠0:=by omega
      rw [hck,hm1 hne,if_pos hne])
  ·rw [List.drop_eq_nil_of_le (by omega),z7] at hI
   have sd:=b8Q e hs hf (by omega) (by omega)
   conv=>whnf
   repeat' (first|refine zx ?_|refine qp sd ?_|refine zd ?_ ?_<;>intro h<;>try omega|fail)<;>conv=>whnf
   all_goals first
    |omega
    |(refine n8 ?_;rw [hck,hI];simp_all;done)
def aY2 (e:Ev) (hs:e.Sized) {k:Nat} {x:A8} (hx:e.moves[k]? =some x):ec 138 [evS e,eI k] [] (.tup (ivL (N1 e x))) []:=by
 have l1:=hs.s3;have l2:=hs.s4;have iv:=aW2 e.certs e.recalls om om x.scale x.reading x.day;unfold N1;by_cases hsc:x.scale=-1
 ·rw [if_pos hsc];refine ac Tryz.func138 ?_;conv=>whnf
  repeat' (first|refine zx ?_|refine i6 hx ?_|refine bl0 [1] ?_|apply zD<;>intro<;>try omega)<;>conv=>whnf
  all_goals first|omega|exact m9 rz
 ·rw [if_neg hsc];cases hiv:L4 e.certs e.recalls x.scale x.reading x.day with
  |none=>
   rw [hiv] at iv;refine ac Tryz.func138 ?_;conv=>whnf
   repeat' (first|refine zx ?_|refine i6 hx ?_|apply zD<;>intro<;>try omega)<;>conv=>whnf
   all_goals first
    |omega
    |exact m9 rz
  |some p=>
   obtain ⟨lo,hi⟩:=p;rw [hiv] at iv;refine ac Tryz.func138 ?_;conv=>whnf
   repeat' (first|refine zx ?_|refine i6 hx ?_|apply zD<;>intro<;>try omega)<;>conv=>whnf
   all_goals first|omega|exact m9 rz
def b2W (e:Ev) (mv kind:Int):ec 148 [evS e,eI mv,eI kind] [] (eI (a1v e mv kind)) []:=by
 have l2:(e.moves.map A8.row).length=e.moves.length:=zq;refine ac Tryz.func148 ?_;conv=>whnf
 repeat' (first|refine zx ?_|apply zD<;>intro<;>try omega)<;>conv=>whnf
 all_goals (refine n8 ?_;unfold a1v;(repeat' split)<;>first|rfl|omega)
theorem aS6 (t:n7) (hs:t.Sized):d6 Tryz.prog 79 [trS t] [] (c9 .i64 (p6 t)) []:=by
 have l1:=hs.f
 have l2:=hs.c
 have ck:=aZ4 t.ev hs.ev
 have m1:(t.finds.map Z9.row).length=t.finds.length:=by simp
 have m2:(t.cleans.map P1.row).length=t.cleans.length:=by simp
 by_cases h0:E6 t.ev≠0
 ·have e1:p6 t=E6 t.ev:=by unfold p6;rw [if_pos h0]
  rw [e1]
  (refine ac Tryz.func79 ?_;(conv=>whnf);repeat ((first|refine b0x ?_|refine zy ?_);conv=>whnf))
  repeat' (first|refine zx ?_|refine qp ck ?_|refine zd ?_ ?_<;>intro h<;>try omega|fail)<;>conv=>whnf
  all_goals first
   |omega
   |exact n8 rfl
 have h0:E6 t.ev=0:=by omega
 rw [h0] at ck
 by_cases h1:20<t.finds.length∨50<t.cleans.length
 ·have e1:p6 t=6:=by unfold p6;rw [if_neg (by omega),if_pos h1]
  rw [e1]
  (refine ac Tryz.func79 ?_;(conv=>whnf);repeat ((first|refine b0x ?_|refine zy ?_);conv=>whnf))
  repeat' (first|refine zx ?_|refine qp ck ?_|refine zd ?_ ?_<;>intro h<;>try omega|fail)<;>conv=>whnf
  all_goals first
   |omega
   |exact n8 rfl
 have e1:p6 t=if O2 t.ev t.finds≠0 then O2 t.ev t.finds else P4 t.ev t.cleans:=by unfold p6;rw [if_neg (by omega),if_neg h1]
 rw [e1]
 (refine ac Tryz.func79 ?_;(conv=>whnf);repeat ((first|refine b0x ?_|refine zy ?_);conv=>whnf))
 repeat' (first|refine zx ?_|refine qp ck ?_|refine zd ?_ ?_<;>intro h<;>try omega|fail)<;>conv=>whnf
 all_goals try omega
 refine j3 d7 (fun k=>([J,S.c (C.t (T.ptr (trT t))),J,J,c9 .i64 k]++Jn 73,[])) t.finds.length (fun k=>O2 t.ev t.finds=O2 t.ev (t.finds.drop k)) [] rfl
  ⟨rfl,rfl,trivial,⟨rfl,rfl,trivial⟩⟩ ?_
 intro k hk hI
 by_cases hlt:k<t.finds.length
 ·obtain ⟨f,hf⟩:∃f,t.finds[k]? =some f:=⟨_,lbf hlt⟩
  have mk:=b2W t.ev f.mv f.kind
  rw [a14 hf,O2] at hI
  by_cases hm:a1v t.ev f.mv f.kind≠0
  ·rw [if_pos hm] at hI
   rw [hI,if_pos hm]
   conv=>whnf
   repeat' (first|refine zx ?_|refine qp mk ?_|refine i6 hf ?_|refine zd ?_ ?_<;>intro h<;>try omega|fail)<;>conv=>whnf
   all_goals first
    |omega
    |exact n8 rfl
  ·rw [if_neg hm] at hI
   by_cases hg:f.grams<1∨1099511627776<f.grams
   ·rw [if_pos hg] at hI
    rw [hI]
    conv=>whnf
    repeat' (first|refine zx ?_|refine qp mk ?_|refine i6 hf ?_|refine zd ?_ ?_<;>intro h<;>try omega|fail)<;>conv=>whnf
    all_goals first
     |omega
     |exact n8 rfl
   ·rw [if_neg hg] at hI
    conv=>whnf
    repeat' (first|refine zx ?_|refine qp mk ?_|refine i6 hf ?_|refine zd ?_ ?_<;>intro h<;>try omega|fail)<;>conv=>whnf
    all_goals first
     |omega
     |exact ⟨hlt,hI,[],rfl,rfl,trivial,⟨rfl,rfl,trivial⟩⟩
 ·rw [lbo (by omega)] at hI
  have hI:O2 t.ev t.finds=0:=hI
  rw [hI,if_neg (by omega)]
  conv=>whnf
  repeat' (first|refine zx ?_|refine zd ?_ ?_<;>intro h<;>try omega|fail)<;>conv=>whnf
  all_goals try omega
  refine j3 d7 (fun k=>([J,S.c (C.t (T.ptr (trT t))),J,J,J,J,c9 .i64 k]++Jn 71,[])) t.cleans.length (fun k=>P4 t.ev t.cleans=P4 t.ev (t.cleans.drop k)) [] rfl
   ⟨rfl,rfl,trivial,⟨rfl,rfl,trivial⟩⟩ ?_
  intro j hj hJ
  by_cases hjt:j<t.cleans.length
  ·obtain ⟨c,hc⟩:∃c,t.cleans[j]? =some c:=⟨_,lbf hjt⟩
   have mk:=b2W t.ev c.mv c.kind
   rw [a14 hc,P4] at hJ
   by_cases hm:a1v t.ev c.mv c.kind≠0
   ·rw [if_pos hm] at hJ
    rw [hJ]
    conv=>whnf
    repeat' (first|refine zx ?_|refine qp mk ?_|refine i6 hc ?_|refine zd ?_ ?_<;>intro h<;>try omega|fail)<;>conv=>whnf
    all_goals first
     |omega
     |exact n8 rfl
   ·rw [if_neg hm] at hJ
    conv=>whnf
    repeat' (first|refine zx ?_|refine qp mk ?_|refine i6 hc ?_|refine zd ?_ ?_<;>intro h<;>try omega|fail)<;>conv=>whnf
    all_goals first
     |omega
     |exact ⟨hjt,hJ,[],rfl,rfl,trivial,⟨rfl,rfl,trivial⟩⟩
  ·rw [lbo (by omega)] at hJ
   have hJ:P4 t.ev t.cleans=0:=hJ
   rw [hJ]
   conv=>whnf
   repeat' (first|refine zx ?_|refine zd ?_ ?_<;>intro h<;>try omega|fail)<;>conv=>whnf
   all_goals first
    |omega
    |exact n8 rfl
def aR0 (t:n7) (hs:t.Sized) (kind:Int):ec 136 [trS t,eI kind] [] (i9 (decide (p6 t=0∧0<=kind∧kind<8))) []:=by
 have ck:=aS6 t hs;refine ac Tryz.func136 ?_;conv=>whnf
 repeat' (first|refine zx ?_|apply zD<;>intro<;>try omega)<;>conv=>whnf
 all_goals (refine d9 ?_;simp;try omega)
def ac9 (v n:Int) (h1:-9223372036854775808<=n) (h2:n<=9223372036854775807):ec 209 [eI v,eI n] [] (.agg ((o7 (v,(n:Rat))).map .t)) []:=by
 have i1:=a4Y n h1 h2;refine ac Tryz.func209 ?_;conv=>whnf
 repeat' (first|refine zx ?_|apply zD<;>intro<;>try omega)<;>conv=>whnf
 exact m9 rz
def b1i (i:Nat) (kind:Int) (v:Rat):ec 139 [eI i,eI kind,frS (fz v)] [] (as7 (A9 i kind v)) []:=by
 have i1:=ac9 i 1 de de;refine ac Tryz.func139 ?_;conv=>whnf
 repeat' (first|refine zz ?_|refine qp i1 ?_|refine a4M.weak ?_|apply zD<;>intro<;>try omega|refine zy ?_|fail)<;>conv=>whnf
 exact m9 rz
abbrev bv4 (f:Fr):Blk:={ mode:=.live,elem:=86,size:=4,rows:=[frC f],box:=true }
def b0c (f:Fr):I5 [frC f]:=by simp [I5,frC,o4,C.isT]
end Go.Proofs.YtikokmdpigploaaGreat
