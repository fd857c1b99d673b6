/- Part 7. -/
import Derived.Test.YtdbogogfeffjlaaGreatSsB6
namespace Go.Proofs.YtdbogogfeffjlaaGreat
set_option linter.unusedVariables false
set_option linter.unusedSimpArgs false
set_option maxRecDepth 100000
open St1 St2 St3 St4 St5 St6
section
open Go.RowKit
theorem aK1 (Y:List Rat) (n:Nat) (hl:Y.length≤1000000) (h:∀v ∈ Y,rl v≤200000):b9 Tryz.prog 238 [k7 (Y.map fz),a9 .i64 n] [] (e6 (decide (Y.length=n))) []:=by
 have m2:((Y.map fz).map j7).length=Y.length:=by simp
 (refine a8 a7 Tryz.func238 rfl (by decide) ?_;(conv=>whnf);repeat ((first|refine b0x ?_|refine zy ?_);conv=>whnf))
 repeat' first|(refine zd ?_ ?_<;>intro h<;>first|exact zc h|(exfalso;omega)|conv=>whnf)|((first|refine zz ?_|refine zy ?_);conv=>whnf)
 refine f6 a7 (fun k=>([k7 (Y.map fz),a9 .i64 n,J,J,J,a9 .i64 k,J,J,J,J,J,J,J,J,J,J,J,J,J,J,J,J],[])) Y.length (fun _=>True) [] trivial
  ⟨rfl,rfl,trivial,⟨rfl,rfl,rfl,trivial⟩⟩ ?_
 intro k hk _
 by_cases hlt:k<Y.length
 ·obtain ⟨x,hx⟩:∃x,Y[k]? =some x:=⟨_,lg0 hlt⟩
  have bx:=h x (lg2 hx)
  have rr:=a5S x (by omega)
  conv=>whnf
  repeat' first|(refine zd ?_ ?_<;>intro h<;>first|exact zc h|(exfalso;omega)|conv=>whnf)|((first|refine zz ?_|refine qp rr ?_|refine d7 (O1 Y hx) ?_|refine zy ?_);conv=>whnf)
  all_goals first
   |(exfalso;omega)
   |(exfalso;simp_all;done)
   |exact ⟨hlt,trivial,[],rfl,rfl,trivial,⟨rfl,rfl,rfl,trivial⟩⟩
 ·conv=>whnf
  repeat' first|(refine zd ?_ ?_<;>intro h<;>first|exact zc h|(exfalso;omega)|conv=>whnf)|((first|refine zz ?_|refine zy ?_);conv=>whnf)
  all_goals first
   |(exfalso;omega)
   |(refine c6 (decide_eq_true ?_).symm;omega)
   |(refine c6 (decide_eq_false ?_).symm;omega)
def yN (Y:List Rat) (i:Nat):Rat:=Y.getD i 0
theorem a7N {Y:List Rat} {k:Nat} {x:Rat} (h:Y[k]? =some x):yN Y k=x:=by unfold yN;rw [lg3,h];rfl
def sgB (s:f5) (Y:List Rat) (i:Nat):Bool:=!((decide ((o7 s i).kind=0) && decide (yN Y i<0)) || (decide ((o7 s i).kind=1) && decide (0<yN Y i)))
def N8 (s:f5) (Y:List Rat):Bool:=decide (Y.length=s.rows.length) && (List.range s.rows.length).all (sgB s Y)
theorem a9Y {n k:Nat} (h:k<n):(List.range n)[k]? =some k:=by simp [h]
theorem a0w {f:Nat→Bool} {k:Nat}:(List.range (k+1)).all f=((List.range k).all f && f k):=by rw [List.range_succ,List.all_append];simp
theorem a23 {f:Nat→Bool} {n k:Nat} (h:k<n) (hf:f k=false):(List.range n).all f=false:=t7 (a9Y h) hf
theorem b1a (s:f5) (hb:U7 s) (hr:f9 s=true) (Y:List Rat) (hl:Y.length≤1000000) (hy:∀v ∈ Y,rl v≤50000):
 b9 Tryz.prog 166 [F0 s,k7 (Y.map fz)] [] (e6 (N8 s Y)) []:=by
 have m1:(s.rows.map s7).length=s.rows.length:=by simp
 have m2:((Y.map fz).map j7).length=Y.length:=by simp
 have l1:=hb.n0
 have lr:=ah7 s hb
 rw [hr] at lr
 have fr:=aK1 Y s.rows.length hl (fun v hv=>by have:=hy v hv;omega)
 have fr2:b9 Tryz.prog 238 [k7 (Y.map fz),a9 .i64 ((s.rows.map s7).length:Nat)] [] (e6 (decide (Y.length=s.rows.length))) []:=by rw [m1];exact fr
 by_cases hn:Y.length≠s.rows.length
 ·have e2:N8 s Y=false:=by unfold N8;rw [decide_eq_false hn];simp
  rw [decide_eq_false hn] at fr2
  rw [e2]
  (refine a8 a7 Tryz.func166 rfl (by decide) ?_;(conv=>whnf);repeat ((first|refine b0x ?_|refine zy ?_);conv=>whnf))
  repeat' first|(refine zd ?_ ?_<;>intro h<;>first|exact zc h|(exfalso;omega)|conv=>whnf)|((first|refine zz ?_|refine qp lr ?_|refine qp fr2 ?_|refine zy ?_);conv=>whnf)
  all_goals first
   |(exfalso;omega)
   |(exfalso;simp_all;done)
   |exact c6 rfl
 have hn:Y.length=s.rows.length:=by omega
 have e2:N8 s Y=(List.range s.rows.length).all (sgB s Y):=by unfold N8;rw [decide_eq_true hn];simp
 rw [e2]
 rw [decide_eq_true hn] at fr2
 (refine a8 a7 Tryz.func166 rfl (by decide) ?_;(conv=>whnf);repeat ((first|refine b0x ?_|refine zy ?_);conv=>whnf))
 repeat' first|(refine zd ?_ ?_<;>intro h<;>first|exact zc h|(exfalso;omega)|conv=>whnf)|((first|refine zz ?_|refine qp lr ?_|refine qp fr2 ?_|refine zy ?_);conv=>whnf)
 all_goals try (exfalso;simp_all;done)
 refine f6 a7 (fun k=>([J,k7 (Y.map fz),S.c (C.t (T.ptr [ti s.n,B2 s.rows])),J,J,a9 .i64 k,J,J,J,J,J,J,J,J,J,J,J,J,J,J,J,J,J,J,J,J,J,J,J,J,J,J,J,J,J,J,J,J,J,J,J,J,J,J,J,J,J,J,J,J,J,J,J],[])) Y.length (fun k=>(List.range k).all (sgB s Y)=true) [] rfl
  ⟨rfl,rfl,trivial,⟨rfl,rfl,rfl,trivial⟩⟩ ?_
 intro k hk hI
 by_cases hlt:k<Y.length
 ·obtain ⟨x,hx⟩:∃x,Y[k]? =some x:=⟨_,lg0 hlt⟩
  obtain ⟨w,hw⟩:∃w,s.rows[k]? =some w:=⟨_,lg0 (by omega)⟩
  have bx:=hy x (lg2 hx)
  have sg:=a4q x (by omega)
  have es:sgB s Y k=decide ((w.kind=0→¬sgR x<0)∧(w.kind=1→¬sgR x > 0)):=by
   unfold sgB
   rw [F9 hw,a7N hx,Bool.eq_iff_iff,decide_eq_true_iff,a1d,ae1]
   simp
   grind
  generalize sgR x=U at sg es
  by_cases hok:(w.kind=0→¬U<0)∧(w.kind=1→¬U > 0)
  ·rw [decide_eq_true hok] at es
   obtain ⟨q1,q2⟩:=hok
   conv=>whnf
   repeat' first|(refine zd ?_ ?_<;>intro h<;>first|exact zc h|(exfalso;omega)|conv=>whnf)|((first|refine zz ?_|refine qp sg ?_|refine d7 (O1 Y hx) ?_|refine d7 hw ?_|refine zy ?_);conv=>whnf)
   all_goals first
    |(exfalso;omega)
    |exact ⟨hlt,by rw [a0w,hI,es];rfl,[],rfl,rfl,trivial,⟨rfl,rfl,rfl,trivial⟩⟩
  ·rw [decide_eq_false hok] at es
   rw [a23 (n:=s.rows.length) (by omega) es]
   have hor:(w.kind=0∧U<0)∨(w.kind=1∧U > 0):=by omega
   clear hok
   conv=>whnf
   repeat' first|(refine zd ?_ ?_<;>intro h<;>first|exact zc h|(exfalso;omega)|conv=>whnf)|((first|refine zz ?_|refine qp sg ?_|refine d7 (O1 Y hx) ?_|refine d7 hw ?_|refine zy ?_);conv=>whnf)
   all_goals first
    |(exfalso;omega)
    |exact c6 rfl
 ·have hke:k=s.rows.length:=by omega
  subst hke
  rw [hI]
  conv=>whnf
  repeat' first|(refine zd ?_ ?_<;>intro h<;>first|exact zc h|(exfalso;omega)|conv=>whnf)|((first|refine zz ?_|refine zy ?_);conv=>whnf)
  all_goals first
   |(exfalso;omega)
   |exact c6 rfl
theorem b2z {n:Int} {l:List (Int × Rat)} (hr:e7 (-1) n l=true) {i:Nat} {t:Int × Rat} (ht:l[i]? =some t):∀k,i<k→k≤l.length→G6 l k t.1.toNat=t.2:=by
 intro k hi hk
 induction k with
 |zero=>omega
 |succ k ih=>
  obtain ⟨u,hu⟩:∃u,l[k]? =some u:=⟨_,lg0 (by omega)⟩
  rw [E5 hu]
  simp only
  by_cases h:i=k
  ·subst h
   rw [ht] at hu;injection hu with hu;subst hu
   rw [if_pos rfl]
  ·have:=a0t hr i k t u (by omega) ht hu
   have:=s9 hr t (lg2 ht)
   rw [if_neg (by omega)]
   exact ih (by omega) (by omega)
theorem aM2 {n:Int} {l:List (Int × Rat)} (hr:e7 (-1) n l=true) {i:Nat} {t:Int × Rat} (ht:l[i]? =some t):u3 l t.1.toNat=t.2:=
 b2z hr ht _ (lg1 ht).1 (Nat.le_refl _)
theorem ax1 (l:List (Int × Rat)) (v:Nat) {n:Int} (hr:e7 (-1) n l=true) (hl:l.length≤1000000) (hv:v≤1000000):b9 Tryz.prog 170 [j2 l,a9 .i64 v] [] (frS (fz (u3 l v))) []:=by
 have m1:(l.map k6).length=l.length:=by simp
 have i0:=a2A 0 (by decide) (by decide)
 (refine a8 a7 Tryz.func170 rfl (by decide) ?_;(conv=>whnf);repeat ((first|refine b0x ?_|refine zy ?_);conv=>whnf))
 repeat' first|(refine zd ?_ ?_<;>intro h<;>first|exact zc h|(exfalso;omega)|conv=>whnf)|((first|refine zz ?_|refine zy ?_);conv=>whnf)
 refine f6 a7 (fun k=>([j2 l,a9 .i64 v,J,J,S.c (C.ptr 0 0 0),a9 .i64 k,J,J,J,J,J,J,J,J,J,J,J,J,J,J,J,J,J,J,J],[frB C2])) l.length (fun k=>∀i t,i<k→l[i]? =some t→t.1.toNat≠v) [some 0] (fun i t h=>by omega)
  ⟨rfl,rfl,⟨⟨rfl,rfl,rfl,.inr ⟨⟨rfl,rfl,rfl,rfl,trivial⟩,trivial⟩⟩,trivial⟩,⟨rfl,rfl,⟨rfl,rfl,rfl⟩,rfl,trivial⟩⟩ ?_
 intro k hk hI
 by_cases hlt:k<l.length
 ·obtain ⟨t,ht⟩:∃t,l[k]? =some t:=⟨_,lg0 hlt⟩
  have hm:=s9 hr t (lg2 ht)
  by_cases he:t.1=v
  ·have e:u3 l v=t.2:=by rw [← aM2 hr ht,he];rfl
   rw [e]
   conv=>whnf
   repeat' first|(refine zd ?_ ?_<;>intro h<;>first|exact zc h|(exfalso;omega)|conv=>whnf)|((first|refine zz ?_|refine d7 ht ?_|refine zy ?_);conv=>whnf)
   all_goals first
    |(exfalso;omega)
    |exact ao8 rfl
  ·conv=>whnf
   repeat' first|(refine zd ?_ ?_<;>intro h<;>first|exact zc h|(exfalso;omega)|conv=>whnf)|((first|refine zz ?_|refine d7 ht ?_|refine zy ?_);conv=>whnf)
   all_goals first
    |(exfalso;omega)
    |exact ⟨hlt,fun i u hi hu=>by
      by_cases h:i=k
      ·subst h;rw [ht] at hu;injection hu with hu;subst hu;omega
      ·exact hI i u (by omega) hu,[some 0],rfl,rfl,⟨⟨rfl,rfl,rfl,.inl ⟨rfl,t5 _⟩⟩,trivial⟩,⟨rfl,rfl,⟨rfl,rfl,rfl⟩,rfl,trivial⟩⟩
 ·have hke:k=l.length:=by omega
  subst hke
  have e:u3 l v=((0:Int):Rat):=S1 _ hI
  rw [e]
  conv=>whnf
  repeat' first|(refine zd ?_ ?_<;>intro h<;>first|exact zc h|(exfalso;omega)|conv=>whnf)|((first|refine zz ?_|refine qp i0 ?_|refine zy ?_);conv=>whnf)
  all_goals first
   |(exfalso;omega)
   |exact ao8 rfl
theorem aV6 (a b c:Rat) (ha:rl a≤60000) (hb:rl b≤50000) (hc:rl c≤200):b9 Tryz.prog 239 [frS (fz a),frS (fz b),frS (fz c)] [] (frS (fz (a+b*c))) []:=by
 have l:=a1f b c
 have mu:=b33 b c (by omega) (by omega)
 have ad:=aJ0 a (b*c) (by omega) (by omega)
 (refine a8 a7 Tryz.func239 rfl (by decide) ?_;(conv=>whnf);repeat ((first|refine b0x ?_|refine zy ?_);conv=>whnf))
 repeat' first|(refine zd ?_ ?_<;>intro h<;>first|exact zc h|(exfalso;omega)|conv=>whnf)|((first|refine zz ?_|refine qp mu ?_|refine qp ad ?_|refine qp 5 ?_|refine bl0 [5] ?_|refine zy ?_);conv=>whnf)
 all_goals first
  |exact ao8 rfl
def F5 (s:f5) (y:Nat→Rat) (k:Nat):List (Int × Rat):=((List.range k).filter fun v=>decide (C1 s y v≠0)).map fun v:Nat=>((v:Int),C1 s y v)
theorem a3P (s:f5) (y:Nat→Rat) (k:Nat):F5 s y (k+1)=if C1 s y k=0 then F5 s y k else F5 s y k++[((k:Int),C1 s y k)]:=by
 unfold F5
 rw [List.range_succ,List.filter_append,List.map_append]
 by_cases h:C1 s y k=0
 ·rw [if_pos h];simp [h]
 ·rw [if_neg h];simp [h]
theorem a7Q (s:f5) (y:Nat→Rat) (k:Nat):(F5 s y k).length≤k:=by
 unfold F5
 rw [List.length_map]
 exact Nat.le_trans (List.length_filter_le _ _) (by simp)
def K3 (s:f5) (y:Nat→Rat) (l k:Nat):Rat:=g8 (fun i=>y i*u3 (o7 s i).terms l) k
def Q1 (s:f5) (y:Nat→Rat) (k:Nat):Rat:=g8 (fun i=>y i*(o7 s i).value) k
structure a4u (s:f5) (Y:List Rat):Prop where
 y:∀v ∈ Y,rl v≤40000
 n:∀l k,rl (K3 s (yN Y) l k)≤50000
 v:∀k,rl (Q1 s (yN Y) k)≤50000
 l:Y.length=s.rows.length
 m:s.rows.length≤1000000
theorem aG2 {l:List (Int × Rat)} (h:∀t ∈ l,rl t.2≤200) (v:Nat):rl (u3 l v)≤200:=by
 have key:∀k,rl (G6 l k v)≤200:=by
  intro k
  induction k with
  |zero=>have:=rl0;show rl 0≤_;omega
  |succ k ih=>
   cases hk:l[k]? with
   |none=>rw [G6,hk];exact ih
   |some t=>
    rw [E5 hk]
    simp only
    split
    ·exact h t (lg2 hk)
    ·exact ih
 exact key _
set_option maxHeartbeats 4000000 in
theorem b67 (s:f5) (hb:U7 s) (hr:f9 s=true) (Y:List Rat) (hq:a4u s Y):
 b9 Tryz.prog 168 [F0 s,k7 (Y.map fz)] [] (.tup [j2 (F5 s (yN Y) s.n.toNat),frS (fz (J4 s (yN Y)))]) []:=by
 have m1:(s.rows.map s7).length=s.rows.length:=by simp
 have m2:((Y.map fz).map j7).length=Y.length:=by simp
 have l1:=hb.n0
 have hn:=hq.l
 have lr:=ah7 s hb
 rw [hr] at lr
 have hnn:0≤s.n∧s.n≤1500:=by
  unfold f9 at hr
  simp only [Bool.and_eq_true,decide_eq_true_eq] at hr
  exact ⟨hr.1.1.1,hr.1.1.2⟩
 have fr:=aK1 Y s.rows.length (by omega) (fun v hv=>by have:=hq.y v hv;omega)
 have fr2:b9 Tryz.prog 238 [k7 (Y.map fz),a9 .i64 ((s.rows.map s7).length:Nat)] [] (e6 true) []:=by rw [m1];rw [decide_eq_true hn] at fr;exact fr
 have i0:=a2A 0 (by decide) (by decide)
 (refine a8 a7 Tryz.func168 rfl (by decide) ?_;(conv=>whnf);repeat ((first|refine b0x ?_|refine zy ?_);conv=>whnf))
 repeat' first|(refine zd ?_ ?_<;>intro h<;>first|exact zc h|(exfalso;omega)|conv=>whnf)|((first|refine zz ?_|refine qp lr ?_|refine qp fr2 ?_|refine qp i0 ?_|refine a3i.own ?_|refine zy ?_);conv=>whnf)
 all_goals try (exfalso;omega)
 all_goals try (exfalso;simp_all;done)
 refine f6 a7 (fun v=>([J,k7 (Y.map fz),S.c (C.t (T.ptr [ti s.n,B2 s.rows])),J,J,S.c (C.ptr 0 0 0),S.c (C.own 1 0 (F5 s (yN Y) v).length true),a9 .i64 v,J,J,J,J,J,J,J,J,J,J,J,J,J,J,J,J,J,J,J,J,J,J,J,J,J,J,J,J,J,J,J,J,J,J,J,J,J,J,J,J,J,J,J,J,J,J,J,J,J,J,J,J,J,J,J,J,J,J,J,J,J,J,J,J,J,J,J,J,J,J,J,J,J,J],[frB C2,J6 (F5 s (yN Y) v)])) s.n.toNat (fun _=>True) [some 0,some 1] trivial
  ⟨rfl,rfl,⟨⟨rfl,rfl,rfl,.inr ⟨⟨rfl,rfl,rfl,rfl,trivial⟩,trivial⟩⟩,b8 (rows:=[]) rfl rfl rfl rfl rfl,trivial⟩,⟨rfl,rfl,⟨rfl,rfl,rfl⟩,⟨rfl,rfl,rfl,fun h=>h⟩,rfl,trivial⟩⟩ ?_
 intro v hv _
 have lv:=a7Q s (yN Y) v
 by_cases hlt:v<s.n.toNat
 ·conv=>whnf
  repeat' first|(refine zd ?_ ?_<;>intro h<;>first|exact zc h|(exfalso;omega)|conv=>whnf)|((first|refine zz ?_|refine qp i0 ?_|refine zy ?_);conv=>whnf)
  all_goals try (exfalso;omega)
  refine f6 a7 (fun k=>([J,k7 (Y.map fz),S.c (C.t (T.ptr [ti s.n,B2 s.rows])),J,J,S.c (C.ptr 0 0 0),S.c (C.own 1 0 (F5 s (yN Y) v).length true),a9 .i64 v,S.c (C.ptr 2 0 0),a9 .i64 k,J,J,J,J,J,J,J,J,J,J,J,J,J,J,J,J,J,J,J,J,J,J,J,J,J,J,J,J,J,J,J,J,J,J,J,J,J,J,J,J,J,J,J,J,J,J,J,J,J,J,J,J,J,J,J,J,J,J,J,J,J,J,J,J,J,J,J,J,J,J,J,J],[frB C2,J6 (F5 s (yN Y) v),frB (fz (K3 s (yN Y) v k))])) Y.length (fun _=>True) [some 0,some 1,some 2] trivial
   ⟨rfl,rfl,⟨⟨rfl,rfl,rfl,.inr ⟨⟨rfl,rfl,rfl,rfl,trivial⟩,trivial⟩⟩,b8 (rows:=(F5 s (yN Y) v).map k6) rfl rfl rfl rfl rfl,⟨rfl,rfl,rfl,.inl ⟨rfl,t5 _⟩⟩,trivial⟩,⟨rfl,rfl,⟨rfl,rfl,rfl⟩,⟨rfl,rfl,rfl,fun h=>h⟩,rfl,⟨rfl,rfl,rfl⟩,rfl,trivial⟩⟩ ?_
  intro k hk _
  by_cases hkl:k<Y.length
  ·obtain ⟨x,hx⟩:∃x,Y[k]? =some x:=⟨_,lg0 hkl⟩
   obtain ⟨w,hw⟩:∃w,s.rows[k]? =some w:=⟨_,lg0 (by omega)⟩
   obtain ⟨b1,b2,b3⟩:=hb.t w (lg2 hw)
   have hrt:=(a0e hr hw).1
   have bx:=hq.y x (lg2 hx)
   have co:=ax1 w.terms v hrt (by omega) (by omega)
   have bc:=aG2 b2 v
   have bm:=hq.n v k
   have pl:=aV6 (K3 s (yN Y) v k) x (u3 w.terms v) (by omega) (by omega) bc
   have e:K3 s (yN Y) v k+x*u3 w.terms v=K3 s (yN Y) v (k+1):=by
    show _=K3 s (yN Y) v k+yN Y k*u3 (o7 s k).terms v
    rw [F9 hw,a7N hx]
   rw [e] at pl
   conv=>whnf
   repeat' first|(refine zd ?_ ?_<;>intro h<;>first|exact zc h|(exfalso;omega)|conv=>whnf)|((first|refine zz ?_|refine qp co ?_|refine qp pl ?_|refine d7 (O1 Y hx) ?_|refine d7 hw ?_|refine zy ?_);conv=>whnf)
   all_goals first
    |(exfalso;omega)
    |exact ⟨hkl,trivial,[some 0,some 1,some 2],rfl,rfl,⟨⟨rfl,rfl,rfl,.inr ⟨⟨rfl,rfl,rfl,rfl,trivial⟩,trivial⟩⟩,b8 (rows:=(F5 s (yN Y) v).map k6) rfl rfl rfl rfl rfl,⟨rfl,rfl,rfl,.inl ⟨rfl,t5 _⟩⟩,trivial⟩,⟨rfl,rfl,⟨rfl,rfl,rfl⟩,⟨rfl,rfl,rfl,fun h=>h⟩,rfl,⟨rfl,rfl,rfl⟩,rfl,trivial⟩⟩
  ·have hke:k=s.rows.length:=by omega
   subst hke
   have e:K3 s (yN Y) v s.rows.length=C1 s (yN Y) v:=rfl
   rw [e]
   have bm:=hq.n v s.rows.length
   rw [e] at bm
   have sg:=a4q (C1 s (yN Y) v) (by omega)
   have sz:=a0M (x:=C1 s (yN Y) v)
   have lA:(F5 s (yN Y) v).length≤(J6 (F5 s (yN Y) v)).rows.length:=by show _≤(toC _).length;simp [toC]
   by_cases hz:C1 s (yN Y) v=0
   ·have hs:=sz.2 hz
    have e2:F5 s (yN Y) (v+1)=F5 s (yN Y) v:=by rw [a3P,if_pos hz]
    rw [e2]
    conv=>whnf
    repeat' first|(refine zd ?_ ?_<;>intro h<;>first|exact zc h|(exfalso;omega)|conv=>whnf)|((first|refine zz ?_|refine qp sg ?_|refine zy ?_);conv=>whnf)
    all_goals first
     |(exfalso;omega)
     |exact ⟨hlt,trivial,[some 0,some 1],rfl,rfl,⟨⟨rfl,rfl,rfl,.inr ⟨⟨rfl,rfl,rfl,rfl,trivial⟩,trivial⟩⟩,b8 (rows:=(F5 s (yN Y) v).map k6) rfl rfl rfl rfl rfl,trivial⟩,⟨rfl,rfl,⟨rfl,rfl,rfl⟩,⟨rfl,rfl,rfl,fun h=>h⟩,rfl,trivial⟩⟩
   ·have hs:sgR (C1 s (yN Y) v)≠0:=fun h=>hz (sz.1 h)
    have e2:F5 s (yN Y) (v+1)=F5 s (yN Y) v++[((v:Int),C1 s (yN Y) v)]:=by rw [a3P,if_neg hz]
    rw [e2]
    conv=>whnf
    repeat' first|(refine zd ?_ ?_<;>intro h<;>first|exact zc h|(exfalso;omega)|conv=>whnf)|((first|refine zz ?_|refine qp sg ?_|refine qp toC ?_|refine t9 lA (by simp [toC];omega) ?_|refine zy ?_);conv=>whnf)
    all_goals first
     |(exfalso;omega)
     |(refine ⟨hlt,trivial,[some 0,some 3],rfl,rfl,⟨⟨rfl,rfl,rfl,.inr ⟨⟨rfl,rfl,rfl,rfl,trivial⟩,trivial⟩⟩,b8 (rows:=(F5 s (yN Y) v++[((v:Int),C1 s (yN Y) v)]).map k6) rfl rfl rfl ?_ ?_,trivial⟩,⟨rfl,rfl,⟨rfl,rfl,rfl⟩,⟨rfl,rfl,?_,fun h=>h⟩,rfl,trivial⟩⟩
       ·exact U5 (f:=k6) (x:=((v:Int),C1 s (yN Y) v)) rfl
       ·rfl
       ·simp [toC])
 ·have hke:v=s.n.toNat:=by omega
  subst hke
  conv=>whnf
  repeat' first|(refine zd ?_ ?_<;>intro h<;>first|exact zc h|(exfalso;omega)|conv=>whnf)|((first|refine zz ?_|refine qp i0 ?_|refine zy ?_);conv=>whnf)
  all_goals try (exfalso;omega)
  refine f6 a7 (fun k=>([J,k7 (Y.map fz),S.c (C.t (T.ptr [ti s.n,B2 s.rows])),J,J,S.c (C.ptr 0 0 0),S.c (C.own 1 0 (F5 s (yN Y) s.n.toNat).length true),J,J,J,S.c (C.ptr 2 0 0),a9 .i64 k,J,J,J,J,J,J,J,J,J,J,J,J,J,J,J,J,J,J,J,J,J,J,J,J,J,J,J,J,J,J,J,J,J,J,J,J,J,J,J,J,J,J,J,J,J,J,J,J,J,J,J,J,J,J,J,J,J,J,J,J,J,J,J,J,J,J,J,J,J,J],[frB C2,J6 (F5 s (yN Y) s.n.toNat),frB (fz (Q1 s (yN Y) k))])) Y.length (fun _=>True) [some 0,some 1,some 2] trivial
   ⟨rfl,rfl,⟨⟨rfl,rfl,rfl,.inr ⟨⟨rfl,rfl,rfl,rfl,trivial⟩,trivial⟩⟩,b8 (rows:=(F5 s (yN Y) s.n.toNat).map k6) rfl rfl rfl rfl rfl,⟨rfl,rfl,rfl,.inl ⟨rfl,t5 _⟩⟩,trivial⟩,⟨rfl,rfl,⟨rfl,rfl,rfl⟩,⟨rfl,rfl,rfl,fun h=>h⟩,⟨rfl,rfl,rfl⟩,rfl,trivial⟩⟩ ?_
  intro k hk _
  by_cases hkl:k<Y.length
  ·obtain ⟨x,hx⟩:∃x,Y[k]? =some x:=⟨_,lg0 hkl⟩
   obtain ⟨w,hw⟩:∃w,s.rows[k]? =some w:=⟨_,lg0 (by omega)⟩
   obtain ⟨b1,b2,b3⟩:=hb.t w (lg2 hw)
   have bx:=hq.y x (lg2 hx)
   have bm:=hq.v k
   have pl:=aV6 (Q1 s (yN Y) k) x w.value (by omega) (by omega) b3
   have e:Q1 s (yN Y) k+x*w.value=Q1 s (yN Y) (k+1):=by
    show _=Q1 s (yN Y) k+yN Y k*(o7 s k).value
    rw [F9 hw,a7N hx]
   rw [e] at pl
   conv=>whnf
   repeat' first|(refine zd ?_ ?_<;>intro h<;>first|exact zc h|(exfalso;omega)|conv=>whnf)|((first|refine zz ?_|refine qp pl ?_|refine d7 (O1 Y hx) ?_|refine d7 hw ?_|refine zy ?_);conv=>whnf)
   all_goals first
    |(exfalso;omega)
    |exact ⟨hkl,trivial,[some 0,some 1,some 2],rfl,rfl,⟨⟨rfl,rfl,rfl,.inr ⟨⟨rfl,rfl,rfl,rfl,trivial⟩,trivial⟩⟩,b8 (rows:=(F5 s (yN Y) s.n.toNat).map k6) rfl rfl rfl rfl rfl,⟨rfl,rfl,rfl,.inl ⟨rfl,t5 _⟩⟩,trivial⟩,⟨rfl,rfl,⟨rfl,rfl,rfl⟩,⟨rfl,rfl,rfl,fun h=>h⟩,⟨rfl,rfl,rfl⟩,rfl,trivial⟩⟩
  ·have hke:k=s.rows.length:=by omega
   subst hke
   have e:Q1 s (yN Y) s.rows.length=J4 s (yN Y):=rfl
   rw [e]
   conv=>whnf
   repeat' first|(refine zd ?_ ?_<;>intro h<;>first|exact zc h|(exfalso;omega)|conv=>whnf)|((first|refine zz ?_|refine zy ?_);conv=>whnf)
   all_goals first
    |(exfalso;omega)
    |exact j5 ⟨(show VC _ (fun id=>I9 [] id=true) (C.own 1 0 _ true) _ from t8 (k:=J6 (F5 s (yN Y) s.n.toNat)) rfl rfl (fun h=>h) rfl rfl (by simp)),⟨rfl,rfl,rfl,rfl,trivial⟩,trivial⟩
end
section
open Go.RowKit
theorem a9o {n:Int}:∀{l:List (Int × Rat)} {last:Int},l.Pairwise (fun a b=>a.1<b.1)→(∀ t ∈ l,last<t.1∧t.1<n∧t.2≠0)→e7 last n l=true
 |[],_,_,_=>rfl
 |a::r,last,h1,h2=>by
  unfold e7
  simp only [Bool.and_eq_true,decide_eq_true_eq]
  obtain ⟨p1,p2⟩:=List.pairwise_cons.1 h1
  have:=h2 a (List.mem_cons_self ..)
  exact ⟨⟨⟨this.1,this.2.1⟩,this.2.2⟩,a9o p2 fun t ht=>⟨p1 t ht,(h2 t (List.mem_cons_of_mem _ ht)).2⟩⟩
theorem a4T {s:f5} {y:Nat→Rat} {k:Nat} {t:Int × Rat}:t ∈ F5 s y k↔∃v:Nat,v<k∧C1 s y v≠0∧t=((v:Int),C1 s y v):=by
 unfold F5
 rw [List.mem_map]
 constructor
 ·rintro ⟨v,hv,rfl⟩
  rw [List.mem_filter,List.mem_range] at hv
  exact ⟨v,hv.1,by simpa using hv.2,rfl⟩
 ·rintro ⟨v,h1,h2,rfl⟩
  exact ⟨v,by rw [List.mem_filter,List.mem_range];exact ⟨h1,by simpa using h2⟩,rfl⟩
theorem a2r (s:f5) (y:Nat→Rat) (k:Nat):e7 (-1) (k:Int) (F5 s y k)=true:=by
 refine a9o ?_ fun t ht=>?_
 ·unfold F5
  rw [List.pairwise_map]
  exact ((List.pairwise_lt_range (n:=k)).filter _).imp fun {a b} h=>by show (a:Int)<b;omega
 ·obtain ⟨v,h1,h2,rfl⟩:=a4T.1 ht
  exact ⟨by simp only;omega,by simp only;omega,h2⟩
theorem a8A {s:f5} {y:Nat→Rat} {k v:Nat} (hv:v<k):u3 (F5 s y k) v=C1 s y v:=by
 by_cases h:C1 s y v=0
 ·rw [h]
  refine S1 _ fun i t _ ht=>?_
  obtain ⟨u,h1,h2,rfl⟩:=a4T.1 (lg2 ht)
  intro e
  have e:u=v:=by simpa using e
  exact h2 (e ▸ h)
 ·obtain ⟨i,hi,he⟩:=List.getElem_of_mem (a4T.2 ⟨v,hv,h,rfl⟩)
  have:=aM2 (a2r s y k) (i:=i) (t:=((v:Int),C1 s y v)) (by rw [lg0 hi,he])
  simpa using this
def U8 (s:f5) (g:List (Int × Rat)) (Y:List Rat):Bool:=N8 s Y && e7 (-1) s.n g && (List.range s.n.toNat).all fun v=>decide (C1 s (yN Y) v≤u3 g v)
def a1F (s:f5) (g:List (Int × Rat)) (Y:List Rat):S:=if U8 s g Y=true then .tup [frS (fz (J4 s (yN Y))),e6 true] else .tup [frS C2,e6 false]
set_option maxHeartbeats 2000000 in
theorem aJ8 (s:f5) (hb:U7 s) (hr:f9 s=true) (g:List (Int × Rat)) (hg:g.length≤1000000) (hgb:∀t ∈ g,rl t.2≤200) (Y:List Rat) (hy:∀v ∈ Y,rl v≤40000) (hyl:Y.length≤1000000) (hq:Y.length=s.rows.length→a4u s Y):
 b9 Tryz.prog 95 [F0 s,j2 g,k7 (Y.map fz)] [] (a1F s g Y) []:=by
 have hnn:0≤s.n∧s.n≤1500:=by
  unfold f9 at hr
  simp only [Bool.and_eq_true,decide_eq_true_eq] at hr
  exact ⟨hr.1.1.1,hr.1.1.2⟩
 have sn:=b1a s hb hr Y hyl (fun v hv=>by have:=hy v hv;omega)
 have rt:=a07 g s.n hg hgb
 rw [decide_eq_true hnn.1,Bool.true_and] at rt
 cases hs:N8 s Y with
 |false=>
  have e:a1F s g Y=.tup [frS C2,e6 false]:=by unfold a1F U8;rw [hs];rfl
  rw [e]
  rw [hs] at sn
  (refine a8 a7 Tryz.func95 rfl (by decide) ?_;(conv=>whnf);repeat ((first|refine b0x ?_|refine zy ?_);conv=>whnf))
  repeat' first|(refine zd ?_ ?_<;>intro h<;>first|exact zc h|(exfalso;omega)|conv=>whnf)|((first|refine zz ?_|refine qp sn ?_|refine qp rt ?_|refine zy ?_);conv=>whnf)
  all_goals first
   |(exfalso;simp_all;done)
   |exact j5 ⟨⟨rfl,rfl,rfl,rfl,trivial⟩,rfl,trivial⟩
 |true=>
 rw [hs] at sn
 cases ht:e7 (-1) s.n g with
 |false=>
  have e:a1F s g Y=.tup [frS C2,e6 false]:=by unfold a1F U8;rw [hs,ht];rfl
  rw [e]
  rw [ht] at rt
  (refine a8 a7 Tryz.func95 rfl (by decide) ?_;(conv=>whnf);repeat ((first|refine b0x ?_|refine zy ?_);conv=>whnf))
  repeat' first|(refine zd ?_ ?_<;>intro h<;>first|exact zc h|(exfalso;omega)|conv=>whnf)|((first|refine zz ?_|refine qp sn ?_|refine qp rt ?_|refine zy ?_);conv=>whnf)
  all_goals first
   |(exfalso;simp_all;done)
   |exact j5 ⟨⟨rfl,rfl,rfl,rfl,trivial⟩,rfl,trivial⟩
 |true=>
 rw [ht] at rt
 have hl:Y.length=s.rows.length:=by
  unfold N8 at hs
  simp only [Bool.and_eq_true,decide_eq_true_eq] at hs
  exact hs.1
 have hq:=hq hl
 have eb:U8 s g Y=(List.range s.n.toNat).all fun v=>decide (C1 s (yN Y) v≤u3 g v):=by unfold U8;rw [hs,ht];simp
 have mx:=b67 s hb hr Y hq
 have ml:=a7Q s (yN Y) s.n.toNat
 have mr:=a2r s (yN Y) s.n.toNat
 (refine a8 a7 Tryz.func95 rfl (by decide) ?_;(conv=>whnf);repeat ((first|refine b0x ?_|refine zy ?_);conv=>whnf))
 repeat' first|(refine zd ?_ ?_<;>intro h<;>first|exact zc h|(exfalso;omega)|conv=>whnf)|((first|refine zz ?_|refine qp sn ?_|refine qp rt ?_|refine qp mx ?_|refine qp 5 ?_|refine bl0 [5] ?_|refine zy ?_);conv=>whnf)
 all_goals try (exfalso;simp_all;done)
 refine f6 a7 (fun v=>([J,j2 g,J,S.c (C.t (T.ptr [ti s.n,B2 s.rows])),J,J,S.c (C.ptr 0 0 0),J,j2 (F5 s (yN Y) s.n.toNat),S.c (C.ptr 1 0 0),a9 .i64 v,J,J,J,J,J,J,J,J,J,J,J,J,J,J,J,J,J,J,J,J,J,J,J,J,J,J,J,J,J,J,J,J,J,J],[frB C2,frB (fz (J4 s (yN Y)))])) s.n.toNat (fun k=>(List.range k).all (fun v=>decide (C1 s (yN Y) v≤u3 g v))=true) [some 0,some 1] rfl
  ⟨rfl,rfl,⟨⟨rfl,rfl,rfl,.inr ⟨⟨rfl,rfl,rfl,rfl,trivial⟩,trivial⟩⟩,⟨rfl,rfl,rfl,.inl ⟨rfl,t5 _⟩⟩,trivial⟩,⟨rfl,rfl,⟨rfl,rfl,rfl⟩,rfl,⟨rfl,rfl,rfl⟩,rfl,trivial⟩⟩ ?_
 intro v hv hI
 by_cases hlt:v<s.n.toNat
 ·have c1:=ax1 (F5 s (yN Y) s.n.toNat) v mr (by omega) (by omega)
  rw [a8A hlt] at c1
  have c2:=ax1 g v ht hg (by omega)
  have b1:=hq.n v s.rows.length
  have b2:=aG2 hgb v
  have b1:rl (C1 s (yN Y) v)≤50000:=b1
  have cm:=aa0 (C1 s (yN Y) v) (u3 g v) (by omega) (by omega)
  have k2:=Y1 (x:=C1 s (yN Y) v) (y:=u3 g v)
  generalize a01 (C1 s (yN Y) v) (u3 g v)=U at cm k2
  by_cases hok:U > 0
  ·have hF:decide (C1 s (yN Y) v≤u3 g v)=false:=decide_eq_false (Rat.not_le.2 (k2.1 hok))
   have e:a1F s g Y=.tup [frS C2,e6 false]:=by
    unfold a1F
    rw [eb,a23 (n:=s.n.toNat) hlt hF];rfl
   rw [e]
   clear k2
   conv=>whnf
   repeat' first|(refine zd ?_ ?_<;>intro h<;>first|exact zc h|(exfalso;omega)|conv=>whnf)|((first|refine zz ?_|refine qp c1 ?_|refine qp c2 ?_|refine qp cm ?_|refine zy ?_);conv=>whnf)
   all_goals first
    |(exfalso;omega)
    |exact j5 ⟨⟨rfl,rfl,rfl,rfl,trivial⟩,rfl,trivial⟩
  ·have hT:decide (C1 s (yN Y) v≤u3 g v)=true:=decide_eq_true (Rat.not_lt.1 (fun h=>hok (k2.2 h)))
   clear k2
   conv=>whnf
   repeat' first|(refine zd ?_ ?_<;>intro h<;>first|exact zc h|(exfalso;omega)|conv=>whnf)|((first|refine zz ?_|refine qp c1 ?_|refine qp c2 ?_|refine qp cm ?_|refine zy ?_);conv=>whnf)
   all_goals first
    |(exfalso;omega)
    |exact ⟨hlt,by rw [a0w,hI,hT];rfl,[some 0,some 1],rfl,rfl,⟨⟨rfl,rfl,rfl,.inr ⟨⟨rfl,rfl,rfl,rfl,trivial⟩,trivial⟩⟩,⟨rfl,rfl,rfl,.inl ⟨rfl,t5 _⟩⟩,trivial⟩,⟨rfl,rfl,⟨rfl,rfl,rfl⟩,rfl,⟨rfl,rfl,rfl⟩,rfl,trivial⟩⟩
 ·have hke:v=s.n.toNat:=by omega
  subst hke
  have e:a1F s g Y=.tup [frS (fz (J4 s (yN Y))),e6 true]:=by
   unfold a1F
   rw [eb,hI];rfl
  rw [e]
  conv=>whnf
  repeat' first|(refine zd ?_ ?_<;>intro h<;>first|exact zc h|(exfalso;omega)|conv=>whnf)|((first|refine zz ?_|refine zy ?_);conv=>whnf)
  all_goals first
   |(exfalso;omega)
   |exact j5 ⟨⟨rfl,rfl,rfl,rfl,trivial⟩,rfl,trivial⟩
theorem a8m {P:Program} {g:FuncId} {x y:S} {H H':Hp} {r:S} (h:b9 P g [x,j2 [],y] H r H'):b9 P g [x,.c (.t (.sl 0 .nil [])),y] H r H':=by
 refine a4d h rfl fun w ι M j a b v hx hy hr=>?_
 rcases j with _|_|_|j
 ·injection hx with hx;injection hy with hy;subst hx hy;exact hr
 ·injection hx with hx;injection hy with hy;subst hx hy
  cases hr with
  |c hr=>cases hr with
   |t hr=>exact .c (.t (hr.weak rfl))
 ·injection hx with hx;injection hy with hy;subst hx hy;exact hr
 ·simp at hx
def a5f (s:f5) (Y:List Rat):Bool:=U8 s [] Y && decide (0<J4 s (yN Y))
theorem aO9 (s:f5) (hb:U7 s) (hr:f9 s=true) (Y:List Rat) (hy:∀v ∈ Y,rl v≤40000) (hyl:Y.length≤1000000) (hq:Y.length=s.rows.length→a4u s Y):
 b9 Tryz.prog 93 [F0 s,k7 (Y.map fz)] [] (e6 (a5f s Y)) []:=by
 have lo:=a8m (aJ8 s hb hr [] (by simp) (fun t ht=>by cases ht) Y hy hyl hq)
 unfold a1F at lo
 unfold a5f
 cases hB:U8 s [] Y with
 |false=>
  rw [hB,if_neg (by decide)] at lo
  (refine a8 a7 Tryz.func93 rfl (by decide) ?_;(conv=>whnf);repeat ((first|refine b0x ?_|refine zy ?_);conv=>whnf))
  repeat' first|(refine zd ?_ ?_<;>intro h<;>first|exact zc h|(exfalso;omega)|conv=>whnf)|((first|refine zz ?_|refine qp lo ?_|refine qp 5 ?_|refine bl0 [5] ?_|refine zy ?_);conv=>whnf)
  all_goals first
   |(exfalso;simp_all;done)
   |exact c6 rfl
 |true=>
  rw [hB] at lo
  have hl:Y.length=s.rows.length:=by
   unfold U8 N8 at hB
   simp only [Bool.and_eq_true,decide_eq_true_eq] at hB
   exact hB.1.1.1
  have b:=(hq hl).v s.rows.length
  have b:rl (J4 s (yN Y))≤50000:=b
  have sg:=a4q (J4 s (yN Y)) (by omega)
  have sp:=a1d (x:=J4 s (yN Y))
  have e:decide (0<J4 s (yN Y))=decide (sgR (J4 s (yN Y)) > 0):=by rw [decide_eq_decide];exact sp.symm
  rw [e]
  rw [if_pos rfl] at lo
  generalize sgR (J4 s (yN Y))=U at sg
  clear sp e
  (refine a8 a7 Tryz.func93 rfl (by decide) ?_;(conv=>whnf);repeat ((first|refine b0x ?_|refine zy ?_);conv=>whnf))
  repeat' first|(refine zd ?_ ?_<;>intro h<;>first|exact zc h|(exfalso;omega)|conv=>whnf)|((first|refine zz ?_|refine qp lo ?_|refine qp sg ?_|refine qp 5 ?_|refine bl0 [5] ?_|refine zy ?_);conv=>whnf)
  all_goals first
   |(exfalso;simp_all;done)
   |(refine c6 ?_;rw [Bool.true_and];exact (decide_eq_true (by omega)).symm)
   |(refine c6 ?_;rw [Bool.true_and];exact (decide_eq_false (by omega)).symm)
end
section
open Go.RowKit
theorem aZ6 (x:Rat):sgR x<0↔x<((0:Int):Rat):=by unfold sgR;split<;>(try split)<;>simp_all
theorem b1b {x y:Rat} {ρ:List (Option Nat)} {H:Hp} (h:x=y):a3U ρ H (frS (fz x)) (frS (fz y)):=by subst h;exact ⟨rfl,rfl,rfl,rfl,trivial⟩
theorem a6N (n lo hi:Int):b9 Tryz.prog 273 [a9 .i64 n,a9 .i64 lo,a9 .i64 hi] [] (e6 (btw n lo hi)) []:=by
 (refine a8 a7 Tryz.func273 rfl (by decide) ?_;(conv=>whnf);repeat (refine zy ?_;conv=>whnf))
 repeat' first|(refine zd ?_ ?_<;>intro h<;>first|exact zc h|(exfalso;omega)|conv=>whnf)|((first|refine zz ?_|refine zy ?_);conv=>whnf)
 all_goals (refine c6 ?_;simp only [btw];simp;omega)
theorem au8 (c:E7):b9 Tryz.prog 297 [ar4 c] [] (e6 (M6 c)) []:=by
 have w1:=a6N c.scale 0 29
 have w2:=a6N c.grams 0 1099511627776
 have w3:=a6N c.permille 0 1000
 have w4:=a6N c.drift 0 10000000
 rw [a9N] at w1
 unfold M6
 cases h1:idx c.scale 30<;>cases h2:btw c.grams 0 1099511627776<;>cases h3:btw c.permille 0 1000<;>cases h4:btw c.drift 0 10000000<;>rw [h1] at w1<;>rw [h2] at w2<;>rw [h3] at w3<;>rw [h4] at w4<;>
 ·(refine a8 a7 Tryz.func297 rfl (by decide) ?_;(conv=>whnf);repeat (refine zy ?_;conv=>whnf))
  repeat' first|(refine zd ?_ ?_<;>intro h<;>first|exact zc h|(exfalso;omega)|conv=>whnf)|((first|refine zz ?_|refine qp w1 ?_|refine qp w2 ?_|refine qp w3 ?_|refine qp w4 ?_|refine zy ?_);conv=>whnf)
  all_goals (refine c6 ?_;simp;try omega)
def a32 (o:Option Nat):Int:=match o with
 |none=>-1
 |some b=>b
set_option maxHeartbeats 2000000 in
theorem b1z (cs:List E7) (scale day:Int) (hl:cs.length≤1000000):
 b9 Tryz.prog 271 [.c (.t (W7 cs)),a9 .i64 scale,a9 .i64 day] [] (.tup [a9 .i64 (a5W (x6 cs scale day cs.length)),e6 (x6 cs scale day cs.length).isSome]) []:=by
 have l1:(cs.map E7.row).length=cs.length:=by simp
 (refine a8 a7 Tryz.func271 rfl (by decide) ?_;(conv=>whnf);repeat ((first|refine b0x ?_|refine zy ?_);conv=>whnf))
 repeat' first|(refine zd ?_ ?_<;>intro h<;>first|exact zc h|(exfalso;omega)|conv=>whnf)|((first|refine zz ?_|refine zy ?_);conv=>whnf)
 refine f6 a7 (fun k=>([S.c (C.t (W7 cs)),a9 .i64 scale,a9 .i64 day,J,J,J,J,J,a9 .i64 (a32 (x6 cs scale day k)),a9 .i64 k,J,J,J,J,J,J,J,J,J,J,J,J,J,J,J,J,J,J,J,J,J,J,J,J,J,J,J,J,J,J,J,J,J,J,J,J,J,J,J,J,J,J,J,J,J,J,J],[])) cs.length (fun _=>True) [] trivial
  ⟨rfl,rfl,trivial,⟨rfl,rfl,rfl,rfl,rfl,trivial⟩⟩ ?_
 intro k hk _
 by_cases hlt:k<cs.length
 ·obtain ⟨c,hc⟩:∃c,cs[k]? =some c:=⟨_,lg0 hlt⟩
  have cr:=au8 c
  have ci:=a6N day c.since c.till
  have hst:x6 cs scale day (k+1)=if decide (c.scale=scale) && F3 c day && later cs (x6 cs scale day k) c then some k else x6 cs scale day k:=by
   conv=>lhs;unfold x6
   rw [hc]
  have nxt:∀z:Int,a32 (x6 cs scale day (k+1))=z→z=a32 (x6 cs scale day (k+1)):=fun z h=>h.symm
  cases hr:M6 c with
  |false=>
   have hcv:F3 c day=false:=by unfold F3;rw [hr];rfl
   rw [hcv] at hst
   simp only [Bool.and_false,Bool.false_and,Bool.false_eq_true,if_false] at hst
   rw [hr] at cr
   rw [← hst]
   conv=>whnf
   repeat' first|(refine zd ?_ ?_<;>intro h<;>first|exact zc h|(exfalso;omega)|conv=>whnf)|((first|refine zz ?_|refine qp cr ?_|refine d7 hc ?_|refine zy ?_);conv=>whnf)
   all_goals first
    |(exfalso;omega)
    |(exfalso;simp_all;done)
    |exact ⟨hlt,trivial,[],rfl,rfl,trivial,⟨rfl,rfl,rfl,rfl,rfl,trivial⟩⟩
  |true=>
  rw [hr] at cr
  cases hb:btw day c.since c.till with
  |false=>
   have hcv:F3 c day=false:=by unfold F3;rw [hr,hb];rfl
   rw [hcv] at hst
   simp only [Bool.and_false,Bool.false_and,Bool.false_eq_true,if_false] at hst
   rw [hb] at ci
   rw [← hst]
   conv=>whnf
   repeat' first|(refine zd ?_ ?_<;>intro h<;>first|exact zc h|(exfalso;omega)|conv=>whnf)|((first|refine zz ?_|refine qp cr ?_|refine qp ci ?_|refine d7 hc ?_|refine zy ?_);conv=>whnf)
   all_goals first
    |(exfalso;omega)
    |(exfalso;simp_all;done)
    |exact ⟨hlt,trivial,[],rfl,rfl,trivial,⟨rfl,rfl,rfl,rfl,rfl,trivial⟩⟩
  |true=>
   have hcv:F3 c day=true:=by unfold F3;rw [hr,hb];rfl
   rw [hcv] at hst
   rw [hb] at ci
   cases hf:x6 cs scale day k with
   |none=>
    rw [hf] at hst
    have e0:a32 none=-1:=rfl
    rw [e0]
    by_cases hsc:c.scale=scale
    ·have hst2:(k:Int)=a32 (x6 cs scale day (k+1)):=by rw [hst,if_pos (by simp [hsc,later])];rfl
     clear hst hcv hr hb nxt
     conv=>whnf
     repeat' first|(refine zd ?_ ?_<;>intro h<;>first|exact zc h|(exfalso;omega)|conv=>whnf)|((first|refine zz ?_|refine qp cr ?_|refine qp ci ?_|refine d7 hc ?_|refine zy ?_);conv=>whnf)
     all_goals first
      |(exfalso;omega)
      |exact ⟨hlt,trivial,[],rfl,rfl,trivial,⟨rfl,rfl,rfl,c9 hst2,rfl,trivial⟩⟩
    ·have hst2:(-1:Int)=a32 (x6 cs scale day (k+1)):=by rw [hst,if_neg (by simp [hsc])];rfl
     clear hst hcv hr hb nxt
     conv=>whnf
     repeat' first|(refine zd ?_ ?_<;>intro h<;>first|exact zc h|(exfalso;omega)|conv=>whnf)|((first|refine zz ?_|refine qp cr ?_|refine qp ci ?_|refine d7 hc ?_|refine zy ?_);conv=>whnf)
     all_goals first
      |(exfalso;omega)
      |exact ⟨hlt,trivial,[],rfl,rfl,trivial,⟨rfl,rfl,rfl,c9 hst2,rfl,trivial⟩⟩
   |some b=>
    rw [hf] at hst
    obtain ⟨hb',cb,hcb,_⟩:=K6 hf
    have hsb:=ap2 hcb
    have e0:a32 (some b)=(b:Int):=rfl
    have em:(if (0:Int) > (b:Int) then 0 else (b:Int))=(b:Int):=if_neg (by omega)
    rw [e0]
    by_cases hsc:c.scale=scale∧cb.since≤c.since
    ·have hst2:(k:Int)=a32 (x6 cs scale day (k+1)):=by rw [hst,if_pos (by simp [hsc.1,later,hsb,hsc.2])];rfl
     clear hst hcv hr hb nxt
     conv=>whnf
     repeat' first|(refine zd ?_ ?_<;>intro h<;>first|exact zc h|(exfalso;omega)|conv=>whnf)|((first|refine zz ?_|refine qp cr ?_|refine qp ci ?_|refine d7 hc ?_|refine x3 em hcb ?_|refine zy ?_);conv=>whnf)
     all_goals first
      |(exfalso;omega)
      |exact ⟨hlt,trivial,[],rfl,rfl,trivial,⟨rfl,rfl,rfl,c9 hst2,rfl,trivial⟩⟩
    ·have hst2:(b:Int)=a32 (x6 cs scale day (k+1)):=by
      rw [hst,if_neg (by simp only [Bool.and_eq_true,decide_eq_true_eq,later,hsb];intro h;exact hsc ⟨h.1.1,h.2⟩)];rfl
     clear hst hcv hr hb nxt
     conv=>whnf
     repeat' first|(refine zd ?_ ?_<;>intro h<;>first|exact zc h|(exfalso;omega)|conv=>whnf)|((first|refine zz ?_|refine qp cr ?_|refine qp ci ?_|refine d7 hc ?_|refine x3 em hcb ?_|refine zy ?_);conv=>whnf)
     all_goals first
      |(exfalso;omega)
      |exact ⟨hlt,trivial,[],rfl,rfl,trivial,⟨rfl,rfl,rfl,c9 hst2,rfl,trivial⟩⟩
 ·have hke:k=cs.length:=by omega
  subst hke
  cases hf:x6 cs scale day cs.length with
  |none=>
   have e0:a32 none=-1:=rfl
   rw [e0]
   conv=>whnf
   repeat' first|(refine zd ?_ ?_<;>intro h<;>first|exact zc h|(exfalso;omega)|conv=>whnf)|((first|refine zz ?_|refine zy ?_);conv=>whnf)
   all_goals first
    |(exfalso;omega)
    |exact j5 ⟨rfl,rfl,trivial⟩
  |some b=>
   have e0:a32 (some b)=(b:Int):=rfl
   have em:(if (0:Int) > (b:Int) then 0 else (b:Int))=(b:Int):=if_neg (by omega)
   rw [e0]
   conv=>whnf
   repeat' first|(refine zd ?_ ?_<;>intro h<;>first|exact zc h|(exfalso;omega)|conv=>whnf)|((first|refine zz ?_|refine zy ?_);conv=>whnf)
   all_goals first
    |(exfalso;omega)
    |exact j5 ⟨c9 em,rfl,trivial⟩
theorem am2 (rs:List x9) (hl:rs.length≤1000000) (scale day:Int):b9 Tryz.prog 272 [.c (.t (H7 rs)),a9 .i64 scale,a9 .i64 day] [] (e6 (a0G rs scale day)) []:=by
 have l1:(rs.map x9.row).length=rs.length:=by simp
 (refine a8 a7 Tryz.func272 rfl (by decide) ?_;(conv=>whnf);repeat ((first|refine b0x ?_|refine zy ?_);conv=>whnf))
 repeat' first|(refine zd ?_ ?_<;>intro h<;>first|exact zc h|(exfalso;omega)|conv=>whnf)|((first|refine zz ?_|refine zy ?_);conv=>whnf)
 refine f6 a7 (fun k=>([S.c (C.t (H7 rs)),a9 .i64 scale,a9 .i64 day,J,J,J,J,a9 .i64 k,J,J,J,J,J,J,J,J,J,J,J,J,J,J,J,J,J,J,J,J,J,J],[])) rs.length (fun k=>(rs.take k).any (fun r=>decide (r.scale=scale) && decide (r.since≤day))=false) [] rfl
  ⟨rfl,rfl,trivial,⟨rfl,rfl,rfl,rfl,trivial⟩⟩ ?_
 intro k hk hI
 by_cases hlt:k<rs.length
 ·obtain ⟨r,hr⟩:∃r,rs[k]? =some r:=⟨_,lg0 hlt⟩
  conv=>whnf
  repeat' first|(refine zd ?_ ?_<;>intro h<;>first|exact zc h|(exfalso;omega)|conv=>whnf)|((first|refine zz ?_|refine d7 hr ?_|refine zy ?_);conv=>whnf)
  all_goals first
   |(exfalso;omega)
   |(refine ⟨hlt,?_,[],rfl,rfl,trivial,⟨rfl,rfl,rfl,rfl,trivial⟩⟩;rw [a1q hr,hI];simp [*];done)
   |(refine ⟨hlt,?_,[],rfl,rfl,trivial,⟨rfl,rfl,rfl,rfl,trivial⟩⟩;rw [a1q hr,hI];simp;omega)
   |(refine c6 ?_;unfold a0G;rw [a4I hr];simp [*];done)
   |(refine c6 ?_;unfold a0G;rw [a4I hr];simp;omega)
 ·rw [lg4 (by omega)] at hI
  conv=>whnf
  repeat' first|(refine zd ?_ ?_<;>intro h<;>first|exact zc h|(exfalso;omega)|conv=>whnf)|((first|refine zz ?_|refine zy ?_);conv=>whnf)
  all_goals first
   |(exfalso;omega)
   |exact c6 hI.symm
theorem aS7 (c:E7) (reading day:Int) (h:F3 c day=true) (hr:btw reading 0 1099511627776=true):b9 Tryz.prog 274 [ar4 c,a9 .i64 reading,a9 .i64 day] []
 (.tup [frS (fz (a0U c reading day)),e6 true]) []:=by
 have cr:=au8 c
 have ci:=a6N day c.since c.till
 have wi:=a6N reading 0 1099511627776
 have hcr:M6 c=true:=by unfold F3 at h;simp only [Bool.and_eq_true] at h;exact h.1
 have hci:btw day c.since c.till=true:=by unfold F3 at h;simp only [Bool.and_eq_true] at h;exact h.2
 rw [hcr] at cr
 rw [hci] at ci
 rw [hr] at wi
 have hc:=a1Z h
 obtain ⟨p0,p1,d0,d1⟩:=b0h.of h hr
 rw [U3] at hr
 have fo:=b5F (c.permille*reading) 1000 (by decide) (by omega) (by omega) (by decide)
 have fi:=a2A (c.grams+c.drift*(day - c.since)) (by omega) (by omega)
 have h2:rl (Rat.divInt (c.permille*reading) 1000)≤4:=Nat.le_trans (W8 (by decide)) (by have:=O7 (x:=c.permille*reading) (by omega) (by omega);have:=O7 (x:=1000) (by decide) (by decide);omega)
 have h3:rl ((c.grams+c.drift*(day - c.since):Int):Rat)≤4:=by rw [R9];have:=O7 (x:=c.grams+c.drift*(day - c.since)) (by omega) (by omega);omega
 have ad:=aJ0 ((c.grams+c.drift*(day - c.since):Int):Rat) (Rat.divInt (c.permille*reading) 1000) (by omega) (by omega)
 (refine a8 a7 Tryz.func274 rfl (by decide) ?_;(conv=>whnf);repeat (refine zy ?_;conv=>whnf))
 repeat' first|(refine zd ?_ ?_<;>intro h<;>first|exact zc h|(exfalso;omega)|conv=>whnf)|((first|refine zz ?_|refine qp cr ?_|refine qp ci ?_|refine qp wi ?_|refine qp fo ?_|refine qp fi ?_|refine qp ad ?_|refine qp 7 ?_|refine qp 15 ?_|refine bl0 [7] ?_|refine bl0 [15] ?_|refine zy ?_);conv=>whnf)
 all_goals first
  |(exfalso;simp_all;done)
  |exact b0z (by rw [Rat.add_comm];rfl) rfl
theorem ap6 (cs:List E7) (rs:List x9) (hl:cs.length≤1000000) (hl2:rs.length≤1000000) (scale reading day:Int):
 b9 Tryz.prog 224 [.c (.t (W7 cs)),.c (.t (H7 rs)),a9 .i64 scale,a9 .i64 reading,a9 .i64 day] [] (.tup (ivL (K5 cs rs scale reading day))) []:=by
 have f:=b1z cs scale day hl
 have r:=am2 rs hl2 scale day
 have wi:=a6N reading 0 1099511627776
 unfold K5
 cases hf:x6 cs scale day cs.length with
 |none=>
  rw [hf] at f
  (refine a8 a7 Tryz.func224 rfl (by decide) ?_;(conv=>whnf);repeat (refine zy ?_;conv=>whnf))
  repeat' first|(refine zd ?_ ?_<;>intro h<;>first|exact zc h|(exfalso;omega)|conv=>whnf)|((first|refine zz ?_|refine qp f ?_|refine qp r ?_|refine qp wi ?_|refine qp 1 ?_|refine bl0 [1] ?_|refine zy ?_);conv=>whnf)
  all_goals first
   |(exfalso;simp_all;done)
   |exact j5 ⟨⟨rfl,rfl,rfl,rfl,trivial⟩,⟨rfl,rfl,rfl,rfl,trivial⟩,rfl,trivial⟩
 |some i=>
  rw [hf] at f
  obtain ⟨hb,c,hc,_,hcv⟩:=K6 hf
  have e:a1m cs i=c:=by unfold a1m;rw [hc];rfl
  simp only [e]
  cases hrec:a0G rs scale day with
  |true=>
   rw [hrec] at r
   (refine a8 a7 Tryz.func224 rfl (by decide) ?_;(conv=>whnf);repeat (refine zy ?_;conv=>whnf))
   repeat' first|(refine zd ?_ ?_<;>intro h<;>first|exact zc h|(exfalso;omega)|conv=>whnf)|((first|refine zz ?_|refine qp f ?_|refine qp r ?_|refine qp wi ?_|refine qp 1 ?_|refine bl0 [1] ?_|refine zy ?_);conv=>whnf)
   all_goals first
    |(exfalso;simp_all;done)
    |exact j5 ⟨⟨rfl,rfl,rfl,rfl,trivial⟩,⟨rfl,rfl,rfl,rfl,trivial⟩,rfl,trivial⟩
  |false=>
   rw [hrec] at r
   cases hr:btw reading 0 1099511627776 with
   |false=>
    rw [hr] at wi
    (refine a8 a7 Tryz.func224 rfl (by decide) ?_;(conv=>whnf);repeat (refine zy ?_;conv=>whnf))
    repeat' first|(refine zd ?_ ?_<;>intro h<;>first|exact zc h|(exfalso;omega)|conv=>whnf)|((first|refine zz ?_|refine qp f ?_|refine qp r ?_|refine qp wi ?_|refine qp 1 ?_|refine bl0 [1] ?_|refine zy ?_);conv=>whnf)
    all_goals first
     |exact j5 ⟨⟨rfl,rfl,rfl,rfl,trivial⟩,⟨rfl,rfl,rfl,rfl,trivial⟩,rfl,trivial⟩
     |(exfalso;simp_all;done)
   |true=>
    have er:=aS7 c reading day hcv hr
    have l1:=aD5 hcv hr
    rw [hr] at wi
    rw [U3] at hr
    have l2:rl (reading:Rat)≤4:=by rw [R9];have:=O7 (x:=reading) (by omega) (by omega);omega
    have fi:=a2A reading (by omega) (by omega)
    have f0:=a2A 0 (by omega) (by omega)
    have sb:=b8o (reading:Rat) (a0U c reading day) (by omega) (by omega)
    have ad:=aJ0 (reading:Rat) (a0U c reading day) (by omega) (by omega)
    have l4:=aC4 (reading:Rat) (a0U c reading day)
    have sg:=a4q ((reading:Rat) - a0U c reading day) (by omega)
    have hs:=aZ6 ((reading:Rat) - a0U c reading day)
    (refine a8 a7 Tryz.func224 rfl (by decide) ?_;(conv=>whnf);repeat (refine zy ?_;conv=>whnf))
    repeat' first|(refine zd ?_ ?_<;>intro h<;>first|exact zc h|(exfalso;omega)|conv=>whnf)|((first|refine zz ?_|refine qp f ?_|refine qp r ?_|refine qp wi ?_|refine qp er ?_|refine qp fi ?_|refine qp f0 ?_|refine qp sb ?_|refine qp ad ?_|refine qp sg ?_|refine qp 1 ?_|refine qp 9 ?_|refine qp 6 ?_|refine d7 hc ?_|refine bl0 [1] ?_|refine bl0 [9] ?_|refine bl0 [6] ?_|refine zy ?_);conv=>whnf)
    ·have hn:(reading:Rat) - a0U c reading day<((0:Int):Rat):=hs.1 (by omega)
     refine j5 ⟨b1b ?_,⟨rfl,rfl,rfl,rfl,trivial⟩,rfl,trivial⟩
     unfold aj5;rw [if_pos hn]
    ·have hn:¬(reading:Rat) - a0U c reading day<((0:Int):Rat):=fun h=>absurd (hs.2 h) (by omega)
     refine j5 ⟨b1b ?_,⟨rfl,rfl,rfl,rfl,trivial⟩,rfl,trivial⟩
     unfold aj5;rw [if_neg hn]
    ·have hq:(some i).isSome=false:=by assumption
     cases hq
end
section
open Go.RowKit
theorem a44 (n lo hi:Int):b9 Tryz.prog 157 [a9 .i64 n,a9 .i64 lo,a9 .i64 hi] [] (e6 (btw n lo hi)) []:=by
 (refine a8 a7 Tryz.func157 rfl (by decide) ?_;(conv=>whnf);repeat (refine zy ?_;conv=>whnf))
 repeat' first|(refine zd ?_ ?_<;>intro h<;>first|exact zc h|(exfalso;omega)|conv=>whnf)|((first|refine zz ?_|refine zy ?_);conv=>whnf)
 all_goals (refine c6 ?_;simp only [btw];simp;omega)
theorem a1g (n m:Int):b9 Tryz.prog 157 [a9 .i64 n,a9 .i64 0,a9 .i64 (m - 1)] [] (e6 (idx n m)) []:=by
 rw [← aH6];exact a44 n 0 (m - 1)
theorem b1F (e:Ev) (hs:e.Sized):b9 Tryz.prog 231 [evS e] [] (e6 (a0x e)) []:=by
 have l1:(e.places.map J7.row).length=e.places.length:=by simp
 have l2:(e.moves.map p7.row).length=e.moves.length:=by simp
 have l3:(e.certs.map E7.row).length=e.certs.length:=by simp
 have l4:(e.recalls.map x9.row).length=e.recalls.length:=by simp
 have l5:(e.purities.map O0.row).length=e.purities.length:=by simp
 (refine a8 a7 Tryz.func231 rfl (by decide) ?_;(conv=>whnf);repeat ((first|refine b0x ?_|refine zy ?_);conv=>whnf))
 repeat' first|(refine zd ?_ ?_<;>intro h<;>first|exact zc h|(exfalso;omega)|conv=>whnf)|((first|refine zz ?_|refine zy ?_);conv=>whnf)
 all_goals (refine c6 ?_;unfold a0x;simp;omega)
theorem aZ5 (e:Ev) (p:J7) (h1:1≤e.mats) (h2:e.mats≤6) (h3:0≤e.hhs) (h4:e.hhs≤100):b9 Tryz.prog 232 [evS e,.agg (p.row.map .t)] [] (e6 (Q9 e p)) []:=by
 have i3:=a1g p.kind 7
 (refine a8 a7 Tryz.func232 rfl (by decide) ?_;(conv=>whnf);repeat ((first|refine b0x ?_|refine zy ?_);conv=>whnf))
 repeat' first|(refine zd ?_ ?_<;>intro h<;>first|exact zc h|(exfalso;omega)|conv=>whnf)|((first|refine zz ?_|refine qp (a1g p.hh e.hhs) ?_|refine qp (a1g p.mat e.mats) ?_|refine qp i3 ?_|refine zy ?_);conv=>whnf)
 all_goals first
  |(exfalso;omega)
  |(refine c6 ?_;simp_all [Q9]<;>decide)
def a0Z (e:Ev) (k:Nat) (x:p7):Int:=if x.day<0∨100000<x.day∨(0<k∧x.day<a1B e k) then 17 else if L4 e x then 0 else 1
set_option maxHeartbeats 4000000 in
theorem b2Z (e:Ev) (k:Nat) (x:p7) (hx:e.moves[k]? =some x) (hf:a0x e=false) (h1:1≤e.mats) (h3:0≤e.hhs) (h5:0≤e.scs):b9 Tryz.prog 233 [evS e,a9 .i64 k] [] (a9 .i64 (a0Z e k x)) []:=by
 have l1:(e.places.map J7.row).length=e.places.length:=by simp
 have l2:(e.moves.map p7.row).length=e.moves.length:=by simp
 have hk:k<e.moves.length:=(lg1 hx).1
 unfold a0x at hf
 simp only [Bool.or_eq_false_iff,decide_eq_false_iff_not] at hf
 obtain ⟨y,hy⟩:∃y,e.moves[k - 1]? =some y:=⟨_,lg0 (by omega)⟩
 have hl:0<k→a1B e k=y.day:=fun h=>by
  obtain ⟨j,rfl⟩:∃j,k=j+1:=⟨k - 1,by omega⟩
  exact a0q hy
 have d:=a44 x.day 0 100000
 have is:=a1g x.src (e.places.map J7.row).length
 have id:=a1g x.dst (e.places.map J7.row).length
 have ic:=a1g x.scale e.scs
 have ir:=a44 x.reading 0 1099511627776
 have hdd:(x.day<0∨100000<x.day∨(0<k∧x.day<a1B e k))↔(x.day<0∨100000<x.day∨(0<k∧x.day<y.day)):=by
  rcases Nat.eq_zero_or_pos k with h|h
  ·simp [h]
  ·rw [hl h]
 clear hl
 have em:(if (0:Int) > (k:Int) - 1 then 0 else (k:Int) - 1)=((k - 1:Nat):Int):=by split<;>omega
 by_cases hd:x.day<0∨100000<x.day∨(0<k∧x.day<y.day)
 ·have e1:a0Z e k x=17:=by unfold a0Z;rw [if_pos (hdd.2 hd)]
  clear hdd
  rw [e1]
  have hb:=U3 (a:=x.day) (b:=0) (c:=100000)
  (refine a8 a7 Tryz.func233 rfl (by decide) ?_;(conv=>whnf);repeat ((first|refine b0x ?_|refine zy ?_);conv=>whnf))
  repeat' first|(refine zd ?_ ?_<;>intro h<;>first|exact zc h|(exfalso;omega)|conv=>whnf)|((first|refine zz ?_|refine qp d ?_|refine d7 hx ?_|refine x3 em hy ?_|refine zy ?_);conv=>whnf)
  all_goals first
   |exact j8 rfl
   |(exfalso;have:=hb.1 (by assumption);omega)
   |(exfalso;omega)
 have e1:a0Z e k x=if L4 e x then 0 else 1:=by unfold a0Z;rw [if_neg (fun h=>hd (hdd.1 h))]
 clear hdd
 rw [e1]
 have hd':btw x.day 0 100000=true:=by rw [U3];omega
 rw [hd'] at d
 cases h1:idx x.src e.places.length with
 |false=>
  rw [← l1] at h1
  rw [h1] at is
  rw [l1] at h1
  (refine a8 a7 Tryz.func233 rfl (by decide) ?_;(conv=>whnf);repeat ((first|refine b0x ?_|refine zy ?_);conv=>whnf))
  repeat' first|(refine zd ?_ ?_<;>intro h<;>first|exact zc h|(exfalso;omega)|conv=>whnf)|((first|refine zz ?_|refine qp d ?_|refine qp is ?_|refine d7 hx ?_|refine x3 em hy ?_|refine zy ?_);conv=>whnf)
  all_goals first
   |(refine j8 ?_;simp [L4,h1];done)
   |(exfalso;simp_all;done)
   |(exfalso;omega)
 |true=>
  obtain ⟨hs0,p,hp,kp⟩:=a3u h1
  rw [← l1] at h1
  rw [h1] at is
  rw [l1] at h1
  cases h2:idx x.dst e.places.length with
  |false=>
   rw [← l1] at h2
   rw [h2] at id
   rw [l1] at h2
   (refine a8 a7 Tryz.func233 rfl (by decide) ?_;(conv=>whnf);repeat ((first|refine b0x ?_|refine zy ?_);conv=>whnf))
   repeat' first|(refine zd ?_ ?_<;>intro h<;>first|exact zc h|(exfalso;omega)|conv=>whnf)|((first|refine zz ?_|refine qp d ?_|refine qp is ?_|refine qp id ?_|refine d7 hx ?_|refine x3 em hy ?_|refine zy ?_);conv=>whnf)
   all_goals first
    |(refine j8 ?_;simp [L4,h1,h2];done)
    |(exfalso;simp_all;done)
    |(exfalso;omega)
  |true=>
   obtain ⟨hd0,q,hq,kq⟩:=a3u h2
   rw [← l1] at h2
   rw [h2] at id
   rw [l1] at h2
   (refine a8 a7 Tryz.func233 rfl (by decide) ?_;(conv=>whnf);repeat ((first|refine b0x ?_|refine zy ?_);conv=>whnf))
   repeat' first|(refine zd ?_ ?_<;>intro h<;>first|exact zc h|(exfalso;omega)|conv=>whnf)|((first|refine zz ?_|refine qp d ?_|refine qp is ?_|refine qp id ?_|refine qp ic ?_|refine qp ir ?_|refine d7 hx ?_|refine B5 hs0 hp ?_|refine B5 hd0 hq ?_|refine x3 em hy ?_|refine zy ?_);conv=>whnf)
   all_goals first
    |(refine j8 ?_;simp_all [L4];done)
    |(exfalso;simp_all;done)
    |(exfalso;omega)
theorem b2T (e:Ev) (hs:e.Sized) (hf:a0x e=false) (h1:1≤e.mats) (h5:0≤e.scs):b9 Tryz.prog 234 [evS e] [] (e6 (S0 e)) []:=by
 have l2:(e.certs.map E7.row).length=e.certs.length:=by simp
 have l4:(e.recalls.map x9.row).length=e.recalls.length:=by simp
 have l6:(e.purities.map O0.row).length=e.purities.length:=by simp
 have l8:(e.moves.map p7.row).length=e.moves.length:=by simp
 unfold a0x at hf
 simp only [Bool.or_eq_false_iff,decide_eq_false_iff_not] at hf
 (refine a8 a7 Tryz.func234 rfl (by decide) ?_;(conv=>whnf);repeat ((first|refine b0x ?_|refine zy ?_);conv=>whnf))
 repeat' first|(refine zd ?_ ?_<;>intro h<;>first|exact zc h|(exfalso;omega)|conv=>whnf)|((first|refine zz ?_|refine zy ?_);conv=>whnf)
 refine f6 a7 (fun k=>([J,S.c (C.t (T.ptr (evT e))),J,a9 .i64 k,J,J,J,J,J,J,J,J,J,J,J,J,J,J,J,J,J,J,J,J,J,J,J,J,J,J,J,J,J,J,J,J,J,J,J,J,J,J,J,J,J,J,J,J,J,J,J,J,J,J,J,J,J,J,J,J,J,J,J,J,J,J,J,J,J,J,J,J,J,J,J,J,J,J,J,J,J,J,J,J,J,J,J,J,J,J,J,J,J,J,J,J,J,J,J,J,J,J,J,J,J,J,J,J,J,J,J,J,J,J,J,J,J,J,J,J,J,J,J,J,J,J,J,J],[])) e.certs.length (fun k=>(e.certs.take k).all (a2m e)=true) [] rfl
  ⟨rfl,rfl,trivial,⟨rfl,rfl,trivial⟩⟩ ?_
 intro k hk hI
 by_cases hlt:k<e.certs.length
 ·obtain ⟨x,hx⟩:∃x,e.certs[k]? =some x:=⟨_,lg0 hlt⟩
  conv=>whnf
  repeat' first|(refine zd ?_ ?_<;>intro h<;>first|exact zc h|(exfalso;omega)|conv=>whnf)|((first|refine zz ?_|refine qp (a1g x.scale e.scs) ?_|refine qp (a44 x.till x.since 100000) ?_|refine qp (a44 x.grams 0 1099511627776) ?_|refine qp (a44 x.permille 0 1000) ?_|refine qp (a44 x.drift 0 10000000) ?_|refine d7 hx ?_|refine zy ?_);conv=>whnf)
  all_goals first
   |(exfalso;omega)
   |(refine ⟨hlt,?_,[],rfl,rfl,trivial,⟨rfl,rfl,trivial⟩⟩;rw [o4 hx,hI];simp_all [a2m,btw];done)
   |(refine c6 ?_;rw [S0,t7 hx];rfl;simp_all [a2m,btw];(try omega);done)
 ·have hc:e.certs.all (a2m e)=true:=by rw [← hI,lg4 (by omega)]
  conv=>whnf
  repeat' first|(refine zd ?_ ?_<;>intro h<;>first|exact zc h|(exfalso;omega)|conv=>whnf)|((first|refine zz ?_|refine zy ?_);conv=>whnf)
  all_goals try (exfalso;omega)
  clear hI hlt hk
  refine f6 a7 (fun k=>([J,S.c (C.t (T.ptr (evT e))),J,J,J,a9 .i64 k,J,J,J,J,J,J,J,J,J,J,J,J,J,J,J,J,J,J,J,J,J,J,J,J,J,J,J,J,J,J,J,J,J,J,J,J,J,J,J,J,J,J,J,J,J,J,J,J,J,J,J,J,J,J,J,J,J,J,J,J,J,J,J,J,J,J,J,J,J,J,J,J,J,J,J,J,J,J,J,J,J,J,J,J,J,J,J,J,J,J,J,J,J,J,J,J,J,J,J,J,J,J,J,J,J,J,J,J,J,J,J,J,J,J,J,J,J,J,J,J,J,J],[])) e.recalls.length (fun k=>(e.recalls.take k).all (U2 e)=true) [] rfl
   ⟨rfl,rfl,trivial,⟨rfl,rfl,trivial⟩⟩ ?_
  intro k hk hI
  by_cases hlt:k<e.recalls.length
  ·obtain ⟨x,hx⟩:∃x,e.recalls[k]? =some x:=⟨_,lg0 hlt⟩
   conv=>whnf
   repeat' first|(refine zd ?_ ?_<;>intro h<;>first|exact zc h|(exfalso;omega)|conv=>whnf)|((first|refine zz ?_|refine qp (a1g x.scale e.scs) ?_|refine qp (a44 x.since 0 100000) ?_|refine d7 hx ?_|refine zy ?_);conv=>whnf)
   all_goals first
    |(exfalso;omega)
    |(refine ⟨hlt,?_,[],rfl,rfl,trivial,⟨rfl,rfl,trivial⟩⟩;rw [o4 hx,hI];simp_all [U2];done)
    |(refine c6 ?_;rw [S0,hc,t7 hx];rfl;simp_all [U2];done)
  ·have hr:e.recalls.all (U2 e)=true:=by rw [← hI,lg4 (by omega)]
   conv=>whnf
   repeat' first|(refine zd ?_ ?_<;>intro h<;>first|exact zc h|(exfalso;omega)|conv=>whnf)|((first|refine zz ?_|refine zy ?_);conv=>whnf)
   all_goals try (exfalso;omega)
   clear hI hlt hk
   refine f6 a7 (fun k=>([J,S.c (C.t (T.ptr (evT e))),J,J,J,J,a9 .i64 k,J,J,J,J,J,J,J,J,J,J,J,J,J,J,J,J,J,J,J,J,J,J,J,J,J,J,J,J,J,J,J,J,J,J,J,J,J,J,J,J,J,J,J,J,J,J,J,J,J,J,J,J,J,J,J,J,J,J,J,J,J,J,J,J,J,J,J,J,J,J,J,J,J,J,J,J,J,J,J,J,J,J,J,J,J,J,J,J,J,J,J,J,J,J,J,J,J,J,J,J,J,J,J,J,J,J,J,J,J,J,J,J,J,J,J,J,J,J,J,J,J],[])) e.purities.length (fun k=>(e.purities.take k).all (T7 e)=true) [] rfl
    ⟨rfl,rfl,trivial,⟨rfl,rfl,trivial⟩⟩ ?_
   intro k hk hI
   by_cases hlt:k<e.purities.length
   ·obtain ⟨x,hx⟩:∃x,e.purities[k]? =some x:=⟨_,lg0 hlt⟩
    conv=>whnf
    repeat' first|(refine zd ?_ ?_<;>intro h<;>first|exact zc h|(exfalso;omega)|conv=>whnf)|((first|refine zz ?_|refine qp (a1g x.move (e.moves.map p7.row).length) ?_|refine qp (a1g x.mat e.mats) ?_|refine qp (a44 x.most x.least 1000) ?_|refine d7 hx ?_|refine zy ?_);conv=>whnf)
    all_goals first
     |(exfalso;omega)
     |(refine ⟨hlt,?_,[],rfl,rfl,trivial,⟨rfl,rfl,trivial⟩⟩;rw [o4 hx,hI];simp_all [T7,btw];done)
     |(refine c6 ?_;rw [S0,hc,hr,t7 hx];rfl;simp_all [T7,btw];(try omega);done)
   ·have hp:e.purities.all (T7 e)=true:=by rw [← hI,lg4 (by omega)]
    conv=>whnf
    repeat' first|(refine zd ?_ ?_<;>intro h<;>first|exact zc h|(exfalso;omega)|conv=>whnf)|((first|refine zz ?_|refine zy ?_);conv=>whnf)
    all_goals first
     |(exfalso;omega)
     |(refine c6 ?_;rw [S0,hc,hr,hp];rfl)
theorem as5 (e:Ev) (hs:e.Sized):b9 Tryz.prog 155 [evS e] [] (a9 .i64 (y3 e)) []:=by
 have l1:(e.places.map J7.row).length=e.places.length:=by simp
 have l8:(e.moves.map p7.row).length=e.moves.length:=by simp
 have fu:=b1F e hs
 cases hf:a0x e with
 |true=>
  rw [hf] at fu
  (refine a8 a7 Tryz.func155 rfl (by decide) ?_;(conv=>whnf);repeat ((first|refine b0x ?_|refine zy ?_);conv=>whnf))
  repeat' first|(refine zd ?_ ?_<;>intro h<;>first|exact zc h|(exfalso;omega)|conv=>whnf)|((first|refine zz ?_|refine qp fu ?_|refine zy ?_);conv=>whnf)
  all_goals first
   |(exfalso;simp_all;done)
   |(refine j8 ?_;unfold y3;rw [if_pos hf])
 |false=>
  rw [hf] at fu
  by_cases hb:e.mats<1∨e.hhs<0∨e.scs<0
  ·have e1:y3 e=1:=by
    unfold y3;rw [if_neg (by simp [hf]),if_pos (by rcases hb with h|h|h<;>simp [h])]
   rw [e1]
   (refine a8 a7 Tryz.func155 rfl (by decide) ?_;(conv=>whnf);repeat ((first|refine b0x ?_|refine zy ?_);conv=>whnf))
   repeat' first|(refine zd ?_ ?_<;>intro h<;>first|exact zc h|(exfalso;omega)|conv=>whnf)|((first|refine zz ?_|refine qp fu ?_|refine zy ?_);conv=>whnf)
   all_goals first
    |(exfalso;simp_all;done)
    |(exfalso;omega)
    |exact j8 rfl
  have hfb:=hf
  unfold a0x at hfb
  simp only [Bool.or_eq_false_iff,decide_eq_false_iff_not] at hfb
  (refine a8 a7 Tryz.func155 rfl (by decide) ?_;(conv=>whnf);repeat ((first|refine b0x ?_|refine zy ?_);conv=>whnf))
  repeat' first|(refine zd ?_ ?_<;>intro h<;>first|exact zc h|(exfalso;omega)|conv=>whnf)|((first|refine zz ?_|refine qp fu ?_|refine zy ?_);conv=>whnf)
  all_goals try (exfalso;omega)
  refine f6 a7 (fun k=>([J,S.c (C.t (T.ptr (evT e))),J,a9 .i64 k,J,J,J,J,J,J,J,J,J,J,J,J,J,J,J,J,J,J,J,J,J,J,J,J,J,J,J,J,J,J,J,J,J,J,J,J,J,J,J,J,J,J,J,J,J,J,J,J],[])) e.places.length (fun k=>(e.places.take k).all (Q9 e)=true) [] rfl
   ⟨rfl,rfl,trivial,⟨rfl,rfl,trivial⟩⟩ ?_
  intro k hk hI
  by_cases hlt:k<e.places.length
  ·obtain ⟨x,hx⟩:∃x,e.places[k]? =some x:=⟨_,lg0 hlt⟩
   have pl:=aZ5 e x (by omega) (by omega) (by omega) (by omega)
   conv=>whnf
   repeat' first|(refine zd ?_ ?_<;>intro h<;>first|exact zc h|(exfalso;omega)|conv=>whnf)|((first|refine zz ?_|refine qp pl ?_|refine d7 hx ?_|refine zy ?_);conv=>whnf)
   all_goals first
    |(exfalso;omega)
    |(refine ⟨hlt,?_,[],rfl,rfl,trivial,⟨rfl,rfl,trivial⟩⟩;rw [o4 hx,hI];simp_all;done)
    |(refine j8 ?_;unfold y3;rw [if_neg (by simp [hf]),if_pos (.inr (.inr (.inr (t7 hx (by assumption)))))])
  have hp:e.places.all (Q9 e)=true:=by rw [← hI,lg4 (by omega)]
  have hck:y3 e=if v7 e 0 e.moves≠0 then v7 e 0 e.moves else if S0 e then 0 else 1:=by
   unfold y3;rw [if_neg (by simp [hf]),if_neg (by rw [hp];simp;omega)]
  conv=>whnf
  repeat' first|(refine zd ?_ ?_<;>intro h<;>first|exact zc h|(exfalso;omega)|conv=>whnf)|((first|refine zz ?_|refine zy ?_);conv=>whnf)
  all_goals try (exfalso;omega)
  clear hI hlt hk
  refine f6 a7 (fun k=>([J,S.c (C.t (T.ptr (evT e))),J,J,a9 .i64 k,J,J,J,J,J,J,J,J,J,J,J,J,J,J,J,J,J,J,J,J,J,J,J,J,J,J,J,J,J,J,J,J,J,J,J,J,J,J,J,J,J,J,J,J,J,J,J],[])) e.moves.length (fun k=>v7 e 0 e.moves=v7 e (a1B e k) (e.moves.drop k)∧0≤a1B e k) [] ⟨rfl,Int.le_refl 0⟩
   ⟨rfl,rfl,trivial,⟨rfl,rfl,trivial⟩⟩ ?_
  rintro k hk ⟨hI,hI2⟩
  by_cases hlt:k<e.moves.length
  ·obtain ⟨x,hx⟩:∃x,e.moves[k]? =some x:=⟨_,lg0 hlt⟩
   have mv:=b2Z e k x hx hf (by omega) (by omega) (by omega)
   rw [Y7 hx,v7] at hI
   have hm:v7 e 0 e.moves=if a0Z e k x=0 then v7 e x.day (e.moves.drop (k+1)) else a0Z e k x:=by
    rw [hI]
    unfold a0Z
    have hk0:k=0→a1B e k=0:=fun h=>by subst h;rfl
    by_cases h1:x.day<a1B e k∨100000<x.day
    ·rw [if_pos h1,if_pos (c:=x.day<0∨100000<x.day∨(0<k∧x.day<a1B e k)) (by omega)];simp
    ·rw [if_neg h1,if_neg (c:=x.day<0∨100000<x.day∨(0<k∧x.day<a1B e k)) (by omega)]
     cases L4 e x<;>simp
   have hv:a0Z e k x=0→0≤x.day:=fun h=>by unfold a0Z at h;split at h<;>omega
   have hm0:a0Z e k x=0→v7 e 0 e.moves=v7 e x.day (e.moves.drop (k+1)):=fun h=>by rw [hm,if_pos h]
   have hm1:a0Z e k x≠0→v7 e 0 e.moves=a0Z e k x:=fun h=>by rw [hm,if_neg h]
   clear hm hI
   conv=>whnf
   repeat' first|(refine zd ?_ ?_<;>intro h<;>first|exact zc h|(exfalso;omega)|conv=>whnf)|((first|refine zz ?_|refine qp mv ?_|refine zy ?_);conv=>whnf)
   all_goals first
    |(exfalso;omega)
    |(refine ⟨hlt,⟨?_,?_⟩,[],rfl,rfl,trivial,⟨rfl,rfl,trivial⟩⟩
      ·rw [a0q hx];exact hm0 (by omega)
      ·rw [a0q hx];exact hv (by omega))
    |(refine j8 ?_
      have hne:a0Z e k x≠0:=by omega
      rw [hck,hm1 hne,if_pos hne])
  ·rw [List.drop_eq_nil_of_le (by omega),v7] at hI
   have sd:=b2T e hs hf (by omega) (by omega)
   conv=>whnf
   repeat' first|(refine zd ?_ ?_<;>intro h<;>first|exact zc h|(exfalso;omega)|conv=>whnf)|((first|refine zz ?_|refine qp sd ?_|refine zy ?_);conv=>whnf)
   all_goals first
    |(exfalso;omega)
    |(refine j8 ?_;rw [hck,hI];simp_all;done)
end
section
open Go.RowKit
theorem ao0 (e:Ev) (hs:e.Sized) {k:Nat} {x:p7} (hx:e.moves[k]? =some x):b9 Tryz.prog 151 [evS e,a9 .i64 k] [] (.tup (ivL (D3 e x))) []:=by
 have l1:=hs.s3
 have l2:=hs.s4
 have iv:=ap6 e.certs e.recalls (by omega) (by omega) x.scale x.reading x.day
 unfold D3
 by_cases hsc:x.scale=-1
 ·rw [if_pos hsc]
  (refine a8 a7 Tryz.func151 rfl (by decide) ?_;(conv=>whnf);repeat ((first|refine b0x ?_|refine zy ?_);conv=>whnf))
  repeat' first|(refine zd ?_ ?_<;>intro h<;>first|exact zc h|(exfalso;omega)|conv=>whnf)|((first|refine zz ?_|refine qp 1 ?_|refine d7 hx ?_|refine bl0 [1] ?_|refine zy ?_);conv=>whnf)
  all_goals first
   |(exfalso;omega)
   |exact j5 ⟨⟨rfl,rfl,rfl,rfl,trivial⟩,⟨rfl,rfl,rfl,rfl,trivial⟩,rfl,trivial⟩
 ·rw [if_neg hsc]
  cases hiv:K5 e.certs e.recalls x.scale x.reading x.day with
  |none=>
   rw [hiv] at iv
   (refine a8 a7 Tryz.func151 rfl (by decide) ?_;(conv=>whnf);repeat ((first|refine b0x ?_|refine zy ?_);conv=>whnf))
   repeat' first|(refine zd ?_ ?_<;>intro h<;>first|exact zc h|(exfalso;omega)|conv=>whnf)|((first|refine zz ?_|refine qp iv ?_|refine d7 hx ?_|refine zy ?_);conv=>whnf)
   all_goals first
    |(exfalso;omega)
    |exact j5 ⟨⟨rfl,rfl,rfl,rfl,trivial⟩,⟨rfl,rfl,rfl,rfl,trivial⟩,rfl,trivial⟩
  |some p=>
   obtain ⟨lo,hi⟩:=p
   rw [hiv] at iv
   (refine a8 a7 Tryz.func151 rfl (by decide) ?_;(conv=>whnf);repeat ((first|refine b0x ?_|refine zy ?_);conv=>whnf))
   repeat' first|(refine zd ?_ ?_<;>intro h<;>first|exact zc h|(exfalso;omega)|conv=>whnf)|((first|refine zz ?_|refine qp iv ?_|refine d7 hx ?_|refine zy ?_);conv=>whnf)
   all_goals first
    |(exfalso;omega)
    |exact j5 ⟨⟨rfl,rfl,rfl,rfl,trivial⟩,⟨rfl,rfl,rfl,rfl,trivial⟩,rfl,trivial⟩
end
section
open Go.RowKit
theorem aI9 (e:Ev) (mv kind:Int):b9 Tryz.prog 156 [evS e,a9 .i64 mv,a9 .i64 kind] [] (a9 .i64 (a02 e mv kind)) []:=by
 have l2:(e.moves.map p7.row).length=e.moves.length:=by simp
 (refine a8 a7 Tryz.func156 rfl (by decide) ?_;(conv=>whnf);repeat ((first|refine b0x ?_|refine zy ?_);conv=>whnf))
 repeat' first|(refine zd ?_ ?_<;>intro h<;>first|exact zc h|(exfalso;omega)|conv=>whnf)|((first|refine zz ?_|refine zy ?_);conv=>whnf)
 all_goals (refine j8 ?_;unfold a02;(repeat' split)<;>first|rfl|omega)
theorem av0 (t:l9) (hs:t.Sized):b9 Tryz.prog 85 [trS t] [] (a9 .i64 (p6 t)) []:=by
 have l1:=hs.f
 have l2:=hs.c
 have ck:=as5 t.ev hs.ev
 have m1:(t.finds.map T1.row).length=t.finds.length:=by simp
 have m2:(t.cleans.map K2.row).length=t.cleans.length:=by simp
 by_cases h0:y3 t.ev≠0
 ·have e1:p6 t=y3 t.ev:=by unfold p6;rw [if_pos h0]
  rw [e1]
  (refine a8 a7 Tryz.func85 rfl (by decide) ?_;(conv=>whnf);repeat ((first|refine b0x ?_|refine zy ?_);conv=>whnf))
  repeat' first|(refine zd ?_ ?_<;>intro h<;>first|exact zc h|(exfalso;omega)|conv=>whnf)|((first|refine zz ?_|refine qp ck ?_|refine zy ?_);conv=>whnf)
  all_goals first
   |(exfalso;omega)
   |exact j8 rfl
 have h0:y3 t.ev=0:=by omega
 rw [h0] at ck
 by_cases h1:20<t.finds.length∨50<t.cleans.length
 ·have e1:p6 t=6:=by unfold p6;rw [if_neg (by omega),if_pos h1]
  rw [e1]
  (refine a8 a7 Tryz.func85 rfl (by decide) ?_;(conv=>whnf);repeat ((first|refine b0x ?_|refine zy ?_);conv=>whnf))
  repeat' first|(refine zd ?_ ?_<;>intro h<;>first|exact zc h|(exfalso;omega)|conv=>whnf)|((first|refine zz ?_|refine qp ck ?_|refine zy ?_);conv=>whnf)
  all_goals first
   |(exfalso;omega)
   |exact j8 rfl
 have e1:p6 t=if K4 t.ev t.finds≠0 then K4 t.ev t.finds else L2 t.ev t.cleans:=by unfold p6;rw [if_neg (by omega),if_neg h1]
 rw [e1]
 (refine a8 a7 Tryz.func85 rfl (by decide) ?_;(conv=>whnf);repeat ((first|refine b0x ?_|refine zy ?_);conv=>whnf))
 repeat' first|(refine zd ?_ ?_<;>intro h<;>first|exact zc h|(exfalso;omega)|conv=>whnf)|((first|refine zz ?_|refine qp ck ?_|refine zy ?_);conv=>whnf)
 all_goals try (exfalso;omega)
 refine f6 a7 (fun k=>([J,S.c (C.t (T.ptr (trT t))),J,J,a9 .i64 k,J,J,J,J,J,J,J,J,J,J,J,J,J,J,J,J,J,J,J,J,J,J,J,J,J,J,J,J,J,J,J,J,J,J,J,J,J,J,J,J,J,J,J,J,J,J,J,J,J,J,J,J,J,J,J,J,J,J,J,J,J,J,J,J,J,J,J,J,J,J,J,J,J],[])) t.finds.length (fun k=>K4 t.ev t.finds=K4 t.ev (t.finds.drop k)) [] rfl
  ⟨rfl,rfl,trivial,⟨rfl,rfl,trivial⟩⟩ ?_
 intro k hk hI
 by_cases hlt:k<t.finds.length
 ·obtain ⟨f,hf⟩:∃f,t.finds[k]? =some f:=⟨_,lg0 hlt⟩
  have mk:=aI9 t.ev f.mv f.kind
  rw [Y7 hf,K4] at hI
  by_cases hm:a02 t.ev f.mv f.kind≠0
  ·rw [if_pos hm] at hI
   rw [hI,if_pos hm]
   conv=>whnf
   repeat' first|(refine zd ?_ ?_<;>intro h<;>first|exact zc h|(exfalso;omega)|conv=>whnf)|((first|refine zz ?_|refine qp mk ?_|refine d7 hf ?_|refine zy ?_);conv=>whnf)
   all_goals first
    |(exfalso;omega)
    |exact j8 rfl
  ·rw [if_neg hm] at hI
   by_cases hg:f.grams<1∨1099511627776<f.grams
   ·rw [if_pos hg] at hI
    rw [hI]
    conv=>whnf
    repeat' first|(refine zd ?_ ?_<;>intro h<;>first|exact zc h|(exfalso;omega)|conv=>whnf)|((first|refine zz ?_|refine qp mk ?_|refine d7 hf ?_|refine zy ?_);conv=>whnf)
    all_goals first
     |(exfalso;omega)
     |exact j8 rfl
   ·rw [if_neg hg] at hI
    conv=>whnf
    repeat' first|(refine zd ?_ ?_<;>intro h<;>first|exact zc h|(exfalso;omega)|conv=>whnf)|((first|refine zz ?_|refine qp mk ?_|refine d7 hf ?_|refine zy ?_);conv=>whnf)
    all_goals first
     |(exfalso;omega)
     |exact ⟨hlt,hI,[],rfl,rfl,trivial,⟨rfl,rfl,trivial⟩⟩
 ·rw [List.drop_of_length_le (by omega)] at hI
  have hI:K4 t.ev t.finds=0:=hI
  rw [hI,if_neg (by omega)]
  conv=>whnf
  repeat' first|(refine zd ?_ ?_<;>intro h<;>first|exact zc h|(exfalso;omega)|conv=>whnf)|((first|refine zz ?_|refine zy ?_);conv=>whnf)
  all_goals try (exfalso;omega)
  refine f6 a7 (fun k=>([J,S.c (C.t (T.ptr (trT t))),J,J,J,J,a9 .i64 k,J,J,J,J,J,J,J,J,J,J,J,J,J,J,J,J,J,J,J,J,J,J,J,J,J,J,J,J,J,J,J,J,J,J,J,J,J,J,J,J,J,J,J,J,J,J,J,J,J,J,J,J,J,J,J,J,J,J,J,J,J,J,J,J,J,J,J,J,J,J,J],[])) t.cleans.length (fun k=>L2 t.ev t.cleans=L2 t.ev (t.cleans.drop k)) [] rfl
   ⟨rfl,rfl,trivial,⟨rfl,rfl,trivial⟩⟩ ?_
  intro j hj hJ
  by_cases hjt:j<t.cleans.length
  ·obtain ⟨c,hc⟩:∃c,t.cleans[j]? =some c:=⟨_,lg0 hjt⟩
   have mk:=aI9 t.ev c.mv c.kind
   rw [Y7 hc,L2] at hJ
   by_cases hm:a02 t.ev c.mv c.kind≠0
   ·rw [if_pos hm] at hJ
    rw [hJ]
    conv=>whnf
    repeat' first|(refine zd ?_ ?_<;>intro h<;>first|exact zc h|(exfalso;omega)|conv=>whnf)|((first|refine zz ?_|refine qp mk ?_|refine d7 hc ?_|refine zy ?_);conv=>whnf)
    all_goals first
     |(exfalso;omega)
     |exact j8 rfl
   ·rw [if_neg hm] at hJ
    conv=>whnf
    repeat' first|(refine zd ?_ ?_<;>intro h<;>first|exact zc h|(exfalso;omega)|conv=>whnf)|((first|refine zz ?_|refine qp mk ?_|refine d7 hc ?_|refine zy ?_);conv=>whnf)
    all_goals first
     |(exfalso;omega)
     |exact ⟨hjt,hJ,[],rfl,rfl,trivial,⟨rfl,rfl,trivial⟩⟩
  ·rw [List.drop_of_length_le (by omega)] at hJ
   have hJ:L2 t.ev t.cleans=0:=hJ
   rw [hJ]
   conv=>whnf
   repeat' first|(refine zd ?_ ?_<;>intro h<;>first|exact zc h|(exfalso;omega)|conv=>whnf)|((first|refine zz ?_|refine zy ?_);conv=>whnf)
   all_goals first
    |(exfalso;omega)
    |exact j8 rfl
theorem aT5 (t:l9) (hs:t.Sized) (kind:Int):b9 Tryz.prog 149 [trS t,a9 .i64 kind] [] (e6 (decide (p6 t=0∧0≤kind∧kind<8))) []:=by
 have ck:=av0 t hs
 (refine a8 a7 Tryz.func149 rfl (by decide) ?_;(conv=>whnf);repeat ((first|refine b0x ?_|refine zy ?_);conv=>whnf))
 repeat' first|(refine zd ?_ ?_<;>intro h<;>first|exact zc h|(exfalso;omega)|conv=>whnf)|((first|refine zz ?_|refine qp ck ?_|refine zy ?_);conv=>whnf)
 all_goals (refine c6 ?_;simp;try omega)
theorem a7m (v n:Int) (h1:-9223372036854775808≤n) (h2:n≤9223372036854775807):b9 Tryz.prog 223 [a9 .i64 v,a9 .i64 n] [] (.agg ((k6 (v,(n:Rat))).map .t)) []:=by
 have i1:=a2A n h1 h2
 (refine a8 a7 Tryz.func223 rfl (by decide) ?_;(conv=>whnf);repeat ((first|refine b0x ?_|refine zy ?_);conv=>whnf))
 repeat' first|(refine zd ?_ ?_<;>intro h<;>first|exact zc h|(exfalso;omega)|conv=>whnf)|((first|refine zz ?_|refine qp i1 ?_|refine zy ?_);conv=>whnf)
 exact j5 ⟨rfl,rfl,rfl,rfl,rfl,trivial⟩
theorem aB2 (i:Nat) (kind:Int) (v:Rat):b9 Tryz.prog 152 [a9 .i64 i,a9 .i64 kind,frS (fz v)] [] (as2 (p9 i kind v)) []:=by
 have i1:=a7m i 1 (by decide) (by decide)
 (refine a8 a7 Tryz.func152 rfl (by decide) ?_;(conv=>whnf);repeat ((first|refine b0x ?_|refine zy ?_);conv=>whnf))
 repeat' first|(refine zd ?_ ?_<;>intro h<;>first|exact zc h|(exfalso;omega)|conv=>whnf)|((first|refine zz ?_|refine qp i1 ?_|refine a3i.weak ?_|refine zy ?_);conv=>whnf)
 exact j5 ⟨rfl,rfl,rfl,rfl,rfl,rfl,trivial⟩
abbrev b9t (f:Fr):Blk:={ mode:=.live,elem:=83,size:=4,rows:=[frC f],box:=true }
theorem aw4 (f:Fr):E8 [frC f]:=by simp [E8,frC,j7,C.isT]
end
section
open Go.RowKit
set_option maxHeartbeats 4000000 in
theorem aV4 (e:Ev) (h0:y3 e=0) {i:Nat} {x:p7} (hx:e.moves[i]? =some x):b9 Tryz.prog 150 [evS e,a9 .i64 i] [] (as2 (q9 e i x)) []:=by
 obtain ⟨b1,b2,b3,b4⟩:=T4 h0
 have hi:i<e.moves.length:=(lg1 hx).1
 have m0:(e.moves.map p7.row).length=e.moves.length:=by simp
 have i0:=a2A 0 (by decide) (by decide)
 have im:=a7m i (-1) (by decide) (by decide)
 have hil:=Y9 (e:=e) (p:=x.src) i
 cases hal:x.all
 case' false=>have hK:(q9 e i x).kind=0:=by unfold q9;rw [hal];rfl
 case' true=>have hK:(q9 e i x).kind=2:=by unfold q9;rw [hal];rfl
 all_goals
  (refine a8 a7 Tryz.func150 rfl (by decide) ?_;(conv=>whnf);repeat ((first|refine b0x ?_|refine zy ?_);conv=>whnf))
  repeat' first|(refine zd ?_ ?_<;>intro h<;>first|exact zc h|(exfalso;omega)|conv=>whnf)|((first|refine zz ?_|refine qp i0 ?_|refine d7 hx ?_|refine zy ?_);conv=>whnf)
  all_goals first
   |(exfalso;omega)
   |(exfalso;simp_all;done)
   |skip
  refine f6 a7 (fun k=>([J,a9 .i64 i,S.c (C.t (T.ptr (evT e))),J,S.c (C.ptr 0 0 0),a9 .i64 x.src,S.c (C.ptr 1 0 0),a9 .i64 k,J,J,J,J,J,J,J,J,J,J,J,J,J,J,J,J,J,J,J,J,J,J,J,J,J,J,J,J,J,J,J,J,J,J,J,J,J,J,J,J,J,J,J,J,J,J,J,J,J,J,J,J,J,J,J,J,J,J],[b3k,b37 2 (j4 e x.src k).length (q9 e i x).kind,J6 (j4 e x.src k)])) i (fun _=>True) [some 0,some 1,none] trivial ?_ ?_
  ·refine ⟨rfl,rfl,⟨⟨rfl,rfl,rfl,.inr ⟨⟨rfl,rfl,rfl,rfl,rfl,rfl,trivial⟩,trivial⟩⟩,⟨rfl,rfl,rfl,.inr ⟨⟨⟨rfl,rfl,rfl⟩,?_,rfl,rfl,rfl,rfl,trivial⟩,trivial⟩⟩,⟨rfl,rfl⟩,trivial⟩,⟨rfl,rfl,⟨rfl,rfl,rfl⟩,rfl,⟨rfl,rfl,rfl⟩,rfl,trivial⟩⟩
   rw [hK];rfl
  intro k hk _
  have kl:=Y9 (e:=e) (p:=x.src) k
  by_cases hlt:k<i
  ·obtain ⟨y,hy⟩:∃y,e.moves[k]? =some y:=⟨_,lg0 (by omega)⟩
   have hmo:=O2 h0 (lg2 hy)
   have hne:y.src≠y.dst:=by unfold L4 at hmo;simp only [Bool.and_eq_true,decide_eq_true_eq] at hmo;exact hmo.1.1.1.1.1.2
   have t1:=a7m k 1 (by decide) (by decide)
   have tm:=a7m k (-1) (by decide) (by decide)
   have lA:(j4 e x.src k).length≤(J6 (j4 e x.src k)).rows.length:=by show _≤(toC _).length;simp [toC]
   have lC:((j4 e x.src k).length+1)*73≤140737488355328:=by omega
   by_cases c1:y.dst=x.src
   ·have et:j4 e x.src (k+1)=j4 e x.src k++[((k:Int),((1:Int):Rat))]:=by rw [P3 hy,if_pos c1]
    conv=>whnf
    repeat' first|(refine zd ?_ ?_<;>intro h<;>first|exact zc h|(exfalso;omega)|conv=>whnf)|((first|refine zz ?_|refine qp t1 ?_|refine qp tm ?_|refine d7 hy ?_|refine t9 lA lC ?_|refine zy ?_);conv=>whnf)
    all_goals try (exfalso;omega)
    refine ⟨hlt,trivial,[some 0,some 1,some 3],rfl,rfl,⟨⟨rfl,rfl,rfl,.inr ⟨⟨rfl,rfl,rfl,rfl,rfl,rfl,trivial⟩,trivial⟩⟩,⟨rfl,rfl,rfl,.inr ⟨⟨⟨rfl,rfl,?_,fun h=>h⟩,rfl,rfl,rfl,rfl,rfl,trivial⟩,trivial⟩⟩,b8 rfl rfl rfl ?_ rfl,trivial⟩,⟨rfl,rfl,⟨rfl,rfl,rfl⟩,rfl,⟨rfl,rfl,rfl⟩,rfl,trivial⟩⟩
    ·rw [et,List.length_append];rfl
    ·rw [et]
     show List.take (j4 e x.src k).length (toC ((j4 e x.src k).map k6))++toC [k6 ((k:Int),((1:Int):Rat))]=_
     exact a0m rfl
   ·by_cases c2:y.src=x.src
    ·have et:j4 e x.src (k+1)=j4 e x.src k++[((k:Int),((-1:Int):Rat))]:=by rw [P3 hy,if_neg c1,if_pos c2]
     conv=>whnf
     repeat' first|(refine zd ?_ ?_<;>intro h<;>first|exact zc h|(exfalso;omega)|conv=>whnf)|((first|refine zz ?_|refine qp t1 ?_|refine qp tm ?_|refine d7 hy ?_|refine t9 lA lC ?_|refine zy ?_);conv=>whnf)
     all_goals try (exfalso;omega)
     refine ⟨hlt,trivial,[some 0,some 1,some 3],rfl,rfl,⟨⟨rfl,rfl,rfl,.inr ⟨⟨rfl,rfl,rfl,rfl,rfl,rfl,trivial⟩,trivial⟩⟩,⟨rfl,rfl,rfl,.inr ⟨⟨⟨rfl,rfl,?_,fun h=>h⟩,rfl,rfl,rfl,rfl,rfl,trivial⟩,trivial⟩⟩,b8 rfl rfl rfl ?_ rfl,trivial⟩,⟨rfl,rfl,⟨rfl,rfl,rfl⟩,rfl,⟨rfl,rfl,rfl⟩,rfl,trivial⟩⟩
     ·rw [et,List.length_append];rfl
     ·rw [et]
      show List.take (j4 e x.src k).length (toC ((j4 e x.src k).map k6))++toC [k6 ((k:Int),((-1:Int):Rat))]=_
      exact a0m rfl
    ·have et:j4 e x.src (k+1)=j4 e x.src k:=by rw [P3 hy,if_neg c1,if_neg c2]
     conv=>whnf
     repeat' first|(refine zd ?_ ?_<;>intro h<;>first|exact zc h|(exfalso;omega)|conv=>whnf)|((first|refine zz ?_|refine d7 hy ?_|refine zy ?_);conv=>whnf)
     all_goals try (exfalso;omega)
     refine ⟨hlt,trivial,[some 0,some 1,some 2],rfl,rfl,⟨⟨rfl,rfl,rfl,.inr ⟨⟨rfl,rfl,rfl,rfl,rfl,rfl,trivial⟩,trivial⟩⟩,⟨rfl,rfl,rfl,.inr ⟨⟨⟨rfl,rfl,?_,fun h=>h⟩,rfl,rfl,rfl,rfl,rfl,trivial⟩,trivial⟩⟩,b8 rfl rfl rfl ?_ rfl,trivial⟩,⟨rfl,rfl,⟨rfl,rfl,rfl⟩,rfl,⟨rfl,rfl,rfl⟩,rfl,trivial⟩⟩
     ·rw [et]
     ·rw [et]
  ·have hke:k=i:=by omega
   subst hke
   have lA:(j4 e x.src k).length≤(J6 (j4 e x.src k)).rows.length:=by show _≤(toC _).length;simp [toC]
   have lC:((j4 e x.src k).length+1)*73≤140737488355328:=by omega
   conv=>whnf
   repeat' first|(refine zd ?_ ?_<;>intro h<;>first|exact zc h|(exfalso;omega)|conv=>whnf)|((first|refine zz ?_|refine qp im ?_|refine t9 lA lC ?_|refine zy ?_);conv=>whnf)
   all_goals try (exfalso;omega)
   refine j5 ⟨show VC _ (fun id=>I9 [] id=true) _ _ from t8 rfl rfl (by intro h;cases h) rfl (rows:=(j4 e x.src k++[((k:Int),((-1:Int):Rat))]).map k6) ?_ ?_,rfl,rfl,rfl,rfl,rfl,trivial⟩
   ·show List.take (j4 e x.src k).length (toC ((j4 e x.src k).map k6))++toC [k6 ((k:Int),((-1:Int):Rat))]=_
    exact a0m rfl
   ·rw [List.length_map,List.length_append];rfl
end
section
open Go.RowKit
abbrev rEv (t:l9) (kind:Int) (k:Nat):Env:=[J,a9 .i64 kind,S.c (C.t (T.ptr (trT t))),J,S.c (C.ptr 0 0 0),J,S.c (C.ptr 1 0 0),S.c (C.ptr 2 0 0),a9 .i64 k,J,J,J,J,J,J,J,J,J,J,J,J,J,J,J,J,J,J,J,J,J,J,J,J,J,J,J,J,J,J,J,J,J,J,J,J,J,J,J,J,J,J,J,J,J,J,J,J,J,J,J,J,J,J,J,J,J,J,J,J,J,J,J,J,J,J,J,J,J,J,J,J,J,J,J,J,J,J,J,J,J,J,J,J,J,J,J,J,J,J,J,J,J,J,J,J,J,J,J,J,J,J,J,J,J,J,J,J,J,J,J,J,J,J,J,J,J,J,J,J,J,J,J,J,J,J,J,J,J,J,J,J]
abbrev rHp (t:l9) (R:List x7):Hp:=[a1J,evB t.ev,a2D t.ev.moves.length 3 R.length,P4 R]
theorem L6 {t:l9} {R:List x7} {N len:Nat} {H:Hp} {env env':Env} {rs:List (List C)} {kz:Blk} (hz:H[0]? =some kz) (hz2:a3f [some 0,some 1,some 2,some N] H kz a1J) (he:H[1]? =some (evB t.ev))
 (hs:H[2]? =some (a2D t.ev.moves.length N len)) (hr:H[N]? =some { mode:=.live,elem:=143,size:=6,rows:=rs,box:=false }) (hl:len=R.length) (hrs:rs=toC (R.map s7)) (hN:2<N)
 (hE:Z2 [some 0,some 1,some 2,some N] H env env'):Ent 0 [some 0,some 1,some 2,some N] env H env' (rHp t R):=by
 have b1:Nat.beq 0 N=false:=by cases h:Nat.beq 0 N with|false=>rfl|true=>exact absurd (Nat.eq_of_beq_eq_true h) (by omega)
 refine ⟨rfl,W0 fun a b m h1 h2=>?_,⟨?_,?_,?_,?_,trivial⟩,hE⟩
 ·match a,b,h1,h2 with
  |0,0,_,_=>rfl
  |1,1,_,_=>rfl
  |2,2,_,_=>rfl
  |3,3,_,_=>rfl
  |0,1,h1,h2=>simp at h1 h2;omega
  |0,2,h1,h2=>simp at h1 h2;omega
  |0,3,h1,h2=>simp at h1 h2;omega
  |1,0,h1,h2=>simp at h1 h2;omega
  |1,2,h1,h2=>simp at h1 h2;omega
  |1,3,h1,h2=>simp at h1 h2;omega
  |2,0,h1,h2=>simp at h1 h2;omega
  |2,1,h1,h2=>simp at h1 h2;omega
  |2,3,h1,h2=>simp at h1 h2;omega
  |3,0,h1,h2=>simp at h1 h2;omega
  |3,1,h1,h2=>simp at h1 h2;omega
  |3,2,h1,h2=>simp at h1 h2;omega
  |n+4,_,h1,_=>simp at h1
  |0,n+4,_,h2=>simp at h2
  |1,n+4,_,h2=>simp at h2
  |2,n+4,_,h2=>simp at h2
  |3,n+4,_,h2=>simp at h2
 ·simp only [hz];exact hz2
 ·simp only [he];exact ⟨rfl,rfl,rfl,.inl ⟨rfl,k8 _⟩⟩
 ·simp only [hs];exact ⟨rfl,rfl,rfl,.inr ⟨⟨rfl,⟨rfl,rfl,hl,fun h=>h⟩,trivial⟩,trivial⟩⟩
 ·simp only [hr];exact b8 rfl rfl rfl hrs rfl
theorem W3 {ρ:List (Option Nat)} {H:Hp}:a3f ρ H a1J a1J:=⟨rfl,rfl,rfl,.inr ⟨⟨rfl,rfl,trivial⟩,trivial⟩⟩
theorem b2s (o:Option (Rat × Rat)):∃lo:Fr,ivL o=[frS lo,frS (hiF o),e6 o.isSome]:=by
 cases o with
 |none=>exact ⟨C2,rfl⟩
 |some p=>exact ⟨fz p.1,rfl⟩
theorem b2W {i:Nat} {kind:Int} {f:Fr} {v:Rat} (h:f=fz v):b9 Tryz.prog 152 [a9 .i64 i,a9 .i64 kind,frS f] [] (as2 (p9 i kind v)) []:=by subst h;exact aB2 i kind v
set_option maxHeartbeats 4000000 in
theorem aO7 (t:l9) (kind:Int) (hs:t.Sized):b9 Tryz.prog 81 [trS t,a9 .i64 kind] [] (.tup [F0 (a5p t kind),a9 .i64 (a19 t kind)]) []:=by
 have rt:=aT5 t hs kind
 have m2:(t.ev.moves.map p7.row).length=t.ev.moves.length:=by simp
 have m4:(t.finds.map T1.row).length=t.finds.length:=by simp
 have m5:(t.cleans.map K2.row).length=t.cleans.length:=by simp
 by_cases h1:p6 t≠0∨kind<0∨8≤kind
 ·have e1:a19 t kind=1:=by unfold a19;rw [if_pos h1]
  have e2:a5p t kind=⟨0,[]⟩:=by unfold a5p;rw [if_pos h1]
  rw [e1,e2]
  rw [decide_eq_false (by omega)] at rt
  (refine a8 a7 Tryz.func81 rfl (by decide) ?_;(conv=>whnf);repeat ((first|refine b0x ?_|refine zy ?_);conv=>whnf))
  repeat' first|(refine zd ?_ ?_<;>intro h<;>first|exact zc h|(exfalso;omega)|conv=>whnf)|((first|refine zz ?_|refine qp rt ?_|refine zy ?_);conv=>whnf)
  all_goals first
   |(exfalso;omega)
   |exact j5 ⟨⟨rfl,rfl,trivial⟩,rfl,trivial⟩
 have e1:a19 t kind=0:=by unfold a19;rw [if_neg h1]
 have e2:a5p t kind=e8 t kind:=by unfold a5p;rw [if_neg h1]
 rw [e1,e2]
 obtain ⟨k1,k2,k3⟩:p6 t=0∧0≤kind∧kind<8:=by omega
 rw [decide_eq_true ⟨k1,k2,k3⟩] at rt
 clear h1 e1 e2
 obtain ⟨q1,q2,q3,q4,q5⟩:=N7 k1
 obtain ⟨b1,b2,b3,b4⟩:=T4 q1
 (refine a8 a7 Tryz.func81 rfl (by decide) ?_;(conv=>whnf);repeat ((first|refine b0x ?_|refine zy ?_);conv=>whnf))
 repeat' first|(refine zd ?_ ?_<;>intro h<;>first|exact zc h|(exfalso;omega)|conv=>whnf)|((first|refine zz ?_|refine qp rt ?_|refine zy ?_);conv=>whnf)
 all_goals try (exfalso;omega)
 refine at7 (fun k=>(rEv t kind k,rHp t (o5 t kind k))) t.ev.moves.length (fun _=>True) [some 0,some 1,some 2,none] trivial ?_ ?_
 ·refine ⟨rfl,rfl,⟨⟨rfl,rfl,rfl,.inr ⟨⟨rfl,rfl,trivial⟩,trivial⟩⟩,⟨rfl,rfl,rfl,.inl ⟨rfl,k8 _⟩⟩,⟨rfl,rfl,rfl,.inr ⟨⟨?_,⟨rfl,rfl,rfl⟩,trivial⟩,trivial⟩⟩,⟨rfl,rfl⟩,trivial⟩,⟨rfl,rfl,⟨rfl,rfl,rfl⟩,⟨rfl,rfl,rfl⟩,⟨rfl,rfl,rfl⟩,rfl,trivial⟩⟩
  exact a7d (by rw [m2])
 intro k hk _
 refine G2 a7 ?_
 conv=>whnf
 repeat' first|(refine zd ?_ ?_<;>intro h<;>first|exact zc h|(exfalso;omega)|conv=>whnf)|((first|refine zz ?_|refine zy ?_);conv=>whnf)
 ·obtain ⟨x,hx⟩:∃x,t.ev.moves[k]? =some x:=⟨_,lg0 (by omega)⟩
  have hlt:k<t.ev.moves.length:=by omega
  have hmo:=O2 q1 (lg2 hx)
  have ms:=a0J hmo
  obtain ⟨s,hsn⟩:∃s:Nat,x.src=s:=⟨x.src.toNat,by omega⟩
  obtain ⟨pl,hpl⟩:∃pl,t.ev.places[s]? =some pl:=⟨_,lg0 (by omega)⟩
  have hkd:F2 t.ev x.src=pl.kind:=by rw [hsn];exact a9n hpl
  have st:=aV4 t.ev q1 hx
  have iv:=ao0 t.ev hs.ev hx
  have rl0:=a4y (t:=t) (kind:=kind) (k:=k) (by omega) q2 q3
  obtain ⟨lo,hlo⟩:=b2s (D3 t.ev x)
  rw [hlo] at iv
  have i0:=a2A 0 (by decide) (by decide)
  have hcr:J1 (D3 t.ev x) k=if (D3 t.ev x).isSome then [p9 k 1 (hiR (D3 t.ev x))] else []:=by cases D3 t.ev x<;>rfl
  obtain ⟨R1,hR1⟩:∃R1:List x7,R1=o5 t kind k++(if pl.kind=0 then [] else [q9 t.ev k x]):=⟨_,rfl⟩
  obtain ⟨R2,hR2⟩:∃R2:List x7,R2=R1++J1 (D3 t.ev x) k:=⟨_,rfl⟩
  have l1:R1.length≤14401:=by rw [hR1];split<;>simp<;>omega
  have l2:R2.length≤14402:=by rw [hR2,hcr];split<;>simp<;>omega
  refine a81 (a85 ?_)
  refine a0b a7 (rEv t kind k) (rHp t R1) ?_ ?_
  ·have lA:(o5 t kind k).length≤(P4 (o5 t kind k)).rows.length:=by show _≤(toC _).length;simp [toC]
   have lC:((o5 t kind k).length+1)*97≤140737488355328:=by omega
   conv=>whnf
   repeat' first|(refine zd ?_ ?_<;>intro h<;>first|exact zc h|(exfalso;omega)|conv=>whnf)|((first|refine zz ?_|refine qp st ?_|refine d7 hx ?_|refine x3 hsn hpl ?_|refine t9 lA lC ?_|refine zy ?_);conv=>whnf)
   ·have eR:R1=o5 t kind k++[q9 t.ev k x]:=by rw [hR1,if_neg (by assumption)]
    refine ⟨[some 0,some 1,some 2,some 4],L6 rfl W3 rfl rfl rfl ?_ ?_ (by decide) ⟨rfl,rfl,⟨rfl,rfl,rfl⟩,⟨rfl,rfl,rfl⟩,⟨rfl,rfl,rfl⟩,rfl,trivial⟩⟩
    ·rw [eR];simp [toC]
    ·rw [eR];exact a0f rfl
   ·have eR:R1=o5 t kind k:=by rw [hR1,if_pos (by omega),List.append_nil]
    refine ⟨[some 0,some 1,some 2,some 3],L6 rfl W3 rfl rfl rfl ?_ ?_ (by decide) ⟨rfl,rfl,⟨rfl,rfl,rfl⟩,⟨rfl,rfl,rfl⟩,⟨rfl,rfl,rfl⟩,rfl,trivial⟩⟩
    ·rw [eR]
    ·rw [eR]
  have o1:=fun h=>b2W (i:=k) (kind:=1) (f:=hiF (D3 t.ev x)) (v:=hiR (D3 t.ev x)) h
  refine a0b a7 ([J,a9 .i64 kind,S.c (C.t (T.ptr (trT t))),J,S.c (C.ptr 0 0 0),J,S.c (C.ptr 1 0 0),S.c (C.ptr 2 0 0),a9 .i64 k,J,S.c (C.ptr 4 0 0),e6 (D3 t.ev x).isSome,J,J,J,J,J,J,J,J,J,J,J,J,J,J,J,J,J,J,J,J,J,J,J,J,J,J,J,J,J,J,J,J,J,J,J,J,J,J,J,J,J,J,J,J,J,J,J,J,J,J,J,J,J,J,J,J,J,J,J,J,J,J,J,J,J,J,J,J,J,J,J,J,J,J,J,J,J,J,J,J,J,J,J,J,J,J,J,J,J,J,J,J,J,J,J,J,J,J,J,J,J,J,J,J,J,J,J,J,J,J,J,J,J,J,J,J,J,J,J,J,J,J,J,J,J,J,J,J,J]) (rHp t R1++[b9t (hiF (D3 t.ev x))]) ?_ ?_
  ·conv=>whnf
   repeat' first|(refine zd ?_ ?_<;>intro h<;>first|exact zc h|(exfalso;omega)|conv=>whnf)|((first|refine zz ?_|refine qp iv ?_|refine qp 6 ?_|refine bl0 [6] ?_|refine zy ?_);conv=>whnf)
   all_goals
    refine ⟨[some 0,some 1,some 2,some 3,some 5],rfl,rfl,⟨W3,⟨rfl,rfl,rfl,.inl ⟨rfl,k8 _⟩⟩,⟨rfl,rfl,rfl,.inr ⟨⟨rfl,⟨rfl,rfl,rfl,fun h=>h⟩,trivial⟩,trivial⟩⟩,⟨rfl,rfl,rfl,.inl ⟨rfl,g4 _⟩⟩,⟨rfl,rfl,rfl,.inl ⟨rfl,aw4 _⟩⟩,trivial⟩,⟨rfl,rfl,⟨rfl,rfl,rfl⟩,⟨rfl,rfl,rfl⟩,⟨rfl,rfl,rfl⟩,rfl,⟨rfl,rfl,rfl⟩,aJ3 h.symm,trivial⟩⟩
  refine a0b a7 (rEv t kind k) (rHp t R2) ?_ ?_
  ·have lA:R1.length≤(P4 R1).rows.length:=by show _≤(toC _).length;simp [toC]
   have lC:(R1.length+1)*97≤140737488355328:=by omega
   cases hc:(D3 t.ev x).isSome with
   |true=>
    have o1:=o1 (a4R hc).1
    have eR:R2=R1++[p9 k 1 (hiR (D3 t.ev x))]:=by rw [hR2,hcr,hc];rfl
    conv=>whnf
    repeat' first|(refine zd ?_ ?_<;>intro h<;>first|exact zc h|(exfalso;omega)|conv=>whnf)|((first|refine zz ?_|refine qp o1 ?_|refine t9 lA lC ?_|refine zy ?_);conv=>whnf)
    all_goals try (rw [hc] at h;exact absurd h (by decide))
    refine ⟨[some 0,some 1,some 2,some 5],L6 rfl W3 rfl rfl rfl ?_ ?_ (by decide) ⟨rfl,rfl,⟨rfl,rfl,rfl⟩,⟨rfl,rfl,rfl⟩,⟨rfl,rfl,rfl⟩,rfl,trivial⟩⟩
    ·rw [eR];simp [toC]
    ·rw [eR];exact a0f rfl
   |false=>
    have eR:R2=R1:=by rw [hR2,hcr,hc];simp
    conv=>whnf
    repeat' first|(refine zd ?_ ?_<;>intro h<;>first|exact zc h|(exfalso;omega)|conv=>whnf)|((first|refine zz ?_|refine zy ?_);conv=>whnf)
    all_goals try (rw [hc] at h;exact absurd h (by decide))
    refine ⟨[some 0,some 1,some 2,some 3],L6 rfl W3 rfl rfl rfl ?_ ?_ (by decide) ⟨rfl,rfl,⟨rfl,rfl,rfl⟩,⟨rfl,rfl,rfl⟩,⟨rfl,rfl,rfl⟩,rfl,trivial⟩⟩
    ·rw [eR]
    ·rw [eR]
  obtain ⟨G,hG⟩:∃G:Nat→List x7,∀j,G j=R2++(i9 (t.finds.take j) kind k).map (fun g:Int=>p9 k 0 (g:Rat)):=⟨_,fun _=>rfl⟩
  have lG:∀j,(G j).length≤14500:=fun j=>by
   have h1:(i9 (t.finds.take j) kind k).length≤20:=by
    unfold i9;rw [List.length_map]
    exact Nat.le_trans (List.length_filter_le _ _) (by rw [List.length_take];omega)
   rw [hG];simp;omega
  refine a0b a7 (rEv t kind k) (rHp t (G t.finds.length)) ?_ ?_
  ·conv=>whnf
   repeat' first|(refine zd ?_ ?_<;>intro h<;>first|exact zc h|(exfalso;omega)|conv=>whnf)|((first|refine zz ?_|refine zy ?_);conv=>whnf)
   refine f6 a7 (fun j=>([J,a9 .i64 kind,S.c (C.t (T.ptr (trT t))),J,S.c (C.ptr 0 0 0),J,S.c (C.ptr 1 0 0),S.c (C.ptr 2 0 0),a9 .i64 k,J,J,J,a9 .i64 j,J,J,J,J,J,J,J,J,J,J,J,J,J,J,J,J,J,J,J,J,J,J,J,J,J,J,J,J,J,J,J,J,J,J,J,J,J,J,J,J,J,J,J,J,J,J,J,J,J,J,J,J,J,J,J,J,J,J,J,J,J,J,J,J,J,J,J,J,J,J,J,J,J,J,J,J,J,J,J,J,J,J,J,J,J,J,J,J,J,J,J,J,J,J,J,J,J,J,J,J,J,J,J,J,J,J,J,J,J,J,J,J,J,J,J,J,J,J,J,J,J,J,J,J,J,J,J,J],rHp t (G j))) t.finds.length (fun _=>True) [some 0,some 1,some 2,some 3] trivial ?_ ?_
   ·refine L6 rfl W3 rfl rfl rfl ?_ ?_ (by decide) ⟨rfl,rfl,⟨rfl,rfl,rfl⟩,⟨rfl,rfl,rfl⟩,⟨rfl,rfl,rfl⟩,rfl,rfl,trivial⟩
    ·rw [hG];simp [i9]
    ·rw [hG];simp [i9]
   intro j hj _
   have lj:=lG j
   by_cases hjt:j<t.finds.length
   ·obtain ⟨f,hf⟩:∃f,t.finds[j]? =some f:=⟨_,lg0 hjt⟩
    have fb:=X3 q4 f (lg2 hf)
    have ig:=a2A f.grams (by omega) (by omega)
    have o0:=aB2 k 0 (f.grams:Rat)
    have lA:(G j).length≤(P4 (G j)).rows.length:=by show _≤(toC _).length;simp [toC]
    have lC:((G j).length+1)*97≤140737488355328:=by omega
    have gs:G (j+1)=if f.kind=kind∧f.mv=(k:Int) then G j++[p9 k 0 (f.grams:Rat)] else G j:=by
     rw [hG,hG,a2n hf,a5v]
     split<;>simp
    conv=>whnf
    repeat' first|(refine zd ?_ ?_<;>intro h<;>first|exact zc h|(exfalso;omega)|conv=>whnf)|((first|refine zz ?_|refine qp ig ?_|refine qp o0 ?_|refine d7 hf ?_|refine t9 lA lC ?_|refine zy ?_);conv=>whnf)
    all_goals first
     |(exfalso;omega)
     |skip
    ·rw [if_pos (by omega)] at gs
     refine ⟨hjt,trivial,[some 0,some 1,some 2,some 4],L6 rfl W3 rfl rfl rfl ?_ ?_ (by decide) ⟨rfl,rfl,⟨rfl,rfl,rfl⟩,⟨rfl,rfl,rfl⟩,⟨rfl,rfl,rfl⟩,rfl,rfl,trivial⟩⟩
     ·rw [gs];simp [toC]
     ·rw [gs];exact a0f rfl
    all_goals
     rw [if_neg (by omega)] at gs
     refine ⟨hjt,trivial,[some 0,some 1,some 2,some 3],L6 rfl W3 rfl rfl rfl ?_ ?_ (by decide) ⟨rfl,rfl,⟨rfl,rfl,rfl⟩,⟨rfl,rfl,rfl⟩,⟨rfl,rfl,rfl⟩,rfl,rfl,trivial⟩⟩
     ·rw [gs]
     ·rw [gs]
   ·have hje:j=t.finds.length:=by omega
    subst hje
    conv=>whnf
    repeat' first|(refine zd ?_ ?_<;>intro h<;>first|exact zc h|(exfalso;omega)|conv=>whnf)|((first|refine zz ?_|refine zy ?_);conv=>whnf)
    all_goals first
     |(exfalso;omega)
     |exact ⟨[some 0,some 1,some 2,some 3],L6 rfl W3 rfl rfl rfl rfl rfl (by decide) ⟨rfl,rfl,⟨rfl,rfl,rfl⟩,⟨rfl,rfl,rfl⟩,⟨rfl,rfl,rfl⟩,rfl,trivial⟩⟩
  have lGe:=lG t.finds.length
  obtain ⟨K,hK⟩:∃K:Nat→List x7,∀j,K j=G t.finds.length++List.replicate (n8 (t.cleans.take j) kind k) (p9 k 2 ((0:Int):Rat)):=⟨_,fun _=>rfl⟩
  have lK:∀j,(K j).length≤14600:=fun j=>by
   have h1:n8 (t.cleans.take j) kind k≤50:=by
    unfold n8
    exact Nat.le_trans (List.length_filter_le _ _) (by rw [List.length_take];omega)
   rw [hK];simp;omega
  have hKe:K t.cleans.length=o5 t kind (k+1):=by
   rw [hK,hG,hR2,hR1,lg4 (Nat.le_refl _),lg4 (Nat.le_refl _)]
   show _=(match t.ev.moves[k]? with|none=>o5 t kind k|some x=>o5 t kind k++F7 t kind k x)
   rw [hx]
   simp only [F7,hkd,List.append_assoc]
  refine x4 a7 _ ?_
  conv=>whnf
  repeat' first|(refine zd ?_ ?_<;>intro h<;>first|exact zc h|(exfalso;omega)|conv=>whnf)|((first|refine zz ?_|refine zy ?_);conv=>whnf)
  refine f6 a7 (fun j=>([J,a9 .i64 kind,S.c (C.t (T.ptr (trT t))),J,S.c (C.ptr 0 0 0),J,S.c (C.ptr 1 0 0),S.c (C.ptr 2 0 0),a9 .i64 k,J,J,J,J,a9 .i64 j,J,J,J,J,J,J,J,J,J,J,J,J,J,J,J,J,J,J,J,J,J,J,J,J,J,J,J,J,J,J,J,J,J,J,J,J,J,J,J,J,J,J,J,J,J,J,J,J,J,J,J,J,J,J,J,J,J,J,J,J,J,J,J,J,J,J,J,J,J,J,J,J,J,J,J,J,J,J,J,J,J,J,J,J,J,J,J,J,J,J,J,J,J,J,J,J,J,J,J,J,J,J,J,J,J,J,J,J,J,J,J,J,J,J,J,J,J,J,J,J,J,J,J,J,J,J,J],rHp t (K j))) t.cleans.length (fun _=>True) [some 0,some 1,some 2,some 3] trivial ?_ ?_
  ·refine L6 rfl W3 rfl rfl rfl ?_ ?_ (by decide) ⟨rfl,rfl,⟨rfl,rfl,rfl⟩,⟨rfl,rfl,rfl⟩,⟨rfl,rfl,rfl⟩,rfl,rfl,trivial⟩
   ·rw [hK];simp [n8]
   ·rw [hK];simp [n8]
  intro j hj _
  have lj:=lK j
  by_cases hjt:j<t.cleans.length
  ·obtain ⟨c,hc⟩:∃c,t.cleans[j]? =some c:=⟨_,lg0 hjt⟩
   have o0:=aB2 k 2 ((0:Int):Rat)
   have lA:(K j).length≤(P4 (K j)).rows.length:=by show _≤(toC _).length;simp [toC]
   have lC:((K j).length+1)*97≤140737488355328:=by omega
   have gs:K (j+1)=if c.kind=kind∧c.mv=(k:Int) then K j++[p9 k 2 ((0:Int):Rat)] else K j:=by
    rw [hK,hK,a2n hc,X9]
    split<;>simp [List.replicate_succ']
   conv=>whnf
   repeat' first|(refine zd ?_ ?_<;>intro h<;>first|exact zc h|(exfalso;omega)|conv=>whnf)|((first|refine zz ?_|refine qp i0 ?_|refine qp o0 ?_|refine d7 hc ?_|refine t9 lA lC ?_|refine zy ?_);conv=>whnf)
   all_goals first
    |(exfalso;omega)
    |skip
   ·rw [if_pos (by omega)] at gs
    refine ⟨hjt,trivial,[some 0,some 1,some 2,some 4],L6 rfl W3 rfl rfl rfl ?_ ?_ (by decide) ⟨rfl,rfl,⟨rfl,rfl,rfl⟩,⟨rfl,rfl,rfl⟩,⟨rfl,rfl,rfl⟩,rfl,rfl,trivial⟩⟩
    ·rw [gs];simp [toC]
    ·rw [gs];exact a0f rfl
   all_goals
    rw [if_neg (by omega)] at gs
    refine ⟨hjt,trivial,[some 0,some 1,some 2,some 3],L6 rfl W3 rfl rfl rfl ?_ ?_ (by decide) ⟨rfl,rfl,⟨rfl,rfl,rfl⟩,⟨rfl,rfl,rfl⟩,⟨rfl,rfl,rfl⟩,rfl,rfl,trivial⟩⟩
    ·rw [gs]
    ·rw [gs]
  ·have hje:j=t.cleans.length:=by omega
   subst hje
   conv=>whnf
   repeat' first|(refine zd ?_ ?_<;>intro h<;>first|exact zc h|(exfalso;omega)|conv=>whnf)|((first|refine zz ?_|refine zy ?_);conv=>whnf)
   all_goals try (exfalso;omega)
   refine x4 a7 _ ?_
   conv=>whnf
   repeat' first|(refine zd ?_ ?_<;>intro h<;>first|exact zc h|(exfalso;omega)|conv=>whnf)|((first|refine zz ?_|refine zy ?_);conv=>whnf)
   all_goals try (exfalso;omega)
   exact ⟨hlt,trivial,[some 0,some 1,some 2,some 3],L6 rfl W3 rfl rfl rfl (by rw [hKe]) (by rw [hKe]) (by decide) ⟨rfl,rfl,⟨rfl,rfl,rfl⟩,⟨rfl,rfl,rfl⟩,⟨rfl,rfl,rfl⟩,rfl,trivial⟩⟩
 ·have hke:k=t.ev.moves.length:=by omega
  subst hke
  refine j5 ⟨⟨rfl,show VC _ (fun id=>I9 [] id=true) _ _ from t8 rfl rfl (by intro h;cases h) rfl rfl (by rw [List.length_map];rfl),trivial⟩,rfl,trivial⟩
end
section
open Go.RowKit
set_option maxHeartbeats 2000000 in
theorem aZ7 (e:Ev) (hs:e.Sized) (hh mat lo hi:Int):b9 Tryz.prog 86 [evS e,a9 .i64 hh,a9 .i64 mat,a9 .i64 lo,a9 .i64 hi] [] (g6 (A8 e hh mat lo hi)) []:=by
 have l1:=hs.s2
 have l2:(e.moves.map p7.row).length=e.moves.length:=by simp
 have l3:(e.places.map J7.row).length=e.places.length:=by simp
 have ck:=as5 e hs
 by_cases h0:y3 e=0
 ·have e1:A8 e hh mat lo hi=p5 (fun _ m=>a2t e hh mat lo hi m) 0 e.moves:=if_pos h0
  rw [e1]
  let P:Nat→p7→Bool:=fun _ m=>a2t e hh mat lo hi m
  (refine a8 a7 Tryz.func86 rfl (by decide) ?_;(conv=>whnf);repeat ((first|refine b0x ?_|refine zy ?_);conv=>whnf))
  repeat' first|(refine zd ?_ ?_<;>intro h<;>first|exact zc h|(exfalso;omega)|conv=>whnf)|((first|refine zz ?_|refine qp ck ?_|refine zy ?_);conv=>whnf)
  all_goals try (exfalso;omega)
  refine f6 a7 (fun k=>([J,a9 .i64 hh,a9 .i64 mat,a9 .i64 lo,a9 .i64 hi,S.c (C.t (T.ptr (evT e))),J,J,J,J,J,X2 0 (K8 P e.moves k),a9 .i64 k,J,J,J,J,J,J,J,J,J,J,J,J,J,J,J,J,J,J,J,J,J,J,J,J,J,J,J,J,J,J,J,J,J,J,J,J,J,J,J,J,J,J,J,J,J,J,J,J,J,J,J,J,J,J,J,J,J],[x8 (K8 P e.moves k)])) e.moves.length (fun k=>True) [none] trivial
   ⟨rfl,rfl,⟨⟨rfl,rfl⟩,trivial⟩,⟨rfl,rfl,rfl,rfl,rfl,⟨rfl,rfl,rfl⟩,rfl,trivial⟩⟩ ?_
  intro k hk _
  by_cases hlt:k<e.moves.length
  ·obtain ⟨x,hx⟩:∃x,e.moves[k]? =some x:=⟨_,lg0 hlt⟩
   have hmk:=O2 h0 (lg2 hx)
   have h1:=a0J hmk
   obtain ⟨p,hp⟩:∃p,e.places[x.src.toNat]? =some p:=⟨_,lg0 (by omega)⟩
   have ri:=a44 x.day lo hi
   have hpl:=a4b P e.moves k
   have eP:P k x=(decide (p.kind=0) && decide (p.hh=hh) && (decide (mat=-1) || decide (p.mat=mat)) && btw x.day lo hi):=by show a2t e hh mat lo hi x=_;unfold a2t;rw [hp]
   cases hP:P k x with
   |true=>
    rw [hP] at eP
    have eP:=eP.symm
    simp only [Bool.and_eq_true,Bool.or_eq_true,decide_eq_true_eq] at eP
    obtain ⟨⟨⟨q1,q2⟩,q3⟩,q4⟩:=eP
    rw [q4] at ri
    conv=>whnf
    repeat' first|(refine zd ?_ ?_<;>intro h<;>first|exact zc h|(exfalso;omega)|conv=>whnf)|((first|refine zz ?_|refine qp ri ?_|refine qp toC ?_|refine qp toC ?_|refine d7 hx ?_|refine B5 h1.1 hp ?_|refine zz ?_|refine t9 (by simp [toC]) (by simp [toC];omega) ?_|refine zy ?_);conv=>whnf)
    all_goals first
     |(exfalso;omega)
     |(refine ⟨hlt,trivial,[some 2],rfl,rfl,⟨b8 rfl rfl rfl ?_ rfl,trivial⟩,⟨rfl,rfl,rfl,rfl,rfl,j9 rfl ?_,rfl,trivial⟩⟩
       ·rw [a21 P hx hP,List.map_append]
        exact (congrArg (fun n=>List.take n (toC ((K8 P e.moves k).map g9))++toC [[ti k]]) (by simp)).trans an7
       ·rw [a21 P hx hP];simp [toC])
   |false=>
    rw [hP] at eP
    have eP:¬(p.kind=0∧p.hh=hh∧(mat=-1∨p.mat=mat)∧btw x.day lo hi=true):=by
     intro h
     obtain ⟨a1,a2,a3,a4⟩:=h
     rw [a4] at eP
     have:(decide (p.kind=0) && decide (p.hh=hh) && (decide (mat=-1) || decide (p.mat=mat)) && true)=true:=by
      simp [a1,a2]
      omega
     rw [← eP] at this
     cases this
    cases hb:btw x.day lo hi with
    |true=>
     rw [hb] at ri eP
     have eP2:¬(p.kind=0∧p.hh=hh∧(mat=-1∨p.mat=mat)):=fun h=>eP ⟨h.1,h.2.1,h.2.2,rfl⟩
     conv=>whnf
     repeat' first|(refine zd ?_ ?_<;>intro h<;>first|exact zc h|(exfalso;omega)|conv=>whnf)|((first|refine zz ?_|refine qp ri ?_|refine d7 hx ?_|refine B5 h1.1 hp ?_|refine zz ?_|refine zy ?_);conv=>whnf)
     all_goals first
      |(exfalso;omega)
      |(exfalso;contradiction)
      |(refine ⟨hlt,trivial,[some 0],rfl,rfl,⟨b8 rfl rfl rfl ?_ rfl,trivial⟩,⟨rfl,rfl,rfl,rfl,rfl,j9 rfl ?_,rfl,trivial⟩⟩
        ·rw [a0k P hx hP]
        ·rw [a0k P hx hP])
    |false=>
     rw [hb] at ri
     clear eP
     conv=>whnf
     repeat' first|(refine zd ?_ ?_<;>intro h<;>first|exact zc h|(exfalso;omega)|conv=>whnf)|((first|refine zz ?_|refine qp ri ?_|refine d7 hx ?_|refine B5 h1.1 hp ?_|refine zz ?_|refine zy ?_);conv=>whnf)
     all_goals first
      |(exfalso;omega)
      |(exfalso;contradiction)
      |(refine ⟨hlt,trivial,[some 0],rfl,rfl,⟨b8 rfl rfl rfl ?_ rfl,trivial⟩,⟨rfl,rfl,rfl,rfl,rfl,j9 rfl ?_,rfl,trivial⟩⟩
        ·rw [a0k P hx hP]
        ·rw [a0k P hx hP])
  ·have hk':p5 P 0 e.moves=K8 P e.moves k:=(a88 P (by omega)).symm
   conv=>whnf
   repeat' first|(refine zd ?_ ?_<;>intro h<;>first|exact zc h|(exfalso;omega)|conv=>whnf)|((first|refine zz ?_|refine zy ?_);conv=>whnf)
   all_goals first
    |(exfalso;omega)
    |(show Fin 0 _ _ (g6 (p5 P 0 e.moves)) []
      rw [hk']
      exact N4 rfl (by intro h;cases h) rfl rfl (by simp))
 ·have e1:A8 e hh mat lo hi=[]:=if_neg h0
  rw [e1]
  (refine a8 a7 Tryz.func86 rfl (by decide) ?_;(conv=>whnf);repeat ((first|refine b0x ?_|refine zy ?_);conv=>whnf))
  repeat' first|(refine zd ?_ ?_<;>intro h<;>first|exact zc h|(exfalso;omega)|conv=>whnf)|((first|refine zz ?_|refine qp ck ?_|refine zy ?_);conv=>whnf)
  all_goals first
   |(exfalso;omega)
   |exact j5 (show a6Z [] _ (.c (.t (.sl 0 .nil []))) (g6 []) from rfl)
set_option maxHeartbeats 2000000 in
theorem b1k (t:l9) (hs:t.Sized) (hh:Int) (hl:(A8 t.ev hh (-1) 0 100000).length≤100000):b9 Tryz.prog 29 [trS t,a9 .i64 hh] [] (j2 (a2J t hh)) []:=by
 have ck:=av0 t hs
 have li:=aZ7 t.ev hs.ev hh (-1) 0 100000
 have i1:=a2A 1 (by decide) (by decide)
 by_cases hc:p6 t=0∧0≤hh∧hh<t.ev.hhs
 ·have e:a2J t hh=o9 t hh:=if_pos hc
  rw [e]
  obtain ⟨c1,c2,c3⟩:=hc
  have m1:((A8 t.ev hh (-1) 0 100000).map g9).length=(A8 t.ev hh (-1) 0 100000).length:=by simp
  (refine a8 a7 Tryz.func29 rfl (by decide) ?_;(conv=>whnf);repeat ((first|refine b0x ?_|refine zy ?_);conv=>whnf))
  repeat' first|(refine zd ?_ ?_<;>intro h<;>first|exact zc h|(exfalso;omega)|conv=>whnf)|((first|refine zz ?_|refine qp ck ?_|refine qp li ?_|refine zy ?_);conv=>whnf)
  all_goals try (exfalso;omega)
  refine f6 a7 (fun k=>([J,J,J,J,J,g6 (A8 t.ev hh (-1) 0 100000),S.c (C.own 0 0 k true),a9 .i64 k,J,J,J,J,J,J,J,J,J,J,J,J,J,J,J,J,J,J,J,J,J,J,J,J,J,J,J,J,J,J,J,J,J,J],[J6 (a1e ((A8 t.ev hh (-1) 0 100000).take k))])) (A8 t.ev hh (-1) 0 100000).length (fun _=>True) [none] trivial
   ⟨rfl,rfl,⟨⟨rfl,rfl⟩,trivial⟩,⟨j0 rfl,⟨rfl,rfl,rfl⟩,c9 rfl,trivial⟩⟩ ?_
  intro k hk _
  by_cases hlt:k<(A8 t.ev hh (-1) 0 100000).length
  ·obtain ⟨x,hx⟩:∃x,(A8 t.ev hh (-1) 0 100000)[k]? =some x:=⟨_,lg0 hlt⟩
   have lk:(a1e ((A8 t.ev hh (-1) 0 100000).take k)).length=k:=by unfold a1e;rw [List.length_map,List.length_take];omega
   have lA:k≤(J6 (a1e ((A8 t.ev hh (-1) 0 100000).take k))).rows.length:=by show k≤(toC _).length;rw [toC,List.length_map,List.length_map,lk];exact Nat.le_refl _
   conv=>whnf
   repeat' first|(refine zd ?_ ?_<;>intro h<;>first|exact zc h|(exfalso;omega)|conv=>whnf)|((first|refine zz ?_|refine qp i1 ?_|refine qp toC ?_|refine d7 hx ?_|refine t9 lA (by simp [toC];omega) ?_|refine zy ?_);conv=>whnf)
   all_goals first
    |(exfalso;omega)
    |(refine ⟨hlt,trivial,[some 1],rfl,rfl,⟨b8 (rows:=(a1e ((A8 t.ev hh (-1) 0 100000).take (k+1))).map k6) rfl rfl rfl ?_ rfl,trivial⟩,⟨rfl,⟨rfl,rfl,rfl,fun h=>h⟩,c9 (by omega),trivial⟩⟩
      rw [ab2 hx]
      exact U5 (f:=k6) (x:=(x,((1:Int):Rat))) lk.symm)
  ·have hke:k=(A8 t.ev hh (-1) 0 100000).length:=by omega
   subst hke
   conv=>whnf
   repeat' first|(refine zd ?_ ?_<;>intro h<;>first|exact zc h|(exfalso;omega)|conv=>whnf)|((first|refine zz ?_|refine zy ?_);conv=>whnf)
   all_goals first
    |(exfalso;omega)
    |exact N4 rfl (fun h=>h) rfl (by rw [lg4 (Nat.le_refl _)];rfl) (by simp [o9,a1e])
 ·have e:a2J t hh=[]:=if_neg hc
  rw [e]
  (refine a8 a7 Tryz.func29 rfl (by decide) ?_;(conv=>whnf);repeat ((first|refine b0x ?_|refine zy ?_);conv=>whnf))
  repeat' first|(refine zd ?_ ?_<;>intro h<;>first|exact zc h|(exfalso;omega)|conv=>whnf)|((first|refine zz ?_|refine qp ck ?_|refine qp li ?_|refine zy ?_);conv=>whnf)
  all_goals first
   |(exfalso;omega)
   |exact al1
theorem b5Q (x:Rat) (lx:rl x≤60000):b9 Tryz.prog 171 [frS (fz x)] [] (frS (fz (-x))) []:=by
 have r1:=a5S x (by omega)
 have x1:=B3 x
 have n:=b3j x.num (by omega)
 have e:fz (-x)=⟨bz (-x.num),bz x.den⟩:=by unfold fz;rw [Rat.neg_num,Rat.neg_den]
 rw [e]
 (refine a8 a7 Tryz.func171 rfl (by decide) ?_;(conv=>whnf);repeat ((first|refine b0x ?_|refine zy ?_);conv=>whnf))
 repeat' first|(refine zd ?_ ?_<;>intro h<;>first|exact zc h|(exfalso;omega)|conv=>whnf)|((first|refine zz ?_|refine qp r1 ?_|refine qp n ?_|refine zy ?_);conv=>whnf)
 all_goals first
  |(exfalso;simp_all;done)
  |exact j5 ⟨rfl,rfl,rfl,rfl,trivial⟩
set_option maxHeartbeats 2000000 in
theorem ao5 (l:List (Int × Rat)) (hl:l.length≤100000) (hb:∀t ∈ l,rl t.2≤200):b9 Tryz.prog 96 [j2 l] [] (j2 (u7 l)) []:=by
 have m1:(l.map k6).length=l.length:=by simp
 (refine a8 a7 Tryz.func96 rfl (by decide) ?_;(conv=>whnf);repeat ((first|refine b0x ?_|refine zy ?_);conv=>whnf))
 repeat' first|(refine zd ?_ ?_<;>intro h<;>first|exact zc h|(exfalso;omega)|conv=>whnf)|((first|refine zz ?_|refine zy ?_);conv=>whnf)
 refine f6 a7 (fun k=>([j2 l,J,J,S.c (C.own 0 0 k true),a9 .i64 k,J,J,J,J,J,J,J,J,J,J,J,J,J,J,J,J,J,J,J,J,J,J],[J6 ((u7 l).take k)])) l.length (fun _=>True) [none] trivial
  ⟨rfl,rfl,⟨⟨rfl,rfl⟩,trivial⟩,⟨rfl,⟨rfl,rfl,rfl⟩,c9 rfl,trivial⟩⟩ ?_
 intro k hk _
 by_cases hlt:k<l.length
 ·obtain ⟨t,ht⟩:∃t,l[k]? =some t:=⟨_,lg0 hlt⟩
  have bt:=hb t (lg2 ht)
  have ne:=b5Q t.2 (by omega)
  have en:-t.2=t.2*((-1:Int):Rat):=by
   have e1:((-1:Int):Rat)=-1:=rfl
   rw [e1];grind
  rw [en] at ne
  have lk:((u7 l).take k).length=k:=by rw [List.length_take,a11];omega
  have lA:k≤(J6 ((u7 l).take k)).rows.length:=by show k≤(toC _).length;simp [toC,a11];omega
  conv=>whnf
  repeat' first|(refine zd ?_ ?_<;>intro h<;>first|exact zc h|(exfalso;omega)|conv=>whnf)|((first|refine zz ?_|refine qp ne ?_|refine qp toC ?_|refine d7 ht ?_|refine t9 lA (by simp [toC];omega) ?_|refine zy ?_);conv=>whnf)
  all_goals first
   |(exfalso;omega)
   |(refine ⟨hlt,trivial,[some 1],rfl,rfl,⟨b8 (rows:=((u7 l).take (k+1)).map k6) rfl rfl rfl ?_ rfl,trivial⟩,⟨rfl,⟨rfl,rfl,rfl,fun h=>h⟩,c9 (by omega),trivial⟩⟩
     rw [show (u7 l).take (k+1)=_ from a3g l _ ht]
     exact U5 (f:=k6) (x:=(t.1,t.2*((-1:Int):Rat))) lk.symm)
 ·have hke:k=l.length:=by omega
  subst hke
  conv=>whnf
  repeat' first|(refine zd ?_ ?_<;>intro h<;>first|exact zc h|(exfalso;omega)|conv=>whnf)|((first|refine zz ?_|refine zy ?_);conv=>whnf)
  all_goals first
   |(exfalso;omega)
   |exact N4 rfl (fun h=>h) rfl (by rw [lg4 (by rw [a11];exact Nat.le_refl _)]) (by simp [a11])
def v6 (s:f5) (g:List (Int × Rat)):f5:=⟨s.n,s.rows++[⟨g,2,((0:Int):Rat)⟩]⟩
set_option maxHeartbeats 2000000 in
theorem b0V (s:f5) (g:List (Int × Rat)) (hl:s.rows.length≤100000):b9 Tryz.prog 94 [F0 s,j2 g] [] (F0 (v6 s g)) []:=by
 have m1:(s.rows.map s7).length=s.rows.length:=by simp
 have i0:=a2A 0 (by decide) (by decide)
 (refine a8 a7 Tryz.func94 rfl (by decide) ?_;(conv=>whnf);repeat ((first|refine b0x ?_|refine zy ?_);conv=>whnf))
 repeat' first|(refine zd ?_ ?_<;>intro h<;>first|exact zc h|(exfalso;omega)|conv=>whnf)|((first|refine zz ?_|refine qp i0 ?_|refine qp toC ?_|refine qp (toC,C5) ?_|refine qp toC ?_|refine qp (0,1) ?_|refine a0X rfl (by simp [toC];omega) ?_|refine t9 (by simp [toC,C5]) (by simp [toC];omega) ?_|refine bl0 [0,1] ?_|refine zy ?_);conv=>whnf)
 refine j5 ?_
 refine ⟨rfl,?_,trivial⟩
 show VC _ (fun id=>I9 [] id=true) (C.own 3 0 _ true) (B2 (v6 s g).rows)
 refine t8 (rows:=(s.rows++[(⟨g,2,((0:Int):Rat)⟩:x7)]).map s7) rfl rfl (fun h=>h) rfl ?_ ?_
 ·show List.take ([].length+(toC (s.rows.map s7)).length) (toC []++toC (s.rows.map s7))++toC [s7 ⟨g,2,((0:Int):Rat)⟩]=_
  rw [lg4 (by simp [toC]),List.map_append]
  simp [toC]
 ·simp [toC]
end
section
open Go.RowKit
theorem aE2 (l:List (Int × Rat)) (z:List Rat) (hl:l.length≤1000000) (h1:∀t ∈ l,rl t.2≤200) (h2:∀v ∈ z,rl v≤40000) (hz:z.length≤1000000) (hr:e7 (-1) z.length l=false):
 b9 Tryz.prog 165 [j2 l,k7 (z.map fz)] [] (.tup [frS C2,e6 false]) []:=by
 have m2:((z.map fz).map j7).length=z.length:=by simp
 have rt:=a07 l z.length hl h1
 rw [decide_eq_true (by omega),hr] at rt
 have rt2:b9 Tryz.prog 167 [j2 l,a9 .i64 (((z.map fz).map j7).length:Nat)] [] (e6 (true && false)) []:=by rw [m2];exact rt
 have pt:=a8O z hz (fun v hv=>by have:=h2 v hv;omega)
 (refine a8 a7 Tryz.func165 rfl (by decide) ?_;(conv=>whnf);repeat ((first|refine b0x ?_|refine zy ?_);conv=>whnf))
 repeat' first|(refine zd ?_ ?_<;>intro h<;>first|exact zc h|(exfalso;omega)|conv=>whnf)|((first|refine zz ?_|refine qp rt2 ?_|refine qp pt ?_|refine zy ?_);conv=>whnf)
 all_goals first
  |(exfalso;simp_all;done)
  |exact j5 ⟨⟨rfl,rfl,rfl,rfl,trivial⟩,rfl,trivial⟩
def a0R (s:f5) (g:List (Int × Rat)) (x:List Rat) (is:Bool):Bool:=i7 s x && (decide (0<j3 g x) == is)
theorem ac6 (s:f5) (hb:U7 s) (hr:f9 s=true) (g:List (Int × Rat)) (hg:e7 (-1) s.n g=true) (hgb:∀t ∈ g,rl t.2≤200) (x:List Rat) (hp:PtB s x) (hS:∀k,rl (j3 (g.take k) x)≤50000) (is:Bool):
 b9 Tryz.prog 92 [F0 s,j2 g,k7 (x.map fz),e6 is] [] (e6 (a0R s g x is)) []:=by
 have hl:=hp.l
 have hnn:0≤s.n∧s.n≤1500:=by
  unfold f9 at hr
  simp only [Bool.and_eq_true,decide_eq_true_eq] at hr
  exact ⟨hr.1.1.1,hr.1.1.2⟩
 have hgl:g.length≤1500:=by
  have:=w6 hg
  omega
 have ho:=b2O s hb hr x hp
 unfold a0R
 cases hh:i7 s x with
 |true=>
  rw [hh] at ho
  have hn:=(S6 hh).2
  have va:=ae9 g x (by omega) hgb hp.v (fun k=>by have:=hS k;omega) hp.l (by rw [hn];exact hg)
  have bv:=hS g.length
  rw [lg4 (Nat.le_refl _)] at bv
  have sg:=a4q (j3 g x) (by omega)
  have sp:=a1d (x:=j3 g x)
  have e:decide (0<j3 g x)=decide (sgR (j3 g x) > 0):=by rw [decide_eq_decide];exact sp.symm
  rw [e]
  generalize sgR (j3 g x)=U at sg
  clear sp e
  cases is<;>
  ·(refine a8 a7 Tryz.func92 rfl (by decide) ?_;(conv=>whnf);repeat ((first|refine b0x ?_|refine zy ?_);conv=>whnf))
   repeat' first|(refine zd ?_ ?_<;>intro h<;>first|exact zc h|(exfalso;omega)|conv=>whnf)|((first|refine zz ?_|refine qp va ?_|refine qp ho ?_|refine qp sg ?_|refine qp 5 ?_|refine bl0 [5] ?_|refine zy ?_);conv=>whnf)
   all_goals first
    |(exfalso;contradiction)
    |(have hd:decide (U > 0)=true:=decide_eq_true (by omega)
      refine c6 ?_;rw [hd];rfl)
    |(have hd:decide (U > 0)=false:=decide_eq_false (by omega)
      refine c6 ?_;rw [hd];rfl)
 |false=>
  rw [hh] at ho
  cases hrt:e7 (-1) x.length g with
  |true=>
   have va:=ae9 g x (by omega) hgb hp.v (fun k=>by have:=hS k;omega) hp.l hrt
   (refine a8 a7 Tryz.func92 rfl (by decide) ?_;(conv=>whnf);repeat ((first|refine b0x ?_|refine zy ?_);conv=>whnf))
   repeat' first|(refine zd ?_ ?_<;>intro h<;>first|exact zc h|(exfalso;omega)|conv=>whnf)|((first|refine zz ?_|refine qp va ?_|refine qp ho ?_|refine qp 5 ?_|refine bl0 [5] ?_|refine zy ?_);conv=>whnf)
   all_goals first
    |(exfalso;contradiction)
    |exact c6 rfl
  |false=>
   have va:=aE2 g x (by omega) hgb hp.v hp.l hrt
   (refine a8 a7 Tryz.func92 rfl (by decide) ?_;(conv=>whnf);repeat ((first|refine b0x ?_|refine zy ?_);conv=>whnf))
   repeat' first|(refine zd ?_ ?_<;>intro h<;>first|exact zc h|(exfalso;omega)|conv=>whnf)|((first|refine zz ?_|refine qp va ?_|refine qp ho ?_|refine qp 5 ?_|refine bl0 [5] ?_|refine zy ?_);conv=>whnf)
   all_goals first
    |(exfalso;contradiction)
    |exact c6 rfl
theorem b16 {g:List (Int × Rat)} {B:Nat} (h:∀t ∈ g,rl t.2≤B):∀t ∈ u7 g,rl t.2≤B:=by
 intro t ht
 obtain ⟨u,hu,rfl⟩:=List.mem_map.1 ht
 have e:u.2*((-1:Int):Rat)=-u.2:=by
  have e1:((-1:Int):Rat)=-1:=rfl
  rw [e1];grind
 show rl (u.2*((-1:Int):Rat))≤B
 rw [e,M9]
 exact h u hu
def a8S (s:f5) (g:List (Int × Rat)) (v:Z9):Bool:=
 if v.state=2 then decide (v.wo.length=0) && a0R s g v.w true && a5f (v6 s g) v.pr
 else if v.state=0 then decide (v.w.length=0) && a0R s g v.wo false && (U8 s (u7 g) v.pr && decide (J4 s (yN v.pr)=0))
 else if v.state=1 then decide (v.pr.length=0) && a0R s g v.w true && a0R s g v.wo false
 else false
structure b3t (s:f5) (g:List (Int × Rat)) (v:Z9):Prop where
 w:PtB s v.w
 wo:PtB s v.wo
 wg:∀k,rl (j3 (g.take k) v.w)≤50000
 og:∀k,rl (j3 (g.take k) v.wo)≤50000
 y:∀x ∈ v.pr,rl x≤40000
 yl:v.pr.length≤1000000
 m1:v.pr.length=(v6 s g).rows.length→a4u (v6 s g) v.pr
 m0:v.pr.length=s.rows.length→a4u s v.pr
theorem a18 {s:f5} {g:List (Int × Rat)} (hr:f9 s=true) (hl:s.rows.length<6000) (hg:e7 (-1) s.n g=true):f9 (v6 s g)=true:=by
 unfold f9 at hr ⊢
 simp only [Bool.and_eq_true,decide_eq_true_eq] at hr ⊢
 refine ⟨⟨hr.1.1,by simp [v6];omega⟩,?_⟩
 show (s.rows++[_]).all (u9 s.n)=true
 rw [List.all_append,hr.2]
 simp [u9,hg]
theorem aI3 {s:f5} {g:List (Int × Rat)} (hb:U7 s) (hl:s.rows.length<6000) (hg:g.length≤100) (hgb:∀t ∈ g,rl t.2≤200):U7 (v6 s g):=by
 refine ⟨by simp [v6];omega,fun w hw=>?_⟩
 rcases List.mem_append.1 hw with h|h
 ·exact hb.t w h
 ·simp at h
  subst h
  exact ⟨hg,hgb,by have:=rl0;show rl 0≤_;omega⟩
set_option maxHeartbeats 4000000 in
theorem aU0 (t:l9) (kind:Int) (hs:t.Sized) (ht:p6 t=0) (k0:0≤kind) (k1:kind<8) (v:Z9) (h0:0≤v.hh) (h1:v.hh<t.ev.hhs) (hm:t.ev.moves.length≤100) (hl:(e8 t kind).rows.length<6000)
 (hb:U7 (e8 t kind)) (hr:f9 (e8 t kind)=true) (hv:b3t (e8 t kind) (o9 t v.hh) v):
 b9 Tryz.prog 31 [trS t,a9 .i64 kind,av7 v] [] (e6 (a8S (e8 t kind) (o9 t v.hh) v)) []:=by
 have sy:=aO7 t kind hs
 have hc:¬(p6 t≠0∨kind<0∨8≤kind):=by omega
 have e1:a19 t kind=0:=if_neg hc
 have e2:a5p t kind=e8 t kind:=if_neg hc
 rw [e1,e2] at sy
 have go:=b1k t hs v.hh (by have:=a4n (t:=t) (h:=v.hh);omega)
 have eg:a2J t v.hh=o9 t v.hh:=if_pos ⟨ht,h0,h1⟩
 rw [eg] at go
 have hgr:e7 (-1) (e8 t kind).n (o9 t v.hh)=true:=K7 t v.hh
 have hgb:∀u ∈ o9 t v.hh,rl u.2≤200:=fun u hu=>by have:=P8 (S2 t v.hh) u hu;omega
 have hgl:(o9 t v.hh).length≤100:=by
  have:=w6 hgr
  have:(e8 t kind).n=t.ev.moves.length:=rfl
  omega
 generalize o9 t v.hh=g at go hgr hgb hgl hv
 have m1:((v.w.map fz).map j7).length=v.w.length:=by simp
 have m2:((v.wo.map fz).map j7).length=v.wo.length:=by simp
 have m3:((v.pr.map fz).map j7).length=v.pr.length:=by simp
 have i1:=ac6 _ hb hr g hgr hgb v.w hv.w hv.wg true
 have i2:=ac6 _ hb hr g hgr hgb v.wo hv.wo hv.og false
 unfold a8S
 by_cases s2:v.state=2
 ·rw [if_pos s2]
  have ne:=b0V (e8 t kind) g (by omega)
  have rf:=aO9 (v6 (e8 t kind) g) (aI3 hb hl hgl hgb) (a18 hr hl hgr) v.pr hv.y hv.yl hv.m1
  generalize a0R (e8 t kind) g v.w true=I1 at i1
  generalize a5f (v6 (e8 t kind) g) v.pr=R1 at rf
  cases I1<;>cases R1<;>
  ·(refine a8 a7 Tryz.func31 rfl (by decide) ?_;(conv=>whnf);repeat ((first|refine b0x ?_|refine zy ?_);conv=>whnf))
   repeat' first|(refine zd ?_ ?_<;>intro h<;>first|exact zc h|(exfalso;omega)|conv=>whnf)|((first|refine zz ?_|refine qp sy ?_|refine qp go ?_|refine qp i1 ?_|refine qp ne ?_|refine qp rf ?_|refine qp 5 ?_|refine bl0 [5] ?_|refine zy ?_);conv=>whnf)
   all_goals first
    |(exfalso;omega)
    |(exfalso;contradiction)
    |(have hd:decide (v.wo.length=0)=true:=decide_eq_true (by omega)
      refine c6 ?_;rw [hd];rfl)
    |(have hd:decide (v.wo.length=0)=false:=decide_eq_false (by omega)
      refine c6 ?_;rw [hd];rfl)
 rw [if_neg s2]
 by_cases s0:v.state=0
 ·rw [if_pos s0]
  have op:=ao5 g (by omega) hgb
  have lo:=aJ8 _ hb hr (u7 g) (by rw [a11];omega) (b16 hgb) v.pr hv.y hv.yl hv.m0
  generalize a0R (e8 t kind) g v.wo false=I2 at i2
  unfold a1F at lo
  cases hB:U8 (e8 t kind) (u7 g) v.pr with
  |false=>
   rw [hB,if_neg (by decide)] at lo
   rw [Bool.false_and,Bool.and_false]
   cases I2<;>
   ·(refine a8 a7 Tryz.func31 rfl (by decide) ?_;(conv=>whnf);repeat ((first|refine b0x ?_|refine zy ?_);conv=>whnf))
    repeat' first|(refine zd ?_ ?_<;>intro h<;>first|exact zc h|(exfalso;omega)|conv=>whnf)|((first|refine zz ?_|refine qp sy ?_|refine qp go ?_|refine qp i2 ?_|refine qp op ?_|refine qp lo ?_|refine qp 5 ?_|refine qp 8 ?_|refine bl0 [5] ?_|refine bl0 [8] ?_|refine zy ?_);conv=>whnf)
    all_goals first
     |(exfalso;omega)
     |(exfalso;contradiction)
     |exact c6 rfl
  |true=>
   rw [hB,if_pos rfl] at lo
   rw [Bool.true_and]
   have hl:v.pr.length=(e8 t kind).rows.length:=by
    unfold U8 N8 at hB
    simp only [Bool.and_eq_true,decide_eq_true_eq] at hB
    exact hB.1.1.1
   have b:=(hv.m0 hl).v (e8 t kind).rows.length
   have b:rl (J4 (e8 t kind) (yN v.pr))≤50000:=b
   have sg:=a4q (J4 (e8 t kind) (yN v.pr)) (by omega)
   have sz:=a0M (x:=J4 (e8 t kind) (yN v.pr))
   have e:decide (J4 (e8 t kind) (yN v.pr)=0)=decide (sgR (J4 (e8 t kind) (yN v.pr))=0):=by rw [decide_eq_decide];exact sz.symm
   rw [e]
   generalize sgR (J4 (e8 t kind) (yN v.pr))=U at sg
   clear sz e
   cases I2<;>
   ·(refine a8 a7 Tryz.func31 rfl (by decide) ?_;(conv=>whnf);repeat ((first|refine b0x ?_|refine zy ?_);conv=>whnf))
    repeat' first|(refine zd ?_ ?_<;>intro h<;>first|exact zc h|(exfalso;omega)|conv=>whnf)|((first|refine zz ?_|refine qp sy ?_|refine qp go ?_|refine qp i2 ?_|refine qp op ?_|refine qp lo ?_|refine qp sg ?_|refine qp 5 ?_|refine qp 8 ?_|refine bl0 [5] ?_|refine bl0 [8] ?_|refine zy ?_);conv=>whnf)
    all_goals first
     |(exfalso;omega)
     |(exfalso;contradiction)
     |(refine c6 ?_
       first
        |(rw [show decide (v.w.length=0)=true from decide_eq_true (by omega)];first|rfl|(rw [show decide (U=0)=true from decide_eq_true (by omega)];rfl)|(rw [show decide (U=0)=false from decide_eq_false (by omega)];rfl))
        |(rw [show decide (v.w.length=0)=false from decide_eq_false (by omega)];rfl))
 rw [if_neg s0]
 by_cases s1:v.state=1
 ·rw [if_pos s1]
  generalize a0R (e8 t kind) g v.w true=I1 at i1
  generalize a0R (e8 t kind) g v.wo false=I2 at i2
  cases I1<;>cases I2<;>
  ·(refine a8 a7 Tryz.func31 rfl (by decide) ?_;(conv=>whnf);repeat ((first|refine b0x ?_|refine zy ?_);conv=>whnf))
   repeat' first|(refine zd ?_ ?_<;>intro h<;>first|exact zc h|(exfalso;omega)|conv=>whnf)|((first|refine zz ?_|refine qp sy ?_|refine qp go ?_|refine qp i1 ?_|refine qp i2 ?_|refine qp 5 ?_|refine bl0 [5] ?_|refine zy ?_);conv=>whnf)
   all_goals first
    |(exfalso;omega)
    |(exfalso;contradiction)
    |(have hd:decide (v.pr.length=0)=true:=decide_eq_true (by omega)
      refine c6 ?_;rw [hd];rfl)
    |(have hd:decide (v.pr.length=0)=false:=decide_eq_false (by omega)
      refine c6 ?_;rw [hd];rfl)
 ·rw [if_neg s1]
  (refine a8 a7 Tryz.func31 rfl (by decide) ?_;(conv=>whnf);repeat ((first|refine b0x ?_|refine zy ?_);conv=>whnf))
  repeat' first|(refine zd ?_ ?_<;>intro h<;>first|exact zc h|(exfalso;omega)|conv=>whnf)|((first|refine zz ?_|refine qp sy ?_|refine qp go ?_|refine qp 5 ?_|refine bl0 [5] ?_|refine zy ?_);conv=>whnf)
  all_goals first
   |(exfalso;omega)
   |(exfalso;contradiction)
   |exact c6 rfl
end
section
open Go.RowKit
theorem Y2 {s:f5} {g:List (Int × Rat)} (z:List Rat):∀l:List (Int × Rat),j3 (u7 l) z=-(j3 l z):=by
 intro l
 have key:∀k,k≤l.length→j3 ((u7 l).take k) z=-(j3 (l.take k) z):=by
  intro k
  induction k with
  |zero=>intro _;rw [List.take_zero,List.take_zero];show (0:Rat)=-0;grind
  |succ k ih=>
   intro hk
   have ih:=ih (by omega)
   have ht:l[k]? =some l[k]:=lg0 (by omega)
   rw [show (u7 l).take (k+1)=_ from a3g l _ ht,M4,List.take_succ_eq_append_getElem (show k<l.length by omega),M4,show (Z7 l ((-1:Int):Rat)).take k=(u7 l).take k from rfl,ih]
   have e1:((-1:Int):Rat)=-1:=rfl
   rw [e1];simp only;grind
 have:=key l.length (Nat.le_refl _)
 rwa [lg4 (by rw [a11];exact Nat.le_refl _),lg4 (Nat.le_refl _)] at this
structure VdP (s:f5) (g:List (Int × Rat)):Prop where
 r:f9 s=true
 p:∀t ∈ g,0≤t.2
 z:G5 s []=.best
 g:e7 (-1) ((s.n.toNat:Nat):Int) g=true
theorem VdP.og {s:f5} {g:List (Int × Rat)} (h:VdP s g):e7 (-1) ((s.n.toNat:Nat):Int) (u7 g)=true:=a3B h.g
theorem VdP.pos {s:f5} {g:List (Int × Rat)} (h:VdP s g) {z:List Rat} (hz:i7 s z=true):0≤j3 g z:=al5 (aQ0 hz) g h.p
theorem VdP.least {s:f5} {g:List (Int × Rat)} (h:VdP s g):i7 s (j1 s g)=true∧∀z,i7 s z=true→j3 g (j1 s g)≤j3 g z:=a0E h.r h.g (a63 h.r h.g h.p h.z)
theorem VdP.has {s:f5} {g:List (Int × Rat)} (h:VdP s g):i7 s (j1 s [])=true:=(a0E h.r rfl h.z).1
theorem b2p {s:f5} {g:List (Int × Rat)} (c:Nat):(zOf s.n.toNat fun j=>D8 (d6 s).length s.n.toNat (k9 s []) 1 (fun _=>0) j+D8 (d6 s).length s.n.toNat (k9 s g) 0 (fun q=>if q=c then 1 else 0) j)=a71 (j1 s []) (a5z s g c):=by
 refine List.ext_getElem? fun j=>?_
 unfold a71 j1 a5z zOf
 simp only [List.getElem?_zipWith,List.getElem?_map]
 by_cases hj:j<s.n.toNat
 ·simp [hj]
 ·simp [hj]
theorem VdP.ray {s:f5} {g:List (Int × Rat)} (h:VdP s g) {c:Nat} (hc:G5 s (u7 g)=.col c):i7 s (a71 (j1 s []) (a5z s (u7 g) c))=true∧0<j3 g (a71 (j1 s []) (a5z s (u7 g) c)):=by
 obtain ⟨h1,h2⟩:=af7 h.r h.og hc
 refine ⟨aQ5 h.has h1,?_⟩
 have h3:=S6 h.has
 have hn:=a2v h.r
 rw [ab6 (n:=s.n.toNat) (by omega) h1.len h.g]
 rw [Y2 (s:=s) (g:=g)] at h2
 have:=h.pos h.has
 grind
theorem ar0 {s:f5} {Y:List Rat} (h:an6 s (yN Y)) (hl:Y.length=s.rows.length):N8 s Y=true:=by
 unfold N8
 rw [decide_eq_true hl,Bool.true_and,List.all_eq_true]
 intro i hi
 rw [List.mem_range] at hi
 have hx:s.rows[i]? =some s.rows[i]:=lg0 hi
 obtain ⟨h1,h2⟩:=h i _ hx
 unfold sgB
 rw [F9 hx]
 simp only [Bool.not_eq_true',Bool.or_eq_false_iff,Bool.and_eq_false_iff,decide_eq_false_iff_not]
 refine ⟨?_,?_⟩
 ·by_cases h:s.rows[i].kind=0
  ·exact .inr (Rat.not_lt.2 (h1 h))
  ·exact .inl h
 ·by_cases h:s.rows[i].kind=1
  ·exact .inr (Rat.not_lt.2 (h2 h))
  ·exact .inl h
theorem b2Q {s:f5} {g:List (Int × Rat)} {Y:List Rat} {y:Nat→Rat} {v:Rat} (hr:f9 s=true) (hg:e7 (-1) ((s.n.toNat:Nat):Int) g=true) (h:aV0 s (u3 g) y v) (hl:Y.length=s.rows.length) (hY:∀i,i<s.rows.length→yN Y i=y i):U8 s g Y=true∧J4 s (yN Y)=v:=by
 have hn:=a2v hr
 have e1:∀l,C1 s (yN Y) l=C1 s y l:=fun l=>f7 fun i hi=>by rw [hY i hi]
 have e2:J4 s (yN Y)=J4 s y:=f7 fun i hi=>by rw [hY i hi]
 refine ⟨?_,by rw [e2,h.val]⟩
 unfold U8
 rw [ar0 (fun i w hw=>by rw [hY i (lg1 hw).1];exact h.sign i w hw) hl,←hn,hg,Bool.true_and,Bool.true_and,List.all_eq_true]
 intro l hl
 rw [List.mem_range] at hl
 have hl:l<s.n.toNat:=by omega
 rw [e1]
 exact decide_eq_true (h.mix l hl)
theorem aC9 {n:Nat} {y:Nat→Rat} {i:Nat} (h:i<n):yN (zOf n y) i=y i:=a50 h
theorem a3E {n:Nat} {y:Nat→Rat} {x:Rat} {i:Nat}:yN (zOf n y++[x]) i=if i<n then y i else if i=n then x else 0:=by
 unfold yN
 rw [lg3]
 by_cases h:i<n
 ·rw [if_pos h,List.getElem?_append_left (by rw [G1];exact h)]
  simp [zOf,h]
 ·rw [if_neg h,List.getElem?_append_right (by rw [G1];omega),G1]
  by_cases h2:i=n
  ·subst h2;simp
  ·rw [if_neg h2,List.getElem?_eq_none (by simp;omega)];rfl
theorem a12 {s:f5} {g:List (Int × Rat)} {i:Nat}:o7 (v6 s g) i=if i<s.rows.length then o7 s i else if i=s.rows.length then ⟨g,2,((0:Int):Rat)⟩ else ⟨[],2,0⟩:=by
 unfold o7
 rw [lg3,lg3]
 show ((s.rows++[_])[i]?).getD _=_
 by_cases h:i<s.rows.length
 ·rw [if_pos h,List.getElem?_append_left h]
 ·rw [if_neg h,List.getElem?_append_right (by omega)]
  by_cases h2:i=s.rows.length
  ·subst h2;simp
  ·rw [if_neg h2,List.getElem?_eq_none (by simp;omega)];rfl
theorem ab3 {s:f5} {g:List (Int × Rat)} {y:Nat→Rat} (f:x7→Rat):g8 (fun i=>yN (zOf s.rows.length y++[((-1:Int):Rat)]) i*f (o7 (v6 s g) i)) (v6 s g).rows.length=g8 (fun i=>y i*f (o7 s i)) s.rows.length+-(f ⟨g,2,((0:Int):Rat)⟩):=by
 have hl:(v6 s g).rows.length=s.rows.length+1:=by simp [v6]
 rw [hl]
 show g8 _ s.rows.length+yN (zOf s.rows.length y++[((-1:Int):Rat)]) s.rows.length*f (o7 (v6 s g) s.rows.length)=_
 rw [f7 (g:=fun i=>y i*f (o7 s i)) fun i hi=>by rw [a3E,if_pos hi,a12,if_pos hi]]
 rw [a3E,if_neg (by omega),if_pos rfl,a12,if_neg (by omega),if_pos rfl]
 have e1:((-1:Int):Rat)=-1:=rfl
 rw [e1];grind
theorem aQ2 {s:f5} {g:List (Int × Rat)} {y:Nat→Rat} {v:Rat} (hr:f9 s=true) (h:aV0 s (u3 g) y v) (hv:0<v):a5f (v6 s g) (zOf s.rows.length y++[((-1:Int):Rat)])=true:=by
 have hl:(v6 s g).rows.length=s.rows.length+1:=by simp [v6]
 unfold a5f U8
 have m0:J4 (v6 s g) (yN (zOf s.rows.length y++[((-1:Int):Rat)]))=v:=by
  unfold J4
  rw [ab3 (f:=x7.value),←h.val]
  show J4 s y+-((0:Int):Rat)=_
  have e1:((0:Int):Rat)=0:=rfl
  rw [e1];grind
 rw [m0,decide_eq_true hv,Bool.and_true,Bool.and_eq_true,Bool.and_eq_true]
 refine ⟨⟨ar0 (fun i w hw=>?_) (by rw [hl];simp [G1]),rfl⟩,?_⟩
 ·rw [a3E]
  have hi:=(lg1 hw).1
  rw [hl] at hi
  by_cases h2:i<s.rows.length
  ·rw [if_pos h2]
   have:(v6 s g).rows[i]? =s.rows[i]?:=List.getElem?_append_left h2
   rw [this] at hw
   exact h.sign i w hw
  ·have hi:i=s.rows.length:=by omega
   subst hi
   have:(v6 s g).rows[s.rows.length]? =some ⟨g,2,((0:Int):Rat)⟩:=by show (s.rows++[_])[s.rows.length]? =_;simp
   rw [this] at hw
   injection hw with hw
   subst hw
   exact ⟨fun (h:(2:Int)=0)=>by omega,fun (h:(2:Int)=1)=>by omega⟩
 ·rw [List.all_eq_true]
  intro l hl
  rw [List.mem_range] at hl
  refine decide_eq_true ?_
  unfold C1
  rw [ab3 (f:=fun w=>u3 w.terms l)]
  have:=h.mix l hl
  have e0:u3 ([]:List (Int × Rat)) l=0:=rfl
  show C1 s y l+-(u3 g l)≤_
  rw [e0]
  grind
theorem a7r {s:f5} {g:List (Int × Rat)} {x:List Rat} {is:Bool} (h:i7 s x=true) (h2:0<j3 g x↔is=true):a0R s g x is=true:=by
 unfold a0R
 rw [h,Bool.true_and,beq_iff_eq,Bool.eq_iff_iff,decide_eq_true_iff]
 exact h2
theorem a8g {s:f5} {g:List (Int × Rat)} (h:VdP s g) (hh:Int):a8S s g (w8 s g hh)=true:=by
 obtain ⟨h1,h2⟩:=h.least
 have hgl:e7 (-1) ((s.n.toNat:Nat):Int) (u7 g)=true:=h.og
 unfold w8
 by_cases hp:0<j3 g (j1 s g)
 ·rw [if_pos hp]
  show (decide (([]:List Rat).length=0) && a0R s g (j1 s g) true && a5f _ _)=true
  rw [show (aW9 s g hh).pr=zOf s.rows.length (y4 s (k9 s g))++[((-1:Int):Rat)] from rfl,a7r h1 (by simp [hp]),aQ2 h.r (ak7 h.r h.g (a63 h.r h.g h.p h.z)) hp]
  rfl
 ·rw [if_neg hp]
  have so:a0R s g (j1 s g) false=true:=a7r h1 (by simp [hp])
  rcases ad9 (g:=u7 g) h.r h.z with ho|⟨c,ho⟩
  ·rw [ho]
   simp only
   obtain ⟨p1,p2⟩:=a0E h.r h.og ho
   by_cases hn:j3 (u7 g) (j1 s (u7 g))<0
   ·rw [if_pos hn]
    rw [Y2 (s:=s) (g:=g)] at hn
    show (decide (([]:List Rat).length=0) && a0R s g (j1 s (u7 g)) true && a0R s g (j1 s g) false)=true
    rw [so,a7r p1 (by have:0<j3 g (j1 s (u7 g)):=by grind
                      simp [this])]
    rfl
   ·rw [if_neg hn]
    obtain ⟨b1,b2⟩:=b2Q (Y:=zOf s.rows.length (y4 s (k9 s (u7 g)))) h.r h.og (ak7 h.r h.og ho) G1 (fun i hi=>aC9 hi)
    have hz:j3 (u7 g) (j1 s (u7 g))=0:=by
     rw [Y2 (s:=s) (g:=g)] at hn ⊢
     have:=h.pos p1
     grind
    show (decide (([]:List Rat).length=0) && a0R s g (j1 s g) false && (U8 s (u7 g) _ && decide (J4 s _=0)))=true
    rw [show (a7b s g hh).pr=zOf s.rows.length (y4 s (k9 s (u7 g))) from rfl,so,b1,b2,hz]
    rfl
  ·rw [ho]
   simp only
   obtain ⟨r1,r2⟩:=h.ray ho
   show (decide (([]:List Rat).length=0) && a0R s g (a4E s g c hh).w true && a0R s g (j1 s g) false)=true
   rw [show (a4E s g c hh).w=a71 (j1 s []) (a5z s (u7 g) c) from b2p c,so,a7r r1 (by simp [r2])]
   rfl
theorem W1 {s:f5} {g:List (Int × Rat)} (h:VdP s g) (hh:Int):
 ((w8 s g hh).state=2∧(∀ z,i7 s z=true→0<j3 g z))∨((w8 s g hh).state=0∧(∀ z,i7 s z=true→j3 g z=0))∨((w8 s g hh).state=1∧(∃ z,i7 s z=true∧0<j3 g z)∧∃z,i7 s z=true∧j3 g z=0):=by
 obtain ⟨h1,h2⟩:=h.least
 unfold w8
 by_cases hp:0<j3 g (j1 s g)
 ·rw [if_pos hp]
  exact .inl ⟨rfl,fun z hz=>by have:=h2 z hz;grind⟩
 ·rw [if_neg hp]
  have hz0:j3 g (j1 s g)=0:=by have:=h.pos h1;grind
  rcases ad9 (g:=u7 g) h.r h.z with ho|⟨c,ho⟩
  ·rw [ho]
   simp only
   obtain ⟨p1,p2⟩:=a0E h.r h.og ho
   by_cases hn:j3 (u7 g) (j1 s (u7 g))<0
   ·rw [if_pos hn]
    rw [Y2 (s:=s) (g:=g)] at hn
    exact .inr (.inr ⟨rfl,⟨_,p1,by grind⟩,⟨_,h1,hz0⟩⟩)
   ·rw [if_neg hn]
    refine .inr (.inl ⟨rfl,fun z hz=>?_⟩)
    have:=p2 z hz
    rw [Y2 (s:=s) (g:=g),Y2 (s:=s) (g:=g)] at this
    rw [Y2 (s:=s) (g:=g)] at hn
    have:=h.pos p1
    have:=h.pos hz
    grind
  ·rw [ho]
   simp only
   obtain ⟨r1,r2⟩:=h.ray ho
   exact .inr (.inr ⟨rfl,⟨_,r1,r2⟩,⟨_,h1,hz0⟩⟩)
theorem a7o {s:f5} {g:List (Int × Rat)} (hh:Int):(w8 s g hh).hh=hh:=by
 unfold w8
 split
 ·rfl
 ·split
  ·rfl
  ·split<;>rfl
end
section
open Go.RowKit
def a6x (D:Fd):Fd:={ D with V:=fun _=>0 }
theorem a1x {m n:Nat} {D:Fd} {y:Nat→Rat} {c:Rat}:Ids m n (a6x D) y c↔Ids m n D y 0:=by
 constructor
 ·intro h i hi
  have h1:y (D.O i)=c*0 - g8 (fun j=>D.A i j*y (D.F j)) n:=h i hi
  show y (D.O i)=0*D.V i - g8 (fun j=>D.A i j*y (D.F j)) n
  rw [h1];grind
 ·intro h i hi
  have h1:y (D.O i)=0*D.V i - g8 (fun j=>D.A i j*y (D.F j)) n:=h i hi
  show y (D.O i)=c*0 - g8 (fun j=>D.A i j*y (D.F j)) n
  rw [h1];grind
theorem a7I {m n:Nat} {D:Fd} (h:O8 m n D):O8 m n (a6x D):=⟨h.oi,h.fi,h.of,h.all,h.ob,h.fb⟩
theorem a6U {s:f5} {g:List (Int × Rat)} {B:Nat} (hI:∀w ∈ s.rows,a38 B w):a4e (d6 s).length s.n.toNat 1 (a6x (g7 s g)) where
 o:=fun i _=>rfl
 f:=fun j _=>rfl
 w:=fun i hi=>by
  obtain ⟨f,hf⟩:∃f,(d6 s)[i]? =some f:=⟨_,lg0 hi⟩
  obtain ⟨x,hx,_⟩:=V8.1 (lg2 hf)
  obtain ⟨h1,h2⟩:=hI x (lg2 hx)
  have hfd:(d6 s).getD i (0,false)=f:=by rw [lg3,hf];rfl
  have eA:∀j,(g7 s g).A i j=O3 f.2 (u3 x.terms j):=fun j=>by show a16 s ((d6 s).getD i (0,false)) j=_;rw [hfd];unfold a16;rw [hx]
  have hc:∀j,∃c:Int,(g7 s g).A i j=((c:Int):Rat)∧bl c≤1:=fun j=>by
   obtain ⟨c,hc,hb⟩:=a0z h1 x.terms.length j
   obtain ⟨c',hc',hb'⟩:=aK9 (b:=f.2) (x:=u3 x.terms j) hc
   exact ⟨c',by rw [eA,hc'],by omega⟩
  refine ⟨1,0,fun j=>Classical.choose (hc j),by decide,p8 (by decide) (by decide),p8 (by decide) (by decide),fun j hj=>(Classical.choose_spec (hc j)).2,?_,fun j hj=>?_⟩
  ·have e0:((0:Int):Rat)=0:=rfl
   have e1:((1:Int):Rat)=1:=rfl
   show ((1:Int):Rat)*0=((0:Int):Rat)
   rw [e0,e1];grind
  ·show ((1:Int):Rat)*(g7 s g).A i j=((Classical.choose (hc j):Int):Rat)
   have hs:=(Classical.choose_spec (hc j)).1
   generalize Classical.choose (hc j)=x at hs
   rw [hs]
   have h1:((1:Int):Rat)=1:=rfl
   rw [h1];grind
theorem b1N {s:f5} {g:List (Int × Rat)} {B:Nat} (hI:∀w ∈ s.rows,a38 B w) {i j:Nat} (hi:i<(d6 s).length) (hj:j<s.n.toNat):rl ((k9 s g).A i j)≤2 ^ s.n.toNat*3:=by
 have inv:=G8 (s:=s) (g:=g)
 exact aK8 (D:=a6x (k9 s g)) (a6U (g:=g) hI) (by decide) (a7I inv.p) (fun y c=>by rw [a1x,a1x];exact inv.i y 0) hi hj
theorem aF5 {s:f5} {g:List (Int × Rat)} {B:Nat} (hI:∀w ∈ s.rows,a38 B w) (hg:D4 g) {j:Nat} (hj:j<s.n.toNat):rl ((k9 s g).G j)≤2 ^ s.n.toNat*3:=by
 have inv:=G8 (s:=s) (g:=g)
 obtain ⟨z,hz⟩:=inv.g
 have hc:∀j,∃c:Int,u3 g j=((c:Int):Rat)∧bl c≤1:=fun j=>a0z hg g.length j
 have hz0:W5 s.n.toNat (a6x (k9 s g)) (fun j=>-(u3 g j)) (d6 s).length 0:=fun y c hy=>by
  have:=hz y 0 (a1x.1 hy)
  rw [this]
  show 0*z+_=c*0+_
  have e:g8 (fun j=>(a6x (k9 s g)).G j*y ((a6x (k9 s g)).F j)) s.n.toNat=g8 (fun j=>(k9 s g).G j*y ((k9 s g).F j)) s.n.toNat:=rfl
  rw [e];grind
 refine aH4 (D:=a6x (k9 s g)) (a6U (g:=g) hI) (by decide) (a7I inv.p) (fun y c=>by rw [a1x,a1x];exact inv.i y 0) hz0 (q:=1) (b:=fun l=>-(Classical.choose (hc l))) (by decide) (p8 (by decide) (by decide)) (fun l hl=>?_) (fun l hl=>?_) hj
 ·have:=(Classical.choose_spec (hc l)).2
  show bl (-(Classical.choose (hc l)))≤_
  rw [a2b];omega
 ·have hs:=(Classical.choose_spec (hc l)).1
  show ((1:Int):Rat)*-(u3 g l)=((-(Classical.choose (hc l)):Int):Rat)
  generalize Classical.choose (hc l)=x at hs ⊢
  rw [hs]
  have e:((-x:Int):Rat)=-((x:Int):Rat):=by push_cast;rfl
  rw [e]
  have h1:((1:Int):Rat)=1:=rfl
  rw [h1];grind
theorem aB1 {f:Nat→Rat} {C:Nat}:∀n:Nat,(∀ j,j<n→rl (f j)≤C)→rl (g8 f n)≤n*(C+1)+1
 |0,_=>by have:=rl0;show rl 0≤_;omega
 |n+1,h=>by
  have ih:=aB1 n fun j hj=>h j (by omega)
  have h1:=h n (by omega)
  have h2:=Z5 (g8 f n) (f n)
  have e:(n+1)*(C+1)=n*(C+1)+(C+1):=by rw [Nat.add_mul,Nat.one_mul]
  show rl (g8 f n+f n)≤_
  omega
theorem b1W {s:f5} {g:List (Int × Rat)} {B c:Nat} (hI:∀w ∈ s.rows,a38 B w) (hc:c<s.n.toNat) {j:Nat} (hj:j<s.n.toNat):rl (D8 (d6 s).length s.n.toNat (k9 s g) 0 (fun q=>if q=c then 1 else 0) j)≤2 ^ s.n.toNat*3:=by
 have hp:O8 (d6 s).length s.n.toNat (k9 s g):=G8.p
 have h2:1≤2 ^ s.n.toNat:=Nat.one_le_two_pow
 rw [← ah1 hp hc hj]
 have key:∀k,k≤(d6 s).length→rl (ptK s.n.toNat (k9 s g).O (fun i=>-((k9 s g).A i c)) (fun j=>if (k9 s g).F c<s.n.toNat∧j=(k9 s g).F c then 1 else 0) k j)≤2 ^ s.n.toNat*3:=by
  intro k
  induction k with
  |zero=>
   intro _
   have:=rl0;have:=rl1
   show rl (if _ then (1:Rat) else 0)≤_
   split<;>omega
  |succ k ih=>
   intro hk
   rw [L5]
   simp only
   split
   ·rw [M9];exact b1N hI (by omega) hc
   ·exact ih (by omega)
 exact key _ (Nat.le_refl _)
theorem aM9 {k a:Nat} (v:Rat) (c:Nat→Rat):g8 (fun i=>(if a=i then v else 0)*c i) k=if a<k then v*c a else 0:=by
 by_cases h:a<k
 ·rw [if_pos h,a34 h]
 ·rw [if_neg h]
  exact u6 fun i hi=>by rw [if_neg (by omega)];grind
theorem b0d {s:f5} {w k:Nat} (p:Rat) (c:Nat→Rat) {P C:Nat} (hp:rl p≤P) (hc:∀i,rl (c i)≤C):rl (g8 (fun i=>chg s w p i*c i) k)≤P+C+1:=by
 by_cases h:s.n.toNat≤w
 ·rw [f7 (g:=fun i=>(if (z5 s (w - s.n.toNat)).1=i then -(O3 (z5 s (w - s.n.toNat)).2 p) else 0)*c i) fun i hi=>by
   unfold chg
   by_cases h2:(z5 s (w - s.n.toNat)).1=i
   ·rw [if_pos ⟨h,h2⟩,if_pos h2]
   ·rw [if_neg (fun e=>h2 e.2),if_neg h2]]
  rw [aM9]
  split
  ·have h1:=a1f (-(O3 (z5 s (w - s.n.toNat)).2 p)) (c (z5 s (w - s.n.toNat)).1)
   have h2:=hc (z5 s (w - s.n.toNat)).1
   have h3:rl (-(O3 (z5 s (w - s.n.toNat)).2 p))≤P:=by
    rw [M9]
    cases (z5 s (w - s.n.toNat)).2 with
    |false=>exact hp
    |true=>show rl (-p)≤P;rw [M9];exact hp
   omega
  ·have:=rl0;omega
 ·rw [u6 fun i hi=>by unfold chg;rw [if_neg (fun e=>h e.1)];grind]
  have:=rl0;omega
theorem a8D {s:f5} {g:List (Int × Rat)} {B C:Nat} (hI:∀w ∈ s.rows,a38 B w) (hg:D4 g) (c:Nat→Rat) (hc:∀i,rl (c i)≤C) (k:Nat):
 rl (g8 (fun i=>y4 s (k9 s g) i*c i) k)≤s.n.toNat*(2 ^ s.n.toNat*3+C+2)+1:=by
 have e:g8 (fun i=>y4 s (k9 s g) i*c i) k=g8 (fun j=>g8 (fun i=>chg s ((k9 s g).F j) (-((k9 s g).G j)) i*c i) k) s.n.toNat:=a5b (s:=s)
 rw [e]
 exact aB1 _ fun j hj=>b0d _ c (by rw [M9];exact aF5 hI hg hj) hc
theorem aT3 {s:f5} {g:List (Int × Rat)} {B:Nat} (hI:∀w ∈ s.rows,a38 B w) (hg:D4 g) (i:Nat):rl (y4 s (k9 s g) i)≤s.n.toNat*(2 ^ s.n.toNat*3+1)+1:=by
 refine aB1 _ fun j hj=>?_
 have h:=aF5 (g:=g) hI hg hj
 unfold chg
 split
 ·rw [M9]
  cases (z5 s ((k9 s g).F j - s.n.toNat)).2 with
  |false=>show rl (-((k9 s g).G j))≤_;rw [M9];exact h
  |true=>show rl (- -((k9 s g).G j))≤_;rw [M9,M9];exact h
 ·have:=rl0
  have h2:1≤2 ^ s.n.toNat:=Nat.one_le_two_pow
  omega
theorem as0 {l:List (Int × Rat)} (h:D4 l) (v:Nat):rl (u3 l v)≤1:=by
 obtain ⟨c,hc,hb⟩:=a0z h l.length v
 have e:u3 l v=((c:Int):Rat):=hc
 rw [e,R9]
 have:=p8 (x:=1) (by decide) (by decide)
 omega
theorem aH5 {s:f5} {B:Nat} (hI:∀w ∈ s.rows,a38 B w) (hB:1≤B) (i:Nat):D4 (o7 s i).terms∧rl (o7 s i).value≤B:=by
 by_cases h:i<s.rows.length
 ·have hx:s.rows[i]? =some s.rows[i]:=lg0 h
  rw [F9 hx]
  exact hI _ (List.getElem_mem _)
 ·have e:o7 s i=⟨[],2,0⟩:=by unfold o7;rw [lg3,List.getElem?_eq_none (by omega)];rfl
  rw [e]
  exact ⟨fun (t:Int × Rat) (ht:t ∈ [])=>by simp at ht,by have:=rl0;show rl 0≤B;omega⟩
theorem aW8 {s:f5} {g:List (Int × Rat)} (c:Nat→Rat) (k:Nat):g8 (fun i=>yN (zOf s.rows.length (y4 s (k9 s g))) i*c i) k=g8 (fun i=>y4 s (k9 s g) i*(if i<s.rows.length then c i else 0)) k:=f7 fun i hi=>by
 by_cases h:i<s.rows.length
 ·rw [aC9 h,if_pos h]
 ·have:yN (zOf s.rows.length (y4 s (k9 s g))) i=0:=by unfold yN;rw [lg3,List.getElem?_eq_none (by rw [G1];omega)];rfl
  rw [this,if_neg h];grind
theorem a89:∀n,n<9→n*(2 ^ n*3+11+2)+1≤40000∧n*(2 ^ n*3+1)+1≤40000∧n*(2 ^ n*3+1+2)+1≤40000:=by decide
theorem b0Z {s:f5} {g:List (Int × Rat)} (hI:∀w ∈ s.rows,a38 11 w) (hg:D4 g) (hn:s.n.toNat≤8) (l k:Nat):rl (K3 s (yN (zOf s.rows.length (y4 s (k9 s g)))) l k)≤40000:=by
 obtain ⟨p1,p2,p3⟩:=a89 s.n.toNat (by omega)
 unfold K3
 rw [aW8]
 have:=a8D hI hg (C:=1) (fun i=>if i<s.rows.length then u3 (o7 s i).terms l else 0) (fun i=>by
  split
  ·exact as0 (aH5 hI (by decide) i).1 l
  ·exact rl0) k
 omega
theorem b0S {s:f5} {g:List (Int × Rat)} (hI:∀w ∈ s.rows,a38 11 w) (hg:D4 g) (hn:s.n.toNat≤8) (k:Nat):rl (Q1 s (yN (zOf s.rows.length (y4 s (k9 s g)))) k)≤40000:=by
 obtain ⟨p1,p2,p3⟩:=a89 s.n.toNat (by omega)
 unfold Q1
 rw [aW8]
 have:=a8D hI hg (C:=11) (fun i=>if i<s.rows.length then (o7 s i).value else 0) (fun i=>by
  split
  ·exact (aH5 hI (by decide) i).2
  ·have:=rl0;omega) k
 omega
theorem aU7 {s:f5} {g:List (Int × Rat)} (hI:∀w ∈ s.rows,a38 11 w) (hg:D4 g) (hn:s.n.toNat≤8):∀v ∈ zOf s.rows.length (y4 s (k9 s g)),rl v≤40000:=by
 intro v hv
 obtain ⟨p1,p2,p3⟩:=a89 s.n.toNat (by omega)
 obtain ⟨j,hj,rfl⟩:=a4P hv
 have:=aT3 hI hg j
 omega
theorem aS0 {s:f5} {g:List (Int × Rat)} (hI:∀w ∈ s.rows,a38 11 w) (hg:D4 g) (hn:s.n.toNat≤8) (hm:s.rows.length≤1000000):a4u s (zOf s.rows.length (y4 s (k9 s g))):=
 ⟨aU7 hI hg hn,fun l k=>Nat.le_trans (b0Z hI hg hn l k) (by decide),fun k=>Nat.le_trans (b0S hI hg hn k) (by decide),G1,hm⟩
theorem b3g:rl ((-1:Int):Rat)≤1:=by rw [R9];exact p8 (x:=-1) (by decide) (by decide)
theorem aw9 {s:f5} {g:List (Int × Rat)} (hI:∀w ∈ s.rows,a38 11 w) (hg:D4 g) (hn:s.n.toNat≤8) (hm:s.rows.length≤100000):a4u (v6 s g) (zOf s.rows.length (y4 s (k9 s g))++[((-1:Int):Rat)]):=by
 have hl:(v6 s g).rows.length=s.rows.length+1:=by simp [v6]
 have step:∀(f:x7→Rat) (C:Nat),(∀ k,rl (g8 (fun i=>yN (zOf s.rows.length (y4 s (k9 s g))) i*f (o7 s i)) k)≤C)→rl (f ⟨g,2,((0:Int):Rat)⟩)≤1→∀k,rl (g8 (fun i=>yN (zOf s.rows.length (y4 s (k9 s g))++[((-1:Int):Rat)]) i*f (o7 (v6 s g) i)) k)≤C+3:=by
  intro f C hC h1 k
  have lo:∀k,k≤s.rows.length→g8 (fun i=>yN (zOf s.rows.length (y4 s (k9 s g))++[((-1:Int):Rat)]) i*f (o7 (v6 s g) i)) k=g8 (fun i=>yN (zOf s.rows.length (y4 s (k9 s g))) i*f (o7 s i)) k:=fun k hk=>f7 fun i hi=>by
   rw [a3E,if_pos (by omega),a12,if_pos (by omega),aC9 (by omega)]
  induction k with
  |zero=>rw [lo 0 (by omega)];have:=hC 0;omega
  |succ k ih=>
   by_cases hk:k<s.rows.length
   ·rw [lo (k+1) (by omega)];have:=hC (k+1);omega
   ·by_cases he:k=s.rows.length
    ·subst he
     show rl (g8 _ s.rows.length+yN (zOf s.rows.length (y4 s (k9 s g))++[((-1:Int):Rat)]) s.rows.length*f (o7 (v6 s g) s.rows.length))≤_
     rw [lo _ (Nat.le_refl _),a3E,if_neg (by omega),if_pos rfl,a12,if_neg (by omega),if_pos rfl]
     have a1:=hC s.rows.length
     have a2:=a1f ((-1:Int):Rat) (f ⟨g,2,((0:Int):Rat)⟩)
     have a3:=b3g
     have a4:=Z5 (g8 (fun i=>yN (zOf s.rows.length (y4 s (k9 s g))) i*f (o7 s i)) s.rows.length) (((-1:Int):Rat)*f ⟨g,2,((0:Int):Rat)⟩)
     omega
    ·have e:yN (zOf s.rows.length (y4 s (k9 s g))++[((-1:Int):Rat)]) k=0:=by rw [a3E,if_neg hk,if_neg he]
     show rl (g8 _ k+yN (zOf s.rows.length (y4 s (k9 s g))++[((-1:Int):Rat)]) k*f (o7 (v6 s g) k))≤_
     rw [e]
     have e2:∀x y:Rat,x+0*y=x:=fun x y=>by grind
     rw [e2]
     exact ih
 refine ⟨fun v hv=>?_,fun l k=>?_,fun k=>?_,by rw [hl];simp [G1],by omega⟩
 ·rcases List.mem_append.1 hv with h1|h1
  ·exact aU7 hI hg hn v h1
  ·have h1:v=((-1:Int):Rat):=List.mem_singleton.1 h1
   subst h1;have:=b3g;omega
 ·exact Nat.le_trans (step (fun w=>u3 w.terms l) 40000 (fun k=>b0Z hI hg hn l k) (as0 hg l) k) (by decide)
 ·exact Nat.le_trans (step x7.value 40000 (fun k=>b0S hI hg hn k) rl0 k) (by decide)
theorem ae2 {s:f5} {x:List Rat} {B:Nat} (hr:f9 s=true) (hI:∀w ∈ s.rows,a38 11 w) (hB:B≤40000) (hn:s.n.toNat*(B+4)+1≤50000) (hl:x.length≤1000000) (hx:∀v ∈ x,rl v≤B):PtB s x:=by
 refine ⟨fun v hv=>Nat.le_trans (hx v hv) hB,fun w hw k=>?_,hl⟩
 obtain ⟨i,hi,rfl⟩:=List.getElem_of_mem hw
 have hrt:=(a0e hr (lg0 hi)).1
 have h1:=a37 (P8 (hI _ hw).1) hx k
 have h2:=w6 hrt
 have h3:s.rows[i].terms.length≤s.n.toNat:=by omega
 have h4:=Nat.mul_le_mul_right (B+4) h3
 omega
theorem ap9 {n B:Nat} {g:List (Int × Rat)} {x:List Rat} (hg:e7 (-1) ((n:Nat):Int) g=true) (hw:D4 g) (hn:n*(B+4)+1≤50000) (hx:∀v ∈ x,rl v≤B) (k:Nat):rl (j3 (g.take k) x)≤50000:=by
 have h1:=a37 (P8 hw) hx k
 have h2:=w6 hg
 have h3:g.length≤n:=by omega
 have h4:=Nat.mul_le_mul_right (B+4) h3
 omega
theorem b30:∀n,n<9→n*(2 ^ n*15+4)+1≤50000∧n*(2 ^ n*15+2 ^ n*3+1+4)+1≤50000∧2 ^ n*15+2 ^ n*3+1≤40000:=by decide
set_option maxHeartbeats 1000000 in
theorem aX6 {t:l9} {kind:Int} (ht:p6 t=0) (hm:t.ev.moves.length≤8) {g:List (Int × Rat)} (hg:e7 (-1) (t.ev.moves.length:Nat) g=true) (hw:D4 g) (hz:G5 (e8 t kind) []=.best) (hh:Int):b3t (e8 t kind) g (w8 (e8 t kind) g hh):=by
 have p:=w5 (kind:=kind) ht hm hg hw
 have q:=w5 (kind:=kind) ht hm (a3B hg) (a3C hw)
 have z:=w5 (kind:=kind) ht hm (g:=[]) rfl (fun t ht=>by cases ht)
 obtain ⟨b1,b2,b3⟩:=b30 t.ev.moves.length (by omega)
 have hI:=b0J (kind:=kind) ht
 have hn:(e8 t kind).n.toNat=t.ev.moves.length:=rfl
 have hr:=p.o.r
 have hR:=p.r
 have pb:=a1y p
 have qb:=a1y q
 have zb:=a1y z
 have e0:PtB (e8 t kind) []:=⟨fun v hv=>(by cases hv),fun w hw k=>(by
  have h:=a37 (B:=1) (z:=[]) (P8 (hI w hw).1) (fun v hv=>by cases hv) k
  obtain ⟨i,hi,rfl⟩:=List.getElem_of_mem hw
  have h2:=w6 (a0e hr (lg0 hi)).1
  have h3:(e8 t kind).rows[i].terms.length≤8:=by omega
  have h4:=Nat.mul_le_mul_right (1+4) h3
  omega),by decide⟩
 have g0:∀k,rl (j3 (g.take k) [])≤50000:=fun k=>ap9 (B:=1) hg hw (by omega) (fun v hv=>by cases hv) k
 have ptp:PtB (e8 t kind) (j1 (e8 t kind) g):=ae2 hr hI (B:=2 ^ t.ev.moves.length*15) (by omega) b1 (by unfold j1;rw [G1];omega) pb
 have ptq:PtB (e8 t kind) (j1 (e8 t kind) (u7 g)):=ae2 hr hI (B:=2 ^ t.ev.moves.length*15) (by omega) b1 (by unfold j1;rw [G1];omega) qb
 have gp:=ap9 hg hw b1 pb
 have gq:=ap9 hg hw b1 qb
 have m0:a4u (e8 t kind) (zOf (e8 t kind).rows.length (y4 (e8 t kind) (k9 (e8 t kind) (u7 g)))):=aS0 hI (a3C hw) (by omega) (by omega)
 have m1:=aw9 hI hw (by omega) (show (e8 t kind).rows.length≤100000 by omega)
 have hl:(v6 (e8 t kind) g).rows.length=(e8 t kind).rows.length+1:=by simp [v6]
 have nilm:∀s':f5,s'.rows.length≤1000000→([]:List Rat).length=s'.rows.length→a4u s' []:=fun s' h1 h2=>⟨fun v hv=>(by cases hv),fun l k=>(by
  have h2:s'.rows.length=0:=by simpa using h2.symm
  have e:K3 s' (yN []) l k=0:=u6 fun i hi=>by show (0:Rat)*_=0;grind
  rw [e];have:=rl0;omega),fun k=>(by
  have e:Q1 s' (yN []) k=0:=u6 fun i hi=>by show (0:Rat)*_=0;grind
  rw [e];have:=rl0;omega),h2,h1⟩
 unfold w8
 split
 ·exact ⟨ptp,e0,gp,g0,m1.y,by show (zOf _ _++_).length≤_;simp [G1];omega,fun _=>m1,fun h=>by
   have:(zOf (e8 t kind).rows.length (y4 (e8 t kind) (k9 (e8 t kind) g))++[((-1:Int):Rat)]).length=(e8 t kind).rows.length:=h
   simp [G1] at this⟩
 ·split
  ·rename_i c hc
   have hcn:c<(e8 t kind).n.toNat:=(a5B hc).1
   have rb:∀v ∈ (a4E (e8 t kind) g c hh).w,rl v≤2 ^ t.ev.moves.length*15+2 ^ t.ev.moves.length*3+1:=fun v hv=>by
    obtain ⟨j,hj,rfl⟩:=a4P hv
    have h1:rl (D8 (d6 (e8 t kind)).length (e8 t kind).n.toNat (k9 (e8 t kind) []) 1 (fun _=>0) j)≤2 ^ t.ev.moves.length*15:=zb _ (List.mem_map.2 ⟨j,List.mem_range.2 hj,rfl⟩)
    have h2:rl (D8 (d6 (e8 t kind)).length (e8 t kind).n.toNat (k9 (e8 t kind) (u7 g)) 0 (fun q=>if q=c then 1 else 0) j)≤2 ^ t.ev.moves.length*3:=b1W hI hcn hj
    have h3:=Z5 (D8 (d6 (e8 t kind)).length (e8 t kind).n.toNat (k9 (e8 t kind) []) 1 (fun _=>0) j) (D8 (d6 (e8 t kind)).length (e8 t kind).n.toNat (k9 (e8 t kind) (u7 g)) 0 (fun q=>if q=c then 1 else 0) j)
    omega
   exact ⟨ae2 hr hI b3 b2 (by show (zOf _ _).length≤_;rw [G1];omega) rb,ptp,ap9 hg hw b2 rb,gp,fun v hv=>(by cases hv),(by show (0:Nat)≤1000000;decide),fun h=>nilm _ (by omega) h,fun h=>nilm _ (by omega) h⟩
  ·split
   ·exact ⟨ptq,ptp,gq,gp,fun v hv=>(by cases hv),(by show (0:Nat)≤1000000;decide),fun h=>nilm _ (by omega) h,fun h=>nilm _ (by omega) h⟩
   ·exact ⟨e0,ptp,g0,gp,m0.y,by show (zOf _ _).length≤_;rw [G1];omega,fun h=>by
     have h:(zOf (e8 t kind).rows.length (y4 (e8 t kind) (k9 (e8 t kind) (u7 g)))).length=(v6 (e8 t kind) g).rows.length:=h
     rw [G1,hl] at h
     omega,fun _=>m0⟩
end
section
open Go.RowKit
def D7 (f:List T1) (c:List K2):l9:=⟨⟨1,2,0,[⟨0,0,0⟩,⟨0,1,0⟩,⟨1,-1,-1⟩,⟨6,-1,-1⟩],[⟨0,0,2,-1,0,false⟩,⟨0,1,2,-1,0,false⟩,⟨0,2,3,-1,0,true⟩],[],[],[]⟩,f,c⟩
abbrev b3S:S:=.c (.t (.sl 0 .nil []))
theorem aS2:b9 Tryz.prog 56 [b3S,b3S] [] (trS (D7 [] [])) []:=by
 (refine a8 a7 Tryz.func56 rfl (by decide) ?_;(conv=>whnf);repeat (refine zy ?_;conv=>whnf))
 repeat' first|(refine zd ?_ ?_<;>intro h<;>first|exact zc h|(exfalso;omega)|conv=>whnf)|((first|refine zz ?_|refine a3i.weak ?_|refine zy ?_);conv=>whnf)
 exact j5 ⟨rfl,rfl,rfl,rfl,rfl,rfl,rfl,rfl,rfl,rfl,trivial⟩
theorem aO3 (f:List T1):b9 Tryz.prog 56 [.c (.t (.sl 3 .full (f.map T1.row))),b3S] [] (trS (D7 f [])) []:=by
 (refine a8 a7 Tryz.func56 rfl (by decide) ?_;(conv=>whnf);repeat (refine zy ?_;conv=>whnf))
 repeat' first|(refine zd ?_ ?_<;>intro h<;>first|exact zc h|(exfalso;omega)|conv=>whnf)|((first|refine zz ?_|refine a3i.weak ?_|refine zy ?_);conv=>whnf)
 exact j5 ⟨rfl,rfl,rfl,rfl,rfl,rfl,rfl,rfl,rfl,rfl,trivial⟩
theorem a9h (f:List T1) (c:List K2):b9 Tryz.prog 56 [.c (.t (.sl 3 .full (f.map T1.row))),.c (.t (.sl 2 .full (c.map K2.row)))] [] (trS (D7 f c)) []:=by
 (refine a8 a7 Tryz.func56 rfl (by decide) ?_;(conv=>whnf);repeat (refine zy ?_;conv=>whnf))
 repeat' first|(refine zd ?_ ?_<;>intro h<;>first|exact zc h|(exfalso;omega)|conv=>whnf)|((first|refine zz ?_|refine a3i.weak ?_|refine zy ?_);conv=>whnf)
 exact j5 ⟨rfl,rfl,rfl,rfl,rfl,rfl,rfl,rfl,rfl,rfl,trivial⟩
structure ExP (t:l9) (kind:Int) (n:Nat):Prop where
 s:t.Sized
 e:p6 t=0
 k0:0≤kind
 k1:kind<8
 m:t.ev.moves.length≤8
 h:t.ev.hhs=(n:Nat)
 z:G5 (e8 t kind) []=.best
theorem ExP.vd {t:l9} {kind:Int} {n:Nat} (h:ExP t kind n) (hh:Int):VdP (e8 t kind) (o9 t hh):=by
 have p:=w5 (kind:=kind) h.e h.m (g:=[]) rfl (fun t ht=>by cases ht)
 exact ⟨p.o.r,a9z t hh,h.z,K7 t hh⟩
theorem b1l {t:l9} {kind:Int} (ht:p6 t=0) (hm:t.ev.moves.length≤8) {z:List Rat} (hz:i7 (e8 t kind) z=true):G5 (e8 t kind) []=.best:=by
 have p:=w5 (kind:=kind) ht hm (g:=[]) rfl (fun t ht=>by cases ht)
 rcases ah0 p.o.r with h|⟨r,h⟩
 ·exact h
 ·rw [a7h h z] at hz;cases hz
theorem b3E {t:l9} {kind:Int} (ht:p6 t=0) (hm:t.ev.moves.length≤8) (hz:∀z,i7 (e8 t kind) z=false):∃r,G5 (e8 t kind) []=.row r:=by
 have p:=w5 (kind:=kind) ht hm (g:=[]) rfl (fun t ht=>by cases ht)
 rcases ah0 p.o.r with h|h
 ·have:=(a0E p.o.r rfl h).1
  rw [hz] at this;cases this
 ·exact h
theorem a6C {t:l9} {kind:Int} {n:Nat} (h:ExP t kind n) (i:Nat) (hi:i<n):b9 Tryz.prog 31 [trS t,a9 .i64 kind,av7 (w8 (e8 t kind) (o9 t (i:Int)) (i:Int))] [] (e6 true) []:=by
 have p:=w5 (kind:=kind) h.e h.m (g:=[]) rfl (fun t ht=>by cases ht)
 have e:(w8 (e8 t kind) (o9 t (i:Int)) (i:Int)).hh=i:=a7o _
 have hn:=h.h
 have r:=aU0 t kind h.s h.e h.k0 h.k1 (w8 (e8 t kind) (o9 t (i:Int)) (i:Int)) (by rw [e];omega) (by rw [e];omega) (by have:=h.m;omega) (by have:=p.r;omega) p.sb p.o.r
  (by rw [e];exact aX6 h.e h.m (K7 t _) (S2 t _) h.z _)
 rw [e,a8g (h.vd _)] at r
 exact r
set_option maxHeartbeats 2000000 in
theorem aT0 {t:l9} (h:ExP t 0 2) (a b:Int) (ha:(w8 (e8 t 0) (o9 t ((0:Nat):Int)) ((0:Nat):Int)).state=a) (hb:(w8 (e8 t 0) (o9 t ((1:Nat):Int)) ((1:Nat):Int)).state=b):
 b9 Tryz.prog 55 [trS t,a9 .i64 a,a9 .i64 b] [] (e6 true) []:=by
 have ve:=a47 t 0 h.s h.e h.k0 h.k1 h.m 2 h.h (by decide) h.z
 have c0:=a6C h 0 (by decide)
 have c1:=a6C h 1 (by decide)
 have e:K0 t 0 2=[w8 (e8 t 0) (o9 t ((0:Nat):Int)) ((0:Nat):Int),w8 (e8 t 0) (o9 t ((1:Nat):Int)) ((1:Nat):Int)]:=rfl
 rw [e] at ve
 generalize w8 (e8 t 0) (o9 t ((0:Nat):Int)) ((0:Nat):Int)=v0 at ve c0 ha
 generalize w8 (e8 t 0) (o9 t ((1:Nat):Int)) ((1:Nat):Int)=v1 at ve c1 hb
 have g0:[v0,v1][0]? =some v0:=rfl
 have g1:[v0,v1][1]? =some v1:=rfl
 have z0:(0:Int)=((0:Nat):Int):=rfl
 have z1:(1:Int)=((1:Nat):Int):=rfl
 (refine a8 a7 Tryz.func55 rfl (by decide) ?_;(conv=>whnf);repeat ((first|refine b0x ?_|refine zy ?_);conv=>whnf))
 repeat' first|(refine zd ?_ ?_<;>intro h<;>first|exact zc h|(exfalso;omega)|conv=>whnf)|((first|refine zz ?_|refine qp ve ?_|refine qp c0 ?_|refine qp c1 ?_|refine qp 5 ?_|refine bl0 [5] ?_|refine x3 z0 g0 ?_|refine x3 z1 g1 ?_|refine zy ?_);conv=>whnf)
 all_goals first
  |(exfalso;omega)
  |(exfalso;contradiction)
  |exact c6 rfl
theorem a0H (f:List T1) (c:List K2) (hf:f.length≤10) (hc:c.length≤10):(D7 f c).Sized:=⟨⟨by simp [D7],by simp [D7],by simp [D7],by simp [D7],by simp [D7]⟩,by simp [D7];omega,by simp [D7];omega⟩
def f22:List T1:=[⟨2,0,5⟩]
def aQ7:List T1:=[⟨1,0,5⟩]
def c22:List K2:=[⟨1,0⟩]
def zI (l:List Int):List Rat:=l.map fun x=>((x:Int):Rat)
theorem aD2 {f:List T1} {c:List K2} (hf:f.length≤10) (hc:c.length≤10) (ht:p6 (D7 f c)=0) {z:List Rat} (hz:i7 (e8 (D7 f c) 0) z=true):ExP (D7 f c) 0 2:=
 ⟨a0H f c hf hc,ht,by decide,by decide,by simp [D7],rfl,b1l ht (by simp [D7]) hz⟩
theorem aj7 {t:l9} {kind:Int} {n:Nat} (h:ExP t kind n) (i:Nat) {z y:List Rat} (hz:i7 (e8 t kind) z=true) (hy:i7 (e8 t kind) y=true) (h1:j3 (o9 t (i:Int)) z≠0) (h0:¬0<j3 (o9 t (i:Int)) y):(w8 (e8 t kind) (o9 t (i:Int)) (i:Int)).state=1:=by
 rcases W1 (h.vd (i:Int)) (i:Int) with ⟨_,h2⟩|⟨_,h2⟩|⟨h2,_⟩
 ·exact absurd (h2 y hy) h0
 ·exact absurd (h2 z hz) h1
 ·exact h2
theorem b1n {t:l9} {kind:Int} {n:Nat} (h:ExP t kind n) (i:Nat) (hA:∀z,i7 (e8 t kind) z=true→0<j3 (o9 t (i:Int)) z):(w8 (e8 t kind) (o9 t (i:Int)) (i:Int)).state=2:=by
 rcases W1 (h.vd (i:Int)) (i:Int) with ⟨h2,_⟩|⟨_,h2⟩|⟨_,_,y,h3,h4⟩
 ·exact h2
 ·have h3:=(h.vd (i:Int)).has
  have:=hA _ h3
  rw [h2 _ h3] at this
  exact absurd this (by decide +kernel)
 ·have:=hA _ h3
  rw [h4] at this
  exact absurd this (by decide +kernel)
theorem b4P {t:l9} {kind:Int} {n:Nat} (h:ExP t kind n) (i:Nat) (hA:∀z,i7 (e8 t kind) z=true→j3 (o9 t (i:Int)) z=0):(w8 (e8 t kind) (o9 t (i:Int)) (i:Int)).state=0:=by
 rcases W1 (h.vd (i:Int)) (i:Int) with ⟨_,h2⟩|⟨h2,_⟩|⟨_,⟨y,h3,h4⟩,_⟩
 ·have h3:=(h.vd (i:Int)).has
  have:=h2 _ h3
  rw [hA _ h3] at this
  exact absurd this (by decide +kernel)
 ·exact h2
 ·rw [hA _ h3] at h4
  exact absurd h4 (by decide +kernel)
theorem aT8:ExP (D7 f22 []) 0 2:=aD2 (by decide) (by decide) (by decide +kernel) (z:=zI [5,0,5]) (by decide +kernel)
theorem b0e:ExP (D7 f22 c22) 0 2:=aD2 (by decide) (by decide) (by decide +kernel) (z:=zI [5,0,5]) (by decide +kernel)
theorem b0A:ExP (D7 [] []) 0 2:=aD2 (by decide) (by decide) (by decide +kernel) (z:=zI [1,0,1]) (by decide +kernel)
theorem b5U:(w8 (e8 (D7 f22 []) 0) (o9 (D7 f22 []) ((0:Nat):Int)) ((0:Nat):Int)).state=1:=aj7 aT8 0 (z:=zI [5,0,5]) (y:=zI [0,5,5]) (by decide +kernel) (by decide +kernel) (by decide +kernel) (by decide +kernel)
theorem b4U:(w8 (e8 (D7 f22 []) 0) (o9 (D7 f22 []) ((1:Nat):Int)) ((1:Nat):Int)).state=1:=aj7 aT8 1 (z:=zI [0,5,5]) (y:=zI [5,0,5]) (by decide +kernel) (by decide +kernel) (by decide +kernel) (by decide +kernel)
theorem b52:(w8 (e8 (D7 [] []) 0) (o9 (D7 [] []) ((0:Nat):Int)) ((0:Nat):Int)).state=1:=aj7 b0A 0 (z:=zI [5,0,5]) (y:=zI [0,5,5]) (by decide +kernel) (by decide +kernel) (by decide +kernel) (by decide +kernel)
theorem b5o:(w8 (e8 (D7 [] []) 0) (o9 (D7 [] []) ((1:Nat):Int)) ((1:Nat):Int)).state=1:=aj7 b0A 1 (z:=zI [0,5,5]) (y:=zI [5,0,5]) (by decide +kernel) (by decide +kernel) (by decide +kernel) (by decide +kernel)
theorem b3f {z:List Rat} (h:z.length=3):∃a b c,z=[a,b,c]:=by
 match z,h with
 |[a,b,c],_=>exact ⟨a,b,c,rfl⟩
instance decRow:DecidableEq x7:=fun a b=>decidable_of_iff (a.terms=b.terms∧a.kind=b.kind∧a.value=b.value) ⟨fun ⟨h1,h2,h3⟩=>by cases a;cases b;simp_all,fun h=>by subst h;exact ⟨rfl,rfl,rfl⟩⟩
instance decSys:DecidableEq f5:=fun a b=>decidable_of_iff (a.n=b.n∧a.rows=b.rows) ⟨fun ⟨h1,h2⟩=>by cases a;cases b;simp_all,fun h=>by subst h;exact ⟨rfl,rfl⟩⟩
abbrev a22:Rat:=((1:Int):Rat)
def a7u:List x7:=[⟨[((1:Int),a22)],2,((0:Int):Rat)⟩,⟨[((0:Int),a22),((1:Int),a22),((2:Int),((-1:Int):Rat))],2,((0:Int):Rat)⟩,⟨[((2:Int),a22)],0,((5:Int):Rat)⟩]
def ak0:List x7:=[⟨[((1:Int),a22)],0,((5:Int):Rat)⟩,⟨[((1:Int),a22)],2,((0:Int):Rat)⟩,⟨[((0:Int),a22),((1:Int),a22),((2:Int),((-1:Int):Rat))],2,((0:Int):Rat)⟩]
theorem b4H:e8 (D7 f22 c22) 0=⟨3,a7u⟩:=by decide +kernel
theorem b3W:e8 (D7 aQ7 c22) 0=⟨3,ak0⟩:=by decide +kernel
theorem aL2 {z:List Rat} (hz:i7 (e8 (D7 f22 c22) 0) z=true):∃a b c,z=[a,b,c]∧0+a22*b=0∧0+a22*a+a22*b+((-1:Int):Rat)*c=0∧5≤0+a22*c:=by
 rw [b4H] at hz
 obtain ⟨h1,h2,h3,h4⟩:=W9.1 hz
 have h2:(z.length:Int)=3:=h2
 obtain ⟨a,b,c,rfl⟩:=b3f (by omega:z.length=3)
 have r1:=h4 _ (show _ ∈ a7u from .head _)
 have r2:=h4 _ (show _ ∈ a7u from .tail _ (.head _))
 have r3:=h4 _ (show _ ∈ a7u from .tail _ (.tail _ (.head _)))
 refine ⟨a,b,c,rfl,?_,?_,?_⟩
 ·have x:=r1.1 (by decide)
  have y:=r1.2 (by decide)
  exact Rat.le_antisymm y x
 ·have x:=r2.1 (by decide)
  have y:=r2.2 (by decide)
  exact Rat.le_antisymm y x
 ·exact r3.1 (by decide)
theorem b2c {z:List Rat}:i7 (e8 (D7 aQ7 c22) 0) z=false:=by
 cases hz:i7 (e8 (D7 aQ7 c22) 0) z with
 |false=>rfl
 |true=>
  rw [b3W] at hz
  obtain ⟨h1,h2,h3,h4⟩:=W9.1 hz
  have h2:(z.length:Int)=3:=h2
  obtain ⟨a,b,c,rfl⟩:=b3f (by omega:z.length=3)
  have r1:=h4 _ (show _ ∈ ak0 from .head _)
  have r2:=h4 _ (show _ ∈ ak0 from .tail _ (.head _))
  have x:(5:Rat)≤0+a22*b:=r1.1 (by decide)
  have y:0+a22*b≤(0:Rat):=r2.2 (by decide)
  have:(5:Rat)≤0:=Rat.le_trans x y
  exact absurd this (by decide +kernel)
theorem b0I (f:List T1) (c:List K2):o9 (D7 f c) ((0:Nat):Int)=[((0:Int),a22)]:=by
 show a1e (A8 (D7 [] []).ev _ _ _ _)=_
 decide +kernel
theorem aY5 (f:List T1) (c:List K2):o9 (D7 f c) ((1:Nat):Int)=[((1:Int),a22)]:=by
 show a1e (A8 (D7 [] []).ev _ _ _ _)=_
 decide +kernel
theorem b8m:(w8 (e8 (D7 f22 c22) 0) (o9 (D7 f22 c22) ((0:Nat):Int)) ((0:Nat):Int)).state=2:=b1n b0e 0 fun z hz=>by
 obtain ⟨a,b,c,rfl,h1,h2,h3⟩:=aL2 hz
 rw [b0I]
 show 0<0+a22*a
 have e1:a22=1:=rfl
 have e2:((-1:Int):Rat)=-1:=rfl
 rw [e1] at *
 rw [e2] at h2
 grind
theorem b7T:(w8 (e8 (D7 f22 c22) 0) (o9 (D7 f22 c22) ((1:Nat):Int)) ((1:Nat):Int)).state=0:=b4P b0e 1 fun z hz=>by
 obtain ⟨a,b,c,rfl,h1,h2,h3⟩:=aL2 hz
 rw [aY5]
 exact h1
set_option maxHeartbeats 4000000 in
theorem aU6:b9 Tryz.prog 14 [] [] (e6 true) []:=by
 have e1:=aO3 f22
 have e2:=a9h f22 c22
 have e3:=aS2
 have e4:=a9h aQ7 c22
 have r1:=aT0 aT8 1 1 b5U b4U
 have r2:=aT0 b0e 2 0 b8m b7T
 have r3:=aT0 b0A 1 1 b52 b5o
 have tD:p6 (D7 aQ7 c22)=0:=by decide +kernel
 obtain ⟨r,hr⟩:=b3E (kind:=0) tD (by simp [D7]) (fun z=>b2c)
 have v1:=a1t (D7 aQ7 c22) 0 (a0H _ _ (by decide) (by decide)) tD (by decide) (by decide) (by simp [D7]) r hr
 have v2:=a3e (D7 [] []) 8 (a0H _ _ (by decide) (by decide)) (by decide +kernel)
 have g1:=a7n (D7 [] []) (a0H _ _ (by decide) (by decide)) 1 (by decide +kernel)
 have g2:=a7n (D7 [] []) (a0H _ _ (by decide) (by decide)) 2 (by decide +kernel)
 have x1:a2J (D7 [] []) 1=[((1:Int),a22)]:=by decide +kernel
 have x2:a2J (D7 [] []) 2=[]:=by decide +kernel
 rw [x1] at g1
 rw [x2] at g2
 (refine a8 a7 Tryz.func14 rfl (by decide) ?_;(conv=>whnf);repeat ((first|refine b0x ?_|refine zy ?_);conv=>whnf))
 repeat' first|(refine zd ?_ ?_<;>intro h<;>first|exact zc h|(exfalso;omega)|conv=>whnf)|((first|refine zz ?_|refine qp e1 ?_|refine qp e2 ?_|refine qp e3 ?_|refine qp e4 ?_|refine qp r1 ?_|refine qp r2 ?_|refine qp r3 ?_|refine qp v1 ?_|refine qp v2 ?_|refine qp g1 ?_|refine qp g2 ?_|refine qp 5 ?_|refine bl0 [5] ?_|refine zy ?_);conv=>whnf)
 all_goals first
  |(exfalso;omega)
  |(exfalso;contradiction)
  |exact c6 rfl
end
section
open Go.RowKit
def a4Y (e:Ev) (m k:Int):Bool:=decide (e.mats≤k) && decide (e.hhs≤6) && decide (e.scs≤6) && decide (e.places.length≤12) && decide ((e.moves.length:Int)≤m) && decide (e.certs.length≤10) && decide (e.recalls.length≤4) && decide (e.purities.length≤6)
theorem b0R (e:Ev) (m k:Int):b9 Tryz.prog 57 [evS e,a9 .i64 m,a9 .i64 k] [] (e6 (a4Y e m k)) []:=by
 have m1:(e.places.map J7.row).length=e.places.length:=by simp
 have m2:(e.moves.map p7.row).length=e.moves.length:=by simp
 have m3:(e.certs.map E7.row).length=e.certs.length:=by simp
 have m4:(e.recalls.map x9.row).length=e.recalls.length:=by simp
 have m5:(e.purities.map O0.row).length=e.purities.length:=by simp
 (refine a8 a7 Tryz.func57 rfl (by decide) ?_;(conv=>whnf);repeat ((first|refine b0x ?_|refine zy ?_);conv=>whnf))
 repeat' first|(refine zd ?_ ?_<;>intro h<;>first|exact zc h|(exfalso;omega)|conv=>whnf)|((first|refine zz ?_|refine zy ?_);conv=>whnf)
 all_goals
  refine c6 ?_
  unfold a4Y
  simp only [m1,m2,m3,m4,m5] at *
  first
   |(symm;simp only [Bool.and_eq_true,decide_eq_true_eq];omega)
   |(symm;rw [← Bool.not_eq_true];simp only [Bool.and_eq_true,decide_eq_true_eq];omega)
def a5y (t:l9) (m:Int):Bool:=a4Y t.ev m 3 && decide (t.ev.hhs≤4) && decide (t.finds.length≤6) && decide (t.cleans.length≤6)
theorem aZ0 (t:l9) (m:Int):b9 Tryz.prog 15 [trS t,a9 .i64 m] [] (e6 (a5y t m)) []:=by
 have r:=b0R t.ev m 3
 have m1:(t.finds.map T1.row).length=t.finds.length:=by simp
 have m2:(t.cleans.map K2.row).length=t.cleans.length:=by simp
 unfold a5y
 cases hq:a4Y t.ev m 3<;>rw [hq] at r<;>
 ·(refine a8 a7 Tryz.func15 rfl (by decide) ?_;(conv=>whnf);repeat ((first|refine b0x ?_|refine zy ?_);conv=>whnf))
  repeat' first|(refine zd ?_ ?_<;>intro h<;>first|exact zc h|(exfalso;omega)|conv=>whnf)|((first|refine zz ?_|refine qp r ?_|refine zy ?_);conv=>whnf)
  all_goals
   refine c6 ?_
   simp only [m1,m2] at *
   first
    |rfl
    |(symm;simp only [Bool.true_and,Bool.and_eq_true,decide_eq_true_eq];omega)
    |(symm;rw [← Bool.not_eq_true];simp only [Bool.and_eq_true,decide_eq_true_eq];omega)
theorem a8V {t:l9} {m:Int} (hm:m≤100) (h:a5y t m=true):t.Sized∧(t.ev.moves.length:Int)≤m∧t.ev.hhs≤4:=by
 unfold a5y a4Y at h
 simp only [Bool.and_eq_true,decide_eq_true_eq] at h
 exact ⟨⟨⟨by omega,by omega,by omega,by omega,by omega⟩,by omega,by omega⟩,by omega,by omega⟩
def a05 (z:List Fr) (n:Nat) (d:Int):Bool:=(z.take (n+1)).all (aw7 d) && decide (z.length≤n)
theorem a4h (z:List Fr) (n:Nat) (d:Int) (hn:n≤1000):b9 Tryz.prog 19 [k7 z,a9 .i64 n,a9 .i64 d] [] (e6 (a05 z n d)) []:=by
 have m1:(z.map j7).length=z.length:=by simp
 (refine a8 a7 Tryz.func19 rfl (by decide) ?_;(conv=>whnf);repeat ((first|refine b0x ?_|refine zy ?_);conv=>whnf))
 repeat' first|(refine zd ?_ ?_<;>intro h<;>first|exact zc h|(exfalso;omega)|conv=>whnf)|((first|refine zz ?_|refine zy ?_);conv=>whnf)
 refine f6 a7 (fun k=>([k7 z,a9 .i64 n,a9 .i64 d,J,J,J,J,a9 .i64 k,J,J,J,J,J,J,J,J,J,J,J,J,J,J,J,J,J,J,J,J,J,J],[])) (n+1) (fun k=>k≤z.length∧(z.take k).all (aw7 d)=true) [] ⟨Nat.zero_le _,rfl⟩
  ⟨rfl,rfl,trivial,⟨rfl,rfl,rfl,rfl,trivial⟩⟩ ?_
 rintro k hk ⟨hle,hI⟩
 by_cases hlt:k<z.length∧k<n+1
 ·obtain ⟨f,hf⟩:∃f,z[k]? =some f:=⟨_,lg0 hlt.1⟩
  have hf2:(z.take (n+1))[k]? =some f:=by rw [List.getElem?_take,if_pos hlt.2];exact hf
  have r:=b3M f d
  cases hff:aw7 d f with
  |true=>
   rw [hff] at r
   conv=>whnf
   repeat' first|(refine zd ?_ ?_<;>intro h<;>first|exact zc h|(exfalso;omega)|conv=>whnf)|((first|refine zz ?_|refine qp r ?_|refine d7 hf ?_|refine zy ?_);conv=>whnf)
   all_goals first
    |(exfalso;omega)
    |exact ⟨hlt.2,⟨by omega,by rw [o4 hf,hI,hff];rfl⟩,[],rfl,rfl,trivial,⟨rfl,rfl,rfl,rfl,trivial⟩⟩
  |false=>
   rw [hff] at r
   have e1:a05 z n d=false:=by unfold a05;rw [t7 hf2 hff];rfl
   rw [e1]
   conv=>whnf
   repeat' first|(refine zd ?_ ?_<;>intro h<;>first|exact zc h|(exfalso;omega)|conv=>whnf)|((first|refine zz ?_|refine qp r ?_|refine d7 hf ?_|refine zy ?_);conv=>whnf)
   all_goals first
    |(exfalso;omega)
    |exact c6 rfl
 ·have hk2:z.length=k∨k=n+1:=by omega
  have hall:(z.take (n+1)).all (aw7 d)=true:=by
   rcases hk2 with h|h
   ·have e:z.take (n+1)=z.take k:=by rw [lg4 (by omega),lg4 (by omega)]
    rw [e];exact hI
   ·rw [← h];exact hI
  conv=>whnf
  repeat' first|(refine zd ?_ ?_<;>intro h<;>first|exact zc h|(exfalso;omega)|conv=>whnf)|((first|refine zz ?_|refine zy ?_);conv=>whnf)
  all_goals first
   |(exfalso;omega)
   |(refine c6 ?_;unfold a05;rw [hall];simp;omega)
theorem a6A {z:List Fr} {n:Nat} {d:Int} (h:a05 z n d=true):z.length≤n∧∀f ∈ z,(f.p.dl.length:Int)≤d∧(f.q.dl.length:Int)≤d:=by
 unfold a05 at h
 simp only [Bool.and_eq_true,decide_eq_true_eq] at h
 obtain ⟨h1,h2⟩:=h
 rw [lg4 (by omega),List.all_eq_true] at h1
 refine ⟨h2,fun f hf=>?_⟩
 have:=h1 f hf
 unfold aw7 at this
 simp only [Bool.and_eq_true,decide_eq_true_eq] at this
 exact this
end
section
open Go.RowKit
theorem b2X {t:l9} {kind:Int} (hs:t.Sized) (ht:p6 t=0) (hm:t.ev.moves.length≤8) (hh:t.ev.hhs≤4):
 (a19 t kind≠0)∨(∃ r,0≤kind∧kind<8∧G5 (e8 t kind) []=.row r)∨∃n,ExP t kind n∧n≤4:=by
 by_cases hk:0≤kind∧kind<8
 ·have p:=w5 (kind:=kind) ht hm (g:=[]) rfl (fun t ht=>by cases ht)
  have hh0:=(a4l (N7 ht).1).2.2.1
  rcases ah0 p.o.r with h|⟨r,h⟩
  ·exact .inr (.inr ⟨t.ev.hhs.toNat,⟨hs,ht,hk.1,hk.2,hm,by omega,h⟩,by omega⟩)
  ·exact .inr (.inl ⟨r,hk.1,hk.2,h⟩)
 ·refine .inl ?_
  unfold a19
  rw [if_pos (by omega)]
  decide
end
section
open Go.RowKit
structure a94 (z:List Fr):Prop where
 l:z.length≤1000000
 d:∀f ∈ z,f.p.dl.length≤200000∧f.q.dl.length≤200000
theorem ah4 {Z:List Rat} (hl:Z.length≤1000000) (h:∀v ∈ Z,rl v≤200000):a94 (Z.map fz):=⟨by simpa using hl,fun f hf=>by
 obtain ⟨x,hx,rfl⟩:=List.mem_map.1 hf
 have:=h x hx
 have a:=B3 x
 have b:=B9 x
 exact ⟨by show bl x.num≤_;omega,by show bl x.den≤_;omega⟩⟩
theorem b06 (s:f5) (hb:U7 s) (hr:f9 s=true) (y:List Fr) (hy:a94 y):
 b9 Tryz.prog 235 [F0 s,k7 y] [] (e6 (decide (y.length=s.rows.length) && y.all t6)) []:=by
 have m1:(s.rows.map s7).length=s.rows.length:=by simp
 have m2:(y.map j7).length=y.length:=by simp
 have l1:=hb.n0
 have l2:=hy.l
 have lr:=a1D s hb
 rw [hr] at lr
 by_cases hn:y.length≠s.rows.length
 ·rw [decide_eq_false hn,Bool.false_and]
  (refine a8 a7 Tryz.func235 rfl (by decide) ?_;(conv=>whnf);repeat ((first|refine b0x ?_|refine zy ?_);conv=>whnf))
  repeat' first|(refine zd ?_ ?_<;>intro h<;>first|exact zc h|(exfalso;omega)|conv=>whnf)|((first|refine zz ?_|refine qp lr ?_|refine zy ?_);conv=>whnf)
  all_goals first
   |(exfalso;omega)
   |exact c6 rfl
 have hn:y.length=s.rows.length:=by omega
 rw [decide_eq_true hn,Bool.true_and]
 (refine a8 a7 Tryz.func235 rfl (by decide) ?_;(conv=>whnf);repeat ((first|refine b0x ?_|refine zy ?_);conv=>whnf))
 repeat' first|(refine zd ?_ ?_<;>intro h<;>first|exact zc h|(exfalso;omega)|conv=>whnf)|((first|refine zz ?_|refine qp lr ?_|refine zy ?_);conv=>whnf)
 all_goals try (exfalso;omega)
 refine f6 a7 (fun k=>([J,J,J,J,J,J,J,J,J,J,J,J,J,J,J,J,J,J,k7 y,a9 .i64 y.length,a9 .i64 k,J,J,J,J,J,J,J],[])) y.length (fun k=>(y.take k).all t6=true) [] rfl
  ⟨rfl,rfl,trivial,⟨rfl,c9 (by simp),rfl,trivial⟩⟩ ?_
 intro k hk hI
 by_cases hlt:k<y.length
 ·obtain ⟨x,hx⟩:∃x,y[k]? =some x:=⟨_,lg0 hlt⟩
  obtain ⟨d1,d2⟩:=hy.d x (lg2 hx)
  have rr:=a5G x d1 d2
  cases hq:t6 x with
  |true=>
   rw [hq] at rr
   conv=>whnf
   repeat' first|(refine zd ?_ ?_<;>intro h<;>first|exact zc h|(exfalso;omega)|conv=>whnf)|((first|refine zz ?_|refine qp rr ?_|refine d7 hx ?_|refine zy ?_);conv=>whnf)
   all_goals first
    |(exfalso;omega)
    |exact ⟨hlt,by rw [o4 hx,hI,hq];rfl,[],rfl,rfl,trivial,⟨rfl,rfl,rfl,trivial⟩⟩
  |false=>
   rw [hq] at rr
   rw [t7 hx hq]
   conv=>whnf
   repeat' first|(refine zd ?_ ?_<;>intro h<;>first|exact zc h|(exfalso;omega)|conv=>whnf)|((first|refine zz ?_|refine qp rr ?_|refine d7 hx ?_|refine zy ?_);conv=>whnf)
   all_goals first
    |(exfalso;omega)
    |exact c6 rfl
 ·rw [lg4 (by omega)] at hI
  rw [hI]
  conv=>whnf
  repeat' first|(refine zd ?_ ?_<;>intro h<;>first|exact zc h|(exfalso;omega)|conv=>whnf)|((first|refine zz ?_|refine zy ?_);conv=>whnf)
  all_goals first
   |(exfalso;omega)
   |exact c6 rfl
theorem aG8 (s:f5) (hb:U7 s) (hr:f9 s=true) (Y:List Rat) (hl:Y.length≤1000000) (hy:∀v ∈ Y,rl v≤200000):
 b9 Tryz.prog 235 [F0 s,k7 (Y.map fz)] [] (e6 (decide (Y.length=s.rows.length))) []:=by
 have h:=b06 s hb hr (Y.map fz) (ah4 hl hy)
 rw [V7,Bool.and_true,List.length_map] at h
 exact h
theorem a6T (s:f5) (hb:U7 s) (hr:f9 s=true) (y:List Fr) (hy:a94 y) (h:(decide (y.length=s.rows.length) && y.all t6)=false):
 b9 Tryz.prog 160 [F0 s,k7 y] [] (e6 false) []:=by
 have mu:=b06 s hb hr y hy
 rw [h] at mu
 (refine a8 a7 Tryz.func160 rfl (by decide) ?_;(conv=>whnf);repeat ((first|refine b0x ?_|refine zy ?_);conv=>whnf))
 repeat' first|(refine zd ?_ ?_<;>intro h<;>first|exact zc h|(exfalso;omega)|conv=>whnf)|((first|refine zz ?_|refine qp mu ?_|refine zy ?_);conv=>whnf)
 all_goals exact c6 rfl
theorem aN5 (s:f5) (hb:U7 s) (hr:f9 s=true) (Y:List Rat) (hl:Y.length≤1000000) (hy:∀v ∈ Y,rl v≤50000):
 b9 Tryz.prog 160 [F0 s,k7 (Y.map fz)] [] (e6 (N8 s Y)) []:=by
 have m1:(s.rows.map s7).length=s.rows.length:=by simp
 have m2:((Y.map fz).map j7).length=Y.length:=by simp
 have l1:=hb.n0
 have mu:=aG8 s hb hr Y hl (fun v hv=>by have:=hy v hv;omega)
 by_cases hn:Y.length≠s.rows.length
 ·have e2:N8 s Y=false:=by unfold N8;rw [decide_eq_false hn];simp
  rw [e2]
  exact a6T s hb hr (Y.map fz) (ah4 hl (fun v hv=>by have:=hy v hv;omega)) (by rw [decide_eq_false (by simpa using hn)];rfl)
 have hn:Y.length=s.rows.length:=by omega
 have e2:N8 s Y=(List.range s.rows.length).all (sgB s Y):=by unfold N8;rw [decide_eq_true hn];simp
 rw [e2]
 rw [decide_eq_true hn] at mu
 (refine a8 a7 Tryz.func160 rfl (by decide) ?_;(conv=>whnf);repeat ((first|refine b0x ?_|refine zy ?_);conv=>whnf))
 repeat' first|(refine zd ?_ ?_<;>intro h<;>first|exact zc h|(exfalso;omega)|conv=>whnf)|((first|refine zz ?_|refine qp mu ?_|refine zy ?_);conv=>whnf)
 refine f6 a7 (fun k=>([J,J,S.c (C.t (T.ptr [ti s.n,B2 s.rows])),J,J,J,J,J,J,J,J,J,k7 (Y.map fz),a9 .i64 Y.length,a9 .i64 k,J,J,J,J,J,J,J,J,J,J,J,J,J,J,J,J,J,J,J,J,J],[])) Y.length (fun k=>(List.range k).all (sgB s Y)=true) [] rfl
  ⟨rfl,rfl,trivial,⟨rfl,rfl,c9 (by simp),rfl,trivial⟩⟩ ?_
 intro k hk hI
 by_cases hlt:k<Y.length
 ·obtain ⟨x,hx⟩:∃x,Y[k]? =some x:=⟨_,lg0 hlt⟩
  obtain ⟨w,hw⟩:∃w,s.rows[k]? =some w:=⟨_,lg0 (by omega)⟩
  have bx:=hy x (lg2 hx)
  have sg:=K9 x (by omega)
  have es:sgB s Y k=decide ((w.kind=0→¬sgR x<0)∧(w.kind=1→¬sgR x > 0)):=by
   unfold sgB
   rw [F9 hw,a7N hx,Bool.eq_iff_iff,decide_eq_true_iff,a1d,ae1]
   simp
   grind
  generalize sgR x=U at sg es
  by_cases hok:(w.kind=0→¬U<0)∧(w.kind=1→¬U > 0)
  ·rw [decide_eq_true hok] at es
   obtain ⟨q1,q2⟩:=hok
   conv=>whnf
   repeat' first|(refine zd ?_ ?_<;>intro h<;>first|exact zc h|(exfalso;omega)|conv=>whnf)|((first|refine zz ?_|refine qp sg ?_|refine d7 (O1 Y hx) ?_|refine d7 hw ?_|refine zy ?_);conv=>whnf)
   all_goals first
    |(exfalso;omega)
    |exact ⟨hlt,by rw [a0w,hI,es];rfl,[],rfl,rfl,trivial,⟨rfl,rfl,rfl,rfl,trivial⟩⟩
  ·rw [decide_eq_false hok] at es
   rw [a23 (n:=s.rows.length) (by omega) es]
   have hor:(w.kind=0∧U<0)∨(w.kind=1∧U > 0):=by omega
   clear hok
   conv=>whnf
   repeat' first|(refine zd ?_ ?_<;>intro h<;>first|exact zc h|(exfalso;omega)|conv=>whnf)|((first|refine zz ?_|refine qp sg ?_|refine d7 (O1 Y hx) ?_|refine d7 hw ?_|refine zy ?_);conv=>whnf)
   all_goals first
    |(exfalso;omega)
    |exact c6 rfl
 ·have hke:k=s.rows.length:=by omega
  subst hke
  rw [hI]
  conv=>whnf
  repeat' first|(refine zd ?_ ?_<;>intro h<;>first|exact zc h|(exfalso;omega)|conv=>whnf)|((first|refine zz ?_|refine zy ?_);conv=>whnf)
  all_goals first
   |(exfalso;omega)
   |exact c6 rfl
theorem aW2 (a b c:Rat) (ha:rl a≤60000) (hb:rl b≤50000) (hc:rl c≤200):b9 Tryz.prog 236 [frS (fz a),frS (fz b),frS (fz c)] [] (frS (fz (a+b*c))) []:=by
 have l:=a1f b c
 have mu:=ai5 b c (by omega) (by omega)
 have ad:=a2M a (b*c) (by omega) (by omega)
 (refine a8 a7 Tryz.func236 rfl (by decide) ?_;(conv=>whnf);repeat ((first|refine b0x ?_|refine zy ?_);conv=>whnf))
 repeat' first|(refine zd ?_ ?_<;>intro h<;>first|exact zc h|(exfalso;omega)|conv=>whnf)|((first|refine zz ?_|refine qp mu ?_|refine qp ad ?_|refine qp 5 ?_|refine qp 4 ?_|refine bl0 [5] ?_|refine bl0 [4] ?_|refine zy ?_);conv=>whnf)
 all_goals first
  |exact ao8 rfl
end
section
open Go.RowKit
def a77 (s:f5) (y:Nat→Rat) (i k:Nat):Nat→Rat:=fun v=>K3 s y v i+y i*G6 (o7 s i).terms k v
theorem aS3 (s:f5) (y:Nat→Rat) (i:Nat):a77 s y i 0=fun v=>K3 s y v i:=by
 funext v;show _+_*(0:Rat)=_;grind
theorem b0Q (s:f5) (y:Nat→Rat) (i:Nat):a77 s y i (o7 s i).terms.length=fun v=>K3 s y v (i+1):=rfl
theorem aP3 {s:f5} {y:Nat→Rat} {i k:Nat} {n:Int} {t:Int × Rat} (hr:e7 (-1) n (o7 s i).terms=true) (ht:(o7 s i).terms[k]? =some t):
 a77 s y i k t.1.toNat=K3 s y t.1.toNat i∧(fun j=>if j=t.1.toNat then K3 s y t.1.toNat i+y i*t.2 else a77 s y i k j)=a77 s y i (k+1):=by
 have z:G6 (o7 s i).terms k t.1.toNat=0:=S1 _ fun a u ha hu=>by
  have h1:=a0t hr a k u t ha hu ht
  have h2:=s9 hr u (lg2 hu)
  have h3:=s9 hr t (lg2 ht)
  omega
 refine ⟨by unfold a77;rw [z];grind,?_⟩
 funext j
 unfold a77
 rw [E5 ht]
 simp only
 by_cases h:j=t.1.toNat
 ·subst h;rw [if_pos rfl,if_pos rfl]
 ·rw [if_neg h,if_neg h]
set_option maxHeartbeats 8000000 in
theorem b4M (s:f5) (hb:U7 s) (hr:f9 s=true) (Y:List Rat) (hq:a4u s Y) (hn1:s.n≤1000):
 b9 Tryz.prog 162 [F0 s,k7 (Y.map fz)] [] (.tup [j2 (F5 s (yN Y) s.n.toNat),frS (fz (J4 s (yN Y)))]) []:=by
 have m1:(s.rows.map s7).length=s.rows.length:=by simp
 have m2:((Y.map fz).map j7).length=Y.length:=by simp
 have l1:=hb.n0
 have hn:=hq.l
 have hm:=hq.m
 have h0n:=(a2v hr)
 obtain ⟨n,hnn⟩:∃n:Nat,s.n.toNat=n:=⟨_,rfl⟩
 have en:s.n=n:=by omega
 have mu:=aG8 s hb hr Y (by omega) (fun v hv=>by have:=hq.y v hv;omega)
 rw [decide_eq_true hn] at mu
 have i0:=E4 0 (by decide) (by decide)
 rw [hnn]
 rw [show F0 s=.agg [.t (ti (n:Int)),.t (B2 s.rows)] by rw [← en]] at mu ⊢
 (refine a8 a7 Tryz.func162 rfl (by decide) ?_;(conv=>whnf);repeat ((first|refine b0x ?_|refine zy ?_);conv=>whnf))
 repeat' first|(refine zd ?_ ?_<;>intro h<;>first|exact zc h|(exfalso;omega)|conv=>whnf)|((first|refine zz ?_|refine qp mu ?_|refine a3n (by omega) (by omega) (by omega) (by decide) ?_|refine zy ?_);conv=>whnf)
 refine f6 a7 (fun k=>([J,k7 (Y.map fz),S.c (C.t (T.ptr [ti (n:Int),B2 s.rows])),J,J,S.c (C.ptr 0 0 0),S.c (C.own 1 0 n true),J,J,J,J,J,J,J,J,J,J,J,J,J,J,J,J,J,J,a9 .i64 n,a9 .i64 k,J,J,J,J,J,J,J,J,J,J,J,J,J,J,J,J,J,J,J,J,J,J,J,J,J,J,J,J,J,J,J,J,J,J,J,J,J,J,J,J,J,J,J,J,J,J,J,J,J,J,J,J,J,J,J,J,J,J,J,J,J,J,J,J,J,J,J,J,J,J,J,J],[frB C2,flB (pZ k n)])) n (fun _=>True) [some 0,some 1] trivial
  ⟨rfl,rfl,⟨⟨rfl,rfl,rfl,.inr ⟨⟨rfl,rfl,rfl,rfl,trivial⟩,trivial⟩⟩,⟨rfl,rfl,rfl,.inr (a53 ?_ ?_)⟩,trivial⟩,⟨rfl,rfl,⟨rfl,rfl,rfl⟩,⟨rfl,rfl,by omega,fun h=>h⟩,c9 (by omega),c9 rfl,trivial⟩⟩ ?_
 ·simp [C5,toC,a8f]
 ·intro i x y hx hy
  simp only [C5,List.getElem?_replicate] at hx
  split at hx
  ·rename_i hi
   injection hx with hx
   subst hx
   have hy:(toC ((pZ 0 n).map j7))[i]? =some y:=hy
   rw [toC,List.getElem?_map,List.getElem?_map,a62 (by omega),if_neg (by omega)] at hy
   injection hy with hy
   subst hy
   exact ⟨rfl,rfl,rfl,rfl,trivial⟩
  ·cases hx
 intro k hk _
 by_cases hlt:k<n
 ·obtain ⟨pf,hpf⟩:∃pf,(pZ k n)[k]? =some pf:=⟨_,a62 hlt⟩
  have gp:(pZ k n)[0+(k:Int).toNat]? =some pf:=by rw [Nat.zero_add,show (k:Int).toNat=k by omega];exact hpf
  have eM:0+(k:Int).toNat=k:=by omega
  conv=>whnf
  repeat' first|(refine zd ?_ ?_<;>intro h<;>first|exact zc h|(exfalso;omega)|conv=>whnf)|((first|refine zz ?_|refine qp i0 ?_|refine o6 gp ?_|refine zy ?_);conv=>whnf)
  all_goals first
   |(exfalso;omega)
   |(refine ⟨hlt,trivial,[some 0,some 1],rfl,rfl,⟨⟨rfl,rfl,rfl,.inr ⟨⟨rfl,rfl,rfl,rfl,trivial⟩,trivial⟩⟩,b8 (rows:=(pZ (k+1) n).map j7) rfl rfl rfl ?_ rfl,trivial⟩,⟨rfl,rfl,⟨rfl,rfl,rfl⟩,⟨rfl,rfl,rfl,fun h=>h⟩,rfl,c9 (by omega),trivial⟩⟩
     have e:=H5 (row:=pZ k n) (y:=fz 0) eM
     rw [aY7 hlt] at e
     exact congrArg Blk.rows e)
 have hke:k=n:=by omega
 subst hke
 conv=>whnf
 repeat' first|(refine zd ?_ ?_<;>intro h<;>first|exact zc h|(exfalso;omega)|conv=>whnf)|((first|refine zz ?_|refine qp i0 ?_|refine zy ?_);conv=>whnf)
 all_goals try (exfalso;omega)
 refine f6 a7 (fun i=>([J,J,S.c (C.t (T.ptr [ti (k:Int),B2 s.rows])),J,J,S.c (C.ptr 0 0 0),S.c (C.own 1 0 k true),J,S.c (C.ptr 2 0 0),J,J,J,J,J,J,J,J,J,J,J,J,J,J,J,J,J,J,J,J,J,J,J,J,J,J,k7 (Y.map fz),a9 .i64 Y.length,a9 .i64 i,J,J,J,J,J,J,J,J,J,J,J,J,J,J,J,J,J,J,J,J,J,J,J,J,J,J,J,J,J,J,J,J,J,J,J,J,J,J,J,J,J,J,J,J,J,J,J,J,J,J,J,J,J,J,J,J,J,J,J,J,J],[frB C2,flB (rF k fun v=>K3 s (yN Y) v i),frB (fz (Q1 s (yN Y) i))])) Y.length (fun _=>True) [some 0,some 1,some 2] trivial
  ⟨rfl,rfl,⟨⟨rfl,rfl,rfl,.inr ⟨⟨rfl,rfl,rfl,rfl,trivial⟩,trivial⟩⟩,b8 (rows:=(rF k fun _=>0).map j7) rfl rfl rfl (by rw [← b0Y]) rfl,⟨rfl,rfl,rfl,.inl ⟨rfl,t5 _⟩⟩,trivial⟩,⟨rfl,⟨rfl,rfl,rfl⟩,⟨rfl,rfl,rfl,fun h=>h⟩,⟨rfl,rfl,rfl⟩,rfl,c9 (by simp),rfl,trivial⟩⟩ ?_
 intro i hi _
 by_cases hil:i<Y.length
 ·obtain ⟨x,hx⟩:∃x,Y[i]? =some x:=⟨_,lg0 hil⟩
  obtain ⟨w,hw⟩:∃w,s.rows[i]? =some w:=⟨_,lg0 (by omega)⟩
  obtain ⟨b1,b2,b3⟩:=hb.t w (lg2 hw)
  have hrt:=(a0e hr hw).1
  have bx:=hq.y x (lg2 hx)
  have eyx:yN Y i=x:=a7N hx
  have erw:o7 s i=w:=F9 hw
  have mv:=hq.v i
  have sg:=K9 x (by omega)
  have sz:=a0M (x:=x)
  have pv:=aW2 (Q1 s (yN Y) i) x w.value (by omega) (by omega) b3
  have ev:Q1 s (yN Y) i+x*w.value=Q1 s (yN Y) (i+1):=by
   show _=Q1 s (yN Y) i+yN Y i*(o7 s i).value
   rw [erw,eyx]
  rw [ev] at pv
  by_cases hx0:x=0
  ·have hs:=sz.2 hx0
   have e1:(fun v=>K3 s (yN Y) v (i+1))=fun v=>K3 s (yN Y) v i:=by
    funext v
    show K3 s (yN Y) v i+yN Y i*_=_
    rw [eyx,hx0];grind
   have e2:Q1 s (yN Y) (i+1)=Q1 s (yN Y) i:=by
    show Q1 s (yN Y) i+yN Y i*_=_
    rw [eyx,hx0];grind
   rw [e1,e2]
   conv=>whnf
   repeat' first|(refine zd ?_ ?_<;>intro h<;>first|exact zc h|(exfalso;omega)|conv=>whnf)|((first|refine zz ?_|refine qp sg ?_|refine d7 (O1 Y hx) ?_|refine zy ?_);conv=>whnf)
   all_goals first
    |(exfalso;omega)
    |exact ⟨hil,trivial,[some 0,some 1,some 2],rfl,rfl,⟨⟨rfl,rfl,rfl,.inr ⟨⟨rfl,rfl,rfl,rfl,trivial⟩,trivial⟩⟩,i8 (g4 _),⟨rfl,rfl,rfl,.inl ⟨rfl,t5 _⟩⟩,trivial⟩,⟨rfl,⟨rfl,rfl,rfl⟩,⟨rfl,rfl,rfl,fun h=>h⟩,⟨rfl,rfl,rfl⟩,rfl,rfl,c9 (by omega),trivial⟩⟩
  ·have hs:sgR x≠0:=fun h=>hx0 (sz.1 h)
   have m4:(w.terms.map k6).length=w.terms.length:=by simp
   conv=>whnf
   repeat' first|(refine zd ?_ ?_<;>intro h<;>first|exact zc h|(exfalso;omega)|conv=>whnf)|((first|refine zz ?_|refine qp sg ?_|refine d7 (O1 Y hx) ?_|refine d7 hw ?_|refine zy ?_);conv=>whnf)
   all_goals try (exfalso;omega)
   refine f6 a7 (fun j=>([J,J,S.c (C.t (T.ptr [ti (k:Int),B2 s.rows])),J,J,S.c (C.ptr 0 0 0),S.c (C.own 1 0 k true),J,S.c (C.ptr 2 0 0),a9 .i64 i,S.c (C.ptr 3 0 0),J,J,J,J,J,J,J,J,J,J,J,J,J,J,J,J,J,J,J,J,J,J,J,J,k7 (Y.map fz),a9 .i64 Y.length,a9 .i64 i,J,J,J,J,J,J,J,J,J,J,J,J,j2 w.terms,a9 .i64 w.terms.length,a9 .i64 j,J,J,J,J,J,J,J,J,J,J,J,J,J,J,J,J,J,J,J,J,J,J,J,J,J,J,J,J,J,J,J,J,J,J,J,J,J,J,J,J,J,J,J,J,J,J],[frB C2,flB (rF k (a77 s (yN Y) i j)),frB (fz (Q1 s (yN Y) i)),frB (fz x)])) w.terms.length (fun _=>True) [some 0,some 1,some 2,some 3] trivial
    ⟨rfl,rfl,⟨⟨rfl,rfl,rfl,.inr ⟨⟨rfl,rfl,rfl,rfl,trivial⟩,trivial⟩⟩,b8 (rows:=(rF k fun v=>K3 s (yN Y) v i).map j7) rfl rfl rfl rfl (by rw [aS3]),⟨rfl,rfl,rfl,.inl ⟨rfl,t5 _⟩⟩,⟨rfl,rfl,rfl,.inl ⟨rfl,t5 _⟩⟩,trivial⟩,⟨rfl,⟨rfl,rfl,rfl⟩,⟨rfl,rfl,rfl,fun h=>h⟩,⟨rfl,rfl,rfl⟩,rfl,⟨rfl,rfl,rfl⟩,rfl,rfl,rfl,rfl,c9 (by simp),rfl,trivial⟩⟩ ?_
   intro j hj _
   by_cases hjl:j<w.terms.length
   ·obtain ⟨t,ht⟩:∃t,w.terms[j]? =some t:=⟨_,lg0 hjl⟩
    have tm:=s9 hrt t (lg2 ht)
    have tb:=b2 t (lg2 ht)
    obtain ⟨p1,p2⟩:=aP3 (s:=s) (y:=yN Y) (i:=i) (k:=j) (n:=(s.n.toNat:Nat)) (t:=t) (by rw [erw];exact hrt) (by rw [erw];exact ht)
    have bm:=hq.n t.1.toNat i
    have ad:=aW2 (K3 s (yN Y) t.1.toNat i) x t.2 (by omega) (by omega) tb
    have hv:t.1.toNat<k:=by omega
    have g1:(rF k (a77 s (yN Y) i j))[0+t.1.toNat]? =some (fz (K3 s (yN Y) t.1.toNat i)):=by rw [Nat.zero_add,E3 hv,p1]
    have eM:0+t.1.toNat=t.1.toNat:=by omega
    rw [eyx] at p2
    conv=>whnf
    repeat' first|(refine zd ?_ ?_<;>intro h<;>first|exact zc h|(exfalso;omega)|conv=>whnf)|((first|refine zz ?_|refine qp ad ?_|refine d7 ht ?_|refine o6 g1 ?_|refine zy ?_);conv=>whnf)
    all_goals first
     |(exfalso;omega)
     |(refine ⟨hjl,trivial,[some 0,some 1,some 2,some 3],rfl,rfl,⟨⟨rfl,rfl,rfl,.inr ⟨⟨rfl,rfl,rfl,rfl,trivial⟩,trivial⟩⟩,b8 (rows:=(rF k (a77 s (yN Y) i (j+1))).map j7) rfl rfl rfl ?_ rfl,⟨rfl,rfl,rfl,.inl ⟨rfl,t5 _⟩⟩,⟨rfl,rfl,rfl,.inl ⟨rfl,t5 _⟩⟩,trivial⟩,⟨rfl,⟨rfl,rfl,rfl⟩,⟨rfl,rfl,rfl,fun h=>h⟩,⟨rfl,rfl,rfl⟩,rfl,⟨rfl,rfl,rfl⟩,rfl,rfl,rfl,rfl,rfl,c9 (by omega),trivial⟩⟩
       have e:=H5 (row:=rF k (a77 s (yN Y) i j)) (y:=fz (K3 s (yN Y) t.1.toNat i+x*t.2)) eM
       rw [R8 hv,p2] at e
       exact congrArg Blk.rows e)
   ·have hje:j=w.terms.length:=by omega
    subst hje
    have e3:a77 s (yN Y) i w.terms.length=fun v=>K3 s (yN Y) v (i+1):=by rw [← erw];exact b0Q s (yN Y) i
    rw [e3]
    conv=>whnf
    repeat' first|(refine zd ?_ ?_<;>intro h<;>first|exact zc h|(exfalso;omega)|conv=>whnf)|((first|refine zz ?_|refine qp pv ?_|refine d7 hw ?_|refine zy ?_);conv=>whnf)
    all_goals first
     |(exfalso;omega)
     |exact ⟨hil,trivial,[some 0,some 1,some 2],rfl,rfl,⟨⟨rfl,rfl,rfl,.inr ⟨⟨rfl,rfl,rfl,rfl,trivial⟩,trivial⟩⟩,i8 (g4 _),⟨rfl,rfl,rfl,.inl ⟨rfl,t5 _⟩⟩,trivial⟩,⟨rfl,⟨rfl,rfl,rfl⟩,⟨rfl,rfl,rfl,fun h=>h⟩,⟨rfl,rfl,rfl⟩,rfl,rfl,c9 (by omega),trivial⟩⟩
 have hie:i=s.rows.length:=by omega
 subst hie
 have e4:(fun v=>K3 s (yN Y) v s.rows.length)=C1 s (yN Y):=rfl
 have e5:Q1 s (yN Y) s.rows.length=J4 s (yN Y):=rfl
 rw [e4,e5]
 conv=>whnf
 repeat' first|(refine zd ?_ ?_<;>intro h<;>first|exact zc h|(exfalso;omega)|conv=>whnf)|((first|refine zz ?_|refine zy ?_);conv=>whnf)
 all_goals try (exfalso;omega)
 refine f6 a7 (fun v=>([J,J,J,J,J,S.c (C.ptr 0 0 0),J,J,S.c (C.ptr 2 0 0),J,J,J,J,S.c (C.own 3 0 (F5 s (yN Y) v).length true),J,J,J,J,J,J,J,J,J,J,J,J,J,J,J,J,J,J,J,J,J,J,J,J,J,J,J,J,J,J,J,J,J,J,J,J,J,J,J,J,J,J,J,J,J,J,J,J,J,J,J,J,J,J,J,J,J,J,J,J,J,J,J,J,J,J,S.c (C.own 1 0 k true),a9 .i64 k,a9 .i64 v,J,J,J,J,J,J,J,J,J,J,J,J,J,J,J,J],[frB C2,flB (rF k (C1 s (yN Y))),frB (fz (J4 s (yN Y))),J6 (F5 s (yN Y) v)])) k (fun _=>True) [some 0,some 1,some 2,none] trivial
  ⟨rfl,rfl,⟨⟨rfl,rfl,rfl,.inr ⟨⟨rfl,rfl,rfl,rfl,trivial⟩,trivial⟩⟩,i8 (g4 _),⟨rfl,rfl,rfl,.inl ⟨rfl,t5 _⟩⟩,⟨rfl,rfl⟩,trivial⟩,⟨⟨rfl,rfl,rfl⟩,⟨rfl,rfl,rfl⟩,⟨rfl,rfl,rfl⟩,⟨rfl,rfl,rfl,fun h=>h⟩,rfl,c9 rfl,trivial⟩⟩ ?_
 intro v hv _
 have lv:=a7Q s (yN Y) v
 by_cases hlt:v<k
 ·have bm:=hq.n v s.rows.length
  have em:K3 s (yN Y) v s.rows.length=C1 s (yN Y) v:=rfl
  rw [em] at bm
  have sg:=K9 (C1 s (yN Y) v) (by omega)
  have sz:=a0M (x:=C1 s (yN Y) v)
  have g1:(rF k (C1 s (yN Y)))[0+(v:Int).toNat]? =some (fz (C1 s (yN Y) v)):=by rw [Nat.zero_add,show (v:Int).toNat=v by omega,E3 hlt]
  have lA:(F5 s (yN Y) v).length≤(J6 (F5 s (yN Y) v)).rows.length:=by show _≤(toC _).length;simp [toC]
  by_cases hz:C1 s (yN Y) v=0
  ·have hs:=sz.2 hz
   have e2:F5 s (yN Y) (v+1)=F5 s (yN Y) v:=by rw [a3P,if_pos hz]
   rw [e2]
   conv=>whnf
   repeat' first|(refine zd ?_ ?_<;>intro h<;>first|exact zc h|(exfalso;omega)|conv=>whnf)|((first|refine zz ?_|refine qp sg ?_|refine o6 g1 ?_|refine zy ?_);conv=>whnf)
   all_goals first
    |(exfalso;omega)
    |exact ⟨hlt,trivial,[some 0,some 1,some 2,some 3],rfl,rfl,⟨⟨rfl,rfl,rfl,.inr ⟨⟨rfl,rfl,rfl,rfl,trivial⟩,trivial⟩⟩,i8 (g4 _),⟨rfl,rfl,rfl,.inl ⟨rfl,t5 _⟩⟩,i8 (g4 _),trivial⟩,⟨⟨rfl,rfl,rfl⟩,⟨rfl,rfl,rfl⟩,⟨rfl,rfl,rfl,fun h=>h⟩,⟨rfl,rfl,rfl,fun h=>h⟩,rfl,c9 (by omega),trivial⟩⟩
  ·have hs:sgR (C1 s (yN Y) v)≠0:=fun h=>hz (sz.1 h)
   have e2:F5 s (yN Y) (v+1)=F5 s (yN Y) v++[((v:Int),C1 s (yN Y) v)]:=by rw [a3P,if_neg hz]
   rw [e2]
   conv=>whnf
   repeat' first|(refine zd ?_ ?_<;>intro h<;>first|exact zc h|(exfalso;omega)|conv=>whnf)|((first|refine zz ?_|refine qp sg ?_|refine qp toC ?_|refine o6 g1 ?_|refine t9 lA (by simp [toC];omega) ?_|refine zy ?_);conv=>whnf)
   all_goals first
    |(exfalso;omega)
    |(refine ⟨hlt,trivial,[some 0,some 1,some 2,some 5],rfl,rfl,⟨⟨rfl,rfl,rfl,.inr ⟨⟨rfl,rfl,rfl,rfl,trivial⟩,trivial⟩⟩,i8 (g4 _),⟨rfl,rfl,rfl,.inl ⟨rfl,t5 _⟩⟩,b8 (rows:=(F5 s (yN Y) v++[((v:Int),C1 s (yN Y) v)]).map k6) rfl rfl rfl ?_ rfl,trivial⟩,⟨⟨rfl,rfl,rfl⟩,⟨rfl,rfl,rfl⟩,⟨rfl,rfl,?_,fun h=>h⟩,⟨rfl,rfl,rfl,fun h=>h⟩,rfl,c9 (by omega),trivial⟩⟩
      ·exact U5 (f:=k6) (x:=((v:Int),C1 s (yN Y) v)) rfl
      ·simp [toC])
 ·have hke:v=k:=by omega
  subst hke
  conv=>whnf
  repeat' first|(refine zd ?_ ?_<;>intro h<;>first|exact zc h|(exfalso;omega)|conv=>whnf)|((first|refine zz ?_|refine zy ?_);conv=>whnf)
  all_goals first
   |(exfalso;omega)
   |exact j5 ⟨(show VC _ (fun id=>I9 [] id=true) (C.own 3 0 _ true) _ from t8 (k:=J6 (F5 s (yN Y) v)) rfl rfl (fun h=>h) rfl rfl (by simp)),⟨rfl,rfl,rfl,rfl,trivial⟩,trivial⟩
end
section
open Go.RowKit
theorem a9M {t:Int × Rat} {r:List (Int × Rat)} (h:∀u ∈ r,u.1.toNat≠t.1.toNat) (v:Nat):∀k,k≤r.length→G6 (t::r) (k+1) v=if v=t.1.toNat then t.2 else G6 r k v
 |0,_=>by
  rw [E5 (l:=t::r) (k:=0) (t:=t) rfl]
  simp only
  by_cases h1:v=t.1.toNat
  ·rw [if_pos h1,if_pos h1]
  ·rw [if_neg h1,if_neg h1]
   rfl
 |k+1,hk=>by
  have hx:r[k]? =some r[k]:=lg0 (by omega)
  have hne:=h _ (lg2 hx)
  rw [E5 (l:=t::r) (k:=k+1) (t:=r[k]) (by simp),E5 hx]
  have ih:=a9M h v k (by omega)
  simp only
  rw [ih]
  by_cases h1:v=t.1.toNat
  ·rw [if_pos h1,if_pos h1,if_neg (by omega)]
  ·rw [if_neg h1,if_neg h1]
theorem G7 {last n:Int} {t:Int × Rat} {r:List (Int × Rat)} (h0:-1≤last) (h:e7 last n (t::r)=true) (v:Nat):u3 (t::r) v=if v=t.1.toNat then t.2 else u3 r v:=by
 refine a9M (fun u hu=>?_) v r.length (Nat.le_refl _)
 obtain ⟨j,hj,he⟩:=List.getElem_of_mem hu
 have h1:=a0t h 0 (j+1) t u (by omega) rfl (by simp [he,hj])
 have h2:=s9 h t (List.mem_cons_self ..)
 omega
theorem I7 {last n:Int} {t:Int × Rat} {r:List (Int × Rat)} (h:e7 last n (t::r)=true):e7 t.1 n r=true:=by
 unfold e7 at h
 simp only [Bool.and_eq_true] at h
 exact h.2
theorem a1L {last n:Int} {l:List (Int × Rat)} (h0:-1≤last) (h:e7 last n l=true) {v:Nat} (hv:(v:Int)≤last):u3 l v=0:=by
 refine S1 _ fun i t hi ht e=>?_
 have:=s9 h t (lg2 ht)
 omega
def a72 (a b:List (Int × Rat)):Prop:=∀v,u3 a v≤u3 b v
theorem ap1 {last n:Int} {t:Int × Rat} {r b:List (Int × Rat)} (h0:-1≤last) (ha:e7 last n (t::r)=true) (hb:e7 t.1 n b=true):a72 (t::r) b↔t.2≤0∧a72 r b:=by
 have hm:=s9 ha t (List.mem_cons_self ..)
 have z1:=a1L (v:=t.1.toNat) (by omega) hb (by omega)
 have z2:=a1L (v:=t.1.toNat) (by omega) (I7 ha) (by omega)
 constructor
 ·intro h
  refine ⟨?_,fun v=>?_⟩
  ·have:=h t.1.toNat
   rw [G7 h0 ha,if_pos rfl,z1] at this
   exact this
  ·by_cases hv:v=t.1.toNat
   ·subst hv;rw [z1,z2];exact Rat.le_refl
   ·have:=h v
    rwa [G7 h0 ha,if_neg hv] at this
 ·rintro ⟨h1,h2⟩ v
  rw [G7 h0 ha]
  by_cases hv:v=t.1.toNat
  ·rw [if_pos hv,hv,z1];exact h1
  ·rw [if_neg hv];exact h2 v
theorem a9i {last n:Int} {u:Int × Rat} {a q:List (Int × Rat)} (h0:-1≤last) (hb:e7 last n (u::q)=true) (ha:e7 u.1 n a=true):a72 a (u::q)↔0≤u.2∧a72 a q:=by
 have hm:=s9 hb u (List.mem_cons_self ..)
 have z1:=a1L (v:=u.1.toNat) (by omega) ha (by omega)
 have z2:=a1L (v:=u.1.toNat) (by omega) (I7 hb) (by omega)
 constructor
 ·intro h
  refine ⟨?_,fun v=>?_⟩
  ·have:=h u.1.toNat
   rw [G7 h0 hb,if_pos rfl,z1] at this
   exact this
  ·by_cases hv:v=u.1.toNat
   ·subst hv;rw [z1,z2];exact Rat.le_refl
   ·have:=h v
    rwa [G7 h0 hb,if_neg hv] at this
 ·rintro ⟨h1,h2⟩ v
  rw [G7 h0 hb]
  by_cases hv:v=u.1.toNat
  ·rw [if_pos hv,hv,z1];exact h1
  ·rw [if_neg hv];exact h2 v
theorem b0j {last n:Int} {t u:Int × Rat} {r q:List (Int × Rat)} (h0:-1≤last) (ha:e7 last n (t::r)=true) (hb:e7 last n (u::q)=true) (he:t.1=u.1):a72 (t::r) (u::q)↔t.2≤u.2∧a72 r q:=by
 have hm:=s9 ha t (List.mem_cons_self ..)
 have z1:=a1L (v:=t.1.toNat) (by omega) (I7 ha) (by omega)
 have z2:=a1L (v:=t.1.toNat) (by omega) (I7 hb) (by omega)
 constructor
 ·intro h
  refine ⟨?_,fun v=>?_⟩
  ·have:=h t.1.toNat
   rwa [G7 h0 ha,G7 h0 hb,if_pos rfl,if_pos (by rw [he])] at this
  ·by_cases hv:v=t.1.toNat
   ·subst hv;rw [z1,z2];exact Rat.le_refl
   ·have:=h v
    rwa [G7 h0 ha,G7 h0 hb,if_neg hv,if_neg (by rw [← he];exact hv)] at this
 ·rintro ⟨h1,h2⟩ v
  rw [G7 h0 ha,G7 h0 hb,←he]
  by_cases hv:v=t.1.toNat
  ·rw [if_pos hv,if_pos hv];exact h1
  ·rw [if_neg hv,if_neg hv];exact h2 v
open Classical in
noncomputable def a9a (a b:List (Int × Rat)):Bool:=decide (a72 a b)
theorem a3c {a b:List (Int × Rat)}:a9a a b=true↔a72 a b:=by unfold a9a;simp
theorem a5n {a b a' b':List (Int × Rat)} {p:Prop} (h:a72 a b↔p∧a72 a' b') (hp:p):a9a a b=a9a a' b':=by
 rw [Bool.eq_iff_iff,a3c,a3c,h];exact ⟨fun h=>h.2,fun h=>⟨hp,h⟩⟩
theorem a5o {a b a' b':List (Int × Rat)} {p:Prop} (h:a72 a b↔p∧a72 a' b') (hp:¬p):a9a a b=false:=by
 rw [← Bool.not_eq_true,a3c,h];exact fun h=>hp h.1
theorem aN1 (u:Int × Rat) (q:List (Int × Rat)):T.sl 5 (X6 SK.any none none) (List.drop (Int.toNat 1) (List.take (((((u::q).map k6).length:Nat):Int)).toNat ((u::q).map k6)))=.sl 5 .any (q.map k6):=by
 rw [lg4 (by omega)];rfl
set_option maxHeartbeats 8000000 in
theorem b1A (n:Int) (a b:List (Int × Rat)) (ha:e7 (-1) n a=true) (hb:e7 (-1) n b=true) (hn:n≤1500) (ba:∀t ∈ a,rl t.2≤60000) (bb:∀t ∈ b,rl t.2≤60000):
 b9 Tryz.prog 163 [j2 a,j2 b] [] (e6 (a9a a b)) []:=by
 have i0:=E4 0 (by decide) (by decide)
 have r0:=rl0
 (refine a8 a7 Tryz.func163 rfl (by decide) ?_;(conv=>whnf);repeat ((first|refine b0x ?_|refine zy ?_);conv=>whnf))
 repeat' first|(refine zd ?_ ?_<;>intro h<;>first|exact zc h|(exfalso;omega)|conv=>whnf)|((first|refine zz ?_|refine qp i0 ?_|refine zy ?_);conv=>whnf)
 refine m9 a7 (σ:=Int × List (Int × Rat) × List (Int × Rat)) (fun x=>([j2 x.2.1,j2 x.2.2,J,J,J,S.c (C.ptr 0 0 0),J,J,J,J,J,J,J,J,J,J,J,J,J,J,J,J,J,J,J,J,J,J,J,J,J,J,J,J,J,J,J,J,J,J,J,J,J,J,J,J,J,J,J,J,J,J,J,J,J,J,J,J,J,J,J,J,J,J,J,J,J,J,J,J,J,J,J,J,J,J,J],[frB (fz ((0:Int):Rat))])) (fun x=>-1≤x.1∧e7 x.1 n x.2.1=true∧e7 x.1 n x.2.2=true∧(∀ t ∈ x.2.1,rl t.2≤60000)∧(∀ t ∈ x.2.2,rl t.2≤60000)∧a9a a b=a9a x.2.1 x.2.2) (fun x=>x.2.1.length+x.2.2.length) (-1,a,b) [some 0]
  ⟨Int.le_refl _,ha,hb,ba,bb,rfl⟩ ⟨rfl,rfl,⟨⟨rfl,rfl,rfl,.inl ⟨rfl,t5 _⟩⟩,trivial⟩,⟨rfl,rfl,⟨rfl,rfl,rfl⟩,trivial⟩⟩ ?_
 rintro ⟨last,a',b'⟩ ⟨h0,h1,h2,h3,h4,h5⟩
 simp only at h0 h1 h2 h3 h4 h5
 rw [h5]
 show a45 _ _ _ _ ([j2 a',j2 b',J,J,J,S.c (C.ptr 0 0 0),J,J,J,J,J,J,J,J,J,J,J,J,J,J,J,J,J,J,J,J,J,J,J,J,J,J,J,J,J,J,J,J,J,J,J,J,J,J,J,J,J,J,J,J,J,J,J,J,J,J,J,J,J,J,J,J,J,J,J,J,J,J,J,J,J,J,J,J,J,J,J]) [frB (fz ((0:Int):Rat))] _
 have ma:(a'.map k6).length=a'.length:=by simp
 have mb:(b'.map k6).length=b'.length:=by simp
 have lena:=w6 h1
 have lenb:=w6 h2
 clear h5
 cases a' with
 |nil=>
  have na:([]:List (Int × Rat)).length=0:=rfl
  cases b' with
  |nil=>
   have e:a9a [] []=true:=a3c.2 fun v=>Rat.le_refl
   rw [e]
   conv=>whnf
   repeat' first|(refine zd ?_ ?_<;>intro h<;>first|exact zc h|(exfalso;omega)|conv=>whnf)|((first|refine zz ?_|refine zy ?_);conv=>whnf)
   all_goals first
    |(exfalso;omega)
    |exact c6 rfl
  |cons u q=>
   have hm:=s9 h2 u (List.mem_cons_self ..)
   have nb:(u::q).length=q.length+1:=rfl
   have eq:=a9i (a:=[]) h0 h2 rfl
   have bu:=h4 u (List.mem_cons_self ..)
   have cm:=R4 ((0:Int):Rat) u.2 (by have e:rl ((0:Int):Rat)=rl 0:=rfl;omega) bu
   have k2:=Y1 (x:=((0:Int):Rat)) (y:=u.2)
   generalize a01 ((0:Int):Rat) u.2=U at cm k2
   by_cases hU:U > 0
   ·rw [a5o eq (Rat.not_le.2 (k2.1 hU))]
    clear k2
    conv=>whnf
    repeat' first|(refine zd ?_ ?_<;>intro h<;>first|exact zc h|(exfalso;omega)|conv=>whnf)|((first|refine zz ?_|refine qp cm ?_|refine qp 0 ?_|refine qp 1 ?_|refine qp (4,5) ?_|refine a0D (by omega) (by omega) (by omega) ?_|refine x3 (k:=0) rfl (show (u::q)[0]? =some u from rfl) ?_|refine bl0 [1] ?_|refine bl0 [4,5] ?_|refine zy ?_);conv=>whnf)
    all_goals first
     |(exfalso;omega)
     |exact c6 rfl
   ·rw [a5n eq (Rat.not_lt.1 fun h=>hU (k2.2 h))]
    clear k2
    conv=>whnf
    repeat' first|(refine zd ?_ ?_<;>intro h<;>first|exact zc h|(exfalso;omega)|conv=>whnf)|((first|refine zz ?_|refine qp cm ?_|refine qp 0 ?_|refine qp 1 ?_|refine qp (4,5) ?_|refine a0D (by omega) (by omega) (by omega) ?_|refine x3 (k:=0) rfl (show (u::q)[0]? =some u from rfl) ?_|refine bl0 [1] ?_|refine bl0 [4,5] ?_|refine zy ?_);conv=>whnf)
    all_goals first
     |(exfalso;omega)
     |exact ⟨[some 0],(u.1,[],q),⟨rfl,rfl,⟨⟨rfl,rfl,rfl,.inl ⟨rfl,t5 _⟩⟩,trivial⟩,⟨rfl,j0 (aN1 u q),⟨rfl,rfl,rfl⟩,trivial⟩⟩,⟨by omega,rfl,I7 h2,h3,fun t ht=>h4 t (List.mem_cons_of_mem _ ht),rfl⟩,by simp⟩
 |cons t r=>
  have hm:=s9 h1 t (List.mem_cons_self ..)
  have bt:=h3 t (List.mem_cons_self ..)
  have na:(t::r).length=r.length+1:=rfl
  cases b' with
  |nil=>
   have nb:([]:List (Int × Rat)).length=0:=rfl
   have eq:=ap1 (b:=[]) h0 h1 rfl
   have cm:=R4 t.2 ((0:Int):Rat) bt (by have e:rl ((0:Int):Rat)=rl 0:=rfl;omega)
   have k2:=Y1 (x:=t.2) (y:=((0:Int):Rat))
   generalize a01 t.2 ((0:Int):Rat)=U at cm k2
   by_cases hU:U > 0
   ·rw [a5o eq (Rat.not_le.2 (k2.1 hU))]
    clear k2
    conv=>whnf
    repeat' first|(refine zd ?_ ?_<;>intro h<;>first|exact zc h|(exfalso;omega)|conv=>whnf)|((first|refine zz ?_|refine qp cm ?_|refine qp 0 ?_|refine qp 1 ?_|refine qp (4,5) ?_|refine a0D (by omega) (by omega) (by omega) ?_|refine x3 (k:=0) rfl (show (t::r)[0]? =some t from rfl) ?_|refine bl0 [1] ?_|refine bl0 [4,5] ?_|refine zy ?_);conv=>whnf)
    all_goals first
     |(exfalso;omega)
     |exact c6 rfl
   ·rw [a5n eq (Rat.not_lt.1 fun h=>hU (k2.2 h))]
    clear k2
    conv=>whnf
    repeat' first|(refine zd ?_ ?_<;>intro h<;>first|exact zc h|(exfalso;omega)|conv=>whnf)|((first|refine zz ?_|refine qp cm ?_|refine qp 0 ?_|refine qp 1 ?_|refine qp (4,5) ?_|refine a0D (by omega) (by omega) (by omega) ?_|refine x3 (k:=0) rfl (show (t::r)[0]? =some t from rfl) ?_|refine bl0 [1] ?_|refine bl0 [4,5] ?_|refine zy ?_);conv=>whnf)
    all_goals first
     |(exfalso;omega)
     |exact ⟨[some 0],(t.1,r,[]),⟨rfl,rfl,⟨⟨rfl,rfl,rfl,.inl ⟨rfl,t5 _⟩⟩,trivial⟩,⟨j0 (aN1 t r),rfl,⟨rfl,rfl,rfl⟩,trivial⟩⟩,⟨by omega,I7 h1,rfl,fun t ht=>h3 t (List.mem_cons_of_mem _ ht),h4,rfl⟩,by simp⟩
  |cons u q=>
   have nb:(u::q).length=q.length+1:=rfl
   have hmu:=s9 h2 u (List.mem_cons_self ..)
   have bu:=h4 u (List.mem_cons_self ..)
   rcases Int.lt_trichotomy t.1 u.1 with hlt|he|hgt
   ·have hrb:e7 t.1 n (u::q)=true:=by
     have:=h2
     unfold e7 at this ⊢
     simp only [Bool.and_eq_true,decide_eq_true_eq] at this ⊢
     exact ⟨⟨⟨by omega,this.1.1.2⟩,this.1.2⟩,this.2⟩
    have eq:=ap1 h0 h1 hrb
    have cm:=R4 t.2 ((0:Int):Rat) bt (by have e:rl ((0:Int):Rat)=rl 0:=rfl;omega)
    have k2:=Y1 (x:=t.2) (y:=((0:Int):Rat))
    generalize a01 t.2 ((0:Int):Rat)=U at cm k2
    by_cases hU:U > 0
    ·rw [a5o eq (Rat.not_le.2 (k2.1 hU))]
     clear k2
     conv=>whnf
     repeat' first|(refine zd ?_ ?_<;>intro h<;>first|exact zc h|(exfalso;omega)|conv=>whnf)|((first|refine zz ?_|refine qp cm ?_|refine qp 0 ?_|refine qp 0 ?_|refine qp 1 ?_|refine qp (4,5) ?_|refine a0D (by omega) (by omega) (by omega) ?_|refine x3 (k:=0) rfl (show (u::q)[0]? =some u from rfl) ?_|refine x3 (k:=0) rfl (show (t::r)[0]? =some t from rfl) ?_|refine bl0 [1] ?_|refine bl0 [4,5] ?_|refine zy ?_);conv=>whnf)
     all_goals first
      |(exfalso;omega)
      |exact c6 rfl
    ·rw [a5n eq (Rat.not_lt.1 fun h=>hU (k2.2 h))]
     clear k2
     conv=>whnf
     repeat' first|(refine zd ?_ ?_<;>intro h<;>first|exact zc h|(exfalso;omega)|conv=>whnf)|((first|refine zz ?_|refine qp cm ?_|refine qp 0 ?_|refine qp 0 ?_|refine qp 1 ?_|refine qp (4,5) ?_|refine a0D (by omega) (by omega) (by omega) ?_|refine x3 (k:=0) rfl (show (u::q)[0]? =some u from rfl) ?_|refine x3 (k:=0) rfl (show (t::r)[0]? =some t from rfl) ?_|refine bl0 [1] ?_|refine bl0 [4,5] ?_|refine zy ?_);conv=>whnf)
     all_goals first
      |(exfalso;omega)
      |exact ⟨[some 0],(t.1,r,u::q),⟨rfl,rfl,⟨⟨rfl,rfl,rfl,.inl ⟨rfl,t5 _⟩⟩,trivial⟩,⟨j0 (aN1 t r),rfl,⟨rfl,rfl,rfl⟩,trivial⟩⟩,⟨by omega,I7 h1,hrb,fun t ht=>h3 t (List.mem_cons_of_mem _ ht),h4,rfl⟩,by simp⟩
   ·have eq:=b0j h0 h1 h2 he
    have cm:=R4 t.2 u.2 bt bu
    have k2:=Y1 (x:=t.2) (y:=u.2)
    generalize a01 t.2 u.2=U at cm k2
    by_cases hU:U > 0
    ·rw [a5o eq (Rat.not_le.2 (k2.1 hU))]
     clear k2
     conv=>whnf
     repeat' first|(refine zd ?_ ?_<;>intro h<;>first|exact zc h|(exfalso;omega)|conv=>whnf)|((first|refine zz ?_|refine qp cm ?_|refine qp 0 ?_|refine qp 0 ?_|refine qp 1 ?_|refine qp (4,5) ?_|refine a0D (by omega) (by omega) (by omega) ?_|refine x3 (k:=0) rfl (show (u::q)[0]? =some u from rfl) ?_|refine x3 (k:=0) rfl (show (t::r)[0]? =some t from rfl) ?_|refine bl0 [1] ?_|refine bl0 [4,5] ?_|refine zy ?_);conv=>whnf)
     all_goals first
      |(exfalso;omega)
      |exact c6 rfl
    ·rw [a5n eq (Rat.not_lt.1 fun h=>hU (k2.2 h))]
     clear k2
     conv=>whnf
     repeat' first|(refine zd ?_ ?_<;>intro h<;>first|exact zc h|(exfalso;omega)|conv=>whnf)|((first|refine zz ?_|refine qp cm ?_|refine qp 0 ?_|refine qp 0 ?_|refine qp 1 ?_|refine qp (4,5) ?_|refine a0D (by omega) (by omega) (by omega) ?_|refine x3 (k:=0) rfl (show (u::q)[0]? =some u from rfl) ?_|refine x3 (k:=0) rfl (show (t::r)[0]? =some t from rfl) ?_|refine bl0 [1] ?_|refine bl0 [4,5] ?_|refine zy ?_);conv=>whnf)
     all_goals first
      |(exfalso;omega)
      |exact ⟨[some 0],(t.1,r,q),⟨rfl,rfl,⟨⟨rfl,rfl,rfl,.inl ⟨rfl,t5 _⟩⟩,trivial⟩,⟨j0 (aN1 t r),j0 (aN1 u q),⟨rfl,rfl,rfl⟩,trivial⟩⟩,⟨by omega,I7 h1,by rw [he];exact I7 h2,fun t ht=>h3 t (List.mem_cons_of_mem _ ht),fun t ht=>h4 t (List.mem_cons_of_mem _ ht),rfl⟩,by simp;omega⟩
   ·have hra:e7 u.1 n (t::r)=true:=by
     have:=h1
     unfold e7 at this ⊢
     simp only [Bool.and_eq_true,decide_eq_true_eq] at this ⊢
     exact ⟨⟨⟨by omega,this.1.1.2⟩,this.1.2⟩,this.2⟩
    have eq:=a9i h0 h2 hra
    have cm:=R4 ((0:Int):Rat) u.2 (by have e:rl ((0:Int):Rat)=rl 0:=rfl;omega) bu
    have k2:=Y1 (x:=((0:Int):Rat)) (y:=u.2)
    generalize a01 ((0:Int):Rat) u.2=U at cm k2
    by_cases hU:U > 0
    ·rw [a5o eq (Rat.not_le.2 (k2.1 hU))]
     clear k2
     conv=>whnf
     repeat' first|(refine zd ?_ ?_<;>intro h<;>first|exact zc h|(exfalso;omega)|conv=>whnf)|((first|refine zz ?_|refine qp cm ?_|refine qp 0 ?_|refine qp 0 ?_|refine qp 1 ?_|refine qp (4,5) ?_|refine a0D (by omega) (by omega) (by omega) ?_|refine x3 (k:=0) rfl (show (u::q)[0]? =some u from rfl) ?_|refine x3 (k:=0) rfl (show (t::r)[0]? =some t from rfl) ?_|refine bl0 [1] ?_|refine bl0 [4,5] ?_|refine zy ?_);conv=>whnf)
     all_goals first
      |(exfalso;omega)
      |exact c6 rfl
    ·rw [a5n eq (Rat.not_lt.1 fun h=>hU (k2.2 h))]
     clear k2
     conv=>whnf
     repeat' first|(refine zd ?_ ?_<;>intro h<;>first|exact zc h|(exfalso;omega)|conv=>whnf)|((first|refine zz ?_|refine qp cm ?_|refine qp 0 ?_|refine qp 0 ?_|refine qp 1 ?_|refine qp (4,5) ?_|refine a0D (by omega) (by omega) (by omega) ?_|refine x3 (k:=0) rfl (show (u::q)[0]? =some u from rfl) ?_|refine x3 (k:=0) rfl (show (t::r)[0]? =some t from rfl) ?_|refine bl0 [1] ?_|refine bl0 [4,5] ?_|refine zy ?_);conv=>whnf)
     all_goals first
      |(exfalso;omega)
      |exact ⟨[some 0],(u.1,t::r,q),⟨rfl,rfl,⟨⟨rfl,rfl,rfl,.inl ⟨rfl,t5 _⟩⟩,trivial⟩,⟨rfl,j0 (aN1 u q),⟨rfl,rfl,rfl⟩,trivial⟩⟩,⟨by omega,hra,I7 h2,h3,fun t ht=>h4 t (List.mem_cons_of_mem _ ht),rfl⟩,by simp⟩
theorem aY0 {s:f5} {g:List (Int × Rat)} {y:Nat→Rat} (hr:f9 s=true) (hg:e7 (-1) s.n g=true):a9a (F5 s y s.n.toNat) g=(List.range s.n.toNat).all fun v=>decide (C1 s y v≤u3 g v):=by
 have hn:=a2v hr
 have hm:=a2r s y s.n.toNat
 rw [Bool.eq_iff_iff,a3c,List.all_eq_true]
 constructor
 ·intro h v hv
  rw [List.mem_range] at hv
  have:=h v
  rw [a8A hv] at this
  exact decide_eq_true this
 ·intro h v
  by_cases hv:v<s.n.toNat
  ·rw [a8A hv];exact of_decide_eq_true (h v (List.mem_range.2 hv))
  ·rw [show u3 (F5 s y s.n.toNat) v=0 from S1 _ fun i t _ ht=>by
    have:=s9 hm t (lg2 ht);omega,show u3 g v=0 from S1 _ fun i t _ ht=>by
    have:=s9 hg t (lg2 ht);omega]
   exact Rat.le_refl
theorem a6F (s:f5) (hb:U7 s) (hr:f9 s=true) (g:List (Int × Rat)) (y:List Fr) (hy:a94 y) (h:(decide (y.length=s.rows.length) && y.all t6)=false):
 b9 Tryz.prog 90 [F0 s,j2 g,k7 y] [] (.tup [frS C2,e6 false]) []:=by
 have sn:=a6T s hb hr y hy h
 (refine a8 a7 Tryz.func90 rfl (by decide) ?_;(conv=>whnf);repeat ((first|refine b0x ?_|refine zy ?_);conv=>whnf))
 repeat' first|(refine zd ?_ ?_<;>intro h<;>first|exact zc h|(exfalso;omega)|conv=>whnf)|((first|refine zz ?_|refine qp sn ?_|refine zy ?_);conv=>whnf)
 all_goals exact j5 ⟨⟨rfl,rfl,rfl,rfl,trivial⟩,rfl,trivial⟩
set_option maxHeartbeats 4000000 in
theorem ao4 (s:f5) (hb:U7 s) (hr:f9 s=true) (hn1:s.n≤1000) (g:List (Int × Rat)) (hg:g.length≤1000000) (hgb:∀t ∈ g,rl t.2≤200) (Y:List Rat) (hy:∀v ∈ Y,rl v≤40000) (hyl:Y.length≤1000000) (hq:Y.length=s.rows.length→a4u s Y):
 b9 Tryz.prog 90 [F0 s,j2 g,k7 (Y.map fz)] [] (a1F s g Y) []:=by
 have h0n:=a2v hr
 have sn:=aN5 s hb hr Y hyl (fun v hv=>by have:=hy v hv;omega)
 have rt:=I0 g s.n hg hgb
 rw [decide_eq_true (show 0≤s.n by omega),Bool.true_and] at rt
 cases hs:N8 s Y with
 |false=>
  have e:a1F s g Y=.tup [frS C2,e6 false]:=by unfold a1F U8;rw [hs];rfl
  rw [e]
  rw [hs] at sn
  (refine a8 a7 Tryz.func90 rfl (by decide) ?_;(conv=>whnf);repeat ((first|refine b0x ?_|refine zy ?_);conv=>whnf))
  repeat' first|(refine zd ?_ ?_<;>intro h<;>first|exact zc h|(exfalso;omega)|conv=>whnf)|((first|refine zz ?_|refine qp sn ?_|refine qp rt ?_|refine zy ?_);conv=>whnf)
  all_goals first
   |(exfalso;simp_all;done)
   |exact j5 ⟨⟨rfl,rfl,rfl,rfl,trivial⟩,rfl,trivial⟩
 |true=>
 rw [hs] at sn
 cases ht:e7 (-1) s.n g with
 |false=>
  have e:a1F s g Y=.tup [frS C2,e6 false]:=by unfold a1F U8;rw [hs,ht];rfl
  rw [e]
  rw [ht] at rt
  (refine a8 a7 Tryz.func90 rfl (by decide) ?_;(conv=>whnf);repeat ((first|refine b0x ?_|refine zy ?_);conv=>whnf))
  repeat' first|(refine zd ?_ ?_<;>intro h<;>first|exact zc h|(exfalso;omega)|conv=>whnf)|((first|refine zz ?_|refine qp sn ?_|refine qp rt ?_|refine zy ?_);conv=>whnf)
  all_goals first
   |(exfalso;simp_all;done)
   |exact j5 ⟨⟨rfl,rfl,rfl,rfl,trivial⟩,rfl,trivial⟩
 |true=>
 rw [ht] at rt
 have hl:Y.length=s.rows.length:=by
  unfold N8 at hs
  simp only [Bool.and_eq_true,decide_eq_true_eq] at hs
  exact hs.1
 have hq:=hq hl
 have mx:=b4M s hb hr Y hq hn1
 have mr:=a2r s (yN Y) s.n.toNat
 have be:=b1A s.n (F5 s (yN Y) s.n.toNat) g (by rw [← h0n];exact mr) ht (by omega) (fun t ht=>by
  obtain ⟨v,h1,h2,rfl⟩:=a4T.1 ht
  have h3:rl (C1 s (yN Y) v)≤50000:=hq.n v s.rows.length
  show rl (C1 s (yN Y) v)≤60000
  omega) (fun t ht=>by have:=hgb t ht;omega)
 rw [aY0 hr ht] at be
 have eb:U8 s g Y=(List.range s.n.toNat).all fun v=>decide (C1 s (yN Y) v≤u3 g v):=by unfold U8;rw [hs,ht];simp
 unfold a1F
 rw [eb]
 generalize (List.range s.n.toNat).all (fun v=>decide (C1 s (yN Y) v≤u3 g v))=B at be
 cases B with
 |true=>
  rw [if_pos rfl]
  (refine a8 a7 Tryz.func90 rfl (by decide) ?_;(conv=>whnf);repeat ((first|refine b0x ?_|refine zy ?_);conv=>whnf))
  repeat' first|(refine zd ?_ ?_<;>intro h<;>first|exact zc h|(exfalso;omega)|conv=>whnf)|((first|refine zz ?_|refine qp sn ?_|refine qp rt ?_|refine qp mx ?_|refine qp be ?_|refine qp 5 ?_|refine bl0 [5] ?_|refine zy ?_);conv=>whnf)
  all_goals first
   |(exfalso;simp_all;done)
   |exact j5 ⟨⟨rfl,rfl,rfl,rfl,trivial⟩,rfl,trivial⟩
 |false=>
  rw [if_neg (by decide)]
  (refine a8 a7 Tryz.func90 rfl (by decide) ?_;(conv=>whnf);repeat ((first|refine b0x ?_|refine zy ?_);conv=>whnf))
  repeat' first|(refine zd ?_ ?_<;>intro h<;>first|exact zc h|(exfalso;omega)|conv=>whnf)|((first|refine zz ?_|refine qp sn ?_|refine qp rt ?_|refine qp mx ?_|refine qp be ?_|refine qp 5 ?_|refine bl0 [5] ?_|refine zy ?_);conv=>whnf)
  all_goals first
   |(exfalso;simp_all;done)
   |exact j5 ⟨⟨rfl,rfl,rfl,rfl,trivial⟩,rfl,trivial⟩
theorem a9c (s:f5) (hb:U7 s) (hr:f9 s=true) (y:List Fr) (hy:a94 y) (h:(decide (y.length=s.rows.length) && y.all t6)=false):
 b9 Tryz.prog 88 [F0 s,k7 y] [] (e6 false) []:=by
 have lo:=a8m (a6F s hb hr [] y hy h)
 (refine a8 a7 Tryz.func88 rfl (by decide) ?_;(conv=>whnf);repeat ((first|refine b0x ?_|refine zy ?_);conv=>whnf))
 repeat' first|(refine zd ?_ ?_<;>intro h<;>first|exact zc h|(exfalso;omega)|conv=>whnf)|((first|refine zz ?_|refine qp lo ?_|refine qp 5 ?_|refine bl0 [5] ?_|refine zy ?_);conv=>whnf)
 all_goals first
  |(exfalso;simp_all;done)
  |exact c6 rfl
theorem aE3 (s:f5) (hb:U7 s) (hr:f9 s=true) (hn1:s.n≤1000) (Y:List Rat) (hy:∀v ∈ Y,rl v≤40000) (hyl:Y.length≤1000000) (hq:Y.length=s.rows.length→a4u s Y):
 b9 Tryz.prog 88 [F0 s,k7 (Y.map fz)] [] (e6 (a5f s Y)) []:=by
 have lo:=a8m (ao4 s hb hr hn1 [] (by simp) (fun t ht=>by cases ht) Y hy hyl hq)
 unfold a1F at lo
 unfold a5f
 cases hB:U8 s [] Y with
 |false=>
  rw [hB,if_neg (by decide)] at lo
  (refine a8 a7 Tryz.func88 rfl (by decide) ?_;(conv=>whnf);repeat ((first|refine b0x ?_|refine zy ?_);conv=>whnf))
  repeat' first|(refine zd ?_ ?_<;>intro h<;>first|exact zc h|(exfalso;omega)|conv=>whnf)|((first|refine zz ?_|refine qp lo ?_|refine qp 5 ?_|refine bl0 [5] ?_|refine zy ?_);conv=>whnf)
  all_goals first
   |(exfalso;simp_all;done)
   |exact c6 rfl
 |true=>
  rw [hB,if_pos rfl] at lo
  have hl:Y.length=s.rows.length:=by
   unfold U8 N8 at hB
   simp only [Bool.and_eq_true,decide_eq_true_eq] at hB
   exact hB.1.1.1
  have b:=(hq hl).v s.rows.length
  have b:rl (J4 s (yN Y))≤50000:=b
  have sg:=K9 (J4 s (yN Y)) (by omega)
  have sp:=a1d (x:=J4 s (yN Y))
  have e:decide (0<J4 s (yN Y))=decide (sgR (J4 s (yN Y)) > 0):=by rw [decide_eq_decide];exact sp.symm
  rw [e]
  generalize sgR (J4 s (yN Y))=U at sg
  clear sp e
  (refine a8 a7 Tryz.func88 rfl (by decide) ?_;(conv=>whnf);repeat ((first|refine b0x ?_|refine zy ?_);conv=>whnf))
  repeat' first|(refine zd ?_ ?_<;>intro h<;>first|exact zc h|(exfalso;omega)|conv=>whnf)|((first|refine zz ?_|refine qp lo ?_|refine qp sg ?_|refine qp 5 ?_|refine bl0 [5] ?_|refine zy ?_);conv=>whnf)
  all_goals first
   |(exfalso;simp_all;done)
   |(refine c6 ?_;rw [Bool.true_and];first|exact (decide_eq_true (by omega)).symm|exact (decide_eq_false (by omega)).symm)
end
end Go.Proofs.YtdbogogfeffjlaaGreat
