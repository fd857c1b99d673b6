/- Part 7. -/
import Derived.Test.YtdbogogfeffjlaaGreatQs6
namespace Go.Proofs.YtdbogogfeffjlaaGreat
set_option linter.unusedVariables false
set_option linter.unusedSimpArgs false
set_option maxRecDepth 100000
open Go.RowKit
open St1 St2 St3 St4 St5 St6 St7 St8
def a4V (e:Ev) (m k:Int):Bool:=decide (e.mats<=k) && decide (e.hhs<=6) && decide (e.scs<=6) && decide (e.places.length<=12) && decide ((e.moves.length:Int)<=m) && decide (e.certs.length<=10) && decide (e.recalls.length<=4) && decide (e.purities.length<=6)
theorem b2r (e:Ev) (m k:Int):a9 Tryz.prog 57 [evS e,a7 .i64 m,a7 .i64 k] [] (d6 (a4V e m k)) []:=by
 have m1:(e.places.map H6.row).length=e.places.length:=by simp
 have m2:(e.moves.map x8.row).length=e.moves.length:=by simp
 have m3:(e.certs.map I6.row).length=e.certs.length:=by simp
 have m4:(e.recalls.map B4.row).length=e.recalls.length:=by simp
 have m5:(e.purities.map a0K.row).length=e.purities.length:=by simp
 (refine ac Tryz.func57 ?_;(conv=>whnf);repeat ((first|refine b0x ?_|refine zy ?_);conv=>whnf))
 repeat' (first|refine zz ?_|refine zd ?_ ?_<;>intro h<;>try omega|refine zy ?_|fail)<;>conv=>whnf
 all_goals
  refine b7 ?_
  unfold a4V
  simp only [m1,m2,m3,m4,m5] at *
  first
   |(symm;simp only [Bool.and_eq_true,decide_eq_true_eq];omega)
   |(symm;rw [← Bool.not_eq_true];simp only [Bool.and_eq_true,decide_eq_true_eq];omega)
def a3w (t:f5) (m:Int):Bool:=a4V t.ev m 3 && decide (t.ev.hhs<=4) && decide (t.finds.length<=6) && decide (t.cleans.length<=6)
theorem b49 (t:f5) (m:Int):a9 Tryz.prog 15 [trS t,a7 .i64 m] [] (d6 (a3w t m)) []:=by
 have r:=b2r t.ev m 3
 have m1:(t.finds.map I8.row).length=t.finds.length:=by simp
 have m2:(t.cleans.map R9.row).length=t.cleans.length:=by simp
 unfold a3w
 cases hq:a4V t.ev m 3<;>rw [hq] at r<;>
 ·(refine ac Tryz.func15 ?_;(conv=>whnf);repeat ((first|refine b0x ?_|refine zy ?_);conv=>whnf))
  repeat' (first|refine zz ?_|refine qp r ?_|refine zd ?_ ?_<;>intro h<;>try omega|refine zy ?_|fail)<;>conv=>whnf
  all_goals
   refine b7 ?_
   simp only [m1,m2] at *
   first
    |rfl
    |(symm;simp only [Bool.true_and,Bool.and_eq_true,decide_eq_true_eq];omega)
    |(symm;rw [← Bool.not_eq_true];simp only [Bool.and_eq_true,decide_eq_true_eq];omega)
theorem a59 {t:f5} {m:Int} (hm:m<=100) (h:a3w t m=true):t.Sized∧(t.ev.moves.length:Int)<=m∧t.ev.hhs<=4:=by
 unfold a3w a4V at h
 simp only [Bool.and_eq_true,decide_eq_true_eq] at h
 exact ⟨⟨⟨by omega,by omega,by omega,by omega,by omega⟩,by omega,by omega⟩,by omega,by omega⟩
def a1q (z:List Fr) (n:Nat) (d:Int):Bool:=(z.take (n+1)).all (aN9 d) && decide (z.length<=n)
theorem a9j (z:List Fr) (n:Nat) (d:Int) (hn:n<=1000):a9 Tryz.prog 19 [i8 z,a7 .i64 n,a7 .i64 d] [] (d6 (a1q z n d)) []:=by
 have m1:(z.map k7).length=z.length:=by simp
 (refine ac Tryz.func19 ?_;(conv=>whnf);repeat ((first|refine b0x ?_|refine zy ?_);conv=>whnf))
 repeat' (first|refine zz ?_|refine zd ?_ ?_<;>intro h<;>try omega|refine zy ?_|fail)<;>conv=>whnf
 refine d7 c8 (fun k=>([i8 z,a7 .i64 n,a7 .i64 d,J,J,J,J,a7 .i64 k,J,J,J,J,J,J,J,J,J,J,J,J,J,J,J,J,J,J,J,J,J,J],[])) (n+1) (fun k=>k<=z.length∧(z.take k).all (aN9 d)=true) [] ⟨Nat.zero_le _,rfl⟩
  ⟨rfl,rfl,trivial,⟨rfl,rfl,rfl,rfl,trivial⟩⟩ ?_
 rintro k hk ⟨hle,hI⟩
 by_cases hlt:k<z.length∧k<n+1
 ·obtain ⟨f,hf⟩:∃f,z[k]? =some f:=⟨_,lg0 hlt.1⟩
  have hf2:(z.take (n+1))[k]? =some f:=by rw [List.getElem?_take,if_pos hlt.2];exact hf
  have r:=b7O f d
  cases hff:aN9 d f with
  |true=>
   rw [hff] at r
   conv=>whnf
   repeat' (first|refine zz ?_|refine qp r ?_|refine b9 hf ?_|refine zd ?_ ?_<;>intro h<;>try omega|refine zy ?_|fail)<;>conv=>whnf
   all_goals first
    |omega
    |exact ⟨hlt.2,⟨by omega,by rw [n6 hf,hI,hff];rfl⟩,[],rfl,rfl,trivial,⟨rfl,rfl,rfl,rfl,trivial⟩⟩
  |false=>
   rw [hff] at r
   have e1:a1q z n d=false:=by unfold a1q;rw [t7 hf2 hff];rfl
   rw [e1]
   conv=>whnf
   repeat' (first|refine zz ?_|refine qp r ?_|refine b9 hf ?_|refine zd ?_ ?_<;>intro h<;>try omega|refine zy ?_|fail)<;>conv=>whnf
   all_goals first
    |omega
    |exact b7 rfl
 ·have hk2:z.length=k∨k=n+1:=by omega
  have hall:(z.take (n+1)).all (aN9 d)=true:=by
   rcases hk2 with h|h
   ·have e:z.take (n+1)=z.take k:=by rw [lg4 (by omega),lg4 (by omega)]
    rw [e];exact hI
   ·rw [← h];exact hI
  conv=>whnf
  repeat' (first|refine zz ?_|refine zd ?_ ?_<;>intro h<;>try omega|refine zy ?_|fail)<;>conv=>whnf
  all_goals first
   |omega
   |(refine b7 ?_;unfold a1q;rw [hall];simp;omega)
theorem a7R {z:List Fr} {n:Nat} {d:Int} (h:a1q z n d=true):z.length<=n∧∀f ∈ z,(f.p.dl.length:Int)<=d∧(f.q.dl.length:Int)<=d:=by
 unfold a1q at h
 simp only [Bool.and_eq_true,decide_eq_true_eq] at h
 obtain ⟨h1,h2⟩:=h
 rw [lg4 (by omega),List.all_eq_true] at h1
 refine ⟨h2,fun f hf=>?_⟩
 have:=h1 f hf
 unfold aN9 at this
 simp only [Bool.and_eq_true,decide_eq_true_eq] at this
 exact this
theorem b0p {f:Nat->Rat}:∀{n:Nat},0<g4 f n->∃j,j<n∧0<f j
 |0,h=>absurd (show (0:Rat)<0 from h) (by decide +kernel)
 |n+1,h=>by
  simp only [g4] at h
  by_cases h1:0<f n
  ·exact ⟨n,by omega,h1⟩
  ·obtain ⟨j,hj,hp⟩:=b0p (f:=f) (n:=n) (by grind)
   exact ⟨j,by omega,hp⟩
def x9:List (Int × Rat)->List (Int × Rat)->List (Int × Rat)
 |[],b=>b
 |t::r,[]=>t::r
 |t::r,u::q=>if t.1<u.1 then t::x9 r (u::q) else if u.1<t.1 then u::x9 (t::r) q else if t.2+u.2=0 then x9 r q else (t.1,t.2+u.2)::x9 r q
termination_by a b=>a.length+b.length
theorem U6 {last n:Int} {t:Int × Rat} {r:List (Int × Rat)} (h1:last<t.1) (h2:t.1<n) (h3:t.2≠0) (h4:e8 t.1 n r=true):e8 last n (t::r)=true:=by
 unfold e8
 simp only [Bool.and_eq_true,decide_eq_true_eq]
 exact ⟨⟨⟨h1,h2⟩,h3⟩,h4⟩
theorem ac7 {n:Int}:∀(k:Nat) {last:Int} {a b:List (Int × Rat)},a.length+b.length<=k->-1<=last->e8 last n a=true->e8 last n b=true->
 e8 last n (x9 a b)=true∧∀v,v8 (x9 a b) v=v8 a v+v8 b v:=by
 intro k
 induction k with
 |zero=>
  intro last a b hk h0 ha hb
  have:a=[]:=List.length_eq_zero_iff.1 (by omega)
  have:b=[]:=List.length_eq_zero_iff.1 (by omega)
  subst a b
  rw [x9]
  exact ⟨rfl,fun v=>by show (0:Rat)=0+0;grind⟩
 |succ k ih=>
  intro last a b hk h0 ha hb
  match a,b with
  |[],b=>rw [x9];exact ⟨hb,fun v=>by show _=(0:Rat)+_;grind⟩
  |t::r,[]=>rw [x9];exact ⟨ha,fun v=>by show _=_+(0:Rat);grind⟩
  |t::r,u::q=>
   have mt:=p8 ha t (List.mem_cons_self ..)
   have mu:=p8 hb u (List.mem_cons_self ..)
   simp only [List.length_cons] at hk
   rw [x9]
   by_cases h1:t.1<u.1
   ·rw [if_pos h1]
    have hb':e8 t.1 n (u::q)=true:=U6 h1 mu.2.1 mu.2.2 (z4 hb)
    obtain ⟨i1,i2⟩:=ih (last:=t.1) (a:=r) (b:=u::q) (by simp only [List.length_cons];omega) (by omega) (z4 ha) hb'
    have hr:=U6 mt.1 mt.2.1 mt.2.2 i1
    refine ⟨hr,fun v=>?_⟩
    rw [x7 h0 hr,x7 h0 ha,i2]
    by_cases hv:v=t.1.toNat
    ·rw [if_pos hv,if_pos hv,Z2 (v:=v) (by omega) hb' (by omega)];grind
    ·rw [if_neg hv,if_neg hv]
   ·rw [if_neg h1]
    by_cases h2:u.1<t.1
    ·rw [if_pos h2]
     have ha':e8 u.1 n (t::r)=true:=U6 h2 mt.2.1 mt.2.2 (z4 ha)
     obtain ⟨i1,i2⟩:=ih (last:=u.1) (a:=t::r) (b:=q) (by simp only [List.length_cons];omega) (by omega) ha' (z4 hb)
     have hr:=U6 mu.1 mu.2.1 mu.2.2 i1
     refine ⟨hr,fun v=>?_⟩
     rw [x7 h0 hr,x7 h0 hb,i2]
     by_cases hv:v=u.1.toNat
     ·rw [if_pos hv,if_pos hv,Z2 (v:=v) (by omega) ha' (by omega)];grind
     ·rw [if_neg hv,if_neg hv]
    ·rw [if_neg h2]
     have he:t.1=u.1:=by omega
     have hq':=z4 hb
     rw [← he] at hq'
     obtain ⟨i1,i2⟩:=ih (last:=t.1) (a:=r) (b:=q) (by omega) (by omega) (z4 ha) hq'
     by_cases h3:t.2+u.2=0
     ·rw [if_pos h3]
      refine ⟨ay0 (by omega) i1,fun v=>?_⟩
      rw [x7 h0 ha,x7 h0 hb,←he]
      by_cases hv:v=t.1.toNat
      ·rw [if_pos hv,if_pos hv,Z2 (v:=v) (by omega) i1 (by omega)];grind
      ·rw [if_neg hv,if_neg hv,i2]
     ·rw [if_neg h3]
      have hr:=U6 (t:=(t.1,t.2+u.2)) mt.1 mt.2.1 h3 i1
      refine ⟨hr,fun v=>?_⟩
      rw [x7 h0 hr,x7 h0 ha,x7 h0 hb,←he,i2]
      by_cases hv:v=t.1.toNat
      ·simp only [if_pos hv]
      ·simp only [if_neg hv]
theorem b4k {n:Nat} {a b:List (Int × Rat)} (ha:e8 (-1) (n:Int) a=true) (hb:e8 (-1) (n:Int) b=true) (z:List Rat):j9 (x9 a b) z=j9 a z+j9 b z:=by
 obtain ⟨h1,h2⟩:=ac7 (a.length+b.length) (Nat.le_refl _) (Int.le_refl _) ha hb
 rw [M6 h1,M6 ha,M6 hb,←a0h]
 exact f6 fun j hj=>by rw [h2];grind
def a0d (B:Nat) (l:List (Int × Rat)):Prop:=∀t ∈ l,∃c:Int,t.2=((c:Int):Rat)∧c.natAbs<=B
theorem aS9:∀(k:Nat) {A B:Nat} {a b:List (Int × Rat)},a.length+b.length<=k->a0d A a->a0d B b->a0d (A+B) (x9 a b):=by
 intro k
 have up:∀{X Y:Nat} {l:List (Int × Rat)},X<=Y->a0d X l->a0d Y l:=fun h hl t ht=>by
  obtain ⟨c,h1,h2⟩:=hl t ht;exact ⟨c,h1,by omega⟩
 have tl:∀{X:Nat} {t:Int × Rat} {l:List (Int × Rat)},a0d X (t::l)->a0d X l:=fun h u hu=>h u (List.mem_cons_of_mem _ hu)
 have cons:∀{X:Nat} {t:Int × Rat} {l:List (Int × Rat)},(∃ c:Int,t.2=((c:Int):Rat)∧c.natAbs<=X)->a0d X l->a0d X (t::l):=fun h hl u hu=>by
  rcases List.mem_cons.1 hu with rfl|hu
  ·exact h
  ·exact hl u hu
 induction k with
 |zero=>
  intro A B a b hk ha hb
  have:a=[]:=List.length_eq_zero_iff.1 (by omega)
  have:b=[]:=List.length_eq_zero_iff.1 (by omega)
  subst a b
  rw [x9]
  exact up (by omega) hb
 |succ k ih=>
  intro A B a b hk ha hb
  match a,b with
  |[],b=>rw [x9];exact up (by omega) hb
  |t::r,[]=>rw [x9];exact up (by omega) ha
  |t::r,u::q=>
   simp only [List.length_cons] at hk
   obtain ⟨c,hc,hcb⟩:=ha t (List.mem_cons_self ..)
   obtain ⟨d,hd,hdb⟩:=hb u (List.mem_cons_self ..)
   rw [x9]
   split
   ·exact cons ⟨c,hc,by omega⟩ (ih (by simp only [List.length_cons];omega) (tl ha) hb)
   ·split
    ·exact cons ⟨d,hd,by omega⟩ (ih (by simp only [List.length_cons];omega) ha (tl hb))
    ·split
     ·exact ih (by omega) (tl ha) (tl hb)
     ·refine cons ⟨c+d,by show t.2+u.2=_;rw [hc,hd];push_cast;rfl,?_⟩ (ih (by omega) (tl ha) (tl hb))
      have:=Int.natAbs_add_le c d;omega
noncomputable def Q9 (s:f8) (g:List (Int × Rat)):List Rat:=match a0L s (P6 g) with
 |.col c=>X4 (y8 s []) (a57 s (P6 g) c)
 |_=>y8 s (P6 g)
structure am9 (s:f8) (g:List (Int × Rat)):Prop where
 r:g6 s=true
 z:a0L s []=.best
 t:e8 (-1) ((s.n.toNat:Nat):Int) g=true
 p:∀z,j0 s z=true->0<=j9 g z
theorem am9.og {s:f8} {g:List (Int × Rat)} (h:am9 s g):e8 (-1) ((s.n.toNat:Nat):Int) (P6 g)=true:=W4 h.t
theorem a9v {s:f8} {g:List (Int × Rat)} (h:am9 s g):j0 s (Q9 s g)=true∧((∃ z,j0 s z=true∧0<j9 g z)->0<j9 g (Q9 s g)):=by
 have h0:=(a2G h.r rfl h.z).1
 unfold Q9
 rcases at3 (g:=P6 g) h.r h.z with ho|⟨c,ho⟩
 ·rw [ho]
  simp only
  obtain ⟨p1,p2⟩:=a2G h.r h.og ho
  refine ⟨p1,fun ⟨z,hz,hp⟩=>?_⟩
  have:=p2 z hz
  rw [a2K (s:=s) (g:=g),a2K (s:=s) (g:=g)] at this
  grind
 ·rw [ho]
  simp only
  obtain ⟨h1,h2⟩:=ap8 h.r h.og ho
  refine ⟨b1a h0 h1,fun _=>?_⟩
  have h3:=N3 h0
  have hn:=V7 h.r
  rw [a2B (n:=s.n.toNat) (by omega) h1.len h.t]
  rw [a2K (s:=s) (g:=g)] at h2
  have:=h.p _ h0
  grind
def M5 (gL:List (List (Int × Rat))) (out:List Bool):Nat->List (Int × Rat)
 |0=>[]
 |k+1=>if out.getD k false=true then M5 gL out k else x9 (M5 gL out k) (gL.getD k [])
noncomputable def a0y (s:f8) (gL:List (List (Int × Rat))) (out:List Bool):List Rat:=Q9 s (M5 gL out gL.length)
def a1k (g:List (Int × Rat)) (x:List Rat):Bool:=decide (0<j9 g x)
noncomputable def aj1 (s:f8) (gL:List (List (Int × Rat))) (out:List Bool):List Bool:=(List.range gL.length).map fun i=>out.getD i false || a1k (gL.getD i []) (a0y s gL out)
noncomputable def t9 (s:f8) (gL:List (List (Int × Rat))):Nat->List Bool
 |0=>List.replicate gL.length false
 |k+1=>aj1 s gL (t9 s gL k)
noncomputable def Z1 (s:f8) (gL:List (List (Int × Rat))):Nat->List Rat
 |0=>a0y s gL (t9 s gL 0)
 |k+1=>X4 (Z1 s gL k) (a0y s gL (t9 s gL (k+1)))
theorem O0 (s:f8) (gL:List (List (Int × Rat))):∀k,(t9 s gL k).length=gL.length
 |0=>by simp [t9]
 |k+1=>by simp [t9,aj1]
theorem a1H {s:f8} {gL:List (List (Int × Rat))} {k i:Nat} (hi:i<gL.length):(t9 s gL (k+1)).getD i false=((t9 s gL k).getD i false || a1k (gL.getD i []) (a0y s gL (t9 s gL k))):=by
 show (aj1 s gL (t9 s gL k)).getD i false=_
 unfold aj1
 rw [lg3]
 simp [hi]
theorem a5c {a b:List Bool} (hl:a.length=b.length) (h:∀i,i<a.length->a.getD i false=b.getD i false):a=b:=by
 refine List.ext_getElem hl fun i h1 h2=>?_
 have:=h i h1
 rwa [lg3,lg3,lg0 h1,lg0 h2] at this
def ab0:List Bool->Nat
 |[]=>0
 |b::l=>(if b then 1 else 0)+ab0 l
theorem b07:∀l:List Bool,ab0 l<=l.length
 |[]=>by simp [ab0]
 |b::l=>by
  have:=b07 l
  cases b<;>simp [ab0]<;>omega
theorem ak5:∀{a b:List Bool},a.length=b.length->(∀ i,a.getD i false=true->b.getD i false=true)->ab0 a<=ab0 b∧(a≠b->ab0 a<ab0 b)
 |[],[],_,_=>⟨Nat.le_refl _,fun h=>absurd rfl h⟩
 |x::a,y::b,hl,h=>by
  have ih:=ak5 (a:=a) (b:=b) (by simpa using hl) (fun i hi=>by have:=h (i+1);simpa using this (by simpa using hi))
  have h0:=h 0
  simp only [List.getD_cons_zero] at h0
  refine ⟨?_,fun hne=>?_⟩
  ·cases x<;>cases y<;>simp [ab0] at * <;>omega
  ·cases x<;>cases y<;>simp [ab0] at * <;>first|omega|(have:=ih.2 hne;omega)
theorem b0C {s:f8} {gL:List (List (Int × Rat))} {k i:Nat} (h:(t9 s gL k).getD i false=true):(t9 s gL (k+1)).getD i false=true:=by
 by_cases hi:i<gL.length
 ·rw [a1H hi,h];rfl
 ·rw [lg3,List.getElem?_eq_none (by rw [O0];omega)] at h;cases h
theorem ax8 {s:f8} {gL:List (List (Int × Rat))}:∀k,(∀ j,j<k->t9 s gL (j+1)≠t9 s gL j)->k<=ab0 (t9 s gL k)
 |0,_=>Nat.zero_le _
 |k+1,h=>by
  have ih:=ax8 (s:=s) (gL:=gL) k fun j hj=>h j (by omega)
  have:=(ak5 (a:=t9 s gL k) (b:=t9 s gL (k+1)) (by rw [O0,O0]) fun i hi=>b0C hi).2 fun e=>h k (by omega) e.symm
  omega
theorem a4b {s:f8} {gL:List (List (Int × Rat))} {k:Nat} (h:∀j,j<k->t9 s gL (j+1)≠t9 s gL j):k<=gL.length:=by
 have h1:=ax8 k h
 have h2:=b07 (t9 s gL k)
 rw [O0] at h2;omega
def b4g (s:f8) (gL:List (List (Int × Rat))) (k:Nat):Prop:=t9 s gL (k+1)=t9 s gL k∧∀j,j<k->t9 s gL (j+1)≠t9 s gL j
theorem b5B (s:f8) (gL:List (List (Int × Rat))):∃k,b4g s gL k:=by
 by_cases h:∃k,t9 s gL (k+1)=t9 s gL k
 ·obtain ⟨k,hk,hmin⟩:=a1f (fun k=>t9 s gL (k+1)=t9 s gL k) h
  exact ⟨k,hk,fun j hj e=>by have:=hmin j e;omega⟩
 ·have:=a4b (s:=s) (gL:=gL) (k:=gL.length+1) fun j _ e=>h ⟨j,e⟩
  omega
noncomputable def a0u (s:f8) (gL:List (List (Int × Rat))):Nat:=Classical.epsilon fun k=>b4g s gL k
theorem a4B (s:f8) (gL:List (List (Int × Rat))):b4g s gL (a0u s gL):=Classical.epsilon_spec (b5B s gL)
theorem aZ7 {s:f8} {gL:List (List (Int × Rat))} {k:Nat} (h1:t9 s gL (k+1)=t9 s gL k) (h2:∀j,j<k->t9 s gL (j+1)≠t9 s gL j):k=a0u s gL:=by
 obtain ⟨a,b⟩:=a4B s gL
 rcases Nat.lt_trichotomy k (a0u s gL) with h|h|h
 ·exact absurd h1 (b k h)
 ·exact h
 ·exact absurd a (h2 _ h)
noncomputable def isF (s:f8) (gL:List (List (Int × Rat))):List Bool:=t9 s gL (a0u s gL)
noncomputable def a9A (s:f8) (gL:List (List (Int × Rat))):List Rat:=(Z1 s gL (a0u s gL)).map fun v=>v*Rat.divInt 1 ((a0u s gL+1:Nat):Int)
structure a17 (s:f8) (gL:List (List (Int × Rat))):Prop where
 r:g6 s=true
 z:a0L s []=.best
 g:∀g ∈ gL,e8 (-1) ((s.n.toNat:Nat):Int) g=true
 p:∀g ∈ gL,∀z,j0 s z=true->0<=j9 g z
theorem O6 {gL:List (List (Int × Rat))} {k:Nat} (h:k<gL.length):gL.getD k [] ∈ gL:=by
 rw [lg3,lg0 h];exact List.getElem_mem h
theorem a0a {s:f8} {gL:List (List (Int × Rat))} (h:a17 s gL) (out:List Bool):∀k,k<=gL.length->e8 (-1) ((s.n.toNat:Nat):Int) (M5 gL out k)=true
 |0,_=>rfl
 |k+1,hk=>by
  have ih:=a0a h out k (by omega)
  unfold M5
  split
  ·exact ih
  ·exact (ac7 _ (Nat.le_refl _) (Int.le_refl _) ih (h.g _ (O6 (by omega)))).1
theorem a8x {s:f8} {gL:List (List (Int × Rat))} (h:a17 s gL) (out:List Bool) (z:List Rat):∀k,k<=gL.length->j9 (M5 gL out k) z=g4 (fun i=>if out.getD i false=true then 0 else j9 (gL.getD i []) z) k
 |0,_=>rfl
 |k+1,hk=>by
  have ih:=a8x h out z k (by omega)
  show _=g4 _ k+(if out.getD k false=true then 0 else j9 (gL.getD k []) z)
  unfold M5
  by_cases ho:out.getD k false=true
  ·rw [if_pos ho,if_pos ho,ih];grind
  ·rw [if_neg ho,if_neg ho,b4k (a0a h out k (by omega)) (h.g _ (O6 (by omega))),ih]
theorem aw3 {s:f8} {gL:List (List (Int × Rat))} (h:a17 s gL) (out:List Bool):am9 s (M5 gL out gL.length):=
 ⟨h.r,h.z,a0a h out _ (Nat.le_refl _),fun z hz=>by
   rw [a8x h out z _ (Nat.le_refl _)]
   exact a2J fun i hi=>by
    split
    ·exact Rat.le_refl
    ·exact h.p _ (O6 hi) z hz⟩
theorem a6K {s:f8} {gL:List (List (Int × Rat))} (h:a17 s gL) (out:List Bool):j0 s (a0y s gL out)=true:=(a9v (aw3 h out)).1
theorem aB9 {s:f8} {gL:List (List (Int × Rat))} (h:a17 s gL) {i:Nat} (hi:i<gL.length):∀k,(t9 s gL k).getD i false=true->∃z,j0 s z=true∧0<j9 (gL.getD i []) z
 |0,ho=>by
  exfalso
  unfold t9 at ho
  rw [lg3] at ho
  simp [hi] at ho
 |k+1,ho=>by
  rw [a1H hi] at ho
  cases hk:(t9 s gL k).getD i false with
  |true=>exact aB9 h hi k hk
  |false=>
   rw [hk,Bool.false_or] at ho
   exact ⟨_,a6K h _,of_decide_eq_true ho⟩
theorem b4p {s:f8} {gL:List (List (Int × Rat))} (h:a17 s gL) {i:Nat} (hi:i<gL.length):(isF s gL).getD i false=true↔∃z,j0 s z=true∧0<j9 (gL.getD i []) z:=by
 constructor
 ·exact aB9 h hi _
 ·rintro ⟨z,hz,hp⟩
  cases ho:(isF s gL).getD i false with
  |true=>rfl
  |false=>
   exfalso
   have hl:=(a4B s gL).1
   have ho':(t9 s gL (a0u s gL)).getD i false=false:=ho
   have hall:0<j9 (M5 gL (t9 s gL (a0u s gL)) gL.length) z:=by
    rw [a8x h _ z _ (Nat.le_refl _)]
    refine b0c (s:=i) (fun j hj=>?_) hi ?_
    ·split
     ·exact Rat.le_refl
     ·exact h.p _ (O6 hj) z hz
    ·rw [ho',if_neg (by decide)];exact hp
   have hx:=(a9v (aw3 h (t9 s gL (a0u s gL)))).2 ⟨z,hz,hall⟩
   rw [a8x h _ _ _ (Nat.le_refl _)] at hx
   obtain ⟨j,hj,hpj⟩:=b0p hx
   cases hoj:(t9 s gL (a0u s gL)).getD j false with
   |true=>rw [hoj,if_pos rfl] at hpj;exact absurd hpj (by decide +kernel)
   |false=>
    rw [hoj,if_neg (by decide)] at hpj
    have h2:(t9 s gL (a0u s gL+1)).getD j false=true:=by
     rw [a1H hj,hoj,Bool.false_or]
     exact decide_eq_true hpj
    rw [hl,hoj] at h2;cases h2
structure a79 (s:f8) (c:Rat) (z:List Rat):Prop where
 r:g6 s=true
 l:(z.length:Int)=s.n
 p:∀v ∈ z,0<=v
 w:∀w ∈ s.rows,(w.kind≠1->c*w.value<=j9 w.terms z)∧(w.kind≠0->j9 w.terms z<=c*w.value)
theorem ac5 {s:f8} {z:List Rat} (h:j0 s z=true):a79 s 1 z:=by
 obtain ⟨h1,h2,h3,h4⟩:=a0b.1 h
 exact ⟨h1,h2,h3,fun w hw=>by
  obtain ⟨a,b⟩:=h4 w hw
  have e:(1:Rat)*w.value=w.value:=by grind
  rw [e];exact ⟨a,b⟩⟩
theorem aS1 {s:f8} {c d:Rat} {x y:List Rat} (hx:a79 s c x) (hy:a79 s d y):a79 s (c+d) (X4 x y):=by
 have hn:=V7 hx.r
 have lx:x.length=s.n.toNat:=by have:=hx.l;omega
 have ly:y.length=s.n.toNat:=by have:=hy.l;omega
 have ll:=a1o lx ly
 refine ⟨hx.r,by omega,fun v hv=>?_,fun w hw=>?_⟩
 ·obtain ⟨j,hj,rfl⟩:=List.getElem_of_mem hv
  have e:=a4K lx ly (j:=j) (by omega)
  rw [lg3,lg0 hj] at e
  have e:(X4 x y)[j]=x.getD j 0+y.getD j 0:=e
  rw [e]
  have h1:0<=x.getD j 0:=by rw [lg3,lg0 (by omega)];exact hx.p _ (List.getElem_mem _)
  have h2:0<=y.getD j 0:=by rw [lg3,lg0 (by omega)];exact hy.p _ (List.getElem_mem _)
  grind
 ·obtain ⟨i,hi,rfl⟩:=List.getElem_of_mem hw
  have hrt:=(T6 hx.r (lg0 hi)).1
  rw [a2B lx ly hrt]
  obtain ⟨a1,a2⟩:=hx.w _ (List.getElem_mem hi)
  obtain ⟨b1,b2⟩:=hy.w _ (List.getElem_mem hi)
  have e:(c+d)*s.rows[i].value=c*s.rows[i].value+d*s.rows[i].value:=by grind
  rw [e]
  exact ⟨fun h=>by have:=a1 h;have:=b1 h;grind,fun h=>by have:=a2 h;have:=b2 h;grind⟩
theorem a9C {n:Nat} {l:List (Int × Rat)} {x:List Rat} (k:Rat) (hl:x.length=n) (h:e8 (-1) (n:Int) l=true):j9 l (x.map fun v=>v*k)=k*j9 l x:=by
 rw [M6 h,M6 h,←C5]
 refine f6 fun j hj=>?_
 have:(x.map fun v=>v*k).getD j 0=x.getD j 0*k:=by
  rw [lg3,List.getElem?_map,lg3,lg0 (by omega)];rfl
 rw [this];grind
theorem aq0 {s:f8} {c k:Rat} {x:List Rat} (hx:a79 s c x) (k0:0<=k) (h:k*c=1):j0 s (x.map fun v=>v*k)=true:=by
 have hn:=V7 hx.r
 have lx:x.length=s.n.toNat:=by have:=hx.l;omega
 refine a0b.2 ⟨hx.r,by simpa using hx.l,fun v hv=>?_,fun w hw=>?_⟩
 ·obtain ⟨u,hu,rfl⟩:=List.mem_map.1 hv
  exact Rat.mul_nonneg (hx.p u hu) k0
 ·obtain ⟨i,hi,rfl⟩:=List.getElem_of_mem hw
  have hrt:=(T6 hx.r (lg0 hi)).1
  rw [a9C k lx hrt]
  obtain ⟨a1,a2⟩:=hx.w _ (List.getElem_mem hi)
  have e:s.rows[i].value=k*(c*s.rows[i].value):=by rw [← Rat.mul_assoc,h];grind
  refine ⟨fun h=>?_,fun h=>?_⟩
  ·have:=a88 (a1 h) k0;rw [← e] at this;exact this
  ·have:=a88 (a2 h) k0;rw [← e] at this;exact this
theorem sumX_holds {s:f8} {gL:List (List (Int × Rat))} (h:a17 s gL):∀k,a79 s ((k+1:Nat):Rat) (Z1 s gL k)
 |0=>ac5 (a6K h _)
 |k+1=>by
  have:=aS1 (sumX_holds h k) (ac5 (a6K h (t9 s gL (k+1))))
  have e:(((k+1+1:Nat)):Rat)=((k+1:Nat):Rat)+1:=by push_cast;rfl
  rw [e];exact this
theorem ay8 {s:f8} {gL:List (List (Int × Rat))} (h:a17 s gL) {i:Nat} (hi:i<gL.length):∀k,0<=j9 (gL.getD i []) (Z1 s gL k)∧((t9 s gL (k+1)).getD i false=true->0<j9 (gL.getD i []) (Z1 s gL k))
 |0=>by
  refine ⟨h.p _ (O6 hi) _ (a6K h _),fun ho=>?_⟩
  rw [a1H hi] at ho
  have e:(t9 s gL 0).getD i false=false:=by
   show (List.replicate gL.length false).getD i false=false
   rw [lg3];simp [hi]
  rw [e,Bool.false_or] at ho
  exact of_decide_eq_true ho
 |k+1=>by
  obtain ⟨h1,h2⟩:=ay8 h hi k
  have hn:=V7 h.r
  have lx:(Z1 s gL k).length=s.n.toNat:=by have:=(sumX_holds h k).l;omega
  have hf:=a6K h (t9 s gL (k+1))
  have ly:(a0y s gL (t9 s gL (k+1))).length=s.n.toNat:=by have:=(N3 hf).2;omega
  have e:j9 (gL.getD i []) (Z1 s gL (k+1))=j9 (gL.getD i []) (Z1 s gL k)+j9 (gL.getD i []) (a0y s gL (t9 s gL (k+1))):=a2B lx ly (h.g _ (O6 hi))
  have h3:=h.p _ (O6 hi) _ hf
  rw [e]
  refine ⟨by grind,fun ho=>?_⟩
  rw [a1H hi] at ho
  cases hk:(t9 s gL (k+1)).getD i false with
  |true=>have:=h2 hk;grind
  |false=>
   rw [hk,Bool.false_or] at ho
   have:=of_decide_eq_true ho
   grind
theorem b0Z (k:Nat):0<=Rat.divInt 1 ((k+1:Nat):Int)∧Rat.divInt 1 ((k+1:Nat):Int)*((k+1:Nat):Rat)=1∧0<Rat.divInt 1 ((k+1:Nat):Int):=by
 have h0:((k+1:Nat):Rat)≠0:=by
  intro e
  have:((k+1:Nat):Rat)=((0:Nat):Rat):=e
  have:=Rat.natCast_inj.1 this
  omega
 have e:Rat.divInt 1 ((k+1:Nat):Int)=1 / ((k+1:Nat):Rat):=by rw [Rat.divInt_eq_div];rfl
 have e2:Rat.divInt 1 ((k+1:Nat):Int)*((k+1:Nat):Rat)=1:=by rw [e,Rat.div_def,Rat.mul_assoc,Rat.inv_mul_cancel _ h0];grind
 have hp:0<Rat.divInt 1 ((k+1:Nat):Int):=by
  rw [e,Rat.div_def]
  have:0<((k+1:Nat):Rat):=by
   have:((0:Nat):Rat)<((k+1:Nat):Rat):=by exact_mod_cast (show 0<k+1 by omega)
   exact this
  have:=Rat.inv_pos.2 this
  grind
 exact ⟨Rat.le_of_lt hp,e2,hp⟩
theorem b2F {s:f8} {gL:List (List (Int × Rat))} (h:a17 s gL):j0 s (a9A s gL)=true∧∀i,i<gL.length->(isF s gL).getD i false=true->0<j9 (gL.getD i []) (a9A s gL):=by
 obtain ⟨q1,q2,q3⟩:=b0Z (a0u s gL)
 have hh:=sumX_holds h (a0u s gL)
 have hn:=V7 h.r
 have lx:(Z1 s gL (a0u s gL)).length=s.n.toNat:=by have:=hh.l;omega
 refine ⟨aq0 hh q1 q2,fun i hi ho=>?_⟩
 have hp:=(ay8 h hi (a0u s gL)).2 (by rw [(a4B s gL).1];exact ho)
 unfold a9A
 rw [a9C _ lx (h.g _ (O6 hi))]
 exact Rat.mul_pos q3 hp
theorem b4m:a9 Tryz.prog 69 [frS E5] [] (a7 .i64 0) []:=by
 have rr:=a6O E5 (by decide) (by decide)
 have e:x4 E5=false:=by decide +kernel
 rw [e] at rr
 (refine ac Tryz.func69 ?_;(conv=>whnf);repeat ((first|refine b0x ?_|refine zy ?_);conv=>whnf))
 repeat' (first|refine zz ?_|refine qp rr ?_|refine zd ?_ ?_<;>intro h<;>try omega|refine zy ?_|fail)<;>conv=>whnf
 all_goals exact j1 rfl
theorem aK2 (s:f8) (hb:a39 s) (hr:g6 s=true) (z:List Fr) (hz:aJ3 z) (h:z.all x4=false):
 a9 Tryz.prog 43 [Q3 s,i8 z] [] (d6 false) []:=by
 have m2:(z.map k7).length=z.length:=by simp
 have l1:=hb.n0
 have lr:=a3W s hb
 rw [hr] at lr
 have pt:=au5 z hz.l hz.d
 rw [h] at pt
 (refine ac Tryz.func43 ?_;(conv=>whnf);repeat ((first|refine b0x ?_|refine zy ?_);conv=>whnf))
 repeat' (first|refine zz ?_|refine qp lr ?_|refine qp pt ?_|refine zd ?_ ?_<;>intro h<;>try omega|refine zy ?_|fail)<;>conv=>whnf
 all_goals first
  |omega
  |exact b7 rfl
structure b5O where
 hh:Int
 state:Int
 w:List Fr
 wo:List Fr
 pr:List Fr
def b5O.row (v:b5O):List T:=[ti v.hh,ti v.state,C6 v.w,C6 v.wo,C6 v.pr]
def b5O.val (v:b5O):b6Y:=⟨v.hh,v.state,v.w.map fv,v.wo.map fv,v.pr.map fv⟩
def a1M (s:f8) (g:List (Int × Rat)) (y:List Fr):Bool:=(decide (y.length=s.rows.length) && y.all x4) && (a0F s g (y.map fv) && decide (a0U s (yN (y.map fv))=0))
structure aM5 (s:f8) (y:List Fr):Prop where
 r:aJ3 y
 m:y.length=s.rows.length->y.all x4=true->at5 s (y.map fv)
def aG5 (s:f8) (g:List (Int × Rat)) (y:List Fr):S:=if (decide (y.length=s.rows.length) && y.all x4)=true then a3K s g (y.map fv) else .tup [frS E5,d6 false]
theorem b84 (s:f8) (hb:a39 s) (hr:g6 s=true) (hn1:s.n<=1000) (g:List (Int × Rat)) (hg:g.length<=1000000) (hgb:∀t ∈ g,rl t.2<=200) (y:List Fr) (hy:aM5 s y):
 a9 Tryz.prog 90 [Q3 s,j7 g,i8 y] [] (aG5 s g y) []:=by
 unfold aG5
 cases h:(decide (y.length=s.rows.length) && y.all x4) with
 |false=>rw [if_neg (by decide)];exact aE0 s hb hr g y hy.r h
 |true=>
  rw [if_pos rfl]
  rw [Bool.and_eq_true,decide_eq_true_eq] at h
  have hm:=hy.m h.1 h.2
  obtain ⟨Y,rfl⟩:=a1L h.2
  rw [a3i] at hm ⊢
  exact b2C s hb hr hn1 g hg hgb Y hm.y (by have:=hm.l;have:=hm.m;omega) (fun _=>hm)
theorem aD4 (s:f8) (g:List (Int × Rat)) (y:List Fr) (hy:aM5 s y):(aG5 s g y=.tup [frS E5,d6 false]∧a1M s g y=false)∨∃x,rl x<=50000∧aG5 s g y=.tup [frS (fz x),d6 true]∧a1M s g y=decide (x=0):=by
 unfold aG5 a1M
 cases h:(decide (y.length=s.rows.length) && y.all x4) with
 |false=>exact .inl ⟨by rw [if_neg (by decide)],rfl⟩
 |true=>
  rw [if_pos rfl,Bool.true_and]
  unfold a3K
  cases hB:a0F s g (y.map fv) with
  |false=>exact .inl ⟨by rw [if_neg (by decide)],rfl⟩
  |true=>
   rw [if_pos rfl,Bool.true_and]
   rw [Bool.and_eq_true,decide_eq_true_eq] at h
   exact .inr ⟨_,(hy.m h.1 h.2).v s.rows.length,rfl,rfl⟩
def a0w (t:f5) (find:Int):Bool:=decide (u0 t=0) && decide (0<=find) && decide (find<t.finds.length)
theorem a2Z (t:f5) (hs:t.Sized) (find:Int):a9 Tryz.prog 77 [trS t,a7 .i64 find] [] (d6 (a0w t find)) []:=by
 have ck:=aw9 t hs
 have m1:(t.finds.map I8.row).length=t.finds.length:=by simp
 unfold a0w
 by_cases h1:u0 t=0
 ·rw [decide_eq_true h1,Bool.true_and]
  (refine ac Tryz.func77 ?_;(conv=>whnf);repeat ((first|refine b0x ?_|refine zy ?_);conv=>whnf))
  repeat' (first|refine zz ?_|refine qp ck ?_|refine zd ?_ ?_<;>intro h<;>try omega|refine zy ?_|fail)<;>conv=>whnf
  all_goals first
   |omega
   |(refine b7 ?_;symm;simp only [Bool.and_eq_true,decide_eq_true_eq,Bool.and_eq_false_iff,decide_eq_false_iff_not];omega)
 ·rw [decide_eq_false h1,Bool.false_and,Bool.false_and]
  (refine ac Tryz.func77 ?_;(conv=>whnf);repeat ((first|refine b0x ?_|refine zy ?_);conv=>whnf))
  repeat' (first|refine zz ?_|refine qp ck ?_|refine zd ?_ ?_<;>intro h<;>try omega|refine zy ?_|fail)<;>conv=>whnf
  all_goals first
   |omega
   |exact b7 rfl
def a1b (e:Ev) (k:Nat):List Int:=(o9 e k).map fun i:Nat=>(i:Int)
theorem b1s (e:Ev) (k:Nat):(a1b e k).length=(o9 e k).length:=by simp [a1b]
theorem aU2 {e:Ev} {k:Nat} {m:x8} (h:e.moves[k]? =some m):a1b e (k+1)=if u4 e m.src=0 then a1b e k++[(k:Int)] else a1b e k:=by
 unfold a1b
 conv=>lhs;unfold o9
 rw [h]
 simp only
 split
 ·simp
 ·rfl
def H3 (e:Ev):List Int:=a1b e e.moves.length
theorem a6z (e:Ev) (hs:e.Sized) (h0:B7 e=0):a9 Tryz.prog 97 [evS e] [] (d9 (H3 e)) []:=by
 have m1:(e.moves.map x8.row).length=e.moves.length:=by simp
 have l1:=hs.s2
 unfold H3
 (refine ac Tryz.func97 ?_;(conv=>whnf);repeat ((first|refine b0x ?_|refine zy ?_);conv=>whnf))
 repeat' (first|refine zz ?_|refine zd ?_ ?_<;>intro h<;>try omega|refine zy ?_|fail)<;>conv=>whnf
 refine d7 c8 (fun k=>([J,S.c (C.t (T.ptr (evT e))),J,S.c (C.own 0 0 (a1b e k).length true),J,J,J,S.c (C.t (a1v e.moves)),a7 .i64 e.moves.length,a7 .i64 k,J,J,J,J,J,J,J,J,J,J,J,J,J,J,J,J,J,J],[o5 (a1b e k)])) e.moves.length (fun _=>True) [none] trivial
  ⟨rfl,rfl,⟨⟨rfl,rfl⟩,trivial⟩,⟨rfl,⟨rfl,rfl,rfl⟩,rfl,c6 (by simp),rfl,trivial⟩⟩ ?_
 intro k hk _
 have ll:=w8 (e:=e) k
 have lA:(a1b e k).length<=(o5 (a1b e k)).rows.length:=by show _<=(toC _).length;simp [toC]
 have l2:=b1s e k
 by_cases hlt:k<e.moves.length
 ·obtain ⟨m,hm⟩:∃m,e.moves[k]? =some m:=⟨_,lg0 hlt⟩
  have ms:=a1g (N4 h0 (lg2 hm))
  obtain ⟨p,hp⟩:∃p,e.places[m.src.toNat]? =some p:=⟨_,lg0 (by omega)⟩
  have hk0:u4 e m.src=p.kind:=by unfold u4;rw [hp];rfl
  rw [aU2 hm,hk0]
  by_cases hb:p.kind=0
  ·rw [if_pos hb]
   conv=>whnf
   repeat' (first|refine zz ?_|refine qp toC ?_|refine b9 hm ?_|refine p9 ms.1 hp ?_|refine o6 lA (by simp [toC];omega) ?_|refine zd ?_ ?_<;>intro h<;>try omega|refine zy ?_|fail)<;>conv=>whnf
   all_goals first
    |omega
    |(refine ⟨hlt,trivial,[some 2],rfl,rfl,⟨a8 (rows:=(a1b e k++[(k:Int)]).map e7) rfl rfl rfl ?_ rfl,trivial⟩,⟨rfl,⟨rfl,rfl,?_,fun h=>h⟩,rfl,rfl,c6 (by omega),trivial⟩⟩
      ·exact A6 (f:=e7) (x:=(k:Int)) rfl
      ·simp [toC])
  ·rw [if_neg hb]
   conv=>whnf
   repeat' (first|refine zz ?_|refine b9 hm ?_|refine p9 ms.1 hp ?_|refine zd ?_ ?_<;>intro h<;>try omega|refine zy ?_|fail)<;>conv=>whnf
   all_goals first
    |omega
    |exact ⟨hlt,trivial,[some 0],rfl,rfl,⟨a8 (rows:=(a1b e k).map e7) rfl rfl rfl rfl rfl,trivial⟩,⟨rfl,⟨rfl,rfl,rfl,fun h=>h⟩,rfl,rfl,c6 (by omega),trivial⟩⟩
 ·have hke:k=e.moves.length:=by omega
  subst hke
  conv=>whnf
  repeat' (first|refine zz ?_|refine zd ?_ ?_<;>intro h<;>try omega|refine zy ?_|fail)<;>conv=>whnf
  all_goals first
   |omega
   |exact R8 rfl (fun h=>h) rfl rfl (by simp)
theorem a5C (v c:Int) (h0:-9223372036854775808<=c) (h1:c<=9223372036854775807):a9 Tryz.prog 122 [a7 .i64 v,a7 .i64 c] [] (j7 [(v,((c:Int):Rat))]) []:=by
 have ic:=I3 c h0 h1
 (refine ac Tryz.func122 ?_;(conv=>whnf);repeat ((first|refine b0x ?_|refine zy ?_);conv=>whnf))
 repeat' (first|refine zz ?_|refine qp ic ?_|refine zd ?_ ?_<;>intro h<;>try omega|refine zy ?_|fail)<;>conv=>whnf
 all_goals first
  |exact j2 (show a8i [] _ _ _ from rfl)
def b62 (t:f5):List C:=[.t (ti t.ev.mats),.t (ti t.ev.hhs),.t (ti t.ev.scs),.t (a0T t.ev.places),.t (a1v t.ev.moves),.t (Y3 t.ev.certs),.t (G8 t.ev.recalls),.t (a0f t.ev.purities),.t (.sl 0 .nil []),.t (a1N t.cleans)]
theorem b7X {w:World} {ι:Io} {M:Ms} {t:f5} {v:Value} (h:RS w ι M (.agg (b62 t)) v):RS w ι M (trS (y0 t)) v:=by
 cases h with
 |agg vs hl hr=>
  refine .agg vs hl fun j c hj=>?_
  by_cases h8:j=8
  ·subst h8
   injection hj with hj;subst hj
   have h9:=hr 8 _ rfl
   cases h9 with
   |t h9=>exact .t (h9.weak rfl)
  ·refine hr j c ?_
   rcases j with _|_|_|_|_|_|_|_|_|_|j
   all_goals first
    |exact hj
    |exact absurd rfl h8
theorem a86 {P:Program} {g:FuncId} {t:f5} {x:S} {H H':Hp} {r:S} (h:a9 P g [trS (y0 t),x] H r H'):a9 P g [.agg (b62 t),x] H r H':=by
 refine ac0 h rfl fun w ι M j a b v hx hy hr=>?_
 rcases j with _|_|j
 ·injection hx with hx;injection hy with hy;subst hx hy;exact b7X hr
 ·injection hx with hx;injection hy with hy;subst hx hy;exact hr
 ·simp at hx
theorem b1x (t:f5) (kind:Int) (hs:t.Sized) (h1:u0 t=0) (k0:0<=kind) (k1:kind<8) (H:Hp):W6 Tryz.prog 60 [.agg (b62 t),a7 .i64 kind] H (.tup [.agg [.t (ti t.ev.moves.length),.own H.length 0 (P3 (y0 t) kind).rows.length true],a7 .i64 0]) [K8 (P3 (y0 t) kind).rows]:=by
 have hc:¬(u0 (y0 t)≠0∨kind<0∨8<=kind):=by have:=a2q h1;omega
 have h:=a86 (b1b (y0 t) kind ⟨hs.ev,by simp [y0],hs.c⟩ hc)
 exact a5F (j:=1) h rfl rfl (c7 _) rfl rfl
def aO9 (l:List Nat) (i k:Nat):List C2:=L0 (l.take k) i
theorem b1f {l:List Nat} {i k j:Nat} (h:l[k]? =some j):aO9 l i (k+1)=if j≠i then aO9 l i k++[n8 j 2 ((0:Int):Rat)] else aO9 l i k:=by
 unfold aO9 L0
 have e:l.take (k+1)=l.take k++[j]:=by rw [List.take_add_one,h];rfl
 rw [e,List.filter_append,List.map_append]
 by_cases hj:j≠i
 ·rw [if_pos hj];simp [hj]
 ·rw [if_neg hj];simp [hj]
def S1 (t:f5) (kind:Int) (i k:Nat):List C2:=(P3 (y0 t) kind).rows++aO9 (f9 t.ev) i k
theorem aO6 {t:f5} {kind:Int} {i k:Nat} (hm:t.ev.moves.length<=14) (hc:t.cleans.length<=50):(S1 t kind i k).length<=750:=by
 unfold S1
 have hl:=Q0 (t:=y0 t) (kind:=kind) t.ev.moves.length
 have hl2:t.ev.moves.length*(2+(y0 t).finds.length+(y0 t).cleans.length)<=14*52:=Nat.mul_le_mul hm (by show 2+0+t.cleans.length<=52;omega)
 have hl3:=a20 ((f9 t.ev).take k) i
 have hl4:=w8 (e:=t.ev) t.ev.moves.length
 have hl5:((f9 t.ev).take k).length<=(f9 t.ev).length:=by rw [List.length_take];omega
 have hl6:(f9 t.ev).length<=t.ev.moves.length:=hl4
 have hl7:(P3 (y0 t) kind).rows.length<=14*52:=Nat.le_trans hl hl2
 rw [List.length_append]
 show _+(L0 ((f9 t.ev).take k) i).length<=750
 omega
theorem aN3 (t:f5) (kind:Int) (i:Nat):S1 t kind i (f9 t.ev).length=(j5 t kind i).rows:=by
 unfold S1 aO9 j5;rw [lg4 (Nat.le_refl _)]
theorem a3f {e:Ev} {k j:Nat} (h:(f9 e)[k]? =some j):(H3 e)[k]? =some (j:Int):=by
 unfold H3 a1b
 rw [List.getElem?_map]
 have:(o9 e e.moves.length)[k]? =some j:=h
 rw [this];rfl
theorem a03 (e:Ev):(H3 e).length=(f9 e).length:=by simp [H3,a1b,f9]
set_option maxHeartbeats 4000000 in
theorem a8K (t:f5) (hs:t.Sized) (h1:u0 t=0) (find:Int) (f:I8) (f0:0<=find) (hf:t.finds[find.toNat]? =some f) (i:Nat) (hm:t.ev.moves.length<=14):
 a9 Tryz.prog 99 [trS t,a7 .i64 find,a7 .i64 i,d9 (H3 t.ev)] [] (Q3 (j5 t f.kind i)) []:=by
 obtain ⟨q1,q2,q3,q4,q5⟩:=p6 h1
 have hg:=B9 q4 f (lg2 hf)
 have m1:((H3 t.ev).map e7).length=(f9 t.ev).length:=by rw [List.length_map,a03]
 have sy:=fun H:Hp=>b1x t f.kind hs h1 (by omega) (by omega) H
 have i0:=I3 0 (by decide) (by decide)
 have ll:(f9 t.ev).length<=t.ev.moves.length:=w8 _
 have eK0:S1 t f.kind i 0=(P3 (y0 t) f.kind).rows:=by unfold S1 aO9;rw [List.take_zero];simp [L0]
 (refine ac Tryz.func99 ?_;(conv=>whnf);repeat (refine zy ?_;conv=>whnf))
 repeat' (first|refine zz ?_|refine qp 5 ?_|refine p9 f0 hf ?_|refine .inl ⟨_,_,sy _,?_⟩|refine bl0 [5] ?_|refine zd ?_ ?_<;>intro h<;>try omega|refine zy ?_|fail)<;>conv=>whnf
 refine d7 c8 (fun k=>([J,J,a7 .i64 i,J,J,J,J,J,S.c (C.ptr 0 0 0),J,S.c (C.ptr 1 0 0),J,J,J,J,J,J,J,J,J,J,J,J,J,J,J,J,d9 (H3 t.ev),a7 .i64 (f9 t.ev).length,a7 .i64 k,J,J,J,J,J,J,J,J,J,J,J,J,J,J,J,J,J],[a1s,a2m t.ev.moves.length 2 (S1 t f.kind i k).length,K8 (S1 t f.kind i k)])) (f9 t.ev).length (fun _=>True) [some 1,some 3,some 2] trivial
  ⟨rfl,rfl,⟨⟨rfl,rfl,rfl,.inr ⟨⟨rfl,rfl,trivial⟩,trivial⟩⟩,⟨rfl,rfl,rfl,.inr ⟨⟨rfl,⟨rfl,rfl,by rw [eK0],fun h=>h⟩,trivial⟩,trivial⟩⟩,a8 (rows:=(S1 t f.kind i 0).map w5) rfl rfl rfl (by rw [eK0]) rfl,trivial⟩,⟨rfl,⟨rfl,rfl,rfl⟩,⟨rfl,rfl,rfl⟩,rfl,c6 (by rw [m1]),rfl,trivial⟩⟩ ?_
 intro k hk _
 have lk:=aO6 (t:=t) (kind:=f.kind) (i:=i) (k:=k) hm q3
 by_cases hlt:k<(f9 t.ev).length
 ·obtain ⟨j,hj⟩:∃j,(f9 t.ev)[k]? =some j:=⟨_,lg0 hlt⟩
  have hji:=a3f hj
  have on:=a5C j 1 (by decide) (by decide)
  have eS:S1 t f.kind i (k+1)=if j≠i then S1 t f.kind i k++[n8 j 2 ((0:Int):Rat)] else S1 t f.kind i k:=by
   unfold S1
   rw [b1f hj]
   split
   ·rw [List.append_assoc]
   ·rfl
  rw [eS]
  have lA:(S1 t f.kind i k).length<=(K8 (S1 t f.kind i k)).rows.length:=by show _<=(toC _).length;simp [toC]
  by_cases hji2:j≠i
  ·rw [if_pos hji2]
   conv=>whnf
   repeat' (first|refine zz ?_|refine qp on ?_|refine qp i0 ?_|refine qp toC ?_|refine qp (0,1) ?_|refine b9 hji ?_|refine o6 lA (by simp [toC];omega) ?_|refine bl0 [0,1] ?_|refine zd ?_ ?_<;>intro h<;>try omega|refine zy ?_|fail)<;>conv=>whnf
   all_goals first
    |omega
    |(refine ⟨hlt,trivial,[some 0,some 1,some 3],rfl,rfl,⟨⟨rfl,rfl,rfl,.inr ⟨⟨rfl,rfl,trivial⟩,trivial⟩⟩,⟨rfl,rfl,rfl,.inr ⟨⟨rfl,⟨rfl,rfl,?_,fun h=>h⟩,trivial⟩,trivial⟩⟩,a8 (rows:=(S1 t f.kind i k++[n8 j 2 ((0:Int):Rat)]).map w5) rfl rfl rfl ?_ rfl,trivial⟩,⟨rfl,⟨rfl,rfl,rfl⟩,⟨rfl,rfl,rfl⟩,rfl,rfl,c6 (by omega),trivial⟩⟩
      ·simp [toC]
      ·exact A6 (f:=w5) (x:=n8 j 2 ((0:Int):Rat)) rfl)
  ·rw [if_neg hji2]
   conv=>whnf
   repeat' (first|refine zz ?_|refine qp on ?_|refine qp i0 ?_|refine b9 hji ?_|refine zd ?_ ?_<;>intro h<;>try omega|refine zy ?_|fail)<;>conv=>whnf
   all_goals first
    |omega
    |exact ⟨hlt,trivial,[some 0,some 1,some 2],rfl,rfl,⟨⟨rfl,rfl,rfl,.inr ⟨⟨rfl,rfl,trivial⟩,trivial⟩⟩,⟨rfl,rfl,rfl,.inr ⟨⟨rfl,⟨rfl,rfl,rfl,fun h=>h⟩,trivial⟩,trivial⟩⟩,c9 (c7 _),trivial⟩,⟨rfl,⟨rfl,rfl,rfl⟩,⟨rfl,rfl,rfl⟩,rfl,rfl,c6 (by omega),trivial⟩⟩
 ·have hke:k=(f9 t.ev).length:=by omega
  subst hke
  have e9:=aN3 t f.kind i
  conv=>whnf
  repeat' (first|refine zz ?_|refine zd ?_ ?_<;>intro h<;>try omega|refine zy ?_|fail)<;>conv=>whnf
  all_goals first
   |omega
   |(rw [e9];exact j2 ⟨rfl,show VC _ (fun id=>F3 [] id=true) _ _ from s8 rfl rfl (by intro h;cases h) rfl rfl (by rw [List.length_map]),trivial⟩)
def a8j (i:Nat):Rat:=if i % 2=0 then 1 else -1
theorem b1m (i:Nat):a8j (i+1)=-(a8j i):=by
 unfold a8j
 by_cases h:i % 2=0
 ·rw [if_pos h,if_neg (by omega)]
 ·rw [if_neg h,if_pos (by omega)];grind
def x5 (i:Nat) (M:Nat->Nat->Rat):Nat->Nat->Rat:=fun r c=>M (if r<i then r else r+1) (c+1)
def G0:Nat->(Nat->Nat->Rat)->Rat
 |0,_=>1
 |n+1,M=>g4 (fun i=>a8j i*M i 0*G0 n (x5 i M)) (n+1)
theorem M7 (n:Nat) (M:Nat->Nat->Rat):G0 (n+1) M=g4 (fun i=>a8j i*M i 0*G0 n (x5 i M)) (n+1):=rfl
theorem a1w:∀{n:Nat} {M N:Nat->Nat->Rat},(∀ i j,i<n->j<n->M i j=N i j)->G0 n M=G0 n N
 |0,_,_,_=>rfl
 |n+1,M,N,h=>by
  rw [M7,M7]
  refine f6 fun i hi=>?_
  rw [h i 0 hi (by omega),a1w (n:=n) (M:=x5 i M) (N:=x5 i N) fun r c hr hc=>?_]
  unfold x5
  split
  ·exact h _ _ (by omega) (by omega)
  ·exact h _ _ (by omega) (by omega)
def B6 (M:Nat->Nat->Rat) (r:Nat) (v:Nat->Rat):Nat->Nat->Rat:=fun i=>if i=r then v else M i
theorem a70 {M:Nat->Nat->Rat} {r:Nat}:B6 M r (M r)=M:=by
 funext i;unfold B6;by_cases h:i=r
 ·rw [if_pos h,h]
 ·rw [if_neg h]
theorem a9y {M:Nat->Nat->Rat} {r:Nat} {v:Nat->Rat}:x5 r (B6 M r v)=x5 r M:=by
 funext a c;unfold x5 B6
 by_cases h:a<r
 ·rw [if_pos h,if_neg (by omega)]
 ·rw [if_neg h,if_neg (by omega)]
theorem ab9 {M:Nat->Nat->Rat} {i r:Nat} {v:Nat->Rat} (h:i<r):x5 i (B6 M r v)=B6 (x5 i M) (r - 1) (fun c=>v (c+1)):=by
 funext a c;unfold x5 B6
 by_cases ha:a<i
 ·simp only [if_pos ha]
  rw [if_neg (by omega),if_neg (by omega)]
 ·simp only [if_neg ha]
  by_cases h2:a+1=r
  ·rw [if_pos h2,if_pos (by omega)]
  ·rw [if_neg h2,if_neg (by omega)]
theorem a9M {M:Nat->Nat->Rat} {i r:Nat} {v:Nat->Rat} (h:r<i):x5 i (B6 M r v)=B6 (x5 i M) r (fun c=>v (c+1)):=by
 funext a c;unfold x5 B6
 by_cases ha:a<i
 ·simp only [if_pos ha]
  by_cases h2:a=r
  ·rw [if_pos h2,if_pos h2]
  ·rw [if_neg h2,if_neg h2]
 ·simp only [if_neg ha]
  rw [if_neg (by omega),if_neg (by omega)]
theorem a4H:∀{n:Nat} {M:Nat->Nat->Rat} {r:Nat} {a b:Rat} {v w:Nat->Rat},r<n->G0 n (B6 M r fun c=>a*v c+b*w c)=a*G0 n (B6 M r v)+b*G0 n (B6 M r w)
 |0,_,_,_,_,_,_,h=>by omega
 |n+1,M,r,a,b,v,w,h=>by
  rw [M7,M7,M7,←C5,←C5,←a0h]
  refine f6 fun i hi=>?_
  by_cases e:i=r
  ·subst e
   rw [a9y,a9y,a9y]
   unfold B6
   simp only [if_true]
   grind
  ·have e2:∀u:Nat->Rat,B6 M r u i 0=M i 0:=fun u=>by unfold B6;rw [if_neg e]
   rw [e2,e2,e2]
   by_cases h2:i<r
   ·rw [ab9 h2,ab9 h2,ab9 h2,a4H (n:=n) (M:=x5 i M) (r:=r - 1) (a:=a) (b:=b) (v:=fun c=>v (c+1)) (w:=fun c=>w (c+1)) (by omega)]
    grind
   ·rw [a9M (by omega),a9M (by omega),a9M (by omega),a4H (n:=n) (M:=x5 i M) (r:=r) (a:=a) (b:=b) (v:=fun c=>v (c+1)) (w:=fun c=>w (c+1)) (by omega)]
    grind
theorem aX1 {f:Nat->Rat} {r:Nat}:∀{n:Nat},r+1<n->(∀ i,i<n->i≠r->i≠r+1->f i=0)->g4 f n=f r+f (r+1)
 |0,h,_=>by omega
 |n+1,h,h0=>by
  show g4 f n+f n=_
  by_cases e:n=r+1
  ·subst e
   show g4 f r+f r+f (r+1)=_
   rw [s6 fun j hj=>h0 j (by omega) (by omega) (by omega)];grind
  ·rw [aX1 (r:=r) (by omega) (fun i hi=>h0 i (by omega)),h0 n (by omega) (by omega) e];grind
theorem a4I:∀{n:Nat} {M:Nat->Nat->Rat} {r:Nat},r+1<n->M r=M (r+1)->G0 n M=0
 |0,_,_,h,_=>by omega
 |n+1,M,r,h,he=>by
  rw [M7,aX1 h fun i hi h1 h2=>?_]
  ·have em:x5 r M=x5 (r+1) M:=by
    funext a c;unfold x5
    by_cases h1:a<r
    ·rw [if_pos h1,if_pos (by omega)]
    ·rw [if_neg h1]
     by_cases h2:a<r+1
     ·have:a=r:=by omega
      subst this
      rw [if_pos h2,he]
     ·rw [if_neg h2]
   rw [em,he,b1m];grind
  ·by_cases hlt:i<r
   ·rw [a4I (n:=n) (M:=x5 i M) (r:=r - 1) (by omega) (by
     funext c;unfold x5
     rw [if_neg (by omega),if_neg (by omega),show r - 1+1=r by omega,he])]
    grind
   ·rw [a4I (n:=n) (M:=x5 i M) (r:=r) (by omega) (by
     funext c;unfold x5
     rw [if_pos (by omega),if_pos (by omega),he])]
    grind
theorem a4Y {M:Nat->Nat->Rat} {r s:Nat} {v w:Nat->Rat} (h:r≠s):B6 (B6 M r v) s w=B6 (B6 M s w) r v:=by
 funext i;unfold B6
 by_cases h1:i=r
 ·subst h1;rw [if_neg h,if_pos rfl,if_pos rfl]
 ·rw [if_neg h1]
  by_cases h2:i=s
  ·simp only [if_pos h2,if_neg h1]
  ·simp only [if_neg h2,if_neg h1]
theorem a0m {M:Nat->Nat->Rat} {r:Nat} {v:Nat->Rat}:B6 M r v r=v:=by unfold B6;rw [if_pos rfl]
theorem Y1 {M:Nat->Nat->Rat} {r i:Nat} {v:Nat->Rat} (h:i≠r):B6 M r v i=M i:=by unfold B6;rw [if_neg h]
theorem as0 {n:Nat} {M:Nat->Nat->Rat} {r:Nat} (v w:Nat->Rat) (h:r<n):G0 n (B6 M r fun c=>v c+w c)=G0 n (B6 M r v)+G0 n (B6 M r w):=by
 have:=a4H (M:=M) (a:=1) (b:=1) (v:=v) (w:=w) h
 have e:(fun c=>(1:Rat)*v c+1*w c)=fun c=>v c+w c:=by funext c;grind
 rw [e] at this;grind
theorem b2c {n:Nat} {M:Nat->Nat->Rat} {r:Nat} (h:r+1<n) (v w:Nat->Rat):G0 n (B6 (B6 M r v) (r+1) w)=-(G0 n (B6 (B6 M r w) (r+1) v)):=by
 have key:G0 n (B6 (B6 M r fun c=>v c+w c) (r+1) fun c=>v c+w c)=0:=a4I h (by rw [a0m,Y1 (by omega),a0m])
 rw [as0 v w h,a4Y (show r≠r+1 by omega),a4Y (show r≠r+1 by omega),as0 v w (by omega),as0 v w (by omega)] at key
 have z1:G0 n (B6 (B6 M (r+1) v) r v)=0:=a4I h (by rw [a0m,Y1 (by omega),a0m])
 have z2:G0 n (B6 (B6 M (r+1) w) r w)=0:=a4I h (by rw [a0m,Y1 (by omega),a0m])
 rw [z1,z2] at key
 rw [a4Y (show r≠r+1 by omega),a4Y (show r≠r+1 by omega)]
 grind
theorem aN6:∀(d:Nat) {n:Nat} {M:Nat->Nat->Rat} {r s:Nat},s=r+1+d->s<n->M r=M s->G0 n M=0
 |0,n,M,r,s,hs,hn,he=>by subst hs;exact a4I hn he
 |d+1,n,M,r,s,hs,hn,he=>by
  obtain ⟨q,rfl⟩:∃q,s=q+1:=⟨s - 1,by omega⟩
  have e1:M=B6 (B6 M q (M q)) (q+1) (M (q+1)):=by rw [a70,a70]
  rw [e1,b2c hn]
  have:=aN6 d (n:=n) (M:=B6 (B6 M q (M (q+1))) (q+1) (M q)) (r:=r) (s:=q) (by omega) (by omega) (by
   rw [Y1 (by omega),Y1 (by omega),Y1 (by omega),a0m,he])
  rw [this];grind
theorem b3l {n:Nat} {M:Nat->Nat->Rat} {r s:Nat} (hr:r<n) (hs:s<n) (h:r≠s) (he:M r=M s):G0 n M=0:=by
 by_cases hlt:r<s
 ·exact aN6 (s - r - 1) (by omega) hs he
 ·exact aN6 (r - s - 1) (r:=s) (s:=r) (by omega) hr he.symm
theorem aY9 {n:Nat} {M:Nat->Nat->Rat} {r:Nat} (hr:r<n) (c:Nat->Rat) (v:Nat->Nat->Rat):∀k,G0 n (B6 M r fun l=>g4 (fun i=>c i*v i l) k)=g4 (fun i=>c i*G0 n (B6 M r (v i))) k
 |0=>by
  have:=a4H (M:=M) (a:=0) (b:=0) (v:=fun _=>0) (w:=fun _=>0) hr
  have e:(fun l:Nat=>g4 (fun i=>c i*v i l) 0)=fun _=>(0:Rat)*0+0*0:=by funext l;show (0:Rat)=_;grind
  rw [e,this];show _=(0:Rat);grind
 |k+1=>by
  have ih:=aY9 (M:=M) hr c v k
  have:=a4H (M:=M) (a:=1) (b:=c k) (v:=fun l=>g4 (fun i=>c i*v i l) k) (w:=v k) hr
  have e:(fun l=>g4 (fun i=>c i*v i l) (k+1))=fun l=>(1:Rat)*g4 (fun i=>c i*v i l) k+c k*v k l:=by funext l;show g4 _ k+_=_;grind
  rw [e,this,ih];show _=g4 _ k+_;grind
theorem a97 {n:Nat} {M:Nat->Nat->Rat} {c:Nat->Rat} {u:Nat->Rat} (hu:∀l,l<n->u l=g4 (fun k=>c k*M k l) n) {j:Nat} (hj:j<n):G0 n (B6 M j u)=c j*G0 n M:=by
 have e:G0 n (B6 M j u)=G0 n (B6 M j fun l=>g4 (fun k=>c k*M k l) n):=a1w fun a b ha hb=>by
  unfold B6
  split
  ·exact hu b hb
  ·rfl
 rw [e,aY9 hj,A0 hj,a70,s6 fun k hk=>?_]
 ·grind
 ·by_cases h:k=j
  ·rw [if_pos h]
  ·rw [if_neg h,b3l (r:=k) (s:=j) hk hj h (by rw [Y1 h,a0m])];grind
theorem aS8 (i:Nat):∃z:Int,a8j i=((z:Int):Rat)∧z.natAbs=1:=by
 unfold a8j
 split
 ·exact ⟨1,rfl,rfl⟩
 ·exact ⟨-1,rfl,rfl⟩
def a6g:Nat->(Nat->Nat)->Nat
 |0,_=>1
 |n+1,B=>(n+1)*(B 0*a6g n fun c=>B (c+1))
theorem ay1 {f:Nat->Rat} {B:Nat}:∀{n:Nat},(∀ i,i<n->∃z:Int,f i=((z:Int):Rat)∧z.natAbs<=B)->∃z:Int,g4 f n=((z:Int):Rat)∧z.natAbs<=n*B
 |0,_=>⟨0,rfl,by simp⟩
 |n+1,h=>by
  obtain ⟨a,ha,ha2⟩:=ay1 (n:=n) fun i hi=>h i (by omega)
  obtain ⟨b,hb,hb2⟩:=h n (by omega)
  refine ⟨a+b,by show g4 f n+f n=_;rw [ha,hb];push_cast;rfl,?_⟩
  have:=Int.natAbs_add_le a b
  rw [Nat.succ_mul];omega
theorem a4F:∀{n:Nat} {M:Nat->Nat->Rat} {B:Nat->Nat},(∀ i j,i<n->j<n->∃z:Int,M i j=((z:Int):Rat)∧z.natAbs<=B j)->∃z:Int,G0 n M=((z:Int):Rat)∧z.natAbs<=a6g n B
 |0,_,_,_=>⟨1,rfl,by simp [a6g]⟩
 |n+1,M,B,h=>by
  rw [M7]
  refine ay1 fun i hi=>?_
  obtain ⟨a,ha,ha2⟩:=aS8 i
  obtain ⟨b,hb,hb2⟩:=h i 0 hi (by omega)
  obtain ⟨c,hc,hc2⟩:=a4F (n:=n) (M:=x5 i M) (B:=fun c=>B (c+1)) fun r c hr hc=>by
   unfold x5
   split
   ·exact h _ _ (by omega) (by omega)
   ·exact h _ _ (by omega) (by omega)
  refine ⟨a*b*c,by rw [ha,hb,hc];push_cast;rfl,?_⟩
  rw [Int.natAbs_mul,Int.natAbs_mul,ha2,Nat.one_mul]
  exact Nat.mul_le_mul hb2 hc2
theorem a1l {f:Nat->Rat}:∀n:Nat,g4 f (n+1)=f 0+g4 (fun l=>f (l+1)) n
 |0=>by simp only [g4];grind
 |n+1=>by
  have ih:=a1l (f:=f) n
  have e:g4 f (n+1+1)=g4 f (n+1)+f (n+1):=rfl
  rw [e,ih]
  simp only [g4];grind
def a3M:Nat->Nat->Rat:=fun i j=>if i=j then 1 else 0
theorem aY0:∀n,G0 n a3M=1
 |0=>rfl
 |n+1=>by
  rw [M7,a1l (f:=fun i=>a8j i*a3M i 0*G0 n (x5 i a3M)),s6 fun i hi=>?_]
  ·have e:x5 0 a3M=a3M:=by
    funext a c;unfold x5 a3M
    simp
   rw [e,aY0 n]
   have:a8j 0=1:=rfl
   have h2:a3M 0 0=1:=rfl
   rw [this,h2];grind
  ·have:a3M (i+1) 0=0:=by unfold a3M;rw [if_neg (by omega)]
   rw [this];grind
section
def uV (n:Nat) (D0:Fd) (w:Nat):Nat->Rat
 |0=>if w<n then 0 else D0.V (w - n)
 |l+1=>if w<n then (if w=l then 1 else 0) else -(D0.A (w - n) l)
def uG (g0:Nat->Rat):Nat->Rat
 |0=>0
 |l+1=>g0 l
structure a1m (m n:Nat) (D:Fd):Prop where
 o:∀i,i<m->D.O i=n+i
 f:∀j,j<n->D.F j=j
def muF (n:Nat) (D0 D:Fd):Nat->Nat->Rat
 |0=>a3M 0
 |j+1=>uV n D0 (D.F j)
theorem b1M {m n:Nat} {D0:Fd} (h0:a1m m n D0) (l:Nat) (hl:l<n+1):Ids m n D0 (fun w=>uV n D0 w l) (a3M 0 l):=by
 intro i hi
 rw [h0.o i hi]
 rw [f6 (g:=fun j=>D0.A i j*uV n D0 j l) fun j hj=>by rw [h0.f j hj]]
 cases l with
 |zero=>
  rw [s6 fun j hj=>by show D0.A i j*(if j<n then (0:Rat) else _)=0;rw [if_pos hj];grind]
  show (if n+i<n then (0:Rat) else D0.V (n+i - n))=a3M 0 0*D0.V i - 0
  rw [if_neg (by omega),show n+i - n=i by omega]
  have:a3M 0 0=1:=rfl
  rw [this];grind
 |succ l=>
  rw [f6 (g:=fun j=>if j=l then D0.A i l else 0) fun j hj=>by
   show D0.A i j*(if j<n then (if j=l then (1:Rat) else 0) else _)=_
   rw [if_pos hj]
   by_cases h:j=l
   ·subst h;rw [if_pos rfl,if_pos rfl];grind
   ·rw [if_neg h,if_neg h];grind]
  rw [A0 (s:=l) (by omega),if_pos rfl,s6 fun j hj=>by
   by_cases h:j=l
   ·rw [if_pos h]
   ·rw [if_neg h,if_neg h]]
  show (if n+i<n then _ else -(D0.A (n+i - n) l))=a3M 0 (l+1)*D0.V i - _
  rw [if_neg (by omega),show n+i - n=i by omega]
  have:a3M 0 (l+1)=0:=rfl
  rw [this];grind
section
variable {m n:Nat} {D0 D:Fd}
def coV (D:Fd) (i:Nat):Nat->Rat
 |0=>D.V i
 |j+1=>-(D.A i j)
def coG (z:Rat) (D:Fd):Nat->Rat
 |0=>z
 |j+1=>D.G j
theorem aV1 (h0:a1m m n D0) (hI:∀y c,Ids m n D0 y c↔Ids m n D y c) {i:Nat} (hi:i<m):∀l,l<n+1->uV n D0 (D.O i) l=g4 (fun k=>coV D i k*muF n D0 D k l) (n+1):=by
 intro l hl
 have h:=(hI _ _).1 (b1M h0 l hl) i hi
 rw [h,a1l]
 show _=D.V i*a3M 0 l+g4 (fun j=>-(D.A i j)*uV n D0 (D.F j) l) n
 rw [f6 (f:=fun j=>-(D.A i j)*uV n D0 (D.F j) l) (g:=fun j=>(-1:Rat)*(D.A i j*uV n D0 (D.F j) l)) fun j hj=>by grind,C5]
 grind
theorem b5H (h0:a1m m n D0) (hI:∀y c,Ids m n D0 y c↔Ids m n D y c) {g0:Nat->Rat} {z:Rat} (hg:U3 n D g0 m z):∀l,l<n+1->uG g0 l=g4 (fun k=>coG z D k*muF n D0 D k l) (n+1):=by
 intro l hl
 have h:=hg _ _ ((hI _ _).1 (b1M h0 l hl))
 rw [a1l]
 show _=z*a3M 0 l+g4 (fun j=>D.G j*uV n D0 (D.F j) l) n
 have e:g4 (fun j=>g0 j*uV n D0 j l) n=uG g0 l:=by
  cases l with
  |zero=>rw [s6 fun j hj=>by show g0 j*(if j<n then (0:Rat) else _)=0;rw [if_pos hj];grind];rfl
  |succ l=>
   rw [f6 (g:=fun j=>if j=l then g0 l else 0) fun j hj=>by
    show g0 j*(if j<n then (if j=l then (1:Rat) else 0) else _)=_
    rw [if_pos hj]
    by_cases h:j=l
    ·subst h;rw [if_pos rfl,if_pos rfl];grind
    ·rw [if_neg h,if_neg h];grind]
   rw [A0 (s:=l) (by omega),if_pos rfl,s6 fun j hj=>by
    by_cases h:j=l
    ·rw [if_pos h]
    ·rw [if_neg h,if_neg h]]
   show _=g0 l
   grind
 rw [← e,h]
 grind
theorem b93 (h0:a1m m n D0) (hI:∀y c,Ids m n D0 y c↔Ids m n D y c) {i:Nat} (hi:i<m):G0 (n+1) (B6 (muF n D0 D) 0 (uV n D0 (D.O i)))=D.V i*G0 (n+1) (muF n D0 D):=a97 (aV1 h0 hI hi) (j:=0) (by omega)
theorem b6M (h0:a1m m n D0) (hI:∀y c,Ids m n D0 y c↔Ids m n D y c) {i j:Nat} (hi:i<m) (hj:j<n):G0 (n+1) (B6 (muF n D0 D) (j+1) (uV n D0 (D.O i)))=-(D.A i j)*G0 (n+1) (muF n D0 D):=a97 (aV1 h0 hI hi) (j:=j+1) (by omega)
theorem b8I (h0:a1m m n D0) (hI:∀y c,Ids m n D0 y c↔Ids m n D y c) {g0:Nat->Rat} {z:Rat} (hg:U3 n D g0 m z) {j:Nat} (hj:j<n):G0 (n+1) (B6 (muF n D0 D) (j+1) (uG g0))=D.G j*G0 (n+1) (muF n D0 D):=a97 (b5H h0 hI hg) (j:=j+1) (by omega)
theorem b0T (h0:a1m m n D0):G0 (n+1) (muF n D0 D0)=1:=by
 rw [← aY0 (n+1)]
 refine a1w fun i j hi hj=>?_
 cases i with
 |zero=>rfl
 |succ i=>
  show uV n D0 (D0.F i) j=_
  rw [h0.f i (by omega)]
  cases j with
  |zero=>show (if i<n then (0:Rat) else _)=_;rw [if_pos (by omega)];rfl
  |succ j=>
   show (if i<n then (if i=j then (1:Rat) else 0) else _)=_
   rw [if_pos (by omega)]
   unfold a3M
   by_cases h:i=j
   ·rw [if_pos h,if_pos (by omega)]
   ·rw [if_neg h,if_neg (by omega)]
theorem b2I (h0:a1m m n D0) (hI:∀y c,Ids m n D0 y c↔Ids m n D y c) {r s:Nat} (hr:r<m) (hs:s<n):G0 (n+1) (muF n D0 (D.exch r s))=-(D.A r s)*G0 (n+1) (muF n D0 D):=by
 rw [← b6M h0 hI hr hs]
 refine a1w fun i j hi hj=>?_
 cases i with
 |zero=>rfl
 |succ i=>
  show uV n D0 ((D.exch r s).F i) j=B6 (muF n D0 D) (s+1) (uV n D0 (D.O r)) (i+1) j
  rw [a1d]
  by_cases h:i=s
  ·subst h;rw [if_pos rfl,a0m]
  ·rw [if_neg h,Y1 (by omega)];rfl
end
theorem b3q {m n:Nat} {D0:Fd} {g0:Nat->Rat} (h0:a1m m n D0) (hv:a5n m n D0 g0 D0):∀{k:Nat} {D:Fd},itS m n k D0=some D->G0 (n+1) (muF n D0 D)≠0
 |0,D,h=>by injection h with h;subst h;rw [b0T h0];decide
 |k+1,D,h=>by
  rw [Y6] at h
  cases hk:itS m n k D0 with
  |none=>rw [hk] at h;cases h
  |some D1=>
   rw [hk] at h
   have h:D9 m n D1=some D:=h
   obtain ⟨r,s,hs,rfl⟩:=a5x h
   obtain ⟨h1,h2,h3⟩:=a4U hs
   have hp:=a5S h3
   rw [b2I h0 (a2r hv hk).i h1 h2]
   intro e
   rcases Rat.mul_eq_zero.1 e with e|e
   ·exact hp (by grind)
   ·exact b3q h0 hv hk e
def b5u (K:Rat) (M:Nat->Nat->Rat):Nat->Nat->Rat:=fun i j=>if j=0 then K*M i 0 else M i j
theorem b53 (n:Nat) (K:Rat) (M:Nat->Nat->Rat):G0 (n+1) (b5u K M)=K*G0 (n+1) M:=by
 rw [M7,M7,←C5]
 refine f6 fun i hi=>?_
 have e:x5 i (b5u K M)=x5 i M:=by
  funext a c;unfold x5 b5u;rw [if_neg (by omega)]
 rw [e]
 show a8j i*(if (0:Nat)=0 then K*M i 0 else _)*_=_
 rw [if_pos rfl];grind
theorem aq2 {n:Nat} {M:Nat->Nat->Rat} {r:Nat} (hr:r<n) (h:∀c,c<n->M r c=0):G0 n M=0:=by
 have e:G0 n M=G0 n (B6 M r fun c=>(0:Rat)*0+0*0):=a1w fun i j hi hj=>by
  unfold B6
  by_cases hir:i=r
  ·subst hir;rw [if_pos rfl,h j hj];grind
  ·rw [if_neg hir]
 rw [e,a4H (v:=fun _=>0) (w:=fun _=>0) hr];grind
theorem aZ9 {n:Nat} {M:Nat->Nat->Rat} (h1:M 0 0=1) (h0:∀c,c<n->M 0 (c+1)=0):G0 (n+1) M=G0 n (x5 0 M):=by
 rw [M7,a1l (f:=fun i=>a8j i*M i 0*G0 n (x5 i M)),s6 fun i hi=>?_]
 ·have:a8j 0=1:=rfl
  rw [this,h1];grind
 ·rw [aq2 (n:=n) (M:=x5 (i+1) M) (r:=0) (by omega) fun c hc=>by
   unfold x5;rw [if_pos (by omega)];exact h0 c hc]
  grind
structure aR9 (m n K BV BA BG:Nat) (D0:Fd) (g0:Nat->Rat):Prop where
 k:0<K
 v:∀i,i<m->∃z:Int,(K:Rat)*D0.V i=((z:Int):Rat)∧z.natAbs<=BV
 a:∀i j,i<m->j<n->∃z:Int,D0.A i j=((z:Int):Rat)∧z.natAbs<=BA
 g:∀j,j<n->∃z:Int,g0 j=((z:Int):Rat)∧z.natAbs<=BG
 a1:1<=BA
 ag:BA<=BG
theorem ap4 {m n K BV BA BG:Nat} {D0:Fd} {g0:Nat->Rat} (h:aR9 m n K BV BA BG D0 g0) {w l:Nat} (hw:w<n+m) (hl:l<n):∃z:Int,uV n D0 w (l+1)=((z:Int):Rat)∧z.natAbs<=BA:=by
 have:=h.a1
 show ∃z:Int,(if w<n then (if w=l then (1:Rat) else 0) else -(D0.A (w - n) l))=_∧_
 by_cases h1:w<n
 ·rw [if_pos h1]
  by_cases h2:w=l
  ·rw [if_pos h2];exact ⟨1,rfl,by simpa using this⟩
  ·rw [if_neg h2];exact ⟨0,rfl,by simp⟩
 ·rw [if_neg h1]
  obtain ⟨z,hz,hb⟩:=h.a (w - n) l (by omega) hl
  exact ⟨-z,by rw [hz];push_cast;rfl,by rw [Int.natAbs_neg];exact hb⟩
theorem b5j {m n K BV BA BG:Nat} {D0:Fd} {g0:Nat->Rat} (h:aR9 m n K BV BA BG D0 g0) {w:Nat} (hw:w<n+m):∃z:Int,(K:Rat)*uV n D0 w 0=((z:Int):Rat)∧z.natAbs<=BV:=by
 show ∃z:Int,(K:Rat)*(if w<n then (0:Rat) else D0.V (w - n))=_∧_
 by_cases h1:w<n
 ·rw [if_pos h1];exact ⟨0,by show _=(0:Rat);grind,by simp⟩
 ·rw [if_neg h1];exact h.v _ (by omega)
theorem b5V {m n K BV BA BG:Nat} {D0 D:Fd} {g0:Nat->Rat} (h:aR9 m n K BV BA BG D0 g0) (hf:∀j,j<n->D.F j<n+m):∃z:Int,G0 (n+1) (muF n D0 D)=((z:Int):Rat)∧z.natAbs<=a6g n fun _=>BA:=by
 rw [aZ9 (M:=muF n D0 D) rfl fun c hc=>rfl]
 refine a4F fun i j hi hj=>?_
 unfold x5
 rw [if_neg (by omega)]
 exact ap4 h (hf i hi) hj
theorem aH6 {m n K BV BA BG:Nat} {D0 D:Fd} {g0:Nat->Rat} (h:aR9 m n K BV BA BG D0 g0) (hf:∀j,j<n->D.F j<n+m) {B:Nat} {u:Nat->Rat} (hB:BA<=B) (hu:∀l,l<n->∃z:Int,u (l+1)=((z:Int):Rat)∧z.natAbs<=B) (j:Nat):∃z:Int,G0 (n+1) (B6 (muF n D0 D) (j+1) u)=((z:Int):Rat)∧z.natAbs<=a6g n fun _=>B:=by
 rw [aZ9 (M:=B6 (muF n D0 D) (j+1) u) (by rw [Y1 (by omega)];rfl) fun c hc=>by rw [Y1 (by omega)];rfl]
 refine a4F fun i k hi hk=>?_
 have em:x5 0 (B6 (muF n D0 D) (j+1) u) i k=B6 (muF n D0 D) (j+1) u (i+1) (k+1):=by unfold x5;rw [if_neg (by omega)]
 rw [em]
 by_cases e:i+1=j+1
 ·rw [e,a0m];exact hu k hk
 ·rw [Y1 e]
  obtain ⟨z,hz,hb⟩:=ap4 h (hf i hi) hk
  exact ⟨z,hz,by omega⟩
theorem b3z {m n K BV BA BG:Nat} {D0 D:Fd} {g0:Nat->Rat} (h:aR9 m n K BV BA BG D0 g0) (hf:∀j,j<n->D.F j<n+m) {w:Nat} (hw:w<n+m):∃z:Int,(K:Rat)*G0 (n+1) (B6 (muF n D0 D) 0 (uV n D0 w))=((z:Int):Rat)∧z.natAbs<=a6g (n+1) fun c=>if c=0 then BV else BA:=by
 rw [← b53]
 refine a4F fun i j hi hj=>?_
 have key:∀w,w<n+m->∃z:Int,(if j=0 then (K:Rat)*uV n D0 w 0 else uV n D0 w j)=((z:Int):Rat)∧z.natAbs<=if j=0 then BV else BA:=fun w hw=>by
  by_cases h1:j=0
  ·rw [if_pos h1,if_pos h1];exact b5j h hw
  ·rw [if_neg h1,if_neg h1]
   obtain ⟨l,rfl⟩:∃l,j=l+1:=⟨j - 1,by omega⟩
   exact ap4 h hw (by omega)
 unfold b5u B6
 cases i with
 |zero=>simp only [if_true];exact key w hw
 |succ i=>
  simp only [if_neg (show i+1≠0 by omega)]
  exact key (D.F i) (hf i (by omega))
theorem a8y {x:Rat} {p q:Int} (hq:q≠0) (h:((q:Int):Rat)*x=((p:Int):Rat)):rl x<=max (bl p) (bl q):=by
 have hqn:((q:Int):Rat)≠0:=by intro e;exact hq (by exact_mod_cast e)
 have e:x=Rat.divInt p q:=by
  rw [Rat.divInt_eq_div,←h]
  rw [Rat.mul_comm,Rat.div_def,Rat.mul_assoc,Rat.mul_inv_cancel _ hqn];grind
 rw [e];exact O5 hq
theorem a5G {z:Int} {X k:Nat} (h:z.natAbs<=X) (hX:(X:Int)<pw k):bl z<=k:=N1 (by omega)
theorem aL6 {m n K BV BA BG b:Nat} {D0 D:Fd} {g0:Nat->Rat} (h0:a1m m n D0) (h:aR9 m n K BV BA BG D0 g0) (hv:a5n m n D0 g0 D0) (hD:U5 m n D0 D)
 (b1:((a6g (n+1) fun c=>if c=0 then BV else BA:Nat):Int)<pw b) (b2:((a6g n fun _=>BG:Nat):Int)<pw b) (b3:((K*a6g n fun _=>BA:Nat):Int)<pw b) (b4:((a6g n fun _=>BA:Nat):Int)<pw b):
 (∀ i,i<m->rl (D.V i)<=b)∧(∀ i j,i<m->j<n->rl (D.A i j)<=b)∧∀j,j<n->rl (D.G j)<=b:=by
 obtain ⟨k,hk⟩:=hD
 have hi:=a2r hv hk
 have hn:=b3q h0 hv hk
 obtain ⟨d,hd,hdb⟩:=b5V h (D:=D) hi.p.fb
 rw [hd] at hn
 have hd0:d≠0:=fun e=>hn (by rw [e];rfl)
 refine ⟨fun i him=>?_,fun i j him hj=>?_,fun j hj=>?_⟩
 ·obtain ⟨p,hp,hpb⟩:=b3z h (D:=D) hi.p.fb (hi.p.ob i him)
  rw [b93 h0 hi.i him,hd] at hp
  have hK:=h.k
  have e:=a8y (x:=D.V i) (p:=p) (q:=(K:Int)*d) (by
   intro e
   rcases Int.mul_eq_zero.1 e with e|e
   ·omega
   ·exact hd0 e) (by rw [← hp];push_cast;grind)
  have q1:=a5G hpb b1
  have q2:bl ((K:Int)*d)<=b:=a5G (X:=K*a6g n fun _=>BA) (by rw [Int.natAbs_mul];exact Nat.mul_le_mul (by simp) hdb) b3
  omega
 ·obtain ⟨p,hp,hpb⟩:=aH6 h (D:=D) hi.p.fb (Nat.le_refl _) (u:=uV n D0 (D.O i)) (fun l hl=>ap4 h (hi.p.ob i him) hl) j
  rw [b6M h0 hi.i him hj,hd] at hp
  have e:=a8y (x:=-(D.A i j)) (p:=p) (q:=d) hd0 (by rw [← hp];grind)
  rw [P9] at e
  have q1:=a5G hpb b4
  have q2:=a5G hdb b4
  omega
 ·obtain ⟨z,hz⟩:=hi.g
  obtain ⟨p,hp,hpb⟩:=aH6 h (D:=D) hi.p.fb h.ag (u:=uG g0) (fun l hl=>h.g l hl) j
  rw [b8I h0 hi.i hz hj,hd] at hp
  have e:=a8y (x:=D.G j) (p:=p) (q:=d) hd0 (by rw [← hp];grind)
  have q1:=a5G hpb b2
  have q2:=a5G hdb b4
  omega
end
def a9X (v:Rat):Prop:=∃z:Int,((1000:Nat):Rat)*v=((z:Int):Rat)∧z.natAbs<=2305843009213693952
def b3s (w:C2):Prop:=C0 w.terms∧a9X w.value
theorem b0S {x:Int} (h0:-1000000000000000<=x) (h1:x<=1000000000000000):a9X ((x:Int):Rat):=⟨1000*x,by push_cast;rfl,by omega⟩
theorem a5p:a9X 0:=⟨0,by show _=(0:Rat);grind,by decide⟩
theorem b0Y {x:Rat} (h:a9X x):a9X (-x):=by
 obtain ⟨z,h1,h2⟩:=h
 exact ⟨-z,by push_cast;rw [← h1];grind,by rw [Int.natAbs_neg];exact h2⟩
theorem b3b {cs:List I6} {rs:List B4} {scale reading day:Int} {lo hi:Rat} (h:H4 cs rs scale reading day=some (lo,hi)):a9X hi:=by
 unfold H4 at h
 split at h
 ·cases h
 ·rename_i i hi
  obtain ⟨hb,c,hc,_,hcv⟩:=K3 hi
  have e:a0D cs i=c:=by unfold a0D;rw [hc];rfl
  rw [e] at h
  split at h
  ·cases h
  ·split at h
   ·rename_i hr
    injection h with h
    injection h with h1 h2
    rw [← h2]
    unfold G7 N0 at hcv
    rw [T7] at hr
    simp only [Bool.and_eq_true,decide_eq_true_eq,T7] at hcv
    obtain ⟨⟨⟨⟨⟨⟨⟨h1,h2⟩,h3⟩,_⟩,h4⟩,h5⟩,h6⟩,h7⟩:=hcv
    have e1:0<=c.permille*reading:=Int.mul_nonneg (by omega) (by omega)
    have e2:c.permille*reading<=1000*1099511627776:=Int.mul_le_mul (by omega) (by omega) (by omega) (by omega)
    have e3:0<=c.drift*(day - c.since):=Int.mul_nonneg (by omega) (by omega)
    have e4:c.drift*(day - c.since)<=10000000*100000:=Int.mul_le_mul (by omega) (by omega) (by omega) (by omega)
    refine ⟨1000*reading+(c.permille*reading+1000*(c.grams+c.drift*(day - c.since))),?_,by omega⟩
    unfold a25
    have e5:((1000:Nat):Rat)*Rat.divInt (c.permille*reading) 1000=((c.permille*reading:Int):Rat):=by
     rw [Rat.divInt_eq_div]
     have:((1000:Nat):Rat)=((1000:Int):Rat):=rfl
     rw [this]
     rw [Rat.div_def,←Rat.mul_assoc,Rat.mul_comm (((1000:Int):Rat)),Rat.mul_assoc,Rat.mul_inv_cancel _ (by decide)];grind
    have e6:((1000:Nat):Rat)*((reading:Rat)+(Rat.divInt (c.permille*reading) 1000+((c.grams+c.drift*(day - c.since):Int):Rat)))=((1000:Nat):Rat)*(reading:Rat)+(((1000:Nat):Rat)*Rat.divInt (c.permille*reading) 1000+((1000:Nat):Rat)*((c.grams+c.drift*(day - c.since):Int):Rat)):=by grind
    rw [e6,e5];push_cast;rfl
   ·cases h
theorem b9e {t:f5} {kind:Int} (ht:u0 t=0):∀w ∈ (P3 t kind).rows,b3s w:=by
 classical
 obtain ⟨q1,q2,q3,q4,q5⟩:=p6 ht
 have key:(o4 t kind t.ev.moves.length).all (fun w=>decide (b3s w))=true:=(a0z _ (Nat.le_refl _)).2 fun i x hi hx=>by
  rw [List.all_eq_true]
  intro w hw
  refine decide_eq_true ?_
  unfold M9 at hw
  rw [List.mem_append,List.mem_append,List.mem_append] at hw
  rcases hw with ((hw|hw)|hw)|hw
  ·split at hw
   ·cases hw
   ·simp at hw;subst hw
    exact ⟨a7B (a5a _) (W8 (by decide) (by decide)),a5p⟩
  ·unfold N6 at hw
   split at hw
   ·cases hw
   ·rename_i lo hi' hiv
    simp at hw;subst hw
    refine ⟨W8 (by decide) (by decide),?_⟩
    unfold E4 at hiv
    split at hiv
    ·cases hiv
    ·exact b3b hiv
  ·obtain ⟨g,hg,rfl⟩:=List.mem_map.1 hw
   unfold i6 at hg
   obtain ⟨f,hf',rfl⟩:=List.mem_map.1 hg
   have:=B9 q4 f (List.mem_filter.1 hf').1
   exact ⟨W8 (by decide) (by decide),b0S (by omega) (by omega)⟩
  ·rw [List.mem_replicate] at hw
   rw [hw.2]
   exact ⟨W8 (by decide) (by decide),a5p⟩
 intro w hw
 exact of_decide_eq_true (List.all_eq_true.1 key w hw)
theorem a9P {c:Int} (h:bl c<=1):c.natAbs<=1048575:=by
 have h1:=L3 c.natAbs
 have h2:(dg c.natAbs).length<=1:=h
 have h3:pw (dg c.natAbs).length<=pw 1:=by
  have:(dg c.natAbs).length=0∨(dg c.natAbs).length=1:=by omega
  rcases this with h|h<;>rw [h]
  ·decide
  ·exact Int.le_refl _
 have h4:pw 1=1048576:=by decide
 omega
theorem b5a {b:Bool} {x:Rat} {c:Int} (h:x=((c:Int):Rat)):∃c':Int,S2 b x=((c':Int):Rat)∧c'.natAbs=c.natAbs:=by
 cases b with
 |false=>exact ⟨c,h,rfl⟩
 |true=>exact ⟨-c,by show -x=_;rw [h];push_cast;rfl,Int.natAbs_neg c⟩
theorem b5f {s:f8} {g:List (Int × Rat)}:a1m (f7 s).length s.n.toNat (g8 s g):=⟨fun _ _=>rfl,fun _ _=>rfl⟩
theorem b1o {s:f8} {g:List (Int × Rat)} (hI:∀w ∈ s.rows,b3s w) (hg:C0 g):aR9 (f7 s).length s.n.toNat 1000 2305843009213693952 1048575 1048575 (g8 s g) (fun j=>-(v8 g j)) where
 k:=by decide
 v:=fun i hi=>by
  obtain ⟨f,hf⟩:∃f,(f7 s)[i]? =some f:=⟨_,lg0 hi⟩
  obtain ⟨x,hx,_⟩:=V8.1 (lg2 hf)
  have h2:=(hI x (lg2 hx)).2
  have hfd:(f7 s).getD i (0,false)=f:=by rw [lg3,hf];rfl
  have eV:(g8 s g).V i=S2 f.2 x.value:=by show a3F s ((f7 s).getD i (0,false))=_;rw [hfd];unfold a3F;rw [hx]
  rw [eV]
  cases f.2 with
  |false=>exact h2
  |true=>exact b0Y h2
 a:=fun i j hi hj=>by
  obtain ⟨f,hf⟩:∃f,(f7 s)[i]? =some f:=⟨_,lg0 hi⟩
  obtain ⟨x,hx,_⟩:=V8.1 (lg2 hf)
  have h1:=(hI x (lg2 hx)).1
  have hfd:(f7 s).getD i (0,false)=f:=by rw [lg3,hf];rfl
  have eA:(g8 s g).A i j=S2 f.2 (v8 x.terms j):=by show a1P s ((f7 s).getD i (0,false)) j=_;rw [hfd];unfold a1P;rw [hx]
  rw [eA]
  obtain ⟨c,hc,hb⟩:=a1r h1 x.terms.length j
  obtain ⟨c',hc',hb'⟩:=b5a (b:=f.2) (x:=v8 x.terms j) hc
  exact ⟨c',hc',by rw [hb'];exact a9P hb⟩
 g:=fun j hj=>by
  obtain ⟨c,hc,hb⟩:=a1r hg g.length j
  exact ⟨-c,by rw [show v8 g j=((c:Int):Rat) from hc];push_cast;rfl,by rw [Int.natAbs_neg];exact a9P hb⟩
 a1:=by decide
 ag:=by decide
theorem b0A:∀n,n<10->((a6g (n+1) fun c=>if c=0 then 2305843009213693952 else 1048575:Nat):Int)<pw 15∧((a6g n fun _=>1048575:Nat):Int)<pw 15∧((1000*a6g n fun _=>1048575:Nat):Int)<pw 15:=by decide +kernel
structure U7 (s:f8):Prop where
 r:g6 s=true
 i:∀w ∈ s.rows,b3s w
 n:s.n<=9
 l:s.rows.length<=999
theorem b2V {s:f8} {g:List (Int × Rat)} (h:U7 s) (hg:C0 g):∀D,U5 (f7 s).length s.n.toNat (g8 s g) D->BdD (f7 s).length s.n.toNat 15 D:=by
 intro D hD
 have hn:=V7 h.r
 have:=h.n
 obtain ⟨p1,p2,p3⟩:=b0A s.n.toNat (by omega)
 obtain ⟨b1,b2,b3⟩:=aL6 b5f (b1o h.i hg) a2n hD p1 p2 p3 p2
 exact ⟨b1,fun i hi j hj=>b2 i j hi hj,b3⟩
theorem a4h {v:Rat} (h:a9X v):rl v<=4:=by
 obtain ⟨z,h1,h2⟩:=h
 have:=a8y (x:=v) (p:=z) (q:=1000) (by decide) (by rw [← h1];rfl)
 have b1:bl z<=4:=a5G h2 (by decide)
 have b2:bl 1000<=4:=by have:=o7 (x:=1000) (by decide) (by decide);omega
 omega
theorem a6c {s:f8} {g:List (Int × Rat)} (h:U7 s) (hg:e8 (-1) ((s.n.toNat:Nat):Int) g=true) (hw:C0 g):I4 s g s.n.toNat 15:=by
 have hn:=V7 h.r
 have h9:=h.n
 have hl:=h.l
 have hwr:=L7 hw
 have rows:∀w ∈ s.rows,w.terms.length<=100∧(∀ t ∈ w.terms,rl t.2<=200)∧rl w.value<=200:=fun w hw=>by
  obtain ⟨i,hi,rfl⟩:=List.getElem_of_mem hw
  have hrt:=(T6 h.r (lg0 hi)).1
  have h1:=z5 hrt
  have h2:=h.i _ (List.getElem_mem hi)
  exact ⟨by omega,fun t ht=>by have:=L7 h2.1 t ht;omega,by have:=a4h h2.2;omega⟩
 refine ⟨⟨h.r,hg,hn.symm,by omega,fun w hw=>?_,fun t ht=>by have:=hwr t ht;omega,by omega⟩,⟨by omega,rows⟩,fun t ht=>by have:=hwr t ht;omega,b2V h hw,by decide,?_,by omega⟩
 ·obtain ⟨a1,a2,a3⟩:=rows w hw
  exact ⟨by omega,fun t ht=>by have:=a2 t ht;omega⟩
 ·have:s.n.toNat<=9:=by omega
  have:=Nat.mul_le_mul_right (15+2) (show s.n.toNat+3<=12 by omega)
  omega
theorem b5w {s:f8} {g:List (Int × Rat)} (h:U7 s) (hg:e8 (-1) ((s.n.toNat:Nat):Int) g=true) (hw:C0 g):∀v ∈ y8 s g,rl v<=15:=b1E (a6c h hg hw)
theorem b6H {s:f8} {g:List (Int × Rat)} {n B c:Nat} (h:I4 s g n B) (hc:c<n) {j:Nat} (hj:j<n):rl (Z6 (f7 s).length n (y3 s g) 0 (fun q=>if q=c then 1 else 0) j)<=B:=by
 have hb:=aa9 h
 have hB:=h.b1
 have hp:Z7 (f7 s).length n (y3 s g):=by have hn:=h.nn;subst hn;exact R0.p
 rw [← aV5 hp hc hj]
 have key:∀k,k<=(f7 s).length->rl (ptK n (y3 s g).O (fun i=>-((y3 s g).A i c)) (fun j=>if (y3 s g).F c<n∧j=(y3 s g).F c then 1 else 0) k j)<=B:=by
  intro k
  induction k with
  |zero=>
   intro _
   have:=rl0;have:=rl1
   show rl (if _ then (1:Rat) else 0)<=_
   split<;>omega
  |succ k ih=>
   intro hk
   rw [Q2]
   simp only
   split
   ·rw [P9];exact hb.a k (by omega) c hc
   ·exact ih (by omega)
 exact key _ (Nat.le_refl _)
theorem b0i {x y:List Rat} {A B:Nat} (hx:∀v ∈ x,rl v<=A) (hy:∀v ∈ y,rl v<=B):∀v ∈ X4 x y,rl v<=A+B+1:=by
 intro v hv
 unfold X4 at hv
 obtain ⟨i,hi,rfl⟩:=List.getElem_of_mem hv
 rw [List.getElem_zipWith]
 rw [List.length_zipWith] at hi
 have h1:=hx _ (List.getElem_mem (show i<x.length by omega))
 have h2:=hy _ (List.getElem_mem (show i<y.length by omega))
 have:=a3Z x[i] y[i]
 omega
theorem b4a {s:f8} {g:List (Int × Rat)} (h:U7 s) (hg:e8 (-1) ((s.n.toNat:Nat):Int) g=true) (hw:C0 g):∀v ∈ Q9 s g,rl v<=31:=by
 unfold Q9
 split
 ·rename_i c hc
  refine b0i (A:=15) (B:=15) (b5w h rfl (fun t ht=>by cases ht)) fun v hv=>?_
  have hl:=a6c h (W4 hg) (a02 hw)
  unfold a57 at hv
  obtain ⟨j,hj,rfl⟩:=a4T hv
  exact b6H hl (a6j hc).1 hj
 ·intro v hv
  have:=b5w h (W4 hg) (a02 hw) v hv
  omega
theorem ai8 {s:f8} {g:List (Int × Rat)}:(Q9 s g).length=s.n.toNat:=by
 unfold Q9
 split
 ·exact a1o (by unfold y8;rw [R3]) (by unfold a57;rw [R3])
 ·unfold y8;rw [R3]
set_option maxHeartbeats 2000000 in
theorem b5r (n:Nat) (a b:Nat->Rat) (h0:0<n) (hn:n<=1000) (ha:∀j,j<n->rl (a j)<=60000) (hb:∀j,j<n->rl (b j)<=60000):
 a9 Tryz.prog 197 [i8 (rF n a),i8 (rF n b)] [] (i8 (rF n fun j=>a j+b j)) []:=by
 have m1:((rF n b).map k7).length=n:=by simp [N7]
 have cl:=a7J (rF n a) (by rw [N7];exact h0) (by rw [N7];omega)
 rw [N7] at cl
 have e9:rF n (fun j=>a j+b j)=rF n (smF a b n):=w6 fun j hj=>by unfold smF;rw [if_pos hj]
 rw [e9]
 (refine ac Tryz.func197 ?_;(conv=>whnf);repeat (refine zy ?_;conv=>whnf))
 repeat' (first|refine zz ?_|refine .inr ⟨_,_,cl,?_⟩|refine zd ?_ ?_<;>intro h<;>try omega|refine zy ?_|fail)<;>conv=>whnf
 refine d7 c8 (fun k=>([J,J,J,J,J,S.c (C.own 0 0 n true),J,J,J,J,i8 (rF n b),a7 .i64 n,a7 .i64 k,J,J,J,J,J,J,J,J,J,J,J,J,J,J,J,J,J,J],[flB (rF n (smF a b k))])) n (fun _=>True) [some 0] trivial
  ⟨rfl,rfl,⟨a8 (rows:=(rF n a).map k7) rfl rfl rfl rfl (by rw [w6 (g:=smF a b 0) (h:=a) fun j hj=>by unfold smF;rw [if_neg (by omega)]]),trivial⟩,⟨⟨rfl,rfl,rfl,fun h=>h⟩,g7 rfl,c6 (by omega),c6 rfl,trivial⟩⟩ ?_
 intro k hk _
 by_cases hlt:k<n
 ·have eK:0+(k:Int).toNat=k:=by omega
  have ad:=a28 (a k) (b k) (ha k hlt) (hb k hlt)
  have gp:(rF n (smF a b k))[0+(k:Int).toNat]? =some (fz (a k)):=by rw [eK,D4 hlt];unfold smF;rw [if_neg (by omega)]
  have e:u6 (flB (rF n (smF a b k))) ((flB (rF n (smF a b k))).rows.set (0+(k:Int).toNat) (frC (fz (a k+b k))))=flB (rF n (smF a b (k+1))):=by
   rw [E6 eK,P1 hlt]
   refine congrArg flB (w6 fun j hj=>?_)
   unfold smF
   by_cases h:j=k
   ·subst h;rw [if_pos rfl,if_pos (by omega)]
   ·rw [if_neg h]
    have:(j<k)↔(j<k+1):=by omega
    simp only [this]
  conv=>whnf
  repeat' (first|refine zz ?_|refine qp ad ?_|refine qp 10 ?_|refine a4c rfl hlt ?_|refine n7 gp ?_|refine bl0 [10] ?_|refine zd ?_ ?_<;>intro h<;>try omega|refine zy ?_|fail)<;>conv=>whnf
  all_goals first
   |omega
   |exact ⟨hlt,trivial,[some 0],rfl,rfl,⟨⟨rfl,rfl,rfl,.inl ⟨congrArg Blk.rows e,(congrArg Blk.rows e) ▸ c7 _⟩⟩,trivial⟩,⟨⟨rfl,rfl,rfl,fun h=>h⟩,rfl,rfl,c6 (by omega),trivial⟩⟩
 ·have hke:k=n:=by omega
  subst hke
  conv=>whnf
  repeat' (first|refine zz ?_|refine zd ?_ ?_<;>intro h<;>try omega|refine zy ?_|fail)<;>conv=>whnf
  all_goals first
   |omega
   |exact R8 rfl (fun h=>h) rfl rfl (by simp [N7])
theorem a0j (x:List Rat):x.map fz=rF x.length (fun j=>x.getD j 0):=by
 unfold rF
 refine List.ext_getElem? fun j=>?_
 rw [List.getElem?_map,List.getElem?_map]
 by_cases h:j<x.length
 ·rw [lg0 h,a50 h]
  simp [lg3,lg0 h]
 ·rw [List.getElem?_eq_none (by omega),List.getElem?_eq_none (by simp;omega)];rfl
theorem b3o (x y:List Rat) (h:x.length=y.length) (h0:0<x.length) (hn:x.length<=1000) (hx:∀v ∈ x,rl v<=60000) (hy:∀v ∈ y,rl v<=60000):
 a9 Tryz.prog 197 [i8 (x.map fz),i8 (y.map fz)] [] (i8 ((X4 x y).map fz)) []:=by
 have gx:∀(x:List Rat),(∀ v ∈ x,rl v<=60000)->∀j,j<x.length->rl (x.getD j 0)<=60000:=fun x hx j hj=>by
  rw [lg3,lg0 hj];exact hx _ (List.getElem_mem hj)
 have r:=b5r x.length (fun j=>x.getD j 0) (fun j=>y.getD j 0) h0 hn (gx x hx) (fun j hj=>gx y hy j (by omega))
 rw [← a0j x] at r
 rw [show rF x.length (fun j=>y.getD j 0)=y.map fz by rw [a0j y,h]] at r
 rw [show rF x.length (fun j=>x.getD j 0+y.getD j 0)=(X4 x y).map fz by
  rw [a0j (X4 x y),a1o (n:=x.length) rfl h.symm]
  exact w6 fun j hj=>(a4K (n:=x.length) rfl h.symm hj).symm] at r
 exact r
noncomputable def X0 (s:f8) (g:List (Int × Rat)):List Rat:=match a0L s (P6 g) with
 |.col _=>[]
 |_=>zOf s.rows.length (P5 s (y3 s (P6 g)))
set_option maxHeartbeats 4000000 in
theorem aT8 (s:f8) (g:List (Int × Rat)) (h:U7 s) (hz:a0L s []=.best) (h0:0<s.n) (hg:e8 (-1) ((s.n.toNat:Nat):Int) g=true) (hw:C0 g):
 a9 Tryz.prog 121 [Q3 s,j7 g] [] (.tup [i8 ((Q9 s g).map fz),i8 ((X0 s g).map fz)]) []:=by
 have hn:=V7 h.r
 have h9:=h.n
 have p:=a6c h (W4 hg) (a02 hw)
 have i1:=I3 (-1) (by decide) (by decide)
 have tm:=b4P g ((-1:Int):Rat) (by decide) (a1S (by omega) hg) (fun t ht=>by have:=L7 hw t ht;omega) (by have:=o7 (x:=-1) (by decide) (by decide);have:=o7 (x:=1) (by decide) (by decide);show max (bl (-1)) (bl 1)<=200;omega)
 have ep:Y2 g ((-1:Int):Rat)=P6 g:=rfl
 rw [ep] at tm
 have vb:∀k,rl (j9 ((P6 g).take k) (y8 s (P6 g)))<=50000:=fun k=>by
  have h1:=a6n (L7 (a02 hw)) (b5w h (W4 hg) (a02 hw)) k
  have h2:=z5 (W4 hg)
  have h3:(P6 g).length<=9:=by omega
  have h4:=Nat.mul_le_mul_right (15+4) h3
  omega
 rcases at3 (g:=P6 g) h.r hz with ho|⟨c,ho⟩
 ·have le:=b7o p ho vb
  have e1:Q9 s g=y8 s (P6 g):=by unfold Q9;rw [ho]
  have e2:X0 s g=zOf s.rows.length (P5 s (y3 s (P6 g))):=by unfold X0;rw [ho]
  have e3:rF s.rows.length (P5 s (y3 s (P6 g)))=(X0 s g).map fz:=by rw [e2,aR6]
  have l3:(X0 s g).length=s.rows.length:=by rw [e2,R3]
  rw [e1]
  rw [e3] at le
  (refine ac Tryz.func121 ?_;(conv=>whnf);repeat ((first|refine b0x ?_|refine zy ?_);conv=>whnf))
  repeat' (first|refine zz ?_|refine qp i1 ?_|refine qp tm ?_|refine qp 7 ?_|refine .inl ⟨_,_,le _,?_⟩|refine bl0 [7] ?_|refine zd ?_ ?_<;>intro h<;>try omega|refine zy ?_|fail)<;>conv=>whnf
  all_goals first
   |omega
   |exact j2 ⟨rfl,(show VC _ (fun id=>F3 [] id=true) (C.own _ 0 _ true) _ from s8 (k:=flB ((X0 s g).map fz)) rfl rfl (fun h=>h) rfl rfl (by simp [l3])),trivial⟩
 ·have hcn:c<s.n.toNat:=(a6j ho).1
  have pz:=a6c h (g:=[]) rfl (fun t ht=>by cases ht)
  have le:=b6r p pz ho hz
  have e1:Q9 s g=X4 (y8 s []) (a57 s (P6 g) c):=by unfold Q9;rw [ho]
  have e2:X0 s g=[]:=by unfold X0;rw [ho]
  have lp:(y8 s []).length=s.n.toNat:=by unfold y8;rw [R3]
  have lr:(a57 s (P6 g) c).length=s.n.toNat:=by unfold a57;rw [R3]
  have pl:=b3o (y8 s []) (a57 s (P6 g) c) (by omega) (by omega) (by omega) (fun v hv=>by have:=b5w h rfl (fun t ht=>by cases ht) v hv;omega) (fun v hv=>by
   unfold a57 at hv
   obtain ⟨j,hj,rfl⟩:=a4T hv
   have:=b6H p hcn hj
   omega)
  rw [e1,e2]
  (refine ac Tryz.func121 ?_;(conv=>whnf);repeat ((first|refine b0x ?_|refine zy ?_);conv=>whnf))
  repeat' (first|refine zz ?_|refine qp i1 ?_|refine qp tm ?_|refine qp pl ?_|refine qp 7 ?_|refine .inl ⟨_,_,le _,?_⟩|refine bl0 [7] ?_|refine zd ?_ ?_<;>intro h<;>try omega|refine zy ?_|fail)<;>conv=>whnf
  all_goals first
   |omega
   |exact j2 ⟨rfl,rfl,trivial⟩
theorem a9N (g:List (Int × Rat)) (x:List Rat) (hg:e8 (-1) (x.length:Int) g=true) (hw:C0 g) (hx:∀v ∈ x,rl v<=40000) (hl:x.length<=9) (hb:∀k,rl (j9 (g.take k) x)<=50000):
 a9 Tryz.prog 123 [j7 g,i8 (x.map fz)] [] (d6 (a1k g x)) []:=by
 have hgl:=z5 hg
 have va:=aA2 g x (by omega) (fun t ht=>by have:=L7 hw t ht;omega) hx (fun k=>by have:=hb k;omega) (by omega) hg
 have bv:=hb g.length
 rw [lg4 (Nat.le_refl _)] at bv
 have sg:=Z4 (j9 g x) (by omega)
 have sp:=a2U (x:=j9 g x)
 have e:a1k g x=decide (sgR (j9 g x) > 0):=by unfold a1k;rw [decide_eq_decide];exact sp.symm
 rw [e]
 generalize sgR (j9 g x)=U at sg
 clear sp e
 (refine ac Tryz.func123 ?_;(conv=>whnf);repeat ((first|refine b0x ?_|refine zy ?_);conv=>whnf))
 repeat' (first|refine zz ?_|refine qp va ?_|refine qp sg ?_|refine qp 5 ?_|refine bl0 [5] ?_|refine zd ?_ ?_<;>intro h<;>try omega|refine zy ?_|fail)<;>conv=>whnf
 all_goals first
  |omega
  |(refine b7 ?_;first|exact (decide_eq_true (by omega)).symm|exact (decide_eq_false (by omega)).symm)
theorem a8G (x:Rat) (h:rl x<=60000):a9 Tryz.prog 270 [frS (fz x)] [] (frS (fz x)) []:=by
 have n1:=a31 x h
 have n2:=a31 (-x) (by rw [P9];exact h)
 rw [show - -x=x by grind] at n2
 (refine ac Tryz.func270 ?_;(conv=>whnf);repeat ((first|refine b0x ?_|refine zy ?_);conv=>whnf))
 repeat' (first|refine zz ?_|refine qp n1 ?_|refine qp n2 ?_|refine zd ?_ ?_<;>intro h<;>try omega|refine zy ?_|fail)<;>conv=>whnf
 all_goals exact af6 rfl
theorem a7u (b:List (Int × Rat)):x9 [] b=b:=by rw [x9]
theorem aO4 (t:Int × Rat) (r:List (Int × Rat)):x9 (t::r) []=t::x9 r []:=by
 rw [x9]
 cases r with
 |nil=>rw [x9]
 |cons a r=>rw [x9]
theorem b3V {t u:Int × Rat} {r q:List (Int × Rat)} (h:t.1<u.1):x9 (t::r) (u::q)=t::x9 r (u::q):=by rw [x9,if_pos h]
theorem b1I {t u:Int × Rat} {r q:List (Int × Rat)} (h:u.1<t.1):x9 (t::r) (u::q)=u::x9 (t::r) q:=by rw [x9,if_neg (by omega),if_pos h]
theorem aP3 {t u:Int × Rat} {r q:List (Int × Rat)} (h:t.1=u.1) (h0:t.2+u.2=0):x9 (t::r) (u::q)=x9 r q:=by rw [x9,if_neg (by omega),if_neg (by omega),if_pos h0]
theorem b3d {t u:Int × Rat} {r q:List (Int × Rat)} (h:t.1=u.1) (h0:¬t.2+u.2=0):x9 (t::r) (u::q)=(t.1,t.2+u.2)::x9 r q:=by rw [x9,if_neg (by omega),if_neg (by omega),if_neg h0]
structure b8G (a b:List (Int × Rat)) (n:Nat) (x:List (Int × Rat) × List (Int × Rat) × List (Int × Rat)):Prop where
 e:x.1++x9 x.2.1 x.2.2=x9 a b
 o:x.1.length+x.2.1.length+x.2.2.length<=n
 a:∀t ∈ x.2.1,rl t.2<=200
 b:∀t ∈ x.2.2,rl t.2<=200
set_option maxHeartbeats 8000000 in
theorem b86 (a b:List (Int × Rat)) (ha:e8 (-1) 1500 a=true) (hb:e8 (-1) 1500 b=true) (ba:∀t ∈ a,rl t.2<=200) (bb:∀t ∈ b,rl t.2<=200):
 a9 Tryz.prog 221 [j7 a,j7 b] [] (j7 (x9 a b)) []:=by
 have la:=z5 ha
 have lb:=z5 hb
 have r1:=J8 a 1500 (by omega) ba
 have r2:=J8 b 1500 (by omega) bb
 rw [ha] at r1
 rw [hb] at r2
 (refine ac Tryz.func221 ?_;(conv=>whnf);repeat ((first|refine b0x ?_|refine zy ?_);conv=>whnf))
 repeat' (first|refine zz ?_|refine qp r1 ?_|refine qp r2 ?_|refine zd ?_ ?_<;>intro h<;>try omega|refine zy ?_|fail)<;>conv=>whnf
 all_goals try (exfalso;simp_all;done)
 refine k5 c8 (σ:=List (Int × Rat) × List (Int × Rat) × List (Int × Rat)) (fun x=>([j7 x.2.1,j7 x.2.2,J,J,J,S.c (C.own 0 0 x.1.length true),J,J,J,J,J,J,J,J,J,J,J,J,J,J,J,J,J,J,J,J,J,J,J,J,J,J,J,J,J,J,J,J,J,J,J,J,J,J,J,J,J,J,J,J,J,J,J,J,J,J,J,J,J,J,J,J,J,J,J,J,J,J,J,J,J,J,J,J,J,J,J,J,J,J,J,J,J,J,J,J,J,J,J,J,J,J,J,J,J,J,J,J,J,J,J,J,J,J,J,J,J,J,J,J,J,J,J,J,J,J,J,J],[M4 x.1])) (b8G a b 3000) (fun x=>x.2.1.length+x.2.2.length) ([],a,b) [none]
  ⟨rfl,by simp;omega,ba,bb⟩ ⟨rfl,rfl,⟨⟨rfl,rfl⟩,trivial⟩,⟨rfl,rfl,⟨rfl,rfl,rfl⟩,trivial⟩⟩ ?_
 rintro ⟨o,a',b'⟩ ⟨h1,h2,h3,h4⟩
 simp only at h1 h2 h3 h4
 rw [← h1]
 show a3E _ _ _ _ ([j7 a',j7 b',J,J,J,S.c (C.own 0 0 o.length true),J,J,J,J,J,J,J,J,J,J,J,J,J,J,J,J,J,J,J,J,J,J,J,J,J,J,J,J,J,J,J,J,J,J,J,J,J,J,J,J,J,J,J,J,J,J,J,J,J,J,J,J,J,J,J,J,J,J,J,J,J,J,J,J,J,J,J,J,J,J,J,J,J,J,J,J,J,J,J,J,J,J,J,J,J,J,J,J,J,J,J,J,J,J,J,J,J,J,J,J,J,J,J,J,J,J,J,J,J,J,J,J]) [M4 o] _
 have ma:(a'.map i9).length=a'.length:=by simp
 have mb:(b'.map i9).length=b'.length:=by simp
 have lA:o.length<=(M4 o).rows.length:=by show o.length<=(toC _).length;simp [toC]
 cases a' with
 |nil=>
  have na:([]:List (Int × Rat)).length=0:=rfl
  cases b' with
  |nil=>
   rw [a7u,List.append_nil]
   conv=>whnf
   repeat' (first|refine zz ?_|refine zd ?_ ?_<;>intro h<;>try omega|refine zy ?_|fail)<;>conv=>whnf
   all_goals first
    |omega
    |exact R8 rfl (fun h=>h) rfl rfl (by simp)
  |cons u q=>
   have nb:(u::q).length=q.length+1:=rfl
   have bu:=h4 u (List.mem_cons_self ..)
   have fr:=a8G u.2 (by omega)
   conv=>whnf
   repeat' (first|refine zz ?_|refine qp fr ?_|refine qp 0 ?_|refine qp toC ?_|refine T0 (by omega) (by omega) (by omega) ?_|refine u5 (k:=0) rfl (show (u::q)[0]? =some u from rfl) ?_|refine o6 lA (by simp [toC];omega) ?_|refine zd ?_ ?_<;>intro h<;>try omega|refine zy ?_|fail)<;>conv=>whnf
   all_goals first
    |omega
    |exact ⟨[some 1],(o++[(u.1,u.2)],[],q),⟨rfl,rfl,⟨a8 (rows:=(o++[(u.1,u.2)]).map i9) rfl rfl rfl (A6 (f:=i9) (x:=(u.1,u.2)) rfl) rfl,trivial⟩,⟨rfl,g7 (a64 u q),⟨rfl,rfl,by simp [toC],fun h=>h⟩,trivial⟩⟩,⟨by simp only [a7u];rw [← h1,a7u,List.append_assoc];try rfl,by simp only [List.length_append,List.length_cons,List.length_nil] at h2 ⊢;omega,h3,fun t ht=>h4 t (List.mem_cons_of_mem _ ht)⟩,by simp⟩
 |cons t r=>
  have na:(t::r).length=r.length+1:=rfl
  have bt:=h3 t (List.mem_cons_self ..)
  cases b' with
  |nil=>
   have nb:([]:List (Int × Rat)).length=0:=rfl
   have fr:=a8G t.2 (by omega)
   conv=>whnf
   repeat' (first|refine zz ?_|refine qp fr ?_|refine qp 0 ?_|refine qp toC ?_|refine T0 (by omega) (by omega) (by omega) ?_|refine u5 (k:=0) rfl (show (t::r)[0]? =some t from rfl) ?_|refine o6 lA (by simp [toC];omega) ?_|refine zd ?_ ?_<;>intro h<;>try omega|refine zy ?_|fail)<;>conv=>whnf
   all_goals first
    |omega
    |exact ⟨[some 1],(o++[(t.1,t.2)],r,[]),⟨rfl,rfl,⟨a8 (rows:=(o++[(t.1,t.2)]).map i9) rfl rfl rfl (A6 (f:=i9) (x:=(t.1,t.2)) rfl) rfl,trivial⟩,⟨g7 (a64 t r),rfl,⟨rfl,rfl,by simp [toC],fun h=>h⟩,trivial⟩⟩,⟨by show _++x9 _ _=x9 a b;rw [← h1,aO4,List.append_assoc];rfl,by simp only [List.length_append,List.length_cons,List.length_nil] at h2 ⊢;omega,fun t ht=>h3 t (List.mem_cons_of_mem _ ht),h4⟩,by simp⟩
  |cons u q=>
   have nb:(u::q).length=q.length+1:=rfl
   have bu:=h4 u (List.mem_cons_self ..)
   rcases Int.lt_trichotomy t.1 u.1 with hlt|he|hgt
   ·have fr:=a8G t.2 (by omega)
    conv=>whnf
    repeat' (first|refine zz ?_|refine qp fr ?_|refine qp 0 ?_|refine qp 0 ?_|refine qp toC ?_|refine T0 (by omega) (by omega) (by omega) ?_|refine u5 (k:=0) rfl (show (t::r)[0]? =some t from rfl) ?_|refine u5 (k:=0) rfl (show (u::q)[0]? =some u from rfl) ?_|refine o6 lA (by simp [toC];omega) ?_|refine zd ?_ ?_<;>intro h<;>try omega|refine zy ?_|fail)<;>conv=>whnf
    all_goals first
     |omega
     |exact ⟨[some 1],(o++[(t.1,t.2)],r,u::q),⟨rfl,rfl,⟨a8 (rows:=(o++[(t.1,t.2)]).map i9) rfl rfl rfl (A6 (f:=i9) (x:=(t.1,t.2)) rfl) rfl,trivial⟩,⟨g7 (a64 t r),rfl,⟨rfl,rfl,by simp [toC],fun h=>h⟩,trivial⟩⟩,⟨by show _++x9 _ _=x9 a b;rw [← h1,b3V hlt,List.append_assoc];rfl,by simp only [List.length_append,List.length_cons,List.length_nil] at h2 ⊢;omega,fun t ht=>h3 t (List.mem_cons_of_mem _ ht),h4⟩,by simp⟩
   ·have ad:=a28 t.2 u.2 (by omega) (by omega)
    have ab:=a3Z t.2 u.2
    have sg:=Z4 (t.2+u.2) (by omega)
    have sz:=a2p (x:=t.2+u.2)
    by_cases hz:t.2+u.2=0
    ·have hs:=sz.2 hz
     conv=>whnf
     repeat' (first|refine zz ?_|refine qp ad ?_|refine qp sg ?_|refine qp 0 ?_|refine qp 0 ?_|refine qp toC ?_|refine qp 11 ?_|refine T0 (by omega) (by omega) (by omega) ?_|refine u5 (k:=0) rfl (show (t::r)[0]? =some t from rfl) ?_|refine u5 (k:=0) rfl (show (u::q)[0]? =some u from rfl) ?_|refine o6 lA (by simp [toC];omega) ?_|refine bl0 [11] ?_|refine zd ?_ ?_<;>intro h<;>try omega|refine zy ?_|fail)<;>conv=>whnf
     all_goals first
      |omega
      |exact ⟨[some 0],(o,r,q),⟨rfl,rfl,⟨a8 (rows:=o.map i9) rfl rfl rfl rfl rfl,trivial⟩,⟨g7 (a64 t r),g7 (a64 u q),⟨rfl,rfl,rfl,fun h=>h⟩,trivial⟩⟩,⟨by show _++x9 _ _=x9 a b;rw [← h1,aP3 he hz],by simp only [List.length_append,List.length_cons,List.length_nil] at h2 ⊢;omega,fun t ht=>h3 t (List.mem_cons_of_mem _ ht),fun t ht=>h4 t (List.mem_cons_of_mem _ ht)⟩,by simp;omega⟩
    ·have hs:sgR (t.2+u.2)≠0:=fun h=>hz (sz.1 h)
     conv=>whnf
     repeat' (first|refine zz ?_|refine qp ad ?_|refine qp sg ?_|refine qp 0 ?_|refine qp 0 ?_|refine qp toC ?_|refine qp 11 ?_|refine T0 (by omega) (by omega) (by omega) ?_|refine u5 (k:=0) rfl (show (t::r)[0]? =some t from rfl) ?_|refine u5 (k:=0) rfl (show (u::q)[0]? =some u from rfl) ?_|refine o6 lA (by simp [toC];omega) ?_|refine bl0 [11] ?_|refine zd ?_ ?_<;>intro h<;>try omega|refine zy ?_|fail)<;>conv=>whnf
     all_goals first
      |omega
      |exact ⟨[some 2],(o++[(t.1,t.2+u.2)],r,q),⟨rfl,rfl,⟨a8 (rows:=(o++[(t.1,t.2+u.2)]).map i9) rfl rfl rfl (A6 (f:=i9) (x:=(t.1,t.2+u.2)) rfl) rfl,trivial⟩,⟨g7 (a64 t r),g7 (a64 u q),⟨rfl,rfl,by simp [toC],fun h=>h⟩,trivial⟩⟩,⟨by show _++x9 _ _=x9 a b;rw [← h1,b3d he hz,List.append_assoc];rfl,by simp only [List.length_append,List.length_cons,List.length_nil] at h2 ⊢;omega,fun t ht=>h3 t (List.mem_cons_of_mem _ ht),fun t ht=>h4 t (List.mem_cons_of_mem _ ht)⟩,by simp;omega⟩
   ·have fr:=a8G u.2 (by omega)
    conv=>whnf
    repeat' (first|refine zz ?_|refine qp fr ?_|refine qp 0 ?_|refine qp 0 ?_|refine qp toC ?_|refine T0 (by omega) (by omega) (by omega) ?_|refine u5 (k:=0) rfl (show (t::r)[0]? =some t from rfl) ?_|refine u5 (k:=0) rfl (show (u::q)[0]? =some u from rfl) ?_|refine o6 lA (by simp [toC];omega) ?_|refine zd ?_ ?_<;>intro h<;>try omega|refine zy ?_|fail)<;>conv=>whnf
    all_goals first
     |omega
     |exact ⟨[some 1],(o++[(u.1,u.2)],t::r,q),⟨rfl,rfl,⟨a8 (rows:=(o++[(u.1,u.2)]).map i9) rfl rfl rfl (A6 (f:=i9) (x:=(u.1,u.2)) rfl) rfl,trivial⟩,⟨rfl,g7 (a64 u q),⟨rfl,rfl,by simp [toC],fun h=>h⟩,trivial⟩⟩,⟨by show _++x9 _ _=x9 a b;rw [← h1,b1I hgt,List.append_assoc];rfl,by simp only [List.length_append,List.length_cons,List.length_nil] at h2 ⊢;omega,h3,fun t ht=>h4 t (List.mem_cons_of_mem _ ht)⟩,by simp⟩
theorem af2 {ρ:List (Option Nat)} {H:Hp} {x y:C} (h:aF0 ρ H x y):∀{A:List (List T)},a3V ρ H (toC A++[[x]]) (toC A++[[y]])
 |[]=>⟨⟨h,trivial⟩,trivial⟩
 |a::A=>⟨L6 a,af2 h⟩
theorem af4 {ρ:List (Option Nat)} {H:Hp} {id len:Nat} {app:Bool} {size:Nat} {k:Blk} {rows:List (List T)} (hn:F3 ρ id=true) (hk:H[id]? =some k) (hd:¬k.mode.gone) (hs:k.size=size) (hc:k.rows=toC rows) (hl:len=rows.length):
 aF0 ρ H (.own id 0 len app) (.t (.sl size .any rows)):=show VC H _ _ _ from s8 hn hk hd hs hc hl
def a3H (g:List (Int × Rat)):List T:=[a6U g]
abbrev b4z (l:List (List (Int × Rat))):T:=.sl 1 .any (l.map a3H)
abbrev a3T (l:List (List (Int × Rat))):S:=.c (.t (b4z l))
abbrev aa4 (l:List (List (Int × Rat))):Blk:={ mode:=.live,elem:=64,size:=1,rows:=toC (l.map a3H),box:=false }
def z9 (i:Nat):List (Int × Rat):=[((i:Int),((1:Int):Rat))]
def u9 (e:Ev) (p k:Nat):List (Int × Rat):=if u4 e p=0 then [] else i7 e p k
def F8 (e:Ev) (k p:Nat):List (List (Int × Rat)):=(List.range k).map z9++(List.range p).map fun p=>u9 e p e.moves.length
def I5 (e:Ev):List (List (Int × Rat)):=F8 e e.moves.length e.places.length
theorem a5A (e:Ev) (k p:Nat):(F8 e k p).length=k+p:=by simp [F8]
theorem b4l (e:Ev) (k:Nat):F8 e (k+1) 0=F8 e k 0++[z9 k]:=by simp [F8,List.range_succ]
theorem b3M (e:Ev) (k p:Nat):F8 e k (p+1)=F8 e k p++[u9 e p e.moves.length]:=by simp [F8,List.range_succ,List.append_assoc]
theorem a3p (e:Ev) (p:Nat):u9 e p 0=[]:=by unfold u9;split<;>rfl
theorem a6I {e:Ev} {p k:Nat} {m:x8} (h:e.moves[k]? =some m):u9 e p (k+1)=if u4 e p=0 then [] else if m.dst=p then u9 e p k++[((k:Int),((1:Int):Rat))] else if m.src=p then u9 e p k++[((k:Int),((-1:Int):Rat))] else u9 e p k:=by
 unfold u9
 by_cases h0:u4 e p=0
 ·rw [if_pos h0,if_pos h0]
 ·rw [if_neg h0,if_neg h0,if_neg h0]
  conv=>lhs;unfold i7
  rw [h]
theorem a8f (e:Ev) (p:Nat):∀k,(u9 e p k).length<=k
 |0=>by rw [a3p];simp
 |k+1=>by
  have ih:=a8f e p k
  cases hm:e.moves[k]? with
  |none=>
   have:u9 e p (k+1)=u9 e p k:=by
    unfold u9
    conv=>lhs;unfold i7
    rw [hm]
   rw [this];omega
  |some m=>
   rw [a6I hm]
   split
   ·simp
   ·split
    ·simp;omega
    ·split
     ·simp;omega
     ·omega
abbrev plB (p:H6):Blk:={ mode:=.live,elem:=77,size:=3,rows:=[p.row.map .t],box:=true }
set_option maxHeartbeats 8000000 in
theorem b4S (e:Ev) (hs:e.Sized) (hm:e.moves.length<=1000) (hp:e.places.length<=1000):a9 Tryz.prog 146 [evS e] [] (a3T (I5 e)) []:=by
 have m1:(e.moves.map x8.row).length=e.moves.length:=by simp
 have m2:(e.places.map H6.row).length=e.places.length:=by simp
 unfold I5
 (refine ac Tryz.func146 ?_;(conv=>whnf);repeat ((first|refine b0x ?_|refine zy ?_);conv=>whnf))
 repeat' (first|refine zz ?_|refine zd ?_ ?_<;>intro h<;>try omega|refine zy ?_|fail)<;>conv=>whnf
 refine d7 c8 (fun k=>([J,S.c (C.t (T.ptr (evT e))),J,S.c (C.own 0 0 k true),J,J,J,J,J,J,J,J,a7 .i64 e.moves.length,a7 .i64 k,J,J,J,J,J,J,J,J,J,J,J,J,J,J,J,J,J,J,J,J,J,J,J,J,J,J,J,J,J,J,J,J,J,J,J,J,J,J,J,J,J,J,J,J,J,J,J,J,J,J,J,J,J],[aa4 (F8 e k 0)])) e.moves.length (fun _=>True) [none] trivial
  ⟨rfl,rfl,⟨⟨rfl,rfl⟩,trivial⟩,⟨rfl,⟨rfl,rfl,rfl⟩,c6 (by simp),rfl,trivial⟩⟩ ?_
 intro k hk _
 have l1:=a5A e k 0
 by_cases hlt:k<e.moves.length
 ·have on:=a5C k 1 (by decide) (by decide)
  have lA:k<=(aa4 (F8 e k 0)).rows.length:=by show _<=(toC _).length;simp [toC,l1]
  rw [b4l]
  conv=>whnf
  repeat' (first|refine zz ?_|refine qp on ?_|refine qp toC ?_|refine o6 lA (by simp [toC];omega) ?_|refine zd ?_ ?_<;>intro h<;>try omega|refine zy ?_|fail)<;>conv=>whnf
  all_goals first
   |omega
   |(refine ⟨hlt,trivial,[some 1],rfl,rfl,⟨a8 (rows:=(F8 e k 0++[z9 k]).map a3H) rfl rfl rfl ?_ rfl,trivial⟩,⟨rfl,⟨rfl,rfl,rfl,fun h=>h⟩,rfl,c6 (by omega),trivial⟩⟩
     exact A6 (f:=a3H) (x:=z9 k) (by omega))
 have hke:k=e.moves.length:=by omega
 subst hke
 conv=>whnf
 repeat' (first|refine zz ?_|refine zd ?_ ?_<;>intro h<;>try omega|refine zy ?_|fail)<;>conv=>whnf
 all_goals try omega
 refine d7 c8 (fun p=>([J,S.c (C.t (T.ptr (evT e))),J,S.c (C.own 0 0 (e.moves.length+p) true),J,J,J,J,J,J,J,J,J,J,J,J,J,J,J,J,J,J,J,S.c (C.t (a0T e.places)),a7 .i64 e.places.length,a7 .i64 p,J,J,J,J,J,J,J,J,J,J,J,J,J,J,J,J,J,J,J,J,J,J,J,J,J,J,J,J,J,J,J,J,J,J,J,J,J,J,J,J,J],[aa4 (F8 e e.moves.length p)])) e.places.length (fun _=>True) [some 0] trivial
  ⟨rfl,rfl,⟨a8 (rows:=(F8 e e.moves.length 0).map a3H) rfl rfl rfl rfl rfl,trivial⟩,⟨rfl,⟨rfl,rfl,rfl,fun h=>h⟩,rfl,c6 (by simp),rfl,trivial⟩⟩ ?_
 intro p hpl _
 have l2:=a5A e e.moves.length p
 by_cases hlt:p<e.places.length
 ·obtain ⟨pl,hpp⟩:∃pl,e.places[p]? =some pl:=⟨_,lg0 hlt⟩
  have hkp:u4 e p=pl.kind:=by unfold u4;simp [hpp]
  rw [b3M]
  conv=>whnf
  repeat' (first|refine zz ?_|refine b9 hpp ?_|refine zd ?_ ?_<;>intro h<;>try omega|refine zy ?_|fail)<;>conv=>whnf
  all_goals try omega
  refine d7 c8 (fun i=>([J,S.c (C.t (T.ptr (evT e))),J,S.c (C.own 0 0 (e.moves.length+p) true),J,a7 .i64 p,S.c (C.ptr 1 0 0),S.c (C.own 2 0 (u9 e p i).length true),J,J,J,J,J,J,J,J,J,J,J,J,J,J,J,S.c (C.t (a0T e.places)),a7 .i64 e.places.length,a7 .i64 p,J,J,J,J,J,S.c (C.t (a1v e.moves)),a7 .i64 e.moves.length,a7 .i64 i,J,J,J,J,J,J,J,J,J,J,J,J,J,J,J,J,J,J,J,J,J,J,J,J,J,J,J,J,J,J,J,J,J],[aa4 (F8 e e.moves.length p),plB pl,M4 (u9 e p i)])) e.moves.length (fun _=>True) [some 0,some 1,none] trivial
   ⟨rfl,rfl,⟨c9 (c7 _),c9 (c7 [pl.row]),⟨(by show (toC ((u9 e p 0).map i9))=[];rw [a3p];rfl),rfl⟩,trivial⟩,⟨rfl,⟨rfl,rfl,rfl,fun h=>h⟩,rfl,⟨rfl,rfl,rfl⟩,⟨rfl,rfl,by rw [a3p];rfl⟩,rfl,rfl,rfl,rfl,c6 (by simp),rfl,trivial⟩⟩ ?_
  intro i hi _
  have l3:=a8f e p i
  by_cases hil:i<e.moves.length
  ·obtain ⟨m,hmm⟩:∃m,e.moves[i]? =some m:=⟨_,lg0 hil⟩
   have on:=a5C i 1 (by decide) (by decide)
   have on2:=a5C i (-1) (by decide) (by decide)
   have lA:(u9 e p i).length<=(M4 (u9 e p i)).rows.length:=by show _<=(toC _).length;simp [toC]
   have eS:=a6I (p:=p) hmm
   rw [hkp] at eS
   by_cases h0:pl.kind=0
   ·have e0:∀k,u9 e p k=[]:=fun k=>by unfold u9;rw [hkp,if_pos h0]
    rw [e0,e0]
    conv=>whnf
    repeat' (first|refine zz ?_|refine b9 hmm ?_|refine zd ?_ ?_<;>intro h<;>try omega|refine zy ?_|fail)<;>conv=>whnf
    all_goals first
     |omega
     |exact ⟨hil,trivial,[some 0,some 1,some 2],rfl,rfl,⟨c9 (c7 _),c9 (c7 [pl.row]),c9 (c7 _),trivial⟩,⟨rfl,⟨rfl,rfl,rfl,fun h=>h⟩,rfl,⟨rfl,rfl,rfl⟩,⟨rfl,rfl,rfl,fun h=>h⟩,rfl,rfl,rfl,rfl,rfl,c6 (by omega),trivial⟩⟩
   rw [if_neg h0] at eS
   by_cases h1:m.dst=p
   ·rw [if_pos h1] at eS
    rw [eS]
    conv=>whnf
    repeat' (first|refine zz ?_|refine qp on ?_|refine qp toC ?_|refine b9 hmm ?_|refine o6 lA (by simp [toC];omega) ?_|refine zd ?_ ?_<;>intro h<;>try omega|refine zy ?_|fail)<;>conv=>whnf
    all_goals first
     |omega
     |(refine ⟨hil,trivial,[some 0,some 1,some 4],rfl,rfl,⟨c9 (c7 _),c9 (c7 [pl.row]),a8 (rows:=(u9 e p i++[((i:Int),((1:Int):Rat))]).map i9) rfl rfl rfl ?_ rfl,trivial⟩,⟨rfl,⟨rfl,rfl,rfl,fun h=>h⟩,rfl,⟨rfl,rfl,rfl⟩,⟨rfl,rfl,?_,fun h=>h⟩,rfl,rfl,rfl,rfl,rfl,c6 (by omega),trivial⟩⟩
       ·exact A6 (f:=i9) (x:=((i:Int),((1:Int):Rat))) rfl
       ·simp [toC])
   rw [if_neg h1] at eS
   by_cases h2:m.src=p
   ·rw [if_pos h2] at eS
    rw [eS]
    conv=>whnf
    repeat' (first|refine zz ?_|refine qp on2 ?_|refine qp toC ?_|refine b9 hmm ?_|refine o6 lA (by simp [toC];omega) ?_|refine zd ?_ ?_<;>intro h<;>try omega|refine zy ?_|fail)<;>conv=>whnf
    all_goals first
     |omega
     |(refine ⟨hil,trivial,[some 0,some 1,some 4],rfl,rfl,⟨c9 (c7 _),c9 (c7 [pl.row]),a8 (rows:=(u9 e p i++[((i:Int),((-1:Int):Rat))]).map i9) rfl rfl rfl ?_ rfl,trivial⟩,⟨rfl,⟨rfl,rfl,rfl,fun h=>h⟩,rfl,⟨rfl,rfl,rfl⟩,⟨rfl,rfl,?_,fun h=>h⟩,rfl,rfl,rfl,rfl,rfl,c6 (by omega),trivial⟩⟩
       ·exact A6 (f:=i9) (x:=((i:Int),((-1:Int):Rat))) rfl
       ·simp [toC])
   rw [if_neg h2] at eS
   rw [eS]
   conv=>whnf
   repeat' (first|refine zz ?_|refine b9 hmm ?_|refine zd ?_ ?_<;>intro h<;>try omega|refine zy ?_|fail)<;>conv=>whnf
   all_goals first
    |omega
    |exact ⟨hil,trivial,[some 0,some 1,some 2],rfl,rfl,⟨c9 (c7 _),c9 (c7 [pl.row]),c9 (c7 _),trivial⟩,⟨rfl,⟨rfl,rfl,rfl,fun h=>h⟩,rfl,⟨rfl,rfl,rfl⟩,⟨rfl,rfl,rfl,fun h=>h⟩,rfl,rfl,rfl,rfl,rfl,c6 (by omega),trivial⟩⟩
  ·have hie:i=e.moves.length:=by omega
   subst hie
   have lA:e.moves.length+p<=(aa4 (F8 e e.moves.length p)).rows.length:=by show _<=(toC _).length;simp [toC,l2]
   conv=>whnf
   repeat' (first|refine zz ?_|refine qp (toC,E3) ?_|refine a3L.own ?_|refine ⟨Nat.le_refl _,?_⟩|refine o6 lA (by simp [toC,E3];omega) ?_|refine zd ?_ ?_<;>intro h<;>try omega|refine zy ?_|fail)<;>conv=>whnf
   all_goals first
    |omega
    |(refine ⟨hlt,trivial,[some 4],rfl,rfl,⟨⟨rfl,rfl,rfl,.inr ?_⟩,trivial⟩,⟨rfl,⟨rfl,rfl,rfl,fun h=>h⟩,rfl,rfl,c6 (by omega),trivial⟩⟩
      show a3V [some 4] _ (List.take (e.moves.length+p) (toC ((F8 e e.moves.length p).map a3H))++[[C.own 2 0 (u9 e p e.moves.length).length true]]) (toC ((F8 e e.moves.length p++[u9 e p e.moves.length]).map a3H))
      rw [lg4 (by simp [toC,l2]),show toC ((F8 e e.moves.length p++[u9 e p e.moves.length]).map a3H)=toC ((F8 e e.moves.length p).map a3H)++[[C.t (a6U (u9 e p e.moves.length))]] by simp [toC,a3H]]
      refine af2 ?_
      exact af4 (k:=M4 (u9 e p e.moves.length)) rfl rfl (by intro h;cases h) rfl rfl (by rw [List.length_map]))
 ·have hpe:p=e.places.length:=by omega
  subst hpe
  conv=>whnf
  repeat' (first|refine zz ?_|refine zd ?_ ?_<;>intro h<;>try omega|refine zy ?_|fail)<;>conv=>whnf
  all_goals first
   |omega
   |exact R8 rfl (fun h=>h) rfl rfl (by simp [l2])
structure a7t (s:f8) (gL:List (List (Int × Rat))):Prop where
 p:a17 s gL
 sm:U7 s
 pos:0<s.n
 w:∀g ∈ gL,a0d 1 g
 l:gL.length<=30
theorem a61 {B:Nat} {g:List (Int × Rat)} (h:a0d B g) (hB:B<=1048575):C0 g:=fun t ht=>by
 obtain ⟨c,h1,h2⟩:=h t ht
 exact ⟨c,h1,o7 (by omega) (by omega)⟩
theorem a5P {s:f8} {gL:List (List (Int × Rat))} (h:a7t s gL) (out:List Bool):∀k,k<=gL.length->a0d k (M5 gL out k)
 |0,_=>fun t ht=>by cases ht
 |k+1,hk=>by
  have ih:=a5P h out k (by omega)
  unfold M5
  split
  ·intro t ht;obtain ⟨c,h1,h2⟩:=ih t ht;exact ⟨c,h1,by omega⟩
  ·exact aS9 _ (Nat.le_refl _) ih (h.w _ (O6 (by omega)))
theorem a9m {s:f8} {gL:List (List (Int × Rat))} (h:a7t s gL) (out:List Bool) (k:Nat) (hk:k<=gL.length):C0 (M5 gL out k):=a61 (a5P h out k hk) (by have:=h.l;omega)
theorem as8 {s:f8} {gL:List (List (Int × Rat))} (h:a7t s gL) (out:List Bool):∀v ∈ a0y s gL out,rl v<=31:=b4a h.sm (a0a h.p out _ (Nat.le_refl _)) (a9m h out _ (Nat.le_refl _))
theorem a9n {s:f8} {gL:List (List (Int × Rat))} {out:List Bool}:(a0y s gL out).length=s.n.toNat:=ai8
theorem a6m {s:f8} {gL:List (List (Int × Rat))}:∀k,(Z1 s gL k).length=s.n.toNat
 |0=>a9n
 |k+1=>a1o (a6m k) a9n
theorem a8A {s:f8} {gL:List (List (Int × Rat))} (h:a7t s gL) (k:Nat):∀v ∈ Z1 s gL k,rl v<=(k+1)*32:=by
 induction k with
 |zero=>
  intro v hv
  have hv:v ∈ a0y s gL (t9 s gL 0):=hv
  exact Nat.le_trans (as8 h (t9 s gL 0) v hv) (by decide)
 |succ k ih=>
  have hf:=as8 h (t9 s gL (k+1))
  intro v hv
  have hv:v ∈ X4 (Z1 s gL k) (a0y s gL (t9 s gL (k+1))):=hv
  generalize Z1 s gL k=X at ih hv
  generalize a0y s gL (t9 s gL (k+1))=Y at hf hv
  have h1:=b0i ih hf v hv
  have e:(k+1+1)*32=(k+1)*32+32:=Nat.succ_mul _ _
  rw [e];exact h1
def a22 (b:Bool):List T:=[tb b]
abbrev a5W (l:List Bool):T:=.sl 1 .any (l.map a22)
abbrev b7c (l:List Bool):S:=.c (.t (a5W l))
abbrev Z5 (l:List Bool):Blk:={ mode:=.live,elem:=4,size:=1,rows:=toC (l.map a22),box:=false }
def a2X (gL:List (List (Int × Rat))) (out:List Bool) (x:List Rat) (i:Nat):List Bool:=(List.range gL.length).map fun j=>if j<i then (out.getD j false || a1k (gL.getD j []) x) else out.getD j false
def a4y (gL:List (List (Int × Rat))) (out:List Bool) (x:List Rat) (i:Nat):Bool:=(List.range i).any fun j=>!out.getD j false && a1k (gL.getD j []) x
theorem a63 (gL:List (List (Int × Rat))) (out:List Bool) (x:List Rat) (i:Nat):(a2X gL out x i).length=gL.length:=by simp [a2X]
theorem b19 {gL:List (List (Int × Rat))} {out:List Bool} {x:List Rat} (h:out.length=gL.length):a2X gL out x 0=out:=by
 refine List.ext_getElem (by rw [a63,h]) fun i h1 h2=>?_
 simp [a2X,lg3,lg0 h2]
theorem b4h {gL:List (List (Int × Rat))} {out:List Bool} {x:List Rat} {i:Nat} (h:i<gL.length):(a2X gL out x i)[i]? =some (out.getD i false):=by
 unfold a2X;rw [List.getElem?_map,a50 h];simp
theorem aI0 (s:f8) (gL:List (List (Int × Rat))) (k:Nat):a2X gL (t9 s gL k) (a0y s gL (t9 s gL k)) gL.length=t9 s gL (k+1):=by
 show _=aj1 s gL (t9 s gL k)
 unfold a2X aj1
 exact List.map_congr_left fun j hj=>by rw [if_pos (List.mem_range.1 hj)]
theorem b4y {gL:List (List (Int × Rat))} {out:List Bool} {x:List Rat} {i:Nat} (h:i<gL.length) (hp:a1k (gL.getD i []) x=true):(a2X gL out x i).set i true=a2X gL out x (i+1):=by
 refine List.ext_getElem? fun j=>?_
 rw [List.getElem?_set]
 by_cases hj:j<gL.length
 ·unfold a2X
  rw [List.getElem?_map,List.getElem?_map,a50 hj,List.length_map,List.length_range]
  by_cases hij:i=j
  ·subst hij;rw [if_pos rfl,if_pos h]
   show some true=some (if i<i+1 then (out.getD i false || a1k (gL.getD i []) x) else out.getD i false)
   rw [if_pos (show i<i+1 by omega),hp,Bool.or_true]
  ·rw [if_neg hij]
   show some (if j<i then (out.getD j false || a1k (gL.getD j []) x) else out.getD j false)=some (if j<i+1 then (out.getD j false || a1k (gL.getD j []) x) else out.getD j false)
   by_cases hji:j<i
   ·rw [if_pos hji,if_pos (by omega)]
   ·rw [if_neg hji,if_neg (by omega)]
 ·rw [List.getElem?_eq_none (by rw [a63];omega),List.getElem?_eq_none (by rw [a63];omega),a63]
  by_cases hij:i=j
  ·subst hij;omega
  ·rw [if_neg hij]
theorem ai7 {gL:List (List (Int × Rat))} {out:List Bool} {x:List Rat} {i:Nat} (h:out.getD i false=true∨a1k (gL.getD i []) x=false):a2X gL out x (i+1)=a2X gL out x i:=by
 unfold a2X
 refine List.map_congr_left fun j hj=>?_
 by_cases hij:j=i
 ·subst hij
  rw [if_pos (by omega),if_neg (by omega)]
  rcases h with h|h
  ·rw [h];rfl
  ·rw [h,Bool.or_false]
 ·by_cases hji:j<i
  ·rw [if_pos hji,if_pos (by omega)]
  ·rw [if_neg hji,if_neg (by omega)]
theorem aT2 (gL:List (List (Int × Rat))) (out:List Bool) (x:List Rat) (i:Nat):a4y gL out x (i+1)=(a4y gL out x i || (!out.getD i false && a1k (gL.getD i []) x)):=by
 unfold a4y;rw [List.range_succ,List.any_append];simp
theorem ak3 {s:f8} {gL:List (List (Int × Rat))} {k:Nat}:a4y gL (t9 s gL k) (a0y s gL (t9 s gL k)) gL.length=false↔t9 s gL (k+1)=t9 s gL k:=by
 unfold a4y
 rw [List.any_eq_false]
 constructor
 ·intro h
  refine a5c (by rw [O0,O0]) fun i hi=>?_
  rw [O0] at hi
  rw [a1H hi]
  have:=h i (List.mem_range.2 hi)
  cases ho:(t9 s gL k).getD i false with
  |true=>rfl
  |false=>
   rw [ho] at this
   cases hp:a1k (gL.getD i []) (a0y s gL (t9 s gL k)) with
   |false=>rfl
   |true=>rw [hp] at this;exact absurd rfl this
 ·intro h i hi
  have hi:=List.mem_range.1 hi
  have:=a1H (s:=s) (k:=k) hi
  rw [h] at this
  cases ho:(t9 s gL k).getD i false with
  |true=>simp
  |false=>
   rw [ho,Bool.false_or] at this
   rw [← this];simp
theorem aE4 {l:List Bool} {i n:Nat} (h:n=i):u6 (Z5 l) ((Z5 l).rows.set n [C.t (tb true)])=Z5 (l.set i true):=by
 subst h
 unfold u6
 simp [toC,List.map_set,a22]
noncomputable def aT4 (s:f8) (gL:List (List (Int × Rat))):Nat->T
 |0=>.sl 0 .nil []
 |k+1=>C6 ((Z1 s gL k).map fz)
def scF (a:Nat->Rat) (c:Rat) (k:Nat):Nat->Rat:=fun j=>if j<k then a j*c else a j
theorem b3u (x y:List Rat) (h:x.length=y.length) (h0:0<x.length) (hn:x.length<=1000) (hx:∀v ∈ x,rl v<=60000) (hy:∀v ∈ y,rl v<=60000):
 a9 Tryz.prog 197 [i8 (x.map fz),i8 (y.map fz)] [] (.c (.own 0 0 x.length true)) [flB ((X4 x y).map fz)]:=by
 obtain ⟨n,hnx⟩:∃n,x.length=n:=⟨_,rfl⟩
 have gx:∀(x:List Rat),(∀ v ∈ x,rl v<=60000)->∀j,j<x.length->rl (x.getD j 0)<=60000:=fun x hx j hj=>by
  rw [lg3,lg0 hj];exact hx _ (List.getElem_mem hj)
 have ha:=gx x hx
 have hb:=gx y hy
 rw [a0j x,a0j y,a0j (X4 x y),a1o (n:=x.length) rfl h.symm,←h,hnx]
 rw [hnx] at ha h0 hn
 rw [← h,hnx] at hb
 have hs:∀j,j<n->(X4 x y).getD j 0=x.getD j 0+y.getD j 0:=fun j hj=>a4K (n:=n) hnx (by omega) hj
 have e0:rF n (fun j=>(X4 x y).getD j 0)=rF n (smF (fun j=>x.getD j 0) (fun j=>y.getD j 0) n):=w6 fun j hj=>by unfold smF;rw [if_pos hj];exact hs j hj
 rw [e0]
 have ha:∀j,j<n->rl ((fun j=>x.getD j 0) j)<=60000:=ha
 have hb:∀j,j<n->rl ((fun j=>y.getD j 0) j)<=60000:=hb
 generalize (fun j=>x.getD j 0)=a at ha ⊢
 generalize (fun j=>y.getD j 0)=b at hb ⊢
 have m1:((rF n b).map k7).length=n:=by simp [N7]
 have cl:=a7J (rF n a) (by rw [N7];exact h0) (by rw [N7];omega)
 rw [N7] at cl
 (refine ac Tryz.func197 ?_;(conv=>whnf);repeat (refine zy ?_;conv=>whnf))
 repeat' (first|refine zz ?_|refine .inr ⟨_,_,cl,?_⟩|refine zd ?_ ?_<;>intro h<;>try omega|refine zy ?_|fail)<;>conv=>whnf
 refine d7 c8 (fun k=>([J,J,J,J,J,S.c (C.own 0 0 n true),J,J,J,J,i8 (rF n b),a7 .i64 n,a7 .i64 k,J,J,J,J,J,J,J,J,J,J,J,J,J,J,J,J,J,J],[flB (rF n (smF a b k))])) n (fun _=>True) [some 0] trivial
  ⟨rfl,rfl,⟨a8 (rows:=(rF n a).map k7) rfl rfl rfl rfl (by rw [w6 (g:=smF a b 0) (h:=a) fun j hj=>by unfold smF;rw [if_neg (by omega)]]),trivial⟩,⟨⟨rfl,rfl,rfl,fun h=>h⟩,g7 rfl,c6 (by omega),c6 rfl,trivial⟩⟩ ?_
 intro k hk _
 by_cases hlt:k<n
 ·have eK:0+(k:Int).toNat=k:=by omega
  have ad:=a28 (a k) (b k) (ha k hlt) (hb k hlt)
  have gp:(rF n (smF a b k))[0+(k:Int).toNat]? =some (fz (a k)):=by rw [eK,D4 hlt];unfold smF;rw [if_neg (by omega)]
  have e:u6 (flB (rF n (smF a b k))) ((flB (rF n (smF a b k))).rows.set (0+(k:Int).toNat) (frC (fz (a k+b k))))=flB (rF n (smF a b (k+1))):=by
   rw [E6 eK,P1 hlt]
   refine congrArg flB (w6 fun j hj=>?_)
   unfold smF
   by_cases h:j=k
   ·subst h;rw [if_pos rfl,if_pos (by omega)]
   ·rw [if_neg h]
    have:(j<k)↔(j<k+1):=by omega
    simp only [this]
  conv=>whnf
  repeat' (first|refine zz ?_|refine qp ad ?_|refine qp 10 ?_|refine a4c rfl hlt ?_|refine n7 gp ?_|refine bl0 [10] ?_|refine zd ?_ ?_<;>intro h<;>try omega|refine zy ?_|fail)<;>conv=>whnf
  all_goals first
   |omega
   |exact ⟨hlt,trivial,[some 0],rfl,rfl,⟨⟨rfl,rfl,rfl,.inl ⟨congrArg Blk.rows e,(congrArg Blk.rows e) ▸ c7 _⟩⟩,trivial⟩,⟨⟨rfl,rfl,rfl,fun h=>h⟩,rfl,rfl,c6 (by omega),trivial⟩⟩
 ·have hke:k=n:=by omega
  subst hke
  conv=>whnf
  repeat' (first|refine zz ?_|refine zd ?_ ?_<;>intro h<;>try omega|refine zy ?_|fail)<;>conv=>whnf
  all_goals first
   |omega
   |exact ⟨[some 0],rfl,rfl,⟨c9 (c7 _),trivial⟩,⟨rfl,rfl,rfl,fun h=>h⟩⟩
theorem az3 {out:List Bool} {j:Nat} {b:Bool} {K:List C->Prop} (h:out[j]? =some b) (k:K [C.t (tb b)]):∃row,(Z5 out).rows[j]? =some row∧K row:=⟨_,by show (toC (out.map a22))[j]? =_;simp [toC,a22,h],k⟩
theorem aB4 {O:Blk} {y:List Rat} {n:Nat} (hl:y.length=n):a3U [some 0] [O,flB (y.map fz)] (.c (.own [O].length 0 n true)) (.c (.t (C6 (y.map fz)))):=by
 show aF0 [some 0] [O,flB (y.map fz)] (.own 1 0 n true) (.t (.sl 4 .any ((y.map fz).map k7)))
 refine af4 (k:=flB (y.map fz)) (app:=true) rfl rfl ?_ rfl rfl ?_
 ·intro h;cases h
 ·rw [List.length_map,List.length_map,hl]
set_option maxHeartbeats 16000000 in
theorem b0u (s:f8) (gL:List (List (Int × Rat))) (h:a7t s gL):
 a9 Tryz.prog 147 [Q3 s,a3T gL] [] (.tup [b7c (isF s gL),i8 ((a9A s gL).map fz)]) []:=by
 have hG:=h
 have hL:=h.l
 have h9:=h.sm.n
 have hpos:=h.pos
 have hn:=V7 h.sm.r
 obtain ⟨n,hnn⟩:∃n,s.n.toNat=n:=⟨_,rfl⟩
 have m1:(gL.map a3H).length=gL.length:=by simp
 have cl:∀x:List Rat,x.length=n->a9 Tryz.prog 205 [i8 (x.map fz)] [] (.c (.own 0 0 n true)) [flB (x.map fz)]:=fun x hx=>by
  have:=a7J (x.map fz) (by rw [List.length_map];omega) (by rw [List.length_map];omega)
  rwa [List.length_map,hx] at this
 have eR:List.replicate (((gL.map a3H).length:Nat):Int).toNat [C4 (Value.bool false)]=toC ((t9 s gL 0).map a22):=by
  rw [Int.toNat_natCast,m1]
  show _=toC ((List.replicate gL.length false).map a22)
  simp [toC,a22]
  exact .inr rfl
 (refine ac Tryz.func147 ?_;(conv=>whnf);repeat ((first|refine b0x ?_|refine zy ?_);conv=>whnf))
 repeat' (first|refine zz ?_|refine a3y (by omega) (by omega) (by omega) (by decide) ?_|refine zd ?_ ?_<;>intro h<;>try omega|refine zy ?_|fail)<;>conv=>whnf
 refine d7 c8 (fun k=>([J,a3T gL,S.c (C.t (T.ptr [ti s.n,E1 s.rows])),J,J,J,S.c (C.own 0 0 gL.length true),S.c (C.t (aT4 s gL k)),a7 .i64 k,J,J,J,J,J,J,J,J,J,J,J,J,J,J,J,J,J,J,J,J,J,J,J,J,J,J,J,J,J,J,J,J,J,J,J,J,J,J,J,J,J,J,J,J,J,J,J,J,J,J,J,J,J,J,J,J,J,J,J,J,J,J,J,J,J,J,J,J,J,J,J,J,J,J,J,J,J,J,J,J,J,J,J,J,J,J,J,J,J,J,J,J,J,J],[Z5 (t9 s gL k)])) (gL.length+1) (fun k=>∀j,j<k->t9 s gL (j+1)≠t9 s gL j) [some 0] (fun j hj=>by omega)
  ⟨rfl,rfl,⟨⟨rfl,rfl,rfl,.inl ⟨eR,eR ▸ c7 _⟩⟩,trivial⟩,⟨rfl,rfl,⟨rfl,rfl,by omega,fun h=>h⟩,rfl,rfl,trivial⟩⟩ ?_
 intro k hk hI
 have hkl:=a4b hI
 have olen:=O0 s gL k
 generalize hout:t9 s gL k=out at olen
 conv=>whnf
 repeat' (first|refine zz ?_|refine zd ?_ ?_<;>intro h<;>try omega|refine zy ?_|fail)<;>conv=>whnf
 refine d7 c8 (fun i=>([J,a3T gL,S.c (C.t (T.ptr [ti s.n,E1 s.rows])),J,J,J,S.c (C.own 0 0 gL.length true),S.c (C.t (aT4 s gL k)),a7 .i64 k,j7 (M5 gL out i),J,J,J,J,J,J,J,J,J,J,J,J,J,J,J,J,a3T gL,a7 .i64 gL.length,a7 .i64 i,J,J,J,J,J,J,J,J,J,J,J,J,J,J,J,J,J,J,J,J,J,J,J,J,J,J,J,J,J,J,J,J,J,J,J,J,J,J,J,J,J,J,J,J,J,J,J,J,J,J,J,J,J,J,J,J,J,J,J,J,J,J,J,J,J,J,J,J,J,J,J,J,J,J],[Z5 out])) gL.length (fun _=>True) [some 0] trivial
  ⟨rfl,rfl,⟨c9 (c7 _),trivial⟩,⟨rfl,rfl,⟨rfl,rfl,rfl,fun h=>h⟩,g7 rfl,rfl,rfl,rfl,c6 (by simp),rfl,trivial⟩⟩ ?_
 intro i hi _
 by_cases hil:i<gL.length
 ·obtain ⟨g,hg⟩:∃g,gL[i]? =some g:=⟨_,lg0 hil⟩
  have hgd:gL.getD i []=g:=by rw [lg3,hg];rfl
  obtain ⟨b,hb⟩:∃b,out[i]? =some b:=⟨_,lg0 (by omega)⟩
  have hbd:out.getD i false=b:=by rw [lg3,hb];rfl
  have gp:out[0+(i:Int).toNat]? =some b:=by rw [Nat.zero_add,show (i:Int).toNat=i by omega];exact hb
  have eS:M5 gL out (i+1)=if b=true then M5 gL out i else x9 (M5 gL out i) g:=by
   conv=>lhs;unfold M5
   rw [hbd,hgd]
  rw [eS]
  have pl:=b86 (M5 gL out i) g (a1S (by omega) (a0a h.p out i (by omega))) (a1S (by omega) (h.p.g g (lg2 hg)))
   (fun t ht=>by have:=L7 (a9m h out i (by omega)) t ht;omega) (fun t ht=>by have:=L7 (a61 (h.w g (lg2 hg)) (by decide)) t ht;omega)
  cases b with
  |true=>
   rw [if_pos rfl]
   conv=>whnf
   repeat' (first|refine zz ?_|refine qp pl ?_|refine b9 hg ?_|refine az3 gp ?_|refine zd ?_ ?_<;>intro h<;>try omega|refine zy ?_|fail)<;>conv=>whnf
   all_goals first
    |omega
    |exact ⟨hil,trivial,[some 0],rfl,rfl,⟨c9 (c7 _),trivial⟩,⟨rfl,rfl,⟨rfl,rfl,rfl,fun h=>h⟩,g7 rfl,rfl,rfl,rfl,rfl,c6 (by omega),trivial⟩⟩
  |false=>
   rw [if_neg (by decide)]
   conv=>whnf
   repeat' (first|refine zz ?_|refine qp pl ?_|refine b9 hg ?_|refine az3 gp ?_|refine zd ?_ ?_<;>intro h<;>try omega|refine zy ?_|fail)<;>conv=>whnf
   all_goals first
    |omega
    |exact ⟨hil,trivial,[some 0],rfl,rfl,⟨c9 (c7 _),trivial⟩,⟨rfl,rfl,⟨rfl,rfl,rfl,fun h=>h⟩,g7 rfl,rfl,rfl,rfl,rfl,c6 (by omega),trivial⟩⟩
 have hie:i=gL.length:=by omega
 subst hie
 have mu:=aT8 s (M5 gL out gL.length) h.sm h.p.z hpos (a0a h.p out _ (Nat.le_refl _)) (a9m h out _ (Nat.le_refl _))
 have xr:=as8 h out
 have xl:(a0y s gL out).length=n:=by rw [a9n,hnn]
 have ex:Q9 s (M5 gL out gL.length)=a0y s gL out:=rfl
 rw [ex] at mu
 have m2:(((a0y s gL out).map fz).map k7).length=n:=by rw [List.length_map,List.length_map,xl]
 have po:∀g ∈ gL,a9 Tryz.prog 123 [j7 g,i8 ((a0y s gL out).map fz)] [] (d6 (a1k g (a0y s gL out))) []:=fun g hg=>
  a9N g (a0y s gL out) (by rw [xl];have:=h.p.g g hg;rwa [hnn] at this) (a61 (h.w g hg) (by decide)) (fun v hv=>by have:=xr v hv;omega) (by omega) (fun k=>by
   have h1:=a6n (L7 (a61 (h.w g hg) (by decide))) xr k
   have h2:=z5 (h.p.g g hg)
   have h3:g.length<=9:=by omega
   have h4:=Nat.mul_le_mul_right (31+4) h3
   omega)
 have eX:a0y s gL (t9 s gL k)=a0y s gL out:=by rw [hout]
 obtain ⟨x,hx⟩:∃x,a0y s gL out=x:=⟨_,rfl⟩
 rw [hx] at mu xr xl m2 po eX
 conv=>whnf
 repeat' (first|refine zz ?_|refine qp mu ?_|refine qp 5 ?_|refine bl0 [5] ?_|refine zd ?_ ?_<;>intro h<;>try omega|refine zy ?_|fail)<;>conv=>whnf
 all_goals try omega
 refine d7 c8 (fun i=>([J,a3T gL,S.c (C.t (T.ptr [ti s.n,E1 s.rows])),J,J,J,S.c (C.own 0 0 gL.length true),S.c (C.t (aT4 s gL k)),a7 .i64 k,J,J,J,i8 (x.map fz),J,d6 (a4y gL out x i),J,J,J,J,J,J,J,J,J,J,J,J,J,J,J,J,J,J,J,J,J,J,J,J,J,J,J,J,J,J,J,J,J,a3T gL,a7 .i64 gL.length,a7 .i64 i,J,J,J,J,J,J,J,J,J,J,J,J,J,J,J,J,J,J,J,J,J,J,J,J,J,J,J,J,J,J,J,J,J,J,J,J,J,J,J,J,J,J,J,J,J,J,J,J,J,J,J,J],[Z5 (a2X gL out x i)])) gL.length (fun _=>True) [some 0] trivial
  ⟨rfl,rfl,⟨a8 (rows:=out.map a22) rfl rfl rfl rfl (by rw [b19 olen]),trivial⟩,⟨rfl,rfl,⟨rfl,rfl,rfl,fun h=>h⟩,g7 rfl,rfl,rfl,rfl,rfl,c6 (by simp),rfl,trivial⟩⟩ ?_
 intro i hi _
 by_cases hil:i<gL.length
 ·obtain ⟨g,hg⟩:∃g,gL[i]? =some g:=⟨_,lg0 hil⟩
  have hgd:gL.getD i []=g:=by rw [lg3,hg];rfl
  obtain ⟨b,hb⟩:∃b,out.getD i false=b:=⟨_,rfl⟩
  have gp:(a2X gL out x i)[0+(i:Int).toNat]? =some b:=by rw [Nat.zero_add,show (i:Int).toNat=i by omega,b4h hil,hb]
  have pg:=po g (lg2 hg)
  rw [aT2,hb,hgd]
  have eM:0+(i:Int).toNat=i:=by omega
  generalize a4y gL out x i=mo
  cases b with
  |true=>
   rw [ai7 (.inl hb)]
   cases mo<;>
   ·conv=>whnf
    repeat' (first|refine zz ?_|refine qp pg ?_|refine b9 hg ?_|refine az3 gp ?_|refine zd ?_ ?_<;>intro h<;>try omega|refine zy ?_|fail)<;>conv=>whnf
    all_goals first
     |omega
     |exact ⟨hil,trivial,[some 0],rfl,rfl,⟨c9 (c7 _),trivial⟩,⟨rfl,rfl,⟨rfl,rfl,rfl,fun h=>h⟩,g7 rfl,rfl,rfl,rfl,rfl,rfl,c6 (by omega),trivial⟩⟩
  |false=>
   cases hq:a1k g x with
   |false=>
    rw [hq] at pg
    rw [ai7 (.inr (by rw [hgd];exact hq))]
    cases mo<;>
    ·conv=>whnf
     repeat' (first|refine zz ?_|refine qp pg ?_|refine b9 hg ?_|refine az3 gp ?_|refine zd ?_ ?_<;>intro h<;>try omega|refine zy ?_|fail)<;>conv=>whnf
     all_goals first
      |omega
      |exact ⟨hil,trivial,[some 0],rfl,rfl,⟨c9 (c7 _),trivial⟩,⟨rfl,rfl,⟨rfl,rfl,rfl,fun h=>h⟩,g7 rfl,rfl,rfl,rfl,rfl,rfl,c6 (by omega),trivial⟩⟩
   |true=>
    rw [hq] at pg
    have eB:=aE4 (l:=a2X gL out x i) eM
    rw [b4y hil (by rw [hgd];exact hq)] at eB
    cases mo<;>
    ·conv=>whnf
     repeat' (first|refine zz ?_|refine qp pg ?_|refine b9 hg ?_|refine az3 gp ?_|refine zd ?_ ?_<;>intro h<;>try omega|refine zy ?_|fail)<;>conv=>whnf
     all_goals first
      |omega
      |exact ⟨hil,trivial,[some 0],rfl,rfl,⟨⟨rfl,rfl,rfl,.inl ⟨congrArg Blk.rows eB,(congrArg Blk.rows eB) ▸ c7 _⟩⟩,trivial⟩,⟨rfl,rfl,⟨rfl,rfl,rfl,fun h=>h⟩,g7 rfl,rfl,rfl,rfl,rfl,rfl,c6 (by omega),trivial⟩⟩
 have hie:i=gL.length:=by omega
 subst hie
 cases k with
 |zero=>
  have ey:Z1 s gL 0=x:=by show a0y s gL (t9 s gL 0)=x;exact eX
  have cq:=fun H:Hp=>a53 (H:=H) (cl x xl) rfl rfl (c7 _)
  have eT:aT4 s gL 0=.sl 0 .nil []:=rfl
  rw [eT]
  have eT1:aT4 s gL (0+1)=C6 (x.map fz):=by show C6 ((Z1 s gL 0).map fz)=_;rw [ey]
  have yl:x.length=n:=by rw [← ey,a6m,hnn]
  have yr:∀v ∈ x,rl v<=1000:=fun v hv=>by
   rw [← ey] at hv
   have h1:=a8A hG _ v hv
   have h2:=Nat.mul_le_mul_right 32 (show 0+1<=31 by omega)
   omega
  have oE:a2X gL out x gL.length=t9 s gL (0+1):=by rw [← hout,←eX];exact aI0 s gL _
  have mE:a4y gL out x gL.length=false↔t9 s gL (0+1)=t9 s gL 0:=by rw [← hout,←eX];exact ak3
  rw [oE]
  cases hmo:a4y gL out x gL.length with
  |true=>
   have hne:t9 s gL (0+1)≠t9 s gL 0:=fun e=>by rw [mE.2 e] at hmo;cases hmo
   have hI2:∀j,j<0+1->t9 s gL (j+1)≠t9 s gL j:=fun j hj=>by
    by_cases hjk:j=0
    ·subst hjk;exact hne
    ·exact hI j (by omega)
   have hf2:=a4b hI2
   rw [eT1]
   generalize t9 s gL (0+1)=O'
   generalize x=y at yl yr cq ⊢
   conv=>whnf
   repeat' (first|refine zz ?_|refine .inl ⟨_,_,cq _,?_⟩|refine zd ?_ ?_<;>intro h<;>try omega|refine zy ?_|fail)<;>conv=>whnf
   all_goals first
    |omega
    |exact ⟨by omega,hI2,[some 0],rfl,rfl,⟨c9 (c7 _),trivial⟩,⟨rfl,rfl,⟨rfl,rfl,rfl,fun h=>h⟩,aB4 yl,c6 (by omega),trivial⟩⟩
  |false=>
   have hK:=aZ7 (mE.1 hmo) hI
   have eF:t9 s gL (0+1)=isF s gL:=by unfold isF;rw [← hK];exact mE.1 hmo
   have eW:a9A s gL=x.map fun v=>v*Rat.divInt 1 ((0+1:Nat):Int):=by unfold a9A;rw [← hK,ey]
   rw [eF,eW]
   have of:=b36 1 ((0:Nat)+1:Int) (by omega) (by decide) (by decide) (by omega) (by omega)
   have e1:Rat.divInt 1 ((0+1:Nat):Int)=Rat.divInt 1 ((0:Nat)+1:Int):=by push_cast;rfl
   rw [e1]
   have shr:rl (Rat.divInt 1 ((0:Nat)+1:Int))<=1:=by
    have h1:=O5 (p:=1) (q:=((0:Nat)+1:Int)) (by omega)
    have h2:=o7 (x:=1) (by decide) (by decide)
    have h3:=o7 (x:=((0:Nat)+1:Int)) (by omega) (by omega)
    omega
   generalize Rat.divInt 1 ((0:Nat)+1:Int)=sh at of shr
   have iL:(isF s gL).length=gL.length:=O0 _ _ _
   generalize isF s gL=I' at iL
   generalize x=y at yl yr cq ⊢
   have m5:((y.map fz).map k7).length=n:=by rw [List.length_map,List.length_map,yl]
   conv=>whnf
   repeat' (first|refine zz ?_|refine qp of ?_|refine qp 7 ?_|refine qp 5 ?_|refine .inl ⟨_,_,cq _,?_⟩|refine bl0 [7] ?_|refine bl0 [5] ?_|refine zd ?_ ?_<;>intro h<;>try omega|refine zy ?_|fail)<;>conv=>whnf
   all_goals try omega
   refine d7 c8 (fun j=>([J,J,J,J,J,J,S.c (C.own 0 0 gL.length true),S.c (C.own 1 0 n true),J,J,J,J,J,J,J,J,J,S.c (C.ptr 2 0 0),J,J,J,J,J,J,J,J,J,J,J,J,J,J,J,J,J,J,J,J,J,J,J,J,J,J,J,J,J,J,J,J,J,J,J,J,J,J,J,J,J,J,J,J,J,J,J,J,J,J,J,J,J,J,J,J,J,J,J,J,J,J,J,J,J,J,S.c (C.own 1 0 n true),a7 .i64 n,a7 .i64 j,J,J,J,J,J,J,J,J,J,J,J,J,J,J,J,J],[Z5 I',flB (rF n (scF (fun j=>y.getD j 0) sh j)),frX sh])) n (fun _=>True) [some 0,some 1,some 2] trivial
    ⟨rfl,rfl,⟨c9 (c7 _),a8 (rows:=(y.map fz).map k7) rfl rfl rfl rfl (by rw [a0j y,yl,w6 (g:=scF (fun j=>y.getD j 0) sh 0) (h:=fun j=>y.getD j 0) fun j hj=>by unfold scF;rw [if_neg (by omega)]]),aQ6 _,trivial⟩,⟨⟨rfl,rfl,rfl,fun h=>h⟩,⟨rfl,rfl,rfl,fun h=>h⟩,⟨rfl,rfl,rfl⟩,⟨rfl,rfl,rfl,fun h=>h⟩,c6 (by omega),rfl,trivial⟩⟩ ?_
   intro j hj _
   by_cases hjl:j<n
   ·have hyj:rl (y.getD j 0)<=1000:=by rw [lg3,lg0 (by omega)];exact yr _ (List.getElem_mem _)
    have mu2:=a75 (y.getD j 0) sh (by omega) (by omega)
    have eJ:0+(j:Int).toNat=j:=by omega
    have gj:(rF n (scF (fun j=>y.getD j 0) sh j))[0+(j:Int).toNat]? =some (fz (y.getD j 0)):=by rw [eJ,D4 hjl];unfold scF;rw [if_neg (by omega)]
    have e:u6 (flB (rF n (scF (fun j=>y.getD j 0) sh j))) ((flB (rF n (scF (fun j=>y.getD j 0) sh j))).rows.set (0+(j:Int).toNat) (frC (fz (y.getD j 0*sh))))=flB (rF n (scF (fun j=>y.getD j 0) sh (j+1))):=by
     rw [E6 eJ,P1 hjl]
     refine congrArg flB (w6 fun q hq=>?_)
     unfold scF
     by_cases hqj:q=j
     ·subst hqj;rw [if_pos rfl,if_pos (by omega)]
     ·rw [if_neg hqj]
      by_cases hq2:q<j
      ·rw [if_pos hq2,if_pos (by omega)]
      ·rw [if_neg hq2,if_neg (by omega)]
    conv=>whnf
    repeat' (first|refine zz ?_|refine qp mu2 ?_|refine qp 7 ?_|refine qp 5 ?_|refine n7 gj ?_|refine bl0 [7] ?_|refine bl0 [5] ?_|refine zd ?_ ?_<;>intro h<;>try omega|refine zy ?_|fail)<;>conv=>whnf
    all_goals first
     |omega
     |exact ⟨hjl,trivial,[some 0,some 1,some 2],rfl,rfl,⟨c9 (c7 _),⟨rfl,rfl,rfl,.inl ⟨congrArg Blk.rows e,(congrArg Blk.rows e) ▸ c7 _⟩⟩,aQ6 _,trivial⟩,⟨⟨rfl,rfl,rfl,fun h=>h⟩,⟨rfl,rfl,rfl,fun h=>h⟩,⟨rfl,rfl,rfl⟩,⟨rfl,rfl,rfl,fun h=>h⟩,rfl,c6 (by omega),trivial⟩⟩
   ·have hje:j=n:=by omega
    subst hje
    have eE:rF j (scF (fun j=>y.getD j 0) sh j)=(y.map fun v=>v*sh).map fz:=by
     rw [a0j (y.map _),List.length_map,yl]
     refine w6 fun q hq=>?_
     unfold scF
     rw [if_pos hq]
     show y.getD q 0*sh=(y.map fun v=>v*sh).getD q 0
     rw [lg3,lg3,List.getElem?_map,lg0 (by omega)];rfl
    rw [eE]
    conv=>whnf
    repeat' (first|refine zz ?_|refine zd ?_ ?_<;>intro h<;>try omega|refine zy ?_|fail)<;>conv=>whnf
    all_goals first
     |omega
     |exact j2 ⟨(show VC _ (fun id=>F3 [] id=true) (C.own 0 0 _ true) _ from s8 (k:=Z5 I') rfl rfl (fun h=>h) rfl rfl (by rw [List.length_map,iL])),(show VC _ (fun id=>F3 [] id=true) (C.own 1 0 _ true) _ from s8 (k:=flB ((y.map fun v=>v*sh).map fz)) rfl rfl (fun h=>h) rfl rfl (by rw [List.length_map,List.length_map,List.length_map,yl])),trivial⟩
 |succ k=>
  have ey:Z1 s gL (k+1)=X4 (Z1 s gL k) x:=by show X4 (Z1 s gL k) (a0y s gL (t9 s gL (k+1)))=_;rw [eX]
  have sl:=a6m (s:=s) (gL:=gL) k
  have sr:=a8A hG k
  have hl7:0<(((Z1 s gL k).map fz).map k7).length:=by rw [List.length_map,List.length_map,sl];omega
  have pl:=b3u (Z1 s gL k) x (by rw [sl,xl,hnn]) (by omega) (by omega) (fun v hv=>by have:=sr v hv;omega) (fun v hv=>by have:=xr v hv;omega)
  rw [sl,hnn] at pl
  have pq:=fun H:Hp=>a53 (H:=H) pl rfl rfl (c7 _)
  have eT:aT4 s gL (k+1)=C6 ((Z1 s gL k).map fz):=rfl
  rw [eT]
  have eT1:aT4 s gL (k+1+1)=C6 ((X4 (Z1 s gL k) x).map fz):=by show C6 ((Z1 s gL (k+1)).map fz)=_;rw [ey]
  have yl:(X4 (Z1 s gL k) x).length=n:=by rw [← ey,a6m,hnn]
  have yr:∀v ∈ (X4 (Z1 s gL k) x),rl v<=1000:=fun v hv=>by
   rw [← ey] at hv
   have h1:=a8A hG _ v hv
   have h2:=Nat.mul_le_mul_right 32 (show (k+1)+1<=31 by omega)
   omega
  have oE:a2X gL out x gL.length=t9 s gL ((k+1)+1):=by rw [← hout,←eX];exact aI0 s gL _
  have mE:a4y gL out x gL.length=false↔t9 s gL ((k+1)+1)=t9 s gL (k+1):=by rw [← hout,←eX];exact ak3
  rw [oE]
  cases hmo:a4y gL out x gL.length with
  |true=>
   have hne:t9 s gL ((k+1)+1)≠t9 s gL (k+1):=fun e=>by rw [mE.2 e] at hmo;cases hmo
   have hI2:∀j,j<(k+1)+1->t9 s gL (j+1)≠t9 s gL j:=fun j hj=>by
    by_cases hjk:j=(k+1)
    ·subst hjk;exact hne
    ·exact hI j (by omega)
   have hf2:=a4b hI2
   rw [eT1]
   generalize t9 s gL ((k+1)+1)=O'
   generalize (X4 (Z1 s gL k) x)=y at yl yr pq ⊢
   conv=>whnf
   repeat' (first|refine zz ?_|refine ⟨hl7,?_⟩|refine .inl ⟨_,_,pq _,?_⟩|refine zd ?_ ?_<;>intro h<;>try omega|refine zy ?_|fail)<;>conv=>whnf
   all_goals first
    |omega
    |exact ⟨by omega,hI2,[some 0],rfl,rfl,⟨c9 (c7 _),trivial⟩,⟨rfl,rfl,⟨rfl,rfl,rfl,fun h=>h⟩,aB4 yl,c6 (by omega),trivial⟩⟩
  |false=>
   have hK:=aZ7 (mE.1 hmo) hI
   have eF:t9 s gL ((k+1)+1)=isF s gL:=by unfold isF;rw [← hK];exact mE.1 hmo
   have eW:a9A s gL=(X4 (Z1 s gL k) x).map fun v=>v*Rat.divInt 1 (((k+1)+1:Nat):Int):=by unfold a9A;rw [← hK,ey]
   rw [eF,eW]
   have of:=b36 1 (((k+1):Nat)+1:Int) (by omega) (by decide) (by decide) (by omega) (by omega)
   have e1:Rat.divInt 1 (((k+1)+1:Nat):Int)=Rat.divInt 1 (((k+1):Nat)+1:Int):=by push_cast;rfl
   rw [e1]
   have shr:rl (Rat.divInt 1 (((k+1):Nat)+1:Int))<=1:=by
    have h1:=O5 (p:=1) (q:=(((k+1):Nat)+1:Int)) (by omega)
    have h2:=o7 (x:=1) (by decide) (by decide)
    have h3:=o7 (x:=(((k+1):Nat)+1:Int)) (by omega) (by omega)
    omega
   generalize Rat.divInt 1 (((k+1):Nat)+1:Int)=sh at of shr
   have iL:(isF s gL).length=gL.length:=O0 _ _ _
   generalize isF s gL=I' at iL
   generalize (X4 (Z1 s gL k) x)=y at yl yr pq ⊢
   have m5:((y.map fz).map k7).length=n:=by rw [List.length_map,List.length_map,yl]
   conv=>whnf
   repeat' (first|refine zz ?_|refine qp of ?_|refine qp 7 ?_|refine qp 5 ?_|refine ⟨hl7,?_⟩|refine .inl ⟨_,_,pq _,?_⟩|refine bl0 [7] ?_|refine bl0 [5] ?_|refine zd ?_ ?_<;>intro h<;>try omega|refine zy ?_|fail)<;>conv=>whnf
   all_goals try omega
   refine d7 c8 (fun j=>([J,J,J,J,J,J,S.c (C.own 0 0 gL.length true),S.c (C.own 1 0 n true),J,J,J,J,J,J,J,J,J,S.c (C.ptr 2 0 0),J,J,J,J,J,J,J,J,J,J,J,J,J,J,J,J,J,J,J,J,J,J,J,J,J,J,J,J,J,J,J,J,J,J,J,J,J,J,J,J,J,J,J,J,J,J,J,J,J,J,J,J,J,J,J,J,J,J,J,J,J,J,J,J,J,J,S.c (C.own 1 0 n true),a7 .i64 n,a7 .i64 j,J,J,J,J,J,J,J,J,J,J,J,J,J,J,J,J],[Z5 I',flB (rF n (scF (fun j=>y.getD j 0) sh j)),frX sh])) n (fun _=>True) [some 0,some 1,some 2] trivial
    ⟨rfl,rfl,⟨c9 (c7 _),a8 (rows:=(y.map fz).map k7) rfl rfl rfl rfl (by rw [a0j y,yl,w6 (g:=scF (fun j=>y.getD j 0) sh 0) (h:=fun j=>y.getD j 0) fun j hj=>by unfold scF;rw [if_neg (by omega)]]),aQ6 _,trivial⟩,⟨⟨rfl,rfl,rfl,fun h=>h⟩,⟨rfl,rfl,rfl,fun h=>h⟩,⟨rfl,rfl,rfl⟩,⟨rfl,rfl,rfl,fun h=>h⟩,c6 (by omega),rfl,trivial⟩⟩ ?_
   intro j hj _
   by_cases hjl:j<n
   ·have hyj:rl (y.getD j 0)<=1000:=by rw [lg3,lg0 (by omega)];exact yr _ (List.getElem_mem _)
    have mu2:=a75 (y.getD j 0) sh (by omega) (by omega)
    have eJ:0+(j:Int).toNat=j:=by omega
    have gj:(rF n (scF (fun j=>y.getD j 0) sh j))[0+(j:Int).toNat]? =some (fz (y.getD j 0)):=by rw [eJ,D4 hjl];unfold scF;rw [if_neg (by omega)]
    have e:u6 (flB (rF n (scF (fun j=>y.getD j 0) sh j))) ((flB (rF n (scF (fun j=>y.getD j 0) sh j))).rows.set (0+(j:Int).toNat) (frC (fz (y.getD j 0*sh))))=flB (rF n (scF (fun j=>y.getD j 0) sh (j+1))):=by
     rw [E6 eJ,P1 hjl]
     refine congrArg flB (w6 fun q hq=>?_)
     unfold scF
     by_cases hqj:q=j
     ·subst hqj;rw [if_pos rfl,if_pos (by omega)]
     ·rw [if_neg hqj]
      by_cases hq2:q<j
      ·rw [if_pos hq2,if_pos (by omega)]
      ·rw [if_neg hq2,if_neg (by omega)]
    conv=>whnf
    repeat' (first|refine zz ?_|refine qp mu2 ?_|refine qp 7 ?_|refine qp 5 ?_|refine n7 gj ?_|refine bl0 [7] ?_|refine bl0 [5] ?_|refine zd ?_ ?_<;>intro h<;>try omega|refine zy ?_|fail)<;>conv=>whnf
    all_goals first
     |omega
     |exact ⟨hjl,trivial,[some 0,some 1,some 2],rfl,rfl,⟨c9 (c7 _),⟨rfl,rfl,rfl,.inl ⟨congrArg Blk.rows e,(congrArg Blk.rows e) ▸ c7 _⟩⟩,aQ6 _,trivial⟩,⟨⟨rfl,rfl,rfl,fun h=>h⟩,⟨rfl,rfl,rfl,fun h=>h⟩,⟨rfl,rfl,rfl⟩,⟨rfl,rfl,rfl,fun h=>h⟩,rfl,c6 (by omega),trivial⟩⟩
   ·have hje:j=n:=by omega
    subst hje
    have eE:rF j (scF (fun j=>y.getD j 0) sh j)=(y.map fun v=>v*sh).map fz:=by
     rw [a0j (y.map _),List.length_map,yl]
     refine w6 fun q hq=>?_
     unfold scF
     rw [if_pos hq]
     show y.getD q 0*sh=(y.map fun v=>v*sh).getD q 0
     rw [lg3,lg3,List.getElem?_map,lg0 (by omega)];rfl
    rw [eE]
    conv=>whnf
    repeat' (first|refine zz ?_|refine zd ?_ ?_<;>intro h<;>try omega|refine zy ?_|fail)<;>conv=>whnf
    all_goals first
     |omega
     |exact j2 ⟨(show VC _ (fun id=>F3 [] id=true) (C.own 0 0 _ true) _ from s8 (k:=Z5 I') rfl rfl (fun h=>h) rfl rfl (by rw [List.length_map,iL])),(show VC _ (fun id=>F3 [] id=true) (C.own 1 0 _ true) _ from s8 (k:=flB ((y.map fun v=>v*sh).map fz)) rfl rfl (fun h=>h) rfl rfl (by rw [List.length_map,List.length_map,List.length_map,yl])),trivial⟩
theorem b5N {cs:List I6} {rs:List B4} {scale reading day:Int} {lo hi:Rat} (h:H4 cs rs scale reading day=some (lo,hi)):0<=hi:=by
 unfold H4 at h
 split at h
 ·cases h
 ·rename_i i hi
  obtain ⟨hb,c,hc,_,hcv⟩:=K3 hi
  have e:a0D cs i=c:=by unfold a0D;rw [hc];rfl
  rw [e] at h
  split at h
  ·cases h
  ·split at h
   ·rename_i hr
    injection h with h
    injection h with h1 h2
    rw [← h2]
    unfold G7 N0 at hcv
    rw [T7] at hr
    simp only [Bool.and_eq_true,decide_eq_true_eq,T7] at hcv
    obtain ⟨⟨⟨⟨⟨⟨⟨h1,h2⟩,h3⟩,_⟩,h4⟩,h5⟩,h6⟩,h7⟩:=hcv
    have e1:0<=c.permille*reading:=Int.mul_nonneg (by omega) (by omega)
    have e3:0<=c.drift*(day - c.since):=Int.mul_nonneg (by omega) (by omega)
    have r1:(0:Rat)<=(reading:Rat):=by exact_mod_cast hr.1
    have r2:(0:Rat)<=Rat.divInt (c.permille*reading) 1000:=by rw [Rat.divInt_nonneg_iff_of_pos_right (by decide)];exact e1
    have r3:(0:Rat)<=((c.grams+c.drift*(day - c.since):Int):Rat):=by exact_mod_cast (show (0:Int)<=c.grams+c.drift*(day - c.since) by omega)
    unfold a25
    grind
   ·cases h
theorem b0J {t:f5} {kind:Int} (ht:u0 t=0) (k0:0<=kind) (k1:kind<8):b5e (y0 t) kind (List.replicate t.ev.moves.length 0):=by
 refine ⟨a2q ht,k0,k1,by simp [y0],fun i x hx=>?_⟩
 rw [a9b,b1p (fun j=>a9b _ j)]
 refine ⟨⟨Rat.le_refl,fun _=>Rat.le_refl,fun _=>rfl⟩,?_,fun g hg=>(by simp [i6,y0] at hg),fun _=>rfl⟩
 show b2o (E4 t.ev x) 0=true
 cases hiv:E4 t.ev x with
 |none=>rfl
 |some p=>
  obtain ⟨lo,hi⟩:=p
  simp only [b2o,decide_eq_true_eq]
  unfold E4 at hiv
  split at hiv
  ·cases hiv
  ·exact b5N hiv
theorem aQ4 {t:f5} {kind:Int} (i:Nat) (ht:u0 t=0) (k0:0<=kind) (k1:kind<8):aa5 t kind i (List.replicate t.ev.moves.length 0):=
 ⟨b0J ht k0 k1,fun j _ _=>a9b _ j⟩
structure QT (t:f5):Prop where
 h:u0 t=0
 m:t.ev.moves.length<=8
 p:t.ev.places.length<=20
theorem QT.c {t:f5} (h:QT t):t.cleans.length<=50:=(p6 h.h).2.2.1
theorem M3 {t:f5} {kind:Int} {i:Nat} {z:List Rat} (h:QT t) (k0:0<=kind) (k1:kind<8):j0 (j5 t kind i) z=true↔aa5 t kind i z:=alone_holds h.h k0 k1 (by have:=h.m;omega)
theorem b1y {l:List Nat} {i:Nat}:∀w ∈ L0 l i,b3s w:=by
 intro w hw
 obtain ⟨j,hj,rfl⟩:=List.mem_map.1 hw
 exact ⟨W8 (by decide) (by decide),a5p⟩
theorem G2 {t:f5} {kind:Int} (i:Nat) (h:QT t):U7 (j5 t kind i):=by
 have hm:=h.m
 have hc:=h.c
 refine ⟨a89 (by omega) hc,fun w hw=>?_,by show ((t.ev.moves.length:Nat):Int)<=9;omega,?_⟩
 ·rcases List.mem_append.1 hw with hw|hw
  ·exact b9e (a2q h.h) w hw
  ·exact b1y w hw
 ·have h1:=Q0 (t:=y0 t) (kind:=kind) t.ev.moves.length
  have h2:t.ev.moves.length*(2+(y0 t).finds.length+(y0 t).cleans.length)<=14*52:=Nat.mul_le_mul (by omega) (by show 2+0+t.cleans.length<=52;omega)
  have h3:=a20 (f9 t.ev) i
  have h4:(f9 t.ev).length<=t.ev.moves.length:=w8 _
  show ((o4 (y0 t) kind t.ev.moves.length)++L0 (f9 t.ev) i).length<=999
  rw [List.length_append]
  omega
theorem a2A (i:Nat) (z:List Rat):j9 (z9 i) z=z.getD i 0:=by
 unfold z9
 show _=_
 simp only [j9,Int.toNat_natCast]
 have:((1:Int):Rat)=1:=rfl
 rw [this];grind
theorem a8e {e:Ev} (h0:B7 e=0) (z:List Rat) (p:Nat) (k:Nat):j9 (u9 e p k) z=if u4 e p=0 then 0 else a0x e z k p:=by
 unfold u9
 split
 ·rfl
 ·exact a5l h0 z p k
theorem al3 {e:Ev} {p:Int}:∀k,a0d 1 (i7 e p k)
 |0=>fun t ht=>by cases ht
 |k+1=>by
  have ih:=al3 (e:=e) (p:=p) k
  unfold i7
  cases hx:e.moves[k]? with
  |none=>exact ih
  |some y=>
   simp only
   split
   ·intro t ht
    rcases List.mem_append.1 ht with ht|ht
    ·exact ih t ht
    ·simp at ht;subst ht;exact ⟨1,rfl,by decide⟩
   ·split
    ·intro t ht
     rcases List.mem_append.1 ht with ht|ht
     ·exact ih t ht
     ·simp at ht;subst ht;exact ⟨-1,rfl,by decide⟩
    ·exact ih
theorem a7w {e:Ev} {g:List (Int × Rat)} (h:g ∈ I5 e):(∃ i,i<e.moves.length∧g=z9 i)∨∃p,p<e.places.length∧g=u9 e p e.moves.length:=by
 unfold I5 F8 at h
 rcases List.mem_append.1 h with h|h
 ·obtain ⟨i,hi,rfl⟩:=List.mem_map.1 h;exact .inl ⟨i,List.mem_range.1 hi,rfl⟩
 ·obtain ⟨p,hp,rfl⟩:=List.mem_map.1 h;exact .inr ⟨p,List.mem_range.1 hp,rfl⟩
theorem a4D (e:Ev):(I5 e).length=e.moves.length+e.places.length:=a5A _ _ _
theorem aK4 {e:Ev} {i:Nat} (h:i<e.moves.length):(I5 e).getD i []=z9 i:=by
 unfold I5 F8
 rw [lg3,List.getElem?_append_left (by simpa using h)]
 simp [h]
theorem aD9 {e:Ev} {p:Nat} (h:p<e.places.length):(I5 e).getD (e.moves.length+p) []=u9 e p e.moves.length:=by
 unfold I5 F8
 rw [lg3,List.getElem?_append_right (by simp)]
 simp [h]
theorem G3 {t:f5} {kind:Int} (i:Nat) (h:QT t) (h0:0<t.ev.moves.length) (k0:0<=kind) (k1:kind<8):a7t (j5 t kind i) (I5 t.ev):=by
 have hs:=G2 (kind:=kind) i h
 have hck:=(p6 h.h).1
 refine ⟨⟨hs.r,(ao4 hs.r).2 ⟨_,(M3 h k0 k1).2 (aQ4 i h.h k0 k1)⟩,fun g hg=>?_,fun g hg z hz=>?_⟩,hs,by show (0:Int)<((t.ev.moves.length:Nat):Int);omega,fun g hg=>?_,by rw [a4D];have:=h.m;have:=h.p;omega⟩
 ·show e8 (-1) ((((t.ev.moves.length:Nat):Int).toNat:Nat):Int) g=true
  rw [Int.toNat_natCast]
  rcases a7w hg with ⟨i,hi,rfl⟩|⟨p,hp,rfl⟩
  ·exact U6 (by omega) (by show ((i:Nat):Int)<_;omega) (by show ((1:Int):Rat)≠0;decide) rfl
  ·unfold u9
   split
   ·rfl
   ·exact (a2e _ (Int.le_refl _)).1
 ·have hA:=(M3 h k0 k1).1 hz
  rcases a7w hg with ⟨j,hj,rfl⟩|⟨p,hp,rfl⟩
  ·rw [a2A]
   obtain ⟨x,hx⟩:∃x,t.ev.moves[j]? =some x:=⟨_,lg0 hj⟩
   exact (hA.p.step j x hx).1.pos
  ·rw [a8e hck]
   split
   ·exact Rat.le_refl
   ·rename_i hk
    exact az7 hA.p _ _ hk
 ·rcases a7w hg with ⟨j,hj,rfl⟩|⟨p,hp,rfl⟩
  ·intro t ht;simp [z9] at ht;subst ht;exact ⟨1,rfl,by decide⟩
  ·unfold u9
   split
   ·intro t ht;cases ht
   ·exact al3 _
noncomputable def isA (t:f5) (kind:Int) (i:Nat):List Bool:=isF (j5 t kind i) (I5 t.ev)
noncomputable def N8 (t:f5) (kind:Int) (mv:Nat):List Nat:=(f9 t.ev).filter fun i=>(isA t kind i).getD mv false
noncomputable def B8 (t:f5) (kind:Int) (mv g:Nat):Bool:=(N8 t kind mv).any fun i=>(isA t kind i).getD g false
def aO2 (e:Ev) (z:List Rat) (g:Nat):Rat:=if g<e.moves.length then z.getD g 0 else if u4 e ((g - e.moves.length:Nat):Int)=0 then 0 else a0x e z e.moves.length (g - e.moves.length)
theorem a7f {e:Ev} (h0:B7 e=0) (z:List Rat) {g:Nat} (hg:g<e.moves.length+e.places.length):j9 ((I5 e).getD g []) z=aO2 e z g:=by
 unfold aO2
 by_cases h:g<e.moves.length
 ·rw [if_pos h,aK4 h,a2A]
 ·obtain ⟨p,rfl⟩:∃p,g=e.moves.length+p:=⟨g - e.moves.length,by omega⟩
  rw [if_neg h,aD9 (by omega),a8e h0,Nat.add_sub_cancel_left]
theorem b5l {t:f5} {kind:Int} {i g:Nat} (h:QT t) (h0:0<t.ev.moves.length) (k0:0<=kind) (k1:kind<8) (hg:g<t.ev.moves.length+t.ev.places.length):
 (isA t kind i).getD g false=true↔∃z,aa5 t kind i z∧0<aO2 t.ev z g:=by
 have hG:=G3 (kind:=kind) i h h0 k0 k1
 have hck:=(p6 h.h).1
 rw [isA,b4p hG.p (by rw [a4D];exact hg)]
 constructor
 ·rintro ⟨z,hz,hp⟩;exact ⟨z,(M3 h k0 k1).1 hz,by rw [← a7f hck z hg];exact hp⟩
 ·rintro ⟨z,hz,hp⟩;exact ⟨z,(M3 h k0 k1).2 hz,by rw [a7f hck z hg];exact hp⟩
noncomputable def a2O (t:f5) (kind:Int) (i:Nat):List Rat:=a9A (j5 t kind i) (I5 t.ev)
theorem a7c {t:f5} {kind:Int} {i:Nat} (h:QT t) (h0:0<t.ev.moves.length) (k0:0<=kind) (k1:kind<8):aa5 t kind i (a2O t kind i)∧∀g,g<t.ev.moves.length+t.ev.places.length->(isA t kind i).getD g false=true->0<aO2 t.ev (a2O t kind i) g:=by
 have hG:=G3 (kind:=kind) i h h0 k0 k1
 have hck:=(p6 h.h).1
 obtain ⟨h1,h2⟩:=b2F hG.p
 refine ⟨(M3 h k0 k1).1 h1,fun g hg hi=>?_⟩
 rw [← a7f hck _ hg]
 exact h2 g (by rw [a4D];exact hg) hi
theorem ar5 (t:f5) (kind:Int) (i:Nat):(isA t kind i).length=t.ev.moves.length+t.ev.places.length:=by
 rw [← a4D];exact O0 _ _ _
noncomputable def a5J (t:f5) (kind:Int) (i:Nat):List T:=[ti i,a5W (isA t kind i),C6 ((a2O t kind i).map fz)]
noncomputable abbrev b9m (t:f5) (kind:Int) (l:List Nat):T:=.sl 3 .any (l.map (a5J t kind))
noncomputable abbrev an8 (t:f5) (kind:Int) (l:List Nat):S:=.c (.t (b9m t kind l))
noncomputable abbrev b8o (t:f5) (kind:Int) (l:List Nat):Blk:={ mode:=.live,elem:=127,size:=3,rows:=toC (l.map (a5J t kind)),box:=false }
noncomputable def a7r (t:f5) (kind:Int) (mv k:Nat):List Nat:=((f9 t.ev).take k).filter fun i=>(isA t kind i).getD mv false
theorem b18 {t:f5} {kind:Int} {mv k i:Nat} (h:(f9 t.ev)[k]? =some i):a7r t kind mv (k+1)=if (isA t kind i).getD mv false=true then a7r t kind mv k++[i] else a7r t kind mv k:=by
 unfold a7r
 have e:(f9 t.ev).take (k+1)=(f9 t.ev).take k++[i]:=by rw [List.take_add_one,h];rfl
 rw [e,List.filter_append]
 by_cases hj:(isA t kind i).getD mv false=true
 ·rw [if_pos hj];simp [lg3] at hj ⊢;rw [hj]
 ·rw [if_neg hj];simp [lg3] at hj ⊢;rw [hj]
theorem b4j (t:f5) (kind:Int) (mv k:Nat):(a7r t kind mv k).length<=(f9 t.ev).length:=by
 unfold a7r
 exact Nat.le_trans (List.length_filter_le _ _) (by rw [List.length_take];omega)
theorem b2A (t:f5) (kind:Int) (mv:Nat):a7r t kind mv (f9 t.ev).length=N8 t kind mv:=by
 unfold a7r N8;rw [lg4 (Nat.le_refl _)]
set_option maxHeartbeats 4000000 in
theorem a7C (t:f5) (hs:t.Sized) (h:QT t) (find:Int) (f:I8) (f0:0<=find) (hf:t.finds[find.toNat]? =some f):
 a9 Tryz.prog 78 [trS t,a7 .i64 find] [] (an8 t f.kind (N8 t f.kind f.mv.toNat)) []:=by
 obtain ⟨q1,q2,q3,q4,q5⟩:=p6 h.h
 have hg:=B9 q4 f (lg2 hf)
 have hm:=h.m
 have hp:=h.p
 have m1:((H3 t.ev).map e7).length=(f9 t.ev).length:=by rw [List.length_map,a03]
 have ll:(f9 t.ev).length<=t.ev.moves.length:=w8 _
 have li:=a6z t.ev hs.ev q1
 have go:=b4S t.ev hs.ev (by omega) (by omega)
 (refine ac Tryz.func78 ?_;(conv=>whnf);repeat ((first|refine b0x ?_|refine zy ?_);conv=>whnf))
 repeat' (first|refine zz ?_|refine qp li ?_|refine qp go ?_|refine zd ?_ ?_<;>intro h<;>try omega|refine zy ?_|fail)<;>conv=>whnf
 refine d7 c8 (fun k=>([J,a7 .i64 find,S.c (C.t (T.ptr (trT t))),J,J,S.c (C.own 0 0 (a7r t f.kind f.mv.toNat k).length true),d9 (H3 t.ev),a3T (I5 t.ev),J,J,J,J,J,J,J,J,J,J,d9 (H3 t.ev),a7 .i64 (f9 t.ev).length,a7 .i64 k,J,J,J,J,J,J,J,J,J,J,J,J,J,J,J,J,J,J,J,J,J,J,J,J,J,J,J,J,J,J,J],[b8o t f.kind (a7r t f.kind f.mv.toNat k)])) (f9 t.ev).length (fun _=>True) [none] trivial
  ⟨rfl,rfl,⟨⟨rfl,rfl⟩,trivial⟩,⟨rfl,rfl,⟨rfl,rfl,rfl⟩,rfl,rfl,rfl,c6 (by simp [m1]),rfl,trivial⟩⟩ ?_
 intro k hk _
 have l2:=b4j t f.kind f.mv.toNat k
 by_cases hlt:k<(f9 t.ev).length
 ·obtain ⟨i,hi⟩:∃i,(f9 t.ev)[k]? =some i:=⟨_,lg0 hlt⟩
  have hii:=a3f hi
  have al:=a8K t hs h.h find f f0 hf i (by omega)
  have il:i<t.ev.moves.length:=by
   obtain ⟨m,hm,_⟩:=V4.1 (lg2 hi)
   exact (lg1 hm).1
  have re:=b0u (j5 t f.kind i) (I5 t.ev) (G3 i h (by omega) (by omega) (by omega))
  have lA:(a7r t f.kind f.mv.toNat k).length<=(b8o t f.kind (a7r t f.kind f.mv.toNat k)).rows.length:=by show _<=(toC _).length;simp [toC]
  have iA:=ar5 t f.kind i
  obtain ⟨b,hb⟩:∃b,(isA t f.kind i)[f.mv.toNat]? =some b:=⟨_,lg0 (by omega)⟩
  have hbd:(isA t f.kind i).getD f.mv.toNat false=b:=by rw [lg3,hb];rfl
  have eA:isF (j5 t f.kind i) (I5 t.ev)=isA t f.kind i:=rfl
  have eW:a9A (j5 t f.kind i) (I5 t.ev)=a2O t f.kind i:=rfl
  rw [eA,eW] at re
  have gb:∀{K:List T->Prop},K [tb b]->∃row,0<=f.mv∧((isA t f.kind i).map a22)[f.mv.toNat]? =some row∧K row:=fun hK=>p9 (f:=a22) hg.1 hb hK
  rw [b18 hi,hbd]
  cases b with
  |true=>
   rw [if_pos rfl]
   conv=>whnf
   repeat' (first|refine zz ?_|refine qp al ?_|refine qp re ?_|refine qp toC ?_|refine b9 hii ?_|refine p9 f0 hf ?_|refine gb ?_|refine o6 lA (by simp [toC];omega) ?_|refine zd ?_ ?_<;>intro h<;>try omega|refine zy ?_|fail)<;>conv=>whnf
   all_goals first
    |omega
    |(refine ⟨hlt,trivial,[some 1],rfl,rfl,⟨a8 (rows:=(a7r t f.kind f.mv.toNat k++[i]).map (a5J t f.kind)) rfl rfl rfl ?_ rfl,trivial⟩,⟨rfl,rfl,⟨rfl,rfl,?_,fun h=>h⟩,rfl,rfl,rfl,rfl,c6 (by omega),trivial⟩⟩
      ·exact A6 (f:=a5J t f.kind) (x:=i) rfl
      ·simp [toC])
  |false=>
   rw [if_neg (by decide)]
   conv=>whnf
   repeat' (first|refine zz ?_|refine qp al ?_|refine qp re ?_|refine b9 hii ?_|refine p9 f0 hf ?_|refine gb ?_|refine zd ?_ ?_<;>intro h<;>try omega|refine zy ?_|fail)<;>conv=>whnf
   all_goals first
    |omega
    |exact ⟨hlt,trivial,[some 0],rfl,rfl,⟨c9 (c7 _),trivial⟩,⟨rfl,rfl,⟨rfl,rfl,rfl,fun h=>h⟩,rfl,rfl,rfl,rfl,c6 (by omega),trivial⟩⟩
 ·have hke:k=(f9 t.ev).length:=by omega
  subst hke
  rw [b2A]
  conv=>whnf
  repeat' (first|refine zz ?_|refine zd ?_ ?_<;>intro h<;>try omega|refine zy ?_|fail)<;>conv=>whnf
  all_goals first
   |omega
   |exact R8 rfl (fun h=>h) rfl rfl (by simp)
theorem a21 {t:f5} (h:QT t) {find:Int} {f:I8} (f0:0<=find) (hf:t.finds[find.toNat]? =some f):a0w t find=true:=by
 have hl:=(lg1 hf).1
 unfold a0w
 rw [decide_eq_true h.h,decide_eq_true f0,decide_eq_true (by omega)];rfl
def G4 (l:List Nat):List Int:=l.map fun i:Nat=>(i:Int)
theorem a42 (l:List Nat):(G4 l).length=l.length:=by simp [G4]
theorem b0y {l:List Nat} {k i:Nat} (h:l[k]? =some i):G4 (l.take (k+1))=G4 (l.take k)++[(i:Int)]:=by
 unfold G4;rw [List.take_add_one,h];simp
theorem ae6 (t:f5) (hs:t.Sized) (find:Int) (h:a0w t find=false):a9 Tryz.prog 34 [trS t,a7 .i64 find] [] (.tup [.c (.t (.sl 0 .nil [])),a7 .i64 1]) []:=by
 have fi:=a2Z t hs find
 rw [h] at fi
 (refine ac Tryz.func34 ?_;(conv=>whnf);repeat ((first|refine b0x ?_|refine zy ?_);conv=>whnf))
 repeat' (first|refine zz ?_|refine qp fi ?_|refine zd ?_ ?_<;>intro h<;>try omega|refine zy ?_|fail)<;>conv=>whnf
 all_goals first
  |omega
  |exact j2 ⟨rfl,rfl,trivial⟩
set_option maxHeartbeats 4000000 in
theorem a7k (t:f5) (hs:t.Sized) (h:QT t) (find:Int) (f:I8) (f0:0<=find) (hf:t.finds[find.toNat]? =some f):
 a9 Tryz.prog 34 [trS t,a7 .i64 find] [] (.tup [d9 (G4 (N8 t f.kind f.mv.toNat)),a7 .i64 0]) []:=by
 have fi:=a2Z t hs find
 rw [a21 h f0 hf] at fi
 have re:=a7C t hs h find f f0 hf
 have hm:=h.m
 have rl2:(N8 t f.kind f.mv.toNat).length<=t.ev.moves.length:=Nat.le_trans (List.length_filter_le _ _) (w8 _)
 have m1:((N8 t f.kind f.mv.toNat).map (a5J t f.kind)).length=(N8 t f.kind f.mv.toNat).length:=by simp
 generalize N8 t f.kind f.mv.toNat=l at re m1 rl2
 (refine ac Tryz.func34 ?_;(conv=>whnf);repeat ((first|refine b0x ?_|refine zy ?_);conv=>whnf))
 repeat' (first|refine zz ?_|refine qp fi ?_|refine qp re ?_|refine zd ?_ ?_<;>intro h<;>try omega|refine zy ?_|fail)<;>conv=>whnf
 refine d7 c8 (fun k=>([J,J,J,J,J,J,S.c (C.own 0 0 (G4 (l.take k)).length true),J,J,J,J,J,J,J,J,an8 t f.kind l,a7 .i64 l.length,a7 .i64 k,J,J,J,J,J,J,J,J,J,J],[o5 (G4 (l.take k))])) l.length (fun _=>True) [none] trivial
  ⟨rfl,rfl,⟨⟨rfl,rfl⟩,trivial⟩,⟨⟨rfl,rfl,rfl⟩,rfl,c6 (by simp),rfl,trivial⟩⟩ ?_
 intro k hk _
 have lN:=a42 (l.take k)
 have lT:(l.take k).length=k:=by rw [List.length_take];omega
 have lA:(G4 (l.take k)).length<=(o5 (G4 (l.take k))).rows.length:=by show _<=(toC _).length;simp [toC]
 by_cases hlt:k<l.length
 ·obtain ⟨i,hi⟩:∃i,l[k]? =some i:=⟨_,lg0 hlt⟩
  rw [b0y hi]
  conv=>whnf
  repeat' (first|refine zz ?_|refine qp toC ?_|refine b9 hi ?_|refine o6 lA (by simp [toC];omega) ?_|refine zd ?_ ?_<;>intro h<;>try omega|refine zy ?_|fail)<;>conv=>whnf
  all_goals first
   |omega
   |(refine ⟨hlt,trivial,[some 2],rfl,rfl,⟨a8 (rows:=(G4 (l.take k)++[(i:Int)]).map e7) rfl rfl rfl ?_ rfl,trivial⟩,⟨⟨rfl,rfl,?_,fun h=>h⟩,rfl,rfl,c6 (by omega),trivial⟩⟩
     ·exact A6 (f:=e7) (x:=(i:Int)) rfl
     ·simp [toC])
 ·have hke:k=l.length:=by omega
  subst hke
  rw [lg4 (Nat.le_refl _)] at *
  conv=>whnf
  repeat' (first|refine zz ?_|refine zd ?_ ?_<;>intro h<;>try omega|refine zy ?_|fail)<;>conv=>whnf
  all_goals first
   |omega
   |exact j2 ⟨(show VC _ (fun id=>F3 [] id=true) (C.own 0 0 _ true) _ from s8 (k:=o5 (G4 l)) rfl rfl (fun h=>h) rfl rfl (by simp)),rfl,trivial⟩
def V5 (t:f5) (find mv:Int):Bool:=a0w t find && decide (0<=mv) && decide (mv<t.ev.moves.length)
theorem S9 (t:f5) (hs:t.Sized) (find mv:Int):a9 Tryz.prog 107 [trS t,a7 .i64 find,a7 .i64 mv] [] (d6 (V5 t find mv)) []:=by
 have fi:=a2Z t hs find
 have m1:(t.ev.moves.map x8.row).length=t.ev.moves.length:=by simp
 unfold V5
 cases hb:a0w t find with
 |true=>
  rw [hb] at fi
  rw [Bool.true_and]
  (refine ac Tryz.func107 ?_;(conv=>whnf);repeat ((first|refine b0x ?_|refine zy ?_);conv=>whnf))
  repeat' (first|refine zz ?_|refine qp fi ?_|refine zd ?_ ?_<;>intro h<;>try omega|refine zy ?_|fail)<;>conv=>whnf
  all_goals first
   |omega
   |(refine b7 ?_;symm;simp only [Bool.and_eq_true,decide_eq_true_eq,Bool.and_eq_false_iff,decide_eq_false_iff_not];omega)
 |false=>
  rw [hb] at fi
  rw [Bool.false_and,Bool.false_and]
  (refine ac Tryz.func107 ?_;(conv=>whnf);repeat ((first|refine b0x ?_|refine zy ?_);conv=>whnf))
  repeat' (first|refine zz ?_|refine qp fi ?_|refine zd ?_ ?_<;>intro h<;>try omega|refine zy ?_|fail)<;>conv=>whnf
  all_goals first
   |omega
   |exact b7 rfl
theorem a5j (t:f5) (hs:t.Sized) (find mv:Int) (h:V5 t find mv=false):a9 Tryz.prog 42 [trS t,a7 .i64 find,a7 .i64 mv] [] (.tup [a7 .i64 0,.c (.t (.sl 0 .nil [])),d6 false]) []:=by
 have fi:=S9 t hs find mv
 rw [h] at fi
 (refine ac Tryz.func42 ?_;(conv=>whnf);repeat ((first|refine b0x ?_|refine zy ?_);conv=>whnf))
 repeat' (first|refine zz ?_|refine qp fi ?_|refine zd ?_ ?_<;>intro h<;>try omega|refine zy ?_|fail)<;>conv=>whnf
 all_goals first
  |omega
  |exact j2 ⟨rfl,rfl,rfl,trivial⟩
noncomputable def a2b (t:f5) (kind:Int) (g:Nat) (l:List Nat):Option Nat:=l.find? fun i=>(isA t kind i).getD g false
noncomputable def aU9 (t:f5) (kind:Int) (o:Option Nat):S:=match o with
 |some i=>.tup [a7 .i64 i,i8 ((a2O t kind i).map fz),d6 true]
 |none=>.tup [a7 .i64 0,.c (.t (.sl 0 .nil [])),d6 false]
set_option maxHeartbeats 4000000 in
theorem a55 (t:f5) (hs:t.Sized) (h:QT t) (find:Int) (f:I8) (f0:0<=find) (hf:t.finds[find.toNat]? =some f) (g:Nat) (hg:g<t.ev.moves.length):
 a9 Tryz.prog 42 [trS t,a7 .i64 find,a7 .i64 g] [] (aU9 t f.kind (a2b t f.kind g (N8 t f.kind f.mv.toNat))) []:=by
 have kn:=S9 t hs find g
 have hk:V5 t find g=true:=by unfold V5;rw [a21 h f0 hf,decide_eq_true (by omega),decide_eq_true (by omega)];rfl
 rw [hk] at kn
 have re:=a7C t hs h find f f0 hf
 have hm:=h.m
 have rl2:(N8 t f.kind f.mv.toNat).length<=t.ev.moves.length:=Nat.le_trans (List.length_filter_le _ _) (w8 _)
 have m1:((N8 t f.kind f.mv.toNat).map (a5J t f.kind)).length=(N8 t f.kind f.mv.toNat).length:=by simp
 generalize N8 t f.kind f.mv.toNat=l at re m1 rl2
 (refine ac Tryz.func42 ?_;(conv=>whnf);repeat ((first|refine b0x ?_|refine zy ?_);conv=>whnf))
 repeat' (first|refine zz ?_|refine qp kn ?_|refine qp re ?_|refine zd ?_ ?_<;>intro h<;>try omega|refine zy ?_|fail)<;>conv=>whnf
 refine d7 c8 (fun k=>([J,J,a7 .i64 g,J,J,J,J,J,J,J,J,J,J,J,J,J,J,J,an8 t f.kind l,a7 .i64 l.length,a7 .i64 k,J,J,J,J,J,J,J,J,J,J,J,J,J],[])) l.length (fun k=>a2b t f.kind g (l.drop k)=a2b t f.kind g l) [] rfl
  ⟨rfl,rfl,trivial,⟨rfl,rfl,c6 (by simp),rfl,trivial⟩⟩ ?_
 intro k hk hI
 by_cases hlt:k<l.length
 ·obtain ⟨i,hi⟩:∃i,l[k]? =some i:=⟨_,lg0 hlt⟩
  have hd:l.drop k=i::l.drop (k+1):=by rw [List.drop_eq_getElem_cons hlt];rw [lg0 hlt] at hi;injection hi with hi;rw [hi]
  have iA:=ar5 t f.kind i
  obtain ⟨b,hb⟩:∃b,(isA t f.kind i)[g]? =some b:=⟨_,lg0 (by omega)⟩
  have hbd:(isA t f.kind i).getD g false=b:=by rw [lg3,hb];rfl
  have gb:∀{K:List T->Prop},K [tb b]->∃row,0<=(g:Int)∧((isA t f.kind i).map a22)[(g:Int).toNat]? =some row∧K row:=fun hK=>b9 (f:=a22) hb hK
  unfold a2b at hI
  rw [hd,List.find?_cons,hbd] at hI
  cases b with
  |true=>
   have e:a2b t f.kind g l=some i:=by unfold a2b;rw [← hI]
   rw [e]
   unfold aU9
   conv=>whnf
   repeat' (first|refine zz ?_|refine b9 hi ?_|refine gb ?_|refine zd ?_ ?_<;>intro h<;>try omega|refine zy ?_|fail)<;>conv=>whnf
   all_goals first
    |omega
    |exact j2 ⟨rfl,rfl,rfl,trivial⟩
  |false=>
   conv=>whnf
   repeat' (first|refine zz ?_|refine b9 hi ?_|refine gb ?_|refine zd ?_ ?_<;>intro h<;>try omega|refine zy ?_|fail)<;>conv=>whnf
   all_goals first
    |omega
    |exact ⟨hlt,hI,[],rfl,rfl,trivial,⟨rfl,rfl,rfl,c6 (by omega),trivial⟩⟩
 ·have hke:k=l.length:=by omega
  subst hke
  have e:a2b t f.kind g l=none:=by rw [← hI,List.drop_length];rfl
  rw [e]
  unfold aU9
  conv=>whnf
  repeat' (first|refine zz ?_|refine zd ?_ ?_<;>intro h<;>try omega|refine zy ?_|fail)<;>conv=>whnf
  all_goals first
   |omega
   |exact j2 ⟨rfl,rfl,rfl,trivial⟩
theorem a6L {H:Hp} {p:Nat->Prop} {id:Nat} {l:List Int} (hp:p id) (hk:H[id]? =some (o5 l)):VC H p (.own id 0 l.length true) (I1 l):=
 s8 (k:=o5 l) hp hk (fun h=>h) rfl rfl (by simp)
theorem b11 (t:f5) (kind:Int) (i g:Nat) (hg:g<t.ev.moves.length+t.ev.places.length):
 a9 Tryz.prog 80 [.agg [.t (ti i),.t (a5W (isA t kind i)),.t (C6 ((a2O t kind i).map fz))],.c (.t (aw2 g))] [] (d6 ((isA t kind i).getD g false)) []:=by
 have iA:=ar5 t kind i
 obtain ⟨b,hb⟩:∃b,(isA t kind i)[g]? =some b:=⟨_,lg0 (by omega)⟩
 have hbd:(isA t kind i).getD g false=b:=by rw [lg3,hb];rfl
 rw [hbd]
 cases b<;>
 ·(refine ac Tryz.func80 ?_;(conv=>whnf);repeat ((first|refine b0x ?_|refine zy ?_);conv=>whnf))
  repeat' (first|refine zz ?_|refine b9 (f:=a22) hb ?_|refine zd ?_ ?_<;>intro h<;>try omega|refine zy ?_|fail)<;>conv=>whnf
  all_goals first
   |omega
   |exact b7 rfl
theorem aP7 (t:f5) (kind:Int) (l:List Nat) (hl:l.length<=1000000) (fg:FuncId) (caps:List T) (g:Nat) (hg:∀i ∈ l,a9 Tryz.prog fg (.agg [.t (ti i),.t (a5W (isA t kind i)),.t (C6 ((a2O t kind i).map fz))]::caps.map fun x=>.c (.t x)) [] (d6 ((isA t kind i).getD g false)) []):
 a9 Tryz.prog 148 [an8 t kind l,.c (.t (.fn (.func fg) caps))] [] (a7 .i64 (C9 (fun i=>(isA t kind i).getD g false) l 0)) []:=by
 have l1:(l.map (a5J t kind)).length=l.length:=by simp
 (refine ac Tryz.func148 ?_;(conv=>whnf);repeat (refine zy ?_;conv=>whnf))
 repeat' (first|refine zz ?_|refine zd ?_ ?_<;>intro h<;>try omega|refine zy ?_|fail)<;>conv=>whnf
 refine d7 c8 (fun k=>([an8 t kind l,S.c (C.t (T.fn (.func fg) caps)),J,J,J,J,J,a7 .i64 l.length,a7 .i64 k,J,J,J,J,J,J,J,J,J,J],[])) l.length (fun k=>C9 (fun i=>(isA t kind i).getD g false) (l.drop k) k=C9 (fun i=>(isA t kind i).getD g false) l 0) [] rfl
  ⟨rfl,rfl,trivial,⟨g7 rfl,g7 rfl,c6 (by simp),rfl,trivial⟩⟩ ?_
 intro k hk hI
 by_cases hlt:k<l.length
 ·obtain ⟨r,hr⟩:∃r,l[k]? =some r:=⟨_,lg0 hlt⟩
  have hd:l.drop k=r::l.drop (k+1):=by
   rw [List.drop_eq_getElem_cons hlt]
   rw [lg0 hlt] at hr
   injection hr with hr
   rw [hr]
  have hgr:=hg r (lg2 hr)
  have ha:(S.agg [.t (ti r),.t (a5W (isA t kind r)),.t (C6 ((a2O t kind r).map fz))]::caps.map fun x=>S.c (C.t x)).all S.isT=true:=by simp [S.isT,C.isT]
  rw [hd] at hI
  have hI:(if (isA t kind r).getD g false then (k:Int) else C9 (fun i=>(isA t kind i).getD g false) (l.drop (k+1)) (k+1))=C9 (fun i=>(isA t kind i).getD g false) l 0:=hI
  cases hq:(isA t kind r).getD g false with
  |true=>
   rw [hq] at hgr hI
   conv=>whnf
   repeat' (first|refine zz ?_|refine .inl ⟨_,_,z6 hgr ha rfl,?_⟩|refine b9 hr ?_|refine zd ?_ ?_<;>intro h<;>try omega|refine zy ?_|fail)<;>conv=>whnf
   all_goals first
    |omega
    |exact j1 hI
  |false=>
   rw [hq] at hgr hI
   conv=>whnf
   repeat' (first|refine zz ?_|refine .inl ⟨_,_,z6 hgr ha rfl,?_⟩|refine b9 hr ?_|refine zd ?_ ?_<;>intro h<;>try omega|refine zy ?_|fail)<;>conv=>whnf
   all_goals first
    |omega
    |exact ⟨hlt,by simpa using hI,[],rfl,rfl,trivial,⟨rfl,rfl,rfl,rfl,trivial⟩⟩
 ·have hke:k=l.length:=by omega
  subst hke
  rw [List.drop_of_length_le (Nat.le_refl _)] at hI
  conv=>whnf
  repeat' (first|refine zz ?_|refine zd ?_ ?_<;>intro h<;>try omega|refine zy ?_|fail)<;>conv=>whnf
  all_goals first
   |omega
   |exact j1 hI
theorem ae3 (t:f5) (kind:Int) (l:List Nat) (hl:l.length<=1000000) (g:Nat) (hg:g<t.ev.moves.length+t.ev.places.length):
 a9 Tryz.prog 79 [an8 t kind l,.c (.t (.fn (.func 80) [aw2 g]))] [] (d6 (l.any fun i=>(isA t kind i).getD g false)) []:=by
 have ix:=aP7 t kind l hl 80 [aw2 g] g (fun i _=>b11 t kind i g hg)
 (refine ac Tryz.func79 ?_;(conv=>whnf);repeat (refine zy ?_;conv=>whnf))
 repeat' (first|refine zz ?_|refine qp ix ?_|refine zd ?_ ?_<;>intro h<;>try omega|refine zy ?_|fail)<;>conv=>whnf
 all_goals (refine b7 ?_;rw [← a3e (fun i=>(isA t kind i).getD g false) l 0];symm;first|exact decide_eq_true (by omega)|exact decide_eq_false (by omega))
noncomputable def a1K (t:f5) (kind:Int) (mv:Nat) (k:Nat):List Nat:=(List.range k).filter fun g=>B8 t kind mv g
noncomputable def L4 (t:f5) (kind:Int) (mv k:Nat):List Nat:=(a1K t kind mv k).filter fun g=>decide (g<t.ev.moves.length)
noncomputable def I0 (t:f5) (kind:Int) (mv k:Nat):List Nat:=((a1K t kind mv k).filter fun g=>!decide (g<t.ev.moves.length)).map fun g=>g - t.ev.moves.length
theorem a83 (t:f5) (kind:Int) (mv k:Nat):a1K t kind mv (k+1)=if B8 t kind mv k=true then a1K t kind mv k++[k] else a1K t kind mv k:=by
 unfold a1K
 rw [List.range_succ,List.filter_append]
 cases h:B8 t kind mv k<;>simp [h]
theorem aI7 (t:f5) (kind:Int) (mv k:Nat):L4 t kind mv (k+1)=if B8 t kind mv k=true then (if k<t.ev.moves.length then L4 t kind mv k++[k] else L4 t kind mv k) else L4 t kind mv k:=by
 unfold L4
 rw [a83]
 by_cases h:B8 t kind mv k=true
 ·rw [if_pos h,if_pos h,List.filter_append]
  by_cases h2:k<t.ev.moves.length<;>simp [h2]
 ·rw [if_neg h,if_neg h]
theorem aq6 (t:f5) (kind:Int) (mv k:Nat):I0 t kind mv (k+1)=if B8 t kind mv k=true then (if k<t.ev.moves.length then I0 t kind mv k else I0 t kind mv k++[k - t.ev.moves.length]) else I0 t kind mv k:=by
 unfold I0
 rw [a83]
 by_cases h:B8 t kind mv k=true
 ·rw [if_pos h,if_pos h,List.filter_append,List.map_append]
  by_cases h2:k<t.ev.moves.length<;>simp [h2]
 ·rw [if_neg h,if_neg h]
theorem aa0 (t:f5) (kind:Int) (mv k:Nat):(a1K t kind mv k).length<=k:=by
 unfold a1K;exact Nat.le_trans (List.length_filter_le _ _) (by simp)
theorem a5w (t:f5) (kind:Int) (mv k:Nat):(L4 t kind mv k).length<=k:=Nat.le_trans (List.length_filter_le _ _) (aa0 _ _ _ _)
theorem aH0 (t:f5) (kind:Int) (mv k:Nat):(I0 t kind mv k).length<=k:=by
 unfold I0;rw [List.length_map];exact Nat.le_trans (List.length_filter_le _ _) (aa0 _ _ _ _)
theorem aH7 (l:List Nat) (k:Nat):G4 (l++[k])=G4 l++[(k:Int)]:=by simp [G4]
noncomputable def I7 (t:f5) (kind:Int) (mv:Nat):List Nat:=L4 t kind mv (t.ev.moves.length+t.ev.places.length)
noncomputable def N9 (t:f5) (kind:Int) (mv:Nat):List Nat:=I0 t kind mv (t.ev.moves.length+t.ev.places.length)
theorem aF1 (t:f5) (hs:t.Sized) (find:Int) (h:a0w t find=false):a9 Tryz.prog 23 [trS t,a7 .i64 find] [] (.tup [.c (.t (.sl 0 .nil [])),.c (.t (.sl 0 .nil [])),a7 .i64 1]) []:=by
 have fi:=a2Z t hs find
 rw [h] at fi
 (refine ac Tryz.func23 ?_;(conv=>whnf);repeat ((first|refine b0x ?_|refine zy ?_);conv=>whnf))
 repeat' (first|refine zz ?_|refine qp fi ?_|refine zd ?_ ?_<;>intro h<;>try omega|refine zy ?_|fail)<;>conv=>whnf
 all_goals first
  |omega
  |exact j2 ⟨rfl,rfl,rfl,trivial⟩
set_option maxHeartbeats 8000000 in
theorem aD1 (t:f5) (hs:t.Sized) (h:QT t) (find:Int) (f:I8) (f0:0<=find) (hf:t.finds[find.toNat]? =some f):
 a9 Tryz.prog 23 [trS t,a7 .i64 find] [] (.tup [.c (.own 0 0 (G4 (I7 t f.kind f.mv.toNat)).length true),.c (.own 1 0 (G4 (N9 t f.kind f.mv.toNat)).length true),a7 .i64 0]) [o5 (G4 (I7 t f.kind f.mv.toNat)),o5 (G4 (N9 t f.kind f.mv.toNat))]:=by
 have fi:=a2Z t hs find
 rw [a21 h f0 hf] at fi
 have re:=a7C t hs h find f f0 hf
 have hm:=h.m
 have hp:=h.p
 have rl2:(N8 t f.kind f.mv.toNat).length<=t.ev.moves.length:=Nat.le_trans (List.length_filter_le _ _) (w8 _)
 have m1:(t.ev.moves.map x8.row).length=t.ev.moves.length:=by simp
 have m2:(t.ev.places.map H6.row).length=t.ev.places.length:=by simp
 generalize hN:t.ev.moves.length+t.ev.places.length=N
 (refine ac Tryz.func23 ?_;(conv=>whnf);repeat ((first|refine b0x ?_|refine zy ?_);conv=>whnf))
 repeat' (first|refine zz ?_|refine qp fi ?_|refine qp re ?_|refine zd ?_ ?_<;>intro h<;>try omega|refine zy ?_|fail)<;>conv=>whnf
 refine d7 c8 (fun k=>([J,J,J,J,S.c (C.own 0 0 (G4 (L4 t f.kind f.mv.toNat k)).length true),S.c (C.own 1 0 (G4 (I0 t f.kind f.mv.toNat k)).length true),J,a7 .i64 t.ev.moves.length,an8 t f.kind (N8 t f.kind f.mv.toNat),J,J,J,J,J,J,J,J,J,J,J,J,J,J,J,J,J,a7 .i64 N,a7 .i64 k,J,J,J,J,J,J,J,J,J,J,J,J,J,J,J,J,J,J,J,J,J,J],[o5 (G4 (L4 t f.kind f.mv.toNat k)),o5 (G4 (I0 t f.kind f.mv.toNat k))])) N (fun _=>True) [none,none] trivial
  ⟨rfl,rfl,⟨⟨rfl,rfl⟩,⟨rfl,rfl⟩,trivial⟩,⟨⟨rfl,rfl,rfl⟩,⟨rfl,rfl,rfl⟩,c6 (by simp),rfl,c6 (by simp;omega),rfl,trivial⟩⟩ ?_
 intro k hk _
 have c1:=a5w t f.kind f.mv.toNat k
 have c2:=aH0 t f.kind f.mv.toNat k
 have d1:=a42 (L4 t f.kind f.mv.toNat k)
 have d2:=a42 (I0 t f.kind f.mv.toNat k)
 by_cases hlt:k<N
 ·have lA:(G4 (L4 t f.kind f.mv.toNat k)).length<=(o5 (G4 (L4 t f.kind f.mv.toNat k))).rows.length:=by show _<=(toC _).length;simp [toC]
  have lB:(G4 (I0 t f.kind f.mv.toNat k)).length<=(o5 (G4 (I0 t f.kind f.mv.toNat k))).rows.length:=by show _<=(toC _).length;simp [toC]
  have ct:=ae3 t f.kind (N8 t f.kind f.mv.toNat) (by omega) k (by omega)
  have eR:((N8 t f.kind f.mv.toNat).any fun i=>(isA t f.kind i).getD k false)=B8 t f.kind f.mv.toNat k:=rfl
  rw [eR] at ct
  rw [aI7,aq6]
  generalize L4 t f.kind f.mv.toNat k=X at *
  generalize I0 t f.kind f.mv.toNat k=Y at *
  have va:a1i [o5 (G4 X),o5 (G4 Y),{ mode:=.live,elem:=3,size:=1,rows:=[[.t (ti k)]],box:=true }] (fun _=>True) [an8 t f.kind (N8 t f.kind f.mv.toNat),.c (.fn (.func 80) [.ptr 2 0 0])] [an8 t f.kind (N8 t f.kind f.mv.toNat),.c (.t (.fn (.func 80) [aw2 k]))]:=
   ⟨b0G,aG0 (show _∧True from ⟨a8Y (k:={ mode:=.live,elem:=3,size:=1,rows:=[[.t (ti k)]],box:=true }) (row:=[.t (ti k)]) trivial rfl (fun h=>h) rfl (b2O [ti k]),trivial⟩),trivial⟩
  cases hb:B8 t f.kind f.mv.toNat k with
  |false=>
   rw [hb] at ct
   conv=>whnf
   repeat' (first|refine zz ?_|refine .inl ⟨_,_,j6 ct va rfl,?_⟩|refine zd ?_ ?_<;>intro h<;>try omega|refine zy ?_|fail)<;>conv=>whnf
   all_goals first
    |omega
    |exact ⟨hlt,trivial,[some 0,some 1],rfl,rfl,⟨c9 (c7 _),c9 (c7 _),trivial⟩,⟨⟨rfl,rfl,rfl,fun h=>h⟩,⟨rfl,rfl,rfl,fun h=>h⟩,rfl,rfl,rfl,c6 (by omega),trivial⟩⟩
  |true=>
   rw [hb] at ct
   rw [if_pos rfl,if_pos rfl]
   by_cases hkm:k<t.ev.moves.length
   ·rw [if_pos hkm,if_pos hkm,aH7]
    conv=>whnf
    repeat' (first|refine zz ?_|refine qp toC ?_|refine .inl ⟨_,_,j6 ct va rfl,?_⟩|refine o6 lA (by simp [toC];omega) ?_|refine zd ?_ ?_<;>intro h<;>try omega|refine zy ?_|fail)<;>conv=>whnf
    all_goals first
     |omega
     |(refine ⟨hlt,trivial,[some 3,some 1],rfl,rfl,⟨a8 (rows:=(G4 X++[(k:Int)]).map e7) rfl rfl rfl ?_ rfl,c9 (c7 _),trivial⟩,⟨⟨rfl,rfl,?_,fun h=>h⟩,⟨rfl,rfl,rfl,fun h=>h⟩,rfl,rfl,rfl,c6 (by omega),trivial⟩⟩
       ·exact A6 (f:=e7) (x:=(k:Int)) rfl
       ·simp [toC])
   ·rw [if_neg hkm,if_neg hkm,aH7]
    have eP:((k - t.ev.moves.length:Nat):Int)=(k:Int) - (t.ev.moves.length:Int):=by omega
    rw [eP]
    conv=>whnf
    repeat' (first|refine zz ?_|refine qp toC ?_|refine .inl ⟨_,_,j6 ct va rfl,?_⟩|refine o6 lB (by simp [toC];omega) ?_|refine zd ?_ ?_<;>intro h<;>try omega|refine zy ?_|fail)<;>conv=>whnf
    all_goals first
     |omega
     |(refine ⟨hlt,trivial,[some 0,some 3],rfl,rfl,⟨c9 (c7 _),a8 (rows:=(G4 Y++[(k:Int) - (t.ev.moves.length:Int)]).map e7) rfl rfl rfl ?_ rfl,trivial⟩,⟨⟨rfl,rfl,rfl,fun h=>h⟩,⟨rfl,rfl,?_,fun h=>h⟩,rfl,rfl,rfl,c6 (by omega),trivial⟩⟩
       ·exact A6 (f:=e7) (x:=(k:Int) - (t.ev.moves.length:Int)) rfl
       ·simp [toC])
 ·have hke:k=N:=by omega
  subst hke
  have e1:I7 t f.kind f.mv.toNat=L4 t f.kind f.mv.toNat k:=by unfold I7;rw [hN]
  have e2:N9 t f.kind f.mv.toNat=I0 t f.kind f.mv.toNat k:=by unfold N9;rw [hN]
  rw [e1,e2]
  generalize L4 t f.kind f.mv.toNat k=X at *
  generalize I0 t f.kind f.mv.toNat k=Y at *
  conv=>whnf
  repeat' (first|refine zz ?_|refine zd ?_ ?_<;>intro h<;>try omega|refine zy ?_|fail)<;>conv=>whnf
  all_goals first
   |omega
   |exact ⟨⟨[some 0,some 1],rfl,rfl,⟨c9 (c7 _),c9 (c7 _),trivial⟩,⟨⟨rfl,rfl,rfl,fun h=>h⟩,⟨rfl,rfl,rfl,fun h=>h⟩,rfl,trivial⟩⟩⟩
theorem a6a (t:f5) (hs:t.Sized) (h:QT t) (find:Int) (f:I8) (f0:0<=find) (hf:t.finds[find.toNat]? =some f):
 a9 Tryz.prog 23 [trS t,a7 .i64 find] [] (.tup [d9 (G4 (I7 t f.kind f.mv.toNat)),d9 (G4 (N9 t f.kind f.mv.toNat)),a7 .i64 0]) []:=by
 refine b1g (aD1 t hs h find f f0 hf) (j2 ⟨(show VC _ (fun id=>F3 [] id=true) _ _ from a6L rfl rfl),(show VC _ (fun id=>F3 [] id=true) _ _ from a6L rfl rfl),rfl,trivial⟩)
def a6e (q:Int->Bool) (xs:List Int) (i0:Nat):Nat->List Int × Nat
 |0=>(xs,i0)
 |m+1=>if q (xs.getD (i0+1+m) 0)=true then a6e q xs i0 m else ((a6e q xs i0 m).1.set (a6e q xs i0 m).2 (xs.getD (i0+1+m) 0),(a6e q xs i0 m).2+1)
structure b9s (q:Int->Bool) (xs:List Int) (j:Nat) (r:List Int) (i:Nat):Prop where
 len:r.length=xs.length
 lt:i<j
 tk:r.take i=(xs.take j).filter fun x=>!q x
 dr:r.drop j=xs.drop j
theorem an1 {q:Int->Bool} {xs:List Int} {i0:Nat} (h0:i0<xs.length) (h1:(xs.take i0).filter (fun x=>!q x)=xs.take i0) (h2:q (xs.getD i0 0)=true):
 ∀m,i0+1+m<=xs.length->b9s q xs (i0+1+m) (a6e q xs i0 m).1 (a6e q xs i0 m).2
 |0,hm=>by
  refine ⟨rfl,by show i0<_;omega,?_,rfl⟩
  show xs.take i0=_
  rw [Nat.add_zero,List.take_add_one,List.filter_append,h1,lg0 h0]
  rw [lg3,lg0 h0] at h2
  simp at h2
  simp [h2]
 |m+1,hm=>by
  have ih:=an1 h0 h1 h2 m (by omega)
  obtain ⟨a1,a2,a3,a4⟩:=ih
  unfold a6e
  generalize hj:i0+1+m=j at *
  have ej:i0+1+(m+1)=j+1:=by omega
  rw [ej]
  have hjl:j<xs.length:=by omega
  generalize a6e q xs i0 m=p at *
  obtain ⟨r,i⟩:=p
  simp only at a1 a2 a3 a4 ⊢
  have hx:xs.getD j 0=xs[j]:=by rw [lg3,lg0 hjl];rfl
  rw [hx]
  have ht:xs.take (j+1)=xs.take j++[xs[j]]:=by rw [List.take_add_one,lg0 hjl];rfl
  by_cases hq:q xs[j]=true
  ·rw [if_pos hq]
   refine ⟨a1,by show i<_;omega,?_,?_⟩
   ·show r.take i=_
    rw [a3,ht,List.filter_append];simp [hq]
   ·show r.drop (j+1)=_
    rw [← List.drop_drop,a4,List.drop_drop]
  ·rw [if_neg hq]
   refine ⟨by simp [a1],by show i+1<_;omega,?_,?_⟩
   ·show (r.set i xs[j]).take (i+1)=_
    rw [List.take_add_one,List.take_set_of_le (Nat.le_refl _),List.getElem?_set_self (by omega),a3,ht,List.filter_append]
    have:q xs[j]=false:=by simpa using hq
    simp [this]
   ·show (r.set i xs[j]).drop (j+1)=_
    rw [List.drop_set_of_lt (by omega),←List.drop_drop,a4,List.drop_drop]
theorem a7T {q:Int->Bool}:∀(xs:List Int) (k:Nat),(C9 q xs k=-1∧xs.filter (fun x=>!q x)=xs)∨∃i,C9 q xs k=((k+i:Nat):Int)∧i<xs.length∧(xs.take i).filter (fun x=>!q x)=xs.take i∧q (xs.getD i 0)=true
 |[],k=>.inl ⟨rfl,rfl⟩
 |x::r,k=>by
  unfold C9
  cases h:q x with
  |true=>exact .inr ⟨0,by simp,by simp,rfl,by simpa using h⟩
  |false=>
   rcases a7T (q:=q) r (k+1) with ⟨h1,h2⟩|⟨i,h1,h2,h3,h4⟩
   ·exact .inl ⟨by simpa using h1,by simp [h,h2]⟩
   ·refine .inr ⟨i+1,?_,by simp;omega,by simp [h,h3],by simpa using h4⟩
    show (if false=true then (k:Int) else C9 q r (k+1))=_
    rw [if_neg (by decide),h1];congr 1;omega
theorem aO5 (xs:List Int) (hl:xs.length<=1000000) (fg:FuncId) (caps:List T) (q:Int->Bool) (hg:∀x ∈ xs,a9 Tryz.prog fg (a7 .i64 x::caps.map fun x=>.c (.t x)) [] (d6 (q x)) []):
 a9 Tryz.prog 175 [d9 xs,.c (.t (.fn (.func fg) caps))] [] (a7 .i64 (C9 q xs 0)) []:=by
 have l1:(xs.map e7).length=xs.length:=by simp
 (refine ac Tryz.func175 ?_;(conv=>whnf);repeat (refine zy ?_;conv=>whnf))
 repeat' (first|refine zz ?_|refine zd ?_ ?_<;>intro h<;>try omega|refine zy ?_|fail)<;>conv=>whnf
 refine d7 c8 (fun k=>([d9 xs,S.c (C.t (T.fn (.func fg) caps)),J,J,J,J,J,a7 .i64 xs.length,a7 .i64 k,J,J,J,J,J,J,J,J,J,J],[])) xs.length (fun k=>C9 q (xs.drop k) k=C9 q xs 0) [] rfl
  ⟨rfl,rfl,trivial,⟨g7 rfl,g7 rfl,c6 (by simp),rfl,trivial⟩⟩ ?_
 intro k hk hI
 by_cases hlt:k<xs.length
 ·obtain ⟨r,hr⟩:∃r,xs[k]? =some r:=⟨_,lg0 hlt⟩
  have hd:xs.drop k=r::xs.drop (k+1):=by
   rw [List.drop_eq_getElem_cons hlt]
   rw [lg0 hlt] at hr
   injection hr with hr
   rw [hr]
  have hgr:=hg r (lg2 hr)
  have ha:(a7 .i64 r::caps.map fun x=>S.c (C.t x)).all S.isT=true:=by simp [S.isT,C.isT,a7]
  rw [hd] at hI
  have hI:(if q r then (k:Int) else C9 q (xs.drop (k+1)) (k+1))=C9 q xs 0:=hI
  cases hq:q r with
  |true=>
   rw [hq] at hgr hI
   conv=>whnf
   repeat' (first|refine zz ?_|refine .inl ⟨_,_,z6 hgr ha rfl,?_⟩|refine b9 hr ?_|refine zd ?_ ?_<;>intro h<;>try omega|refine zy ?_|fail)<;>conv=>whnf
   all_goals first
    |omega
    |exact j1 hI
  |false=>
   rw [hq] at hgr hI
   conv=>whnf
   repeat' (first|refine zz ?_|refine .inl ⟨_,_,z6 hgr ha rfl,?_⟩|refine b9 hr ?_|refine zd ?_ ?_<;>intro h<;>try omega|refine zy ?_|fail)<;>conv=>whnf
   all_goals first
    |omega
    |exact ⟨hlt,by simpa using hI,[],rfl,rfl,trivial,⟨rfl,rfl,rfl,rfl,trivial⟩⟩
 ·have hke:k=xs.length:=by omega
  subst hke
  rw [List.drop_of_length_le (Nat.le_refl _)] at hI
  conv=>whnf
  repeat' (first|refine zz ?_|refine zd ?_ ?_<;>intro h<;>try omega|refine zy ?_|fail)<;>conv=>whnf
  all_goals first
   |omega
   |exact j1 hI
theorem at4 {l:List Int} {n:Nat} {v:Int} {K:List C->Prop} (h:l[n]? =some v) (k:K [C.t (ti v)]):∃row,(o5 l).rows[n]? =some row∧K row:=⟨_,by show (toC (l.map e7))[n]? =_;simp [toC,e7,h],k⟩
theorem b0v {l:List Int} {i n:Nat} {v:Int} (h:n=i):u6 (o5 l) ((o5 l).rows.set n [C.t (ti v)])=o5 (l.set i v):=by
 subst h
 unfold u6
 show ({ mode:=_,elem:=_,size:=_,rows:=(toC (l.map e7)).set n _,box:=_,app:=_ }:Blk)=_
 have:(toC (l.map e7)).set n [C.t (ti v)]=toC ((l.set n v).map e7):=by
  unfold toC
  rw [List.map_set,List.map_set];rfl
 rw [this]
set_option maxHeartbeats 8000000 in
theorem az1 (xs ys:List Int) (hl:xs.length<=1000000) (fg:FuncId) (caps:List T) (q:Int->Bool) (hg:∀x ∈ xs,a9 Tryz.prog fg (a7 .i64 x::caps.map fun x=>.c (.t x)) [] (d6 (q x)) []):
 ∃zs,zs.take (xs.filter fun x=>!q x).length=(xs.filter fun x=>!q x)∧zs.length=xs.length∧a9 Tryz.prog 105 [.c (.own 0 0 xs.length true),.c (.t (.fn (.func fg) caps))] [o5 xs,o5 ys] (.c (.own 0 0 (xs.filter fun x=>!q x).length true)) [o5 zs,o5 ys]:=by
 have ix:=aO5 xs hl fg caps q hg
 have ha:(caps.map fun x=>S.c (C.t x)).all S.isT=true:=by simp [S.isT,C.isT]
 rcases a7T (q:=q) xs 0 with ⟨h1,h2⟩|⟨i0,h1,h2,h3,h4⟩
 ·rw [h1] at ix
  rw [h2]
  refine ⟨xs,lg4 (Nat.le_refl _),rfl,?_⟩
  (refine ac Tryz.func105 ?_;(conv=>whnf);repeat (refine zy ?_;conv=>whnf))
  repeat' (first|refine zz ?_|refine .inl ⟨_,_,aa7 ix ⟨a0I (a6L trivial rfl),ae2,trivial⟩ rfl,?_⟩|refine zd ?_ ?_<;>intro h<;>try omega|refine zy ?_|fail)<;>conv=>whnf
  all_goals first
   |omega
   |exact ⟨⟨[some 0,some 1],rfl,rfl,⟨c9 (c7 _),c9 (c7 _),trivial⟩,⟨rfl,rfl,rfl,fun h=>h⟩⟩⟩
 ·rw [h1,Nat.zero_add] at ix
  have hD:=an1 h2 h3 h4
  obtain ⟨n,hn⟩:∃n,i0+1+n=xs.length:=⟨xs.length - (i0+1),by omega⟩
  have hE:=hD n (by omega)
  generalize hF:a6e q xs i0 n=rn at hE
  obtain ⟨rs,i⟩:=rn
  obtain ⟨e1,e2,e3,e4⟩:=hE
  simp only at e1 e2 e3 e4
  rw [hn,lg4 (Nat.le_refl _)] at e3
  have e5:(rs.take i).length=i:=by rw [List.length_take];omega
  have hz:rs.take i++List.replicate (xs.length - i) (0:Int)=rs.take i++List.replicate (xs.length - i) (0:Int):=rfl
  refine ⟨rs.take i++List.replicate (xs.length - i) 0,?_,by rw [List.length_append,e5,List.length_replicate];omega,?_⟩
  ·rw [← e3,List.take_append_of_le_length (by omega),e5,List.take_take,Nat.min_self]
  have eC:A9 (0+(i:Int).toNat) ((xs.length:Int) - (i:Int)).toNat (toC (rs.map e7)) (List.replicate ((xs.length:Int) - (i:Int)).toNat [C.t (ti 0)])=toC ((rs.take i++List.replicate (xs.length - i) 0).map e7):=by
   have x1:0+(i:Int).toNat=i:=by omega
   have x2:((xs.length:Int) - (i:Int)).toNat=xs.length - i:=by omega
   rw [x1,x2]
   unfold A9 toC
   rw [lg4 (l:=List.replicate _ _) (by simp),List.length_replicate,List.drop_of_length_le (by simp;omega)]
   simp [e7,List.map_take]
  have eL:(xs.filter fun x=>!q x).length=i:=by rw [← e3];exact e5
  rw [eL]
  have hcl:=fun x hx=>hg x hx
  (refine ac Tryz.func105 ?_;(conv=>whnf);repeat (refine zy ?_;conv=>whnf))
  repeat' (first|refine zz ?_|refine .inl ⟨_,_,aa7 ix ⟨a0I (a6L trivial rfl),ae2,trivial⟩ rfl,?_⟩|refine zd ?_ ?_<;>intro h<;>try omega|refine zy ?_|fail)<;>conv=>whnf
  refine d7 c8 (fun m=>([S.c (C.own 0 0 xs.length true),S.c (C.t (T.fn (.func fg) caps)),J,J,J,a7 .i64 (a6e q xs i0 m).2,a7 .i64 (i0+1+m),J,J,J,J,J,J,J,J,J,J,J,J,J,J,J,J,J,J,J,J,J,J,J,J,J,J,J,J,J,J,J,J,J,J,J],[o5 (a6e q xs i0 m).1,o5 ys])) n (fun _=>True) [some 0,some 1] trivial
   ⟨rfl,rfl,⟨c9 (c7 _),c9 (c7 _),trivial⟩,⟨⟨rfl,rfl,rfl,fun h=>h⟩,g7 rfl,rfl,c6 (by omega),trivial⟩⟩ ?_
  intro m hm _
  have hDm:=hD m (by omega)
  generalize hG:a6e q xs i0 m=p at hDm
  obtain ⟨r,k⟩:=p
  obtain ⟨d1,d2,d3,d4⟩:=hDm
  simp only at d1 d2 d3 d4 ⊢
  by_cases hlt:m<n
  ·obtain ⟨v,hv⟩:∃v,xs[i0+1+m]? =some v:=⟨_,lg0 (by omega)⟩
   have hvd:xs.getD (i0+1+m) 0=v:=by rw [lg3,hv];rfl
   have hrv:r[i0+1+m]? =some v:=by
    have:=congrArg (fun l=>l[0]?) d4
    simpa [List.getElem?_drop,hv] using this
   have gv:r[0+((i0+1+m:Nat):Int).toNat]? =some v:=by rw [Nat.zero_add,Int.toNat_natCast];exact hrv
   have hgv:=hg v (lg2 hv)
   have ha2:(a7 .i64 v::caps.map fun x=>S.c (C.t x)).all S.isT=true:=by simp [S.isT,C.isT,a7]
   have eG:a6e q xs i0 (m+1)=if q v=true then (r,k) else (r.set k v,k+1):=by
    conv=>lhs;unfold a6e
    rw [hG,hvd]
   rw [eG]
   cases hq:q v with
   |true=>
    rw [hq] at hgv
    rw [if_pos rfl]
    conv=>whnf
    repeat' (first|refine zz ?_|refine .inl ⟨_,_,z6 hgv ha2 rfl,?_⟩|refine at4 gv ?_|refine zd ?_ ?_<;>intro h<;>try omega|refine zy ?_|fail)<;>conv=>whnf
    all_goals first
     |omega
     |exact ⟨hlt,trivial,[some 0,some 1],rfl,rfl,⟨c9 (c7 _),c9 (c7 _),trivial⟩,⟨⟨rfl,rfl,rfl,fun h=>h⟩,rfl,rfl,c6 (by omega),trivial⟩⟩
   |false=>
    rw [hq] at hgv
    rw [if_neg (by decide)]
    have eB:=b0v (l:=r) (v:=v) (show 0+(k:Int).toNat=k by omega)
    obtain ⟨u,hu⟩:∃u,r[0+(k:Int).toNat]? =some u:=⟨_,lg0 (by omega)⟩
    conv=>whnf
    repeat' (first|refine zz ?_|refine .inl ⟨_,_,z6 hgv ha2 rfl,?_⟩|refine at4 gv ?_|refine at4 hu ?_|refine zd ?_ ?_<;>intro h<;>try omega|refine zy ?_|fail)<;>conv=>whnf
    all_goals first
     |omega
     |exact ⟨hlt,trivial,[some 0,some 1],rfl,rfl,⟨⟨rfl,rfl,rfl,.inl ⟨congrArg Blk.rows eB,(congrArg Blk.rows eB) ▸ c7 _⟩⟩,c9 (c7 _),trivial⟩,⟨⟨rfl,rfl,rfl,fun h=>h⟩,rfl,c6 (by omega),c6 (by omega),trivial⟩⟩
  ·have hme:m=n:=by omega
   subst hme
   rw [hG] at hF
   injection hF with f1 f2
   subst f1 f2
   have rl2:(toC (r.map e7)).length=xs.length:=by simp [toC,d1]
   have s1:(0:Int)<=(k:Int)∧(k:Int)<=(xs.length:Int)∧(xs.length:Int)<=(xs.length:Int):=by omega
   have s2:(0:Int)<=0∧(0:Int)<=(k:Int)∧(k:Int)<=(xs.length:Int):=by omega
   have s3:0+(k:Int).toNat+((xs.length:Int) - (k:Int)).toNat<=(o5 r).rows.length:=by show _<=(toC (r.map e7)).length;omega
   conv=>whnf
   repeat' (first|refine zz ?_|refine ⟨s1,?_⟩|refine ⟨s2,?_⟩|refine ⟨s3,?_⟩|refine zd ?_ ?_<;>intro h<;>try omega|refine zy ?_|fail)<;>conv=>whnf
   all_goals first
    |omega
    |exact ⟨⟨[some 0,some 1],rfl,rfl,⟨a8 (rows:=(r.take k++List.replicate (xs.length - k) (0:Int)).map e7) rfl rfl rfl eC rfl,c9 (c7 _),trivial⟩,⟨rfl,rfl,by show ((k:Int) - 0).toNat=k;omega,fun h=>h⟩⟩⟩
def a3t (e:Ev) (i:Int):Bool:=match e.moves[i.toNat]? with
 |some m=>decide (u4 e m.dst=5)
 |none=>false
theorem b3S (t:f5) (h1:u0 t=0) (i:Nat) (hi:i<t.ev.moves.length):
 a9 Tryz.prog 104 [a7 .i64 i,.c (.t (T.ptr (trT t)))] [] (d6 (!a3t t.ev i)) []:=by
 have hck:=(p6 h1).1
 obtain ⟨m,hm⟩:∃m,t.ev.moves[i]? =some m:=⟨_,lg0 hi⟩
 have hmo:=N4 hck (lg2 hm)
 have ms:=aM9 hmo
 obtain ⟨p,hp⟩:∃p,t.ev.places[m.dst.toNat]? =some p:=⟨_,lg0 (by omega)⟩
 have hk0:u4 t.ev m.dst=p.kind:=by unfold u4;rw [hp];rfl
 have e:a3t t.ev i=decide (p.kind=5):=by unfold a3t;rw [Int.toNat_natCast,hm,←hk0]
 rw [e]
 (refine ac Tryz.func104 ?_;(conv=>whnf);repeat (refine zy ?_;conv=>whnf))
 repeat' (first|refine zz ?_|refine b9 hm ?_|refine p9 ms.1 hp ?_|refine zd ?_ ?_<;>intro h<;>try omega|refine zy ?_|fail)<;>conv=>whnf
 all_goals first
  |omega
  |(refine b7 ?_;symm;simp;omega)
  |(refine b7 ?_;symm;simp;assumption)
noncomputable def a84 (t:f5) (kind:Int) (mv:Nat):List Int:=(G4 (I7 t kind mv)).filter fun x=>!!a3t t.ev x
theorem b59 {H:Hp} {p:Nat->Prop} {id n:Nat} {l m:List Int} (hp:p id) (hk:H[id]? =some (o5 l)) (hm:l.take n=m) (hn:m.length=n):VC H p (.own id 0 n true) (I1 m):=by
 refine ⟨hp,o5 l,hk,fun h=>h,rfl,?_,?_⟩
 ·show 0+n<=(toC (l.map e7)).length
  have:=List.length_take (i:=n) (l:=l)
  rw [hm] at this
  simp [toC];omega
 ·show ((toC (l.map e7)).drop 0).take n=toC (m.map e7)
  rw [List.drop_zero,←hm]
  simp [toC,List.map_take]
theorem b1Q (t:f5) (hs:t.Sized) (h:QT t) (find:Int) (f:I8) (f0:0<=find) (hf:t.finds[find.toNat]? =some f):
 a9 Tryz.prog 39 [trS t,a7 .i64 find] [] (.tup [d9 (a84 t f.kind f.mv.toNat),a7 .i64 0]) []:=by
 have lo:=aD1 t hs h find f f0 hf
 have hm:=h.m
 have hp:=h.p
 have hlen:=a5w t f.kind f.mv.toNat (t.ev.moves.length+t.ev.places.length)
 have hlen2:(G4 (I7 t f.kind f.mv.toNat)).length<=1000000:=by rw [a42];show (L4 _ _ _ _).length<=_;omega
 obtain ⟨zs,z1,z2,de⟩:=az1 (G4 (I7 t f.kind f.mv.toNat)) (G4 (N9 t f.kind f.mv.toNat)) hlen2 104 [T.ptr (trT t)] (fun x=>!a3t t.ev x) (fun x hx=>by
  obtain ⟨i,hi,rfl⟩:=List.mem_map.1 hx
  have hi:=(List.mem_filter.1 hi).2
  exact b3S t h.h i (of_decide_eq_true hi))
 have eS:a84 t f.kind f.mv.toNat=(G4 (I7 t f.kind f.mv.toNat)).filter fun x=>!!a3t t.ev x:=rfl
 rw [eS]
 generalize G4 (I7 t f.kind f.mv.toNat)=X at *
 generalize G4 (N9 t f.kind f.mv.toNat)=Y at *
 generalize (X.filter fun x=>!!a3t t.ev x)=Z at *
 (refine ac Tryz.func39 ?_;(conv=>whnf);repeat ((first|refine b0x ?_|refine zy ?_);conv=>whnf))
 repeat' (first|refine zz ?_|refine .inr ⟨_,_,lo,?_⟩|refine .inr ⟨_,_,de,?_⟩|refine zd ?_ ?_<;>intro h<;>try omega|refine zy ?_|fail)<;>conv=>whnf
 all_goals first
  |omega
  |exact j2 ⟨(show VC _ (fun id=>F3 [] id=true) _ _ from b59 rfl rfl z1 rfl),rfl,trivial⟩
theorem aj4 {α:Type} {l:List α} {k:Nat} {x:α} (h:l[k]? =some x):l.take (k+1)=l.take k++[x]:=by
 rw [List.take_add_one,h];rfl
theorem aK6 (a b:List Int) (ha:a.length<=1000000) (hb:b.length<=1000000):a9 Tryz.prog 103 [d9 a,d9 b] [] (d6 (decide (a=b))) []:=by
 have l1:(a.map e7).length=a.length:=by simp
 have l2:(b.map e7).length=b.length:=by simp
 (refine ac Tryz.func103 ?_;(conv=>whnf);repeat (refine zy ?_;conv=>whnf))
 repeat' (first|refine zz ?_|refine zd ?_ ?_<;>intro h<;>try omega|refine zy ?_|fail)<;>conv=>whnf
 ·refine b7 (decide_eq_false ?_).symm
  intro hab;subst hab;exact h rfl
 have hab:a.length=b.length:=by omega
 refine d7 c8 (fun k=>([d9 a,d9 b,J,J,J,a7 .i64 k,J,J,J,J,J,J,J,J,J,J,J,J,J,J,J,J,J,J,J,J],[])) a.length (fun k=>a.take k=b.take k) [] rfl
  ⟨rfl,rfl,trivial,⟨g7 rfl,g7 rfl,c6 rfl,trivial⟩⟩ ?_
 intro k hk hI
 conv=>whnf
 repeat' (first|refine zz ?_|refine zd ?_ ?_<;>intro h<;>try omega|refine zy ?_|fail)<;>conv=>whnf
 ·have hlt:k<a.length:=by omega
  obtain ⟨x,hx⟩:∃x,a[k]? =some x:=⟨_,lg0 hlt⟩
  obtain ⟨y,hy⟩:∃y,b[k]? =some y:=⟨_,lg0 (by omega)⟩
  repeat' (first|refine zz ?_|refine b9 hx ?_|refine b9 hy ?_|refine zd ?_ ?_<;>intro h<;>try omega|refine zy ?_|fail)<;>conv=>whnf
  ·have hne:x≠y:=‹x≠y›
   refine b7 (decide_eq_false ?_).symm
   intro hq;subst hq;rw [hx] at hy;injection hy with hy;exact hne hy
  ·have hxy:x=y:=by omega
   refine ⟨hlt,?_,[],rfl,rfl,trivial,⟨g7 rfl,g7 rfl,rfl,trivial⟩⟩
   rw [aj4 hx,aj4 hy,hI,hxy]
 ·refine b7 (decide_eq_true ?_).symm
  rw [lg4 (by omega),lg4 (by omega)] at hI
  exact hI
theorem b4b (l:List Int) (n:Int) (ha:l.length<=1000000):a9 Tryz.prog 172 [d9 l,a7 .i64 n] [] (a7 .i64 (if (l.any fun x=>decide (x=n)) then (l.findIdx fun x=>decide (x=n)) else -1)) []:=by
 have l1:(l.map e7).length=l.length:=by simp
 (refine ac Tryz.func172 ?_;(conv=>whnf);repeat (refine zy ?_;conv=>whnf))
 refine d7 c8 (fun k=>([d9 l,a7 .i64 n,J,J,J,J,d9 l,a7 .i64 l.length,a7 .i64 k,J,J,J,J,J,J,J,J,J,J],[])) l.length (fun k=>(l.take k).any (fun x=>decide (x=n))=false) [] rfl
  ⟨rfl,rfl,trivial,⟨g7 rfl,rfl,g7 rfl,c6 (by simp),c6 rfl,trivial⟩⟩ ?_
 intro k hk hI
 conv=>whnf
 repeat' (first|refine zz ?_|refine zd ?_ ?_<;>intro h<;>try omega|refine zy ?_|fail)<;>conv=>whnf
 ·have hlt:k<l.length:=by omega
  obtain ⟨x,hx⟩:∃x,l[k]? =some x:=⟨_,lg0 hlt⟩
  have hxg:l[k]=x:=(lg1 hx).2
  repeat' (first|refine zz ?_|refine b9 hx ?_|refine zd ?_ ?_<;>intro h<;>try omega|refine zy ?_|fail)<;>conv=>whnf
  ·have hxn:x=n:=by omega
   refine j1 ?_
   rw [if_pos (a2M hx (by simpa using hxn)),(List.findIdx_eq hlt).2 ⟨by simp [hxg,hxn],fun j hj=>?_⟩]
   rw [List.any_eq_false] at hI
   have:=hI l[j] (List.mem_take_iff_getElem.2 ⟨j,by omega,rfl⟩)
   simpa using this
  ·have hne:¬x=n:=by omega
   refine ⟨hlt,?_,[],rfl,rfl,trivial,⟨rfl,rfl,rfl,rfl,rfl,trivial⟩⟩
   rw [a0g hx,hI]
   simpa using hne
 ·refine j1 ?_
  rw [lg4 (by omega)] at hI
  rw [hI];rfl
theorem a7V (l:List Int) (n:Int) (ha:l.length<=1000000):a9 Tryz.prog 98 [d9 l,a7 .i64 n] [] (d6 (l.any fun x=>decide (x=n))) []:=by
 (refine ac Tryz.func98 ?_;(conv=>whnf);repeat (refine zy ?_;conv=>whnf))
 repeat' (first|refine zz ?_|refine qp (b4b _ _ ha) ?_|refine zd ?_ ?_<;>intro h<;>try omega|refine zy ?_|fail)<;>conv=>whnf
 all_goals
  refine b7 ?_
  cases hb:(l.any fun x=>decide (x=n)) with
  |true=>simp_all
  |false=>simp_all
theorem al2 (e:Ev) (i:Int):((H3 e).any fun x=>decide (x=i))=decide (0<=i∧i.toNat ∈ f9 e):=by
 rw [Bool.eq_iff_iff,List.any_eq_true,decide_eq_true_eq]
 constructor
 ·rintro ⟨x,hx,he⟩
  have he:=of_decide_eq_true he
  subst he
  obtain ⟨n,hn,rfl⟩:=List.mem_map.1 hx
  exact ⟨by omega,by rw [Int.toNat_natCast];exact hn⟩
 ·rintro ⟨h0,h1⟩
  exact ⟨i,List.mem_map.2 ⟨i.toNat,h1,by omega⟩,decide_eq_true rfl⟩
def Q5 (t:f5) (find lift:Int):Bool:=a0w t find && decide (0<=lift∧lift.toNat ∈ f9 t.ev)
theorem a2o {t:f5} {find:Int} (h:a0w t find=true):u0 t=0∧0<=find∧∃f,t.finds[find.toNat]? =some f:=by
 unfold a0w at h
 simp only [Bool.and_eq_true,decide_eq_true_eq] at h
 exact ⟨h.1.1,h.1.2,_,lg0 (by omega)⟩
theorem aI4 (t:f5) (hs:t.Sized) (find lift:Int) (h:Q5 t find lift=false):
 a9 Tryz.prog 32 [trS t,a7 .i64 find,a7 .i64 lift] [] (.tup [Q3 ⟨0,[]⟩,a7 .i64 1]) []:=by
 have fi:=a2Z t hs find
 cases hf:a0w t find with
 |false=>
  rw [hf] at fi
  (refine ac Tryz.func32 ?_;(conv=>whnf);repeat ((first|refine b0x ?_|refine zy ?_);conv=>whnf))
  repeat' (first|refine zz ?_|refine qp fi ?_|refine zd ?_ ?_<;>intro h<;>try omega|refine zy ?_|fail)<;>conv=>whnf
  all_goals first
   |omega
   |exact j2 ⟨⟨rfl,rfl,trivial⟩,rfl,trivial⟩
 |true=>
  rw [hf] at fi
  have h1:=(a2o hf).1
  have hck:=(p6 h1).1
  have li:=a6z t.ev hs.ev hck
  have ll:(H3 t.ev).length<=1000000:=by
   rw [a03]
   have a:=w8 (e:=t.ev) t.ev.moves.length
   have b:=hs.ev.s2
   show (o9 t.ev t.ev.moves.length).length<=_
   omega
  have co:=a7V (H3 t.ev) lift ll
  rw [al2] at co
  have e:decide (0<=lift∧lift.toNat ∈ f9 t.ev)=false:=by unfold Q5 at h;rw [hf] at h;exact h
  rw [e] at co
  (refine ac Tryz.func32 ?_;(conv=>whnf);repeat ((first|refine b0x ?_|refine zy ?_);conv=>whnf))
  repeat' (first|refine zz ?_|refine qp fi ?_|refine qp li ?_|refine qp co ?_|refine zd ?_ ?_<;>intro h<;>try omega|refine zy ?_|fail)<;>conv=>whnf
  all_goals first
   |omega
   |exact j2 ⟨⟨rfl,rfl,trivial⟩,rfl,trivial⟩
theorem aZ0 (t:f5) (hs:t.Sized) (find:Int) (f:I8) (hf:t.finds[find.toNat]? =some f) (i:Nat) (h:Q5 t find i=true) (hm:t.ev.moves.length<=14):
 a9 Tryz.prog 32 [trS t,a7 .i64 find,a7 .i64 i] [] (.tup [Q3 (j5 t f.kind i),a7 .i64 0]) []:=by
 have fi:=a2Z t hs find
 unfold Q5 at h
 obtain ⟨h1,h2⟩:=(Bool.and_eq_true _ _).mp h
 rw [h1] at fi
 obtain ⟨h3,h4,_⟩:=a2o h1
 have hck:=(p6 h3).1
 have li:=a6z t.ev hs.ev hck
 have ll:(H3 t.ev).length<=1000000:=by
  rw [a03]
  have a:=w8 (e:=t.ev) t.ev.moves.length
  show (o9 t.ev t.ev.moves.length).length<=_
  omega
 have co:=a7V (H3 t.ev) i ll
 rw [al2,h2] at co
 have al:=a8K t hs h3 find f h4 hf i hm
 (refine ac Tryz.func32 ?_;(conv=>whnf);repeat ((first|refine b0x ?_|refine zy ?_);conv=>whnf))
 repeat' (first|refine zz ?_|refine qp fi ?_|refine qp li ?_|refine qp co ?_|refine qp al ?_|refine zd ?_ ?_<;>intro h<;>try omega|refine zy ?_|fail)<;>conv=>whnf
 all_goals first
  |omega
  |exact j2 ⟨⟨rfl,rfl,trivial⟩,rfl,trivial⟩
def aA3 (s:f8) (a b:Nat) (z:List Fr):Bool:=(z.all x4 && j0 s (z.map fv)) && (decide (0<(z.map fv).getD a 0) && decide (0<(z.map fv).getD b 0))
structure PtR (s:f8) (x:List Fr):Prop where
 r:aJ3 x
 p:x.all x4=true->PtB s (x.map fv)
theorem b3H (s:f8) (hb:a39 s) (hr:g6 s=true) (z:List Fr) (hz:PtR s z):a9 Tryz.prog 43 [Q3 s,i8 z] [] (d6 (z.all x4 && j0 s (z.map fv))) []:=by
 cases hx:z.all x4 with
 |false=>exact aK2 s hb hr z hz.r hx
 |true=>
  have hp:=hz.p hx
  obtain ⟨Z,rfl⟩:=a1L hx
  rw [a3i] at hp ⊢
  rw [Bool.true_and]
  exact b2E s hb hr Z hp
theorem a38 {s:f8} (h:U7 s):a39 s:=by
 have hn:=V7 h.r
 have h9:=h.n
 refine ⟨by have:=h.l;omega,fun w hw=>?_⟩
 obtain ⟨i,hi,rfl⟩:=List.getElem_of_mem hw
 have h1:=z5 (T6 h.r (lg0 hi)).1
 have h2:=h.i _ (List.getElem_mem hi)
 exact ⟨by omega,fun t ht=>by have:=L7 h2.1 t ht;omega,by have:=a4h h2.2;omega⟩
theorem a7S (t:f5) (hs:t.Sized) (find mv lift:Int) (z:List Fr) (h:(Q5 t find lift && V5 t find mv)=false) (hm:t.ev.moves.length<=14):
 a9 Tryz.prog 44 [trS t,a7 .i64 find,a7 .i64 mv,a7 .i64 lift,i8 z] [] (d6 false) []:=by
 cases ha:Q5 t find lift with
 |false=>
  have al:=aI4 t hs find lift ha
  have kn:=S9 t hs find mv
  (refine ac Tryz.func44 ?_;(conv=>whnf);repeat ((first|refine b0x ?_|refine zy ?_);conv=>whnf))
  repeat' (first|refine zz ?_|refine qp al ?_|refine qp kn ?_|refine zd ?_ ?_<;>intro h<;>try omega|refine zy ?_|fail)<;>conv=>whnf
  all_goals first
   |omega
   |exact b7 rfl
 |true=>
  rw [ha,Bool.true_and] at h
  have h1:=ha
  unfold Q5 at h1
  obtain ⟨h1,h2⟩:=(Bool.and_eq_true _ _).mp h1
  obtain ⟨_,_,f,hf⟩:=a2o h1
  obtain ⟨l0,_⟩:=of_decide_eq_true h2
  obtain ⟨i,rfl⟩:∃i:Nat,lift=i:=⟨lift.toNat,by omega⟩
  have al:=aZ0 t hs find f hf i ha hm
  have kn:=S9 t hs find mv
  rw [h] at kn
  (refine ac Tryz.func44 ?_;(conv=>whnf);repeat ((first|refine b0x ?_|refine zy ?_);conv=>whnf))
  repeat' (first|refine zz ?_|refine qp al ?_|refine qp kn ?_|refine zd ?_ ?_<;>intro h<;>try omega|refine zy ?_|fail)<;>conv=>whnf
  all_goals first
   |omega
   |exact b7 rfl
set_option maxHeartbeats 4000000 in
theorem aI5 (t:f5) (hs:t.Sized) (h:QT t) (find:Int) (f:I8) (f0:0<=find) (hf:t.finds[find.toNat]? =some f) (g:Nat) (hg:g<t.ev.moves.length) (i:Nat) (hi:i ∈ f9 t.ev) (z:List Fr) (hz:PtR (j5 t f.kind i) z):
 a9 Tryz.prog 44 [trS t,a7 .i64 find,a7 .i64 g,a7 .i64 i,i8 z] [] (d6 (aA3 (j5 t f.kind i) g f.mv.toNat z)) []:=by
 have hfit:=a21 h f0 hf
 have hm:=h.m
 obtain ⟨q1,q2,q3,q4,q5⟩:=p6 h.h
 have hfg:=B9 q4 f (lg2 hf)
 have ha:Q5 t find i=true:=by unfold Q5;rw [hfit,decide_eq_true (by exact ⟨by omega,by rw [Int.toNat_natCast];exact hi⟩)];rfl
 have hk:V5 t find g=true:=by unfold V5;rw [hfit,decide_eq_true (by omega),decide_eq_true (by omega)];rfl
 have al:=aZ0 t hs find f hf i ha (by omega)
 have kn:=S9 t hs find g
 rw [hk] at kn
 have ss:=G2 (kind:=f.kind) i h
 have ho:=b3H (j5 t f.kind i) (a38 ss) ss.r z hz
 unfold aA3
 cases hB:(z.all x4 && j0 (j5 t f.kind i) (z.map fv)) with
 |false=>
  rw [hB] at ho
  rw [Bool.false_and]
  (refine ac Tryz.func44 ?_;(conv=>whnf);repeat ((first|refine b0x ?_|refine zy ?_);conv=>whnf))
  repeat' (first|refine zz ?_|refine qp al ?_|refine qp kn ?_|refine qp ho ?_|refine zd ?_ ?_<;>intro h<;>try omega|refine zy ?_|fail)<;>conv=>whnf
  all_goals first
   |omega
   |exact b7 rfl
 |true=>
  rw [hB] at ho
  rw [Bool.true_and]
  obtain ⟨hx,hH⟩:=(Bool.and_eq_true _ _).mp hB
  have hp:=hz.p hx
  obtain ⟨Z,rfl⟩:=a1L hx
  rw [a3i] at hp hH ⊢
  have zl:(Z.length:Int)=t.ev.moves.length:=by have:=(N3 hH).2;exact this
  obtain ⟨a,ha⟩:∃a,Z[g]? =some a:=⟨_,lg0 (by omega)⟩
  obtain ⟨b,hb⟩:∃b,Z[f.mv.toNat]? =some b:=⟨_,lg0 (by omega)⟩
  have ga:(Z.map fz)[g]? =some (fz a):=by rw [List.getElem?_map,ha];rfl
  have gb:(Z.map fz)[f.mv.toNat]? =some (fz b):=by rw [List.getElem?_map,hb];rfl
  have sa:=Z4 a (by have:=hp.v a (lg2 ha);omega)
  have sb:=Z4 b (by have:=hp.v b (lg2 hb);omega)
  have ea:Z.getD g 0=a:=by rw [lg3,ha];rfl
  have eb:Z.getD f.mv.toNat 0=b:=by rw [lg3,hb];rfl
  rw [ea,eb]
  have pa:=a2U (x:=a)
  have pb:=a2U (x:=b)
  have e1:decide (0<a)=decide (sgR a > 0):=by rw [decide_eq_decide];exact pa.symm
  have e2:decide (0<b)=decide (sgR b > 0):=by rw [decide_eq_decide];exact pb.symm
  rw [e1,e2]
  generalize sgR a=U at sa
  generalize sgR b=V at sb
  clear pa pb e1 e2
  have hg1:=hfg.1
  (refine ac Tryz.func44 ?_;(conv=>whnf);repeat ((first|refine b0x ?_|refine zy ?_);conv=>whnf))
  repeat' (first|refine zz ?_|refine qp al ?_|refine qp kn ?_|refine qp ho ?_|refine qp sa ?_|refine qp sb ?_|refine b9 ga ?_|refine p9 f0 hf ?_|refine p9 hg1 gb ?_|refine zd ?_ ?_<;>intro h<;>try omega|refine zy ?_|fail)<;>conv=>whnf
  all_goals first
   |omega
   |(refine b7 ?_;symm;simp only [Bool.and_eq_true,decide_eq_true_eq,Bool.and_eq_false_iff,decide_eq_false_iff_not];omega)
def a0R (v:Nat):List (Int × Rat):=[((v:Int),((-1:Int):Rat))]
theorem aE2 (s:f8) (h:U7 s) (v:Nat) (y:List Fr) (hy:aM5 s y):
 a9 Tryz.prog 120 [Q3 s,a7 .i64 v,i8 y] [] (d6 (a1M s (a0R v) y)) []:=by
 have h9:=h.n
 have on:=a5C v (-1) (by decide) (by decide)
 have lo:=b84 s (a38 h) h.r (by omega) (a0R v) (by simp [a0R]) (fun t ht=>by simp [a0R] at ht;subst ht;have h1:=b6D;show rl ((-1:Int):Rat)<=200;omega) y hy
 have sz:=b4m
 rcases aD4 s (a0R v) y hy with ⟨e1,e2⟩|⟨x,hx,e1,e2⟩
 ·rw [e1] at lo
  rw [e2]
  (refine ac Tryz.func120 ?_;(conv=>whnf);repeat ((first|refine b0x ?_|refine zy ?_);conv=>whnf))
  repeat' (first|refine zz ?_|refine qp on ?_|refine qp lo ?_|refine qp 7 ?_|refine bl0 [7] ?_|refine zd ?_ ?_<;>intro h<;>try omega|refine zy ?_|fail)<;>conv=>whnf
  all_goals first
   |omega
   |exact b7 rfl
 ·rw [e1] at lo
  rw [e2]
  have sg:=Z4 x (by omega)
  have e:decide (x=0)=decide (sgR x=0):=by
   rw [decide_eq_decide]
   have p1:=a2U (x:=x)
   have p2:=au9 (x:=x)
   constructor
   ·intro h;subst h;have q1:¬(0:Rat)<0:=by decide
    have:=mt p1.1 q1;have:=mt p2.1 q1;omega
   ·intro h
    have q1:¬0<x:=fun h'=>by have:=p1.2 h';omega
    have q2:¬x<0:=fun h'=>by have:=p2.2 h';omega
    grind
  rw [e]
  generalize sgR x=U at sg
  clear e
  (refine ac Tryz.func120 ?_;(conv=>whnf);repeat ((first|refine b0x ?_|refine zy ?_);conv=>whnf))
  repeat' (first|refine zz ?_|refine qp on ?_|refine qp lo ?_|refine qp sg ?_|refine qp 7 ?_|refine bl0 [7] ?_|refine zd ?_ ?_<;>intro h<;>try omega|refine zy ?_|fail)<;>conv=>whnf
  all_goals first
   |omega
   |(refine b7 ?_;symm;simp;omega)
def av2 (t:f5) (kind:Int) (a b i:Nat) (y:List Fr):Bool:=a1M (j5 t kind i) (a0R a) y || a1M (j5 t kind i) (a0R b) y
def a3m (t:f5) (kind:Int) (a b:Nat) (pf:List (List Fr)):Bool:=decide (pf.length=(f9 t.ev).length) && (List.range (f9 t.ev).length).all fun k=>av2 t kind a b ((f9 t.ev).getD k 0) (pf.getD k [])
theorem aw0 (t:f5) (hs:t.Sized) (find mv:Int) (pf:List (List Fr)) (h:V5 t find mv=false):
 a9 Tryz.prog 53 [trS t,a7 .i64 find,a7 .i64 mv,a1R pf] [] (d6 false) []:=by
 have kn:=S9 t hs find mv
 rw [h] at kn
 (refine ac Tryz.func53 ?_;(conv=>whnf);repeat ((first|refine b0x ?_|refine zy ?_);conv=>whnf))
 repeat' (first|refine zz ?_|refine qp kn ?_|refine zd ?_ ?_<;>intro h<;>try omega|refine zy ?_|fail)<;>conv=>whnf
 all_goals first
  |omega
  |exact b7 rfl
theorem aC7 {t:f5} (h:QT t) {find:Int} {f:I8} (f0:0<=find) (hf:t.finds[find.toNat]? =some f) {g:Nat} (hg:g<t.ev.moves.length):V5 t find g=true:=by
 unfold V5;rw [a21 h f0 hf,decide_eq_true (by omega),decide_eq_true (by omega)];rfl
set_option maxHeartbeats 4000000 in
theorem aE7 (t:f5) (hs:t.Sized) (hQ:QT t) (find:Int) (f:I8) (f0:0<=find) (hf:t.finds[find.toNat]? =some f) (g:Nat) (hg:g<t.ev.moves.length) (pf:List (List Fr))
 (hp:∀(k i:Nat) (y:List Fr),(f9 t.ev)[k]? =some i->pf[k]? =some y->aM5 (j5 t f.kind i) y) (hpl:pf.length<=1000000):
 a9 Tryz.prog 53 [trS t,a7 .i64 find,a7 .i64 g,a1R pf] [] (d6 (a3m t f.kind f.mv.toNat g pf)) []:=by
 have kn:=S9 t hs find g
 rw [aC7 hQ f0 hf hg] at kn
 have hm:=hQ.m
 obtain ⟨q1,q2,q3,q4,q5⟩:=p6 hQ.h
 have hfg:=B9 q4 f (lg2 hf)
 obtain ⟨mv,hmv⟩:∃mv:Nat,f.mv=mv:=⟨f.mv.toNat,by omega⟩
 have hmv2:f.mv.toNat=mv:=by omega
 have li:=a6z t.ev hs.ev q1
 have m1:((H3 t.ev).map e7).length=(f9 t.ev).length:=by rw [List.length_map,a03]
 have m2:(pf.map S8).length=pf.length:=by simp
 have ll:(f9 t.ev).length<=t.ev.moves.length:=w8 _
 unfold a3m
 rw [hmv2]
 by_cases hl:pf.length=(f9 t.ev).length
 ·rw [decide_eq_true hl,Bool.true_and]
  (refine ac Tryz.func53 ?_;(conv=>whnf);repeat ((first|refine b0x ?_|refine zy ?_);conv=>whnf))
  repeat' (first|refine zz ?_|refine qp kn ?_|refine qp li ?_|refine zd ?_ ?_<;>intro h<;>try omega|refine zy ?_|fail)<;>conv=>whnf
  all_goals try omega
  refine d7 c8 (fun k=>([J,a7 .i64 find,a7 .i64 g,a1R pf,S.c (C.t (T.ptr (trT t))),J,J,J,J,d9 (H3 t.ev),J,J,J,J,J,J,J,J,J,J,J,J,J,J,J,J,d9 (H3 t.ev),a7 .i64 (f9 t.ev).length,a7 .i64 k,J,J,J,J,J,J,J,J,J,J,J,J,J,J,J,J,J,J,J,J,J,J,J,J,J,J,J,J,J,J,J,J,J],[])) (f9 t.ev).length (fun k=>∀j,j<k->av2 t f.kind mv g ((f9 t.ev).getD j 0) (pf.getD j [])=true) [] (fun j hj=>by omega)
   ⟨rfl,rfl,trivial,⟨rfl,rfl,rfl,rfl,rfl,rfl,c6 (by simp [m1]),rfl,trivial⟩⟩ ?_
  intro k hk hI
  by_cases hlt:k<(f9 t.ev).length
  ·obtain ⟨i,hi⟩:∃i,(f9 t.ev)[k]? =some i:=⟨_,lg0 hlt⟩
   have hii:=a3f hi
   obtain ⟨y,hy⟩:∃y,pf[k]? =some y:=⟨_,lg0 (by omega)⟩
   have hid:(f9 t.ev).getD k 0=i:=by rw [lg3,hi];rfl
   have hyd:pf.getD k []=y:=by rw [lg3,hy];rfl
   have al:=a8K t hs hQ.h find f f0 hf i (by omega)
   have ss:=G2 (kind:=f.kind) i hQ
   have my:=hp k i y hi hy
   have n1:=aE2 (j5 t f.kind i) ss mv y my
   have n2:=aE2 (j5 t f.kind i) ss g y my
   rw [← hmv] at n1
   have hc:av2 t f.kind mv g ((f9 t.ev).getD k 0) (pf.getD k [])=(a1M (j5 t f.kind i) (a0R mv) y || a1M (j5 t f.kind i) (a0R g) y):=by rw [hid,hyd];rfl
   have hnext:∀b,(a1M (j5 t f.kind i) (a0R mv) y || a1M (j5 t f.kind i) (a0R g) y)=b->b=true->∀j,j<k+1->av2 t f.kind mv g ((f9 t.ev).getD j 0) (pf.getD j [])=true:=fun b hb hb2 j hj=>by
    by_cases hjk:j=k
    ·subst hjk;rw [hc,hb,hb2]
    ·exact hI j (by omega)
   have hno:(a1M (j5 t f.kind i) (a0R mv) y || a1M (j5 t f.kind i) (a0R g) y)=false->((List.range (f9 t.ev).length).all fun k=>av2 t f.kind mv g ((f9 t.ev).getD k 0) (pf.getD k []))=false:=fun hb=>by
    rw [List.all_eq_false]
    exact ⟨k,List.mem_range.2 hlt,by rw [hc,hb];decide⟩
   cases h1:a1M (j5 t f.kind i) (a0R mv) y with
   |true=>
    rw [h1] at n1 hnext
    have hn:=hnext true (by simp) rfl
    conv=>whnf
    repeat' (first|refine zz ?_|refine qp al ?_|refine qp n1 ?_|refine qp n2 ?_|refine b9 hii ?_|refine p9 f0 hf ?_|refine b9 hy ?_|refine zd ?_ ?_<;>intro h<;>try omega|refine zy ?_|fail)<;>conv=>whnf
    all_goals first
     |omega
     |exact ⟨hlt,hn,[],rfl,rfl,trivial,⟨rfl,rfl,rfl,rfl,rfl,rfl,rfl,c6 (by omega),trivial⟩⟩
   |false=>
    rw [h1] at n1 hnext hno
    cases h2:a1M (j5 t f.kind i) (a0R g) y with
    |true=>
     rw [h2] at n2 hnext
     have hn:=hnext true rfl rfl
     conv=>whnf
     repeat' (first|refine zz ?_|refine qp al ?_|refine qp n1 ?_|refine qp n2 ?_|refine b9 hii ?_|refine p9 f0 hf ?_|refine b9 hy ?_|refine zd ?_ ?_<;>intro h<;>try omega|refine zy ?_|fail)<;>conv=>whnf
     all_goals first
      |omega
      |exact ⟨hlt,hn,[],rfl,rfl,trivial,⟨rfl,rfl,rfl,rfl,rfl,rfl,rfl,c6 (by omega),trivial⟩⟩
    |false=>
     rw [h2] at n2 hno
     rw [hno rfl]
     conv=>whnf
     repeat' (first|refine zz ?_|refine qp al ?_|refine qp n1 ?_|refine qp n2 ?_|refine b9 hii ?_|refine p9 f0 hf ?_|refine b9 hy ?_|refine zd ?_ ?_<;>intro h<;>try omega|refine zy ?_|fail)<;>conv=>whnf
     all_goals first
      |omega
      |exact b7 rfl
  ·have hke:k=(f9 t.ev).length:=by omega
   subst hke
   have e:((List.range (f9 t.ev).length).all fun k=>av2 t f.kind mv g ((f9 t.ev).getD k 0) (pf.getD k []))=true:=List.all_eq_true.2 fun j hj=>hI j (List.mem_range.1 hj)
   rw [e]
   conv=>whnf
   repeat' (first|refine zz ?_|refine zd ?_ ?_<;>intro h<;>try omega|refine zy ?_|fail)<;>conv=>whnf
   all_goals first
    |omega
    |exact b7 rfl
 ·rw [decide_eq_false hl,Bool.false_and]
  (refine ac Tryz.func53 ?_;(conv=>whnf);repeat ((first|refine b0x ?_|refine zy ?_);conv=>whnf))
  repeat' (first|refine zz ?_|refine qp kn ?_|refine qp li ?_|refine zd ?_ ?_<;>intro h<;>try omega|refine zy ?_|fail)<;>conv=>whnf
  all_goals first
   |omega
   |exact b7 rfl
noncomputable def a9L (t:f5) (kind:Int) (a b i:Nat):List Rat:=if a1k (z9 a) (Q9 (j5 t kind i) (z9 a))=true then X0 (j5 t kind i) (z9 b) else X0 (j5 t kind i) (z9 a)
noncomputable def a0s (t:f5) (kind:Int) (a b:Nat) (l:List Nat):List (List Fr):=l.map fun i=>(a9L t kind a b i).map fz
theorem b0w {t:f5} {kind:Int} {a b k i:Nat} {l:List Nat} (h:l[k]? =some i):a0s t kind a b (l.take (k+1))=a0s t kind a b (l.take k)++[(a9L t kind a b i).map fz]:=by
 unfold a0s;rw [List.take_add_one,h];simp
theorem a9h (t:f5) (kind:Int) (a b:Nat) (l:List Nat):(a0s t kind a b l).length=l.length:=by simp [a0s]
abbrev aP8 (hh:List (List Fr)):Blk:={ mode:=.live,elem:=44,size:=1,rows:=toC (hh.map S8),box:=false }
theorem ay5 (t:f5) (hs:t.Sized) (find mv:Int) (h:V5 t find mv=false):
 a9 Tryz.prog 54 [trS t,a7 .i64 find,a7 .i64 mv] [] (.tup [.c (.t (.sl 0 .nil [])),d6 false]) []:=by
 have wi:=a5j t hs find mv h
 have kn:=S9 t hs find mv
 rw [h] at kn
 (refine ac Tryz.func54 ?_;(conv=>whnf);repeat ((first|refine b0x ?_|refine zy ?_);conv=>whnf))
 repeat' (first|refine zz ?_|refine qp wi ?_|refine qp kn ?_|refine zd ?_ ?_<;>intro h<;>try omega|refine zy ?_|fail)<;>conv=>whnf
 all_goals first
  |omega
  |exact j2 ⟨rfl,rfl,trivial⟩
theorem aM1 (t:f5) (hs:t.Sized) (hQ:QT t) (find:Int) (f:I8) (f0:0<=find) (hf:t.finds[find.toNat]? =some f) (g:Nat) (hg:g<t.ev.moves.length) (i:Nat) (hw:a2b t f.kind g (N8 t f.kind f.mv.toNat)=some i):
 a9 Tryz.prog 54 [trS t,a7 .i64 find,a7 .i64 g] [] (.tup [.c (.t (.sl 0 .nil [])),d6 false]) []:=by
 have wi:=a55 t hs hQ find f f0 hf g hg
 rw [hw] at wi
 unfold aU9 at wi
 have kn:=S9 t hs find g
 (refine ac Tryz.func54 ?_;(conv=>whnf);repeat ((first|refine b0x ?_|refine zy ?_);conv=>whnf))
 repeat' (first|refine zz ?_|refine qp wi ?_|refine qp kn ?_|refine zd ?_ ?_<;>intro h<;>try omega|refine zy ?_|fail)<;>conv=>whnf
 all_goals first
  |omega
  |exact j2 ⟨rfl,rfl,trivial⟩
theorem a4f {n v:Nat} (h:v<n):e8 (-1) ((n:Nat):Int) (z9 v)=true:=U6 (by omega) (by show ((v:Nat):Int)<_;omega) (by show ((1:Int):Rat)≠0;decide) rfl
theorem W2 (v:Nat):C0 (z9 v):=W8 (by decide) (by decide)
set_option maxHeartbeats 8000000 in
theorem aX9 (t:f5) (hs:t.Sized) (hQ:QT t) (find:Int) (f:I8) (f0:0<=find) (hf:t.finds[find.toNat]? =some f) (g:Nat) (hg:g<t.ev.moves.length) (hw:a2b t f.kind g (N8 t f.kind f.mv.toNat)=none):
 a9 Tryz.prog 54 [trS t,a7 .i64 find,a7 .i64 g] [] (.tup [a1R (a0s t f.kind f.mv.toNat g (f9 t.ev)),d6 true]) []:=by
 have wi:=a55 t hs hQ find f f0 hf g hg
 rw [hw] at wi
 unfold aU9 at wi
 have kn:=S9 t hs find g
 rw [aC7 hQ f0 hf hg] at kn
 have hm:=hQ.m
 obtain ⟨q1,q2,q3,q4,q5⟩:=p6 hQ.h
 have hfg:=B9 q4 f (lg2 hf)
 obtain ⟨mv,hmv⟩:∃mv:Nat,f.mv=mv:=⟨f.mv.toNat,by omega⟩
 have hmv2:f.mv.toNat=mv:=by omega
 have li:=a6z t.ev hs.ev q1
 have m1:((H3 t.ev).map e7).length=(f9 t.ev).length:=by rw [List.length_map,a03]
 have ll:(f9 t.ev).length<=t.ev.moves.length:=w8 _
 rw [hmv2]
 have on1:=a5C mv 1 (by decide) (by decide)
 rw [← hmv] at on1
 have on2:=a5C g 1 (by decide) (by decide)
 (refine ac Tryz.func54 ?_;(conv=>whnf);repeat ((first|refine b0x ?_|refine zy ?_);conv=>whnf))
 repeat' (first|refine zz ?_|refine qp wi ?_|refine qp kn ?_|refine qp li ?_|refine zd ?_ ?_<;>intro h<;>try omega|refine zy ?_|fail)<;>conv=>whnf
 all_goals try omega
 refine d7 c8 (fun k=>([J,a7 .i64 find,a7 .i64 g,S.c (C.t (T.ptr (trT t))),J,J,J,J,J,J,J,S.c (C.own 0 0 (a0s t f.kind mv g ((f9 t.ev).take k)).length true),d9 (H3 t.ev),J,J,J,J,J,J,J,J,J,J,J,J,J,J,J,J,J,J,J,J,J,J,J,J,d9 (H3 t.ev),a7 .i64 (f9 t.ev).length,a7 .i64 k,J,J,J,J,J,J,J,J,J,J,J,J,J,J,J,J,J,J,J,J,J,J,J,J,J,J,J,J,J,J,J,J,J,J,J,J,J,J,J,J,J,J],[aP8 (a0s t f.kind mv g ((f9 t.ev).take k))])) (f9 t.ev).length (fun _=>True) [none] trivial
  ⟨rfl,rfl,⟨⟨rfl,rfl⟩,trivial⟩,⟨rfl,rfl,rfl,⟨rfl,rfl,rfl⟩,rfl,rfl,c6 (by simp [m1]),rfl,trivial⟩⟩ ?_
 intro k hk _
 have pl:=a9h t f.kind mv g ((f9 t.ev).take k)
 have pt:((f9 t.ev).take k).length=k:=by rw [List.length_take];omega
 have lA:(a0s t f.kind mv g ((f9 t.ev).take k)).length<=(aP8 (a0s t f.kind mv g ((f9 t.ev).take k))).rows.length:=by show _<=(toC _).length;simp [toC]
 by_cases hlt:k<(f9 t.ev).length
 ·obtain ⟨i,hi⟩:∃i,(f9 t.ev)[k]? =some i:=⟨_,lg0 hlt⟩
  have hii:=a3f hi
  have al:=a8K t hs hQ.h find f f0 hf i (by omega)
  have hG:=G3 (kind:=f.kind) i hQ (by omega) (by omega) (by omega)
  have ss:=hG.sm
  have nn:((j5 t f.kind i).n.toNat:Nat)=t.ev.moves.length:=by show ((t.ev.moves.length:Nat):Int).toNat=_;omega
  have r1:e8 (-1) (((j5 t f.kind i).n.toNat:Nat):Int) (z9 mv)=true:=by rw [nn];exact a4f (by omega)
  have r2:e8 (-1) (((j5 t f.kind i).n.toNat:Nat):Int) (z9 g)=true:=by rw [nn];exact a4f hg
  have mu1:=aT8 (j5 t f.kind i) (z9 mv) ss hG.p.z hG.pos r1 (W2 _)
  have mu2:=aT8 (j5 t f.kind i) (z9 g) ss hG.p.z hG.pos r2 (W2 _)
  have x15:=b4a ss r1 (W2 mv)
  have xl:=ai8 (s:=j5 t f.kind i) (g:=z9 mv)
  have po:=a9N (z9 mv) (Q9 (j5 t f.kind i) (z9 mv)) (by rw [xl];exact r1) (W2 _) (fun v hv=>by have:=x15 v hv;omega) (by omega) (fun k=>by
   have h1:=a6n (L7 (W2 mv)) x15 k
   have h2:=Nat.mul_le_mul_right (31+4) (show (z9 mv).length<=9 by simp [z9])
   omega)
  have eN:a9L t f.kind mv g i=if a1k (z9 mv) (Q9 (j5 t f.kind i) (z9 mv))=true then X0 (j5 t f.kind i) (z9 g) else X0 (j5 t f.kind i) (z9 mv):=rfl
  rw [b0w hi,eN]
  generalize a0s t f.kind mv g ((f9 t.ev).take k)=P at *
  generalize j5 t f.kind i=s at *
  generalize Q9 s (z9 g)=x2 at *
  generalize X0 s (z9 g)=y2 at *
  generalize Q9 s (z9 mv)=x1 at *
  generalize X0 s (z9 mv)=y1 at *
  unfold z9 at mu1 mu2 po
  rw [← hmv] at mu1
  cases hb:a1k (z9 mv) x1 with
  |true=>
   unfold z9 at hb
   rw [hb,←hmv] at po
   rw [if_pos rfl]
   conv=>whnf
   repeat' (first|refine zz ?_|refine qp al ?_|refine qp on1 ?_|refine qp on2 ?_|refine qp mu1 ?_|refine qp mu2 ?_|refine qp po ?_|refine qp toC ?_|refine qp 7 ?_|refine b9 hii ?_|refine p9 f0 hf ?_|refine o6 lA (by simp [toC];omega) ?_|refine bl0 [7] ?_|refine zd ?_ ?_<;>intro h<;>try omega|refine zy ?_|fail)<;>conv=>whnf
   all_goals first
    |omega
    |(refine ⟨hlt,trivial,[some 2],rfl,rfl,⟨a8 (rows:=(P++[y2.map fz]).map S8) rfl rfl rfl ?_ rfl,trivial⟩,⟨rfl,rfl,rfl,⟨rfl,rfl,?_,fun h=>h⟩,rfl,rfl,rfl,c6 (by omega),trivial⟩⟩
      ·exact A6 (f:=S8) (x:=y2.map fz) rfl
      ·simp [toC])
  |false=>
   unfold z9 at hb
   rw [hb,←hmv] at po
   rw [if_neg (by decide)]
   conv=>whnf
   repeat' (first|refine zz ?_|refine qp al ?_|refine qp on1 ?_|refine qp on2 ?_|refine qp mu1 ?_|refine qp mu2 ?_|refine qp po ?_|refine qp toC ?_|refine qp 7 ?_|refine b9 hii ?_|refine p9 f0 hf ?_|refine o6 lA (by simp [toC];omega) ?_|refine bl0 [7] ?_|refine zd ?_ ?_<;>intro h<;>try omega|refine zy ?_|fail)<;>conv=>whnf
   all_goals first
    |omega
    |(refine ⟨hlt,trivial,[some 2],rfl,rfl,⟨a8 (rows:=(P++[y1.map fz]).map S8) rfl rfl rfl ?_ rfl,trivial⟩,⟨rfl,rfl,rfl,⟨rfl,rfl,?_,fun h=>h⟩,rfl,rfl,rfl,c6 (by omega),trivial⟩⟩
      ·exact A6 (f:=S8) (x:=y1.map fz) rfl
      ·simp [toC])
 ·have hke:k=(f9 t.ev).length:=by omega
  subst hke
  rw [lg4 (Nat.le_refl _)] at *
  conv=>whnf
  repeat' (first|refine zz ?_|refine zd ?_ ?_<;>intro h<;>try omega|refine zy ?_|fail)<;>conv=>whnf
  all_goals first
   |omega
   |exact j2 ⟨(show VC _ (fun id=>F3 [] id=true) (C.own 0 0 _ true) _ from s8 (k:=aP8 (a0s t f.kind mv g (f9 t.ev))) rfl rfl (fun h=>h) rfl rfl (by simp)),rfl,trivial⟩
end Go.Proofs.YtdbogogfeffjlaaGreat
