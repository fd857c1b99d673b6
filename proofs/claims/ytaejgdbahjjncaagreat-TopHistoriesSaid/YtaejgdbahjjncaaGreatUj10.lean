/- Part 10. -/
import Derived.Test.YtaejgdbahjjncaaGreatUj9
namespace Go.Proofs.YtaejgdbahjjncaaGreat
set_option linter.unusedVariables false
set_option linter.unusedSimpArgs false
set_option maxRecDepth 100000
open Go.RowKit
open St1 St2 St3 St4 St5 St6 St7 St8 StA StB
def b2A (m n:Nat) (y:Nat->Rat):Prop:=∀w,w<n+m->0<=y w
theorem aD7 {m n:Nat} {D:Fd} {g0:Nat->Rat} {z:Rat} (hP:a0U m n D) (hG:a0n n D g0 m z) (hv:∀i,i<m->0<=D.V i) (hg:∀j,j<n->D.G j<=0):
 (∃ y,Ids m n D y 1∧b2A m n y∧i7 (fun j=>g0 j*y j) n=z∧y=a27 m n D 1 (fun _=>0))∧∀y,Ids m n D y 1->b2A m n y->i7 (fun j=>g0 j*y j) n<=z:=by
 refine ⟨⟨_,a0D hP 1 (fun _=>0),fun w hw=>?_,?_,rfl⟩,fun y hy hp=>?_⟩
 ·rcases hP.all w hw with ⟨i,hi,rfl⟩|⟨j,hj,rfl⟩
  ·rw [a5O hP hi,s7 fun j hj=>by grind]
   have:=hv i hi;grind
  ·rw [a12 hP hj];grind
 ·rw [hG _ _ (a0D hP 1 (fun _=>0)),s7 fun j hj=>by rw [a12 hP hj];grind];grind
 ·rw [hG _ _ hy]
  have:i7 (fun j=>D.G j*y (D.F j)) n<=0:=a6P fun j hj=>by
   have h1:=hg j hj
   have h2:=hp (D.F j) (hP.fb j hj)
   have:=lb0 (show 0<=-(D.G j) by grind) h2
   grind
  grind
theorem b79 {m n:Nat} {D:Fd} (hP:a0U m n D) {r:Nat} (hr:r<m) (hv:D.V r<0) (ha:∀j,j<n->0<=D.A r j):∀y,Ids m n D y 1->¬b2A m n y:=by
 intro y hy hp
 have h1:=hy r hr
 have h2:=hp (D.O r) (hP.ob r hr)
 have h3:0<=i7 (fun j=>D.A r j*y (D.F j)) n:=a1D fun j hj=>lb0 (ha j hj) (hp _ (hP.fb j hj))
 grind
theorem b7h {m n:Nat} {D:Fd} {g0:Nat->Rat} {z:Rat} (hP:a0U m n D) (hG:a0n n D g0 m z) {s:Nat} (hs:s<n) (hg:0<D.G s) (ha:∀i,i<m->D.A i s<=0):
 ∃y,Ids m n D y 0∧b2A m n y∧0<i7 (fun j=>g0 j*y j) n∧y=a27 m n D 0 (fun j=>if j=s then 1 else 0):=by
 have hsum:∀f:Nat->Rat,i7 (fun j=>f j*(if j=s then (1:Rat) else 0)) n=f s:=fun f=>by
  rw [D9 hs,s7 fun j hj=>by by_cases h:j=s;simp only [h,if_true];simp only [if_neg h];grind]
  simp only [if_true];grind
 refine ⟨_,a0D hP 0 _,fun w hw=>?_,?_,rfl⟩
 ·rcases hP.all w hw with ⟨i,hi,rfl⟩|⟨j,hj,rfl⟩
  ·rw [a5O hP hi,hsum]
   have:=ha i hi;grind
  ·rw [a12 hP hj];split<;>grind
 ·rw [hG _ _ (a0D hP 0 _),d9 (g:=fun j=>D.G j*(if j=s then (1:Rat) else 0)) fun j hj=>by rw [a12 hP hj],hsum]
  grind
def L8 (l:List (Int × Rat)):Nat->Nat->Rat
 |0=>fun _=>0
 |k+1=>match l[k]? with
  |none=>L8 l k
  |some t=>fun j=>if j=t.1.toNat then t.2 else L8 l k j
def C6 (l:List (Int × Rat)):Nat->Rat:=L8 l l.length
theorem K4 {l:List (Int × Rat)} {k:Nat} {t:Int × Rat} (h:l[k]? =some t):L8 l (k+1)=fun j=>if j=t.1.toNat then t.2 else L8 l k j:=by rw [L8,h]
theorem a0w {l:List (Int × Rat)} {v:Nat}:∀k,(∀ i t,i<k->l[i]? =some t->t.1.toNat≠v)->L8 l k v=0
 |0,_=>rfl
 |k+1,h=>by
  have ih:=a0w (l:=l) (v:=v) k fun i t hi ht=>h i t (by omega) ht
  cases hk:l[k]? with
  |none=>rw [L8,hk];exact ih
  |some t=>
   rw [K4 hk]
   simp only
   rw [if_neg (fun e=>h k t (by omega) hk e.symm),ih]
theorem p6:∀{last n:Int} {l:List (Int × Rat)},d8 last n l=true->∀t ∈ l,last<t.1∧t.1<n∧t.2≠0
 |_,_,[],_,t,ht=>by cases ht
 |last,n,a::r,h,t,ht=>by
  unfold d8 at h
  simp only [lbM,lbI] at h
  rcases lbA.1 ht with rfl|ht
  ·exact ⟨h.1.1.1,h.1.1.2,h.1.2⟩
  ·have:=p6 h.2 t ht
   exact ⟨by omega,this.2⟩
theorem a23:∀{last n:Int} {l:List (Int × Rat)},d8 last n l=true->∀(i j:Nat) (t u:Int × Rat),i<j->l[i]? =some t->l[j]? =some u->t.1<u.1
 |_,_,[],_,i,j,t,u,_,ht,_=>by simp at ht
 |last,n,a::r,h,i,j,t,u,hij,ht,hu=>by
  unfold d8 at h
  simp only [lbM,lbI] at h
  cases j with
  |zero=>omega
  |succ j=>
   simp only [List.getElem?_cons_succ] at hu
   cases i with
   |zero=>
    simp only [List.getElem?_cons_zero] at ht
    injection ht with ht;subst ht
    exact (p6 h.2 u (lbm hu)).1
   |succ i=>
    simp only [List.getElem?_cons_succ] at ht
    exact a23 h.2 i j t u (by omega) ht hu
theorem aT8 {α:Type} {l:List α} {k:Nat} {x:α} (h:l[k]? =some x):l.take (k+1)=l.take k++[x]:=by rw [lbG,h];rfl
theorem aM1 {n:Nat} {l:List (Int × Rat)} (h:d8 (-1) (n:Int) l=true) (z:List Rat):∀k,k<=l.length->j1 (l.take k) z=i7 (fun j=>L8 l k j*z.getD j 0) n
 |0,_=>by
  rw [List.take_zero,s7 fun j hj=>by show (0:Rat)*_=0;grind]
  rfl
 |k+1,hk=>by
  have ih:=aM1 h z k (by omega)
  obtain ⟨t,ht⟩:∃t,l[k]? =some t:=⟨_,lbf (by omega)⟩
  have hm:=p6 h t (lbm ht)
  have hv:t.1.toNat<n:=by omega
  have h0:L8 l k t.1.toNat=0:=a0w k fun i u hi hu=>by
   have:=a23 h i k u t hi hu ht
   have h2:=p6 h u (lbm hu)
   omega
  rw [aT8 ht,K3,ih,K4 ht]
  rw [D9 (f:=fun j=>(if j=t.1.toNat then t.2 else L8 l k j)*z.getD j 0) hv,D9 (f:=fun j=>L8 l k j*z.getD j 0) hv]
  simp only [if_true,h0]
  rw [d9 (f:=fun j=>if j=t.1.toNat then 0 else (if j=t.1.toNat then t.2 else L8 l k j)*z.getD j 0) (g:=fun j=>if j=t.1.toNat then 0 else L8 l k j*z.getD j 0) fun j hj=>by
   by_cases hj:j=t.1.toNat
   ·rw [if_pos hj,if_pos hj]
   ·rw [if_neg hj,if_neg hj,if_neg hj]]
  grind
theorem M6 {n:Nat} {l:List (Int × Rat)} (h:d8 (-1) (n:Int) l=true) (z:List Rat):j1 l z=i7 (fun j=>C6 l j*z.getD j 0) n:=by
 have:=aM1 h z l.length (lbQ _)
 rw [List.take_length] at this
 exact this
def L0 (s:g6):Nat->List (Nat × Bool)
 |0=>[]
 |k+1=>match s.rows[k]? with
  |none=>L0 s k
  |some w=>L0 s k++(if w.kind≠0 then [(k,false)] else [])++(if w.kind≠1 then [(k,true)] else [])
def d6 (s:g6):List (Nat × Bool):=L0 s s.rows.length
def V3 (b:Bool) (x:Rat):Rat:=if b then -x else x
def a3M (s:g6) (f:Nat × Bool):Rat:=match s.rows[f.1]? with
 |none=>0
 |some w=>V3 f.2 w.value
def a3H (s:g6) (f:Nat × Bool) (j:Nat):Rat:=match s.rows[f.1]? with
 |none=>0
 |some w=>V3 f.2 (C6 w.terms j)
def f9 (s:g6) (g:List (Int × Rat)):Fd where
 V:=fun i=>a3M s ((d6 s).getD i (0,false))
 A:=fun i j=>a3H s ((d6 s).getD i (0,false)) j
 G:=fun j=>-(C6 g j)
 O:=fun i=>s.n.toNat+i
 F:=fun j=>j
theorem aq0 {s:g6} {f:Nat × Bool}:∀k,f ∈ L0 s k↔f.1<k∧∃w,s.rows[f.1]? =some w∧(f.2=false->w.kind≠0)∧(f.2=true->w.kind≠1)
 |0=>by simp [L0]
 |k+1=>by
  have ih:=aq0 (s:=s) (f:=f) k
  unfold L0
  cases hw:s.rows[k]? with
  |none=>
   simp only
   rw [ih]
   constructor
   ·rintro ⟨h1,h2⟩;exact ⟨by omega,h2⟩
   ·rintro ⟨h1,w,h2,h3⟩
    refine ⟨?_,w,h2,h3⟩
    by_cases he:f.1=k
    ·rw [he,hw] at h2;cases h2
    ·omega
  |some w=>
   simp only
   rw [lbz,lbz,ih]
   obtain ⟨a,b⟩:=f
   simp only
   constructor
   ·rintro ((⟨h1,h2⟩|h)|h)
    ·exact ⟨by omega,h2⟩
    ·split at h
     ·rename_i hk
      simp at h
      obtain ⟨rfl,rfl⟩:=h
      exact ⟨by omega,w,hw,fun _=>hk,fun h=>by cases h⟩
     ·simp at h
    ·split at h
     ·rename_i hk
      simp at h
      obtain ⟨rfl,rfl⟩:=h
      exact ⟨by omega,w,hw,fun h=>(by cases h),fun _=>hk⟩
     ·simp at h
   ·rintro ⟨h1,w',h2,h3,h4⟩
    by_cases he:a=k
    ·subst he
     rw [hw] at h2;injection h2 with h2;subst h2
     cases b with
     |false=>rw [if_pos (h3 rfl)];simp
     |true=>rw [if_pos (h4 rfl)];simp
    ·exact .inl (.inl ⟨by omega,w',h2,h3,h4⟩)
theorem a0h {s:g6} {f:Nat × Bool}:f ∈ d6 s↔∃w,s.rows[f.1]? =some w∧(f.2=false->w.kind≠0)∧(f.2=true->w.kind≠1):=by
 unfold d6
 rw [aq0]
 constructor
 ·rintro ⟨_,h⟩;exact h
 ·rintro ⟨w,h⟩;exact ⟨(lbe.1 h.1).1,w,h⟩
theorem aU5 {s:g6} {g:List (Int × Rat)}:a0U (d6 s).length s.n.toNat (f9 s g) where
 oi:=fun i i' _ _ h=>by have:s.n.toNat+i=s.n.toNat+i':=h;omega
 fi:=fun j j' _ _ h=>h
 of:=fun i j _ hj h=>by have:s.n.toNat+i=j:=h;omega
 all:=fun w hw=>by
  by_cases h:w<s.n.toNat
  ·exact .inr ⟨w,h,rfl⟩
  ·exact .inl ⟨w - s.n.toNat,by omega,by show s.n.toNat+(w - s.n.toNat)=w;omega⟩
 ob:=fun i hi=>by show s.n.toNat+i<_;omega
 fb:=fun j hj=>by show j<_;omega
theorem aQ2 {s:g6} {g:List (Int × Rat)}:a0n s.n.toNat (f9 s g) (fun j=>-(C6 g j)) (d6 s).length 0:=by
 intro y c _
 have:c*(0:Rat)=0:=by grind
 rw [this]
 have e:i7 (fun j=>(f9 s g).G j*y ((f9 s g).F j)) s.n.toNat=i7 (fun j=>-(C6 g j)*y j) s.n.toNat:=rfl
 rw [e];grind
def a69 (s:g6) (g:List (Int × Rat)) (z:List Rat) (w:Nat):Rat:=if w<s.n.toNat then z.getD w 0 else (f9 s g).V (w - s.n.toNat) - i7 (fun j=>(f9 s g).A (w - s.n.toNat) j*z.getD j 0) s.n.toNat
theorem b1r {s:g6} {g:List (Int × Rat)} (z:List Rat):Ids (d6 s).length s.n.toNat (f9 s g) (a69 s g z) 1:=by
 intro i hi
 show a69 s g z (s.n.toNat+i)=_
 unfold a69
 rw [if_neg (by omega),show s.n.toNat+i - s.n.toNat=i by omega]
 have:(1:Rat)*(f9 s g).V i=(f9 s g).V i:=by grind
 rw [this]
 congr 1
 refine d9 fun j hj=>?_
 show _=(f9 s g).A i j*(if j<s.n.toNat then z.getD j 0 else _)
 rw [if_pos hj]
theorem as3 {s:g6} {g:List (Int × Rat)} (hr:i9 s=true) {z:List Rat} {i:Nat} {f:Nat × Bool} {w:k7} (hf:(d6 s)[i]? =some f) (hw:s.rows[f.1]? =some w):a69 s g z (s.n.toNat+i)=V3 f.2 (w.value - j1 w.terms z):=by
 unfold a69
 rw [if_neg (by omega),show s.n.toNat+i - s.n.toNat=i by omega]
 have hfd:(d6 s).getD i (0,false)=f:=by rw [lbl,hf];rfl
 show a3M s ((d6 s).getD i (0,false)) - i7 (fun j=>a3H s ((d6 s).getD i (0,false)) j*z.getD j 0) s.n.toNat=_
 rw [hfd]
 have hrow:s6 s.n w=true:=by
  unfold i9 at hr
  simp only [lbM,lbI,lbv] at hr
  exact hr.2 w (lbm hw)
 have hn:(s.n.toNat:Int)=s.n:=by
  unfold i9 at hr
  simp only [lbM,lbI] at hr
  omega
 unfold s6 at hrow
 simp only [lbM,lbI] at hrow
 have hrt:=hrow.1.1
 rw [← hn] at hrt
 have e1:a3M s f=V3 f.2 w.value:=by unfold a3M;rw [hw]
 have e2:∀j,a3H s f j=V3 f.2 (C6 w.terms j):=fun j=>by unfold a3H;rw [hw]
 rw [e1,M6 hrt z]
 cases hb:f.2 with
 |false=>
  rw [d9 (g:=fun j=>C6 w.terms j*z.getD j 0) fun j hj=>by rw [e2 j,hb];rfl]
  rfl
 |true=>
  rw [d9 (g:=fun j=>(-1:Rat)*(C6 w.terms j*z.getD j 0)) fun j hj=>by rw [e2 j,hb];show -(C6 w.terms j)*_=_;grind,I5]
  show -w.value - _=-(w.value - _)
  grind
theorem first_holds {s:g6} {g:List (Int × Rat)} (hr:i9 s=true) {z:List Rat} (hl:(z.length:Int)=s.n):i4 s z=true↔b2A (d6 s).length s.n.toNat (a69 s g z):=by
 have hn:z.length=s.n.toNat:=by omega
 unfold i4
 rw [hr,lbH hl]
 simp only [Bool.true_and,lbM,lbv,lbI]
 constructor
 ·rintro ⟨h1,h2⟩ w hw
  by_cases hv:w<s.n.toNat
  ·unfold a69
   rw [if_pos hv,lbl,lbf (by omega)]
   exact h1 _ (lbE _)
  ·obtain ⟨i,rfl⟩:∃i,w=s.n.toNat+i:=⟨w - s.n.toNat,by omega⟩
   have hi:i<(d6 s).length:=by omega
   obtain ⟨f,hf⟩:∃f,(d6 s)[i]? =some f:=⟨_,lbf hi⟩
   obtain ⟨x,hx,hk1,hk2⟩:=a0h.1 (lbm hf)
   rw [as3 hr hf hx]
   have hb:=h2 x (lbm hx)
   unfold G1 at hb
   simp only [Bool.not_eq_true',Bool.or_eq_false_iff,lbO,lbK] at hb
   cases hfb:f.2 with
   |false=>
    have:=hk1 hfb
    show 0<=x.value - j1 x.terms z
    rcases hb.2 with h|h
    ·grind
    ·exact absurd this h
   |true=>
    have:=hk2 hfb
    show 0<=-(x.value - j1 x.terms z)
    rcases hb.1 with h|h
    ·grind
    ·exact absurd this h
 ·intro hp
  refine ⟨fun v hv=>?_,fun x hx=>?_⟩
  ·obtain ⟨j,hj,rfl⟩:=List.getElem_of_mem hv
   have:=hp j (by omega)
   unfold a69 at this
   rw [if_pos (by omega),lbl,lbf hj] at this
   exact this
  ·obtain ⟨k,hk,hkx⟩:=List.getElem_of_mem hx
   have hxk:s.rows[k]? =some x:=by rw [lbf hk,hkx]
   have side:∀b:Bool,(b=false->x.kind≠0)->(b=true->x.kind≠1)->0<=V3 b (x.value - j1 x.terms z):=by
    intro b h1 h2
    have hm:((k,b):Nat × Bool) ∈ d6 s:=a0h.2 ⟨x,hxk,h1,h2⟩
    obtain ⟨i,hi,hif⟩:=List.getElem_of_mem hm
    have hf:(d6 s)[i]? =some (k,b):=by rw [lbf hi,hif]
    have:=hp (s.n.toNat+i) (by omega)
    rw [as3 hr hf hxk] at this
    exact this
   unfold G1
   simp only [Bool.not_eq_true',Bool.or_eq_false_iff,lbO,lbK]
   constructor
   ·by_cases h:x.kind≠1
    ·left
     have:=side true (fun h=>by cases h) (fun _=>h)
     have h2:0<=-(x.value - j1 x.terms z):=this
     grind
    ·right;exact h
   ·by_cases h:x.kind≠0
    ·left
     have:=side false (fun _=>h) (fun h=>by cases h)
     have h2:0<=x.value - j1 x.terms z:=this
     grind
    ·right;exact h
theorem a79 {l:List (Int × Rat)} (h:∀t ∈ l,∃c:Int,t.2=((c:Int):Rat)∧bl c<=1):∀(k j:Nat),∃c:Int,L8 l k j=((c:Int):Rat)∧bl c<=1
 |0,j=>⟨0,rfl,Q3 (by decide) (by decide)⟩
 |k+1,j=>by
  cases hk:l[k]? with
  |none=>rw [L8,hk];exact a79 h k j
  |some t=>
   rw [K4 hk]
   simp only
   split
   ·exact h t (lbm hk)
   ·exact a79 h k j
instance:Inhabited Fd:=⟨⟨fun _=>0,fun _ _=>0,fun _=>0,fun _=>0,fun _=>0⟩⟩
structure a6g (m n:Nat) (D0:Fd) (g0:Nat->Rat) (D:Fd):Prop where
 p:a0U m n D
 i:∀y c,Ids m n D0 y c↔Ids m n D y c
 g:∃z,a0n n D g0 m z
theorem b5D {m n r s:Nat} {D0 D:Fd} {g0:Nat->Rat} (h:a6g m n D0 g0 D) (hs:D5 m n D=.next r s):a6g m n D0 g0 (D.exch r s):=by
 obtain ⟨hr,hsn,hb⟩:=a5p hs
 have hp:=a7a hb
 obtain ⟨z,hz⟩:=h.g
 exact ⟨an9 hr hsn h.p,fun y c=>(h.i y c).trans (ad0 hr hsn hp),_,ap9 hr hsn hp hz⟩
def V7 (m n:Nat) (D0 D:Fd):Prop:=∃k,itS m n k D0=some D
theorem aU8 {m n:Nat} {D0:Fd}:V7 m n D0 D0:=⟨0,rfl⟩
theorem ae4 {m n:Nat} {D0 D D':Fd} (h:V7 m n D0 D) (hn:H3 m n D=some D'):V7 m n D0 D':=by
 obtain ⟨k,hk⟩:=h
 exact ⟨k+1,by rw [Z8,hk];exact hn⟩
theorem a31 {m n:Nat} {D0:Fd} {g0:Nat->Rat} (h0:a6g m n D0 g0 D0):∀{k:Nat} {D:Fd},itS m n k D0=some D->a6g m n D0 g0 D
 |0,D,h=>by injection h with h;subst h;exact h0
 |k+1,D,h=>by
  rw [Z8] at h
  cases hk:itS m n k D0 with
  |none=>rw [hk] at h;cases h
  |some D1=>
   rw [hk] at h
   have h:H3 m n D1=some D:=h
   obtain ⟨r,s,hs,rfl⟩:=a6v h
   exact b5D (a31 h0 hk) hs
theorem ac6 {m n:Nat} {D0:Fd} {k:Nat} (h:itS m n k D0=none):∀j,itS m n (k+j) D0=none
 |0=>h
 |j+1=>by rw [show k+(j+1)=(k+j)+1 by omega,Z8,ac6 h j];rfl
theorem aW0 {m n:Nat} {D0 D D':Fd} (h:V7 m n D0 D) (hn:H3 m n D=none) (h':V7 m n D0 D') (hn':H3 m n D'=none):D=D':=by
 obtain ⟨k,hk⟩:=h
 obtain ⟨l,hl⟩:=h'
 have a1:itS m n (k+1) D0=none:=by rw [Z8,hk];exact hn
 have a2:itS m n (l+1) D0=none:=by rw [Z8,hl];exact hn'
 have hkl:k=l:=by
  rcases Nat.lt_trichotomy k l with h|h|h
  ·have:=ac6 a1 (l - (k+1))
   rw [show k+1+(l - (k+1))=l by omega,hl] at this;cases this
  ·exact h
  ·have:=ac6 a2 (k - (l+1))
   rw [show l+1+(k - (l+1))=k by omega,hk] at this;cases this
 subst hkl
 rw [hk] at hl;injection hl
theorem b9x {m n:Nat} {D0:Fd} {g0:Nat->Rat} (h0:a6g m n D0 g0 D0):∃D,V7 m n D0 D∧H3 m n D=none:=by
 obtain ⟨k,hk,hmin⟩:=a3m (fun k=>itS m n k D0=none) (b8v h0.p h0.g)
 cases k with
 |zero=>cases hk
 |succ k=>
  cases hk':itS m n k D0 with
  |none=>have:=hmin k hk';omega
  |some D=>
   rw [Z8,hk'] at hk
   exact ⟨D,⟨k,hk'⟩,hk⟩
noncomputable def ai6 (m n:Nat) (D0:Fd):Fd:=Classical.epsilon fun D=>V7 m n D0 D∧H3 m n D=none
theorem a4N {m n:Nat} {D0:Fd} {g0:Nat->Rat} (h0:a6g m n D0 g0 D0):V7 m n D0 (ai6 m n D0)∧H3 m n (ai6 m n D0)=none:=Classical.epsilon_spec (b9x h0)
theorem b9n {m n:Nat} {D0 D:Fd} {g0:Nat->Rat} (h0:a6g m n D0 g0 D0) (h:V7 m n D0 D) (hn:H3 m n D=none):D=ai6 m n D0:=aW0 h hn (a4N h0).1 (a4N h0).2
theorem b8e {m n:Nat} {D0:Fd} {g0:Nat->Rat} (h0:a6g m n D0 g0 D0):a6g m n D0 g0 (ai6 m n D0):=by
 obtain ⟨k,hk⟩:=(a4N h0).1
 exact a31 h0 hk
theorem ao5 {m n:Nat} {D:Fd} (h:D5 m n D=.best):(∀ i,i<m->0<=D.V i)∧∀j,j<n->D.G j<=0:=by
 unfold D5 at h
 split at h
 ·rename_i h1 h2
  refine ⟨fun i hi=>?_,fun j hj=>?_⟩
  ·have:=a0N h1 i hi;simp at this;grind
  ·have:=a0N h2 j hj;simp at this;grind
 ·unfold a15 at h;split at h<;>cases h
 ·unfold a17 at h;split at h<;>cases h
 ·split at h
  ·unfold a15 at h;split at h<;>cases h
  ·unfold a17 at h;split at h<;>cases h
theorem at5 {n r r':Nat} {D:Fd} (h:a15 n D r=.row r'):r'=r∧∀j,j<n->0<=D.A r j:=by
 unfold a15 at h
 split at h
 ·rename_i h1
  injection h with h
  exact ⟨h.symm,fun j hj=>by have:=a0N h1 j hj;simp at this;grind⟩
 ·cases h
theorem ao2 {m s s':Nat} {D:Fd} (h:a17 m D s=.col s'):s'=s∧∀i,i<m->D.A i s<=0:=by
 unfold a17 at h
 split at h
 ·rename_i h1
  injection h with h
  exact ⟨h.symm,fun i hi=>by have:=a0N h1 i hi;simp at this;grind⟩
 ·cases h
theorem a4P {m n r:Nat} {D:Fd} (h:D5 m n D=.row r):r<m∧D.V r<0∧∀j,j<n->0<=D.A r j:=by
 unfold D5 at h
 split at h
 ·cases h
 ·rename_i r0 h1 h2
  obtain ⟨rfl,h4⟩:=at5 h
  have h3:=H8 h1
  exact ⟨h3.1,by simpa using h3.2.1,h4⟩
 ·unfold a17 at h;split at h<;>cases h
 ·rename_i r0 s0 h1 h2
  split at h
  ·obtain ⟨rfl,h4⟩:=at5 h
   have h3:=H8 h1
   exact ⟨h3.1,by simpa using h3.2.1,h4⟩
  ·unfold a17 at h;split at h<;>cases h
theorem a7K {m n s:Nat} {D:Fd} (h:D5 m n D=.col s):s<n∧0<D.G s∧∀i,i<m->D.A i s<=0:=by
 unfold D5 at h
 split at h
 ·cases h
 ·unfold a15 at h;split at h<;>cases h
 ·rename_i s0 h1 h2
  obtain ⟨rfl,h4⟩:=ao2 h
  have h3:=H8 h2
  exact ⟨h3.1,by simpa using h3.2.1,h4⟩
 ·rename_i r0 s0 h1 h2
  split at h
  ·unfold a15 at h;split at h<;>cases h
  ·obtain ⟨rfl,h4⟩:=ao2 h
   have h3:=H8 h2
   exact ⟨h3.1,by simpa using h3.2.1,h4⟩
theorem b4v {m n:Nat} {D:Fd} (h:H3 m n D=none):D5 m n D=.best∨(∃ r,D5 m n D=.row r)∨∃s,D5 m n D=.col s:=by
 unfold H3 at h
 cases hs:D5 m n D with
 |best=>exact .inl rfl
 |row r=>exact .inr (.inl ⟨r,rfl⟩)
 |col s=>exact .inr (.inr ⟨s,rfl⟩)
 |next r s=>rw [hs] at h;cases h
def zOf (n:Nat) (y:Nat->Rat):List Rat:=(List.range n).map y
theorem a5m {n:Nat} {y:Nat->Rat}:(zOf n y).length=n:=by simp [zOf]
theorem a6Z {n:Nat} {y:Nat->Rat} {j:Nat} (h:j<n):(zOf n y).getD j 0=y j:=by simp [zOf,lbl,h]
theorem a9B {n:Nat} {y:Nat->Rat} {v:Rat} (h:v ∈ zOf n y):∃j,j<n∧v=y j:=by
 obtain ⟨j,hj,rfl⟩:=lbx.1 h
 exact ⟨j,lbB.1 hj,rfl⟩
theorem aP3 {n:Nat} {l:List (Int × Rat)} (h:d8 (-1) (n:Int) l=true) (y:Nat->Rat):j1 l (zOf n y)=i7 (fun j=>C6 l j*y j) n:=by
 rw [M6 h];exact d9 fun j hj=>by rw [a6Z hj]
theorem O7 {s:g6} (hr:i9 s=true):((s.n.toNat:Nat):Int)=s.n:=by
 unfold i9 at hr
 simp only [lbM,lbI] at hr
 omega
theorem a00 {s:g6} (hr:i9 s=true) {i:Nat} {w:k7} (hw:s.rows[i]? =some w):d8 (-1) ((s.n.toNat:Nat):Int) w.terms=true∧0<=w.kind∧w.kind<3:=by
 rw [O7 hr]
 unfold i9 at hr
 simp only [lbM,lbv] at hr
 have:=hr.2 w (lbm hw)
 unfold s6 at this
 simp only [lbM,lbI] at this
 exact ⟨this.1.1,this.1.2,this.2⟩
theorem b7k {s:g6} {g:List (Int × Rat)} (hr:i9 s=true) {y:Nat->Rat} {c:Rat} (hy:Ids (d6 s).length s.n.toNat (f9 s g) y c) {i k:Nat} {b:Bool} {w:k7}
 (hf:(d6 s)[i]? =some (k,b)) (hw:s.rows[k]? =some w):y (s.n.toNat+i)=V3 b (c*w.value - j1 w.terms (zOf s.n.toNat y)):=by
 have hi:i<(d6 s).length:=(lbe.1 hf).1
 have h1:y (s.n.toNat+i)=c*(f9 s g).V i - i7 (fun j=>(f9 s g).A i j*y j) s.n.toNat:=hy i hi
 have hd:(d6 s).getD i (0,false)=(k,b):=by rw [lbl,hf];rfl
 have hV:(f9 s g).V i=V3 b w.value:=by show a3M s ((d6 s).getD i (0,false))=_;rw [hd];unfold a3M;simp only [hw]
 have hA:∀j,(f9 s g).A i j=V3 b (C6 w.terms j):=fun j=>by show a3H s ((d6 s).getD i (0,false)) j=_;rw [hd];unfold a3H;simp only [hw]
 rw [h1,hV,aP3 (a00 hr hw).1]
 cases b with
 |false=>rw [d9 (g:=fun j=>C6 w.terms j*y j) fun j hj=>by rw [hA j];rfl];rfl
 |true=>
  rw [d9 (g:=fun j=>(-1:Rat)*(C6 w.terms j*y j)) fun j hj=>by rw [hA j];show -(C6 w.terms j)*_=_;grind,I5]
  show c*-w.value - _=-(c*w.value - _)
  grind
noncomputable def o9 (s:g6) (g:List (Int × Rat)):Fd:=ai6 (d6 s).length s.n.toNat (f9 s g)
noncomputable def U8 (s:g6) (g:List (Int × Rat)):b52:=D5 (d6 s).length s.n.toNat (o9 s g)
theorem a33 {s:g6} {g:List (Int × Rat)}:a6g (d6 s).length s.n.toNat (f9 s g) (fun j=>-(C6 g j)) (f9 s g):=⟨aU5,fun _ _=>Iff.rfl,0,aQ2⟩
theorem R4 {s:g6} {g:List (Int × Rat)}:a6g (d6 s).length s.n.toNat (f9 s g) (fun j=>-(C6 g j)) (o9 s g):=b8e a33
theorem a5q (s:g6) (g:List (Int × Rat)):U8 s g=.best∨(∃ r,U8 s g=.row r)∨∃c,U8 s g=.col c:=b4v (a4N a33).2
noncomputable def H5 (s:g6) (g:List (Int × Rat)):List Rat:=zOf s.n.toNat (a27 (d6 s).length s.n.toNat (o9 s g) 1 (fun _=>0))
noncomputable def ay6 (s:g6) (g:List (Int × Rat)) (c:Nat):List Rat:=zOf s.n.toNat (a27 (d6 s).length s.n.toNat (o9 s g) 0 (fun j=>if j=c then 1 else 0))
theorem aS5 {s:g6} {g:List (Int × Rat)} {y:Nat->Rat} (hy:Ids (d6 s).length s.n.toNat (f9 s g) y 1):∀w,w<s.n.toNat+(d6 s).length->a69 s g (zOf s.n.toNat y) w=y w:=by
 intro w hw
 unfold a69
 split
 ·rename_i h;exact a6Z h
 ·have h1:y (s.n.toNat+(w - s.n.toNat))=1*(f9 s g).V (w - s.n.toNat) - i7 (fun j=>(f9 s g).A (w - s.n.toNat) j*y j) s.n.toNat:=hy (w - s.n.toNat) (by omega)
  rw [show s.n.toNat+(w - s.n.toNat)=w by omega] at h1
  rw [h1,d9 (g:=fun j=>(f9 s g).A (w - s.n.toNat) j*y j) fun j hj=>by rw [a6Z hj]]
  grind
theorem b1U {s:g6} {g:List (Int × Rat)} (hr:i9 s=true) {y:Nat->Rat} (hy:Ids (d6 s).length s.n.toNat (f9 s g) y 1) (hp:b2A (d6 s).length s.n.toNat y):i4 s (zOf s.n.toNat y)=true:=by
 refine (first_holds (g:=g) hr (by rw [a5m];exact O7 hr)).2 fun w hw=>?_
 rw [aS5 hy w hw];exact hp w hw
theorem F5 {s:g6} {z:List Rat} (h:i4 s z=true):i9 s=true∧(z.length:Int)=s.n:=by
 unfold i4 at h
 simp only [lbM,lbI] at h
 exact ⟨h.1.1.1,h.1.1.2⟩
theorem aa4 {s:g6} {g:List (Int × Rat)} (hg:d8 (-1) ((s.n.toNat:Nat):Int) g=true) (z:List Rat):i7 (fun j=>-(C6 g j)*a69 s g z j) s.n.toNat=-(j1 g z):=by
 rw [M6 hg z,d9 (g:=fun j=>(-1:Rat)*(C6 g j*z.getD j 0)) fun j hj=>by
  have:a69 s g z j=z.getD j 0:=by unfold a69;rw [if_pos hj]
  rw [this];grind,I5]
 grind
theorem a2X {s:g6} {g:List (Int × Rat)} (hr:i9 s=true) (hg:d8 (-1) ((s.n.toNat:Nat):Int) g=true) (h:U8 s g=.best):
 i4 s (H5 s g)=true∧∀z,i4 s z=true->j1 g (H5 s g)<=j1 g z:=by
 obtain ⟨hv,hgj⟩:=ao5 h
 have hi:=R4 (s:=s) (g:=g)
 obtain ⟨v,hv'⟩:=hi.g
 obtain ⟨⟨y,h1,h2,h3,h4⟩,h5⟩:=aD7 hi.p hv' hv hgj
 have h1':=(hi.i y 1).2 h1
 have e:H5 s g=zOf s.n.toNat y:=by unfold H5;rw [h4]
 rw [e]
 refine ⟨b1U hr h1' h2,fun z hz=>?_⟩
 have hx:=h5 (a69 s g z) ((hi.i _ 1).1 (b1r z)) ((first_holds hr (F5 hz).2).1 hz)
 rw [aa4 hg z] at hx
 have h6:i7 (fun j=>-(C6 g j)*y j) s.n.toNat=-(j1 g (zOf s.n.toNat y)):=by
  rw [← aa4 hg]
  exact d9 fun j hj=>by rw [aS5 h1' j (by omega)]
 rw [h6] at h3
 grind
theorem b0M {s:g6} {g:List (Int × Rat)} {r:Nat} (h:U8 s g=.row r):∀z,i4 s z=false:=by
 intro z
 cases hz:i4 s z with
 |false=>rfl
 |true=>
  obtain ⟨hr1,hv,ha⟩:=a4P h
  have hi:=R4 (s:=s) (g:=g)
  exact absurd ((first_holds (F5 hz).1 (F5 hz).2).1 hz) (b79 hi.p hr1 hv ha (a69 s g z) ((hi.i _ 1).1 (b1r z)))
structure b7J (s:g6) (d:List Rat):Prop where
 len:d.length=s.n.toNat
 pos:∀v ∈ d,0<=v
 up:∀(k:Nat) (w:k7),s.rows[k]? =some w->w.kind≠0->j1 w.terms d<=0
 down:∀(k:Nat) (w:k7),s.rows[k]? =some w->w.kind≠1->0<=j1 w.terms d
theorem a9y {s:g6} {g:List (Int × Rat)} {c:Nat} (hr:i9 s=true) (hg:d8 (-1) ((s.n.toNat:Nat):Int) g=true) (h:U8 s g=.col c):b7J s (ay6 s g c)∧j1 g (ay6 s g c)<0:=by
 obtain ⟨hc,hgc,ha⟩:=a7K h
 have hi:=R4 (s:=s) (g:=g)
 obtain ⟨v,hv⟩:=hi.g
 obtain ⟨y,h1,h2,h3,h4⟩:=b7h hi.p hv hc hgc ha
 have h1':=(hi.i y 0).2 h1
 have e:ay6 s g c=zOf s.n.toNat y:=by unfold ay6;rw [h4]
 rw [e]
 have side:∀(k:Nat) (w:k7) (b:Bool),s.rows[k]? =some w->(b=false->w.kind≠0)->(b=true->w.kind≠1)->0<=V3 b (-(j1 w.terms (zOf s.n.toNat y))):=by
  intro k w b hw hb1 hb2
  have hm:((k,b):Nat × Bool) ∈ d6 s:=a0h.2 ⟨w,hw,hb1,hb2⟩
  obtain ⟨i,hil,hif⟩:=List.getElem_of_mem hm
  have hf:(d6 s)[i]? =some (k,b):=by rw [lbf hil,hif]
  have:=b7k hr h1' hf hw
  have hp:=h2 (s.n.toNat+i) (by omega)
  rw [this] at hp
  have e2:(0:Rat)*w.value - j1 w.terms (zOf s.n.toNat y)=-(j1 w.terms (zOf s.n.toNat y)):=by grind
  rw [e2] at hp;exact hp
 refine ⟨⟨a5m,fun v hv=>?_,fun k w hw hk=>?_,fun k w hw hk=>?_⟩,?_⟩
 ·obtain ⟨j,hj,rfl⟩:=a9B hv
  exact h2 j (by omega)
 ·have:0<=-(j1 w.terms (zOf s.n.toNat y)):=side k w false hw (fun _=>hk) (fun h=>by cases h)
  grind
 ·have:0<=-(-(j1 w.terms (zOf s.n.toNat y))):=side k w true hw (fun h=>by cases h) (fun _=>hk)
  grind
 ·rw [aP3 hg,d9 (g:=fun j=>(-1:Rat)*(-(C6 g j)*y j)) fun j hj=>by grind,I5]
  grind
def ad2 (x d:List Rat):List Rat:=List.zipWith (·+·) x d
theorem ae1 {x d:List Rat} {n:Nat} (hx:x.length=n) (hd:d.length=n):(ad2 x d).length=n:=by simp [ad2,hx,hd]
theorem at6 {x d:List Rat} {n j:Nat} (hx:x.length=n) (hd:d.length=n) (hj:j<n):(ad2 x d).getD j 0=x.getD j 0+d.getD j 0:=by
 simp only [ad2,lbl,List.getElem?_zipWith]
 rw [lbf (show j<x.length by omega),lbf (show j<d.length by omega)]
 rfl
theorem a8v {x d:List Rat} {n:Nat} {l:List (Int × Rat)} (hx:x.length=n) (hd:d.length=n) (h:d8 (-1) (n:Int) l=true):j1 l (ad2 x d)=j1 l x+j1 l d:=by
 rw [M6 h,M6 h,M6 h,←S0]
 exact d9 fun j hj=>by rw [at6 hx hd hj];grind
theorem aN0 {w:k7} {z:List Rat}:G1 w z=true↔(w.kind≠1->w.value<=j1 w.terms z)∧(w.kind≠0->j1 w.terms z<=w.value):=by
 unfold G1
 simp only [Bool.not_eq_true',Bool.or_eq_false_iff,lbO,lbK,lb2]
 constructor
 ·rintro ⟨h1,h2⟩
  exact ⟨fun h=>h1.elim id fun h'=>absurd h h',fun h=>h2.elim id fun h'=>absurd h h'⟩
 ·rintro ⟨h1,h2⟩
  refine ⟨?_,?_⟩
  ·by_cases h:w.kind≠1
   ·exact .inl (h1 h)
   ·exact .inr h
  ·by_cases h:w.kind≠0
   ·exact .inl (h2 h)
   ·exact .inr h
theorem N2 {s:g6} {z:List Rat}:i4 s z=true↔i9 s=true∧(z.length:Int)=s.n∧(∀ v ∈ z,0<=v)∧∀w ∈ s.rows,(w.kind≠1->w.value<=j1 w.terms z)∧(w.kind≠0->j1 w.terms z<=w.value):=by
 unfold i4
 simp only [lbM,lbI,lbv,aN0]
 constructor
 ·rintro ⟨⟨⟨h1,h2⟩,h3⟩,h4⟩;exact ⟨h1,h2,h3,h4⟩
 ·rintro ⟨h1,h2,h3,h4⟩;exact ⟨⟨⟨h1,h2⟩,h3⟩,h4⟩
theorem b2B {s:g6} {x d:List Rat} (hx:i4 s x=true) (hd:b7J s d):i4 s (ad2 x d)=true:=by
 obtain ⟨h1,h2,h3,h4⟩:=N2.1 hx
 have hn:=O7 h1
 have hxl:x.length=s.n.toNat:=by omega
 refine N2.2 ⟨h1,by rw [ae1 hxl hd.len];exact hn,fun v hv=>?_,fun w hw=>?_⟩
 ·obtain ⟨j,hj,rfl⟩:=List.getElem_of_mem hv
  rw [ae1 hxl hd.len] at hj
  have h5:0<=x[j]:=h3 _ (lbE _)
  have h6:0<=d[j]'(by rw [hd.len];exact hj):=hd.pos _ (lbE _)
  simp only [ad2,List.getElem_zipWith]
  grind
 ·obtain ⟨k,hk,hkw⟩:=List.getElem_of_mem hw
  have hkw':s.rows[k]? =some w:=by rw [lbf hk,hkw]
  have h7:=a8v hxl hd.len (a00 h1 hkw').1
  obtain ⟨h8,h9⟩:=h4 w hw
  rw [h7]
  exact ⟨fun h=>by have:=h8 h;have:=hd.down k w hkw' h;grind,fun h=>by have:=h9 h;have:=hd.up k w hkw' h;grind⟩
theorem b75 {s:g6} (hr:i9 s=true) {c:Nat}:U8 s []≠.col c:=fun h=>by
 have:=(a9y hr rfl h).2
 have h2:j1 [] (ay6 s [] c)=((0:Int):Rat):=rfl
 rw [h2] at this
 exact absurd this (by decide +kernel)
section
def uV (n:Nat) (D0:Fd) (w:Nat):Nat->Rat
 |0=>if w<n then 0 else D0.V (w - n)
 |l+1=>if w<n then (if w=l then 1 else 0) else -(D0.A (w - n) l)
def uG (g0:Nat->Rat):Nat->Rat
 |0=>0
 |l+1=>g0 l
structure a1z (m n:Nat) (D:Fd):Prop where
 o:∀i,i<m->D.O i=n+i
 f:∀j,j<n->D.F j=j
def muF (n:Nat) (D0 D:Fd):Nat->Nat->Rat
 |0=>a3S 0
 |j+1=>uV n D0 (D.F j)
theorem b5p {m n:Nat} {D0:Fd} (h0:a1z m n D0) (l:Nat) (hl:l<n+1):Ids m n D0 (fun w=>uV n D0 w l) (a3S 0 l):=by
 intro i hi
 rw [h0.o i hi]
 rw [d9 (g:=fun j=>D0.A i j*uV n D0 j l) fun j hj=>by rw [h0.f j hj]]
 cases l with
 |zero=>
  rw [s7 fun j hj=>by show D0.A i j*(if j<n then (0:Rat) else _)=0;rw [if_pos hj];grind]
  show (if n+i<n then (0:Rat) else D0.V (n+i - n))=a3S 0 0*D0.V i - 0
  rw [if_neg (by omega),show n+i - n=i by omega]
  have:a3S 0 0=1:=rfl
  rw [this];grind
 |succ l=>
  rw [d9 (g:=fun j=>if j=l then D0.A i l else 0) fun j hj=>by
   show D0.A i j*(if j<n then (if j=l then (1:Rat) else 0) else _)=_
   rw [if_pos hj]
   by_cases h:j=l
   ·subst h;rw [if_pos rfl,if_pos rfl];grind
   ·rw [if_neg h,if_neg h];grind]
  rw [D9 (s:=l) (by omega),if_pos rfl,s7 fun j hj=>by
   by_cases h:j=l
   ·rw [if_pos h]
   ·rw [if_neg h,if_neg h]]
  show (if n+i<n then _ else -(D0.A (n+i - n) l))=a3S 0 (l+1)*D0.V i - _
  rw [if_neg (by omega),show n+i - n=i by omega]
  have:a3S 0 (l+1)=0:=rfl
  rw [this];grind
section
variable {m n:Nat} {D0 D:Fd}
def coV (D:Fd) (i:Nat):Nat->Rat
 |0=>D.V i
 |j+1=>-(D.A i j)
def coG (z:Rat) (D:Fd):Nat->Rat
 |0=>z
 |j+1=>D.G j
theorem b1x (h0:a1z m n D0) (hI:∀y c,Ids m n D0 y c↔Ids m n D y c) {i:Nat} (hi:i<m):∀l,l<n+1->uV n D0 (D.O i) l=i7 (fun k=>coV D i k*muF n D0 D k l) (n+1):=by
 intro l hl
 have h:=(hI _ _).1 (b5p h0 l hl) i hi
 rw [h,a20]
 show _=D.V i*a3S 0 l+i7 (fun j=>-(D.A i j)*uV n D0 (D.F j) l) n
 rw [d9 (f:=fun j=>-(D.A i j)*uV n D0 (D.F j) l) (g:=fun j=>(-1:Rat)*(D.A i j*uV n D0 (D.F j) l)) fun j hj=>by grind,I5]
 grind
theorem b6H (h0:a1z m n D0) (hI:∀y c,Ids m n D0 y c↔Ids m n D y c) {g0:Nat->Rat} {z:Rat} (hg:a0n n D g0 m z):∀l,l<n+1->uG g0 l=i7 (fun k=>coG z D k*muF n D0 D k l) (n+1):=by
 intro l hl
 have h:=hg _ _ ((hI _ _).1 (b5p h0 l hl))
 rw [a20]
 show _=z*a3S 0 l+i7 (fun j=>D.G j*uV n D0 (D.F j) l) n
 have e:i7 (fun j=>g0 j*uV n D0 j l) n=uG g0 l:=by
  cases l with
  |zero=>rw [s7 fun j hj=>by show g0 j*(if j<n then (0:Rat) else _)=0;rw [if_pos hj];grind];rfl
  |succ l=>
   rw [d9 (g:=fun j=>if j=l then g0 l else 0) fun j hj=>by
    show g0 j*(if j<n then (if j=l then (1:Rat) else 0) else _)=_
    rw [if_pos hj]
    by_cases h:j=l
    ·subst h;rw [if_pos rfl,if_pos rfl];grind
    ·rw [if_neg h,if_neg h];grind]
   rw [D9 (s:=l) (by omega),if_pos rfl,s7 fun j hj=>by
    by_cases h:j=l
    ·rw [if_pos h]
    ·rw [if_neg h,if_neg h]]
   show _=g0 l
   grind
 rw [← e,h]
 grind
theorem bc9 (h0:a1z m n D0) (hI:∀y c,Ids m n D0 y c↔Ids m n D y c) {i:Nat} (hi:i<m):I4 (n+1) (E7 (muF n D0 D) 0 (uV n D0 (D.O i)))=D.V i*I4 (n+1) (muF n D0 D):=af4 (b1x h0 hI hi) (j:=0) (by omega)
theorem b8k (h0:a1z m n D0) (hI:∀y c,Ids m n D0 y c↔Ids m n D y c) {i j:Nat} (hi:i<m) (hj:j<n):I4 (n+1) (E7 (muF n D0 D) (j+1) (uV n D0 (D.O i)))=-(D.A i j)*I4 (n+1) (muF n D0 D):=af4 (b1x h0 hI hi) (j:=j+1) (by omega)
theorem bb9 (h0:a1z m n D0) (hI:∀y c,Ids m n D0 y c↔Ids m n D y c) {g0:Nat->Rat} {z:Rat} (hg:a0n n D g0 m z) {j:Nat} (hj:j<n):I4 (n+1) (E7 (muF n D0 D) (j+1) (uG g0))=D.G j*I4 (n+1) (muF n D0 D):=af4 (b6H h0 hI hg) (j:=j+1) (by omega)
theorem b29 (h0:a1z m n D0):I4 (n+1) (muF n D0 D0)=1:=by
 rw [← b11 (n+1)]
 refine a1X fun i j hi hj=>?_
 cases i with
 |zero=>rfl
 |succ i=>
  show uV n D0 (D0.F i) j=_
  rw [h0.f i (by omega)]
  cases j with
  |zero=>show (if i<n then (0:Rat) else _)=_;rw [if_pos (by omega)];rfl
  |succ j=>
   show (if i<n then (if i=j then (1:Rat) else 0) else _)=_
   rw [if_pos (by omega)]
   unfold a3S
   by_cases h:i=j
   ·rw [if_pos h,if_pos (by omega)]
   ·rw [if_neg h,if_neg (by omega)]
theorem b3p (h0:a1z m n D0) (hI:∀y c,Ids m n D0 y c↔Ids m n D y c) {r s:Nat} (hr:r<m) (hs:s<n):I4 (n+1) (muF n D0 (D.exch r s))=-(D.A r s)*I4 (n+1) (muF n D0 D):=by
 rw [← b8k h0 hI hr hs]
 refine a1X fun i j hi hj=>?_
 cases i with
 |zero=>rfl
 |succ i=>
  show uV n D0 ((D.exch r s).F i) j=E7 (muF n D0 D) (s+1) (uV n D0 (D.O r)) (i+1) j
  rw [a1J]
  by_cases h:i=s
  ·subst h;rw [if_pos rfl,a0z]
  ·rw [if_neg h,Y2 (by omega)];rfl
end
theorem b4T {m n:Nat} {D0:Fd} {g0:Nat->Rat} (h0:a1z m n D0) (hv:a6g m n D0 g0 D0):∀{k:Nat} {D:Fd},itS m n k D0=some D->I4 (n+1) (muF n D0 D)≠0
 |0,D,h=>by injection h with h;subst h;rw [b29 h0];decide
 |k+1,D,h=>by
  rw [Z8] at h
  cases hk:itS m n k D0 with
  |none=>rw [hk] at h;cases h
  |some D1=>
   rw [hk] at h
   have h:H3 m n D1=some D:=h
   obtain ⟨r,s,hs,rfl⟩:=a6v h
   obtain ⟨h1,h2,h3⟩:=a5p hs
   have hp:=a7a h3
   rw [b3p h0 (a31 hv hk).i h1 h2]
   intro e
   rcases Rat.mul_eq_zero.1 e with e|e
   ·exact hp (by grind)
   ·exact b4T h0 hv hk e
def b6U (K:Rat) (M:Nat->Nat->Rat):Nat->Nat->Rat:=fun i j=>if j=0 then K*M i 0 else M i j
theorem b85 (n:Nat) (K:Rat) (M:Nat->Nat->Rat):I4 (n+1) (b6U K M)=K*I4 (n+1) M:=by
 rw [M7,M7,←I5]
 refine d9 fun i hi=>?_
 have e:z6 i (b6U K M)=z6 i M:=by
  funext a c;unfold z6 b6U;rw [if_neg (by omega)]
 rw [e]
 show a9i i*(if (0:Nat)=0 then K*M i 0 else _)*_=_
 rw [if_pos rfl];grind
theorem av5 {n:Nat} {M:Nat->Nat->Rat} {r:Nat} (hr:r<n) (h:∀c,c<n->M r c=0):I4 n M=0:=by
 have e:I4 n M=I4 n (E7 M r fun c=>(0:Rat)*0+0*0):=a1X fun i j hi hj=>by
  unfold E7
  by_cases hir:i=r
  ·subst hir;rw [if_pos rfl,h j hj];grind
  ·rw [if_neg hir]
 rw [e,a5g (v:=fun _=>0) (w:=fun _=>0) hr];grind
theorem b0u {n:Nat} {M:Nat->Nat->Rat} (h1:M 0 0=1) (h0:∀c,c<n->M 0 (c+1)=0):I4 (n+1) M=I4 n (z6 0 M):=by
 rw [M7,a20 (f:=fun i=>a9i i*M i 0*I4 n (z6 i M)),s7 fun i hi=>?_]
 ·have:a9i 0=1:=rfl
  rw [this,h1];grind
 ·rw [av5 (n:=n) (M:=z6 (i+1) M) (r:=0) (by omega) fun c hc=>by
   unfold z6;rw [if_pos (by omega)];exact h0 c hc]
  grind
structure b01 (m n K BV BA BG:Nat) (D0:Fd) (g0:Nat->Rat):Prop where
 k:0<K
 v:∀i,i<m->∃z:Int,(K:Rat)*D0.V i=((z:Int):Rat)∧z.natAbs<=BV
 a:∀i j,i<m->j<n->∃z:Int,D0.A i j=((z:Int):Rat)∧z.natAbs<=BA
 g:∀j,j<n->∃z:Int,g0 j=((z:Int):Rat)∧z.natAbs<=BG
 a1:1<=BA
 ag:BA<=BG
theorem ay1 {m n K BV BA BG:Nat} {D0:Fd} {g0:Nat->Rat} (h:b01 m n K BV BA BG D0 g0) {w l:Nat} (hw:w<n+m) (hl:l<n):∃z:Int,uV n D0 w (l+1)=((z:Int):Rat)∧z.natAbs<=BA:=by
 have:=h.a1
 show ∃z:Int,(if w<n then (if w=l then (1:Rat) else 0) else -(D0.A (w - n) l))=_∧_
 by_cases h1:w<n
 ·rw [if_pos h1]
  by_cases h2:w=l
  ·rw [if_pos h2];exact ⟨1,rfl,by simpa using this⟩
  ·rw [if_neg h2];exact ⟨0,rfl,by simp⟩
 ·rw [if_neg h1]
  obtain ⟨z,hz,hb⟩:=h.a (w - n) l (by omega) hl
  exact ⟨-z,by rw [hz];push_cast;rfl,by rw [Int.natAbs_neg];exact hb⟩
theorem b7I {m n K BV BA BG:Nat} {D0:Fd} {g0:Nat->Rat} (h:b01 m n K BV BA BG D0 g0) {w:Nat} (hw:w<n+m):∃z:Int,(K:Rat)*uV n D0 w 0=((z:Int):Rat)∧z.natAbs<=BV:=by
 show ∃z:Int,(K:Rat)*(if w<n then (0:Rat) else D0.V (w - n))=_∧_
 by_cases h1:w<n
 ·rw [if_pos h1];exact ⟨0,by show _=(0:Rat);grind,by simp⟩
 ·rw [if_neg h1];exact h.v _ (by omega)
theorem b6J {m n K BV BA BG:Nat} {D0 D:Fd} {g0:Nat->Rat} (h:b01 m n K BV BA BG D0 g0) (hf:∀j,j<n->D.F j<n+m):∃z:Int,I4 (n+1) (muF n D0 D)=((z:Int):Rat)∧z.natAbs<=a6R n fun _=>BA:=by
 rw [b0u (M:=muF n D0 D) rfl fun c hc=>rfl]
 refine a5h fun i j hi hj=>?_
 unfold z6
 rw [if_neg (by omega)]
 exact ay1 h (hf i hi) hj
theorem aG8 {m n K BV BA BG:Nat} {D0 D:Fd} {g0:Nat->Rat} (h:b01 m n K BV BA BG D0 g0) (hf:∀j,j<n->D.F j<n+m) {B:Nat} {u:Nat->Rat} (hB:BA<=B) (hu:∀l,l<n->∃z:Int,u (l+1)=((z:Int):Rat)∧z.natAbs<=B) (j:Nat):∃z:Int,I4 (n+1) (E7 (muF n D0 D) (j+1) u)=((z:Int):Rat)∧z.natAbs<=a6R n fun _=>B:=by
 rw [b0u (M:=E7 (muF n D0 D) (j+1) u) (by rw [Y2 (by omega)];rfl) fun c hc=>by rw [Y2 (by omega)];rfl]
 refine a5h fun i k hi hk=>?_
 have em:z6 0 (E7 (muF n D0 D) (j+1) u) i k=E7 (muF n D0 D) (j+1) u (i+1) (k+1):=by unfold z6;rw [if_neg (by omega)]
 rw [em]
 by_cases e:i+1=j+1
 ·rw [e,a0z];exact hu k hk
 ·rw [Y2 e]
  obtain ⟨z,hz,hb⟩:=ay1 h (hf i hi) hk
  exact ⟨z,hz,by omega⟩
theorem b3F {m n K BV BA BG:Nat} {D0 D:Fd} {g0:Nat->Rat} (h:b01 m n K BV BA BG D0 g0) (hf:∀j,j<n->D.F j<n+m) {w:Nat} (hw:w<n+m):∃z:Int,(K:Rat)*I4 (n+1) (E7 (muF n D0 D) 0 (uV n D0 w))=((z:Int):Rat)∧z.natAbs<=a6R (n+1) fun c=>if c=0 then BV else BA:=by
 rw [← b85]
 refine a5h fun i j hi hj=>?_
 have key:∀w,w<n+m->∃z:Int,(if j=0 then (K:Rat)*uV n D0 w 0 else uV n D0 w j)=((z:Int):Rat)∧z.natAbs<=if j=0 then BV else BA:=fun w hw=>by
  by_cases h1:j=0
  ·rw [if_pos h1,if_pos h1];exact b7I h hw
  ·rw [if_neg h1,if_neg h1]
   obtain ⟨l,rfl⟩:∃l,j=l+1:=⟨j - 1,by omega⟩
   exact ay1 h hw (by omega)
 unfold b6U E7
 cases i with
 |zero=>simp only [if_true];exact key w hw
 |succ i=>
  simp only [if_neg (show i+1≠0 by omega)]
  exact key (D.F i) (hf i (by omega))
theorem a9G {x:Rat} {p q:Int} (hq:q≠0) (h:((q:Int):Rat)*x=((p:Int):Rat)):rl x<=max (bl p) (bl q):=by
 have hqn:((q:Int):Rat)≠0:=by intro e;exact hq (by exact_mod_cast e)
 have e:x=Rat.divInt p q:=by
  rw [Rat.divInt_eq_div,←h]
  rw [Rat.mul_comm,Rat.div_def,Rat.mul_assoc,Rat.mul_inv_cancel _ hqn];grind
 rw [e];exact a1l hq
theorem a5Z {z:Int} {X k:Nat} (h:z.natAbs<=X) (hX:(X:Int)<pw k):bl z<=k:=P3 (by omega)
theorem aZ5 {m n K BV BA BG b:Nat} {D0 D:Fd} {g0:Nat->Rat} (h0:a1z m n D0) (h:b01 m n K BV BA BG D0 g0) (hv:a6g m n D0 g0 D0) (hD:V7 m n D0 D)
 (b1:((a6R (n+1) fun c=>if c=0 then BV else BA:Nat):Int)<pw b) (b2:((a6R n fun _=>BG:Nat):Int)<pw b) (b3:((K*a6R n fun _=>BA:Nat):Int)<pw b) (b4:((a6R n fun _=>BA:Nat):Int)<pw b):
 (∀ i,i<m->rl (D.V i)<=b)∧(∀ i j,i<m->j<n->rl (D.A i j)<=b)∧∀j,j<n->rl (D.G j)<=b:=by
 obtain ⟨k,hk⟩:=hD
 have hi:=a31 hv hk
 have hn:=b4T h0 hv hk
 obtain ⟨d,hd,hdb⟩:=b6J h (D:=D) hi.p.fb
 rw [hd] at hn
 have hd0:d≠0:=fun e=>hn (by rw [e];rfl)
 refine ⟨fun i him=>?_,fun i j him hj=>?_,fun j hj=>?_⟩
 ·obtain ⟨p,hp,hpb⟩:=b3F h (D:=D) hi.p.fb (hi.p.ob i him)
  rw [bc9 h0 hi.i him,hd] at hp
  have hK:=h.k
  have e:=a9G (x:=D.V i) (p:=p) (q:=(K:Int)*d) (by
   intro e
   rcases Int.mul_eq_zero.1 e with e|e
   ·omega
   ·exact hd0 e) (by rw [← hp];push_cast;grind)
  have q1:=a5Z hpb b1
  have q2:bl ((K:Int)*d)<=b:=a5Z (X:=K*a6R n fun _=>BA) (by rw [Int.natAbs_mul];exact lbS (by simp) hdb) b3
  omega
 ·obtain ⟨p,hp,hpb⟩:=aG8 h (D:=D) hi.p.fb (lbQ _) (u:=uV n D0 (D.O i)) (fun l hl=>ay1 h (hi.p.ob i him) hl) j
  rw [b8k h0 hi.i him hj,hd] at hp
  have e:=a9G (x:=-(D.A i j)) (p:=p) (q:=d) hd0 (by rw [← hp];grind)
  rw [S8] at e
  have q1:=a5Z hpb b4
  have q2:=a5Z hdb b4
  omega
 ·obtain ⟨z,hz⟩:=hi.g
  obtain ⟨p,hp,hpb⟩:=aG8 h (D:=D) hi.p.fb h.ag (u:=uG g0) (fun l hl=>h.g l hl) j
  rw [bb9 h0 hi.i hz hj,hd] at hp
  have e:=a9G (x:=D.G j) (p:=p) (q:=d) hd0 (by rw [← hp];grind)
  have q1:=a5Z hpb b2
  have q2:=a5Z hdb b4
  omega
end
inductive VY (H:Hp) (p:Nat->Prop):C->T->Prop
 |vc {x:C} {y:T} (h:VC H p x y):VY H p x y
 |own {id lo len:Nat} {app:Bool} {size:Nat} {k:Blk} {rows:List (List T)} (hp:p id) (hk:H[id]? =some k) (hd:¬k.mode.gone) (hs:k.size=size) (hl:rows.length=len)
   (hw:∀r ∈ rows,r.length=size) (g:Nat->Nat->C) (hc:∀i j c,at2 rows i j=some c->at2 k.rows (lo+i) j=some (g i j))
   (hx:∀i j c,at2 rows i j=some c->VY H p (g i j) c):VY H p (.own id lo len app) (.sl size .any rows)
 |ptr {id r o:Nat} {k:Blk} {row:List C} {cells:List T} (hp:p id) (hk:H[id]? =some k) (hd:¬k.mode.gone) (hr:k.rows[r]? =some row)
   (g:Nat->C) (hc:∀j c,cells[j]? =some c->row[o+j]? =some (g j)) (hx:∀j c,cells[j]? =some c->VY H p (g j) c):VY H p (.ptr id r o) (.ptr cells)
 |fn {f:Fn} {caps:List C} {caps':List T} (hl:caps.length=caps'.length) (g:Nat->C) (hc:∀j c,caps'[j]? =some c->caps[j]? =some (g j))
   (hx:∀j c,caps'[j]? =some c->VY H p (g j) c):VY H p (.fn f caps) (.fn f caps')
def VYL (H:Hp) (p:Nat->Prop):List C->List T->Prop
 |[],[]=>True
 |x::r,y::r'=>VY H p x y∧VYL H p r r'
 |_,_=>False
theorem VYL.get {H:Hp} {p:Nat->Prop}:∀{xs:List C} {ys:List T},VYL H p xs ys->xs.length=ys.length∧∀(j:Nat) (c:T),ys[j]? =some c->∃x,xs[j]? =some x∧VY H p x c
 |[],[],_=>⟨rfl,by simp⟩
 |x::xs,y::ys,h=>by
  obtain ⟨h1,h2⟩:=VYL.get h.2
  refine ⟨by simp [h1],fun j c hc=>?_⟩
  cases j with
  |zero=>simp at hc;subst hc;exact ⟨x,rfl,h.1⟩
  |succ j=>simpa using h2 j c (by simpa using hc)
 |[],_::_,h=>h.elim
 |_::_,[],h=>h.elim
theorem a6G {H:Hp} {p:Nat->Prop} {x:T}:VY H p (.t x) x:=.vc (aV3 (X7 x))
theorem b67 {H:Hp} {p:Nat->Prop}:∀ts:List T,VYL H p (ts.map C.t) ts
 |[]=>trivial
 |t::r=>⟨a6G,b67 r⟩
theorem a8D {H:Hp} {p:Nat->Prop} {id r o:Nat} {k:Blk} {row:List C} {cells:List T} (hp:p id) (hk:H[id]? =some k) (hd:¬k.mode.gone) (hr:k.rows[r]? =some row) (h:VYL H p (row.drop o) cells):VY H p (.ptr id r o) (.ptr cells):=by
 obtain ⟨h1,h2⟩:=h.get
 refine .ptr hp hk hd hr (fun j=>(row.drop o).getD j (.t (.ptr []))) (fun j c hc=>?_) (fun j c hc=>?_)
 ·obtain ⟨x,hx,_⟩:=h2 j c hc
  rw [lbj] at hx
  rw [lbl,lbj,hx];rfl
 ·obtain ⟨x,hx,hv⟩:=h2 j c hc
  rw [lbl,hx];exact hv
theorem b0R {H:Hp} {p:Nat->Prop} {f:Fn} {caps:List C} {caps':List T} (h:VYL H p caps caps'):VY H p (.fn f caps) (.fn f caps'):=by
 obtain ⟨h1,h2⟩:=h.get
 refine .fn h1 (fun j=>caps.getD j (.t (.ptr []))) (fun j c hc=>?_) (fun j c hc=>?_)
 ·obtain ⟨x,hx,_⟩:=h2 j c hc
  rw [lbl,hx];rfl
 ·obtain ⟨x,hx,hv⟩:=h2 j c hc
  rw [lbl,hx];exact hv
theorem b4L {H:Hp} {p:Nat->Prop} {id len size:Nat} {app:Bool} {k:Blk} {rows:List (List T)} (hp:p id) (hk:H[id]? =some k) (hd:¬k.mode.gone) (hs:k.size=size) (hl:rows.length=len)
 (hw:∀r ∈ rows,r.length=size) (h:∀(i:Nat) (r:List T),rows[i]? =some r->∃row,k.rows[i]? =some row∧VYL H p row r):VY H p (.own id 0 len app) (.sl size .any rows):=by
 have key:∀i j c,at2 rows i j=some c->∃x,at2 k.rows i j=some x∧VY H p x c:=fun i j c hc=>by
  obtain ⟨r,h1,h2⟩:=C1 hc
  obtain ⟨row,h3,h4⟩:=h i r h1
  obtain ⟨x,h5,h6⟩:=h4.get.2 j c h2
  exact ⟨x,B1 h3 h5,h6⟩
 refine .own hp hk hd hs hl hw (fun i j=>(at2 k.rows i j).getD (.t (.ptr []))) (fun i j c hc=>?_) (fun i j c hc=>?_)
 ·obtain ⟨x,hx,_⟩:=key i j c hc
  rw [Nat.zero_add,hx];rfl
 ·obtain ⟨x,hx,hv⟩:=key i j c hc
  rw [hx];exact hv
theorem VY.rt {H:Hp} {p:Nat->Prop} {w:World} {ι:Io} {M M':Ms} (hH:j8 w ι M H) (hM:∀b,M' b->M b) (hp:∀id k b cap size,p id->H[id]? =some k->¬k.mode.gone->ι id=some (.blk b cap size)->¬M' b)
 {x:C} {y:T} (h:VY H p x y):∀{v:Value},RC w ι M x v->RT w M' y v:=by
 induction h with
 |vc h=>intro v hr;exact VC.rt hH hM hp _ _ _ h hr
 |@own id lo len app size k rows hpi hk hd hs hl hw g hc hx ih=>
  intro v hr
  cases hr with
  |@own _ _ _ _ b cap sz A cap' hi q1 q2 q3 q4 q5=>
   subst hl
   have hbr:=hH.blk id k hk (fun e=>hd (by rw [e];trivial)) _ hi
   obtain ⟨r1,r2,r3,r4,r5,cur,r6,r7,r8⟩:=hbr
   have hnm:=hp id k b cap sz hpi hk hd hi
   have hse:sz=size:=by rw [← hs,r1]
   subst hse
   have hat:∀(i j:Nat) (c:T),at2 rows i j=some c->∃u,cur[(lo+i)*sz+j]? =some u∧RT w M' c u:=fun i j c hij=>by
    obtain ⟨u,t1,t2⟩:=r8 _ _ _ (hc i j c hij)
    exact ⟨u,t1,ih i j c hij t2⟩
   refine .sl (b:=b) (off:=lo*sz) (fun i j=>cur.getD ((lo+i)*sz+j) undef) hw q3 q4 (by intro h;cases h) (by intro h;cases h) (fun hne=>q2 (List.length_pos_iff.2 hne)) ?_ ?_
   ·intro i j c hc'
    obtain ⟨u,s1,s2⟩:=hat i j c hc'
    refine ⟨?_,hnm⟩
    have e:lo*sz+(i*sz+j)=(lo+i)*sz+j:=by rw [Nat.add_mul,Nat.add_assoc]
    simp only [World.cell?]
    rw [r6,e]
    simp [s1]
   ·intro i j c hc'
    obtain ⟨u,s1,s2⟩:=hat i j c hc'
    have:cur.getD ((lo+i)*sz+j) undef=u:=by simp [s1]
    rw [this];exact s2
  |nil hi=>
   have hr0:rows=[]:=lbF hl
   subst hr0
   exact .sl (b:=0) (off:=0) (fun _ _=>undef) (by simp) (by simp) (by unfold maxLen;omega) (by simp) (by simp) (by simp) (by simp [at2]) (by simp [at2])
 |@ptr id r o k row cells hpi hk hd hrow g hc hx ih=>
  intro v hr
  cases hr with
  |@ptr _ _ _ b cap size hi=>
   have hb:=(hH.blk id k hk (fun e=>hd (by rw [e];trivial)) _ hi).row hrow
   have hnm:=hp id k b cap size hpi hk hd hi
   refine .ptr (fun j=>(w.cell? ⟨b,r*size+o+j,none⟩).getD undef) (fun j c hj=>?_) (fun j c hj=>?_)
   ·obtain ⟨u,h1,h2⟩:=hb _ _ (hc j c hj)
    rw [Nat.add_assoc,h1]
    exact ⟨rfl,hnm⟩
   ·obtain ⟨u,h1,h2⟩:=hb _ _ (hc j c hj)
    rw [Nat.add_assoc,h1]
    exact ih j c hj h2
 |@fn f caps caps' hl g hc hx ih=>
  intro v hr
  cases hr with
  |fn vs hl' hr=>
   exact .fn vs (by omega) fun j c hj=>ih j c hj (hr j _ (hc j c hj))
def VYS (H:Hp) (p:Nat->Prop) (s s':S):Prop:=
 match s' with
 |.junk=>True
 |.c y=>match s,y with
  |.c x,.t y=>VY H p x y
  |_,_=>False
 |.agg ys=>match s with
  |.agg xs=>∃ts,ys=ts.map C.t∧VYL H p xs ts
  |_=>False
 |.tup _=>False
theorem VYS.rs {H:Hp} {p:Nat->Prop} {w:World} {ι ι':Io} {M M':Ms} (hH:j8 w ι M H) (hM:∀b,M' b->M b) (hp:∀id k b cap size,p id->H[id]? =some k->¬k.mode.gone->ι id=some (.blk b cap size)->¬M' b)
 {x y:S} {v:Value} (h:VYS H p x y) (hr:RS w ι M x v):RS w ι' M' y v:=by
 cases y with
 |junk=>exact .junk
 |c y=>
  cases x with
  |c x=>
   cases y with
   |t y=>
    cases hr with
    |c hr=>exact .c (.t (VY.rt hH hM hp h hr))
   |_=>exact False.elim h
  |_=>exact False.elim h
 |agg ys=>
  cases x with
  |agg xs=>
   obtain ⟨ts,rfl,h⟩:=h
   obtain ⟨h1,h2⟩:=h.get
   cases hr with
   |agg vs hl hr=>
    refine .agg vs (by simp;omega) fun j c hj=>?_
    rw [lba] at hj
    cases hj':ts[j]? with
    |none=>rw [hj'] at hj;cases hj
    |some c'=>
     rw [hj'] at hj
     injection hj with hj
     subst hj
     obtain ⟨x,hx,hv⟩:=h2 j c' hj'
     exact .t (VY.rt hH hM hp hv (hr j x hx))
  |_=>exact False.elim h
 |tup _=>exact False.elim h
def a2L (H:Hp) (p:Nat->Prop):List S->List S->Prop
 |[],[]=>True
 |s::r,s'::r'=>VYS H p s s'∧a2L H p r r'
 |_,_=>False
theorem a2L.get {H:Hp} {p:Nat->Prop}:∀{l l':List S},a2L H p l l'->l.length=l'.length∧∀(j:Nat) (s':S),l'[j]? =some s'->∃s,l[j]? =some s∧VYS H p s s'
 |[],[],_=>⟨rfl,by simp⟩
 |s::r,s'::r',h=>by
  obtain ⟨h1,h2⟩:=a2L.get h.2
  refine ⟨by simp [h1],fun j t ht=>?_⟩
  cases j with
  |zero=>simp at ht;subst ht;exact ⟨s,rfl,h.1⟩
  |succ j=>simpa using h2 j t (by simpa using ht)
 |[],_::_,h=>h.elim
 |_::_,[],h=>h.elim
theorem k8 {P:Program} {g:FuncId} {args args':List S} {H:Hp} {r:S} (h:b7 P g args' [] r []) (ha:a2L H (fun _=>True) args args') (hr:r.flat=true):Q6 P g args H r []:=by
 refine ⟨h.1,fun w ι M vals hl hv hH hM hf=>?_⟩
 obtain ⟨hlen,hget⟩:=a2L.get ha
 have:=h.2 w (fun _=>none) (fun _=>False) vals (by omega) (fun j s hj=>by
  obtain ⟨x,hx,hs⟩:=hget j s hj
  exact hs.rs hH (fun _ h=>h.elim) (fun _ _ _ _ _ _ _ _ _ h=>h) (hv j x hx))
  .none (fun _ h=>h.elim) (fun _ _=>rfl)
 refine Calls.mono this ?_
 rintro e w' ⟨v,rfl,ι',M',h1,h2,h3,h4,h5⟩
 exact ⟨v,rfl,I0.of_none (h1.flat hr) ⟨h5.os,h5.tape,h5.output,h5.size,fun b hb=>h5.keep b hb (by rintro ⟨id,k,_,_,hk,_⟩;simp at hk)⟩⟩
theorem aD1 {f:Nat->Nat->Rat} (m:Nat):∀n:Nat,i7 (fun i=>i7 (f i) m) n=i7 (fun j=>i7 (fun i=>f i j) n) m
 |0=>by
  show i7 _ 0=_
  rw [s7 (f:=fun j=>i7 (fun i=>f i j) 0) (n:=m) fun j hj=>by simp only [i7,O1]]
  simp only [i7,O1]
 |n+1=>by
  simp only [i7]
  rw [aD1 m n,←S0]
theorem a6J {n a:Nat} (ha:a<n) (v:Rat) (c:Nat->Rat):i7 (fun i=>(if a=i then v else 0)*c i) n=v*c a:=by
 rw [D9 ha,s7 fun j hj=>by
  by_cases h:j=a
  ·rw [if_pos h]
  ·rw [if_neg h,if_neg (fun e=>h e.symm)];grind]
 rw [if_pos rfl];grind
def p9 (s:g6) (i:Nat):k7:=s.rows.getD i ⟨[],2,0⟩
theorem U9 {s:g6} {i:Nat} {w:k7} (h:s.rows[i]? =some w):p9 s i=w:=by unfold p9;rw [lbl,h];rfl
def J9 (s:g6) (k:Nat):Nat × Bool:=(d6 s).getD k (0,false)
def chg (s:g6) (w:Nat) (p:Rat) (i:Nat):Rat:=if s.n.toNat<=w∧(J9 s (w - s.n.toNat)).1=i then -(V3 (J9 s (w - s.n.toNat)).2 p) else 0
def slV (s:g6) (w:Nat):Rat:=if s.n.toNat<=w then (f9 s []).V (w - s.n.toNat) else 0
def slA (s:g6) (l w:Nat):Rat:=if s.n.toNat<=w then (f9 s []).A (w - s.n.toNat) l else 0
theorem a5y {s:g6} {k:Nat} (hk:k<(d6 s).length):∃w,s.rows[(J9 s k).1]? =some w∧((J9 s k).2=false->w.kind≠0)∧((J9 s k).2=true->w.kind≠1):=by
 have:J9 s k ∈ d6 s:=by
  unfold J9
  rw [lbl,lbf hk]
  exact lbE _
 exact a0h.1 this
theorem aP5 {s:g6} {w:Nat} (hw:w<s.n.toNat+(d6 s).length) (p:Rat) (c:k7->Rat):
 i7 (fun i=>chg s w p i*c (p9 s i)) s.rows.length=if s.n.toNat<=w then -p*V3 (J9 s (w - s.n.toNat)).2 (c (p9 s (J9 s (w - s.n.toNat)).1)) else 0:=by
 by_cases h:s.n.toNat<=w
 ·rw [if_pos h]
  obtain ⟨x,hx,_⟩:=a5y (s:=s) (k:=w - s.n.toNat) (by omega)
  have hl:=(lbe.1 hx).1
  rw [d9 (g:=fun i=>(if (J9 s (w - s.n.toNat)).1=i then -(V3 (J9 s (w - s.n.toNat)).2 p) else 0)*c (p9 s i)) fun i hi=>by
   unfold chg
   by_cases h2:(J9 s (w - s.n.toNat)).1=i
   ·rw [if_pos ⟨h,h2⟩,if_pos h2]
   ·rw [if_neg (fun e=>h2 e.2),if_neg h2]]
  rw [a6J hl]
  cases (J9 s (w - s.n.toNat)).2 with
  |false=>rfl
  |true=>show -(-p)*_=-p*-_;grind
 ·rw [if_neg h]
  exact s7 fun i hi=>by unfold chg;rw [if_neg (fun e=>h e.1)];grind
theorem ay4 {s:g6} {w:Nat} (hw:w<s.n.toNat+(d6 s).length) (p:Rat):i7 (fun i=>chg s w p i*(p9 s i).value) s.rows.length=-p*slV s w:=by
 rw [aP5 hw p k7.value]
 unfold slV
 split
 ·rename_i h
  obtain ⟨x,hx,_⟩:=a5y (s:=s) (k:=w - s.n.toNat) (by omega)
  rw [U9 hx]
  have:(f9 s []).V (w - s.n.toNat)=V3 (J9 s (w - s.n.toNat)).2 x.value:=by show a3M s (J9 s (w - s.n.toNat))=_;unfold a3M;simp only [hx]
  rw [this]
 ·grind
theorem aA7 {s:g6} {w:Nat} (hw:w<s.n.toNat+(d6 s).length) (p:Rat) (l:Nat):i7 (fun i=>chg s w p i*C6 (p9 s i).terms l) s.rows.length=-p*slA s l w:=by
 rw [aP5 hw p (fun r=>C6 r.terms l)]
 unfold slA
 split
 ·rename_i h
  obtain ⟨x,hx,_⟩:=a5y (s:=s) (k:=w - s.n.toNat) (by omega)
  rw [U9 hx]
  have:(f9 s []).A (w - s.n.toNat) l=V3 (J9 s (w - s.n.toNat)).2 (C6 x.terms l):=by show a3H s (J9 s (w - s.n.toNat)) l=_;unfold a3H;simp only [hx]
  rw [this]
 ·grind
def yv (s:g6) (c:Rat) (t:Nat->Rat) (w:Nat):Rat:=if w<s.n.toNat then t w else c*(f9 s []).V (w - s.n.toNat) - i7 (fun l=>(f9 s []).A (w - s.n.toNat) l*t l) s.n.toNat
theorem ax1 {s:g6} {g:List (Int × Rat)} (c:Rat) (t:Nat->Rat):Ids (d6 s).length s.n.toNat (f9 s g) (yv s c t) c:=by
 intro i hi
 show yv s c t (s.n.toNat+i)=_
 unfold yv
 rw [if_neg (by omega),show s.n.toNat+i - s.n.toNat=i by omega]
 show c*(f9 s g).V i - _=c*(f9 s g).V i - _
 congr 1
 refine d9 fun j hj=>?_
 show _=(f9 s g).A i j*(if j<s.n.toNat then t j else _)
 rw [if_pos hj];rfl
theorem ab1 {s:g6} (w:Nat):yv s 1 (fun _=>0) w=slV s w:=by
 unfold yv slV
 by_cases h:w<s.n.toNat
 ·rw [if_pos h,if_neg (by omega)]
 ·rw [if_neg h,if_pos (by omega),s7 fun l hl=>by grind];grind
theorem aS3 {s:g6} {l:Nat} (hl:l<s.n.toNat) (w:Nat):yv s 0 (fun j=>if l=j then 1 else 0) w=(if l=w then 1 else 0) - slA s l w:=by
 unfold yv slA
 by_cases h:w<s.n.toNat
 ·rw [if_pos h,if_neg (show ¬s.n.toNat<=w by omega)];grind
 ·rw [if_neg h,if_pos (show s.n.toNat<=w by omega),if_neg (show ¬l=w by omega),d9 (g:=fun j=>(if l=j then (1:Rat) else 0)*(f9 s []).A (w - s.n.toNat) j) fun j hj=>by grind,a6J hl]
  grind
def N0 (s:g6) (y:Nat->Rat) (l:Nat):Rat:=i7 (fun i=>y i*C6 (p9 s i).terms l) s.rows.length
def a5I (s:g6) (y:Nat->Rat):Rat:=i7 (fun i=>y i*(p9 s i).value) s.rows.length
def a90 (s:g6) (y:Nat->Rat):Prop:=∀(i:Nat) (w:k7),s.rows[i]? =some w->(w.kind=0->0<=y i)∧(w.kind=1->y i<=0)
theorem ah9 {s:g6} {w:Nat} (hw:w<s.n.toNat+(d6 s).length) {p:Rat} (hp:0<=p):a90 s (chg s w p):=by
 intro i x hx
 unfold chg
 by_cases h:s.n.toNat<=w∧(J9 s (w - s.n.toNat)).1=i
 ·rw [if_pos h]
  obtain ⟨x',hx',h1,h2⟩:=a5y (s:=s) (k:=w - s.n.toNat) (by omega)
  rw [h.2,hx] at hx'
  injection hx' with hx'
  subst hx'
  cases hb:(J9 s (w - s.n.toNat)).2 with
  |false=>exact ⟨fun e=>absurd e (h1 hb),fun _=>by show -p<=0;grind⟩
  |true=>exact ⟨fun _=>by show 0<=-(-p);grind,fun e=>absurd e (h2 hb)⟩
 ·rw [if_neg h];exact ⟨fun _=>by grind,fun _=>by grind⟩
theorem af6 {s:g6} {f:Nat->Nat->Rat}:∀n:Nat,(∀ j,j<n->a90 s (f j))->a90 s (fun i=>i7 (fun j=>f j i) n)
 |0,_=>fun i w hw=>⟨fun _=>by simp only [i7,O1];grind,fun _=>by simp only [i7,O1];grind⟩
 |n+1,h=>fun i w hw=>by
  have h1:=af6 n (fun j hj=>h j (by omega)) i w hw
  have h2:=h n (by omega) i w hw
  simp only [i7]
  exact ⟨fun e=>by have:=h1.1 e;have:=h2.1 e;grind,fun e=>by have:=h1.2 e;have:=h2.2 e;grind⟩
theorem b6g {s:g6} {f g:Nat->Rat} (hf:a90 s f) (hg:a90 s g):a90 s (fun i=>f i+g i):=fun i w hw=>
 ⟨fun e=>by have:=(hf i w hw).1 e;have:=(hg i w hw).1 e;grind,fun e=>by have:=(hf i w hw).2 e;have:=(hg i w hw).2 e;grind⟩
def a3d (s:g6) (E:Fd) (i:Nat):Rat:=i7 (fun j=>chg s (E.F j) (-(E.G j)) i) s.n.toNat
def Z6 (s:g6) (E:Fd) (r i:Nat):Rat:=chg s (E.O r) 1 i+i7 (fun j=>chg s (E.F j) (E.A r j) i) s.n.toNat
theorem a49 {s:g6} {f:Nat->Nat->Rat} {c:Nat->Rat} {n R:Nat}:i7 (fun i=>i7 (fun j=>f j i) n*c i) R=i7 (fun j=>i7 (fun i=>f j i*c i) R) n:=by
 rw [← aD1]
 refine d9 fun i hi=>?_
 rw [d9 (f:=fun j=>f j i*c i) (g:=fun j=>c i*f j i) fun j hj=>by grind,I5];grind
structure b33 (s:g6) (g:Nat->Rat) (y:Nat->Rat) (v:Rat):Prop where
 sign:a90 s y
 mix:∀l,l<s.n.toNat->N0 s y l<=g l
 val:a5I s y=v
theorem b6a {s:g6} {g:List (Int × Rat)} (hr:i9 s=true) (hg:d8 (-1) ((s.n.toNat:Nat):Int) g=true) (h:U8 s g=.best):b33 s (C6 g) (a3d s (o9 s g)) (j1 g (H5 s g)):=by
 obtain ⟨hv,hgj⟩:=ao5 h
 have hi:=R4 (s:=s) (g:=g)
 obtain ⟨z,hz⟩:=hi.g
 have hF:∀j,j<s.n.toNat->(o9 s g).F j<s.n.toNat+(d6 s).length:=fun j hj=>hi.p.fb j hj
 refine ⟨af6 _ fun j hj=>ah9 (hF j hj) (by have:=hgj j hj;grind),fun l hl=>?_,?_⟩
 ·have h1:=hz _ _ ((hi.i _ 0).1 (ax1 (s:=s) (g:=g) 0 (fun j=>if l=j then 1 else 0)))
  rw [d9 (g:=fun j=>(if l=j then (1:Rat) else 0)*-(C6 g j)) fun j hj=>by unfold yv;rw [if_pos hj];grind,a6J hl] at h1
  unfold N0 a3d
  rw [a49 (s:=s),d9 (g:=fun j=>(o9 s g).G j*slA s l ((o9 s g).F j)) fun j hj=>by rw [aA7 (hF j hj)];grind]
  rw [d9 (g:=fun j=>(o9 s g).G j*(if l=(o9 s g).F j then 1 else 0)+(-1:Rat)*((o9 s g).G j*slA s l ((o9 s g).F j))) fun j hj=>by rw [aS3 hl];grind,S0,I5] at h1
  have h2:i7 (fun j=>(o9 s g).G j*(if l=(o9 s g).F j then (1:Rat) else 0)) s.n.toNat<=0:=a6P fun j hj=>by
   have:=hgj j hj
   split<;>grind
  grind
 ·have h1:=hz _ _ ((hi.i _ 1).1 (ax1 (s:=s) (g:=g) 1 (fun _=>0)))
  rw [s7 fun j hj=>by unfold yv;rw [if_pos hj];grind] at h1
  unfold a5I a3d
  rw [a49 (s:=s),d9 (g:=fun j=>(o9 s g).G j*slV s ((o9 s g).F j)) fun j hj=>by rw [ay4 (hF j hj)];grind]
  rw [d9 (g:=fun j=>(o9 s g).G j*slV s ((o9 s g).F j)) fun j hj=>by rw [ab1]] at h1
  obtain ⟨⟨y,k1,k2,k3,k4⟩,_⟩:=aD7 hi.p hz hv hgj
  have k1':=(hi.i y 1).2 k1
  have e:H5 s g=zOf s.n.toNat y:=by unfold H5;rw [k4]
  have h6:i7 (fun j=>-(C6 g j)*y j) s.n.toNat=-(j1 g (zOf s.n.toNat y)):=by
   rw [← aa4 hg]
   exact d9 fun j hj=>by rw [aS5 k1' j (by omega)]
  rw [e];rw [h6] at k3
  grind
theorem b7r {s:g6} {g:List (Int × Rat)} {r:Nat} (h:U8 s g=.row r):b33 s (fun _=>0) (Z6 s (o9 s g) r) (-((o9 s g).V r))∧(o9 s g).V r<0:=by
 obtain ⟨hr1,hv,ha⟩:=a4P h
 have hi:=R4 (s:=s) (g:=g)
 have hF:∀j,j<s.n.toNat->(o9 s g).F j<s.n.toNat+(d6 s).length:=fun j hj=>hi.p.fb j hj
 have hO:(o9 s g).O r<s.n.toNat+(d6 s).length:=hi.p.ob r hr1
 refine ⟨⟨b6g (ah9 hO (by decide +kernel)) (af6 _ fun j hj=>ah9 (hF j hj) (ha j hj)),fun l hl=>?_,?_⟩,hv⟩
 ·have h1:=((hi.i _ 0).1 (ax1 (s:=s) (g:=g) 0 (fun j=>if l=j then 1 else 0))) r hr1
  rw [aS3 hl,d9 (g:=fun j=>(o9 s g).A r j*(if l=(o9 s g).F j then 1 else 0)+(-1:Rat)*((o9 s g).A r j*slA s l ((o9 s g).F j))) fun j hj=>by rw [aS3 hl];grind,S0,I5] at h1
  have h2:0<=i7 (fun j=>(o9 s g).A r j*(if l=(o9 s g).F j then (1:Rat) else 0)) s.n.toNat:=a1D fun j hj=>by
   have:=ha j hj
   split<;>grind
  unfold N0 Z6
  rw [d9 (g:=fun i=>chg s ((o9 s g).O r) 1 i*C6 (p9 s i).terms l+i7 (fun j=>chg s ((o9 s g).F j) ((o9 s g).A r j) i) s.n.toNat*C6 (p9 s i).terms l) fun i hi=>by grind,S0,aA7 hO,a49 (s:=s),
   d9 (g:=fun j=>(-1:Rat)*((o9 s g).A r j*slA s l ((o9 s g).F j))) fun j hj=>by rw [aA7 (hF j hj)];grind,I5]
  have h3:(0:Rat)<=if l=(o9 s g).O r then 1 else 0:=by split<;>decide +kernel
  grind
 ·have h1:=((hi.i _ 1).1 (ax1 (s:=s) (g:=g) 1 (fun _=>0))) r hr1
  rw [ab1,d9 (g:=fun j=>(o9 s g).A r j*slV s ((o9 s g).F j)) fun j hj=>by rw [ab1]] at h1
  unfold a5I Z6
  rw [d9 (g:=fun i=>chg s ((o9 s g).O r) 1 i*(p9 s i).value+i7 (fun j=>chg s ((o9 s g).F j) ((o9 s g).A r j) i) s.n.toNat*(p9 s i).value) fun i hi=>by grind,S0,ay4 hO,a49 (s:=s),
   d9 (g:=fun j=>(-1:Rat)*((o9 s g).A r j*slV s ((o9 s g).F j))) fun j hj=>by rw [ay4 (hF j hj)];grind,I5]
  grind
theorem b1Q {s:g6} {g:List (Int × Rat)} {c y:Nat->Rat} {v:Rat} (h:b33 s c y v) {z:List Rat} (hz:i4 s z=true):v<=i7 (fun l=>c l*z.getD l 0) s.n.toNat:=by
 obtain ⟨hr,hl,hp,hw⟩:=N2.1 hz
 have hn:=O7 hr
 have h0:∀l,l<s.n.toNat->0<=z.getD l 0:=fun l hl'=>by
  rw [lbl,lbf (by omega)]
  exact hp _ (lbE _)
 have h1:i7 (fun l=>N0 s y l*z.getD l 0) s.n.toNat<=i7 (fun l=>c l*z.getD l 0) s.n.toNat:=by
  have:=a1D (f:=fun l=>(c l - N0 s y l)*z.getD l 0) (n:=s.n.toNat) fun l hl'=>lb0 (by have:=h.mix l hl';grind) (h0 l hl')
  rw [d9 (g:=fun l=>c l*z.getD l 0+(-1:Rat)*(N0 s y l*z.getD l 0)) fun l hl'=>by grind,S0,I5] at this
  grind
 have h2:i7 (fun l=>N0 s y l*z.getD l 0) s.n.toNat=i7 (fun i=>y i*j1 (p9 s i).terms z) s.rows.length:=by
  unfold N0
  rw [a49 (s:=s) (f:=fun i l=>y i*C6 (p9 s i).terms l)]
  refine d9 fun i hi=>?_
  have hx:s.rows[i]? =some (p9 s i):=by unfold p9;rw [lbl,lbf hi];rfl
  rw [M6 (a00 hr hx).1 z,←I5]
  exact d9 fun l hl=>by grind
 have h3:0<=i7 (fun i=>y i*(j1 (p9 s i).terms z - (p9 s i).value)) s.rows.length:=a1D fun i hi=>by
  have hx:s.rows[i]? =some (p9 s i):=by unfold p9;rw [lbl,lbf hi];rfl
  obtain ⟨_,k1,k2⟩:=a00 hr hx
  obtain ⟨s1,s2⟩:=h.sign i _ hx
  obtain ⟨b1,b2⟩:=hw _ (lbm hx)
  by_cases e0:(p9 s i).kind=0
  ·have:=b1 (by omega)
   exact lb0 (s1 e0) (by grind)
  ·by_cases e1:(p9 s i).kind=1
   ·have:=b2 e0
    have:=lb0 (show 0<=-(y i) by have:=s2 e1;grind) (show 0<=-(j1 (p9 s i).terms z - (p9 s i).value) by grind)
    grind
   ·have a1:=b1 e1
    have a2:=b2 e0
    have:j1 (p9 s i).terms z - (p9 s i).value=0:=by grind
    rw [this];grind
 rw [d9 (g:=fun i=>y i*j1 (p9 s i).terms z+(-1:Rat)*(y i*(p9 s i).value)) fun i hi=>by grind,S0,I5] at h3
 have h4:=h.val
 unfold a5I at h4
 grind
def rF (n:Nat) (g:Nat->Rat):List Fr:=(List.range n).map fun j=>fz (g j)
def mF (m n:Nat) (A:Nat->Nat->Rat):List (List Fr):=(List.range m).map fun i=>rF n (A i)
theorem a0Y (n:Nat) (g:Nat->Rat):(rF n g).length=n:=by simp [rF]
theorem b9 (m n:Nat) (A:Nat->Nat->Rat):(mF m n A).length=m:=by simp [mF]
theorem J2 {n:Nat} {g:Nat->Rat} {j:Nat} (h:j<n):(rF n g)[j]? =some (fz (g j)):=by simp [rF,h]
theorem P5 {m n:Nat} {A:Nat->Nat->Rat} {i:Nat} (h:i<m):(mF m n A)[i]? =some (rF n (A i)):=by simp [mF,h]
theorem Z0 {n:Nat} {g:Nat->Rat} {s:Nat} {v:Rat} (h:s<n):(rF n g).set s (fz v)=rF n (fun j=>if j=s then v else g j):=by
 apply List.ext_getElem?
 intro j
 by_cases hj:j<n
 ·rw [J2 hj,lbg,a0Y]
  by_cases hjm:s=j
  ·subst hjm;simp [h]
  ·rw [if_neg hjm,J2 hj,if_neg (by omega)]
 ·rw [lbd (by simp [a0Y];omega),lbd (by simp [a0Y];omega)]
theorem H9 {n:Nat} {g h:Nat->Rat} (e:∀j,j<n->g j=h j):rF n g=rF n h:=lbp fun j hj=>by rw [e j (lbB.1 hj)]
theorem aO2 {m n:Nat} {A B:Nat->Nat->Rat} (e:∀i,i<m->∀j,j<n->A i j=B i j):mF m n A=mF m n B:=lbp fun i hi=>H9 (e i (lbB.1 hi))
theorem b3K {m n:Nat} {A:Nat->Nat->Rat} {r:Nat} {g:Nat->Rat} (h:r<m):(mF m n A).set r (rF n g)=mF m n (fun i=>if i=r then g else A i):=by
 apply List.ext_getElem?
 intro j
 by_cases hj:j<m
 ·rw [P5 hj,lbg,b9]
  by_cases hjm:r=j
  ·subst hjm;simp [h]
  ·rw [if_neg hjm,P5 hj,if_neg (by omega)]
 ·rw [lbd (by simp [b9];omega),lbd (by simp [b9];omega)]
abbrev flB (l:List Fr):Blk:={ mode:=.live,elem:=35,size:=4,rows:=toC (l.map j5),box:=false }
theorem M4 {row:List Fr} {i n:Nat} {y:Fr} (h:n=i):q9 (flB row) ((toC (row.map j5)).set n (frC y))=flB (row.set i y):=by
 subst h
 unfold q9
 simp [toC,List.map_set,j5]
def Q5 (b m n:Nat) (V:Nat->Rat):List (List C):=(List.range m).map fun i=>frC (fz (V i))++[C.own (i+b) 0 n true]
def a0S (m:Nat) (O:Nat->Nat):List (List T):=(List.range m).map fun i=>[ti (O i)]
def a0b (l:List (Nat × Bool)):List (List T):=l.map fun f=>[ti f.1,tb f.2]
theorem D7 (b m n:Nat) (V:Nat->Rat):(Q5 b m n V).length=m:=by simp [Q5]
theorem x5 (m:Nat) (O:Nat->Nat):(a0S m O).length=m:=by simp [a0S]
theorem a2R {b m n:Nat} {V:Nat->Rat} {i:Nat} (h:i<m):(Q5 b m n V)[i]? =some (frC (fz (V i))++[C.own (i+b) 0 n true]):=by simp [Q5,h]
theorem a6T {m:Nat} {O:Nat->Nat} {i:Nat} (h:i<m):(a0S m O)[i]? =some [ti (O i)]:=by simp [a0S,h]
theorem b1L {b m n:Nat} {V:Nat->Rat} {r:Nat} {v:Rat} (h:r<m):(Q5 b m n V).set r (frC (fz v)++[C.own (r+b) 0 n true])=Q5 b m n (fun i=>if i=r then v else V i):=by
 apply List.ext_getElem?
 intro j
 by_cases hj:j<m
 ·rw [a2R hj,lbg,D7]
  by_cases hjm:r=j
  ·subst hjm;simp [h]
  ·rw [if_neg hjm,a2R hj,if_neg (by omega)]
 ·rw [lbd (by simp [D7];omega),lbd (by simp [D7];omega)]
theorem b5S {m:Nat} {O:Nat->Nat} {r v:Nat} (h:r<m):(a0S m O).set r [ti v]=a0S m (fun i=>if i=r then v else O i):=by
 apply List.ext_getElem?
 intro j
 by_cases hj:j<m
 ·rw [a6T hj,lbg,x5]
  by_cases hjm:r=j
  ·subst hjm;simp [h]
  ·rw [if_neg hjm,a6T hj,if_neg (by omega)]
 ·rw [lbd (by simp [x5];omega),lbd (by simp [x5];omega)]
abbrev b04 (m n k:Nat):Blk:={ mode:=.live,elem:=364,size:=6,rows:=[[C.t (ti n),.own 1 0 m true,.own 2 0 n true,.own 3 0 m true,.own 4 0 n true,.own 5 0 k true]],box:=true }
abbrev a0G (b m n:Nat) (V:Nat->Rat):Blk:={ mode:=.live,elem:=367,size:=5,rows:=Q5 b m n V,box:=false }
abbrev Y1 (m:Nat) (O:Nat->Nat):Blk:={ mode:=.live,elem:=3,size:=1,rows:=toC (a0S m O),box:=false }
abbrev a1v (l:List (Nat × Bool)):Blk:={ mode:=.live,elem:=413,size:=2,rows:=toC (a0b l),box:=false }
abbrev a02 (m n:Nat) (fr:List (Nat × Bool)) (D:Fd):Hp:=
 b04 m n fr.length::a0G 6 m n D.V::flB (rF n D.G)::Y1 m D.O::Y1 n D.F::a1v fr::(mF m n D.A).map flB
theorem a2Z {m n:Nat} {fr:List (Nat × Bool)} {D:Fd}:(a02 m n fr D).length=m+6:=by simp [b9]
theorem af8 {b m n N:Nat} {V:Nat->Rat} (h:m+b<=N):okB N (a0G b m n V):=by
 intro r hr c hc
 obtain ⟨i,hi,rfl⟩:=lbx.1 hr
 have:=lbB.1 hi
 simp [frC] at hc
 rcases hc with rfl|rfl|rfl|rfl|rfl<;>first|trivial|(simp only;omega)
theorem b1o {m n k N:Nat} (h:6<=N):okB N (b04 m n k):=by
 intro r hr c hc
 simp at hr
 subst hr
 simp at hc
 rcases hc with rfl|rfl|rfl|rfl|rfl|rfl<;>first|trivial|(simp only;omega)
theorem a7s {m n:Nat} {fr:List (Nat × Bool)} {D:Fd}:∀k ∈ a02 m n fr D,okB (m+6) k:=by
 intro k hk
 simp only [lbA] at hk
 rcases hk with rfl|rfl|rfl|rfl|rfl|rfl|hk
 ·exact b1o (by omega)
 ·exact af8 (lbQ _)
 ·exact E1 rfl
 ·exact E1 rfl
 ·exact E1 rfl
 ·exact E1 rfl
 ·obtain ⟨l,_,rfl⟩:=lbx.1 hk
  exact E1 rfl
theorem b0W (x:Rat):(fz x).p.sg=0↔x=0:=by
 show x.num.sign=0↔_
 rw [Int.sign_eq_zero_iff_zero,Rat.num_eq_zero]
theorem rl0:rl 0<=1:=by
 have h0:=Q3 (x:=0) (by decide) (by decide)
 have h1:=Q3 (x:=1) (by decide) (by decide)
 show max (bl 0) (bl 1)<=1
 omega
theorem rl1:rl 1<=1:=by
 have h1:=Q3 (x:=1) (by decide) (by decide)
 show max (bl 1) (bl 1)<=1
 omega
theorem b9D (x y:Rat) (hy:y≠0) (lx:rl x<=60000) (ly:rl y<=60000):b7 Tryz.prog 316 [frS (fz x),frS (fz y)] [] (.tup [frS (fz (x / y)),a8 .i64 0]) []:=by
 have r1:=J5 x (by omega)
 have r2:=J5 y (by omega)
 have x1:=J3 x
 have x2:=K0 x
 have y1:=J3 y
 have y2:=K0 y
 have hn:y.num≠0:=fun h=>hy (Rat.num_eq_zero.1 h)
 have hs:y.num.sign≠0:=fun h=>hn (Int.sign_eq_zero_iff_zero.1 h)
 have hsg:=b0W y
 have l1:=Y7 x.num y.den
 have l3:=Y7 x.den y.num
 have t1:=a1h x.num y.den (by omega) (by omega)
 have t3:=a1h x.den y.num (by omega) (by omega)
 have n:=av3 (x.num*y.den) (x.den*y.num) (Int.mul_ne_zero (aV1 x) hn) (by omega) (by omega)
 rw [← b6L] at n
 (refine ac Tryz.func316 ?_;(conv=>whnf);repeat (refine zy ?_;conv=>whnf))
 repeat' (first|refine zx ?_|refine qp r1 ?_|refine qp r2 ?_|refine qp t1 ?_|refine qp t3 ?_|refine qp n ?_|refine zd ?_ ?_<;>intro h<;>try omega|fail)<;>conv=>whnf
 all_goals first
  |(exfalso;simp_all;done)
  |exact a2y rfl
theorem a0Z (x:Rat) (lx:rl x<=60000):b7 Tryz.prog 62 [frS (fz x)] [] (frS (fz (-x))) []:=by
 have r1:=J5 x (by omega)
 have x1:=J3 x
 have x2:=K0 x
 have n:=a8l x.num (by omega)
 have s:=ad4 x.den (by omega)
 have e:fz (-x)=⟨bz (-x.num),bz x.den⟩:=rfl
 rw [e]
 (refine ac Tryz.func62 ?_;(conv=>whnf);repeat (refine zy ?_;conv=>whnf))
 repeat' (first|refine zx ?_|refine qp r1 ?_|refine qp n ?_|refine qp s ?_|refine zd ?_ ?_<;>intro h<;>try omega|fail)<;>conv=>whnf
 all_goals first
  |(exfalso;simp_all;done)
  |exact j3 ⟨rfl,rfl,rfl,rfl,trivial⟩
theorem ae6 (x:Rat):b7 Tryz.prog 294 [frS (fz x)] [] (f7 (decide (x=0))) []:=by
 have h:=b0W x
 (refine ac Tryz.func294 ?_;(conv=>whnf);repeat (refine zy ?_;conv=>whnf))
 repeat' (first|refine zx ?_|refine zd ?_ ?_<;>intro h<;>try omega|fail)<;>conv=>whnf
 all_goals (refine c9 ?_;simp_all)
theorem aX8 (a b c:Rat) (la:rl a<=60000) (lb:rl b<=30000) (lc:rl c<=30000):b7 Tryz.prog 295 [frS (fz a),frS (fz b),frS (fz c)] [] (frS (fz (a - b*c))) []:=by
 have z1:=ae6 b
 have z2:=ae6 c
 have m:=a3t b c (by omega) (by omega)
 have lm:=V8 b c
 have s:=aA1 a (b*c) la (by omega)
 by_cases hb:b=0
 ·have e:a - b*c=a:=by rw [hb];grind
  rw [e]
  (refine ac Tryz.func295 ?_;(conv=>whnf);repeat (refine zy ?_;conv=>whnf))
  repeat' (first|refine zx ?_|refine qp z1 ?_|refine qp z2 ?_|refine qp m ?_|refine qp s ?_|refine zd ?_ ?_<;>intro h<;>try omega|fail)<;>conv=>whnf
  all_goals first
   |(exfalso;simp_all;done)
   |exact j3 ⟨rfl,rfl,rfl,rfl,trivial⟩
 ·by_cases hc:c=0
  ·have e:a - b*c=a:=by rw [hc];grind
   rw [e]
   (refine ac Tryz.func295 ?_;(conv=>whnf);repeat (refine zy ?_;conv=>whnf))
   repeat' (first|refine zx ?_|refine qp z1 ?_|refine qp z2 ?_|refine qp m ?_|refine qp s ?_|refine zd ?_ ?_<;>intro h<;>try omega|fail)<;>conv=>whnf
   all_goals first
    |(exfalso;simp_all;done)
    |exact j3 ⟨rfl,rfl,rfl,rfl,trivial⟩
  ·(refine ac Tryz.func295 ?_;(conv=>whnf);repeat (refine zy ?_;conv=>whnf))
   repeat' (first|refine zx ?_|refine qp z1 ?_|refine qp z2 ?_|refine qp m ?_|refine qp s ?_|refine zd ?_ ?_<;>intro h<;>try omega|fail)<;>conv=>whnf
   all_goals first
    |(exfalso;simp_all;done)
    |exact j3 ⟨rfl,rfl,rfl,rfl,trivial⟩
theorem aR7 (a b:Rat) (hb:b≠0) (la:rl a<=60000) (lb:rl b<=60000):b7 Tryz.prog 293 [frS (fz a),frS (fz b)] [] (frS (fz (a / b))) []:=by
 have d:=b9D a b hb la lb
 (refine ac Tryz.func293 ?_;(conv=>whnf);repeat (refine zy ?_;conv=>whnf))
 repeat' (first|refine zx ?_|refine qp d ?_|refine zd ?_ ?_<;>intro h<;>try omega|fail)<;>conv=>whnf
 all_goals exact j3 ⟨rfl,rfl,rfl,rfl,trivial⟩
def tkF (a row:Nat->Rat) (s k:Nat):Nat->Rat:=fun j=>if j<k∧j≠s then a j - a s*row j else a j
def tkA (a row:Nat->Rat) (s:Nat):Nat->Rat:=fun j=>if j=s then 0 - a s*row s else a j - a s*row j
def pZ (k n:Nat):List Fr:=(List.range n).map fun j=>if j<k then fz 0 else I3
theorem ag6 (k n:Nat):(pZ k n).length=n:=by simp [pZ]
theorem a8t {k n j:Nat} (h:j<n):(pZ k n)[j]? =some (if j<k then fz 0 else I3):=by simp [pZ,h]
theorem b3l {k n:Nat} (h:k<n):(pZ k n).set k (fz 0)=pZ (k+1) n:=by
 apply List.ext_getElem?
 intro j
 by_cases hj:j<n
 ·rw [a8t hj,lbg,ag6]
  by_cases hjk:k=j
  ·subst hjk;simp [h]
  ·rw [if_neg hjk,a8t hj]
   have:(j<k+1)↔(j<k):=by omega
   simp only [this]
 ·rw [lbd (by simp [ag6];omega),lbd (by simp [ag6];omega)]
theorem b43 (n:Nat):pZ n n=rF n (fun _=>0):=lbp fun j hj=>by rw [if_pos (lbB.1 hj)]
theorem b7o (n:Nat) (hn:n<=1000):b7 Tryz.prog 241 [a8 .i64 n] [] (.c (.own 0 0 n true)) [flB (rF n fun _=>0)]:=by
 have i0:=D2 0 (by decide) (by decide)
 have hnn:(n:Int).toNat=n:=by omega
 (refine ac Tryz.func241 ?_;(conv=>whnf);repeat (refine zy ?_;conv=>whnf))
 repeat' (first|refine zx ?_|refine a5S (by omega) (by omega) (by omega) (by decide) ?_|refine zd ?_ ?_<;>intro h<;>try omega|fail)<;>conv=>whnf
 refine f8 c7 (fun k=>([a8 .i64 n,J,J,S.c (C.own 0 0 n true),J,J,J,J,a8 .i64 n,a8 .i64 k]++Jn 8,[flB (pZ k n)])) n (fun _=>True) [some 0] trivial
  ⟨rfl,rfl,⟨⟨rfl,rfl,rfl,.inr (a4E ?_ ?_)⟩,trivial⟩,⟨i5 rfl,⟨rfl,rfl,by omega,fun h=>h⟩,c6 (by omega),c6 rfl,trivial⟩⟩ ?_
 ·simp [J8,toC,ag6]
 ·intro i x y hx hy
  simp only [J8,lbk] at hx
  split at hx
  ·rename_i hi
   injection hx with hx
   subst hx
   have hy:(toC ((pZ 0 n).map j5))[i]? =some y:=hy
   rw [toC,lba,lba,a8t (by omega),if_neg (by omega)] at hy
   injection hy with hy
   subst hy
   exact ⟨rfl,rfl,rfl,rfl,trivial⟩
  ·cases hx
 intro k hk _
 by_cases hlt:k<n
 ·obtain ⟨pf,hpf⟩:∃pf,(pZ k n)[k]? =some pf:=⟨_,a8t hlt⟩
  have gp:(pZ k n)[0+(k:Int).toNat]? =some pf:=by rw [Nat.zero_add,show (k:Int).toNat=k by omega];exact hpf
  have eM:0+(k:Int).toNat=k:=by omega
  conv=>whnf
  repeat' (first|refine zx ?_|refine qp i0 ?_|refine p4 gp ?_|refine zd ?_ ?_<;>intro h<;>try omega|fail)<;>conv=>whnf
  all_goals first
   |omega
   |(refine ⟨hlt,trivial,[some 0],rfl,rfl,⟨b8 (rows:=(pZ (k+1) n).map j5) rfl rfl rfl ?_ rfl,trivial⟩,⟨rfl,⟨rfl,rfl,rfl,fun h=>h⟩,rfl,c6 (by omega),trivial⟩⟩
     have e:=M4 (row:=pZ k n) (y:=fz 0) eM
     rw [b3l hlt] at e
     exact congrArg Blk.rows e)
 ·have hke:k=n:=by omega
  subst hke
  conv=>whnf
  repeat' (first|refine zx ?_|refine zd ?_ ?_<;>intro h<;>try omega|fail)<;>conv=>whnf
  all_goals first
   |omega
   |exact ⟨[some 0],rfl,rfl,⟨b8 (rows:=(rF k fun _=>0).map j5) rfl rfl rfl (by rw [← b43]) rfl,trivial⟩,⟨rfl,rfl,rfl,fun h=>h⟩⟩
theorem b5I (a row:Nat->Rat) (s:Nat):tkF a row s 0=a:=by funext j;unfold tkF;rw [if_neg (by omega)]
theorem ba7 (a row:Nat->Rat) (s k:Nat):tkF a row s k k=a k:=by unfold tkF;rw [if_neg (by omega)]
theorem be3 (a row:Nat->Rat) (s k:Nat):tkF a row s k s=a s:=by unfold tkF;rw [if_neg (by omega)]
theorem b3I {a row:Nat->Rat} {s k:Nat} (h:k≠s):(fun j=>if j=k then a k - a s*row k else tkF a row s k j)=tkF a row s (k+1):=by
 funext j
 by_cases hj:j=k
 ·subst hj;rw [if_pos rfl];unfold tkF;rw [if_pos ⟨by omega,h⟩]
 ·rw [if_neg hj];unfold tkF
  have:(j<k∧j≠s)↔(j<k+1∧j≠s):=by omega
  simp only [this]
theorem b5x {a row:Nat->Rat} {s:Nat}:tkF a row s s=tkF a row s (s+1):=by
 funext j;unfold tkF
 have:(j<s∧j≠s)↔(j<s+1∧j≠s):=by omega
 simp only [this]
theorem b6F {a row:Nat->Rat} {s n:Nat}:rF n (fun j=>if j=s then 0 - a s*row s else tkF a row s n j)=rF n (tkA a row s):=H9 fun j hj=>by
 unfold tkA tkF
 by_cases h:j=s
 ·rw [if_pos h,if_pos h]
 ·rw [if_neg h,if_neg h,if_pos ⟨hj,h⟩]
abbrev frX (x:Rat):Blk:={ mode:=.live,elem:=35,size:=4,rows:=[frC (fz x)],box:=true }
theorem b9Q {ρ:List (Option Nat)} {H:Hp} (x:Rat):a1f ρ H (frX x) (frX x):=⟨rfl,rfl,rfl,.inl ⟨rfl,c8 [j5 (fz x)]⟩⟩
theorem b9q (n s:Nat) (a row:Nat->Rat) (hn:n<=1000) (hs:s<n) (ha:∀j,j<n->rl (a j)<=30000) (hr:∀j,j<n->rl (row j)<=30000):
 b7 Tryz.prog 296 [.c (.own 0 0 n true),.c (.own 1 0 n true),a8 .i64 s] [flB (rF n a),flB (rF n row)] (.tup []) [flB (rF n (tkA a row s)),flB (rF n row)]:=by
 have i0:=D2 0 (by decide) (by decide)
 have ls:=ha s hs
 have eS:0+(s:Int).toNat=s:=by omega
 have gs:(rF n a)[0+(s:Int).toNat]? =some (fz (a s)):=by rw [eS,J2 hs]
 (refine ac Tryz.func296 ?_;(conv=>whnf);repeat (refine zy ?_;conv=>whnf))
 repeat' (first|refine zx ?_|refine p4 gs ?_|refine zd ?_ ?_<;>intro h<;>try omega|fail)<;>conv=>whnf
 refine f8 c7 (fun k=>([S.c (C.own 0 0 n true),S.c (C.own 1 0 n true),a8 .i64 s,J,J,J,S.c (C.ptr 2 0 0),J,J,J,J,J,J,a8 .i64 n,a8 .i64 k]++Jn 29,[flB (rF n (tkF a row s k)),flB (rF n row),frX (a s)])) n (fun _=>True) [some 0,some 1,some 2] trivial
  ⟨rfl,rfl,⟨b8 (rows:=(rF n a).map j5) rfl rfl rfl rfl (by rw [b5I]),b8 rfl rfl rfl rfl rfl,b9Q _,trivial⟩,⟨⟨rfl,rfl,rfl,fun h=>h⟩,⟨rfl,rfl,rfl,fun h=>h⟩,rfl,⟨rfl,rfl,rfl⟩,c6 rfl,c6 rfl,trivial⟩⟩ ?_
 intro k hk _
 by_cases hlt:k<n
 ·have eM:0+(k:Int).toNat=k:=by omega
  have lk:=ha k hlt
  have lr:=hr k hlt
  have g1:(rF n (tkF a row s k))[0+(k:Int).toNat]? =some (fz (a k)):=by rw [eM,J2 hlt,ba7]
  have g2:(rF n row)[0+(k:Int).toNat]? =some (fz (row k)):=by rw [eM,J2 hlt]
  have le:=aX8 (a k) (a s) (row k) (by omega) (by omega) (by omega)
  by_cases hks:k=s
  ·subst hks
   conv=>whnf
   repeat' (first|refine zx ?_|refine qp le ?_|refine p4 g1 ?_|refine p4 g2 ?_|refine zd ?_ ?_<;>intro h<;>try omega|fail)<;>conv=>whnf
   all_goals first
    |omega
    |exact ⟨hlt,trivial,[some 0,some 1,some 2],rfl,rfl,⟨b8 (rows:=(rF n (tkF a row k k)).map j5) rfl rfl rfl rfl (by rw [b5x]),b8 rfl rfl rfl rfl rfl,b9Q _,trivial⟩,⟨⟨rfl,rfl,rfl,fun h=>h⟩,⟨rfl,rfl,rfl,fun h=>h⟩,rfl,⟨rfl,rfl,rfl⟩,c6 rfl,c6 rfl,trivial⟩⟩
  ·conv=>whnf
   repeat' (first|refine zx ?_|refine qp le ?_|refine p4 g1 ?_|refine p4 g2 ?_|refine zd ?_ ?_<;>intro h<;>try omega|fail)<;>conv=>whnf
   all_goals first
    |omega
    |(refine ⟨hlt,trivial,[some 0,some 1,some 2],rfl,rfl,⟨b8 (rows:=(rF n (tkF a row s (k+1))).map j5) rfl rfl rfl ?_ rfl,b8 rfl rfl rfl rfl rfl,b9Q _,trivial⟩,⟨⟨rfl,rfl,rfl,fun h=>h⟩,⟨rfl,rfl,rfl,fun h=>h⟩,rfl,⟨rfl,rfl,rfl⟩,c6 rfl,c6 rfl,trivial⟩⟩
      have e:=M4 (row:=rF n (tkF a row s k)) (y:=fz (a k - a s*row k)) eM
      rw [Z0 hlt,b3I hks] at e
      exact congrArg Blk.rows e)
 ·have hke:k=n:=by omega
  subst hke
  have g2:(rF k row)[0+(s:Int).toNat]? =some (fz (row s)):=by rw [eS,J2 hs]
  have lr:=hr s hs
  have le:=aX8 0 (a s) (row s) (by have:=rl0;omega) (by omega) (by omega)
  have le:b7 Tryz.prog 295 [frS (fz ((0:Int):Rat)),frS (fz (a s)),frS (fz (row s))] [] (frS (fz (0 - a s*row s))) []:=le
  conv=>whnf
  have g1:(rF k (tkF a row s k))[0+(s:Int).toNat]? =some (fz (a s)):=by rw [eS,J2 hs,be3]
  repeat' (first|refine zx ?_|refine qp i0 ?_|refine qp le ?_|refine p4 g2 ?_|refine p4 g1 ?_|refine zd ?_ ?_<;>intro h<;>try omega|fail)<;>conv=>whnf
  all_goals first
   |omega
   |(refine ⟨[some 0,some 1],rfl,rfl,⟨b8 (rows:=(rF k (tkA a row s)).map j5) rfl rfl rfl ?_ rfl,b8 rfl rfl rfl rfl rfl,trivial⟩,trivial⟩
     have e:=M4 (row:=rF k (tkF a row s k)) (y:=fz (0 - a s*row s)) eS
     rw [Z0 hs,b6F] at e
     exact congrArg Blk.rows e)
def leI:Option Nat->Int
 |none=>-1
 |some a=>a
theorem a5A (f:Nat->Nat) (p:Nat->Bool) (k:Nat):U1 f p (k+1)=match U1 f p k with
 |none=>if p k then some k else none
 |some a=>if p k && decide (f k<f a) then some k else some a:=rfl
theorem F9 {m:Nat} {f:Nat->Nat} {n:Int} {i:Nat} {K:List T->Prop} (e:n=i) (h:i<m) (k:K [ti (f i)]):∃row,0<=n∧(a0S m f)[n.toNat]? =some row∧K row:=by
 subst e;exact ⟨_,by omega,by rw [show (i:Int).toNat=i by omega,a6T h],k⟩
abbrev a6D (m:Nat) (f:Nat->Nat):S:=.c (.t (.sl 1 .any (a0S m f)))
set_option maxHeartbeats 1000000 in
theorem a5v (m:Nat) (hm:m<=100000) (f:Nat->Nat) (p:Nat->Bool) (g:FuncId) (caps:List T) (hg:∀i:Nat,i<m->b7 Tryz.prog g (a8 .i64 i::caps.map fun x=>.c (.t x)) [] (f7 (p i)) []):
 b7 Tryz.prog 243 [a6D m f,.c (.t (.fn (.func g) caps))] [] (a8 .i64 (leI (U1 f p m))) []:=by
 have m1:(a0S m f).length=m:=x5 m f
 (refine ac Tryz.func243 ?_;(conv=>whnf);repeat (refine zy ?_;conv=>whnf))
 repeat' (first|refine zx ?_|refine zd ?_ ?_<;>intro h<;>try omega|fail)<;>conv=>whnf
 refine f8 c7 (fun k=>([a6D m f,S.c (C.t (T.fn (.func g) caps)),J,J,J,a8 .i64 (leI (U1 f p k)),J,J,a6D m f,a8 .i64 m,a8 .i64 k]++Jn 22,[])) m (fun _=>True) [] trivial
  ⟨rfl,rfl,trivial,⟨i5 rfl,i5 rfl,c6 rfl,i5 rfl,c6 (by omega),c6 rfl,trivial⟩⟩ ?_
 intro k hk _
 by_cases hlt:k<m
 ·have hgr:=hg k hlt
  have ha:(a8 .i64 (k:Int)::caps.map fun x=>S.c (C.t x)).all S.isT=true:=by simp [S.isT,C.isT,a8]
  cases hp:p k with
  |false=>
   rw [hp] at hgr
   have e1:leI (U1 f p k)=leI (U1 f p (k+1)):=by
    rw [a5A,hp];cases U1 f p k<;>rfl
   conv=>whnf
   repeat' (first|refine zx ?_|refine .inl ⟨_,_,G5 hgr ha rfl,?_⟩|refine F9 rfl hlt ?_|refine zd ?_ ?_<;>intro h<;>try omega|fail)<;>conv=>whnf
   all_goals first
    |omega
    |exact ⟨hlt,trivial,[],rfl,rfl,trivial,⟨rfl,rfl,c6 e1,rfl,rfl,c6 rfl,trivial⟩⟩
  |true=>
   rw [hp] at hgr
   cases hl:U1 f p k with
   |none=>
    have hle:leI none=-1:=rfl
    have e1:(k:Int)=leI (U1 f p (k+1)):=by rw [a5A,hl,hp];rfl
    conv=>whnf
    repeat' (first|refine zx ?_|refine .inl ⟨_,_,G5 hgr ha rfl,?_⟩|refine F9 rfl hlt ?_|refine zd ?_ ?_<;>intro h<;>try omega|fail)<;>conv=>whnf
    all_goals first
     |omega
     |exact ⟨hlt,trivial,[],rfl,rfl,trivial,⟨rfl,rfl,c6 e1,rfl,rfl,c6 rfl,trivial⟩⟩
   |some b=>
    have hb:=(H8 hl).1
    have hle:leI (some b)=b:=rfl
    by_cases hc:f k<f b
    ·have e1:(k:Int)=leI (U1 f p (k+1)):=by rw [a5A,hl,hp];simp [hc,leI]
     conv=>whnf
     repeat' (first|refine zx ?_|refine .inl ⟨_,_,G5 hgr ha rfl,?_⟩|refine F9 rfl hlt ?_|refine F9 (i:=b) hle (by omega) ?_|refine zd ?_ ?_<;>intro h<;>try omega|fail)<;>conv=>whnf
     all_goals first
      |omega
      |exact ⟨hlt,trivial,[],rfl,rfl,trivial,⟨rfl,rfl,c6 e1,rfl,rfl,c6 rfl,trivial⟩⟩
    ·have e1:leI (some b)=leI (U1 f p (k+1)):=by rw [a5A,hl,hp];simp [hc,leI]
     conv=>whnf
     repeat' (first|refine zx ?_|refine .inl ⟨_,_,G5 hgr ha rfl,?_⟩|refine F9 rfl hlt ?_|refine F9 (i:=b) hle (by omega) ?_|refine zd ?_ ?_<;>intro h<;>try omega|fail)<;>conv=>whnf
     all_goals first
      |omega
      |exact ⟨hlt,trivial,[],rfl,rfl,trivial,⟨rfl,rfl,c6 e1,rfl,rfl,c6 rfl,trivial⟩⟩
 ·have hke:k=m:=by omega
  subst hke
  conv=>whnf
  repeat' (first|refine zx ?_|refine zd ?_ ?_<;>intro h<;>try omega|fail)<;>conv=>whnf
  all_goals first
   |omega
   |exact v8 rfl
def a91 (m n:Nat) (D:Fd):List (List T):=(List.range m).map fun i=>j5 (fz (D.V i))++[T.sl 4 .any ((rF n (D.A i)).map j5)]
def b88 (m n:Nat) (fr:List (Nat × Bool)) (D:Fd):List T:=[ti n,.sl 5 .any (a91 m n D),.sl 4 .any ((rF n D.G).map j5),.sl 1 .any (a0S m D.O),.sl 1 .any (a0S n D.F),.sl 2 .any (a0b fr)]
theorem a8A {m n:Nat} {D:Fd} {i:Nat} (h:i<m):(a91 m n D)[i]? =some (j5 (fz (D.V i))++[T.sl 4 .any ((rF n (D.A i)).map j5)]):=by simp [a91,h]
theorem a5f (m n:Nat) (D:Fd):(a91 m n D).length=m:=by simp [a91]
theorem a0Q {m n:Nat} {D:Fd} {x:Int} {i:Nat} {K:List T->Prop} (e:x=i) (h:i<m) (k:K (j5 (fz (D.V i))++[T.sl 4 .any ((rF n (D.A i)).map j5)])):∃row,0<=x∧(a91 m n D)[x.toNat]? =some row∧K row:=by
 subst e;exact ⟨_,by omega,by rw [show (i:Int).toNat=i by omega,a8A h],k⟩
theorem a4H {n:Nat} {g:Nat->Rat} {x:Int} {j:Nat} {K:List T->Prop} (e:x=j) (h:j<n) (k:K (j5 (fz (g j)))):∃row,0<=x∧((rF n g).map j5)[x.toNat]? =some row∧K row:=by
 subst e;exact ⟨_,by omega,by rw [show (j:Int).toNat=j by omega,lba,J2 h];rfl,k⟩
theorem b3S (x:Rat):(fz x).p.sg<0↔x<0:=by
 show x.num.sign<0↔_
 rw [ah8];unfold sgR;split<;>(try split)<;>simp_all
theorem b3U (x:Rat):(fz x).p.sg > 0↔0<x:=by
 show x.num.sign > 0↔_
 rw [ah8];unfold sgR
 split
 ·constructor
  ·intro h;omega
  ·intro h;grind
 ·split<;>simp_all
abbrev a6m (m n:Nat) (fr:List (Nat × Bool)) (D:Fd):T:=.ptr [.ptr (b88 m n fr D)]
theorem b2X (m n:Nat) (fr:List (Nat × Bool)) (D:Fd) (i:Nat) (hi:i<m):
 b7 Tryz.prog 244 (a8 .i64 i::[a6m m n fr D].map fun x=>.c (.t x)) [] (f7 (decide (D.V i<0))) []:=by
 have h:=b3S (D.V i)
 (refine ac Tryz.func244 ?_;(conv=>whnf);repeat (refine zy ?_;conv=>whnf))
 repeat' (first|refine zx ?_|refine a0Q rfl hi ?_|refine zd ?_ ?_<;>intro h<;>try omega|fail)<;>conv=>whnf
 all_goals (refine c9 ?_;simp_all)
theorem b2s (m n:Nat) (fr:List (Nat × Bool)) (D:Fd) (j:Nat) (hj:j<n):
 b7 Tryz.prog 245 (a8 .i64 j::[a6m m n fr D].map fun x=>.c (.t x)) [] (f7 (decide (0<D.G j))) []:=by
 have h:=b3U (D.G j)
 (refine ac Tryz.func245 ?_;(conv=>whnf);repeat (refine zy ?_;conv=>whnf))
 repeat' (first|refine zx ?_|refine a4H rfl hj ?_|refine zd ?_ ?_<;>intro h<;>try omega|fail)<;>conv=>whnf
 all_goals (refine c9 ?_;simp_all)
theorem ap0 (m n:Nat) (fr:List (Nat × Bool)) (D:Fd) (r j:Nat) (hr:r<m) (hj:j<n):
 b7 Tryz.prog 246 (a8 .i64 j::[a6m m n fr D,T.ptr [ti r]].map fun x=>.c (.t x)) [] (f7 (decide (D.A r j<0))) []:=by
 have h:=b3S (D.A r j)
 (refine ac Tryz.func246 ?_;(conv=>whnf);repeat (refine zy ?_;conv=>whnf))
 repeat' (first|refine zx ?_|refine a0Q rfl hr ?_|refine a4H rfl hj ?_|refine zd ?_ ?_<;>intro h<;>try omega|fail)<;>conv=>whnf
 all_goals (refine c9 ?_;simp_all)
theorem ao8 (m n:Nat) (fr:List (Nat × Bool)) (D:Fd) (i s:Nat) (hi:i<m) (hs:s<n):
 b7 Tryz.prog 247 (a8 .i64 i::[a6m m n fr D,T.ptr [ti s]].map fun x=>.c (.t x)) [] (f7 (decide (0<D.A i s))) []:=by
 have h:=b3U (D.A i s)
 (refine ac Tryz.func247 ?_;(conv=>whnf);repeat (refine zy ?_;conv=>whnf))
 repeat' (first|refine zx ?_|refine a0Q rfl hi ?_|refine a4H rfl hs ?_|refine zd ?_ ?_<;>intro h<;>try omega|fail)<;>conv=>whnf
 all_goals (refine c9 ?_;simp_all)
end Go.Proofs.YtaejgdbahjjncaaGreat
