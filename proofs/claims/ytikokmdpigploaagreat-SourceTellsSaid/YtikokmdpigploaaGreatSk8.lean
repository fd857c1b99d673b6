/- Part 8. -/
import Derived.Test.YtikokmdpigploaaGreatSk7
namespace Go.Proofs.YtikokmdpigploaaGreat
set_option linter.all false
set_option maxRecDepth 100000
set_option maxHeartbeats 8000000
open Go.RowKit
open St1 St2 St3 St4 St5 St6 St7 St8 StA StB StC
def J5 (l:List (Int × Rat)):Nat->Nat->Rat
 |0=>fun _=>0
 |k+1=>match l[k]? with
  |none=>J5 l k
  |some t=>fun j=>if j=t.1.toNat then t.2 else J5 l k j
def y5 (l:List (Int × Rat)):Nat->Rat:=J5 l l.length
def G0 {l:List (Int × Rat)} {k:Nat} {t:Int × Rat} (h:l[k]? =some t):J5 l (k+1)=fun j=>if j=t.1.toNat then t.2 else J5 l k j:=by rw [J5,h]
def a09 {l:List (Int × Rat)} {v:Nat}:∀k,(∀ i t,i<k->l[i]? =some t->t.1.toNat≠v)->J5 l k v=0
 |0,_=>rfl
 |k+1,h=>by
  have ih:=a09 (l:=l) (v:=v) k fun i t hi ht=>h i t om ht
  cases hk:l[k]? with
  |none=>rw [J5,hk];exact ih
  |some t=>
   rw [G0 hk];simp only;rw [if_neg (fun e=>h k t om hk e.symm),ih]
def v8:∀{last n:Int} {l:List (Int × Rat)},j2 last n l=true->∀t ∈ l,last<t.1∧t.1<n∧t.2≠0
 |_,_,[],_,t,ht=>by cases ht
 |last,n,a::r,h,t,ht=>by
  unfold j2 at h;simp only [lbM,lbH] at h;rcases lbz.1 ht with rfl|ht
  ·exact ⟨h.1.1.1,h.1.1.2,h.1.2⟩
  ·have:=v8 h.2 t ht;exact ⟨om,this.2⟩
def a2v:∀{last n:Int} {l:List (Int × Rat)},j2 last n l=true->∀(i j:Nat) (t u:Int × Rat),i<j->l[i]? =some t->l[j]? =some u->t.1<u.1
 |_,_,[],_,i,j,t,u,_,ht,_=>by simp at ht
 |last,n,a::r,h,i,j,t,u,hij,ht,hu=>by
  unfold j2 at h;simp only [lbM,lbH] at h;cases j with
  |zero=>omega
  |succ j=>
   simp only [List.getElem?_cons_succ] at hu;cases i with
   |zero=>
    simp only [List.getElem?_cons_zero] at ht;injection ht with ht;subst ht
    exact (v8 h.2 u (lbm hu)).1
   |succ i=>
    simp only [List.getElem?_cons_succ] at ht;exact a2v h.2 i j t u om ht hu
def a43 {α:Type} {l:List α} {k:Nat} {x:α} (h:l[k]? =some x):l.take (k+1)=l.take k++[x]:=by rw [lbF,h];rfl
def aX4 {n:Nat} {l:List (Int × Rat)} (h:j2 (-1) (n:Int) l=true) (z:List Rat):∀k,k<=l.length->m7 (l.take k) z=k8 (fun j=>J5 l k j*z.getD j 0) n
 |0,_=>by
  rw [ax9,v5 fun j hj=>by show (0:Rat)*_=0;grind]
  rfl
 |k+1,hk=>by
  have ih:=aX4 h z k om;obtain ⟨t,ht⟩:∃t,l[k]? =some t:=⟨_,lbf om⟩;have hm:=v8 h t (lbm ht);have hv:t.1.toNat<n:=om;have h0:J5 l k t.1.toNat=0:=a09 k fun i u hi hu=>by
   have:=a2v h i k u t hi hu ht;have h2:=v8 h u (lbm hu);omega
  rw [a43 ht,I6,ih,G0 ht];rw [D3 (f:=fun j=>(if j=t.1.toNat then t.2 else J5 l k j)*z.getD j 0) hv,D3 (f:=fun j=>J5 l k j*z.getD j 0) hv];simp only [if_true,h0];rw [k5 (f:=fun j=>if j=t.1.toNat then 0 else (if j=t.1.toNat then t.2 else J5 l k j)*z.getD j 0) (g:=fun j=>if j=t.1.toNat then 0 else J5 l k j*z.getD j 0) fun j hj=>by
   by_cases hj:j=t.1.toNat
   ·rw [if_pos hj,if_pos hj]
   ·rw [if_neg hj,if_neg hj,if_neg hj]]
  grind
def a3c {n:Nat} {l:List (Int × Rat)} (h:j2 (-1) (n:Int) l=true) (z:List Rat):m7 l z=k8 (fun j=>y5 l j*z.getD j 0) n:=by
 have:=aX4 h z l.length (lbQ _);rw [X7] at this;exact this
def F7 (s:i8):Nat->LB
 |0=>[]
 |k+1=>match s.rows[k]? with
  |none=>F7 s k
  |some w=>F7 s k++(if w.kind≠0 then [(k,false)] else [])++(if w.kind≠1 then [(k,true)] else [])
def f8 (s:i8):LB:=F7 s s.rows.length
def O4 (b:Bool) (x:Rat):Rat:=if b then -x else x
def a2K (s:i8) (f:Nat × Bool):Rat:=match s.rows[f.1]? with
 |none=>0
 |some w=>O4 f.2 w.value
def a1s (s:i8) (f:Nat × Bool) (j:Nat):Rat:=match s.rows[f.1]? with
 |none=>0
 |some w=>O4 f.2 (y5 w.terms j)
def j4 (s:i8) (g:List (Int × Rat)):Fd where
 V:=fun i=>a2K s ((f8 s).getD i (0,false))
 A:=fun i j=>a1s s ((f8 s).getD i (0,false)) j
 G:=fun j=>-(y5 g j)
 O:=fun i=>s.n.toNat+i
 F:=fun j=>j
def ay5 {s:i8} {f:Nat × Bool}:∀k,f ∈ F7 s k↔f.1<k∧∃w,s.rows[f.1]? =some w∧(f.2=false->w.kind≠0)∧(f.2=true->w.kind≠1)
 |0=>by simp [F7]
 |k+1=>by
  have ih:=ay5 (s:=s) (f:=f) k;unfold F7;cases hw:s.rows[k]? with
  |none=>
   simp only;rw [ih];constructor
   ·rintro ⟨h1,h2⟩;exact ⟨om,h2⟩
   ·rintro ⟨h1,w,h2,h3⟩;refine ⟨?_,w,h2,h3⟩;by_cases he:f.1=k
    ·rw [he,hw] at h2;cases h2
    ·omega
  |some w=>
   simp only;rw [lby,lby,ih];obtain ⟨a,b⟩:=f;simp only;constructor
   ·rintro ((⟨h1,h2⟩|h)|h)
    ·exact ⟨om,h2⟩
    ·split at h
     ·rename_i hk;simp at h;obtain ⟨rfl,rfl⟩:=h;exact ⟨om,w,hw,fun _=>hk,fun h=>by cases h⟩
     ·simp at h
    ·split at h
     ·rename_i hk;simp at h;obtain ⟨rfl,rfl⟩:=h;exact ⟨om,w,hw,fun h=>(by cases h),fun _=>hk⟩
     ·simp at h
   ·rintro ⟨h1,w',h2,h3,h4⟩;by_cases he:a=k
    ·subst he;rw [hw] at h2;injection h2 with h2;subst h2
     cases b with
     |false=>rw [if_pos (h3 rfl)];simp
     |true=>rw [if_pos (h4 rfl)];simp
    ·exact .inl (.inl ⟨om,w',h2,h3,h4⟩)
def S9 {s:i8} {f:Nat × Bool}:f ∈ f8 s↔∃w,s.rows[f.1]? =some w∧(f.2=false->w.kind≠0)∧(f.2=true->w.kind≠1):=by
 unfold f8;rw [ay5];constructor
 ·rintro ⟨_,h⟩;exact h
 ·rintro ⟨w,h⟩;exact ⟨(lbe.1 h.1).1,w,h⟩
def b0T {s:i8} {g:List (Int × Rat)}:R4 (f8 s).length s.n.toNat (j4 s g) where
 oi:=fun i i' _ _ h=>by have:s.n.toNat+i=s.n.toNat+i':=h;omega
 fi:=fun j j' _ _ h=>h
 of:=fun i j _ hj h=>by have:s.n.toNat+i=j:=h;omega
 all:=fun w hw=>by
  by_cases h:w<s.n.toNat
  ·exact .inr ⟨w,h,rfl⟩
  ·exact .inl ⟨w - s.n.toNat,om,by show s.n.toNat+(w - s.n.toNat)=w;omega⟩
 ob:=fun i hi=>by show s.n.toNat+i<_;omega
 fb:=fun j hj=>by show j<_;omega
def b05 {s:i8} {g:List (Int × Rat)}:Z5 s.n.toNat (j4 s g) (fun j=>-(y5 g j)) (f8 s).length 0:=by
 intro y c _;have:c*(0:Rat)=0:=zg;rw [this];have e:k8 (fun j=>(j4 s g).G j*y ((j4 s g).F j)) s.n.toNat=k8 (fun j=>-(y5 g j)*y j) s.n.toNat:=rfl;rw [e];grind
def a72 (s:i8) (g:List (Int × Rat)) (z:List Rat) (w:Nat):Rat:=if w<s.n.toNat then z.getD w 0 else (j4 s g).V (w - s.n.toNat) - k8 (fun j=>(j4 s g).A (w - s.n.toNat) j*z.getD j 0) s.n.toNat
def b39 {s:i8} {g:List (Int × Rat)} (z:List Rat):Ids (f8 s).length s.n.toNat (j4 s g) (a72 s g z) 1:=by
 intro i hi;show a72 s g z (s.n.toNat+i)=_;unfold a72;rw [if_neg om,show s.n.toNat+i - s.n.toNat=i by omega];have:(1:Rat)*(j4 s g).V i=(j4 s g).V i:=zg;rw [this]
 congr 1
 refine k5 fun j hj=>?_
 show _=(j4 s g).A i j*(if j<s.n.toNat then z.getD j 0 else _);rw [if_pos hj]
def aB0 {s:i8} {g:List (Int × Rat)} (hr:j6 s=true) {z:List Rat} {i:Nat} {f:Nat × Bool} {w:x4} (hf:(f8 s)[i]? =some f) (hw:s.rows[f.1]? =some w):a72 s g z (s.n.toNat+i)=O4 f.2 (w.value - m7 w.terms z):=by
 unfold a72;rw [if_neg om,show s.n.toNat+i - s.n.toNat=i by omega];have hfd:(f8 s).getD i (0,false)=f:=by rw [lbl,hf];rfl
 show a2K s ((f8 s).getD i (0,false)) - k8 (fun j=>a1s s ((f8 s).getD i (0,false)) j*z.getD j 0) s.n.toNat=_;rw [hfd];have hrow:u4 s.n w=true:=by
  unfold j6 at hr;simp only [lbM,lbH,lbv] at hr;exact hr.2 w (lbm hw)
 have hn:(s.n.toNat:Int)=s.n:=by
  unfold j6 at hr;simp only [lbM,lbH] at hr;omega
 unfold u4 at hrow;simp only [lbM,lbH] at hrow;have hrt:=hrow.1.1;rw [← hn] at hrt;have e1:a2K s f=O4 f.2 w.value:=by unfold a2K;rw [hw]
 have e2:∀j,a1s s f j=O4 f.2 (y5 w.terms j):=fun j=>by unfold a1s;rw [hw]
 rw [e1,a3c hrt z];cases hb:f.2 with
 |false=>
  rw [k5 (g:=fun j=>y5 w.terms j*z.getD j 0) fun j hj=>by rw [e2 j,hb];rfl]
  rfl
 |true=>
  rw [k5 (g:=fun j=>(-1:Rat)*(y5 w.terms j*z.getD j 0)) fun j hj=>by rw [e2 j,hb];show -(y5 w.terms j)*_=_;grind,I3];show -w.value - _=-(w.value - _);grind
theorem first_holds {s:i8} {g:List (Int × Rat)} (hr:j6 s=true) {z:List Rat} (hl:(z.length:Int)=s.n):j8 s z=true↔b44 (f8 s).length s.n.toNat (a72 s g z):=by
 have hn:z.length=s.n.toNat:=om;unfold j8;rw [hr,lbG hl];simp only [C2,lbM,lbv,lbH];constructor
 ·rintro ⟨h1,h2⟩ w hw;by_cases hv:w<s.n.toNat
  ·unfold a72;rw [if_pos hv,lbl,lbf om];exact h1 _ (lbD _)
  ·obtain ⟨i,rfl⟩:∃i,w=s.n.toNat+i:=⟨w - s.n.toNat,om⟩;have hi:i<(f8 s).length:=om;obtain ⟨f,hf⟩:∃f,(f8 s)[i]? =some f:=⟨_,lbf hi⟩;obtain ⟨x,hx,hk1,hk2⟩:=S9.1 (lbm hf);rw [aB0 hr hf hx];have hb:=h2 x (lbm hx);unfold S2 at hb;simp only [ar0,a4W,lbO,lbJ] at hb;cases hfb:f.2 with
   |false=>
    have:=hk1 hfb;show 0<=x.value - m7 x.terms z;rcases hb.2 with h|h
    ·grind
    ·exact absurd this h
   |true=>
    have:=hk2 hfb;show 0<=-(x.value - m7 x.terms z);rcases hb.1 with h|h
    ·grind
    ·exact absurd this h
 ·intro hp;refine ⟨fun v hv=>?_,fun x hx=>?_⟩
  ·obtain ⟨j,hj,rfl⟩:=a1k hv;have:=hp j om;unfold a72 at this;rw [if_pos om,lbl,lbf hj] at this;exact this
  ·obtain ⟨k,hk,hkx⟩:=a1k hx;have hxk:s.rows[k]? =some x:=by rw [lbf hk,hkx]
   have side:∀b:Bool,(b=false->x.kind≠0)->(b=true->x.kind≠1)->0<=O4 b (x.value - m7 x.terms z):=by
    intro b h1 h2;have hm:((k,b):Nat × Bool) ∈ f8 s:=S9.2 ⟨x,hxk,h1,h2⟩;obtain ⟨i,hi,hif⟩:=a1k hm;have hf:(f8 s)[i]? =some (k,b):=by rw [lbf hi,hif]
    have:=hp (s.n.toNat+i) om;rw [aB0 hr hf hxk] at this;exact this
   unfold S2;simp only [ar0,a4W,lbO,lbJ];constructor
   ·by_cases h:x.kind≠1
    ·left
     have:=side true (fun h=>by cases h) (fun _=>h);have h2:0<=-(x.value - m7 x.terms z):=this;grind
    ·right;exact h
   ·by_cases h:x.kind≠0
    ·left
     have:=side false (fun _=>h) (fun h=>by cases h);have h2:0<=x.value - m7 x.terms z:=this;grind
    ·right;exact h
def ad4 (x:Rat):((x.den:Int):Rat)*x=((x.num:Int):Rat):=by
 have hq:((x.den:Int):Rat)≠0:=by
  intro h;have:(x.den:Int)=0:=by exact_mod_cast h
  have:=x.den_pos;omega
 have h1:x=((x.num:Int):Rat) / ((x.den:Int):Rat):=by rw [← a7e,Rat.num_divInt_den]
 have h2:((x.den:Int):Rat)*(((x.num:Int):Rat) / ((x.den:Int):Rat))=((x.num:Int):Rat):=by
  rw [a8Z,ao6,a9g,Rat.inv_mul_cancel _ hq,Rat.mul_one]
 rw [← h1] at h2;exact h2
def a5c (B:Nat) (w:x4):Prop:=(∀ t ∈ w.terms,∃c:Int,t.2=((c:Int):Rat)∧bl c<=1)∧rl w.value<=B
def a19 {l:List (Int × Rat)} (h:∀t ∈ l,∃c:Int,t.2=((c:Int):Rat)∧bl c<=1):∀(k j:Nat),∃c:Int,J5 l k j=((c:Int):Rat)∧bl c<=1
 |0,j=>⟨0,rfl,p7 de de⟩
 |k+1,j=>by
  cases hk:l[k]? with
  |none=>rw [J5,hk];exact a19 h k j
  |some t=>
   rw [G0 hk];simp only;split
   ·exact h t (lbm hk)
   ·exact a19 h k j
def b3a {b:Bool} {x:Rat} {c:Int} (h:x=((c:Int):Rat)):∃c':Int,O4 b x=((c':Int):Rat)∧bl c'=bl c:=by
 cases b with
 |false=>exact ⟨c,h,rfl⟩
 |true=>exact ⟨-c,by show -x=_;rw [h];push_cast;rfl,a4u c⟩
def b3Q {s:i8} {g:List (Int × Rat)} {B:Nat} (hI:∀w ∈ s.rows,a5c B w):a6V (f8 s).length s.n.toNat (B+2) (j4 s g) where
 o:=fun i _=>rfl
 f:=fun j _=>rfl
 w:=fun i hi=>by
  obtain ⟨f,hf⟩:∃f,(f8 s)[i]? =some f:=⟨_,lbf hi⟩;obtain ⟨x,hx,_⟩:=S9.1 (lbm hf);obtain ⟨h1,h2⟩:=hI x (lbm hx);have hfd:(f8 s).getD i (0,false)=f:=by rw [lbl,hf];rfl
  have eV:(j4 s g).V i=O4 f.2 x.value:=by show a2K s ((f8 s).getD i (0,false))=_;rw [hfd];unfold a2K;rw [hx]
  have eA:∀j,(j4 s g).A i j=O4 f.2 (y5 x.terms j):=fun j=>by show a1s s ((f8 s).getD i (0,false)) j=_;rw [hfd];unfold a1s;rw [hx]
  have hc:∀j,∃c:Int,(j4 s g).A i j=((c:Int):Rat)∧bl c<=1:=fun j=>by
   obtain ⟨c,hc,hb⟩:=a19 h1 x.terms.length j;obtain ⟨c',hc',hb'⟩:=b3a (b:=f.2) (x:=y5 x.terms j) hc;exact ⟨c',by rw [eA,hc'],om⟩
  refine ⟨(x.value.den:Int),if f.2 then -x.value.num else x.value.num,fun j=>(x.value.den:Int)*Classical.choose (hc j),?_,?_,?_,fun j hj=>?_,?_,fun j hj=>?_⟩
  ·have:=x.value.den_pos;omega
  ·have:=D5 x.value;omega
  ·have:=E0 x.value;split
   ·rw [a4u];omega
   ·omega
  ·have hb:=(a2d (hc j)).2;have h3:=C8 (x.value.den:Int) (Classical.choose (hc j));have h4:=D5 x.value;have e5:bl ((x.value.den:Int)*Classical.choose (hc j))<=B+2:=om;exact e5
  ·rw [eV];cases hb:f.2 with
   |false=>exact ad4 x.value
   |true=>
    show _*(-x.value)=((-x.value.num:Int):Rat);have:=ad4 x.value;have e:((-x.value.num:Int):Rat)=-((x.value.num:Int):Rat):=by push_cast;rfl
    rw [e,←this];grind
  ·have hs:=(a2d (hc j)).1;conv=>lhs;rw [hs]
   push_cast;rfl
instance:Inhabited Fd:=⟨⟨fun _=>0,fun _ _=>0,fun _=>0,fun _=>0,fun _=>0⟩⟩
structure a4f (m n:Nat) (D0:Fd) (g0:Nat->Rat) (D:Fd):Prop where
 p:R4 m n D
 i:∀y c,Ids m n D0 y c↔Ids m n D y c
 g:∃z,Z5 n D g0 m z
def b6Y {m n r s:Nat} {D0 D:Fd} {g0:Nat->Rat} (h:a4f m n D0 g0 D) (hs:u9 m n D=.next r s):a4f m n D0 g0 (D.exch r s):=by
 obtain ⟨hr,hsn,hb⟩:=a3A hs;have hp:=a4a hb;obtain ⟨z,hz⟩:=h.g;exact ⟨aw0 hr hsn h.p,fun y c=>(h.i y c).trans (ak5 hr hsn hp),_,ay4 hr hsn hp hz⟩
def M6 (m n:Nat) (D0 D:Fd):Prop:=∃k,itS m n k D0=some D
def a76 {m n:Nat} {D0:Fd}:M6 m n D0 D0:=⟨0,rfl⟩
def a4k {m n:Nat} {D0 D D':Fd} (h:M6 m n D0 D) (hn:C5 m n D=some D'):M6 m n D0 D':=by
 obtain ⟨k,hk⟩:=h;exact ⟨k+1,by rw [a0q,hk];exact hn⟩
def W7 {m n:Nat} {D0:Fd} {g0:Nat->Rat} (h0:a4f m n D0 g0 D0):∀{k:Nat} {D:Fd},itS m n k D0=some D->a4f m n D0 g0 D
 |0,D,h=>by injection h with h;subst h;exact h0
 |k+1,D,h=>by
  rw [a0q] at h;cases hk:itS m n k D0 with
  |none=>rw [hk] at h;cases h
  |some D1=>
   rw [hk] at h;have h:C5 m n D1=some D:=h;obtain ⟨r,s,hs,rfl⟩:=a7i h;exact b6Y (W7 h0 hk) hs
def ak2 {m n:Nat} {D0:Fd} {k:Nat} (h:itS m n k D0=none):∀j,itS m n (k+j) D0=none
 |0=>h
 |j+1=>by rw [show k+(j+1)=(k+j)+1 by omega,a0q,ak2 h j];rfl
def b1a {m n:Nat} {D0 D D':Fd} (h:M6 m n D0 D) (hn:C5 m n D=none) (h':M6 m n D0 D') (hn':C5 m n D'=none):D=D':=by
 obtain ⟨k,hk⟩:=h;obtain ⟨l,hl⟩:=h';have a1:itS m n (k+1) D0=none:=by rw [a0q,hk];exact hn
 have a2:itS m n (l+1) D0=none:=by rw [a0q,hl];exact hn'
 have hkl:k=l:=by
  rcases aI0 k l with h|h|h
  ·have:=ak2 a1 (l - (k+1));rw [show k+1+(l - (k+1))=l by omega,hl] at this;cases this
  ·exact h
  ·have:=ak2 a2 (k - (l+1));rw [show l+1+(k - (l+1))=k by omega,hk] at this;cases this
 subst hkl;rw [hk] at hl;injection hl
def bj2 {m n:Nat} {D0:Fd} {g0:Nat->Rat} (h0:a4f m n D0 g0 D0):∃D,M6 m n D0 D∧C5 m n D=none:=by
 obtain ⟨k,hk,hmin⟩:=a42 (fun k=>itS m n k D0=none) (b6o h0.p h0.g);cases k with
 |zero=>cases hk
 |succ k=>
  cases hk':itS m n k D0 with
  |none=>have:=hmin k hk';omega
  |some D=>
   rw [a0q,hk'] at hk;exact ⟨D,⟨k,hk'⟩,hk⟩
noncomputable def a3K (m n:Nat) (D0:Fd):Fd:=Classical.epsilon fun D=>M6 m n D0 D∧C5 m n D=none
def a2w {m n:Nat} {D0:Fd} {g0:Nat->Rat} (h0:a4f m n D0 g0 D0):M6 m n D0 (a3K m n D0)∧C5 m n (a3K m n D0)=none:=aE4 (bj2 h0)
def b5V {m n:Nat} {D0 D:Fd} {g0:Nat->Rat} (h0:a4f m n D0 g0 D0) (h:M6 m n D0 D) (hn:C5 m n D=none):D=a3K m n D0:=b1a h hn (a2w h0).1 (a2w h0).2
def b9W {m n:Nat} {D0:Fd} {g0:Nat->Rat} (h0:a4f m n D0 g0 D0):a4f m n D0 g0 (a3K m n D0):=by
 obtain ⟨k,hk⟩:=(a2w h0).1;exact W7 h0 hk
def aw7 {m n:Nat} {D:Fd} (h:u9 m n D=.best):(∀ i,i<m->0<=D.V i)∧∀j,j<n->D.G j<=0:=by
 unfold u9 at h;split at h
 ·rename_i h1 h2;refine ⟨fun i hi=>?_,fun j hj=>?_⟩
  ·have:=a1a h1 i hi;simp at this;grind
  ·have:=a1a h2 j hj;simp at this;grind
 ·unfold U5 at h;split at h<;>cases h
 ·unfold U7 at h;split at h<;>cases h
 ·split at h
  ·unfold U5 at h;split at h<;>cases h
  ·unfold U7 at h;split at h<;>cases h
def aC2 {n r r':Nat} {D:Fd} (h:U5 n D r=.row r'):r'=r∧∀j,j<n->0<=D.A r j:=by
 unfold U5 at h;split at h
 ·rename_i h1;injection h with h;exact ⟨h.symm,fun j hj=>by have:=a1a h1 j hj;simp at this;grind⟩
 ·cases h
def aw4 {m s s':Nat} {D:Fd} (h:U7 m D s=.col s'):s'=s∧∀i,i<m->D.A i s<=0:=by
 unfold U7 at h;split at h
 ·rename_i h1;injection h with h;exact ⟨h.symm,fun i hi=>by have:=a1a h1 i hi;simp at this;grind⟩
 ·cases h
def a8y {m n r:Nat} {D:Fd} (h:u9 m n D=.row r):r<m∧D.V r<0∧∀j,j<n->0<=D.A r j:=by
 unfold u9 at h;split at h
 ·cases h
 ·rename_i r0 h1 h2;obtain ⟨rfl,h4⟩:=aC2 h;have h3:=B9 h1;exact ⟨h3.1,by simpa using h3.2.1,h4⟩
 ·unfold U7 at h;split at h<;>cases h
 ·rename_i r0 s0 h1 h2;split at h
  ·obtain ⟨rfl,h4⟩:=aC2 h;have h3:=B9 h1;exact ⟨h3.1,by simpa using h3.2.1,h4⟩
  ·unfold U7 at h;split at h<;>cases h
def a3L {m n s:Nat} {D:Fd} (h:u9 m n D=.col s):s<n∧0<D.G s∧∀i,i<m->D.A i s<=0:=by
 unfold u9 at h;split at h
 ·cases h
 ·unfold U5 at h;split at h<;>cases h
 ·rename_i s0 h1 h2;obtain ⟨rfl,h4⟩:=aw4 h;have h3:=B9 h2;exact ⟨h3.1,by simpa using h3.2.1,h4⟩
 ·rename_i r0 s0 h1 h2;split at h
  ·unfold U5 at h;split at h<;>cases h
  ·obtain ⟨rfl,h4⟩:=aw4 h;have h3:=B9 h2;exact ⟨h3.1,by simpa using h3.2.1,h4⟩
def b5H {m n:Nat} {D:Fd} (h:C5 m n D=none):u9 m n D=.best∨(∃ r,u9 m n D=.row r)∨∃s,u9 m n D=.col s:=by
 unfold C5 at h;cases hs:u9 m n D with
 |best=>exact .inl rfl
 |row r=>exact .inr (.inl ⟨r,rfl⟩)
 |col s=>exact .inr (.inr ⟨s,rfl⟩)
 |next r s=>rw [hs] at h;cases h
def zOf (n:Nat) (y:Nat->Rat):List Rat:=(List.range n).map y
def K2 {n:Nat} {y:Nat->Rat}:(zOf n y).length=n:=by simp [zOf]
def a7Q {n:Nat} {y:Nat->Rat} {j:Nat} (h:j<n):(zOf n y).getD j 0=y j:=by simp [zOf,lbl,h]
def a4q {n:Nat} {y:Nat->Rat} {v:Rat} (h:v ∈ zOf n y):∃j,j<n∧v=y j:=by
 obtain ⟨j,hj,rfl⟩:=lbw.1 h;exact ⟨j,lbA.1 hj,rfl⟩
def aZ9 {n:Nat} {l:List (Int × Rat)} (h:j2 (-1) (n:Int) l=true) (y:Nat->Rat):m7 l (zOf n y)=k8 (fun j=>y5 l j*y j) n:=by
 rw [a3c h];exact k5 fun j hj=>by rw [a7Q hj]
def Q9 {s:i8} (hr:j6 s=true):((s.n.toNat:Nat):Int)=s.n:=by
 unfold j6 at hr;simp only [lbM,lbH] at hr;omega
def a1A {s:i8} (hr:j6 s=true) {i:Nat} {w:x4} (hw:s.rows[i]? =some w):j2 (-1) ((s.n.toNat:Nat):Int) w.terms=true∧0<=w.kind∧w.kind<3:=by
 rw [Q9 hr];unfold j6 at hr;simp only [lbM,lbv] at hr;have:=hr.2 w (lbm hw);unfold u4 at this;simp only [lbM,lbH] at this;exact ⟨this.1.1,this.1.2,this.2⟩
def b8F {s:i8} {g:List (Int × Rat)} (hr:j6 s=true) {y:Nat->Rat} {c:Rat} (hy:Ids (f8 s).length s.n.toNat (j4 s g) y c) {i k:Nat} {b:Bool} {w:x4}
 (hf:(f8 s)[i]? =some (k,b)) (hw:s.rows[k]? =some w):y (s.n.toNat+i)=O4 b (c*w.value - m7 w.terms (zOf s.n.toNat y)):=by
 have hi:i<(f8 s).length:=(lbe.1 hf).1;have h1:y (s.n.toNat+i)=c*(j4 s g).V i - k8 (fun j=>(j4 s g).A i j*y j) s.n.toNat:=hy i hi;have hd:(f8 s).getD i (0,false)=(k,b):=by rw [lbl,hf];rfl
 have hV:(j4 s g).V i=O4 b w.value:=by show a2K s ((f8 s).getD i (0,false))=_;rw [hd];unfold a2K;simp only [hw]
 have hA:∀j,(j4 s g).A i j=O4 b (y5 w.terms j):=fun j=>by show a1s s ((f8 s).getD i (0,false)) j=_;rw [hd];unfold a1s;simp only [hw]
 rw [h1,hV,aZ9 (a1A hr hw).1];cases b with
 |false=>rw [k5 (g:=fun j=>y5 w.terms j*y j) fun j hj=>by rw [hA j];rfl];rfl
 |true=>
  rw [k5 (g:=fun j=>(-1:Rat)*(y5 w.terms j*y j)) fun j hj=>by rw [hA j];show -(y5 w.terms j)*_=_;grind,I3];show c*-w.value - _=-(c*w.value - _);grind
noncomputable def o6 (s:i8) (g:List (Int × Rat)):Fd:=a3K (f8 s).length s.n.toNat (j4 s g)
noncomputable def F5 (s:i8) (g:List (Int × Rat)):b6g:=u9 (f8 s).length s.n.toNat (o6 s g)
def T4 {s:i8} {g:List (Int × Rat)}:a4f (f8 s).length s.n.toNat (j4 s g) (fun j=>-(y5 g j)) (j4 s g):=⟨b0T,fun _ _=>Iff.rfl,0,b05⟩
def I0 {s:i8} {g:List (Int × Rat)}:a4f (f8 s).length s.n.toNat (j4 s g) (fun j=>-(y5 g j)) (o6 s g):=b9W T4
def a3C (s:i8) (g:List (Int × Rat)):F5 s g=.best∨(∃ r,F5 s g=.row r)∨∃c,F5 s g=.col c:=b5H (a2w T4).2
noncomputable def m8 (s:i8) (g:List (Int × Rat)):List Rat:=zOf s.n.toNat (J1 (f8 s).length s.n.toNat (o6 s g) 1 (fun _=>0))
noncomputable def a4h (s:i8) (g:List (Int × Rat)) (c:Nat):List Rat:=zOf s.n.toNat (J1 (f8 s).length s.n.toNat (o6 s g) 0 (fun j=>if j=c then 1 else 0))
def b0w {s:i8} {g:List (Int × Rat)} {y:Nat->Rat} (hy:Ids (f8 s).length s.n.toNat (j4 s g) y 1):∀w,w<s.n.toNat+(f8 s).length->a72 s g (zOf s.n.toNat y) w=y w:=by
 intro w hw;unfold a72;split
 ·rename_i h;exact a7Q h
 ·have h1:y (s.n.toNat+(w - s.n.toNat))=1*(j4 s g).V (w - s.n.toNat) - k8 (fun j=>(j4 s g).A (w - s.n.toNat) j*y j) s.n.toNat:=hy (w - s.n.toNat) om;rw [show s.n.toNat+(w - s.n.toNat)=w by omega] at h1;rw [h1,k5 (g:=fun j=>(j4 s g).A (w - s.n.toNat) j*y j) fun j hj=>by rw [a7Q hj]];grind
def b3A {s:i8} {g:List (Int × Rat)} (hr:j6 s=true) {y:Nat->Rat} (hy:Ids (f8 s).length s.n.toNat (j4 s g) y 1) (hp:b44 (f8 s).length s.n.toNat y):j8 s (zOf s.n.toNat y)=true:=by
 refine (first_holds (g:=g) hr (by rw [K2];exact Q9 hr)).2 fun w hw=>?_
 rw [b0w hy w hw];exact hp w hw
def W4 {s:i8} {z:List Rat} (h:j8 s z=true):j6 s=true∧(z.length:Int)=s.n:=by
 unfold j8 at h;simp only [lbM,lbH] at h;exact ⟨h.1.1.1,h.1.1.2⟩
def ah3 {s:i8} {g:List (Int × Rat)} (hg:j2 (-1) ((s.n.toNat:Nat):Int) g=true) (z:List Rat):k8 (fun j=>-(y5 g j)*a72 s g z j) s.n.toNat=-(m7 g z):=by
 rw [a3c hg z,k5 (g:=fun j=>(-1:Rat)*(y5 g j*z.getD j 0)) fun j hj=>by
  have:a72 s g z j=z.getD j 0:=by unfold a72;rw [if_pos hj]
  rw [this];grind,I3]
 grind
def a0h {s:i8} {g:List (Int × Rat)} (hr:j6 s=true) (hg:j2 (-1) ((s.n.toNat:Nat):Int) g=true) (h:F5 s g=.best):
 j8 s (m8 s g)=true∧∀z,j8 s z=true->m7 g (m8 s g)<=m7 g z:=by
 obtain ⟨hv,hgj⟩:=aw7 h;have hi:=I0 (s:=s) (g:=g);obtain ⟨v,hv'⟩:=hi.g;obtain ⟨⟨y,h1,h2,h3,h4⟩,h5⟩:=aP9 hi.p hv' hv hgj;have h1':=(hi.i y 1).2 h1;have e:m8 s g=zOf s.n.toNat y:=by unfold m8;rw [h4]
 rw [e];refine ⟨b3A hr h1' h2,fun z hz=>?_⟩;have hx:=h5 (a72 s g z) ((hi.i _ 1).1 (b39 z)) ((first_holds hr (W4 hz).2).1 hz);rw [ah3 hg z] at hx;have h6:k8 (fun j=>-(y5 g j)*y j) s.n.toNat=-(m7 g (zOf s.n.toNat y)):=by
  rw [← ah3 hg];exact k5 fun j hj=>by rw [b0w h1' j om]
 rw [h6] at h3;grind
def a7Z {s:i8} {g:List (Int × Rat)} {r:Nat} (h:F5 s g=.row r):∀z,j8 s z=false:=by
 intro z;cases hz:j8 s z with
 |false=>rfl
 |true=>
  obtain ⟨hr1,hv,ha⟩:=a8y h;have hi:=I0 (s:=s) (g:=g);exact absurd ((first_holds (W4 hz).1 (W4 hz).2).1 hz) (b8x hi.p hr1 hv ha (a72 s g z) ((hi.i _ 1).1 (b39 z)))
structure b6R (s:i8) (d:List Rat):Prop where
 len:d.length=s.n.toNat
 pos:∀v ∈ d,0<=v
 up:∀(k:Nat) (w:x4),s.rows[k]? =some w->w.kind≠0->m7 w.terms d<=0
 down:∀(k:Nat) (w:x4),s.rows[k]? =some w->w.kind≠1->0<=m7 w.terms d
def a7U {s:i8} {g:List (Int × Rat)} {c:Nat} (hr:j6 s=true) (hg:j2 (-1) ((s.n.toNat:Nat):Int) g=true) (h:F5 s g=.col c):b6R s (a4h s g c)∧m7 g (a4h s g c)<0:=by
 obtain ⟨hc,hgc,ha⟩:=a3L h;have hi:=I0 (s:=s) (g:=g);obtain ⟨v,hv⟩:=hi.g;obtain ⟨y,h1,h2,h3,h4⟩:=b8C hi.p hv hc hgc ha;have h1':=(hi.i y 0).2 h1;have e:a4h s g c=zOf s.n.toNat y:=by unfold a4h;rw [h4]
 rw [e];have side:∀(k:Nat) (w:x4) (b:Bool),s.rows[k]? =some w->(b=false->w.kind≠0)->(b=true->w.kind≠1)->0<=O4 b (-(m7 w.terms (zOf s.n.toNat y))):=by
  intro k w b hw hb1 hb2;have hm:((k,b):Nat × Bool) ∈ f8 s:=S9.2 ⟨w,hw,hb1,hb2⟩;obtain ⟨i,hil,hif⟩:=a1k hm;have hf:(f8 s)[i]? =some (k,b):=by rw [lbf hil,hif]
  have:=b8F hr h1' hf hw;have hp:=h2 (s.n.toNat+i) om;rw [this] at hp;have e2:(0:Rat)*w.value - m7 w.terms (zOf s.n.toNat y)=-(m7 w.terms (zOf s.n.toNat y)):=zg;rw [e2] at hp;exact hp
 refine ⟨⟨K2,fun v hv=>?_,fun k w hw hk=>?_,fun k w hw hk=>?_⟩,?_⟩
 ·obtain ⟨j,hj,rfl⟩:=a4q hv;exact h2 j om
 ·have:0<=-(m7 w.terms (zOf s.n.toNat y)):=side k w false hw (fun _=>hk) (fun h=>by cases h);grind
 ·have:0<=-(-(m7 w.terms (zOf s.n.toNat y))):=side k w true hw (fun h=>by cases h) (fun _=>hk);grind
 ·rw [aZ9 hg,k5 (g:=fun j=>(-1:Rat)*(-(y5 g j)*y j)) fun j hj=>by grind,I3];grind
def ab1 (x d:List Rat):List Rat:=List.zipWith (·+·) x d
def aU1 {x d:List Rat} {n:Nat} (hx:x.length=n) (hd:d.length=n):(ab1 x d).length=n:=by simp [ab1,hx,hd]
def b4n {x d:List Rat} {n j:Nat} (hx:x.length=n) (hd:d.length=n) (hj:j<n):(ab1 x d).getD j 0=x.getD j 0+d.getD j 0:=by
 simp only [ab1,lbl,List.getElem?_zipWith];rw [lbf (show j<x.length by omega),lbf (show j<d.length by omega)]
 rfl
def a9d {x d:List Rat} {n:Nat} {l:List (Int × Rat)} (hx:x.length=n) (hd:d.length=n) (h:j2 (-1) (n:Int) l=true):m7 l (ab1 x d)=m7 l x+m7 l d:=by
 rw [a3c h,a3c h,a3c h,←a4o];exact k5 fun j hj=>by rw [b4n hx hd hj];grind
def aB7 {s:i8} {z:List Rat} (h:j8 s z=true):∀v ∈ z,0<=v:=by
 unfold j8 at h;simp only [lbM,lbH,lbv] at h;exact h.1.2
def b6T {w:x4} {z:List Rat}:S2 w z=true↔(w.kind≠1->w.value<=m7 w.terms z)∧(w.kind≠0->m7 w.terms z<=w.value):=by
 unfold S2;simp only [ar0,a4W,lbO,lbJ,lb3];constructor
 ·rintro ⟨h1,h2⟩;exact ⟨fun h=>h1.elim id fun h'=>absurd h h',fun h=>h2.elim id fun h'=>absurd h h'⟩
 ·rintro ⟨h1,h2⟩;refine ⟨?_,?_⟩
  ·by_cases h:w.kind≠1
   ·exact .inl (h1 h)
   ·exact .inr h
  ·by_cases h:w.kind≠0
   ·exact .inl (h2 h)
   ·exact .inr h
def T5 {s:i8} {z:List Rat}:j8 s z=true↔j6 s=true∧(z.length:Int)=s.n∧(∀ v ∈ z,0<=v)∧∀w ∈ s.rows,(w.kind≠1->w.value<=m7 w.terms z)∧(w.kind≠0->m7 w.terms z<=w.value):=by
 unfold j8;simp only [lbM,lbH,lbv,b6T];constructor
 ·rintro ⟨⟨⟨h1,h2⟩,h3⟩,h4⟩;exact ⟨h1,h2,h3,h4⟩
 ·rintro ⟨h1,h2,h3,h4⟩;exact ⟨⟨⟨h1,h2⟩,h3⟩,h4⟩
def az6 {s:i8} {x d:List Rat} (hx:j8 s x=true) (hd:b6R s d):j8 s (ab1 x d)=true:=by
 obtain ⟨h1,h2,h3,h4⟩:=T5.1 hx;have hn:=Q9 h1;have hxl:x.length=s.n.toNat:=om;refine T5.2 ⟨h1,by rw [aU1 hxl hd.len];exact hn,fun v hv=>?_,fun w hw=>?_⟩
 ·obtain ⟨j,hj,rfl⟩:=a1k hv;rw [aU1 hxl hd.len] at hj;have h5:0<=x[j]:=h3 _ (lbD _);have h6:0<=d[j]'(by rw [hd.len];exact hj):=hd.pos _ (lbD _);simp only [ab1,List.getElem_zipWith];grind
 ·obtain ⟨k,hk,hkw⟩:=a1k hw;have hkw':s.rows[k]? =some w:=by rw [lbf hk,hkw]
  have h7:=a9d hxl hd.len (a1A h1 hkw').1;obtain ⟨h8,h9⟩:=h4 w hw;rw [h7];exact ⟨fun h=>by have:=h8 h;have:=hd.down k w hkw' h;grind,fun h=>by have:=h9 h;have:=hd.up k w hkw' h;grind⟩
theorem zk {p:Prop} (h:p:=by decide +kernel):p:=h
def b8s {s:i8} (hr:j6 s=true) {c:Nat}:F5 s []≠.col c:=fun h=>by
 have:=(a7U hr rfl h).2;have h2:m7 [] (a4h s [] c)=((0:Int):Rat):=rfl;rw [h2] at this;exact absurd this zk
def aP0 {f:Nat->Nat->Rat} (m:Nat):∀n:Nat,k8 (fun i=>k8 (f i) m) n=k8 (fun j=>k8 (fun i=>f i j) n) m
 |0=>by
  show k8 _ 0=_;rw [v5 (f:=fun j=>k8 (fun i=>f i j) 0) (n:=m) fun j hj=>by simp only [k8,Z0]];simp only [k8,Z0]
 |n+1=>by
  simp only [k8];rw [aP0 m n,←a4o]
def a56 {n a:Nat} (ha:a<n) (v:Rat) (c:Nat->Rat):k8 (fun i=>(if a=i then v else 0)*c i) n=v*c a:=by
 rw [D3 ha,v5 fun j hj=>by
  by_cases h:j=a
  ·rw [if_pos h]
  ·rw [if_neg h,if_neg (fun e=>h e.symm)];grind]
 rw [if_pos rfl];grind
def A6 (s:i8) (i:Nat):x4:=s.rows.getD i ⟨[],2,0⟩
def O3 {s:i8} {i:Nat} {w:x4} (h:s.rows[i]? =some w):A6 s i=w:=by unfold A6;rw [lbl,h];rfl
def F2 (s:i8) (k:Nat):Nat × Bool:=(f8 s).getD k (0,false)
def chg (s:i8) (w:Nat) (p:Rat) (i:Nat):Rat:=if s.n.toNat<=w∧(F2 s (w - s.n.toNat)).1=i then -(O4 (F2 s (w - s.n.toNat)).2 p) else 0
def slV (s:i8) (w:Nat):Rat:=if s.n.toNat<=w then (j4 s []).V (w - s.n.toNat) else 0
def slA (s:i8) (l w:Nat):Rat:=if s.n.toNat<=w then (j4 s []).A (w - s.n.toNat) l else 0
def a6v {s:i8} {k:Nat} (hk:k<(f8 s).length):∃w,s.rows[(F2 s k).1]? =some w∧((F2 s k).2=false->w.kind≠0)∧((F2 s k).2=true->w.kind≠1):=by
 have:F2 s k ∈ f8 s:=by
  unfold F2;rw [lbl,lbf hk];exact lbD _
 exact S9.1 this
def b03 {s:i8} {w:Nat} (hw:w<s.n.toNat+(f8 s).length) (p:Rat) (c:x4->Rat):
 k8 (fun i=>chg s w p i*c (A6 s i)) s.rows.length=if s.n.toNat<=w then -p*O4 (F2 s (w - s.n.toNat)).2 (c (A6 s (F2 s (w - s.n.toNat)).1)) else 0:=by
 by_cases h:s.n.toNat<=w
 ·rw [if_pos h];obtain ⟨x,hx,_⟩:=a6v (s:=s) (k:=w - s.n.toNat) om;have hl:=(lbe.1 hx).1;rw [k5 (g:=fun i=>(if (F2 s (w - s.n.toNat)).1=i then -(O4 (F2 s (w - s.n.toNat)).2 p) else 0)*c (A6 s i)) fun i hi=>by
   unfold chg;by_cases h2:(F2 s (w - s.n.toNat)).1=i
   ·rw [if_pos ⟨h,h2⟩,if_pos h2]
   ·rw [if_neg (fun e=>h2 e.2),if_neg h2]]
  rw [a56 hl];cases (F2 s (w - s.n.toNat)).2 with
  |false=>rfl
  |true=>show -(-p)*_=-p*-_;grind
 ·rw [if_neg h];exact v5 fun i hi=>by unfold chg;rw [if_neg (fun e=>h e.1)];grind
def b8A {s:i8} {w:Nat} (hw:w<s.n.toNat+(f8 s).length) (p:Rat):k8 (fun i=>chg s w p i*(A6 s i).value) s.rows.length=-p*slV s w:=by
 rw [b03 hw p x4.value];unfold slV;split
 ·rename_i h;obtain ⟨x,hx,_⟩:=a6v (s:=s) (k:=w - s.n.toNat) om;rw [O3 hx];have:(j4 s []).V (w - s.n.toNat)=O4 (F2 s (w - s.n.toNat)).2 x.value:=by show a2K s (F2 s (w - s.n.toNat))=_;unfold a2K;simp only [hx]
  rw [this]
 ·grind
def b9m {s:i8} {w:Nat} (hw:w<s.n.toNat+(f8 s).length) (p:Rat) (l:Nat):k8 (fun i=>chg s w p i*y5 (A6 s i).terms l) s.rows.length=-p*slA s l w:=by
 rw [b03 hw p (fun r=>y5 r.terms l)];unfold slA;split
 ·rename_i h;obtain ⟨x,hx,_⟩:=a6v (s:=s) (k:=w - s.n.toNat) om;rw [O3 hx];have:(j4 s []).A (w - s.n.toNat) l=O4 (F2 s (w - s.n.toNat)).2 (y5 x.terms l):=by show a1s s (F2 s (w - s.n.toNat)) l=_;unfold a1s;simp only [hx]
  rw [this]
 ·grind
def yv (s:i8) (c:Rat) (t:Nat->Rat) (w:Nat):Rat:=if w<s.n.toNat then t w else c*(j4 s []).V (w - s.n.toNat) - k8 (fun l=>(j4 s []).A (w - s.n.toNat) l*t l) s.n.toNat
def b5m {s:i8} {g:List (Int × Rat)} (c:Rat) (t:Nat->Rat):Ids (f8 s).length s.n.toNat (j4 s g) (yv s c t) c:=by
 intro i hi;show yv s c t (s.n.toNat+i)=_;unfold yv;rw [if_neg om,show s.n.toNat+i - s.n.toNat=i by omega];show c*(j4 s g).V i - _=c*(j4 s g).V i - _
 congr 1
 refine k5 fun j hj=>?_
 show _=(j4 s g).A i j*(if j<s.n.toNat then t j else _);rw [if_pos hj];rfl
def b53 {s:i8} (w:Nat):yv s 1 (fun _=>0) w=slV s w:=by
 unfold yv slV;by_cases h:w<s.n.toNat
 ·rw [if_pos h,if_neg om]
 ·rw [if_neg h,if_pos om,v5 fun l hl=>by grind];grind
def be5 {s:i8} {l:Nat} (hl:l<s.n.toNat) (w:Nat):yv s 0 (fun j=>if l=j then 1 else 0) w=(if l=w then 1 else 0) - slA s l w:=by
 unfold yv slA;by_cases h:w<s.n.toNat
 ·rw [if_pos h,if_neg (show ¬s.n.toNat<=w by omega)];grind
 ·rw [if_neg h,if_pos (show s.n.toNat<=w by omega),if_neg (show ¬l=w by omega),k5 (g:=fun j=>(if l=j then (1:Rat) else 0)*(j4 s []).A (w - s.n.toNat) j) fun j hj=>by grind,a56 hl];grind
def J4 (s:i8) (y:Nat->Rat) (l:Nat):Rat:=k8 (fun i=>y i*y5 (A6 s i).terms l) s.rows.length
def S6 (s:i8) (y:Nat->Rat):Rat:=k8 (fun i=>y i*(A6 s i).value) s.rows.length
def aT1 (s:i8) (y:Nat->Rat):Prop:=∀(i:Nat) (w:x4),s.rows[i]? =some w->(w.kind=0->0<=y i)∧(w.kind=1->y i<=0)
def b7a {s:i8} {w:Nat} (hw:w<s.n.toNat+(f8 s).length) {p:Rat} (hp:0<=p):aT1 s (chg s w p):=by
 intro i x hx;unfold chg;by_cases h:s.n.toNat<=w∧(F2 s (w - s.n.toNat)).1=i
 ·rw [if_pos h];obtain ⟨x',hx',h1,h2⟩:=a6v (s:=s) (k:=w - s.n.toNat) om;rw [h.2,hx] at hx';injection hx' with hx';subst hx';cases hb:(F2 s (w - s.n.toNat)).2 with
  |false=>exact ⟨fun e=>absurd e (h1 hb),fun _=>by show -p<=0;grind⟩
  |true=>exact ⟨fun _=>by show 0<=-(-p);grind,fun e=>absurd e (h2 hb)⟩
 ·rw [if_neg h];exact ⟨fun _=>by grind,fun _=>by grind⟩
def aV9 {s:i8} {f:Nat->Nat->Rat}:∀n:Nat,(∀ j,j<n->aT1 s (f j))->aT1 s (fun i=>k8 (fun j=>f j i) n)
 |0,_=>fun i w hw=>⟨fun _=>by simp only [k8,Z0];grind,fun _=>by simp only [k8,Z0];grind⟩
 |n+1,h=>fun i w hw=>by
  have h1:=aV9 n (fun j hj=>h j om) i w hw;have h2:=h n om i w hw;simp only [k8];exact ⟨fun e=>by have:=h1.1 e;have:=h2.1 e;grind,fun e=>by have:=h1.2 e;have:=h2.2 e;grind⟩
def D9 (s:i8) (E:Fd) (i:Nat):Rat:=k8 (fun j=>chg s (E.F j) (-(E.G j)) i) s.n.toNat
def a9Q (s:i8) (E:Fd) (r i:Nat):Rat:=chg s (E.O r) 1 i+k8 (fun j=>chg s (E.F j) (E.A r j) i) s.n.toNat
def ai1 {s:i8} {f:Nat->Nat->Rat} {c:Nat->Rat} {n R:Nat}:k8 (fun i=>k8 (fun j=>f j i) n*c i) R=k8 (fun j=>k8 (fun i=>f j i*c i) R) n:=by
 rw [← aP0];refine k5 fun i hi=>?_
 rw [k5 (f:=fun j=>f j i*c i) (g:=fun j=>c i*f j i) fun j hj=>by grind,I3];grind
structure bn6 (s:i8) (g:Nat->Rat) (y:Nat->Rat) (v:Rat):Prop where
 sign:aT1 s y
 mix:∀l,l<s.n.toNat->J4 s y l<=g l
 val:S6 s y=v
def b01 {s:i8} {g:List (Int × Rat)} (hr:j6 s=true) (hg:j2 (-1) ((s.n.toNat:Nat):Int) g=true) (h:F5 s g=.best):bn6 s (y5 g) (D9 s (o6 s g)) (m7 g (m8 s g)):=by
 obtain ⟨hv,hgj⟩:=aw7 h;have hi:=I0 (s:=s) (g:=g);obtain ⟨z,hz⟩:=hi.g;have hF:∀j,j<s.n.toNat->(o6 s g).F j<s.n.toNat+(f8 s).length:=fun j hj=>hi.p.fb j hj
 refine ⟨aV9 _ fun j hj=>b7a (hF j hj) (by have:=hgj j hj;grind),fun l hl=>?_,?_⟩
 ·have h1:=hz _ _ ((hi.i _ 0).1 (b5m (s:=s) (g:=g) 0 (fun j=>if l=j then 1 else 0)));rw [k5 (g:=fun j=>(if l=j then (1:Rat) else 0)*-(y5 g j)) fun j hj=>by unfold yv;rw [if_pos hj];grind,a56 hl] at h1;unfold J4 D9;rw [ai1 (s:=s),k5 (g:=fun j=>(o6 s g).G j*slA s l ((o6 s g).F j)) fun j hj=>by rw [b9m (hF j hj)];grind];rw [k5 (g:=fun j=>(o6 s g).G j*(if l=(o6 s g).F j then 1 else 0)+(-1:Rat)*((o6 s g).G j*slA s l ((o6 s g).F j))) fun j hj=>by rw [be5 hl];grind,a4o,I3] at h1;have h2:k8 (fun j=>(o6 s g).G j*(if l=(o6 s g).F j then (1:Rat) else 0)) s.n.toNat<=0:=a7H fun j hj=>by
   have:=hgj j hj;split<;>grind
  grind
 ·have h1:=hz _ _ ((hi.i _ 1).1 (b5m (s:=s) (g:=g) 1 (fun _=>0)));rw [v5 fun j hj=>by unfold yv;rw [if_pos hj];grind] at h1;unfold S6 D9;rw [ai1 (s:=s),k5 (g:=fun j=>(o6 s g).G j*slV s ((o6 s g).F j)) fun j hj=>by rw [b8A (hF j hj)];grind];rw [k5 (g:=fun j=>(o6 s g).G j*slV s ((o6 s g).F j)) fun j hj=>by rw [b53]] at h1;obtain ⟨⟨y,k1,k2,k3,k4⟩,_⟩:=aP9 hi.p hz hv hgj;have k1':=(hi.i y 1).2 k1;have e:m8 s g=zOf s.n.toNat y:=by unfold m8;rw [k4]
  have h6:k8 (fun j=>-(y5 g j)*y j) s.n.toNat=-(m7 g (zOf s.n.toNat y)):=by
   rw [← ah3 hg];exact k5 fun j hj=>by rw [b0w k1' j om]
  rw [e];rw [h6] at k3;grind
def rF (n:Nat) (g:Nat->Rat):List Fr:=(List.range n).map fun j=>fz (g j)
def mF (m n:Nat) (A:Nat->Nat->Rat):List (List Fr):=(List.range m).map fun i=>rF n (A i)
def L1 (n:Nat) (g:Nat->Rat):(rF n g).length=n:=by simp [rF]
def f7 (m n:Nat) (A:Nat->Nat->Rat):(mF m n A).length=m:=by simp [mF]
def G4 {n:Nat} {g:Nat->Rat} {j:Nat} (h:j<n):(rF n g)[j]? =some (fz (g j)):=by simp [rF,h]
def U0 {m n:Nat} {A:Nat->Nat->Rat} {i:Nat} (h:i<m):(mF m n A)[i]? =some (rF n (A i)):=by simp [mF,h]
def X6 {n:Nat} {g:Nat->Rat} {s:Nat} {v:Rat} (h:s<n):(rF n g).set s (fz v)=rF n (fun j=>if j=s then v else g j):=by
 apply a0A;intro j;by_cases hj:j<n
 ·rw [G4 hj,lbg,L1];by_cases hjm:s=j
  ·subst hjm;simp [h]
  ·rw [if_neg hjm,G4 hj,if_neg om]
 ·rw [lbd (by simp [L1];omega),lbd (by simp [L1];omega)]
def B6 {n:Nat} {g h:Nat->Rat} (e:∀j,j<n->g j=h j):rF n g=rF n h:=lbp fun j hj=>by rw [e j (lbA.1 hj)]
def aY9 {m n:Nat} {A B:Nat->Nat->Rat} (e:∀i,i<m->∀j,j<n->A i j=B i j):mF m n A=mF m n B:=lbp fun i hi=>B6 (e i (lbA.1 hi))
def b4X {m n:Nat} {A:Nat->Nat->Rat} {r:Nat} {g:Nat->Rat} (h:r<m):(mF m n A).set r (rF n g)=mF m n (fun i=>if i=r then g else A i):=by
 apply a0A;intro j;by_cases hj:j<m
 ·rw [U0 hj,lbg,f7];by_cases hjm:r=j
  ·subst hjm;simp [h]
  ·rw [if_neg hjm,U0 hj,if_neg om]
 ·rw [lbd (by simp [f7];omega),lbd (by simp [f7];omega)]
abbrev flB (l:List Fr):Blk:={ mode:=.live,elem:=86,size:=4,rows:=toC (l.map o4),box:=false }
def J9 {row:List Fr} {i n:Nat} {y:Fr} (h:n=i):y6 (flB row) ((toC (row.map o4)).set n (frC y))=flB (row.set i y):=by
 subst h;unfold y6;simp [toC,a59,o4]
def V8 (b m n:Nat) (V:Nat->Rat):List (List C):=(List.range m).map fun i=>frC (fz (V i))++[C.own (i+b) 0 n true]
def U8 (m:Nat) (O:Nat->Nat):List (List T):=(List.range m).map fun i=>[ti (O i)]
def a0y (l:LB):List (List T):=l.map fun f=>[ti f.1,tb f.2]
def E4 (b m n:Nat) (V:Nat->Rat):(V8 b m n V).length=m:=by simp [V8]
def m6 (m:Nat) (O:Nat->Nat):(U8 m O).length=m:=by simp [U8]
def a3k {b m n:Nat} {V:Nat->Rat} {i:Nat} (h:i<m):(V8 b m n V)[i]? =some (frC (fz (V i))++[C.own (i+b) 0 n true]):=by simp [V8,h]
def a7L {m:Nat} {O:Nat->Nat} {i:Nat} (h:i<m):(U8 m O)[i]? =some [ti (O i)]:=by simp [U8,h]
def b3p {b m n:Nat} {V:Nat->Rat} {r:Nat} {v:Rat} (h:r<m):(V8 b m n V).set r (frC (fz v)++[C.own (r+b) 0 n true])=V8 b m n (fun i=>if i=r then v else V i):=by
 apply a0A;intro j;by_cases hj:j<m
 ·rw [a3k hj,lbg,E4];by_cases hjm:r=j
  ·subst hjm;simp [h]
  ·rw [if_neg hjm,a3k hj,if_neg om]
 ·rw [lbd (by simp [E4];omega),lbd (by simp [E4];omega)]
def b7f {m:Nat} {O:Nat->Nat} {r v:Nat} (h:r<m):(U8 m O).set r [ti v]=U8 m (fun i=>if i=r then v else O i):=by
 apply a0A;intro j;by_cases hj:j<m
 ·rw [a7L hj,lbg,m6];by_cases hjm:r=j
  ·subst hjm;simp [h]
  ·rw [if_neg hjm,a7L hj,if_neg om]
 ·rw [lbd (by simp [m6];omega),lbd (by simp [m6];omega)]
abbrev b1R (m n k:Nat):Blk:={ mode:=.live,elem:=285,size:=6,rows:=[[C.t (ti n),.own 1 0 m true,.own 2 0 n true,.own 3 0 m true,.own 4 0 n true,.own 5 0 k true]],box:=true }
abbrev a13 (b m n:Nat) (V:Nat->Rat):Blk:={ mode:=.live,elem:=288,size:=5,rows:=V8 b m n V,box:=false }
abbrev Q0 (m:Nat) (O:Nat->Nat):Blk:={ mode:=.live,elem:=3,size:=1,rows:=toC (U8 m O),box:=false }
abbrev a1Q (l:LB):Blk:={ mode:=.live,elem:=306,size:=2,rows:=toC (a0y l),box:=false }
abbrev a0u (m n:Nat) (fr:LB) (D:Fd):Hp:=
 b1R m n fr.length::a13 6 m n D.V::flB (rF n D.G)::Q0 m D.O::Q0 n D.F::a1Q fr::(mF m n D.A).map flB
def a3p {m n:Nat} {fr:LB} {D:Fd}:(a0u m n fr D).length=m+6:=by simp [f7]
def an7 {b m n N:Nat} {V:Nat->Rat} (h:m+b<=N):okB N (a13 b m n V):=by
 intro r hr c hc;obtain ⟨i,hi,rfl⟩:=lbw.1 hr;have:=lbA.1 hi;simp [frC] at hc;rcases hc with rfl|rfl|rfl|rfl|rfl<;>first|trivial|(simp only;omega)
def b36 {m n k N:Nat} (h:6<=N):okB N (b1R m n k):=by
 intro r hr c hc;simp at hr;subst hr;simp at hc;rcases hc with rfl|rfl|rfl|rfl|rfl|rfl<;>first|trivial|(simp only;omega)
def a8b {m n:Nat} {fr:LB} {D:Fd}:∀k ∈ a0u m n fr D,okB (m+6) k:=by
 intro k hk;simp only [lbz] at hk;rcases hk with rfl|rfl|rfl|rfl|rfl|rfl|hk
 ·exact b36 om
 ·exact an7 (lbQ _)
 ·exact u0 rfl
 ·exact u0 rfl
 ·exact u0 rfl
 ·exact u0 rfl
 ·obtain ⟨l,_,rfl⟩:=lbw.1 hk;exact u0 rfl
def b2D (x:Rat):(fz x).p.sg=0↔x=0:=by
 show x.num.sign=0↔_;rw [b1A,Rat.num_eq_zero]
def rl0:rl 0<=1:=by
 have h0:=p7 (x:=0) de de;have h1:=p7 (x:=1) de de;show max (bl 0) (bl 1)<=1;omega
def rl1:rl 1<=1:=by
 have h1:=p7 (x:=1) de de;show max (bl 1) (bl 1)<=1;omega
def bk1 (x y:Rat) (hy:y≠0) (lx:rl x<=60000) (ly:rl y<=60000):ec 336 [frS (fz x),frS (fz y)] [] (.tup [frS (fz (x / y)),eI 0]) []:=by
 have r1:=L3 x om;have r2:=L3 y om;have x1:=E0 x;have x2:=D5 x;have y1:=E0 y;have y2:=D5 y;have hn:y.num≠0:=fun h=>hy (Rat.num_eq_zero.1 h)
 have hs:y.num.sign≠0:=fun h=>hn (b1A.1 h)
 have hsg:=b2D y;have l1:=C8 x.num y.den;have l3:=C8 x.den y.num;have t1:=a1B x.num y.den om om;have t3:=a1B x.den y.num om om;have n:=aE0 (x.num*y.den) (x.den*y.num) (Int.mul_ne_zero (b10 x) hn) om om;rw [← b82] at n;refine ac Tryz.func336 ?_;conv=>whnf
 repeat' (first|refine zx ?_|apply zD<;>intro h<;>try omega)<;>conv=>whnf
 all_goals first|(exfalso;simp_all;done)|exact Z4 rfl
def a7s (x:Rat) (lx:rl x<=60000):ec 291 [frS (fz x)] [] (frS (fz (-x))) []:=by
 have r1:=L3 x om;have x1:=E0 x;have x2:=D5 x;have n:=a91 x.num om;have s:=ak9 x.den om;have e:fz (-x)=⟨bz (-x.num),bz x.den⟩:=rfl;rw [e];refine ac Tryz.func291 ?_;conv=>whnf
 repeat' (first|refine zx ?_|apply zD<;>intro<;>try omega)<;>conv=>whnf
 all_goals first|(exfalso;simp_all;done)|exact m9 rz
def am6 (x:Rat):ec 324 [frS (fz x)] [] (i9 (decide (x=0))) []:=by
 have h:=b2D x;refine ac Tryz.func324 ?_;conv=>whnf
 repeat' (first|refine zx ?_|apply zD<;>intro h<;>try omega)<;>conv=>whnf
 all_goals (refine d9 ?_;simp_all)
def b1v (a b c:Rat) (la:rl a<=60000) (lb:rl b<=30000) (lc:rl c<=30000):ec 325 [frS (fz a),frS (fz b),frS (fz c)] [] (frS (fz (a - b*c))) []:=by
 have z1:=am6 b;have z2:=am6 c;have m:=aK8 b c om om;have lm:=a39 b c;have s:=b6M a (b*c) la om;by_cases hb:b=0
 ·have e:a - b*c=a:=by rw [hb];grind
  rw [e];refine ac Tryz.func325 ?_;conv=>whnf
  repeat' (first|refine zx ?_|apply zD<;>intro<;>try omega)<;>conv=>whnf
  all_goals first|(exfalso;simp_all;done)|exact m9 rz
 ·by_cases hc:c=0
  ·have e:a - b*c=a:=by rw [hc];grind
   rw [e];refine ac Tryz.func325 ?_;conv=>whnf
   repeat' (first|refine zx ?_|apply zD<;>intro<;>try omega)<;>conv=>whnf
   all_goals first|(exfalso;simp_all;done)|exact m9 rz
  ·refine ac Tryz.func325 ?_;conv=>whnf
   repeat' (first|refine zx ?_|apply zD<;>intro<;>try omega)<;>conv=>whnf
   all_goals first|(exfalso;simp_all;done)|exact m9 rz
def b0q (a b:Rat) (hb:b≠0) (la:rl a<=60000) (lb:rl b<=60000):ec 323 [frS (fz a),frS (fz b)] [] (frS (fz (a / b))) []:=by
 have d:=bk1 a b hb la lb;refine ac Tryz.func323 ?_;conv=>whnf
 repeat' (first|refine zx ?_|apply zD<;>intro<;>try omega)<;>conv=>whnf
 all_goals exact m9 rz
def tkF (a row:Nat->Rat) (s k:Nat):Nat->Rat:=fun j=>if j<k∧j≠s then a j - a s*row j else a j
def tkA (a row:Nat->Rat) (s:Nat):Nat->Rat:=fun j=>if j=s then 0 - a s*row s else a j - a s*row j
def pZ (k n:Nat):List Fr:=(List.range n).map fun j=>if j<k then fz 0 else C6
def a98 (k n:Nat):(pZ k n).length=n:=by simp [pZ]
def a37 {k n j:Nat} (h:j<n):(pZ k n)[j]? =some (if j<k then fz 0 else C6):=by simp [pZ,h]
def b0h {k n:Nat} (h:k<n):(pZ k n).set k (fz 0)=pZ (k+1) n:=by
 apply a0A;intro j;by_cases hj:j<n
 ·rw [a37 hj,lbg,a98];by_cases hjk:k=j
  ·subst hjk;simp [h]
  ·rw [if_neg hjk,a37 hj];have:(j<k+1)↔(j<k):=om;simp only [this]
 ·rw [lbd (by simp [a98];omega),lbd (by simp [a98];omega)]
def ai9 (n:Nat):pZ n n=rF n (fun _=>0):=lbp fun j hj=>by rw [if_pos (lbA.1 hj)]
def b8K (n:Nat) (hn:n<=1000):ec 289 [eI n] [] (.c (.own 0 0 n true)) [flB (rF n fun _=>0)]:=by
 have i0:=O7 0 de de;have hnn:(n:Int).toNat=n:=om;refine ac Tryz.func289 ?_;conv=>whnf
 repeat' (first|refine zx ?_|refine a1g om om om de ?_|apply zD<;>intro h<;>try omega)<;>conv=>whnf
 refine j3 d7 (fun k=>([eI n,J,J,S.c (C.own 0 0 n true),J,J,J,J,eI n,eI k]++Jn 8,[flB (pZ k n)])) n tT [some 0] trivial
  ⟨rfl,rfl,⟨⟨rfl,rfl,rfl,.inr (a0s ?_ ?_)⟩,trivial⟩,⟨l9 rfl,⟨rfl,rfl,om,fun h=>h⟩,e7 om,e7 rfl,trivial⟩⟩ ?_
 ·simp [D4,toC,a98]
 ·intro i x y hx hy;simp only [D4,lbk] at hx;split at hx
  ·rename_i hi;injection hx with hx;subst hx;have hy:(toC ((pZ 0 n).map o4))[i]? =some y:=hy;rw [toC,lba,lba,a37 om,if_neg om] at hy;injection hy with hy;subst hy;exact rz
  ·cases hx
 intro k hk _;by_cases hlt:k<n
 ·obtain ⟨pf,hpf⟩:∃pf,(pZ k n)[k]? =some pf:=⟨_,a37 hlt⟩;have gp:(pZ k n)[0+(k:Int).toNat]? =some pf:=by rw [P9,show (k:Int).toNat=k by omega];exact hpf
  have eM:0+(k:Int).toNat=k:=om;conv=>whnf
  repeat' (first|refine zx ?_|refine s8 gp ?_|apply zD<;>intro h<;>try omega)<;>conv=>whnf
  all_goals first
   |omega
   |(refine ⟨hlt,trivial,[some 0],rfl,rfl,⟨e8 (rows:=(pZ (k+1) n).map o4) rfl rfl rfl ?_ rfl,trivial⟩,⟨rfl,⟨rfl,rfl,rfl,fun h=>h⟩,rfl,e7 om,trivial⟩⟩
     have e:=J9 (row:=pZ k n) (y:=fz 0) eM;rw [b0h hlt] at e;exact congrArg Blk.rows e)
 ·have hke:k=n:=by omega
  subst hke;conv=>whnf
  repeat' (first|refine zx ?_|apply zD<;>intro h<;>try omega)<;>conv=>whnf
  all_goals first|omega|exact ⟨[some 0],rfl,rfl,⟨e8 (rows:=(rF k fun _=>0).map o4) rfl rfl rfl (by rw [← ai9]) rfl,trivial⟩,⟨rfl,rfl,rfl,fun h=>h⟩⟩
def b73 (a row:Nat->Rat) (s:Nat):tkF a row s 0=a:=by funext j;unfold tkF;rw [if_neg om]
def bo3 (a row:Nat->Rat) (s k:Nat):tkF a row s k k=a k:=by unfold tkF;rw [if_neg om]
def bt2 (a row:Nat->Rat) (s k:Nat):tkF a row s k s=a s:=by unfold tkF;rw [if_neg om]
def b4V {a row:Nat->Rat} {s k:Nat} (h:k≠s):(fun j=>if j=k then a k - a s*row k else tkF a row s k j)=tkF a row s (k+1):=by
 funext j;by_cases hj:j=k
 ·subst hj;rw [if_pos rfl];unfold tkF;rw [if_pos ⟨om,h⟩]
 ·rw [if_neg hj];unfold tkF;have:(j<k∧j≠s)↔(j<k+1∧j≠s):=om;simp only [this]
def b6S {a row:Nat->Rat} {s:Nat}:tkF a row s s=tkF a row s (s+1):=by
 funext j;unfold tkF;have:(j<s∧j≠s)↔(j<s+1∧j≠s):=om;simp only [this]
def b7Y {a row:Nat->Rat} {s n:Nat}:rF n (fun j=>if j=s then 0 - a s*row s else tkF a row s n j)=rF n (tkA a row s):=B6 fun j hj=>by
 unfold tkA tkF;by_cases h:j=s
 ·rw [if_pos h,if_pos h]
 ·rw [if_neg h,if_neg h,if_pos ⟨hj,h⟩]
abbrev frX (x:Rat):Blk:={ mode:=.live,elem:=86,size:=4,rows:=[frC (fz x)],box:=true }
def bm1 {ρ:List (Option Nat)} {H:Hp} (x:Rat):a2q ρ H (frX x) (frX x):=⟨rfl,rfl,rfl,.inl ⟨rfl,i5 [o4 (fz x)]⟩⟩
def bi4 (n s:Nat) (a row:Nat->Rat) (hn:n<=1000) (hs:s<n) (ha:∀j,j<n->rl (a j)<=30000) (hr:∀j,j<n->rl (row j)<=30000):
 ec 326 [.c (.own 0 0 n true),.c (.own 1 0 n true),eI s] [flB (rF n a),flB (rF n row)] (.tup []) [flB (rF n (tkA a row s)),flB (rF n row)]:=by
 have i0:=O7 0 de de;have ls:=ha s hs;have eS:0+(s:Int).toNat=s:=om;have gs:(rF n a)[0+(s:Int).toNat]? =some (fz (a s)):=by rw [eS,G4 hs]
 refine ac Tryz.func326 ?_;conv=>whnf
 repeat' (first|refine zx ?_|refine s8 gs ?_|apply zD<;>intro h<;>try omega)<;>conv=>whnf
 refine j3 d7 (fun k=>([S.c (C.own 0 0 n true),S.c (C.own 1 0 n true),eI s,J,J,J,sP 2 0 0,J,J,J,J,J,J,eI n,eI k]++Jn 29,[flB (rF n (tkF a row s k)),flB (rF n row),frX (a s)])) n tT [some 0,some 1,some 2] trivial
  ⟨rfl,rfl,⟨e8 (rows:=(rF n a).map o4) rfl rfl rfl rfl (by rw [b73]),e8 rfl rfl rfl rfl rfl,bm1 _,trivial⟩,⟨⟨rfl,rfl,rfl,fun h=>h⟩,⟨rfl,rfl,rfl,fun h=>h⟩,rfl,rz,e7 rfl,e7 rfl,trivial⟩⟩ ?_
 intro k hk _;by_cases hlt:k<n
 ·have eM:0+(k:Int).toNat=k:=by omega
  have lk:=ha k hlt;have lr:=hr k hlt;have g1:(rF n (tkF a row s k))[0+(k:Int).toNat]? =some (fz (a k)):=by rw [eM,G4 hlt,bo3]
  have g2:(rF n row)[0+(k:Int).toNat]? =some (fz (row k)):=by rw [eM,G4 hlt]
  have le:=b1v (a k) (a s) (row k) om om om;by_cases hks:k=s
  ·subst hks;conv=>whnf
   repeat' (first|refine zx ?_|refine s8 g1 ?_|refine s8 g2 ?_|apply zD<;>intro h<;>try omega)<;>conv=>whnf
   all_goals first|omega|exact ⟨hlt,trivial,[some 0,some 1,some 2],rfl,rfl,⟨e8 (rows:=(rF n (tkF a row k k)).map o4) rfl rfl rfl rfl (by rw [b6S]),e8 rfl rfl rfl rfl rfl,bm1 _,trivial⟩,⟨⟨rfl,rfl,rfl,fun h=>h⟩,⟨rfl,rfl,rfl,fun h=>h⟩,rfl,rz,e7 rfl,e7 rfl,trivial⟩⟩
  ·conv=>whnf
   repeat' (first|refine zx ?_|refine s8 g1 ?_|refine s8 g2 ?_|apply zD<;>intro h<;>try omega)<;>conv=>whnf
   all_goals first
    |omega
    |(refine ⟨hlt,trivial,[some 0,some 1,some 2],rfl,rfl,⟨e8 (rows:=(rF n (tkF a row s (k+1))).map o4) rfl rfl rfl ?_ rfl,e8 rfl rfl rfl rfl rfl,bm1 _,trivial⟩,⟨⟨rfl,rfl,rfl,fun h=>h⟩,⟨rfl,rfl,rfl,fun h=>h⟩,rfl,rz,e7 rfl,e7 rfl,trivial⟩⟩
      have e:=J9 (row:=rF n (tkF a row s k)) (y:=fz (a k - a s*row k)) eM;rw [X6 hlt,b4V hks] at e;exact congrArg Blk.rows e)
 ·have hke:k=n:=by omega
  subst hke;have g2:(rF k row)[0+(s:Int).toNat]? =some (fz (row s)):=by rw [eS,G4 hs]
  have lr:=hr s hs;have le:=b1v 0 (a s) (row s) (by have:=rl0;omega) om om;have le:ec 325 [frS (fz ((0:Int):Rat)),frS (fz (a s)),frS (fz (row s))] [] (frS (fz (0 - a s*row s))) []:=le;conv=>whnf
  have g1:(rF k (tkF a row s k))[0+(s:Int).toNat]? =some (fz (a s)):=by rw [eS,G4 hs,bt2]
  repeat' (first|refine zx ?_|refine s8 g2 ?_|refine s8 g1 ?_|apply zD<;>intro h<;>try omega)<;>conv=>whnf
  all_goals first
   |omega
   |(refine ⟨[some 0,some 1],rfl,rfl,⟨e8 (rows:=(rF k (tkA a row s)).map o4) rfl rfl rfl ?_ rfl,e8 rfl rfl rfl rfl rfl,trivial⟩,trivial⟩
     have e:=J9 (row:=rF k (tkF a row s k)) (y:=fz (0 - a s*row s)) eS;rw [X6 hs,b7Y] at e;exact congrArg Blk.rows e)
def leI:Option Nat->Int
 |none=>-1
 |some a=>a
def T7 (f:Nat->Nat) (p:Nat->Bool) (k:Nat):B3 f p (k+1)=match B3 f p k with
 |none=>if p k then some k else none
 |some a=>if p k && decide (f k<f a) then some k else some a:=rfl
def o9 {m:Nat} {f:Nat->Nat} {n:Int} {i:Nat} {K:List T->Prop} (e:n=i) (h:i<m) (k:K [ti (f i)]):∃row,0<=n∧(U8 m f)[n.toNat]? =some row∧K row:=by
 subst e;exact ⟨_,om,by rw [show (i:Int).toNat=i by omega,a7L h],k⟩
abbrev a7v (m:Nat) (f:Nat->Nat):S:=.c (.t (.sl 1 .any (U8 m f)))
def a6s (m:Nat) (hm:m<=100000) (f:Nat->Nat) (p:Nat->Bool) (g:FuncId) (caps:List T) (hg:∀i:Nat,i<m->ec g (eI i::caps.map fun x=>.c (.t x)) [] (i9 (p i)) []):
 ec 292 [a7v m f,.c (.t (.fn (.func g) caps))] [] (eI (leI (B3 f p m))) []:=by
 have m1:(U8 m f).length=m:=m6 m f;refine ac Tryz.func292 ?_;conv=>whnf
 repeat' (first|refine zx ?_|apply zD<;>intro<;>try omega)<;>conv=>whnf
 refine j3 d7 (fun k=>([a7v m f,S.c (C.t (T.fn (.func g) caps)),J,J,J,eI (leI (B3 f p k)),J,J,a7v m f,eI m,eI k]++Jn 22,[])) m tT [] trivial
  ⟨rfl,rfl,trivial,⟨l9 rfl,l9 rfl,e7 rfl,l9 rfl,e7 om,e7 rfl,trivial⟩⟩ ?_
 intro k hk _;by_cases hlt:k<m
 ·have hgr:=hg k hlt;have ha:(eI (k:Int)::caps.map fun x=>S.c (C.t x)).all S.isT=true:=by simp [S.isT,C.isT,c9]
  cases hp:p k with
  |false=>
   rw [hp] at hgr;have e1:leI (B3 f p k)=leI (B3 f p (k+1)):=by
    rw [T7,hp];cases B3 f p k<;>rfl
   conv=>whnf
   repeat' (first|refine zx ?_|refine .inl ⟨_,_,L2 hgr ha rfl,?_⟩|refine o9 rfl hlt ?_|apply zD<;>intro<;>try omega)<;>conv=>whnf
   all_goals first
    |omega
    |exact ⟨hlt,trivial,[],rfl,rfl,trivial,⟨rfl,rfl,e7 e1,rfl,rfl,e7 rfl,trivial⟩⟩
  |true=>
   rw [hp] at hgr;cases hl:B3 f p k with
   |none=>
    have hle:leI none=-1:=rfl;have e1:(k:Int)=leI (B3 f p (k+1)):=by rw [T7,hl,hp];rfl
    conv=>whnf
    repeat' (first|refine zx ?_|refine .inl ⟨_,_,L2 hgr ha rfl,?_⟩|refine o9 rfl hlt ?_|apply zD<;>intro<;>try omega)<;>conv=>whnf
    all_goals first
     |omega
     |exact ⟨hlt,trivial,[],rfl,rfl,trivial,⟨rfl,rfl,e7 e1,rfl,rfl,e7 rfl,trivial⟩⟩
   |some b=>
    have hb:=(B9 hl).1;have hle:leI (some b)=b:=rfl;by_cases hc:f k<f b
    ·have e1:(k:Int)=leI (B3 f p (k+1)):=by rw [T7,hl,hp];simp [hc,leI]
     conv=>whnf
     repeat' (first|refine zx ?_|refine .inl ⟨_,_,L2 hgr ha rfl,?_⟩|refine o9 rfl hlt ?_|refine o9 (i:=b) hle om ?_|apply zD<;>intro<;>try omega)<;>conv=>whnf
     all_goals first|omega|exact ⟨hlt,trivial,[],rfl,rfl,trivial,⟨rfl,rfl,e7 e1,rfl,rfl,e7 rfl,trivial⟩⟩
    ·have e1:leI (some b)=leI (B3 f p (k+1)):=by rw [T7,hl,hp];simp [hc,leI]
     conv=>whnf
     repeat' (first|refine zx ?_|refine .inl ⟨_,_,L2 hgr ha rfl,?_⟩|refine o9 rfl hlt ?_|refine o9 (i:=b) hle om ?_|apply zD<;>intro<;>try omega)<;>conv=>whnf
     all_goals first|omega|exact ⟨hlt,trivial,[],rfl,rfl,trivial,⟨rfl,rfl,e7 e1,rfl,rfl,e7 rfl,trivial⟩⟩
 ·have hke:k=m:=by omega
  subst hke;conv=>whnf
  repeat' (first|refine zx ?_|apply zD<;>intro<;>try omega)<;>conv=>whnf
  all_goals first|omega|exact n8 rfl
def a9M (m n:Nat) (D:Fd):List (List T):=(List.range m).map fun i=>o4 (fz (D.V i))++[T.sl 4 .any ((rF n (D.A i)).map o4)]
def b9Q (m n:Nat) (fr:LB) (D:Fd):List T:=[ti n,.sl 5 .any (a9M m n D),.sl 4 .any ((rF n D.G).map o4),.sl 1 .any (U8 m D.O),.sl 1 .any (U8 n D.F),.sl 2 .any (a0y fr)]
def a9j {m n:Nat} {D:Fd} {i:Nat} (h:i<m):(a9M m n D)[i]? =some (o4 (fz (D.V i))++[T.sl 4 .any ((rF n (D.A i)).map o4)]):=by simp [a9M,h]
def a6b (m n:Nat) (D:Fd):(a9M m n D).length=m:=by simp [a9M]
def a1i {m n:Nat} {D:Fd} {x:Int} {i:Nat} {K:List T->Prop} (e:x=i) (h:i<m) (k:K (o4 (fz (D.V i))++[T.sl 4 .any ((rF n (D.A i)).map o4)])):∃row,0<=x∧(a9M m n D)[x.toNat]? =some row∧K row:=by
 subst e;exact ⟨_,om,by rw [show (i:Int).toNat=i by omega,a9j h],k⟩
def a4G {n:Nat} {g:Nat->Rat} {x:Int} {j:Nat} {K:List T->Prop} (e:x=j) (h:j<n) (k:K (o4 (fz (g j)))):∃row,0<=x∧((rF n g).map o4)[x.toNat]? =some row∧K row:=by
 subst e;exact ⟨_,om,by rw [show (j:Int).toNat=j by omega,lba,G4 h];rfl,k⟩
def b58 (x:Rat):(fz x).p.sg<0↔x<0:=by
 show x.num.sign<0↔_;rw [a8o];unfold sgR;split<;>(try split)<;>simp_all
def b59 (x:Rat):(fz x).p.sg > 0↔0<x:=by
 show x.num.sign > 0↔_;rw [a8o];unfold sgR;split
 ·constructor
  ·intro h;omega
  ·intro h;grind
 ·split<;>simp_all
abbrev a7c (m n:Nat) (fr:LB) (D:Fd):T:=.ptr [.ptr (b9Q m n fr D)]
def b4f (m n:Nat) (fr:LB) (D:Fd) (i:Nat) (hi:i<m):
 ec 293 (eI i::[a7c m n fr D].map fun x=>.c (.t x)) [] (i9 (decide (D.V i<0))) []:=by
 have h:=b58 (D.V i);refine ac Tryz.func293 ?_;conv=>whnf
 repeat' (first|refine zx ?_|refine a1i rfl hi ?_|apply zD<;>intro h<;>try omega)<;>conv=>whnf
 all_goals (refine d9 ?_;simp_all)
def b3W (m n:Nat) (fr:LB) (D:Fd) (j:Nat) (hj:j<n):
 ec 294 (eI j::[a7c m n fr D].map fun x=>.c (.t x)) [] (i9 (decide (0<D.G j))) []:=by
 have h:=b59 (D.G j);refine ac Tryz.func294 ?_;conv=>whnf
 repeat' (first|refine zx ?_|refine a4G rfl hj ?_|apply zD<;>intro h<;>try omega)<;>conv=>whnf
 all_goals (refine d9 ?_;simp_all)
def ax5 (m n:Nat) (fr:LB) (D:Fd) (r j:Nat) (hr:r<m) (hj:j<n):
 ec 295 (eI j::[a7c m n fr D,T.ptr [ti r]].map fun x=>.c (.t x)) [] (i9 (decide (D.A r j<0))) []:=by
 have h:=b58 (D.A r j);refine ac Tryz.func295 ?_;conv=>whnf
 repeat' (first|refine zx ?_|refine a1i rfl hr ?_|refine a4G rfl hj ?_|apply zD<;>intro h<;>try omega)<;>conv=>whnf
 all_goals (refine d9 ?_;simp_all)
def ax0 (m n:Nat) (fr:LB) (D:Fd) (i s:Nat) (hi:i<m) (hs:s<n):
 ec 296 (eI i::[a7c m n fr D,T.ptr [ti s]].map fun x=>.c (.t x)) [] (i9 (decide (0<D.A i s))) []:=by
 have h:=b59 (D.A i s);refine ac Tryz.func296 ?_;conv=>whnf
 repeat' (first|refine zx ?_|refine a1i rfl hi ?_|refine a4G rfl hs ?_|apply zD<;>intro h<;>try omega)<;>conv=>whnf
 all_goals (refine d9 ?_;simp_all)
def b1Z {H:Hp} {ia ir n s:Nat} {a row:Nat->Rat} (hne:ia≠ir) (ga:H[ia]? =some (flB (rF n a))) (gr:H[ir]? =some (flB (rF n row))) (hn:n<=1000) (hs:s<n) (ha:∀j,j<n->rl (a j)<=30000) (hr:∀j,j<n->rl (row j)<=30000):
 ec 326 [.c (.own ia 0 n true),.c (.own ir 0 n true),eI s] H (.tup []) (H.set ia (flB (rF n (tkA a row s)))):=by
 have la:ia<H.length:=(lbe.1 ga).1;refine Q8 [ia,ir] (bi4 n s a row hn hs ha hr) rfl rfl rfl (by simp;exact hne) ?_ ?_ zq rfl rfl zq ?_ ?_
 ·intro i k hk
  match i,hk with
  |0,hk=>injection hk with hk;subst hk;exact ⟨rfl,rfl,a4H _,_,ga,z4 rfl⟩
  |1,hk=>injection hk with hk;subst hk;exact ⟨rfl,rfl,a4H _,_,gr,z4 rfl⟩
 ·intro k hk;simp at hk;rcases hk with rfl|rfl<;>(intro h;cases h)
 ·intro i k hk
  match i,hk with
  |0,hk=>
   injection hk with hk;subst hk
   refine ⟨_,?_,z4 rfl⟩;show (H.set ia _)[ia]? =_;rw [lbg,if_pos rfl,if_pos la]
  |1,hk=>
   injection hk with hk;subst hk
   refine ⟨_,?_,z4 rfl⟩;show (H.set ia _)[ir]? =_;rw [lbg,if_neg hne];exact gr
 ·intro j hj hjn;simp at hjn;rw [lbg,if_neg (fun h=>hjn.1 h.symm)]
def a2V {b m n i r:Nat} {V:Nat->Rat} {K:List C->Prop} (e:i=r) (h:r<m) (k:K (frC (fz (V r))++[C.own (r+b) 0 n true])):∃row,(V8 b m n V)[i]? =some row∧K row:=by
 subst e;exact ⟨_,a3k h,k⟩
def aG8 {rows:List (List C)} {i:Nat} {x:List C} {K:List C->Prop} (h:i<rows.length) (k:K x):∃row,(rows.set i x)[i]? =some row∧K row:=⟨x,List.getElem?_set_self h,k⟩
def b9I {rows:List (List C)} {i j:Nat} {x:List C} {K:List C->Prop} (h:i≠j) (k:∃row,rows[j]? =some row∧K row):∃row,(rows.set i x)[j]? =some row∧K row:=by
 rw [List.getElem?_set_ne h];exact k
def a5u (a:Nat->Rat) (p:Rat) (s k:Nat):Nat->Rat:=fun j=>if j<k∧j≠s then a j / p else a j
def A1 (D:Fd) (r s k:Nat):Nat->Nat->Rat:=fun i=>if i=r then a5u (D.A r) (D.A r s) s k else D.A i
def bt1 {D:Fd} {r s k:Nat}:A1 D r s k r k=D.A r k:=by unfold A1 a5u;rw [if_pos rfl,if_neg om]
def bw5 {D:Fd} {r s k:Nat}:A1 D r s k r s=D.A r s:=by unfold A1 a5u;rw [if_pos rfl,if_neg om]
def b9P {D:Fd} {r s k:Nat} (h:k≠s):(fun i=>if i=r then (fun j=>if j=k then D.A r k / D.A r s else A1 D r s k r j) else A1 D r s k i)=A1 D r s (k+1):=by
 funext i j;by_cases hi:i=r
 ·subst hi;simp only [if_true];unfold A1 a5u;simp only [if_true];by_cases hj:j=k
  ·subst hj;rw [if_pos rfl,if_pos ⟨om,h⟩]
  ·rw [if_neg hj];have:(j<k∧j≠s)↔(j<k+1∧j≠s):=om;simp only [this]
 ·rw [if_neg hi];unfold A1;rw [if_neg hi,if_neg hi]
def b7L {D:Fd} {r s:Nat}:A1 D r s s=A1 D r s (s+1):=by
 funext i j;unfold A1 a5u;have:(j<s∧j≠s)↔(j<s+1∧j≠s):=om;split
 ·simp only [this]
 ·rfl
def b8t {D:Fd} {r s k:Nat} (h:D.A r k=0):A1 D r s k=A1 D r s (k+1):=by
 funext i j;unfold A1 a5u;split
 ·show (if j<k∧j≠s then D.A r j / D.A r s else D.A r j)=if j<k+1∧j≠s then D.A r j / D.A r s else D.A r j
  by_cases hj:j=k
  ·subst hj;rw [if_neg (show ¬(j<j∧j≠s) by omega)];split
   ·rw [h];grind
   ·rfl
  ·have:(j<k∧j≠s)↔(j<k+1∧j≠s):=by omega
   simp only [this]
 ·rfl
def b2Z {m n r:Nat} {A B:Nat->Nat->Rat} {g:Nat->Rat} (h:r<m) (e:(fun i=>if i=r then g else A i)=B):(mF m n A).set r (rF n g)=mF m n B:=by rw [b4X h,e]
def V1 (D:Fd) (r s:Nat):Nat->Rat:=fun i=>if i=r then D.V r / D.A r s else D.V i
def V2 (D:Fd) (r s k:Nat):Nat->Rat:=fun i=>if i=r then D.V r / D.A r s else if i<k then D.V i - D.A i s*(D.V r / D.A r s) else D.V i
def A2 (D:Fd) (r s k:Nat):Nat->Nat->Rat:=fun i=>if i=r then D.pRow r s else if i<k then tkA (D.A i) (D.pRow r s) s else D.A i
def aS0 {a row:Nat->Rat} {s:Nat} (h:a s=0):tkA a row s=a:=by
 funext j;unfold tkA;by_cases hj:j=s
 ·rw [if_pos hj,hj,h];grind
 ·rw [if_neg hj,h];grind
def M5 {m i r:Nat} {f:Nat->Nat} {K:List C->Prop} (e:i=r) (h:r<m) (k:K [C.t (ti (f r))]):∃row,(toC (U8 m f))[i]? =some row∧K row:=by
 subst e;exact ⟨_,by simp [toC,a7L h],k⟩
def E3 {α β:Type} {f:β->α} {M:List β} {T:List α} {i:Nat} {x:β} (h:M[i]? =some x):(M.map f++T)[i]? =some (f x):=by
 rw [lbb (by simpa using (lbe.1 h).1),lba,h];rfl
def b50 {α β:Type} {f:β->α} {M:List β} {T:List α} {i:Nat} {x:β} (h:i<M.length):(M.map f++T).set i (f x)=(M.set i x).map f++T:=by
 rw [b2B _ _ (by simpa using h),←a59]
def b7O {m n:Nat} {D:Fd} {r s:Nat} (hr:r<m) (hs:s<n):(mF m n (A1 D r s n)).set r ((rF n (A1 D r s n r)).set s (fz (((1:Int):Rat) / D.A r s)))=mF m n (A2 D r s 0):=by
 rw [X6 hs,b4X hr];refine aY9 fun i hi j hj=>?_
 unfold A2;by_cases hir:i=r
 ·rw [if_pos hir,if_pos hir];unfold Fd.pRow A1 a5u;rw [if_pos rfl];by_cases hjs:j=s
  ·rw [if_pos hjs,if_pos hjs];rfl
  ·rw [if_neg hjs,if_neg hjs,if_pos ⟨hj,hjs⟩]
 ·rw [if_neg hir,if_neg hir,if_neg om];unfold A1;rw [if_neg hir]
def b8a {D:Fd} {r s:Nat}:V2 D r s 0=V1 D r s:=by
 funext i;unfold V2 V1;split
 ·rfl
 ·rw [if_neg om]
def br8 {D:Fd} {r s k:Nat}:V2 D r s k r=D.V r / D.A r s:=by unfold V2;rw [if_pos rfl]
def b6I {D:Fd} {r s k:Nat} (h:k≠r):V2 D r s k k=D.V k:=by unfold V2;rw [if_neg h,if_neg om]
def bv8 {D:Fd} {r s k:Nat}:A2 D r s k r=D.pRow r s:=by unfold A2;rw [if_pos rfl]
def ba3 {D:Fd} {r s k:Nat} (h:k≠r):A2 D r s k k=D.A k:=by unfold A2;rw [if_neg h,if_neg om]
def b2K {D:Fd} {r s k:Nat} (h:k≠r):(fun i=>if i=k then D.V k - D.A k s*(D.V r / D.A r s) else V2 D r s k i)=V2 D r s (k+1):=by
 funext i;by_cases hi:i=k
 ·subst hi;rw [if_pos rfl];unfold V2;rw [if_neg h,if_pos om]
 ·rw [if_neg hi];unfold V2;have:(i<k)↔(i<k+1):=om;simp only [this]
def b2i {D:Fd} {r s k:Nat} (h:k≠r):(fun i=>if i=k then tkA (D.A k) (D.pRow r s) s else A2 D r s k i)=A2 D r s (k+1):=by
 funext i;by_cases hi:i=k
 ·subst hi;rw [if_pos rfl];unfold A2;rw [if_neg h,if_pos om]
 ·rw [if_neg hi];unfold A2;have:(i<k)↔(i<k+1):=om;simp only [this]
def b7V {D:Fd} {r s:Nat}:V2 D r s r=V2 D r s (r+1):=by
 funext i;unfold V2;by_cases h:i=r
 ·rw [if_pos h,if_pos h]
 ·have:(i<r)↔(i<r+1):=by omega
  simp only [this]
def b9g {D:Fd} {r s:Nat}:A2 D r s r=A2 D r s (r+1):=by
 funext i;unfold A2;by_cases h:i=r
 ·rw [if_pos h,if_pos h]
 ·have:(i<r)↔(i<r+1):=by omega
  simp only [this]
def b87 {D:Fd} {r s k:Nat} (h:k≠r) (hz:D.A k s=0):V2 D r s k=V2 D r s (k+1):=by
 rw [← b2K h,hz];funext i;by_cases hi:i=k
 ·subst hi;rw [if_pos rfl,b6I h];grind
 ·rw [if_neg hi]
def b9X {D:Fd} {r s k:Nat} (h:k≠r) (hz:D.A k s=0):A2 D r s k=A2 D r s (k+1):=by
 rw [← b2i h,aS0 hz];funext i;by_cases hi:i=k
 ·subst hi;rw [if_pos rfl,ba3 h]
 ·rw [if_neg hi]
def bg4 {D:Fd} {r s m i:Nat} (h:i<m):V2 D r s m i=(D.exch r s).V i:=by
 unfold V2 Fd.exch;simp only;split
 ·rfl
 ·first|rfl|rw [if_pos h]
def bd9 {D:Fd} {r s m i j:Nat} (h:i<m):A2 D r s m i j=(D.exch r s).A i j:=by
 unfold A2 Fd.exch;simp only;split
 ·rfl
 ·first|rfl|(rw [if_pos h];rfl)
abbrev M4 (m n:Nat) (fr:LB) (V:Nat->Rat) (G:Nat->Rat) (O F:Nat->Nat) (A:Nat->Nat->Rat) (T:Hp):Hp:=
 b1R m n fr.length::a13 6 m n V::flB (rF n G)::Q0 m O::Q0 n F::a1Q fr::((mF m n A).map flB++T)
structure BdD (m n B:Nat) (D:Fd):Prop where
 v:∀i,i<m->rl (D.V i)<=B
 a:∀i,i<m->∀j,j<n->rl (D.A i j)<=B
 g:∀j,j<n->rl (D.G j)<=B
def b1E {b m n r i:Nat} {V:Nat->Rat} {x:List C} {v:Rat} (e:i=r) (h:r<m) (hx:x=frC (fz v)++[C.own (r+b) 0 n true]):(V8 b m n V).set i x=V8 b m n (fun i=>if i=r then v else V i):=by
 subst e hx;exact b3p h
def aZ8 {m n:Nat} {fr:LB} {V G:Nat->Rat} {O F:Nat->Nat} {A:Nat->Nat->Rat} {T T':Hp}:M4 m n fr V G O F A (T++T')=M4 m n fr V G O F A T++T':=by
 show b1R m n fr.length::a13 6 m n V::flB (rF n G)::Q0 m O::Q0 n F::a1Q fr::((mF m n A).map flB++(T++T'))=b1R m n fr.length::a13 6 m n V::flB (rF n G)::Q0 m O::Q0 n F::a1Q fr::(((mF m n A).map flB++T)++T');rw [lbC]
def a7P {m n:Nat} {fr:LB} {V G:Nat->Rat} {O F:Nat->Nat} {A:Nat->Nat->Rat} {T:Hp}:(M4 m n fr V G O F A T).length=m+6+T.length:=by simp [f7];omega
def b2S {m n N:Nat} {fr:LB} {V G:Nat->Rat} {O F:Nat->Nat} {A:Nat->Nat->Rat} {T:Hp} (h:m+6<=N) (hT:∀k ∈ T,okB N k):∀k ∈ M4 m n fr V G O F A T,okB N k:=by
 intro k hk;simp only [lbz,lby] at hk;rcases hk with rfl|rfl|rfl|rfl|rfl|rfl|hk|hk
 ·exact b36 om
 ·exact an7 h
 ·exact u0 rfl
 ·exact u0 rfl
 ·exact u0 rfl
 ·exact u0 rfl
 ·obtain ⟨l,_,rfl⟩:=lbw.1 hk;exact u0 rfl
 ·exact hT k hk
def Y1 {n0 N m n:Nat} {fr:LB} {V G:Nat->Rat} {O F:Nat->Nat} {A:Nat->Nat->Rat} {T T' H:Hp} {env env':Env} (hH:H=M4 m n fr V G O F A (T++T')) (hN:m+6+T.length=N) (h0:n0<=N) (hT:∀k ∈ T,okB N k)
 (hE:X5 (idR N) H env env'):Ent n0 (idR N) env H env' (M4 m n fr V G O F A T):=by
 refine a6e (by rw [a7P];exact hN) h0 (b2S om hT) (fun i hi=>?_) hE;rw [hH,aZ8,lbb (by rw [a7P];omega)]
def aj2 {n0 N m n:Nat} {fr:LB} {V G:Nat->Rat} {O F:Nat->Nat} {A:Nat->Nat->Rat} {T H:Hp} {r s:S} (hH:H=M4 m n fr V G O F A T) (hN:m+6=N) (h0:n0<=N) (hE:a95 (idR N) H r s):
 Fin n0 r H s (M4 m n fr V G O F A []):=by
 refine a6x (by rw [a7P];exact hN) h0 (b2S om zq) (fun i hi=>?_) hE;have e:M4 m n fr V G O F A T=M4 m n fr V G O F A []++T:=aZ8 (T:=[]) (T':=T);rw [hH,e,lbb (by rw [a7P];simp;omega)]
def a1q {b0 b1 b2 b3 b4 b5 c0 c1 c2 c3 c4 c5:Blk} {L L':Hp} (h0:b0=c0) (h1:b1=c1) (h2:b2=c2) (h3:b3=c3) (h4:b4=c4) (h5:b5=c5) (h6:L=L'):b0::b1::b2::b3::b4::b5::L=c0::c1::c2::c3::c4::c5::L':=by
 subst h0 h1 h2 h3 h4 h5 h6;rfl
def av7 {b m n r i:Nat} {V V':Nat->Rat} {x:List C} {v:Rat} (e:i=r) (h:r<m) (hx:x=frC (fz v)++[C.own (r+b) 0 n true]) (hV:(fun i=>if i=r then v else V i)=V'):y6 (a13 b m n V) ((a13 b m n V).rows.set i x)=a13 b m n V':=by
 have:=b1E (V:=V) e h hx;subst hV;unfold y6;simp only [this]
def a3y {m r i v:Nat} {O:Nat->Nat} (e:i=r) (h:r<m):y6 (Q0 m O) ((Q0 m O).rows.set i [C.t (ti v)])=Q0 m (fun i=>if i=r then v else O i):=by
 subst e;have:(toC (U8 m O)).set i [C.t (ti v)]=toC (U8 m (fun j=>if j=i then v else O j)):=by
  rw [← b7f h];simp [toC,a59]
 unfold y6;simp only [this]
def aL0 {N:Nat} {x:Rat}:okB N (frX x):=u0 (rows:=[o4 (fz x)]) rfl
def b1t (m n:Nat) (fr:LB) (D:Fd) (r s:Nat) (hm:m<=100000) (hn:n<=1000) (hr:r<m) (hs:s<n) (hp:D.A r s≠0) (hB:BdD m n 30000 D) (hB':BdD m n 30000 (D.exch r s)):
 ec 297 [.c (.ptr 0 0 0),eI r,eI s] (a0u m n fr D) (.tup []) (a0u m n fr (D.exch r s)):=by
 have eR:0+(r:Int).toNat=r:=om;have eS:0+(s:Int).toNat=s:=om;have gA:(mF m n D.A)[r]? =some (rF n (D.A r)):=U0 hr;have gs:(rF n (D.A r))[0+(s:Int).toNat]? =some (fz (D.A r s)):=by rw [eS,G4 hs]
 have bp:=hB.a r hr s hs;have ov:=b0q (D.V r) (D.A r s) hp (by have:=hB.v r hr;omega) om;refine ac Tryz.func297 ?_;conv=>whnf
 repeat' (first|refine zx ?_|refine qp E4 ?_|refine a5O (f7 _ _ _) ?_|refine C1 ?_|refine a3W ?_|refine a2V eR hr ?_|refine aS2 gA ?_|refine F9 gA ?_|refine o5 (f7 _ _ _) ?_|refine x5 (f7 _ _ _) ?_|refine s8 gs ?_|refine aG8 (by show _<(V8 _ _ _ _).length;rw [E4];omega) ?_|apply zD<;>intro<;>try omega)<;>conv=>whnf
 refine j3 d7 (fun k=>([sP 0 0 0,eI r,eI s,J,J,J,S.c (C.ptr 1 r 0),S.c (C.ptr (m+6) 0 0)]++Jn 29++[eI n,eI k]++Jn 144,M4 m n fr (V1 D r s) D.G D.O D.F (A1 D r s k) [frX (D.A r s)])) n tT (idR (m+7)) trivial ?_ ?_
 ·refine Y1 (T':=[]) ?_ rfl (by simp [f7]) (by intro k hk;simp at hk;subst hk;exact aL0) ?_
  ·refine a1q rfl (av7 eR hr rfl rfl) rfl rfl rfl rfl ?_;have:A1 D r s 0=D.A:=by funext i j;unfold A1 a5u;split<;>simp_all
   rw [this];rfl
  ·exact ⟨⟨g9 om,rz⟩,rfl,rfl,⟨g9 om,eR,rfl⟩,⟨g9 om,rz⟩,e7 om,e7 rfl,trivial⟩
 intro k hk _;have gA1:(mF m n (A1 D r s k))[r]? =some (rF n (A1 D r s k r)):=U0 hr;have lA:r<(mF m n (A1 D r s k)).length:=by rw [f7];exact hr
 by_cases hlt:k<n
 ·have eK:0+(k:Int).toNat=k:=by omega
  have gk:(rF n (A1 D r s k r))[0+(k:Int).toNat]? =some (fz (D.A r k)):=by rw [eK,G4 hlt,bt1]
  have bk:=hB.a r hr k hlt;have ze:=am6 (D.A r k);have ovk:=b0q (D.A r k) (D.A r s) hp om om;by_cases hks:k=s
  ·subst hks;conv=>whnf
   repeat' (first|refine zx ?_|refine f9 (f7 _ _ _) ?_|refine C1 ?_|refine f5 ?_|refine a2V rfl hr ?_|refine F9 gA1 ?_|refine o5 (f7 _ _ _) ?_|refine s8 gk ?_|apply zD<;>intro<;>try omega)<;>conv=>whnf
   all_goals first|omega|exact ⟨hlt,trivial,idR (m+7),Y1 (T':=[]) (a1q rfl rfl rfl rfl rfl rfl (by rw [← b7L];rfl)) rfl (by simp [f7]) (by intro k hk;simp at hk;subst hk;exact aL0) ⟨⟨g9 om,rz⟩,rfl,rfl,⟨g9 om,rz⟩,⟨g9 om,rz⟩,rfl,e7 om,trivial⟩⟩
  ·by_cases hz:D.A r k=0
   ·rw [lbG hz] at ze;conv=>whnf
    repeat' (first|refine zx ?_|refine f9 (f7 _ _ _) ?_|refine C1 ?_|refine f5 ?_|refine a2V rfl hr ?_|refine F9 gA1 ?_|refine o5 (f7 _ _ _) ?_|refine s8 gk ?_|apply zD<;>intro<;>try omega)<;>conv=>whnf
    all_goals first|omega|exact ⟨hlt,trivial,idR (m+7),Y1 (T':=[]) (a1q rfl rfl rfl rfl rfl rfl (by rw [← b8t hz];rfl)) rfl (by simp [f7]) (by intro k hk;simp at hk;subst hk;exact aL0) ⟨⟨g9 om,rz⟩,rfl,rfl,⟨g9 om,rz⟩,⟨g9 om,rz⟩,rfl,e7 om,trivial⟩⟩
   ·rw [lbI hz] at ze;conv=>whnf
    repeat' (first|refine zx ?_|refine f9 (f7 _ _ _) ?_|refine C1 ?_|refine f5 ?_|refine a2V rfl hr ?_|refine F9 gA1 ?_|refine o5 (f7 _ _ _) ?_|refine s8 gk ?_|refine a1G lA (J9 (y:=fz (D.A r k / D.A r s)) eK) ?_|apply zD<;>intro<;>try omega)<;>conv=>whnf
    all_goals first|omega|exact ⟨hlt,trivial,idR (m+7),Y1 (T':=[]) (a1q rfl rfl rfl rfl rfl rfl (by rw [X6 hlt,b2Z hr (b9P hks)];rfl)) rfl (by simp [f7]) (by intro k hk;simp at hk;subst hk;exact aL0) ⟨⟨g9 om,rz⟩,rfl,rfl,⟨g9 om,rz⟩,⟨g9 om,rz⟩,rfl,e7 om,trivial⟩⟩
 ·have hke:k=n:=by omega
  subst hke;have gs1:(rF k (A1 D r s k r))[0+(s:Int).toNat]? =some (fz (D.A r s)):=by rw [eS,G4 hs,bw5]
  have i1:=O7 1 de de;have ov1:=b0q ((1:Int):Rat) (D.A r s) hp (by have:=rl1;show rl 1<=_;omega) om;conv=>whnf
  repeat' (first|refine zx ?_|refine f9 (f7 _ _ _) ?_|refine C1 ?_|refine f5 ?_|refine a2V rfl hr ?_|refine F9 gA1 ?_|refine o5 (f7 _ _ _) ?_|refine s8 gs1 ?_|refine a1G lA (J9 (y:=fz (((1:Int):Rat) / D.A r s)) eS) ?_|apply zD<;>intro<;>try omega)<;>conv=>whnf
  all_goals try omega
  refine j3 d7 (fun q=>([sP 0 0 0,eI r,eI s,J,J,J,S.c (C.ptr 1 r 0)]++Jn 77++[eI m,eI q]++Jn 97,M4 m k fr (V2 D r s q) D.G D.O D.F (A2 D r s q) [])) m tT (idR (m+6)) trivial ?_ ?_
  ·refine Y1 (T:=[]) (T':=[frX (D.A r s)]) (a1q rfl (by rw [b8a]) rfl rfl rfl rfl (by rw [b7O hr hs];rfl)) rfl (by simp [f7]) zq ⟨⟨g9 om,rz⟩,rfl,rfl,⟨g9 om,rz⟩,e7 om,e7 rfl,trivial⟩
  have eP:∀j,(D.exch r s).A r j=D.pRow r s j:=fun j=>by show (if r=r then _ else _)=_;rw [if_pos rfl]
  have har:∀j,j<k->rl (D.pRow r s j)<=30000:=fun j hj=>by rw [← eP];exact hB'.a r hr j hj
  intro q hq _;have gAr:(mF m k (A2 D r s q))[r]? =some (rF k (D.pRow r s)):=by rw [U0 hr,bv8]
  by_cases hqm:q<m
  ·have eQ:0+(q:Int).toNat=q:=by omega
   have lQ:q<(mF m k (A2 D r s q)).length:=by rw [f7];exact hqm
   have ze:=am6 (D.A q s);by_cases hqr:q=r
   ·subst hqr;conv=>whnf
    repeat' (first|refine zx ?_|refine f9 (f7 _ _ _) ?_|refine C1 ?_|refine f5 ?_|apply zD<;>intro<;>try omega)<;>conv=>whnf
    all_goals first|omega|exact ⟨hqm,trivial,idR (m+6),Y1 (T:=[]) (T':=[]) (a1q rfl (by rw [← b7V]) rfl rfl rfl rfl (by rw [← b9g];rfl)) rfl (by simp [f7]) zq ⟨⟨g9 om,rz⟩,rfl,rfl,⟨g9 om,rz⟩,rfl,e7 om,trivial⟩⟩
   ·have gAq:(mF m k (A2 D r s q))[q]? =some (rF k (D.A q)):=by rw [U0 hqm,ba3 hqr]
    have gqs:(rF k (D.A q))[0+(s:Int).toNat]? =some (fz (D.A q s)):=by rw [eS,G4 hs]
    by_cases hz:D.A q s=0
    ·rw [lbG hz] at ze;conv=>whnf
     repeat' (first|refine zx ?_|refine f9 (f7 _ _ _) ?_|refine C1 ?_|refine f5 ?_|refine a2V eQ hqm ?_|refine F9 gAq ?_|refine s8 gqs ?_|apply zD<;>intro<;>try omega)<;>conv=>whnf
     all_goals first|omega|exact ⟨hqm,trivial,idR (m+6),Y1 (T:=[]) (T':=[]) (a1q rfl (by rw [← b87 hqr hz]) rfl rfl rfl rfl (by rw [← b9X hqr hz];rfl)) rfl (by simp [f7]) zq ⟨⟨g9 om,rz⟩,rfl,rfl,⟨g9 om,rz⟩,rfl,e7 om,trivial⟩⟩
    ·rw [lbI hz] at ze;have b1:=hB.v q hqm;have b2:=hB.a q hqm s hs;have b3:=hB'.v r hr;have haq:∀j,j<k->rl (D.A q j)<=30000:=hB.a q hqm;have le:=b1v (V2 D r s q q) (D.A q s) (V2 D r s q r) (by rw [b6I hqr];omega) om (by rw [br8];have e:(D.exch r s).V r=D.V r / D.A r s:=(by show (if r=r then _ else _)=_;rw [if_pos rfl]);rw [← e];omega);conv=>whnf
     repeat' (first|refine zx ?_|refine qp E4 ?_|refine f9 (f7 _ _ _) ?_|refine C1 ?_|refine f5 ?_|refine a2V eQ hqm ?_|refine a2V rfl hr ?_|refine F9 gAq ?_|refine s8 gqs ?_|refine aG8 (by show _<(V8 _ _ _ _).length;rw [E4];omega) ?_|refine b9I om (a2V rfl hr ?_)|refine .inr ⟨_,_,b1Z (ia:=q+6) (ir:=r+6) om (E3 gAq) (E3 gAr) hn hs haq har,?_⟩|apply zD<;>intro<;>try omega)<;>conv=>whnf
     all_goals first|omega|exact ⟨hqm,trivial,idR (m+6),Y1 (T:=[]) (T':=[]) (a1q rfl (av7 (v:=V2 D r s q q - D.A q s*V2 D r s q r) eQ hqm rfl (by rw [b6I hqr,br8];exact b2K hqr)) rfl rfl rfl rfl (by rw [b50 lQ,b2Z hqm (b2i hqr)];rfl)) rfl (by simp [f7]) zq ⟨⟨g9 om,rz⟩,rfl,rfl,⟨g9 om,rz⟩,rfl,e7 om,trivial⟩⟩
  ·have hqe:q=m:=by omega
   subst hqe;have ggs:(rF k D.G)[0+(s:Int).toNat]? =some (fz (D.G s)):=by rw [eS,G4 hs]
   have ze:=am6 (D.G s);have eL:a13 6 q k (V2 D r s q)=a13 6 q k (D.exch r s).V:=by
    have:V8 6 q k (V2 D r s q)=V8 6 q k (D.exch r s).V:=lbp fun i hi=>by rw [bg4 (lbA.1 hi)]
    unfold a13;rw [this]
   have eA:mF q k (A2 D r s q)=mF q k (D.exch r s).A:=aY9 fun i hi j _=>bd9 hi
   have eO:U8 q (fun i=>if i=r then D.F s else D.O i)=U8 q (D.exch r s).O:=rfl;have eF:U8 k (fun j=>if j=s then D.O r else D.F j)=U8 k (D.exch r s).F:=rfl;have e0:a0u q k fr (D.exch r s)=M4 q k fr (D.exch r s).V (D.exch r s).G (D.exch r s).O (D.exch r s).F (D.exch r s).A []:=by
    show _::_::_::_::_::_::_=_::_::_::_::_::_::(_++[]);rw [a0x]
   by_cases hz:D.G s=0
   ·have eG:(D.exch r s).G=D.G:=by have:=aS0 (row:=D.pRow r s) hz;exact this
    rw [lbG hz] at ze;conv=>whnf
    repeat' (first|refine zx ?_|refine f9 (f7 _ _ _) ?_|refine C1 ?_|refine f5 ?_|refine s8 ggs ?_|refine M5 eR hr ?_|refine M5 eS hs ?_|refine bl0 [9] ?_|apply zD<;>intro<;>try omega)<;>conv=>whnf
    all_goals first|omega|(rw [e0];exact aj2 (T:=[]) (a1q rfl eL (by rw [eG]) (a3y eR hr) (a3y eS hs) rfl (by rw [eA])) rfl (by simp [f7]) trivial)
   ·have eG:(D.exch r s).G=tkA D.G (D.pRow r s) s:=rfl;rw [lbI hz] at ze;conv=>whnf
    repeat' (first|refine zx ?_|refine f9 (f7 _ _ _) ?_|refine C1 ?_|refine f5 ?_|refine s8 ggs ?_|refine a2V rfl hr ?_|refine M5 eR hr ?_|refine M5 eS hs ?_|refine bl0 [9] ?_|refine .inr ⟨_,_,b1Z (ia:=2) (ir:=r+6) om rfl (E3 gAr) hn hs hB.g har,?_⟩|apply zD<;>intro<;>try omega)<;>conv=>whnf
    all_goals first|omega|(rw [e0];exact aj2 (T:=[]) (a1q rfl eL (by rw [eG]) (a3y eR hr) (a3y eS hs) rfl (by rw [eA])) rfl (by simp [f7]) trivial)
def aH3 {H:Hp} {p:Nat->Prop} {ys:List C} {us:List T} (h2:VYL H p ys us):∀{ts:List T},VYL H p (ts.map C.t++ys) (ts++us)
 |[]=>h2
 |t::r=>⟨aN3,aH3 h2⟩
def b7B {m n:Nat} {fr:LB} {D:Fd} {X:Hp}:VY (M4 m n fr D.V D.G D.O D.F D.A X) tT (.own 1 0 m true) (.sl 5 .any (a9M m n D)):=by
 refine b18 (k:=a13 6 m n D.V) trivial rfl (fun h=>h) rfl (a6b m n D) ?_ ?_
 ·intro r hr;obtain ⟨i,_,rfl⟩:=lbw.1 hr
  rfl
 ·intro i r hi;have him:i<m:=by have:=(lbe.1 hi).1;rwa [a6b] at this
  rw [a9j him] at hi;injection hi with hi;subst hi;refine ⟨_,a3k him,?_⟩;show VYL _ _ ((o4 (fz (D.V i))).map C.t++[C.own (i+6) 0 n true]) _;have hv:VY (M4 m n fr D.V D.G D.O D.F D.A X) tT (C.own (i+6) 0 n true) (T.sl 4 .any ((rF n (D.A i)).map o4)):=
   .vc (u5 (k:=flB (rF n (D.A i))) trivial (E3 (U0 him)) (fun h=>h) rfl rfl (by simp [L1]))
  exact aH3 (ys:=[C.own (i+6) 0 n true]) (us:=[T.sl 4 .any ((rF n (D.A i)).map o4)]) (show _∧True from ⟨hv,trivial⟩)
def bk3 {m n:Nat} {fr:LB} {D:Fd} {X:Hp}:VY (M4 m n fr D.V D.G D.O D.F D.A X) tT (.ptr 0 0 0) (.ptr (b9Q m n fr D)):=by
 refine ap9 (k:=b1R m n fr.length) trivial rfl (fun h=>h) rfl ⟨aN3,b7B,?_,?_,?_,?_,trivial⟩
 ·exact .vc (u5 (k:=flB (rF n D.G)) trivial rfl (fun h=>h) rfl rfl (by simp [L1]))
 ·exact .vc (u5 (k:=Q0 m D.O) trivial rfl (fun h=>h) rfl rfl (by simp [m6]))
 ·exact .vc (u5 (k:=Q0 n D.F) trivial rfl (fun h=>h) rfl rfl (by simp [m6]))
 ·exact .vc (u5 (k:=a1Q fr) trivial rfl (fun h=>h) rfl rfl (by simp [a0y]))
abbrev bxD:Blk:={ mode:=.live,elem:=233,size:=1,rows:=[[.ptr 0 0 0]],box:=true }
abbrev bxI (i:Int):Blk:={ mode:=.live,elem:=3,size:=1,rows:=[[.t (ti i)]],box:=true }
def aJ7 {m n:Nat} {fr:LB} {D:Fd} {X:Hp}:VY (M4 m n fr D.V D.G D.O D.F D.A (bxD::X)) tT (.ptr (m+6) 0 0) (a7c m n fr D):=by
 refine ap9 (k:=bxD) trivial ?_ (fun h=>h) rfl ⟨bk3,trivial⟩;show (((mF m n D.A).map flB)++bxD::X)[m]? =_;rw [lbc (by simp [f7])];simp [f7]
def b5A {m n t:Nat} {fr:LB} {D:Fd} {X:Hp} {i:Int} (h:X[t]? =some (bxI i)):VY (M4 m n fr D.V D.G D.O D.F D.A X) tT (.ptr (m+6+t) 0 0) (.ptr [ti i]):=by
 refine ap9 (k:=bxI i) trivial ?_ (fun h=>h) rfl ⟨aN3,trivial⟩;show (M4 m n fr D.V D.G D.O D.F D.A X)[m+6+t]? =_;rw [show m+6+t=m+t+6 by omega];show (((mF m n D.A).map flB)++X)[m+t]? =_;rw [lbc (by simp [f7])];simpa [f7] using h
def bo5 {m n:Nat} {fr:LB} {D:Fd} {X:Hp}:VYS (M4 m n fr D.V D.G D.O D.F D.A X) tT (.c (.own 3 0 m true)) (a7v m D.O):=.vc (u5 (k:=Q0 m D.O) trivial rfl (fun h=>h) rfl rfl (by simp [m6]))
def bq3 {m n:Nat} {fr:LB} {D:Fd} {X:Hp}:VYS (M4 m n fr D.V D.G D.O D.F D.A X) tT (.c (.own 4 0 n true)) (a7v n D.F):=.vc (u5 (k:=Q0 n D.F) trivial rfl (fun h=>h) rfl rfl (by simp [m6]))
def af3 {m n:Nat} {fr:LB} {D:Fd} {r s:Nat} (X:Hp) (h:ec 297 [.c (.ptr 0 0 0),eI r,eI s] (a0u m n fr D) (.tup []) (a0u m n fr (D.exch r s))):
 ec 297 [.c (.ptr 0 0 0),eI r,eI s] (M4 m n fr D.V D.G D.O D.F D.A X) (.tup []) (M4 m n fr (D.exch r s).V (D.exch r s).G (D.exch r s).O (D.exch r s).F (D.exch r s).A X):=by
 have hl:∀{D:Fd},∀k ∈ a0u m n fr D,k.mode=.live∧k.app=false:=by
  intro D k hk;simp only [lbz] at hk;rcases hk with rfl|rfl|rfl|rfl|rfl|rfl|hk
  ·exact rz
  ·exact rz
  ·exact rz
  ·exact rz
  ·exact rz
  ·exact rz
  ·obtain ⟨l,_,rfl⟩:=lbw.1 hk;exact rz
 exact a2H (n:=m+6) X h a3p a3p (by simp [okS,okC,c9,a0j]) (fun k hk=>⟨(hl k hk).1,(hl k hk).2,a8b k hk⟩) (fun k hk=>⟨(by rw [(hl k hk).1];intro h;cases h),a8b k hk⟩) rfl rfl
def a5Z:b6g->Int × Int
 |.best=>(-1,-1)
 |.row r=>(r,-1)
 |.col s=>(-1,s)
 |.next r s=>(r,s)
def b6k {N:Nat} (h:0<N):okB N bxD:=by
 intro r hr c hc;simp at hr;subst hr;simp at hc;subst hc;exact h
def b5N (m n:Nat) (fr:LB) (D0:Fd) (g0:Nat->Rat) (hm:m<=100000) (hn:n<=1000) (h0:a4f m n D0 g0 D0) (hB:∀D,M6 m n D0 D->BdD m n 30000 D):
 ec 219 [.c (.ptr 0 0 0)] (a0u m n fr D0) (.tup [eI (a5Z (u9 m n (a3K m n D0))).1,eI (a5Z (u9 m n (a3K m n D0))).2]) (a0u m n fr (a3K m n D0)):=by
 refine ac Tryz.func219 ?_;conv=>whnf
 repeat' (first|refine zx ?_|refine a5O (f7 _ _ _) ?_|refine a3W ?_|apply zD<;>intro<;>try omega)<;>conv=>whnf
 refine p9 d7 (σ:=Fd) (fun D=>([J,S.c (C.ptr (m+6) 0 0)]++Jn 69,M4 m n fr D.V D.G D.O D.F D.A [bxD])) (fun D=>M6 m n D0 D) (fun D=>a5A m n D) D0 (idR (m+7)) a76 ?_ ?_
 ·refine Y1 (T':=[]) (a1q rfl rfl rfl rfl rfl rfl (by rw [a0x,a0x];rfl)) rfl (by simp [f7]) (by intro k hk;simp at hk;subst hk;exact b6k om) ⟨⟨g9 om,rz⟩,trivial⟩
 intro D hD;have bd:=hB D hD;have inv:a4f m n D0 g0 D:=by obtain ⟨k,hk⟩:=hD;exact W7 h0 hk
 have l1:=a6s m hm D.O (fun i=>decide (D.V i<0)) 293 [a7c m n fr D] (fun i hi=>b4f m n fr D i hi);have l2:=a6s n om D.F (fun j=>decide (0<D.G j)) 294 [a7c m n fr D] (fun j hj=>b3W m n fr D j hj);have va1:∀X,a1r (M4 m n fr D.V D.G D.O D.F D.A (bxD::X)) tT [.c (.own 3 0 m true),.c (.fn (.func 293) [.ptr (m+6) 0 0])] [a7v m D.O,.c (.t (.fn (.func 293) [a7c m n fr D]))]:=
  fun X=>⟨bo5,b2y (show _∧True from ⟨aJ7,trivial⟩),trivial⟩
 have va2:∀X,a1r (M4 m n fr D.V D.G D.O D.F D.A (bxD::X)) tT [.c (.own 4 0 n true),.c (.fn (.func 294) [.ptr (m+6) 0 0])] [a7v n D.F,.c (.t (.fn (.func 294) [a7c m n fr D]))]:=
  fun X=>⟨bq3,b2y (show _∧True from ⟨aJ7,trivial⟩),trivial⟩
 have va3:∀X (r:Nat),a1r (M4 m n fr D.V D.G D.O D.F D.A (bxD::bxI r::X)) tT [.c (.own 4 0 n true),.c (.fn (.func 295) [.ptr (m+6) 0 0,.ptr (m+7) 0 0])] [a7v n D.F,.c (.t (.fn (.func 295) [a7c m n fr D,.ptr [ti r]]))]:=
  fun X r=>⟨bq3,b2y (show _∧_∧True from ⟨aJ7,b5A (t:=1) rfl,trivial⟩),trivial⟩
 have va4:∀X (x:Int) (s:Nat),a1r (M4 m n fr D.V D.G D.O D.F D.A (bxD::bxI x::bxI s::X)) tT [.c (.own 3 0 m true),.c (.fn (.func 296) [.ptr (m+6) 0 0,.ptr (m+8) 0 0])] [a7v m D.O,.c (.t (.fn (.func 296) [a7c m n fr D,.ptr [ti s]]))]:=
  fun X x s=>⟨bo5,b2y (show _∧_∧True from ⟨aJ7,b5A (t:=2) rfl,trivial⟩),trivial⟩
 have fin0:∀(X:Hp) (r c:Int),C5 m n D=none->(r,c)=a5Z (u9 m n D)->Fin (a0u m n fr D0).length (.tup [eI r,eI c]) (M4 m n fr D.V D.G D.O D.F D.A X) (.tup [eI (a5Z (u9 m n (a3K m n D0))).1,eI (a5Z (u9 m n (a3K m n D0))).2]) (a0u m n fr (a3K m n D0)):=by
  intro X r c hn ho;have e:=b5V h0 hD hn;rw [← e,←ho];have e0:a0u m n fr D=M4 m n fr D.V D.G D.O D.F D.A []:=by
   show _::_::_::_::_::_::_=_::_::_::_::_::_::(_++[]);rw [a0x]
  rw [e0];exact aj2 (N:=m+6) rfl rfl (by simp [f7]) rz
 have go:∀(X:Hp) (env:Env) (r s:Nat),u9 m n D=.next r s->X5 (idR (m+7)) (M4 m n fr (D.exch r s).V (D.exch r s).G (D.exch r s).O (D.exch r s).F (D.exch r s).A (bxD::X)) env ([J,S.c (C.ptr (m+6) 0 0)]++Jn 69)->
  ∃ρ x',Ent (a0u m n fr D0).length ρ env (M4 m n fr (D.exch r s).V (D.exch r s).G (D.exch r s).O (D.exch r s).F (D.exch r s).A (bxD::X)) ([J,S.c (C.ptr (m+6) 0 0)]++Jn 69) (M4 m n fr x'.V x'.G x'.O x'.F x'.A [bxD])∧M6 m n D0 x'∧a5A m n x'<a5A m n D:=by
  intro X env r s hs hE;have hnx:C5 m n D=some (D.exch r s):=by unfold C5;rw [hs]
  exact ⟨idR (m+7),D.exch r s,Y1 (T:=[bxD]) (T':=X) rfl rfl (by simp [f7]) (by intro k hk;simp at hk;subst hk;exact b6k om) hE,a4k hD hnx,aq6 (b6o inv.p inv.g) hnx⟩
 have exc:∀r s:Nat,u9 m n D=.next r s->ec 297 [.c (.ptr 0 0 0),eI r,eI s] (a0u m n fr D) (.tup []) (a0u m n fr (D.exch r s)):=fun r s hs=>by
  obtain ⟨q1,q2,q3⟩:=a3A hs;exact b1t m n fr D r s hm hn q1 q2 (a4a q3) bd (hB _ (a4k hD (by unfold C5;rw [hs])))
 cases hR:B3 D.O (fun i=>decide (D.V i<0)) m with
 |none=>
  rw [hR,show leI none=-1 from rfl] at l1;cases hS:B3 D.F (fun j=>decide (0<D.G j)) n with
  |none=>
   rw [hS,show leI none=-1 from rfl] at l2;have hst:u9 m n D=.best:=by unfold u9;rw [hR,hS]
   conv=>whnf
   repeat' (first|refine zx ?_|refine .inl ⟨_,_,j9 l1 (va1 _) rfl,?_⟩|refine .inl ⟨_,_,j9 l2 (va2 _) rfl,?_⟩|refine f9 (f7 _ _ _) ?_|refine f5 ?_|refine o5 (f7 _ _ _) ?_|refine g8 (t:=1) (f7 _ _ _) ?_|refine g8 (t:=2) (f7 _ _ _) ?_|refine i7 (t:=1) (f7 _ _ _) ?_|refine i7 (t:=2) (f7 _ _ _) ?_|apply zD<;>intro<;>try omega)<;>conv=>whnf
   all_goals first
    |omega
    |exact fin0 _ _ _ (by unfold C5;rw [hst]) (by rw [hst];rfl)
  |some ss=>
   rw [hS,show leI (some ss)=ss from rfl] at l2;have hss:=(B9 hS).1;have l4:=a6s m hm D.O (fun i=>decide (0<D.A i ss)) 296 [a7c m n fr D,T.ptr [ti ss]] (fun i hi=>ax0 m n fr D i ss hi hss);cases hC:B3 D.O (fun i=>decide (0<D.A i ss)) m with
   |none=>
    rw [hC,show leI none=-1 from rfl] at l4;have hst:u9 m n D=.col ss:=by unfold u9;rw [hR,hS];show U7 m D ss=_;unfold U7;rw [hC]
    conv=>whnf
    repeat' (first|refine zx ?_|refine .inl ⟨_,_,j9 l1 (va1 _) rfl,?_⟩|refine .inl ⟨_,_,j9 l2 (va2 _) rfl,?_⟩|refine .inl ⟨_,_,j9 l4 (va4 _ _ ss) rfl,?_⟩|refine f9 (f7 _ _ _) ?_|refine f5 ?_|refine o5 (f7 _ _ _) ?_|refine g8 (t:=1) (f7 _ _ _) ?_|refine g8 (t:=2) (f7 _ _ _) ?_|refine i7 (t:=1) (f7 _ _ _) ?_|refine i7 (t:=2) (f7 _ _ _) ?_|apply zD<;>intro<;>try omega)<;>conv=>whnf
    all_goals first
     |omega
     |exact fin0 _ _ _ (by unfold C5;rw [hst]) (by rw [hst];rfl)
   |some rq=>
    rw [hC,show leI (some rq)=rq from rfl] at l4;have hst:u9 m n D=.next rq ss:=by unfold u9;rw [hR,hS];show U7 m D ss=_;unfold U7;rw [hC]
    have exr:=exc _ _ hst;conv=>whnf
    repeat' (first|refine zx ?_|refine .inl ⟨_,_,j9 l1 (va1 _) rfl,?_⟩|refine .inl ⟨_,_,j9 l2 (va2 _) rfl,?_⟩|refine .inl ⟨_,_,j9 l4 (va4 _ _ ss) rfl,?_⟩|refine .inr ⟨_,_,af3 _ exr,?_⟩|refine f9 (f7 _ _ _) ?_|refine f5 ?_|refine o5 (f7 _ _ _) ?_|refine g8 (t:=1) (f7 _ _ _) ?_|refine g8 (t:=2) (f7 _ _ _) ?_|refine i7 (t:=1) (f7 _ _ _) ?_|refine i7 (t:=2) (f7 _ _ _) ?_|apply zD<;>intro<;>try omega)<;>conv=>whnf
    all_goals first
     |omega
     |exact go _ _ _ _ hst ⟨⟨g9 om,rz⟩,trivial⟩
 |some rr=>
  rw [hR,show leI (some rr)=rr from rfl] at l1;cases hS:B3 D.F (fun j=>decide (0<D.G j)) n with
  |none=>
   rw [hS,show leI none=-1 from rfl] at l2;have hrr:=(B9 hR).1;have l3:=a6s n om D.F (fun j=>decide (D.A rr j<0)) 295 [a7c m n fr D,T.ptr [ti rr]] (fun j hj=>ax5 m n fr D rr j hrr hj);cases hC:B3 D.F (fun j=>decide (D.A rr j<0)) n with
   |none=>
    rw [hC,show leI none=-1 from rfl] at l3;have hst:u9 m n D=.row rr:=by unfold u9;rw [hR,hS];show U5 n D rr=_;unfold U5;rw [hC]
    conv=>whnf
    repeat' (first|refine zx ?_|refine .inl ⟨_,_,j9 l1 (va1 _) rfl,?_⟩|refine .inl ⟨_,_,j9 l2 (va2 _) rfl,?_⟩|refine .inl ⟨_,_,j9 l3 (va3 _ rr) rfl,?_⟩|refine f9 (f7 _ _ _) ?_|refine f5 ?_|refine o5 (f7 _ _ _) ?_|refine g8 (t:=1) (f7 _ _ _) ?_|refine g8 (t:=2) (f7 _ _ _) ?_|refine i7 (t:=1) (f7 _ _ _) ?_|refine i7 (t:=2) (f7 _ _ _) ?_|apply zD<;>intro<;>try omega)<;>conv=>whnf
    all_goals first
     |omega
     |exact fin0 _ _ _ (by unfold C5;rw [hst]) (by rw [hst];rfl)
   |some sq=>
    rw [hC,show leI (some sq)=sq from rfl] at l3;have hst:u9 m n D=.next rr sq:=by unfold u9;rw [hR,hS];show U5 n D rr=_;unfold U5;rw [hC]
    have exr:=exc _ _ hst;conv=>whnf
    repeat' (first|refine zx ?_|refine .inl ⟨_,_,j9 l1 (va1 _) rfl,?_⟩|refine .inl ⟨_,_,j9 l2 (va2 _) rfl,?_⟩|refine .inl ⟨_,_,j9 l3 (va3 _ rr) rfl,?_⟩|refine .inr ⟨_,_,af3 _ exr,?_⟩|refine f9 (f7 _ _ _) ?_|refine f5 ?_|refine o5 (f7 _ _ _) ?_|refine g8 (t:=1) (f7 _ _ _) ?_|refine g8 (t:=2) (f7 _ _ _) ?_|refine i7 (t:=1) (f7 _ _ _) ?_|refine i7 (t:=2) (f7 _ _ _) ?_|apply zD<;>intro<;>try omega)<;>conv=>whnf
    all_goals first
     |omega
     |exact go _ _ _ _ hst ⟨⟨g9 om,rz⟩,trivial⟩
  |some ss=>
   rw [hS,show leI (some ss)=ss from rfl] at l2;have hrr:=(B9 hR).1;have hss:=(B9 hS).1;by_cases hlt:D.O rr<D.F ss
   ·skip
    have l3:=a6s n om D.F (fun j=>decide (D.A rr j<0)) 295 [a7c m n fr D,T.ptr [ti rr]] (fun j hj=>ax5 m n fr D rr j hrr hj);cases hC:B3 D.F (fun j=>decide (D.A rr j<0)) n with
    |none=>
     rw [hC,show leI none=-1 from rfl] at l3;have hst:u9 m n D=.row rr:=by unfold u9 U5;rw [hR,hS];simp only [if_pos hlt];rw [hC]
     conv=>whnf
     repeat' (first|refine zx ?_|refine .inl ⟨_,_,j9 l1 (va1 _) rfl,?_⟩|refine .inl ⟨_,_,j9 l2 (va2 _) rfl,?_⟩|refine .inl ⟨_,_,j9 l3 (va3 _ rr) rfl,?_⟩|refine f9 (f7 _ _ _) ?_|refine f5 ?_|refine o5 (f7 _ _ _) ?_|refine g8 (t:=1) (f7 _ _ _) ?_|refine g8 (t:=2) (f7 _ _ _) ?_|refine i7 (t:=1) (f7 _ _ _) ?_|refine i7 (t:=2) (f7 _ _ _) ?_|refine M5 (r:=rr) om hrr ?_|refine M5 (r:=ss) om hss ?_|apply zD<;>intro<;>try omega)<;>conv=>whnf
     all_goals first
      |omega
      |exact fin0 _ _ _ (by unfold C5;rw [hst]) (by rw [hst];rfl)
    |some sq=>
     rw [hC,show leI (some sq)=sq from rfl] at l3;have hst:u9 m n D=.next rr sq:=by unfold u9 U5;rw [hR,hS];simp only [if_pos hlt];rw [hC]
     have exr:=exc _ _ hst;conv=>whnf
     repeat' (first|refine zx ?_|refine .inl ⟨_,_,j9 l1 (va1 _) rfl,?_⟩|refine .inl ⟨_,_,j9 l2 (va2 _) rfl,?_⟩|refine .inl ⟨_,_,j9 l3 (va3 _ rr) rfl,?_⟩|refine .inr ⟨_,_,af3 _ exr,?_⟩|refine f9 (f7 _ _ _) ?_|refine f5 ?_|refine o5 (f7 _ _ _) ?_|refine g8 (t:=1) (f7 _ _ _) ?_|refine g8 (t:=2) (f7 _ _ _) ?_|refine i7 (t:=1) (f7 _ _ _) ?_|refine i7 (t:=2) (f7 _ _ _) ?_|refine M5 (r:=rr) om hrr ?_|refine M5 (r:=ss) om hss ?_|apply zD<;>intro<;>try omega)<;>conv=>whnf
     all_goals first|omega|exact go _ _ _ _ hst ⟨⟨g9 om,rz⟩,trivial⟩
   ·skip
    have l4:=a6s m hm D.O (fun i=>decide (0<D.A i ss)) 296 [a7c m n fr D,T.ptr [ti ss]] (fun i hi=>ax0 m n fr D i ss hi hss);cases hC:B3 D.O (fun i=>decide (0<D.A i ss)) m with
    |none=>
     rw [hC,show leI none=-1 from rfl] at l4;have hst:u9 m n D=.col ss:=by unfold u9 U7;rw [hR,hS];simp only [if_neg hlt];rw [hC]
     conv=>whnf
     repeat' (first|refine zx ?_|refine .inl ⟨_,_,j9 l1 (va1 _) rfl,?_⟩|refine .inl ⟨_,_,j9 l2 (va2 _) rfl,?_⟩|refine .inl ⟨_,_,j9 l4 (va4 _ _ ss) rfl,?_⟩|refine f9 (f7 _ _ _) ?_|refine f5 ?_|refine o5 (f7 _ _ _) ?_|refine g8 (t:=1) (f7 _ _ _) ?_|refine g8 (t:=2) (f7 _ _ _) ?_|refine i7 (t:=1) (f7 _ _ _) ?_|refine i7 (t:=2) (f7 _ _ _) ?_|refine M5 (r:=rr) om hrr ?_|refine M5 (r:=ss) om hss ?_|apply zD<;>intro<;>try omega)<;>conv=>whnf
     all_goals first
      |omega
      |exact fin0 _ _ _ (by unfold C5;rw [hst]) (by rw [hst];rfl)
    |some rq=>
     rw [hC,show leI (some rq)=rq from rfl] at l4;have hst:u9 m n D=.next rq ss:=by unfold u9 U7;rw [hR,hS];simp only [if_neg hlt];rw [hC]
     have exr:=exc _ _ hst;conv=>whnf
     repeat' (first|refine zx ?_|refine .inl ⟨_,_,j9 l1 (va1 _) rfl,?_⟩|refine .inl ⟨_,_,j9 l2 (va2 _) rfl,?_⟩|refine .inl ⟨_,_,j9 l4 (va4 _ _ ss) rfl,?_⟩|refine .inr ⟨_,_,af3 _ exr,?_⟩|refine f9 (f7 _ _ _) ?_|refine f5 ?_|refine o5 (f7 _ _ _) ?_|refine g8 (t:=1) (f7 _ _ _) ?_|refine g8 (t:=2) (f7 _ _ _) ?_|refine i7 (t:=1) (f7 _ _ _) ?_|refine i7 (t:=2) (f7 _ _ _) ?_|refine M5 (r:=rr) om hrr ?_|refine M5 (r:=ss) om hss ?_|apply zD<;>intro<;>try omega)<;>conv=>whnf
     all_goals first|omega|exact go _ _ _ _ hst ⟨⟨g9 om,rz⟩,trivial⟩
def a1F {P:Program} {g:FuncId} {args:List S} {H:Hp} {b:Blk} {n:Nat} {app:Bool} (h:d6 P g args [] (.c (.own 0 0 n app)) [b]) (ha:args.all S.isT=true) (hm:b.mode=.live) (hb:I5 b.rows):
 X3 P g args H (.c (.own H.length 0 n app)) [b]:=by
 refine ⟨h.1,fun w ι M vals hl hv hH hM hf=>?_⟩;have:=h.2 w (fun _=>none) M vals hl (fun j s hj=>(hv j s hj).tree (lbv.1 ha s (lbm hj)))
  ⟨zq,zq,zq,zq,zq⟩ hM (fun _ _=>rfl)
 refine Calls.mono this ?_;rintro e w' ⟨v,rfl,ι',M',h1,h2,h3,h4,h5⟩;have hnl:∀x,¬a3X (fun _=>none) ([]:Hp) x:=by rintro x ⟨id,k,_,_,hk,_⟩;simp at hk
 obtain ⟨l,hl0⟩:∃l,ι' 0=some l:=by
  cases h1 with
  |c h1=>cases h1 with
   |own hi=>exact ⟨_,hi⟩
   |nil hi=>exact ⟨_,hi⟩
 have hnew:B7 ι H.length [b].length (fun _=>l) H.length=some l:=by unfold B7;simp
 have hMM:∀x,a5P M [b].length (fun _=>l) x->M' x:=by
  intro x hx;rcases hx with hx|⟨k,hk,cap,size,he⟩
  ·rcases h5.mold x hx with h|h
   ·exact h
   ·exact absurd h (hnl x)
  ·have he:l=.blk x cap size:=he;subst he;exact h2.liv 0 b rfl hm x cap size hl0
 refine ⟨v,rfl,fun _=>l,?_,⟨h5.os,h5.tape,h5.output,h5.size,fun x hx=>h5.keep x hx (hnl x)⟩,?_,?_,?_⟩
 ·cases h1 with
  |c h1=>cases h1 with
   |own hi q1 q2 q3 q4 q5=>
    rw [hl0] at hi;injection hi with hi
    subst hi;exact .c (.own hnew q1 q2 q3 q4 q5)
   |nil hi=>
    rw [hl0] at hi;injection hi with hi
    subst hi;exact .c (.nil hnew)
 ·intro k blk hk;cases k with
  |succ k=>simp at hk
  |zero=>
   simp at hk;subst hk;refine ⟨hm,?_⟩;have hbr:=h2.blk 0 b rfl (by rw [hm];intro h;cases h) l hl0;cases l with
   |nil=>exact hbr
   |blk x cap size=>
    obtain ⟨r1,r2,r3,r4,r5,cur,r6,r7,r8⟩:=hbr;refine ⟨r1,r2,r3,r4,r5,cur,r6,r7,fun i j c hc=>?_⟩;obtain ⟨u,u1,u2⟩:=r8 i j c hc;exact ⟨u,u1,ar3 hMM hb hc u2⟩
 ·intro k x cap size hk he;have he:l=.blk x cap size:=he;subst he;refine ⟨?_,h3 x (h2.liv 0 b rfl hm x cap size hl0)⟩;rcases h5.live x ⟨0,b,cap,size,rfl,hm,hl0⟩ with h|h
  ·exact absurd h (hnl x)
  ·exact h
 ·intro k k' x cap size cap' size' hk hk' _ _;simp at hk hk';omega
def b3N (H:Hp) (n:Nat) (hn:n<=1000):X3 Tryz.prog 289 [eI n] H (.c (.own H.length 0 n true)) [flB (rF n fun _=>0)]:=
 a1F (b8K n hn) rfl rfl (i5 _)
def a5L (l:List (Int × Rat)):Nat->Nat->Rat
 |0=>y5 l
 |k+1=>match l[k]? with
  |none=>a5L l k
  |some t=>fun j=>if j=t.1.toNat then -t.2 else a5L l k j
def aA3 {l:List (Int × Rat)} {k:Nat} {t:Int × Rat} (h:l[k]? =some t):a5L l (k+1)=fun j=>if j=t.1.toNat then -t.2 else a5L l k j:=by rw [a5L,h]
def b35 (l:List (Int × Rat)) (j:Nat):∀k,k<=l.length->a5L l k j=-(J5 l k j)∨(J5 l k j=0∧a5L l k j=y5 l j)
 |0,_=>.inr rz
 |k+1,hk=>by
  obtain ⟨t,ht⟩:∃t,l[k]? =some t:=⟨_,lbf om⟩;rw [aA3 ht,G0 ht];simp only;by_cases hj:j=t.1.toNat
  ·rw [if_pos hj,if_pos hj];exact .inl rfl
  ·rw [if_neg hj,if_neg hj];exact b35 l j k om
def b5M (l:List (Int × Rat)):a5L l l.length=fun j=>-(y5 l j):=by
 funext j;rcases b35 l j l.length (lbQ _) with h|⟨h1,h2⟩
 ·exact h
 ·rw [h2];have:y5 l j=0:=h1;rw [this];decide
def sgF (b:Bool) (l:List (Int × Rat)):Nat->Rat:=fun j=>O4 b (y5 l j)
end Go.Proofs.YtikokmdpigploaaGreat
