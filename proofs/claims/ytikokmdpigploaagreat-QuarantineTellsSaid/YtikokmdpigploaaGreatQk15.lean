/- Part 15. -/
import Derived.Test.YtikokmdpigploaaGreatQk14
namespace Go.Proofs.YtikokmdpigploaaGreat
set_option linter.all false
set_option maxRecDepth 100000
set_option maxHeartbeats 8000000
open Go.RowKit
open St1 St2 St3 St4 St5 St6 St7 St8 StA StB StC
def u3:List (Int × Rat)->List (Int × Rat)->List (Int × Rat)
 |[],b=>b
 |t::r,[]=>t::r
 |t::r,u::q=>if t.1<u.1 then t::u3 r (u::q) else if u.1<t.1 then u::u3 (t::r) q else if t.2+u.2=0 then u3 r q else (t.1,t.2+u.2)::u3 r q
termination_by a b=>a.length+b.length
def a0e {last n:Int} {t:Int × Rat} {r:List (Int × Rat)} (h1:last<t.1) (h2:t.1<n) (h3:t.2≠0) (h4:j9 t.1 n r=true):j9 last n (t::r)=true:=by
 unfold j9;simp only [lbO,lbJ];exact ⟨⟨⟨h1,h2⟩,h3⟩,h4⟩
def am1 {n:Int}:∀(k:Nat) {last:Int} {a b:List (Int × Rat)},a.length+b.length<=k->-1<=last->j9 last n a=true->j9 last n b=true->
 j9 last n (u3 a b)=true∧∀v,A7 (u3 a b) v=A7 a v+A7 b v:=by
 intro k;induction k with
 |zero=>
  intro last a b hk h0 ha hb;have:a=[]:=a0I.1 om;have:b=[]:=a0I.1 om;subst a b;rw [u3];exact ⟨rfl,fun v=>by show (0:Rat)=0+0;grind⟩
 |succ k ih=>
  intro last a b hk h0 ha hb
  match a,b with
  |[],b=>rw [u3];exact ⟨hb,fun v=>by show _=(0:Rat)+_;grind⟩
  |t::r,[]=>rw [u3];exact ⟨ha,fun v=>by show _=_+(0:Rat);grind⟩
  |t::r,u::q=>
   have mt:=E7 ha t (a2T ..);have mu:=E7 hb u (a2T ..);simp only [lbu] at hk;rw [u3];by_cases h1:t.1<u.1
   ·rw [if_pos h1];have hb':j9 t.1 n (u::q)=true:=a0e h1 mu.2.1 mu.2.2 (a1f hb);obtain ⟨i1,i2⟩:=ih (last:=t.1) (a:=r) (b:=u::q) (by simp only [lbu];omega) om (a1f ha) hb';have hr:=a0e mt.1 mt.2.1 mt.2.2 i1;refine ⟨hr,fun v=>?_⟩;rw [Y0 h0 hr,Y0 h0 ha,i2];by_cases hv:v=t.1.toNat
    ·rw [if_pos hv,if_pos hv,al1 (v:=v) om hb' om];grind
    ·rw [if_neg hv,if_neg hv]
   ·rw [if_neg h1];by_cases h2:u.1<t.1
    ·rw [if_pos h2];have ha':j9 u.1 n (t::r)=true:=a0e h2 mt.2.1 mt.2.2 (a1f ha);obtain ⟨i1,i2⟩:=ih (last:=u.1) (a:=t::r) (b:=q) (by simp only [lbu];omega) om ha' (a1f hb);have hr:=a0e mu.1 mu.2.1 mu.2.2 i1;refine ⟨hr,fun v=>?_⟩;rw [Y0 h0 hr,Y0 h0 hb,i2];by_cases hv:v=u.1.toNat
     ·rw [if_pos hv,if_pos hv,al1 (v:=v) om ha' om];grind
     ·rw [if_neg hv,if_neg hv]
    ·rw [if_neg h2];have he:t.1=u.1:=om;have hq':=a1f hb;rw [← he] at hq';obtain ⟨i1,i2⟩:=ih (last:=t.1) (a:=r) (b:=q) om om (a1f ha) hq';by_cases h3:t.2+u.2=0
     ·rw [if_pos h3];refine ⟨aW5 om i1,fun v=>?_⟩;rw [Y0 h0 ha,Y0 h0 hb,←he];by_cases hv:v=t.1.toNat
      ·rw [if_pos hv,if_pos hv,al1 (v:=v) om i1 om];grind
      ·rw [if_neg hv,if_neg hv,i2]
     ·rw [if_neg h3];have hr:=a0e (t:=(t.1,t.2+u.2)) mt.1 mt.2.1 h3 i1;refine ⟨hr,fun v=>?_⟩;rw [Y0 h0 hr,Y0 h0 ha,Y0 h0 hb,←he,i2];by_cases hv:v=t.1.toNat
      ·simp only [if_pos hv]
      ·simp only [if_neg hv]
def b7w {n:Nat} {a b:List (Int × Rat)} (ha:j9 (-1) (n:Int) a=true) (hb:j9 (-1) (n:Int) b=true) (z:List Rat):n8 (u3 a b) z=n8 a z+n8 b z:=by
 obtain ⟨h1,h2⟩:=am1 (a.length+b.length) (lbS _) (ab0 _) ha hb;rw [P9 h1,P9 ha,P9 hb,←a1s];exact j7 fun j hj=>by rw [h2];grind
def a1e (B:Nat) (l:List (Int × Rat)):Prop:=∀t ∈ l,∃c:Int,t.2=((c:Int):Rat)∧c.natAbs<=B
def b2p:∀(k:Nat) {A B:Nat} {a b:List (Int × Rat)},a.length+b.length<=k->a1e A a->a1e B b->a1e (A+B) (u3 a b):=by
 intro k;have up:∀{X Y:Nat} {l:List (Int × Rat)},X<=Y->a1e X l->a1e Y l:=fun h hl t ht=>by
  obtain ⟨c,h1,h2⟩:=hl t ht;exact ⟨c,h1,om⟩
 have tl:∀{X:Nat} {t:Int × Rat} {l:List (Int × Rat)},a1e X (t::l)->a1e X l:=fun h u hu=>h u (a20 _ hu)
 have cons:∀{X:Nat} {t:Int × Rat} {l:List (Int × Rat)},(∃ c:Int,t.2=((c:Int):Rat)∧c.natAbs<=X)->a1e X l->a1e X (t::l):=fun h hl u hu=>by
  rcases lbB.1 hu with rfl|hu
  ·exact h
  ·exact hl u hu
 induction k with
 |zero=>
  intro A B a b hk ha hb;have:a=[]:=a0I.1 om;have:b=[]:=a0I.1 om;subst a b;rw [u3];exact up om hb
 |succ k ih=>
  intro A B a b hk ha hb
  match a,b with
  |[],b=>rw [u3];exact up om hb
  |t::r,[]=>rw [u3];exact up om ha
  |t::r,u::q=>
   simp only [lbu] at hk;obtain ⟨c,hc,hcb⟩:=ha t (a2T ..);obtain ⟨d,hd,hdb⟩:=hb u (a2T ..);rw [u3];split
   ·exact cons ⟨c,hc,om⟩ (ih (by simp only [lbu];omega) (tl ha) hb)
   ·split
    ·exact cons ⟨d,hd,om⟩ (ih (by simp only [lbu];omega) ha (tl hb))
    ·split
     ·exact ih om (tl ha) (tl hb)
     ·refine cons ⟨c+d,by show t.2+u.2=_;rw [hc,hd];push_cast;rfl,?_⟩ (ih om (tl ha) (tl hb));have:=Int.natAbs_add_le c d;omega
noncomputable def V8 (s:j2) (g:List (Int × Rat)):List Rat:=match X7 s (C4 g) with
 |.col c=>Z3 (u9 s []) (a1W s (C4 g) c)
 |_=>u9 s (C4 g)
structure aE2 (s:j2) (g:List (Int × Rat)):Prop where
 r:n7 s=true
 z:X7 s []=.best
 t:j9 (-1) ((s.n.toNat:Nat):Int) g=true
 p:∀z,m9 s z=true->0<=n8 g z
def aE2.og {s:j2} {g:List (Int × Rat)} (h:aE2 s g):j9 (-1) ((s.n.toNat:Nat):Int) (C4 g)=true:=Y1 h.t
def am7 {s:j2} {g:List (Int × Rat)} (h:aE2 s g):m9 s (V8 s g)=true∧((∃ z,m9 s z=true∧0<n8 g z)->0<n8 g (V8 s g)):=by
 have h0:=(a1A h.r rfl h.z).1;unfold V8;rcases aO3 (g:=C4 g) h.r h.z with ho|⟨c,ho⟩
 ·rw [ho];simp only;obtain ⟨p1,p2⟩:=a1A h.r h.og ho;refine ⟨p1,fun ⟨z,hz,hp⟩=>?_⟩;have:=p2 z hz;rw [a0M (s:=s) (g:=g),a0M (s:=s) (g:=g)] at this;grind
 ·rw [ho];simp only;obtain ⟨h1,h2⟩:=ah1 h.r h.og ho;refine ⟨aD6 h0 h1,fun _=>?_⟩;have h3:=S1 h0;have hn:=L3 h.r;rw [a2k (n:=s.n.toNat) om h1.len h.t];rw [a0M (s:=s) (g:=g)] at h2;have:=h.p _ h0;grind
def G4 (gL:List (List (Int × Rat))) (out:List Bool):Nat->List (Int × Rat)
 |0=>[]
 |k+1=>if out.getD k false=true then G4 gL out k else u3 (G4 gL out k) (gL.getD k [])
noncomputable def a1Q (s:j2) (gL:List (List (Int × Rat))) (out:List Bool):List Rat:=V8 s (G4 gL out gL.length)
def a14 (g:List (Int × Rat)) (x:List Rat):Bool:=decide (0<n8 g x)
noncomputable def aG9 (s:j2) (gL:List (List (Int × Rat))) (out:List Bool):List Bool:=(List.range gL.length).map fun i=>out.getD i false || a14 (gL.getD i []) (a1Q s gL out)
noncomputable def y3 (s:j2) (gL:List (List (Int × Rat))):Nat->List Bool
 |0=>List.replicate gL.length false
 |k+1=>aG9 s gL (y3 s gL k)
noncomputable def a13 (s:j2) (gL:List (List (Int × Rat))):Nat->List Rat
 |0=>a1Q s gL (y3 s gL 0)
 |k+1=>Z3 (a13 s gL k) (a1Q s gL (y3 s gL (k+1)))
def L6 (s:j2) (gL:List (List (Int × Rat))):∀k,(y3 s gL k).length=gL.length
 |0=>by simp [y3]
 |k+1=>by simp [y3,aG9]
def a2W {s:j2} {gL:List (List (Int × Rat))} {k i:Nat} (hi:i<gL.length):(y3 s gL (k+1)).getD i false=((y3 s gL k).getD i false || a14 (gL.getD i []) (a1Q s gL (y3 s gL k))):=by
 show (aG9 s gL (y3 s gL k)).getD i false=_;unfold aG9;rw [lbl];simp [hi]
def a1r {a b:List Bool} (hl:a.length=b.length) (h:∀i,i<a.length->a.getD i false=b.getD i false):a=b:=by
 refine b37 hl fun i h1 h2=>?_
 have:=h i h1;rwa [lbl,lbl,lbf h1,lbf h2] at this
def a8r:List Bool->Nat
 |[]=>0
 |b::l=>(if b then 1 else 0)+a8r l
def aR3:∀l:List Bool,a8r l<=l.length
 |[]=>by simp [a8r]
 |b::l=>by
  have:=aR3 l;cases b<;>simp [a8r]<;>omega
def a9S:∀{a b:List Bool},a.length=b.length->(∀ i,a.getD i false=true->b.getD i false=true)->a8r a<=a8r b∧(a≠b->a8r a<a8r b)
 |[],[],_,_=>⟨lbS _,fun h=>absurd rfl h⟩
 |x::a,y::b,hl,h=>by
  have ih:=a9S (a:=a) (b:=b) (by simpa using hl) (fun i hi=>by have:=h (i+1);simpa using this (by simpa using hi));have h0:=h 0;simp only [List.getD_cons_zero] at h0;refine ⟨?_,fun hne=>?_⟩
  ·cases x<;>cases y<;>simp [a8r] at * <;>omega
  ·cases x<;>cases y<;>simp [a8r] at * <;>first|omega|(have:=ih.2 hne;omega)
def b56 {s:j2} {gL:List (List (Int × Rat))} {k i:Nat} (h:(y3 s gL k).getD i false=true):(y3 s gL (k+1)).getD i false=true:=by
 by_cases hi:i<gL.length
 ·rw [a2W hi,h];rfl
 ·rw [lbl,lbd (by rw [L6];omega)] at h;cases h
def aY8 {s:j2} {gL:List (List (Int × Rat))}:∀k,(∀ j,j<k->y3 s gL (j+1)≠y3 s gL j)->k<=a8r (y3 s gL k)
 |0,_=>J0 _
 |k+1,h=>by
  have ih:=aY8 (s:=s) (gL:=gL) k fun j hj=>h j om
  have:=(a9S (a:=y3 s gL k) (b:=y3 s gL (k+1)) (by rw [L6,L6]) fun i hi=>b56 hi).2 fun e=>h k om e.symm
  omega
def a5E {s:j2} {gL:List (List (Int × Rat))} {k:Nat} (h:∀j,j<k->y3 s gL (j+1)≠y3 s gL j):k<=gL.length:=by
 have h1:=aY8 k h;have h2:=aR3 (y3 s gL k);rw [L6] at h2;omega
def b6j (s:j2) (gL:List (List (Int × Rat))) (k:Nat):Prop:=y3 s gL (k+1)=y3 s gL k∧∀j,j<k->y3 s gL (j+1)≠y3 s gL j
def bd0 (s:j2) (gL:List (List (Int × Rat))):∃k,b6j s gL k:=by
 by_cases h:∃k,y3 s gL (k+1)=y3 s gL k
 ·obtain ⟨k,hk,hmin⟩:=a2B (fun k=>y3 s gL (k+1)=y3 s gL k) h;exact ⟨k,hk,fun j hj e=>by have:=hmin j e;omega⟩
 ·have:=a5E (s:=s) (gL:=gL) (k:=gL.length+1) fun j _ e=>h ⟨j,e⟩
  omega
noncomputable def a1P (s:j2) (gL:List (List (Int × Rat))):Nat:=Classical.epsilon fun k=>b6j s gL k
def a6Y (s:j2) (gL:List (List (Int × Rat))):b6j s gL (a1P s gL):=aq6 (bd0 s gL)
def b3j {s:j2} {gL:List (List (Int × Rat))} {k:Nat} (h1:y3 s gL (k+1)=y3 s gL k) (h2:∀j,j<k->y3 s gL (j+1)≠y3 s gL j):k=a1P s gL:=by
 obtain ⟨a,b⟩:=a6Y s gL;rcases av9 k (a1P s gL) with h|h|h
 ·exact absurd h1 (b k h)
 ·exact h
 ·exact absurd a (h2 _ h)
noncomputable def isF (s:j2) (gL:List (List (Int × Rat))):List Bool:=y3 s gL (a1P s gL)
noncomputable def ap2 (s:j2) (gL:List (List (Int × Rat))):List Rat:=(a13 s gL (a1P s gL)).map fun v=>v*Rat.divInt 1 ((a1P s gL+1:Nat):Int)
structure a1b (s:j2) (gL:List (List (Int × Rat))):Prop where
 r:n7 s=true
 z:X7 s []=.best
 g:∀g ∈ gL,j9 (-1) ((s.n.toNat:Nat):Int) g=true
 p:∀g ∈ gL,∀z,m9 s z=true->0<=n8 g z
def N3 {gL:List (List (Int × Rat))} {k:Nat} (h:k<gL.length):gL.getD k [] ∈ gL:=by
 rw [lbl,lbf h];exact lbF h
def W7 {s:j2} {gL:List (List (Int × Rat))} (h:a1b s gL) (out:List Bool):∀k,k<=gL.length->j9 (-1) ((s.n.toNat:Nat):Int) (G4 gL out k)=true
 |0,_=>rfl
 |k+1,hk=>by
  have ih:=W7 h out k om;unfold G4;split
  ·exact ih
  ·exact (am1 _ (lbS _) (ab0 _) ih (h.g _ (N3 om))).1
def a6y {s:j2} {gL:List (List (Int × Rat))} (h:a1b s gL) (out:List Bool) (z:List Rat):∀k,k<=gL.length->n8 (G4 gL out k) z=k7 (fun i=>if out.getD i false=true then 0 else n8 (gL.getD i []) z) k
 |0,_=>rfl
 |k+1,hk=>by
  have ih:=a6y h out z k om;show _=k7 _ k+(if out.getD k false=true then 0 else n8 (gL.getD k []) z);unfold G4;by_cases ho:out.getD k false=true
  ·rw [if_pos ho,if_pos ho,ih];grind
  ·rw [if_neg ho,if_neg ho,b7w (W7 h out k om) (h.g _ (N3 om)),ih]
def ak1 {s:j2} {gL:List (List (Int × Rat))} (h:a1b s gL) (out:List Bool):aE2 s (G4 gL out gL.length):=
 ⟨h.r,h.z,W7 h out _ (lbS _),fun z hz=>by
   rw [a6y h out z _ (lbS _)];exact a2z fun i hi=>by
    split
    ·exact lb4
    ·exact h.p _ (N3 hi) z hz⟩
def a6B {s:j2} {gL:List (List (Int × Rat))} (h:a1b s gL) (out:List Bool):m9 s (a1Q s gL out)=true:=(am7 (ak1 h out)).1
def aT6 {s:j2} {gL:List (List (Int × Rat))} (h:a1b s gL) {i:Nat} (hi:i<gL.length):∀k,(y3 s gL k).getD i false=true->∃z,m9 s z=true∧0<n8 (gL.getD i []) z
 |0,ho=>by
  exfalso;unfold y3 at ho;rw [lbl] at ho;simp [hi] at ho
 |k+1,ho=>by
  rw [a2W hi] at ho;cases hk:(y3 s gL k).getD i false with
  |true=>exact aT6 h hi k hk
  |false=>
   rw [hk,a4M] at ho;exact ⟨_,a6B h _,lbM ho⟩
def aN5 {s:j2} {gL:List (List (Int × Rat))} (h:a1b s gL) {i:Nat} (hi:i<gL.length):(isF s gL).getD i false=true↔∃z,m9 s z=true∧0<n8 (gL.getD i []) z:=by
 constructor
 ·exact aT6 h hi _
 ·rintro ⟨z,hz,hp⟩;cases ho:(isF s gL).getD i false with
  |true=>rfl
  |false=>
   exfalso;have hl:=(a6Y s gL).1;have ho':(y3 s gL (a1P s gL)).getD i false=false:=ho;have hall:0<n8 (G4 gL (y3 s gL (a1P s gL)) gL.length) z:=by
    rw [a6y h _ z _ (lbS _)];refine b3P (s:=i) (fun j hj=>?_) hi ?_
    ·split
     ·exact lb4
     ·exact h.p _ (N3 hj) z hz
    ·rw [ho',if_neg de];exact hp
   have hx:=(am7 (ak1 h (y3 s gL (a1P s gL)))).2 ⟨z,hz,hall⟩;rw [a6y h _ _ _ (lbS _)] at hx;obtain ⟨j,hj,hpj⟩:=b45 hx;cases hoj:(y3 s gL (a1P s gL)).getD j false with
   |true=>rw [hoj,if_pos rfl] at hpj;exact absurd hpj zk
   |false=>
    rw [hoj,if_neg de] at hpj;have h2:(y3 s gL (a1P s gL+1)).getD j false=true:=by
     rw [a2W hj,hoj,a4M];exact lbI hpj
    rw [hl,hoj] at h2;cases h2
structure a9J (s:j2) (c:Rat) (z:List Rat):Prop where
 r:n7 s=true
 l:(z.length:Int)=s.n
 p:∀v ∈ z,0<=v
 w:∀w ∈ s.rows,(w.kind≠1->c*w.value<=n8 w.terms z)∧(w.kind≠0->n8 w.terms z<=c*w.value)
def as5 {s:j2} {z:List Rat} (h:m9 s z=true):a9J s 1 z:=by
 obtain ⟨h1,h2,h3,h4⟩:=Y3.1 h;exact ⟨h1,h2,h3,fun w hw=>by
  obtain ⟨a,b⟩:=h4 w hw;have e:(1:Rat)*w.value=w.value:=zg;rw [e];exact ⟨a,b⟩⟩
def b2c {s:j2} {c d:Rat} {x y:List Rat} (hx:a9J s c x) (hy:a9J s d y):a9J s (c+d) (Z3 x y):=by
 have hn:=L3 hx.r;have lx:x.length=s.n.toNat:=by have:=hx.l;omega
 have ly:y.length=s.n.toNat:=by have:=hy.l;omega
 have ll:=a1G lx ly;refine ⟨hx.r,om,fun v hv=>?_,fun w hw=>?_⟩
 ·obtain ⟨j,hj,rfl⟩:=X4 hv;have e:=a4e lx ly (j:=j) om;rw [lbl,lbf hj] at e;have e:(Z3 x y)[j]=x.getD j 0+y.getD j 0:=e;rw [e];have h1:0<=x.getD j 0:=by rw [lbl,lbf om];exact hx.p _ (lbF _)
  have h2:0<=y.getD j 0:=by rw [lbl,lbf om];exact hy.p _ (lbF _)
  grind
 ·obtain ⟨i,hi,rfl⟩:=X4 hw;have hrt:=(Y4 hx.r (lbf hi)).1;rw [a2k lx ly hrt];obtain ⟨a1,a2⟩:=hx.w _ (lbF hi);obtain ⟨b1,b2⟩:=hy.w _ (lbF hi);have e:(c+d)*s.rows[i].value=c*s.rows[i].value+d*s.rows[i].value:=zg;rw [e];exact ⟨fun h=>by have:=a1 h;have:=b1 h;grind,fun h=>by have:=a2 h;have:=b2 h;grind⟩
def aq1 {n:Nat} {l:List (Int × Rat)} {x:List Rat} (k:Rat) (hl:x.length=n) (h:j9 (-1) (n:Int) l=true):n8 l (x.map fun v=>v*k)=k*n8 l x:=by
 rw [P9 h,P9 h,←G1];refine j7 fun j hj=>?_
 have:(x.map fun v=>v*k).getD j 0=x.getD j 0*k:=by
  rw [lbl,lba,lbl,lbf om];rfl
 rw [this];grind
def aN8 {s:j2} {c k:Rat} {x:List Rat} (hx:a9J s c x) (k0:0<=k) (h:k*c=1):m9 s (x.map fun v=>v*k)=true:=by
 have hn:=L3 hx.r;have lx:x.length=s.n.toNat:=by have:=hx.l;omega
 refine Y3.2 ⟨hx.r,by simpa using hx.l,fun v hv=>?_,fun w hw=>?_⟩
 ·obtain ⟨u,hu,rfl⟩:=lby.1 hv;exact lb2 (hx.p u hu) k0
 ·obtain ⟨i,hi,rfl⟩:=X4 hw;have hrt:=(Y4 hx.r (lbf hi)).1;rw [aq1 k lx hrt];obtain ⟨a1,a2⟩:=hx.w _ (lbF hi);have e:s.rows[i].value=k*(c*s.rows[i].value):=by rw [← a67,h];grind
  refine ⟨fun h=>?_,fun h=>?_⟩
  ·have:=ac3 (a1 h) k0;rw [← e] at this;exact this
  ·have:=ac3 (a2 h) k0;rw [← e] at this;exact this
theorem sumX_holds {s:j2} {gL:List (List (Int × Rat))} (h:a1b s gL):∀k,a9J s ((k+1:Nat):Rat) (a13 s gL k)
 |0=>as5 (a6B h _)
 |k+1=>by
  have:=b2c (sumX_holds h k) (as5 (a6B h (y3 s gL (k+1))));have e:(((k+1+1:Nat)):Rat)=((k+1:Nat):Rat)+1:=by push_cast;rfl
  rw [e];exact this
def b0j {s:j2} {gL:List (List (Int × Rat))} (h:a1b s gL) {i:Nat} (hi:i<gL.length):∀k,0<=n8 (gL.getD i []) (a13 s gL k)∧((y3 s gL (k+1)).getD i false=true->0<n8 (gL.getD i []) (a13 s gL k))
 |0=>by
  refine ⟨h.p _ (N3 hi) _ (a6B h _),fun ho=>?_⟩;rw [a2W hi] at ho;have e:(y3 s gL 0).getD i false=false:=by
   show (List.replicate gL.length false).getD i false=false;rw [lbl];simp [hi]
  rw [e,a4M] at ho;exact lbM ho
 |k+1=>by
  obtain ⟨h1,h2⟩:=b0j h hi k;have hn:=L3 h.r;have lx:(a13 s gL k).length=s.n.toNat:=by have:=(sumX_holds h k).l;omega
  have hf:=a6B h (y3 s gL (k+1));have ly:(a1Q s gL (y3 s gL (k+1))).length=s.n.toNat:=by have:=(S1 hf).2;omega
  have e:n8 (gL.getD i []) (a13 s gL (k+1))=n8 (gL.getD i []) (a13 s gL k)+n8 (gL.getD i []) (a1Q s gL (y3 s gL (k+1))):=a2k lx ly (h.g _ (N3 hi));have h3:=h.p _ (N3 hi) _ hf;rw [e];refine ⟨by grind,fun ho=>?_⟩;rw [a2W hi] at ho;cases hk:(y3 s gL (k+1)).getD i false with
  |true=>have:=h2 hk;grind
  |false=>
   rw [hk,a4M] at ho;have:=lbM ho;grind
def b4x (k:Nat):0<=Rat.divInt 1 ((k+1:Nat):Int)∧Rat.divInt 1 ((k+1:Nat):Int)*((k+1:Nat):Rat)=1∧0<Rat.divInt 1 ((k+1:Nat):Int):=by
 have h0:((k+1:Nat):Rat)≠0:=by
  intro e;have:((k+1:Nat):Rat)=((0:Nat):Rat):=e;have:=Rat.natCast_inj.1 this;omega
 have e:Rat.divInt 1 ((k+1:Nat):Int)=1 / ((k+1:Nat):Rat):=by rw [a5D];rfl
 have e2:Rat.divInt 1 ((k+1:Nat):Int)*((k+1:Nat):Rat)=1:=by rw [e,a6b,a67,b1o _ h0];grind
 have hp:0<Rat.divInt 1 ((k+1:Nat):Int):=by
  rw [e,a6b];have:0<((k+1:Nat):Rat):=by
   have:((0:Nat):Rat)<((k+1:Nat):Rat):=by exact_mod_cast (show 0<k+1 by omega)
   exact this
  have:=Rat.inv_pos.2 this;grind
 exact ⟨Rat.le_of_lt hp,e2,hp⟩
def b8W {s:j2} {gL:List (List (Int × Rat))} (h:a1b s gL):m9 s (ap2 s gL)=true∧∀i,i<gL.length->(isF s gL).getD i false=true->0<n8 (gL.getD i []) (ap2 s gL):=by
 obtain ⟨q1,q2,q3⟩:=b4x (a1P s gL);have hh:=sumX_holds h (a1P s gL);have hn:=L3 h.r;have lx:(a13 s gL (a1P s gL)).length=s.n.toNat:=by have:=hh.l;omega
 refine ⟨aN8 hh q1 q2,fun i hi ho=>?_⟩;have hp:=(b0j h hi (a1P s gL)).2 (by rw [(a6Y s gL).1];exact ho);unfold ap2;rw [aq1 _ lx (h.g _ (N3 hi))];exact lb3 q3 hp
structure b9Y where
 hh:Int
 state:Int
 w:List Fr
 wo:List Fr
 pr:List Fr
def b9Y.row (v:b9Y):List T:=[ti v.hh,ti v.state,z4 v.w,z4 v.wo,z4 v.pr]
def b9Y.val (v:b9Y):br3:=⟨v.hh,v.state,v.w.map fv,v.wo.map fv,v.pr.map fv⟩
def b1L (s:j2) (g:List (Int × Rat)) (y:List Fr):Bool:=(decide (y.length=s.rows.length) && y.all Q9) && (a4D s g (y.map fv) && decide (a4b s (yN (y.map fv))=0))
def a00 (t:j6) (find:Int):Bool:=decide (y7 t=0) && decide (0<=find) && decide (find<t.finds.length)
def a54 (t:j6) (hs:t.Sized) (find:Int):ec 102 [trS t,eI find] [] (j8 (a00 t find)) []:=by
 have ck:=aV2 t hs;have m1:(t.finds.map P5.row).length=t.finds.length:=zq;unfold a00;by_cases h1:y7 t=0
 ·rw [lbI h1,H9];refine ac Tryz.func102 ?_;conv=>whnf
  repeat' (first|refine zx ?_|apply zD<;>intro<;>try omega)<;>conv=>whnf
  all_goals first|omega|(refine g9 ?_;symm;simp only [lbO,lbJ,lbQ,lbL];omega)
 ·rw [lbK h1,a1Z,a1Z];refine ac Tryz.func102 ?_;conv=>whnf
  repeat' (first|refine zx ?_|apply zD<;>intro<;>try omega)<;>conv=>whnf
  all_goals first|omega|exact g9 rfl
def a2r (e:Ev) (k:Nat):LI:=(u0 e k).map fun i:Nat=>(i:Int)
def b5g (e:Ev) (k:Nat):(a2r e k).length=(u0 e k).length:=by simp [a2r]
def b18 {e:Ev} {k:Nat} {m:A8} (h:e.moves[k]? =some m):a2r e (k+1)=if w9 e m.src=0 then a2r e k++[(k:Int)] else a2r e k:=by
 unfold a2r;conv=>lhs;unfold u0
 rw [h];simp only;split
 ·simp
 ·rfl
def Q3 (e:Ev):LI:=a2r e e.moves.length
def ai1 (e:Ev) (hs:e.Sized) (h0:F3 e=0):ec 103 [evS e] [] (j3 (Q3 e)) []:=by
 have m1:(e.moves.map A8.row).length=e.moves.length:=zq;have l1:=hs.s2;unfold Q3
 (refine ac Tryz.func103 ?_;(conv=>whnf);repeat ((first|refine b0x ?_|refine zy ?_);conv=>whnf))
 repeat' (first|refine zx ?_|apply zD<;>intro h<;>try omega)<;>conv=>whnf
 refine i7 d9 (fun k=>([J,S.c (C.t (T.ptr (evT e))),J,S.c (C.own 0 0 (a2r e k).length true),J,J,J,S.c (C.t (a2M e.moves)),eI e.moves.length,eI k]++Jn 18,[o8 (a2r e k)])) e.moves.length tT [none] trivial
  ⟨rfl,rfl,rz,⟨rfl,rz,rfl,d7 zq,rz⟩⟩ ?_
 intro k hk _;have ll:=B1 (e:=e) k;have lA:(a2r e k).length<=(o8 (a2r e k)).rows.length:=by show _<=(toC _).length;simp [toC]
 have l2:=b5g e k;by_cases hlt:k<e.moves.length
 ·obtain ⟨m,hm⟩:∃m,e.moves[k]? =some m:=⟨_,lbf hlt⟩;have ms:=a2t (O9 h0 (lbm hm));obtain ⟨p,hp⟩:∃p,e.places[m.src.toNat]? =some p:=⟨_,lbf om⟩;have hk0:w9 e m.src=p.kind:=by unfold w9;rw [hp];rfl
  rw [b18 hm,hk0];by_cases hb:p.kind=0
  ·rw [if_pos hb];conv=>whnf
   repeat' (first|refine zx ?_|refine f7 hm ?_|refine x5 ms.1 hp ?_|refine o6 lA zu ?_|apply zD<;>intro h<;>try omega)<;>conv=>whnf
   all_goals first
    |omega
    |(refine ⟨hlt,trivial,[some 2],rfl,rfl,⟨d8 (rows:=(a2r e k++[(k:Int)]).map j0) rfl rfl rfl ?_ rfl,trivial⟩,⟨rfl,⟨rfl,rfl,?_,fun h=>h⟩,rfl,rfl,d7 om,trivial⟩⟩
      ·exact u6 (f:=j0) (x:=(k:Int)) rfl
      ·simp [toC])
  ·rw [if_neg hb];conv=>whnf
   repeat' (first|refine zx ?_|refine f7 hm ?_|refine x5 ms.1 hp ?_|apply zD<;>intro h<;>try omega)<;>conv=>whnf
   all_goals first|omega|exact ⟨hlt,trivial,[some 0],rfl,rfl,⟨d8 (rows:=(a2r e k).map j0) rfl rfl rfl rfl rfl,trivial⟩,⟨rfl,⟨rfl,rfl,rfl,fun h=>h⟩,rfl,rfl,d7 om,trivial⟩⟩
 ·have hke:k=e.moves.length:=by omega
  subst hke;conv=>whnf
  repeat' (first|refine zx ?_|apply zD<;>intro h<;>try omega)<;>conv=>whnf
  all_goals first|omega|exact I4 rfl (fun h=>h) rfl rfl zq
def a9O (v c:Int) (h0:-9223372036854775808<=c) (h1:c<=9223372036854775807):ec 172 [eI v,eI c] [] (m8 [(v,((c:Int):Rat))]) []:=by
 have ic:=W9 c h0 h1;refine ac Tryz.func172 ?_;conv=>whnf
 repeat' (first|refine zx ?_|apply zD<;>intro<;>try omega)<;>conv=>whnf
 all_goals exact n9 (show a9K [] _ _ _ from rfl)
def bb6 (t:j6):List C:=[.t (ti t.ev.mats),.t (ti t.ev.hhs),.t (ti t.ev.scs),.t (a2a t.ev.places),.t (a2M t.ev.moves),.t (a0O t.ev.certs),.t (L7 t.ev.recalls),.t (a1l t.ev.purities),.t (.sl 0 .nil []),.t (a3j t.cleans)]
def bx4 {w:World} {ι:Io} {M:Ms} {t:j6} {v:Value} (h:RS w ι M (.agg (bb6 t)) v):RS w ι M (trS (B9 t)) v:=by
 cases h with
 |agg vs hl hr=>
  refine .agg vs hl fun j c hj=>?_
  by_cases h8:j=8
  ·subst h8;injection hj with hj;subst hj
   have h9:=hr 8 _ rfl;cases h9 with
   |t h9=>exact .t (h9.weak rfl)
  ·refine hr j c ?_;rcases j with _|_|_|_|_|_|_|_|_|_|j
   all_goals first|exact hj|exact absurd rfl h8
def ad5 {P:Program} {g:FuncId} {t:j6} {x:S} {H H':Hp} {r:S} (h:d6 P g [trS (B9 t),x] H r H'):d6 P g [.agg (bb6 t),x] H r H':=by
 refine a7n h rfl fun w ι M j a b v hx hy hr=>?_
 rcases j with _|_|j
 ·injection hx with hx;injection hy with hy;subst hx hy;exact bx4 hr
 ·injection hx with hx;injection hy with hy;subst hx hy;exact hr
 ·simp at hx
def b5m (t:j6) (kind:Int) (hs:t.Sized) (h1:y7 t=0) (k0:0<=kind) (k1:kind<8) (H:Hp):a02 Tryz.prog 64 [.agg (bb6 t),eI kind] H (.tup [.agg [.t (ti t.ev.moves.length),.own H.length 0 (U8 (B9 t) kind).rows.length true],eI 0]) [Z0 (U8 (B9 t) kind).rows]:=by
 have hc:¬(y7 (B9 t)≠0∨kind<0∨8<=kind):=by have:=a3V h1;omega
 have h:=ad5 (b4E (B9 t) kind ⟨hs.ev,by simp [B9],hs.c⟩ hc);exact a7O (j:=1) h rfl rfl (e7 _) rfl rfl
def b1Y (l:List Nat) (i k:Nat):List z7:=P6 (l.take k) i
def b4n {l:List Nat} {i k j:Nat} (h:l[k]? =some j):b1Y l i (k+1)=if j≠i then b1Y l i k++[y5 j 2 ((0:Int):Rat)] else b1Y l i k:=by
 unfold b1Y P6;have e:l.take (k+1)=l.take k++[j]:=by rw [lbH,h];rfl
 rw [e,lb9,lbD];by_cases hj:j≠i
 ·rw [if_pos hj];simp [hj]
 ·rw [if_neg hj];simp [hj]
def Z2 (t:j6) (kind:Int) (i k:Nat):List z7:=(U8 (B9 t) kind).rows++b1Y (n6 t.ev) i k
def b19 {t:j6} {kind:Int} {i k:Nat} (hm:t.ev.moves.length<=14) (hc:t.cleans.length<=50):(Z2 t kind i k).length<=750:=by
 unfold Z2;have hl:=X3 (t:=B9 t) (kind:=kind) t.ev.moves.length;have hl2:t.ev.moves.length*(2+(B9 t).finds.length+(B9 t).cleans.length)<=14*52:=lbU hm (by show 2+0+t.cleans.length<=52;omega);have hl3:=a3o ((n6 t.ev).take k) i;have hl4:=B1 (e:=t.ev) t.ev.moves.length;have hl5:((n6 t.ev).take k).length<=(n6 t.ev).length:=by rw [lbs];omega
 have hl6:(n6 t.ev).length<=t.ev.moves.length:=hl4;have hl7:(U8 (B9 t) kind).rows.length<=14*52:=lbT hl hl2;rw [lbq];show _+(P6 ((n6 t.ev).take k) i).length<=750;omega
def b2d (t:j6) (kind:Int) (i:Nat):Z2 t kind i (n6 t.ev).length=(u4 t kind i).rows:=by
 unfold Z2 b1Y u4;rw [lbn (lbS _)]
def a7Q {e:Ev} {k j:Nat} (h:(n6 e)[k]? =some j):(Q3 e)[k]? =some (j:Int):=by
 unfold Q3 a2r;rw [lba];have:(u0 e e.moves.length)[k]? =some j:=h;rw [this];rfl
def a2O (e:Ev):(Q3 e).length=(n6 e).length:=by simp [Q3,a2r,n6]
def aL2 (t:j6) (hs:t.Sized) (h1:y7 t=0) (find:Int) (f:P5) (f0:0<=find) (hf:t.finds[find.toNat]? =some f) (i:Nat) (hm:t.ev.moves.length<=14):
 ec 105 [trS t,eI find,eI i,j3 (Q3 t.ev)] [] (S9 (u4 t f.kind i)) []:=by
 obtain ⟨q1,q2,q3,q4,q5⟩:=v3 h1;have hg:=I0 q4 f (lbm hf);have m1:((Q3 t.ev).map j0).length=(n6 t.ev).length:=by rw [lbr,a2O]
 have sy:=fun H:Hp=>b5m t f.kind hs h1 om om H
 have i0:=W9 0 de de;have ll:(n6 t.ev).length<=t.ev.moves.length:=B1 _;have eK0:Z2 t f.kind i 0=(U8 (B9 t) f.kind).rows:=by unfold Z2 b1Y;rw [a9d];simp [P6]
 refine ac Tryz.func105 ?_;conv=>whnf
 repeat' (first|refine zx ?_|refine x5 f0 hf ?_|refine .inl ⟨_,_,sy _,?_⟩|refine bl0 [5] ?_|apply zD<;>intro h<;>try omega)<;>conv=>whnf
 refine i7 d9 (fun k=>([J,J,eI i,J,J,J,J,J,sP 0 0 0,J,sP 1 0 0]++Jn 16++[j3 (Q3 t.ev),eI (n6 t.ev).length,eI k]++Jn 17,[a8n,a8K t.ev.moves.length 2 (Z2 t f.kind i k).length,Z0 (Z2 t f.kind i k)])) (n6 t.ev).length tT [some 1,some 3,some 2] trivial
  ⟨rfl,rfl,⟨⟨rfl,rfl,rfl,.inr rz⟩,⟨rfl,rfl,rfl,.inr ⟨⟨rfl,⟨rfl,rfl,by rw [eK0],fun h=>h⟩,trivial⟩,trivial⟩⟩,d8 (rows:=(Z2 t f.kind i 0).map w5) rfl rfl rfl (by rw [eK0]) rfl,trivial⟩,⟨rfl,rz,rz,rfl,d7 (by rw [m1]),rz⟩⟩ ?_
 intro k hk _;have lk:=b19 (t:=t) (kind:=f.kind) (i:=i) (k:=k) hm q3;by_cases hlt:k<(n6 t.ev).length
 ·obtain ⟨j,hj⟩:∃j,(n6 t.ev)[k]? =some j:=⟨_,lbf hlt⟩;have hji:=a7Q hj;have on:=a9O j 1 de de;have eS:Z2 t f.kind i (k+1)=if j≠i then Z2 t f.kind i k++[y5 j 2 ((0:Int):Rat)] else Z2 t f.kind i k:=by
   unfold Z2;rw [b4n hj];split
   ·rw [lbE]
   ·rfl
  rw [eS];have lA:(Z2 t f.kind i k).length<=(Z0 (Z2 t f.kind i k)).rows.length:=by show _<=(toC _).length;simp [toC]
  by_cases hji2:j≠i
  ·rw [if_pos hji2];conv=>whnf
   repeat' (first|refine zx ?_|refine f7 hji ?_|refine o6 lA zu ?_|refine bl0 [0,1] ?_|apply zD<;>intro h<;>try omega)<;>conv=>whnf
   all_goals first
    |omega
    |(refine ⟨hlt,trivial,[some 0,some 1,some 3],rfl,rfl,⟨⟨rfl,rfl,rfl,.inr rz⟩,⟨rfl,rfl,rfl,.inr ⟨⟨rfl,⟨rfl,rfl,?_,fun h=>h⟩,trivial⟩,trivial⟩⟩,d8 (rows:=(Z2 t f.kind i k++[y5 j 2 ((0:Int):Rat)]).map w5) rfl rfl rfl ?_ rfl,trivial⟩,⟨rfl,rz,rz,rfl,rfl,d7 om,trivial⟩⟩
      ·simp [toC]
      ·exact u6 (f:=w5) (x:=y5 j 2 ((0:Int):Rat)) rfl)
  ·rw [if_neg hji2];conv=>whnf
   repeat' (first|refine zx ?_|refine f7 hji ?_|apply zD<;>intro h<;>try omega)<;>conv=>whnf
   all_goals first|omega|exact ⟨hlt,trivial,[some 0,some 1,some 2],rfl,rfl,⟨⟨rfl,rfl,rfl,.inr rz⟩,⟨rfl,rfl,rfl,.inr ⟨⟨rfl,⟨rfl,rfl,rfl,fun h=>h⟩,trivial⟩,trivial⟩⟩,f5 (e7 _),trivial⟩,⟨rfl,rz,rz,rfl,rfl,d7 om,trivial⟩⟩
 ·have hke:k=(n6 t.ev).length:=by omega
  subst hke;have e9:=b2d t f.kind i;conv=>whnf
  repeat' (first|refine zx ?_|apply zD<;>intro h<;>try omega)<;>conv=>whnf
  all_goals first|omega|(rw [e9];exact n9 ⟨rfl,show VC _ (fun id=>G8 [] id=true) _ _ from s6 rfl rfl zi rfl rfl (by rw [lbr]),trivial⟩)
def a8J {v:Rat} (h:ae0 v):rl v<=4:=by
 obtain ⟨z,h1,h2⟩:=h;have:=ai4 (x:=v) (p:=z) (q:=1000) de (by rw [← h1];rfl);have b1:bl z<=4:=a2q h2 de;have b2:bl 1000<=4:=by have:=o7 (x:=1000) de de;omega
 omega
def a82 {s:j2} {g:List (Int × Rat)} (h:I8 s) (hg:j9 (-1) ((s.n.toNat:Nat):Int) g=true) (hw:z5 g):M8 s g s.n.toNat 15:=by
 have hn:=L3 h.r;have h9:=h.n;have hl:=h.l;have hwr:=D5 hw;have rows:∀w ∈ s.rows,w.terms.length<=100∧(∀ t ∈ w.terms,rl t.2<=200)∧rl w.value<=200:=fun w hw=>by
  obtain ⟨i,hi,rfl⟩:=X4 hw;have hrt:=(Y4 h.r (lbf hi)).1;have h1:=v8 hrt;have h2:=h.i _ (lbF hi);exact ⟨om,fun t ht=>by have:=D5 h2.1 t ht;omega,by have:=a8J h2.2;omega⟩
 refine ⟨⟨h.r,hg,hn.symm,om,fun w hw=>?_,fun t ht=>by have:=hwr t ht;omega,om⟩,⟨om,rows⟩,fun t ht=>by have:=hwr t ht;omega,b67 h hw,de,?_,om⟩
 ·obtain ⟨a1,a2,a3⟩:=rows w hw;exact ⟨om,fun t ht=>by have:=a2 t ht;omega⟩
 ·have:s.n.toNat<=9:=by omega
  have:=lbV (15+2) (show s.n.toNat+3<=12 by omega);omega
def bg8 {s:j2} {g:List (Int × Rat)} (h:I8 s) (hg:j9 (-1) ((s.n.toNat:Nat):Int) g=true) (hw:z5 g):∀v ∈ u9 s g,rl v<=15:=b4t (a82 h hg hw)
def bk3 {s:j2} {g:List (Int × Rat)} {n B c:Nat} (h:M8 s g n B) (hc:c<n) {j:Nat} (hj:j<n):rl (a0j (i8 s).length n (y8 s g) 0 (fun q=>if q=c then 1 else 0) j)<=B:=by
 have hb:=av2 h;have hB:=h.b1;have hp:X8 (i8 s).length n (y8 s g):=by have hn:=h.nn;subst hn;exact O3.p
 rw [← ag6 hp hc hj];have key:∀k,k<=(i8 s).length->rl (ptK n (y8 s g).O (fun i=>-((y8 s g).A i c)) (fun j=>if (y8 s g).F c<n∧j=(y8 s g).F c then 1 else 0) k j)<=B:=by
  intro k;induction k with
  |zero=>
   intro _;have:=rl0;have:=rl1;show rl (if _ then (1:Rat) else 0)<=_;split<;>omega
  |succ k ih=>
   intro hk;rw [G0];simp only;split
   ·rw [U6];exact hb.a k om c hc
   ·exact ih om
 exact key _ (lbS _)
def aH2 {x y:List Rat} {A B:Nat} (hx:∀v ∈ x,rl v<=A) (hy:∀v ∈ y,rl v<=B):∀v ∈ Z3 x y,rl v<=A+B+1:=by
 intro v hv;unfold Z3 at hv;obtain ⟨i,hi,rfl⟩:=X4 hv;rw [List.getElem_zipWith];rw [List.length_zipWith] at hi;have h1:=hx _ (lbF (show i<x.length by omega));have h2:=hy _ (lbF (show i<y.length by omega));have:=a3A x[i] y[i];omega
def b7J {s:j2} {g:List (Int × Rat)} (h:I8 s) (hg:j9 (-1) ((s.n.toNat:Nat):Int) g=true) (hw:z5 g):∀v ∈ V8 s g,rl v<=31:=by
 unfold V8;split
 ·rename_i c hc;refine aH2 (A:=15) (B:=15) (bg8 h rfl (fun t ht=>by cases ht)) fun v hv=>?_
  have hl:=a82 h (Y1 hg) (a0u hw);unfold a1W at hv;obtain ⟨j,hj,rfl⟩:=a3h hv;exact bk3 hl (a4c hc).1 hj
 ·intro v hv;have:=bg8 h (Y1 hg) (a0u hw) v hv;omega
def aF9 {s:j2} {g:List (Int × Rat)}:(V8 s g).length=s.n.toNat:=by
 unfold V8;split
 ·exact a1G (by unfold u9;rw [S8]) (by unfold a1W;rw [S8])
 ·unfold u9;rw [S8]
def bb8 (n:Nat) (a b:Nat->Rat) (h0:0<n) (hn:n<=1000) (ha:∀j,j<n->rl (a j)<=60000) (hb:∀j,j<n->rl (b j)<=60000):
 ec 246 [p5 (rF n a),p5 (rF n b)] [] (p5 (rF n fun j=>a j+b j)) []:=by
 have m1:((rF n b).map t5).length=n:=by simp [K5]
 have cl:=aa7 (rF n a) (by rw [K5];exact h0) (by rw [K5];omega);rw [K5] at cl;have e9:rF n (fun j=>a j+b j)=rF n (smF a b n):=s9 fun j hj=>by unfold smF;rw [if_pos hj]
 rw [e9];refine ac Tryz.func246 ?_;conv=>whnf
 repeat' (first|refine zx ?_|refine .inr ⟨_,_,cl,?_⟩|apply zD<;>intro h<;>try omega)<;>conv=>whnf
 refine i7 d9 (fun k=>([J,J,J,J,J,S.c (C.own 0 0 n true),J,J,J,J,p5 (rF n b),eI n,eI k]++Jn 18,[flB (rF n (smF a b k))])) n tT [some 0] trivial
  ⟨rfl,rfl,⟨d8 (rows:=(rF n a).map t5) rfl rfl rfl rfl (by rw [s9 (g:=smF a b 0) (h:=a) fun j hj=>by unfold smF;rw [if_neg om]]),trivial⟩,⟨⟨rfl,rfl,rfl,fun h=>h⟩,k8 rfl,d7 om,d7 rfl,trivial⟩⟩ ?_
 intro k hk _;by_cases hlt:k<n
 ·have eK:0+(k:Int).toNat=k:=by omega
  have ad:=a5h (a k) (b k) (ha k hlt) (hb k hlt);have gp:(rF n (smF a b k))[0+(k:Int).toNat]? =some (fz (a k)):=by rw [eK,E6 hlt];unfold smF;rw [if_neg om]
  have e:t4 (flB (rF n (smF a b k))) ((flB (rF n (smF a b k))).rows.set (0+(k:Int).toNat) (frC (fz (a k+b k))))=flB (rF n (smF a b (k+1))):=by
   rw [I5 eK,S4 hlt];refine congrArg flB (s9 fun j hj=>?_);unfold smF;by_cases h:j=k
   ·subst h;rw [if_pos rfl,if_pos om]
   ·rw [if_neg h];have:(j<k)↔(j<k+1):=om;simp only [this]
  conv=>whnf
  repeat' (first|refine zx ?_|refine a55 rfl hlt ?_|refine p8 gp ?_|refine bl0 [10] ?_|apply zD<;>intro h<;>try omega)<;>conv=>whnf
  all_goals first|omega|exact ⟨hlt,trivial,[some 0],rfl,rfl,⟨⟨rfl,rfl,rfl,.inl ⟨congrArg Blk.rows e,(congrArg Blk.rows e) ▸ e7 _⟩⟩,trivial⟩,⟨⟨rfl,rfl,rfl,fun h=>h⟩,rfl,rfl,d7 om,trivial⟩⟩
 ·have hke:k=n:=by omega
  subst hke;conv=>whnf
  repeat' (first|refine zx ?_|apply zD<;>intro h<;>try omega)<;>conv=>whnf
  all_goals first|omega|exact I4 rfl (fun h=>h) rfl rfl (by simp [K5])
def Y6 (x:List Rat):x.map fz=rF x.length (fun j=>x.getD j 0):=by
 unfold rF;refine a05 fun j=>?_
 rw [lba,lba];by_cases h:j<x.length
 ·rw [lbf h,T8 h];simp [lbl,lbf h]
 ·rw [lbd om,lbd zo];rfl
def b8m (x y:List Rat) (h:x.length=y.length) (h0:0<x.length) (hn:x.length<=1000) (hx:∀v ∈ x,rl v<=60000) (hy:∀v ∈ y,rl v<=60000):
 ec 246 [p5 (x.map fz),p5 (y.map fz)] [] (p5 ((Z3 x y).map fz)) []:=by
 have gx:∀(x:List Rat),(∀ v ∈ x,rl v<=60000)->∀j,j<x.length->rl (x.getD j 0)<=60000:=fun x hx j hj=>by
  rw [lbl,lbf hj];exact hx _ (lbF hj)
 have r:=bb8 x.length (fun j=>x.getD j 0) (fun j=>y.getD j 0) h0 hn (gx x hx) (fun j hj=>gx y hy j om);rw [← Y6 x] at r;rw [show rF x.length (fun j=>y.getD j 0)=y.map fz by rw [Y6 y,h]] at r;rw [show rF x.length (fun j=>x.getD j 0+y.getD j 0)=(Z3 x y).map fz by
  rw [Y6 (Z3 x y),a1G (n:=x.length) rfl h.symm];exact s9 fun j hj=>(a4e (n:=x.length) rfl h.symm hj).symm] at r
 exact r
noncomputable def a0D (s:j2) (g:List (Int × Rat)):List Rat:=match X7 s (C4 g) with
 |.col _=>[]
 |_=>zOf s.rows.length (V4 s (y8 s (C4 g)))
def b1P (s:j2) (g:List (Int × Rat)) (h:I8 s) (hz:X7 s []=.best) (h0:0<s.n) (hg:j9 (-1) ((s.n.toNat:Nat):Int) g=true) (hw:z5 g):
 ec 171 [S9 s,m8 g] [] (.tup [p5 ((V8 s g).map fz),p5 ((a0D s g).map fz)]) []:=by
 have hn:=L3 h.r;have h9:=h.n;have p:=a82 h (Y1 hg) (a0u hw);have i1:=W9 (-1) de de;have tm:=bc2 g ((-1:Int):Rat) de (a0w om hg) (fun t ht=>by have:=D5 hw t ht;omega) (by have:=o7 (x:=-1) de de;have:=o7 (x:=1) de de;show max (bl (-1)) (bl 1)<=200;omega);have ep:a0H g ((-1:Int):Rat)=C4 g:=rfl;rw [ep] at tm;have vb:∀k,rl (n8 ((C4 g).take k) (u9 s (C4 g)))<=50000:=fun k=>by
  have h1:=a2u (D5 (a0u hw)) (bg8 h (Y1 hg) (a0u hw)) k;have h2:=v8 (Y1 hg);have h3:(C4 g).length<=9:=om;have h4:=lbV (15+4) h3;omega
 rcases aO3 (g:=C4 g) h.r hz with ho|⟨c,ho⟩
 ·have le:=bu8 p ho vb;have e1:V8 s g=u9 s (C4 g):=by unfold V8;rw [ho]
  have e2:a0D s g=zOf s.rows.length (V4 s (y8 s (C4 g))):=by unfold a0D;rw [ho]
  have e3:rF s.rows.length (V4 s (y8 s (C4 g)))=(a0D s g).map fz:=by rw [e2,a7D]
  have l3:(a0D s g).length=s.rows.length:=by rw [e2,S8]
  rw [e1];rw [e3] at le;refine ac Tryz.func171 ?_;conv=>whnf
  repeat' (first|refine zx ?_|refine .inl ⟨_,_,le _,?_⟩|refine bl0 [7] ?_|apply zD<;>intro h<;>try omega)<;>conv=>whnf
  all_goals first|omega|exact n9 ⟨rfl,(show VC _ (fun id=>G8 [] id=true) (C.own _ 0 _ true) _ from s6 (k:=flB ((a0D s g).map fz)) rfl rfl (fun h=>h) rfl rfl (by simp [l3])),trivial⟩
 ·have hcn:c<s.n.toNat:=(a4c ho).1;have pz:=a82 h (g:=[]) rfl (fun t ht=>by cases ht);have le:=ba9 p pz ho hz;have e1:V8 s g=Z3 (u9 s []) (a1W s (C4 g) c):=by unfold V8;rw [ho]
  have e2:a0D s g=[]:=by unfold a0D;rw [ho]
  have lp:(u9 s []).length=s.n.toNat:=by unfold u9;rw [S8]
  have lr:(a1W s (C4 g) c).length=s.n.toNat:=by unfold a1W;rw [S8]
  have pl:=b8m (u9 s []) (a1W s (C4 g) c) om om om (fun v hv=>by have:=bg8 h rfl (fun t ht=>by cases ht) v hv;omega) (fun v hv=>by
   unfold a1W at hv;obtain ⟨j,hj,rfl⟩:=a3h hv;have:=bk3 p hcn hj;omega)
  rw [e1,e2];refine ac Tryz.func171 ?_;conv=>whnf
  repeat' (first|refine zx ?_|refine .inl ⟨_,_,le _,?_⟩|refine bl0 [7] ?_|apply zD<;>intro h<;>try omega)<;>conv=>whnf
  all_goals first|omega|exact n9 rz
def al4 (g:List (Int × Rat)) (x:List Rat) (hg:j9 (-1) (x.length:Int) g=true) (hw:z5 g) (hx:∀v ∈ x,rl v<=40000) (hl:x.length<=9) (hb:∀k,rl (n8 (g.take k) x)<=50000):
 ec 173 [m8 g,p5 (x.map fz)] [] (j8 (a14 g x)) []:=by
 have hgl:=v8 hg;have va:=b0g g x om (fun t ht=>by have:=D5 hw t ht;omega) hx (fun k=>by have:=hb k;omega) om hg;have bv:=hb g.length;rw [lbn (lbS _)] at bv;have sg:=ah0 (n8 g x) om;have sp:=a9q (x:=n8 g x);have e:a14 g x=decide (sgR (n8 g x) > 0):=by unfold a14;rw [decide_eq_decide];exact sp.symm
 rw [e];generalize sgR (n8 g x)=U at sg;clear sp e;refine ac Tryz.func173 ?_;conv=>whnf
 repeat' (first|refine zx ?_|refine bl0 [5] ?_|apply zD<;>intro<;>try omega)<;>conv=>whnf
 all_goals first
  |omega
  |(refine g9 ?_;first|exact (lbI om).symm|exact (lbK om).symm)
def ag4 (x:Rat) (h:rl x<=60000):ec 306 [frS (fz x)] [] (frS (fz x)) []:=by
 have n1:=a58 x h;have n2:=a58 (-x) (by rw [U6];exact h);rw [show - -x=x by grind] at n2;refine ac Tryz.func306 ?_;conv=>whnf
 repeat' (first|refine zx ?_|apply zD<;>intro h<;>try omega)<;>conv=>whnf
 all_goals exact b05 rfl
def a2e (b:List (Int × Rat)):u3 [] b=b:=by rw [u3]
def ak4 (t:Int × Rat) (r:List (Int × Rat)):u3 (t::r) []=t::u3 r []:=by
 rw [u3];cases r with
 |nil=>rw [u3]
 |cons a r=>rw [u3]
def b0F {t u:Int × Rat} {r q:List (Int × Rat)} (h:t.1<u.1):u3 (t::r) (u::q)=t::u3 r (u::q):=by rw [u3,if_pos h]
def aW7 {t u:Int × Rat} {r q:List (Int × Rat)} (h:u.1<t.1):u3 (t::r) (u::q)=u::u3 (t::r) q:=by rw [u3,if_neg om,if_pos h]
def ar3 {t u:Int × Rat} {r q:List (Int × Rat)} (h:t.1=u.1) (h0:t.2+u.2=0):u3 (t::r) (u::q)=u3 r q:=by rw [u3,if_neg om,if_neg om,if_pos h0]
def aW6 {t u:Int × Rat} {r q:List (Int × Rat)} (h:t.1=u.1) (h0:¬t.2+u.2=0):u3 (t::r) (u::q)=(t.1,t.2+u.2)::u3 r q:=by rw [u3,if_neg om,if_neg om,if_neg h0]
structure bC1 (a b:List (Int × Rat)) (n:Nat) (x:List (Int × Rat) × List (Int × Rat) × List (Int × Rat)):Prop where
 e:x.1++u3 x.2.1 x.2.2=u3 a b
 o:x.1.length+x.2.1.length+x.2.2.length<=n
 a:∀t ∈ x.2.1,rl t.2<=200
 b:∀t ∈ x.2.2,rl t.2<=200
def bm4 (a b:List (Int × Rat)) (ha:j9 (-1) 1500 a=true) (hb:j9 (-1) 1500 b=true) (ba:∀t ∈ a,rl t.2<=200) (bb:∀t ∈ b,rl t.2<=200):
 ec 247 [m8 a,m8 b] [] (m8 (u3 a b)) []:=by
 have la:=v8 ha;have lb:=v8 hb;have r1:=S5 a 1500 om ba;have r2:=S5 b 1500 om bb;rw [ha] at r1;rw [hb] at r2;refine ac Tryz.func247 ?_;conv=>whnf
 repeat' (first|refine zx ?_|apply zD<;>intro h<;>try omega)<;>conv=>whnf
 all_goals try (exfalso;simp_all;done)
 refine o9 d9 (σ:=List (Int × Rat) × List (Int × Rat) × List (Int × Rat)) (fun x=>([m8 x.2.1,m8 x.2.2,J,J,J,S.c (C.own 0 0 x.1.length true)]++Jn 112,[H4 x.1])) (bC1 a b 3000) (fun x=>x.2.1.length+x.2.2.length) ([],a,b) [none]
  ⟨rfl,by simp;omega,ba,bb⟩ rz ?_
 rintro ⟨o,a',b'⟩ ⟨h1,h2,h3,h4⟩;simp only at h1 h2 h3 h4;rw [← h1];show a3g _ _ _ _ ([m8 a',m8 b',J,J,J,S.c (C.own 0 0 o.length true)]++Jn 112) [H4 o] _;have ma:(a'.map k6).length=a'.length:=zq;have mb:(b'.map k6).length=b'.length:=zq;have lA:o.length<=(H4 o).rows.length:=by show o.length<=(toC _).length;simp [toC]
 cases a' with
 |nil=>
  have na:([]:List (Int × Rat)).length=0:=rfl;cases b' with
  |nil=>
   rw [a2e,Y7];conv=>whnf
   repeat' (first|refine zx ?_|apply zD<;>intro h<;>try omega)<;>conv=>whnf
   all_goals first
    |omega
    |exact I4 rfl (fun h=>h) rfl rfl zq
  |cons u q=>
   have nb:(u::q).length=q.length+1:=rfl;have bu:=h4 u (a2T ..);have fr:=ag4 u.2 om;conv=>whnf
   repeat' (first|refine zx ?_|refine a63 om om om ?_|refine D9 (k:=0) rfl (show (u::q)[0]? =some u from rfl) ?_|refine o6 lA zu ?_|apply zD<;>intro h<;>try omega)<;>conv=>whnf
   all_goals first
    |omega
    |exact ⟨[some 1],(o++[(u.1,u.2)],[],q),⟨rfl,rfl,⟨d8 (rows:=(o++[(u.1,u.2)]).map k6) rfl rfl rfl (u6 (f:=k6) (x:=(u.1,u.2)) rfl) rfl,trivial⟩,⟨rfl,k8 (b0V u q),⟨rfl,rfl,by simp [toC],fun h=>h⟩,trivial⟩⟩,⟨by simp only [a2e];rw [← h1,a2e,lbE];try rfl,by simp only [lbq,lbu,a5n] at h2 ⊢;omega,h3,fun t ht=>h4 t (a20 _ ht)⟩,zq⟩
 |cons t r=>
  have na:(t::r).length=r.length+1:=rfl;have bt:=h3 t (a2T ..);cases b' with
  |nil=>
   have nb:([]:List (Int × Rat)).length=0:=rfl;have fr:=ag4 t.2 om;conv=>whnf
   repeat' (first|refine zx ?_|refine a63 om om om ?_|refine D9 (k:=0) rfl (show (t::r)[0]? =some t from rfl) ?_|refine o6 lA zu ?_|apply zD<;>intro h<;>try omega)<;>conv=>whnf
   all_goals first
    |omega
    |exact ⟨[some 1],(o++[(t.1,t.2)],r,[]),⟨rfl,rfl,⟨d8 (rows:=(o++[(t.1,t.2)]).map k6) rfl rfl rfl (u6 (f:=k6) (x:=(t.1,t.2)) rfl) rfl,trivial⟩,⟨k8 (b0V t r),rfl,⟨rfl,rfl,by simp [toC],fun h=>h⟩,trivial⟩⟩,⟨by show _++u3 _ _=u3 a b;rw [← h1,ak4,lbE];rfl,by simp only [lbq,lbu,a5n] at h2 ⊢;omega,fun t ht=>h3 t (a20 _ ht),h4⟩,zq⟩
  |cons u q=>
   have nb:(u::q).length=q.length+1:=rfl;have bu:=h4 u (a2T ..);rcases a36 t.1 u.1 with hlt|he|hgt
   ·have fr:=ag4 t.2 om;conv=>whnf
    repeat' (first|refine zx ?_|refine a63 om om om ?_|refine D9 (k:=0) rfl (show (t::r)[0]? =some t from rfl) ?_|refine D9 (k:=0) rfl (show (u::q)[0]? =some u from rfl) ?_|refine o6 lA zu ?_|apply zD<;>intro h<;>try omega)<;>conv=>whnf
    all_goals first|omega|exact ⟨[some 1],(o++[(t.1,t.2)],r,u::q),⟨rfl,rfl,⟨d8 (rows:=(o++[(t.1,t.2)]).map k6) rfl rfl rfl (u6 (f:=k6) (x:=(t.1,t.2)) rfl) rfl,trivial⟩,⟨k8 (b0V t r),rfl,⟨rfl,rfl,by simp [toC],fun h=>h⟩,trivial⟩⟩,⟨by show _++u3 _ _=u3 a b;rw [← h1,b0F hlt,lbE];rfl,by simp only [lbq,lbu,a5n] at h2 ⊢;omega,fun t ht=>h3 t (a20 _ ht),h4⟩,zq⟩
   ·have ad:=a5h t.2 u.2 om om;have ab:=a3A t.2 u.2;have sg:=ah0 (t.2+u.2) om;have sz:=a6f (x:=t.2+u.2);by_cases hz:t.2+u.2=0
    ·have hs:=sz.2 hz;conv=>whnf
     repeat' (first|refine zx ?_|refine a63 om om om ?_|refine D9 (k:=0) rfl (show (t::r)[0]? =some t from rfl) ?_|refine D9 (k:=0) rfl (show (u::q)[0]? =some u from rfl) ?_|refine o6 lA zu ?_|refine bl0 [11] ?_|apply zD<;>intro h<;>try omega)<;>conv=>whnf
     all_goals first|omega|exact ⟨[some 0],(o,r,q),⟨rfl,rfl,⟨d8 (rows:=o.map k6) rfl rfl rfl rfl rfl,trivial⟩,⟨k8 (b0V t r),k8 (b0V u q),⟨rfl,rfl,rfl,fun h=>h⟩,trivial⟩⟩,⟨by show _++u3 _ _=u3 a b;rw [← h1,ar3 he hz],by simp only [lbq,lbu,a5n] at h2 ⊢;omega,fun t ht=>h3 t (a20 _ ht),fun t ht=>h4 t (a20 _ ht)⟩,by simp;omega⟩
    ·have hs:sgR (t.2+u.2)≠0:=fun h=>hz (sz.1 h)
     conv=>whnf
     repeat' (first|refine zx ?_|refine a63 om om om ?_|refine D9 (k:=0) rfl (show (t::r)[0]? =some t from rfl) ?_|refine D9 (k:=0) rfl (show (u::q)[0]? =some u from rfl) ?_|refine o6 lA zu ?_|refine bl0 [11] ?_|apply zD<;>intro h<;>try omega)<;>conv=>whnf
     all_goals first|omega|exact ⟨[some 2],(o++[(t.1,t.2+u.2)],r,q),⟨rfl,rfl,⟨d8 (rows:=(o++[(t.1,t.2+u.2)]).map k6) rfl rfl rfl (u6 (f:=k6) (x:=(t.1,t.2+u.2)) rfl) rfl,trivial⟩,⟨k8 (b0V t r),k8 (b0V u q),⟨rfl,rfl,by simp [toC],fun h=>h⟩,trivial⟩⟩,⟨by show _++u3 _ _=u3 a b;rw [← h1,aW6 he hz,lbE];rfl,by simp only [lbq,lbu,a5n] at h2 ⊢;omega,fun t ht=>h3 t (a20 _ ht),fun t ht=>h4 t (a20 _ ht)⟩,by simp;omega⟩
   ·have fr:=ag4 u.2 om;conv=>whnf
    repeat' (first|refine zx ?_|refine a63 om om om ?_|refine D9 (k:=0) rfl (show (t::r)[0]? =some t from rfl) ?_|refine D9 (k:=0) rfl (show (u::q)[0]? =some u from rfl) ?_|refine o6 lA zu ?_|apply zD<;>intro h<;>try omega)<;>conv=>whnf
    all_goals first|omega|exact ⟨[some 1],(o++[(u.1,u.2)],t::r,q),⟨rfl,rfl,⟨d8 (rows:=(o++[(u.1,u.2)]).map k6) rfl rfl rfl (u6 (f:=k6) (x:=(u.1,u.2)) rfl) rfl,trivial⟩,⟨rfl,k8 (b0V u q),⟨rfl,rfl,by simp [toC],fun h=>h⟩,trivial⟩⟩,⟨by show _++u3 _ _=u3 a b;rw [← h1,aW7 hgt,lbE];rfl,by simp only [lbq,lbu,a5n] at h2 ⊢;omega,h3,fun t ht=>h4 t (a20 _ ht)⟩,zq⟩
def a0B {α:Type} {xs:List α} {f:α->List T} {a b:Int} {k:Nat} {x:α} {K:List T->Prop} (hb:¬b<a) (ha:a=k) (hx:xs[k]? =some x) (h:K (f x)):∃row,0<=(if b<a then b else a)∧(xs.map f)[(if b<a then b else a).toNat]? =some row∧K row:=
 D9 (by rw [if_neg hb];exact ha) hx h
structure bD7 (a b:List (Int × Rat)) (n:Nat) (x:List (Int × Rat) × Nat × Nat):Prop where
 e:x.1++u3 (a.drop x.2.1) (b.drop x.2.2)=u3 a b
 o:x.1.length+(a.length - x.2.1)+(b.length - x.2.2)<=n
 a:x.2.1<=a.length
 b:x.2.2<=b.length
def a9y {α:Type} {l:List α} {i:Nat} {x:α} (h:l[i]? =some x):l.drop i=x::l.drop (i+1):=by
 obtain ⟨h1,h2⟩:=lbe.1 h;rw [← h2];exact (a3y h1)
def bv9 (a b:List (Int × Rat)) (ha:j9 (-1) 1500 a=true) (hb:j9 (-1) 1500 b=true) (ba:∀t ∈ a,rl t.2<=200) (bb:∀t ∈ b,rl t.2<=200):
 ec 250 [m8 a,m8 b] [] (m8 (u3 a b)) []:=by
 have la:=v8 ha;have lb:=v8 hb;have r1:=T2 a 1500 om ba;have r2:=T2 b 1500 om bb;rw [ha] at r1;rw [hb] at r2;have ma:(a.map k6).length=a.length:=zq;have mb:(b.map k6).length=b.length:=zq;refine ac Tryz.func250 ?_;conv=>whnf
 repeat' (first|refine zx ?_|apply zD<;>intro h<;>try omega)<;>conv=>whnf
 all_goals try (exfalso;simp_all;done)
 refine o9 d9 (σ:=List (Int × Rat) × Nat × Nat) (fun x=>([m8 a,m8 b,J,J,J,S.c (C.own 0 0 x.1.length true),eI x.2.1,eI x.2.2]++Jn 123,[H4 x.1])) (bD7 a b 3000) (fun x=>(a.length - x.2.1)+(b.length - x.2.2)) ([],0,0) [none]
  ⟨rfl,by simp;omega,zq,zq⟩ rz ?_
 rintro ⟨o,i,k⟩ ⟨h1,h2,h3,h4⟩;simp only at h1 h2 h3 h4;rw [← h1];show a3g _ _ _ _ ([m8 a,m8 b,J,J,J,S.c (C.own 0 0 o.length true),eI i,eI k]++Jn 123) [H4 o] _;have lA:o.length<=(H4 o).rows.length:=by show o.length<=(toC _).length;simp [toC]
 by_cases hi:i<a.length
 ·obtain ⟨t,ht⟩:∃t,a[i]? =some t:=⟨_,lbf hi⟩;have bt:=ba t (lbm ht);have da:=a9y ht;have mi:¬((a.map k6).length:Int) - 1<(i:Int):=om;by_cases hk:k<b.length
  ·obtain ⟨u,hu⟩:∃u,b[k]? =some u:=⟨_,lbf hk⟩;have bu:=bb u (lbm hu);have db:=a9y hu;have mk:¬((b.map k6).length:Int) - 1<(k:Int):=om;rcases a36 t.1 u.1 with hlt|he|hgt
   ·conv=>whnf
    repeat' (first|refine zx ?_|refine f7 ht ?_|refine f7 hu ?_|refine a0B mi rfl ht ?_|refine a0B mk rfl hu ?_|refine o6 lA zu ?_|apply zD<;>intro h<;>try omega)<;>conv=>whnf
    all_goals first|omega|exact ⟨[some 1],(o++[t],i+1,k),⟨rfl,rfl,⟨d8 (rows:=(o++[t]).map k6) rfl rfl rfl (u6 (f:=k6) (x:=t) rfl) rfl,trivial⟩,⟨rfl,rfl,⟨rfl,rfl,by simp [toC],fun h=>h⟩,d7 zq,rz⟩⟩,⟨by show _++u3 _ _=u3 a b;rw [← h1,da,db,b0F hlt,←db,lbE];rfl,by simp only [lbq,a9t];omega,by show i+1<=_;omega,h4⟩,by show (a.length - (i+1))+(b.length - k)<(a.length - i)+(b.length - k);omega⟩
   ·have ad:=al7 t.2 u.2 om om;have ab:=a3A t.2 u.2;have sz:=a6f (x:=t.2+u.2);by_cases hz:t.2+u.2=0
    ·have hs:(fz (t.2+u.2)).p.sg=0:=(ah6 _).2 hz;conv=>whnf
     repeat' (first|refine zx ?_|refine f7 ht ?_|refine f7 hu ?_|refine a0B mi rfl ht ?_|refine a0B mk rfl hu ?_|refine o6 lA zu ?_|refine bl0 [13] ?_|apply zD<;>intro h<;>try omega)<;>conv=>whnf
     all_goals first|omega|exact ⟨[some 0],(o,i+1,k+1),⟨rfl,rfl,⟨d8 (rows:=o.map k6) rfl rfl rfl rfl rfl,trivial⟩,⟨rfl,rfl,⟨rfl,rfl,rfl,fun h=>h⟩,d7 zq,d7 zq,trivial⟩⟩,⟨by show _++u3 _ _=u3 a b;rw [← h1,da,db,ar3 he hz],by show o.length+(a.length - (i+1))+(b.length - (k+1))<=3000;omega,by show i+1<=_;omega,by show k+1<=_;omega⟩,by show (a.length - (i+1))+(b.length - (k+1))<(a.length - i)+(b.length - k);omega⟩
    ·have hs:(fz (t.2+u.2)).p.sg≠0:=fun h=>hz ((ah6 _).1 h)
     conv=>whnf
     repeat' (first|refine zx ?_|refine f7 ht ?_|refine f7 hu ?_|refine a0B mi rfl ht ?_|refine a0B mk rfl hu ?_|refine o6 lA zu ?_|refine bl0 [13] ?_|apply zD<;>intro h<;>try omega)<;>conv=>whnf
     all_goals first|omega|exact ⟨[some 2],(o++[(t.1,t.2+u.2)],i+1,k+1),⟨rfl,rfl,⟨d8 (rows:=(o++[(t.1,t.2+u.2)]).map k6) rfl rfl rfl (u6 (f:=k6) (x:=(t.1,t.2+u.2)) rfl) rfl,trivial⟩,⟨rfl,rfl,⟨rfl,rfl,by simp [toC],fun h=>h⟩,d7 zq,d7 zq,trivial⟩⟩,⟨by show _++u3 _ _=u3 a b;rw [← h1,da,db,aW6 he hz,lbE];rfl,by simp only [lbq,a9t];omega,by show i+1<=_;omega,by show k+1<=_;omega⟩,by show (a.length - (i+1))+(b.length - (k+1))<(a.length - i)+(b.length - k);omega⟩
   ·conv=>whnf
    repeat' (first|refine zx ?_|refine f7 ht ?_|refine f7 hu ?_|refine a0B mi rfl ht ?_|refine a0B mk rfl hu ?_|refine o6 lA zu ?_|apply zD<;>intro h<;>try omega)<;>conv=>whnf
    all_goals first|omega|exact ⟨[some 1],(o++[u],i,k+1),⟨rfl,rfl,⟨d8 (rows:=(o++[u]).map k6) rfl rfl rfl (u6 (f:=k6) (x:=u) rfl) rfl,trivial⟩,⟨rfl,rfl,⟨rfl,rfl,by simp [toC],fun h=>h⟩,rfl,d7 zq,trivial⟩⟩,⟨by show _++u3 _ _=u3 a b;rw [← h1,da,db,aW7 hgt,←da,lbE];rfl,by simp only [lbq,a9t];omega,h3,by show k+1<=_;omega⟩,by show (a.length - i)+(b.length - (k+1))<(a.length - i)+(b.length - k);omega⟩
  ·have db:b.drop k=[]:=lbo om;have e1:u3 (a.drop i) (b.drop k)=t::u3 (a.drop (i+1)) (b.drop k):=by rw [da,db,ak4]
   conv=>whnf
   repeat' (first|refine zx ?_|refine f7 ht ?_|refine o6 lA zu ?_|apply zD<;>intro h<;>try omega)<;>conv=>whnf
   all_goals first|omega|exact ⟨[some 1],(o++[t],i+1,k),⟨rfl,rfl,⟨d8 (rows:=(o++[t]).map k6) rfl rfl rfl (u6 (f:=k6) (x:=t) rfl) rfl,trivial⟩,⟨rfl,rfl,⟨rfl,rfl,by simp [toC],fun h=>h⟩,d7 zq,rz⟩⟩,⟨by show _++u3 _ _=u3 a b;rw [← h1,e1,lbE];rfl,by simp only [lbq,a9t];omega,by show i+1<=_;omega,h4⟩,by show (a.length - (i+1))+(b.length - k)<(a.length - i)+(b.length - k);omega⟩
 ·have da:a.drop i=[]:=lbo om;by_cases hk:k<b.length
  ·obtain ⟨u,hu⟩:∃u,b[k]? =some u:=⟨_,lbf hk⟩;have bu:=bb u (lbm hu);have db:=a9y hu;have e1:u3 (a.drop i) (b.drop k)=u::u3 (a.drop i) (b.drop (k+1)):=by rw [da,db,a2e,a2e]
   conv=>whnf
   repeat' (first|refine zx ?_|refine f7 hu ?_|refine o6 lA zu ?_|apply zD<;>intro h<;>try omega)<;>conv=>whnf
   all_goals first|omega|exact ⟨[some 1],(o++[u],i,k+1),⟨rfl,rfl,⟨d8 (rows:=(o++[u]).map k6) rfl rfl rfl (u6 (f:=k6) (x:=u) rfl) rfl,trivial⟩,⟨rfl,rfl,⟨rfl,rfl,by simp [toC],fun h=>h⟩,rfl,d7 zq,trivial⟩⟩,⟨by show _++u3 _ _=u3 a b;rw [← h1,e1,lbE];rfl,by simp only [lbq,a9t];omega,h3,by show k+1<=_;omega⟩,by show (a.length - i)+(b.length - (k+1))<(a.length - i)+(b.length - k);omega⟩
  ·have db:b.drop k=[]:=lbo om;rw [da,db,a2e,Y7];conv=>whnf
   repeat' (first|refine zx ?_|apply zD<;>intro h<;>try omega)<;>conv=>whnf
   all_goals first|omega|exact I4 rfl (fun h=>h) rfl rfl zq
def a9P {ρ:List (Option Nat)} {H:Hp} {x y:C} (h:b0l ρ H x y):∀{A:List (List T)},a4o ρ H (toC A++[[x]]) (toC A++[[y]])
 |[]=>⟨⟨h,trivial⟩,trivial⟩
 |a::A=>⟨Q5 a,a9P h⟩
def aD8 {ρ:List (Option Nat)} {H:Hp} {id len:Nat} {app:Bool} {size:Nat} {k:Blk} {rows:List (List T)} (hn:G8 ρ id=true) (hk:H[id]? =some k) (hd:¬k.mode.gone) (hs:k.size=size) (hc:k.rows=toC rows) (hl:len=rows.length):
 b0l ρ H (.own id 0 len app) (.t (.sl size .any rows)):=show VC H _ _ _ from s6 hn hk hd hs hc hl
def P3 (g:List (Int × Rat)):List T:=[Z5 g]
abbrev bb9 (l:List (List (Int × Rat))):T:=.sl 1 .any (l.map P3)
abbrev X0 (l:List (List (Int × Rat))):S:=.c (.t (bb9 l))
abbrev a4x (l:List (List (Int × Rat))):Blk:={ mode:=.live,elem:=59,size:=1,rows:=toC (l.map P3),box:=false }
def D4 (i:Nat):List (Int × Rat):=[((i:Int),((1:Int):Rat))]
def x6 (e:Ev) (p k:Nat):List (Int × Rat):=if w9 e p=0 then [] else k9 e p k
def B8 (e:Ev) (k p:Nat):List (List (Int × Rat)):=(List.range k).map D4++(List.range p).map fun p=>x6 e p e.moves.length
def v4 (e:Ev):List (List (Int × Rat)):=B8 e e.moves.length e.places.length
def a31 (e:Ev) (k p:Nat):(B8 e k p).length=k+p:=by simp [B8]
def aX7 (e:Ev) (k:Nat):B8 e (k+1) 0=B8 e k 0++[D4 k]:=by simp [B8,a3D]
def aU6 (e:Ev) (k p:Nat):B8 e k (p+1)=B8 e k p++[x6 e p e.moves.length]:=by simp [B8,a3D,lbE]
def a51 (e:Ev) (p:Nat):x6 e p 0=[]:=by unfold x6;split<;>rfl
def a8v {e:Ev} {p k:Nat} {m:A8} (h:e.moves[k]? =some m):x6 e p (k+1)=if w9 e p=0 then [] else if m.dst=p then x6 e p k++[((k:Int),((1:Int):Rat))] else if m.src=p then x6 e p k++[((k:Int),((-1:Int):Rat))] else x6 e p k:=by
 unfold x6;by_cases h0:w9 e p=0
 ·rw [if_pos h0,if_pos h0]
 ·rw [if_neg h0,if_neg h0,if_neg h0];conv=>lhs;unfold k9
  rw [h]
def ae2 (e:Ev) (p:Nat):∀k,(x6 e p k).length<=k
 |0=>by rw [a51];simp
 |k+1=>by
  have ih:=ae2 e p k;cases hm:e.moves[k]? with
  |none=>
   have:x6 e p (k+1)=x6 e p k:=by
    unfold x6;conv=>lhs;unfold k9
    rw [hm]
   rw [this];omega
  |some m=>
   rw [a8v hm];split
   ·simp
   ·split
    ·simp;omega
    ·split
     ·simp;omega
     ·omega
abbrev plB (p:K8):Blk:={ mode:=.live,elem:=160,size:=3,rows:=[p.row.map .t],box:=true }
def bb4 (e:Ev) (hs:e.Sized) (hm:e.moves.length<=1000) (hp:e.places.length<=1000):ec 176 [evS e] [] (X0 (v4 e)) []:=by
 have m1:(e.moves.map A8.row).length=e.moves.length:=zq;have m2:(e.places.map K8.row).length=e.places.length:=zq;unfold v4
 (refine ac Tryz.func176 ?_;(conv=>whnf);repeat ((first|refine b0x ?_|refine zy ?_);conv=>whnf))
 repeat' (first|refine zx ?_|apply zD<;>intro h<;>try omega)<;>conv=>whnf
 refine i7 d9 (fun k=>([J,S.c (C.t (T.ptr (evT e))),J,S.c (C.own 0 0 k true),J,J,J,J,J,J,J,J,eI e.moves.length,eI k]++Jn 53,[a4x (B8 e k 0)])) e.moves.length tT [none] trivial
  ⟨rfl,rfl,rz,⟨rfl,rz,d7 zq,rz⟩⟩ ?_
 intro k hk _;have l1:=a31 e k 0;by_cases hlt:k<e.moves.length
 ·have on:=a9O k 1 de de;have lA:k<=(a4x (B8 e k 0)).rows.length:=by show _<=(toC _).length;simp [toC,l1]
  rw [aX7];conv=>whnf
  repeat' (first|refine zx ?_|refine o6 lA zu ?_|apply zD<;>intro h<;>try omega)<;>conv=>whnf
  all_goals first
   |omega
   |(refine ⟨hlt,trivial,[some 1],rfl,rfl,⟨d8 (rows:=(B8 e k 0++[D4 k]).map P3) rfl rfl rfl ?_ rfl,trivial⟩,⟨rfl,⟨rfl,rfl,rfl,fun h=>h⟩,rfl,d7 om,trivial⟩⟩
     exact u6 (f:=P3) (x:=D4 k) om)
 have hke:k=e.moves.length:=om;subst hke;conv=>whnf
 repeat' (first|refine zx ?_|apply zD<;>intro h<;>try omega)<;>conv=>whnf
 all_goals try omega
 refine i7 d9 (fun p=>([J,S.c (C.t (T.ptr (evT e))),J,S.c (C.own 0 0 (e.moves.length+p) true)]++Jn 19++[S.c (C.t (a2a e.places)),eI e.places.length,eI p]++Jn 41,[a4x (B8 e e.moves.length p)])) e.places.length tT [some 0] trivial
  ⟨rfl,rfl,⟨d8 (rows:=(B8 e e.moves.length 0).map P3) rfl rfl rfl rfl rfl,trivial⟩,⟨rfl,⟨rfl,rfl,rfl,fun h=>h⟩,rfl,d7 zq,rz⟩⟩ ?_
 intro p hpl _;have l2:=a31 e e.moves.length p;by_cases hlt:p<e.places.length
 ·obtain ⟨pl,hpp⟩:∃pl,e.places[p]? =some pl:=⟨_,lbf hlt⟩;have hkp:w9 e p=pl.kind:=by unfold w9;simp [hpp]
  rw [aU6];conv=>whnf
  repeat' (first|refine zx ?_|refine f7 hpp ?_|apply zD<;>intro h<;>try omega)<;>conv=>whnf
  all_goals try omega
  refine i7 d9 (fun i=>([J,S.c (C.t (T.ptr (evT e))),J,S.c (C.own 0 0 (e.moves.length+p) true),J,eI p,sP 1 0 0,S.c (C.own 2 0 (x6 e p i).length true)]++Jn 15++[S.c (C.t (a2a e.places)),eI e.places.length,eI p,J,J,J,J,J,S.c (C.t (a2M e.moves)),eI e.moves.length,eI i]++Jn 33,[a4x (B8 e e.moves.length p),plB pl,H4 (x6 e p i)])) e.moves.length tT [some 0,some 1,none] trivial
   ⟨rfl,rfl,⟨f5 (e7 _),f5 (e7 [pl.row]),⟨(by show (toC ((x6 e p 0).map k6))=[];rw [a51];rfl),rfl⟩,trivial⟩,⟨rfl,⟨rfl,rfl,rfl,fun h=>h⟩,rfl,rz,⟨rfl,rfl,by rw [a51];rfl⟩,rfl,rfl,rfl,rfl,d7 zq,rz⟩⟩ ?_
  intro i hi _;have l3:=ae2 e p i;by_cases hil:i<e.moves.length
  ·obtain ⟨m,hmm⟩:∃m,e.moves[i]? =some m:=⟨_,lbf hil⟩;have on:=a9O i 1 de de;have on2:=a9O i (-1) de de;have lA:(x6 e p i).length<=(H4 (x6 e p i)).rows.length:=by show _<=(toC _).length;simp [toC]
   have eS:=a8v (p:=p) hmm;rw [hkp] at eS;by_cases h0:pl.kind=0
   ·have e0:∀k,x6 e p k=[]:=fun k=>by unfold x6;rw [hkp,if_pos h0]
    rw [e0,e0];conv=>whnf
    repeat' (first|refine zx ?_|refine f7 hmm ?_|apply zD<;>intro h<;>try omega)<;>conv=>whnf
    all_goals first|omega|exact ⟨hil,trivial,[some 0,some 1,some 2],rfl,rfl,⟨f5 (e7 _),f5 (e7 [pl.row]),f5 (e7 _),trivial⟩,⟨rfl,⟨rfl,rfl,rfl,fun h=>h⟩,rfl,rz,⟨rfl,rfl,rfl,fun h=>h⟩,rfl,rfl,rfl,rfl,rfl,d7 om,trivial⟩⟩
   rw [if_neg h0] at eS;by_cases h1:m.dst=p
   ·rw [if_pos h1] at eS;rw [eS];conv=>whnf
    repeat' (first|refine zx ?_|refine f7 hmm ?_|refine o6 lA zu ?_|apply zD<;>intro h<;>try omega)<;>conv=>whnf
    all_goals first
     |omega
     |(refine ⟨hil,trivial,[some 0,some 1,some 4],rfl,rfl,⟨f5 (e7 _),f5 (e7 [pl.row]),d8 (rows:=(x6 e p i++[((i:Int),((1:Int):Rat))]).map k6) rfl rfl rfl ?_ rfl,trivial⟩,⟨rfl,⟨rfl,rfl,rfl,fun h=>h⟩,rfl,rz,⟨rfl,rfl,?_,fun h=>h⟩,rfl,rfl,rfl,rfl,rfl,d7 om,trivial⟩⟩
       ·exact u6 (f:=k6) (x:=((i:Int),((1:Int):Rat))) rfl
       ·simp [toC])
   rw [if_neg h1] at eS;by_cases h2:m.src=p
   ·rw [if_pos h2] at eS;rw [eS];conv=>whnf
    repeat' (first|refine zx ?_|refine f7 hmm ?_|refine o6 lA zu ?_|apply zD<;>intro h<;>try omega)<;>conv=>whnf
    all_goals first
     |omega
     |(refine ⟨hil,trivial,[some 0,some 1,some 4],rfl,rfl,⟨f5 (e7 _),f5 (e7 [pl.row]),d8 (rows:=(x6 e p i++[((i:Int),((-1:Int):Rat))]).map k6) rfl rfl rfl ?_ rfl,trivial⟩,⟨rfl,⟨rfl,rfl,rfl,fun h=>h⟩,rfl,rz,⟨rfl,rfl,?_,fun h=>h⟩,rfl,rfl,rfl,rfl,rfl,d7 om,trivial⟩⟩
       ·exact u6 (f:=k6) (x:=((i:Int),((-1:Int):Rat))) rfl
       ·simp [toC])
   rw [if_neg h2] at eS;rw [eS];conv=>whnf
   repeat' (first|refine zx ?_|refine f7 hmm ?_|apply zD<;>intro h<;>try omega)<;>conv=>whnf
   all_goals first|omega|exact ⟨hil,trivial,[some 0,some 1,some 2],rfl,rfl,⟨f5 (e7 _),f5 (e7 [pl.row]),f5 (e7 _),trivial⟩,⟨rfl,⟨rfl,rfl,rfl,fun h=>h⟩,rfl,rz,⟨rfl,rfl,rfl,fun h=>h⟩,rfl,rfl,rfl,rfl,rfl,d7 om,trivial⟩⟩
  ·have hie:i=e.moves.length:=by omega
   subst hie;have lA:e.moves.length+p<=(a4x (B8 e e.moves.length p)).rows.length:=by show _<=(toC _).length;simp [toC,l2]
   conv=>whnf
   repeat' (first|refine zz ?_|refine a4d.own ?_|refine ⟨lbS _,?_⟩|refine o6 lA (by simp [toC,F5];omega) ?_|apply zD<;>intro h<;>try omega|refine zy ?_|fail)<;>conv=>whnf
   all_goals first
    |omega
    |(refine ⟨hlt,trivial,[some 4],rfl,rfl,⟨⟨rfl,rfl,rfl,.inr ?_⟩,trivial⟩,⟨rfl,⟨rfl,rfl,rfl,fun h=>h⟩,rfl,rfl,d7 om,trivial⟩⟩
      show a4o [some 4] _ (List.take (e.moves.length+p) (toC ((B8 e e.moves.length p).map P3))++[[C.own 2 0 (x6 e p e.moves.length).length true]]) (toC ((B8 e e.moves.length p++[x6 e p e.moves.length]).map P3));rw [lbn (by simp [toC,l2]),show toC ((B8 e e.moves.length p++[x6 e p e.moves.length]).map P3)=toC ((B8 e e.moves.length p).map P3)++[[C.t (Z5 (x6 e p e.moves.length))]] by simp [toC,P3]];refine a9P ?_;exact aD8 (k:=H4 (x6 e p e.moves.length)) rfl rfl zi rfl rfl (by rw [lbr]))
 ·have hpe:p=e.places.length:=by omega
  subst hpe;conv=>whnf
  repeat' (first|refine zx ?_|apply zD<;>intro h<;>try omega)<;>conv=>whnf
  all_goals first|omega|exact I4 rfl (fun h=>h) rfl rfl (by simp [l2])
structure a7E (s:j2) (gL:List (List (Int × Rat))):Prop where
 p:a1b s gL
 sm:I8 s
 pos:0<s.n
 w:∀g ∈ gL,a1e 1 g
 l:gL.length<=30
def a2K {B:Nat} {g:List (Int × Rat)} (h:a1e B g) (hB:B<=1048575):z5 g:=fun t ht=>by
 obtain ⟨c,h1,h2⟩:=h t ht;exact ⟨c,h1,o7 om om⟩
def a8m {s:j2} {gL:List (List (Int × Rat))} (h:a7E s gL) (out:List Bool):∀k,k<=gL.length->a1e k (G4 gL out k)
 |0,_=>fun t ht=>by cases ht
 |k+1,hk=>by
  have ih:=a8m h out k om;unfold G4;split
  ·intro t ht;obtain ⟨c,h1,h2⟩:=ih t ht;exact ⟨c,h1,om⟩
  ·exact b2p _ (lbS _) ih (h.w _ (N3 om))
def a6e {s:j2} {gL:List (List (Int × Rat))} (h:a7E s gL) (out:List Bool) (k:Nat) (hk:k<=gL.length):z5 (G4 gL out k):=a2K (a8m h out k hk) (by have:=h.l;omega)
def aQ6 {s:j2} {gL:List (List (Int × Rat))} (h:a7E s gL) (out:List Bool):∀v ∈ a1Q s gL out,rl v<=31:=b7J h.sm (W7 h.p out _ (lbS _)) (a6e h out _ (lbS _))
def av6 {s:j2} {gL:List (List (Int × Rat))} {out:List Bool}:(a1Q s gL out).length=s.n.toNat:=aF9
def a8f {s:j2} {gL:List (List (Int × Rat))}:∀k,(a13 s gL k).length=s.n.toNat
 |0=>av6
 |k+1=>a1G (a8f k) av6
def ah4 {s:j2} {gL:List (List (Int × Rat))} (h:a7E s gL) (k:Nat):∀v ∈ a13 s gL k,rl v<=(k+1)*32:=by
 induction k with
 |zero=>
  intro v hv;have hv:v ∈ a1Q s gL (y3 s gL 0):=hv;exact lbT (aQ6 h (y3 s gL 0) v hv) de
 |succ k ih=>
  have hf:=aQ6 h (y3 s gL (k+1));intro v hv;have hv:v ∈ Z3 (a13 s gL k) (a1Q s gL (y3 s gL (k+1))):=hv;generalize a13 s gL k=X at ih hv;generalize a1Q s gL (y3 s gL (k+1))=Y at hf hv;have h1:=aH2 ih hf v hv;have e:(k+1+1)*32=(k+1)*32+32:=lbW _ _;rw [e];exact h1
def V9 (b:Bool):List T:=[tb b]
abbrev a8E (l:List Bool):T:=.sl 1 .any (l.map V9)
abbrev a99 (l:List Bool):S:=.c (.t (a8E l))
abbrev I3 (l:List Bool):Blk:={ mode:=.live,elem:=4,size:=1,rows:=toC (l.map V9),box:=false }
def a0L (gL:List (List (Int × Rat))) (out:List Bool) (x:List Rat) (i:Nat):List Bool:=(List.range gL.length).map fun j=>if j<i then (out.getD j false || a14 (gL.getD j []) x) else out.getD j false
def a0R (gL:List (List (Int × Rat))) (out:List Bool) (x:List Rat) (i:Nat):Bool:=(List.range i).any fun j=>!out.getD j false && a14 (gL.getD j []) x
def a0E (gL:List (List (Int × Rat))) (out:List Bool) (x:List Rat) (i:Nat):(a0L gL out x i).length=gL.length:=by simp [a0L]
def az3 {gL:List (List (Int × Rat))} {out:List Bool} {x:List Rat} (h:out.length=gL.length):a0L gL out x 0=out:=by
 refine b37 (by rw [a0E,h]) fun i h1 h2=>?_
 simp [a0L,lbl,lbf h2]
def aY2 {gL:List (List (Int × Rat))} {out:List Bool} {x:List Rat} {i:Nat} (h:i<gL.length):(a0L gL out x i)[i]? =some (out.getD i false):=by
 unfold a0L;rw [lba,T8 h];simp
def aW4 (s:j2) (gL:List (List (Int × Rat))) (k:Nat):a0L gL (y3 s gL k) (a1Q s gL (y3 s gL k)) gL.length=y3 s gL (k+1):=by
 show _=aG9 s gL (y3 s gL k);unfold a0L aG9;exact lbp fun j hj=>by rw [if_pos (lbC.1 hj)]
def b0N {gL:List (List (Int × Rat))} {out:List Bool} {x:List Rat} {i:Nat} (h:i<gL.length) (hp:a14 (gL.getD i []) x=true):(a0L gL out x i).set i true=a0L gL out x (i+1):=by
 refine a05 fun j=>?_
 rw [lbg];by_cases hj:j<gL.length
 ·unfold a0L;rw [lba,lba,T8 hj,lbr,lbv];by_cases hij:i=j
  ·subst hij;rw [if_pos rfl,if_pos h];show some true=some (if i<i+1 then (out.getD i false || a14 (gL.getD i []) x) else out.getD i false);rw [if_pos (show i<i+1 by omega),hp,Bool.or_true]
  ·rw [if_neg hij];show some (if j<i then (out.getD j false || a14 (gL.getD j []) x) else out.getD j false)=some (if j<i+1 then (out.getD j false || a14 (gL.getD j []) x) else out.getD j false);by_cases hji:j<i
   ·rw [if_pos hji,if_pos om]
   ·rw [if_neg hji,if_neg om]
 ·rw [lbd (by rw [a0E];omega),lbd (by rw [a0E];omega),a0E];by_cases hij:i=j
  ·subst hij;omega
  ·rw [if_neg hij]
def a6z {gL:List (List (Int × Rat))} {out:List Bool} {x:List Rat} {i:Nat} (h:out.getD i false=true∨a14 (gL.getD i []) x=false):a0L gL out x (i+1)=a0L gL out x i:=by
 unfold a0L;refine lbp fun j hj=>?_
 by_cases hij:j=i
 ·subst hij;rw [if_pos om,if_neg om];rcases h with h|h
  ·rw [h];rfl
  ·rw [h,ao2]
 ·by_cases hji:j<i
  ·rw [if_pos hji,if_pos om]
  ·rw [if_neg hji,if_neg om]
def at9 (gL:List (List (Int × Rat))) (out:List Bool) (x:List Rat) (i:Nat):a0R gL out x (i+1)=(a0R gL out x i || (!out.getD i false && a14 (gL.getD i []) x)):=by
 unfold a0R;rw [a3D,List.any_append];simp
def aG3 {s:j2} {gL:List (List (Int × Rat))} {k:Nat}:a0R gL (y3 s gL k) (a1Q s gL (y3 s gL k)) gL.length=false↔y3 s gL (k+1)=y3 s gL k:=by
 unfold a0R;rw [a9h];constructor
 ·intro h;refine a1r (by rw [L6,L6]) fun i hi=>?_
  rw [L6] at hi;rw [a2W hi];have:=h i (lbC.2 hi);cases ho:(y3 s gL k).getD i false with
  |true=>rfl
  |false=>
   rw [ho] at this;cases hp:a14 (gL.getD i []) (a1Q s gL (y3 s gL k)) with
   |false=>rfl
   |true=>rw [hp] at this;exact absurd rfl this
 ·intro h i hi;have hi:=lbC.1 hi;have:=a2W (s:=s) (k:=k) hi;rw [h] at this;cases ho:(y3 s gL k).getD i false with
  |true=>simp
  |false=>
   rw [ho,a4M] at this;rw [← this];simp
def ac5 {l:List Bool} {i n:Nat} (h:n=i):t4 (I3 l) ((I3 l).rows.set n [C.t (tb true)])=I3 (l.set i true):=by
 subst h;unfold t4;simp [toC,a1R,V9]
noncomputable def b1f (s:j2) (gL:List (List (Int × Rat))):Nat->T
 |0=>.sl 0 .nil []
 |k+1=>z4 ((a13 s gL k).map fz)
def scF (a:Nat->Rat) (c:Rat) (k:Nat):Nat->Rat:=fun j=>if j<k then a j*c else a j
def b8r (x y:List Rat) (h:x.length=y.length) (h0:0<x.length) (hn:x.length<=1000) (hx:∀v ∈ x,rl v<=60000) (hy:∀v ∈ y,rl v<=60000):
 ec 246 [p5 (x.map fz),p5 (y.map fz)] [] (.c (.own 0 0 x.length true)) [flB ((Z3 x y).map fz)]:=by
 obtain ⟨n,hnx⟩:∃n,x.length=n:=⟨_,rfl⟩;have gx:∀(x:List Rat),(∀ v ∈ x,rl v<=60000)->∀j,j<x.length->rl (x.getD j 0)<=60000:=fun x hx j hj=>by
  rw [lbl,lbf hj];exact hx _ (lbF hj)
 have ha:=gx x hx;have hb:=gx y hy;rw [Y6 x,Y6 y,Y6 (Z3 x y),a1G (n:=x.length) rfl h.symm,←h,hnx];rw [hnx] at ha h0 hn;rw [← h,hnx] at hb;have hs:∀j,j<n->(Z3 x y).getD j 0=x.getD j 0+y.getD j 0:=fun j hj=>a4e (n:=n) hnx om hj
 have e0:rF n (fun j=>(Z3 x y).getD j 0)=rF n (smF (fun j=>x.getD j 0) (fun j=>y.getD j 0) n):=s9 fun j hj=>by unfold smF;rw [if_pos hj];exact hs j hj
 rw [e0];have ha:∀j,j<n->rl ((fun j=>x.getD j 0) j)<=60000:=ha;have hb:∀j,j<n->rl ((fun j=>y.getD j 0) j)<=60000:=hb;generalize (fun j=>x.getD j 0)=a at ha ⊢;generalize (fun j=>y.getD j 0)=b at hb ⊢;have m1:((rF n b).map t5).length=n:=by simp [K5]
 have cl:=aa7 (rF n a) (by rw [K5];exact h0) (by rw [K5];omega);rw [K5] at cl;refine ac Tryz.func246 ?_;conv=>whnf
 repeat' (first|refine zx ?_|refine .inr ⟨_,_,cl,?_⟩|apply zD<;>intro h<;>try omega)<;>conv=>whnf
 refine i7 d9 (fun k=>([J,J,J,J,J,S.c (C.own 0 0 n true),J,J,J,J,p5 (rF n b),eI n,eI k]++Jn 18,[flB (rF n (smF a b k))])) n tT [some 0] trivial
  ⟨rfl,rfl,⟨d8 (rows:=(rF n a).map t5) rfl rfl rfl rfl (by rw [s9 (g:=smF a b 0) (h:=a) fun j hj=>by unfold smF;rw [if_neg om]]),trivial⟩,⟨⟨rfl,rfl,rfl,fun h=>h⟩,k8 rfl,d7 om,d7 rfl,trivial⟩⟩ ?_
 intro k hk _;by_cases hlt:k<n
 ·have eK:0+(k:Int).toNat=k:=by omega
  have ad:=a5h (a k) (b k) (ha k hlt) (hb k hlt);have gp:(rF n (smF a b k))[0+(k:Int).toNat]? =some (fz (a k)):=by rw [eK,E6 hlt];unfold smF;rw [if_neg om]
  have e:t4 (flB (rF n (smF a b k))) ((flB (rF n (smF a b k))).rows.set (0+(k:Int).toNat) (frC (fz (a k+b k))))=flB (rF n (smF a b (k+1))):=by
   rw [I5 eK,S4 hlt];refine congrArg flB (s9 fun j hj=>?_);unfold smF;by_cases h:j=k
   ·subst h;rw [if_pos rfl,if_pos om]
   ·rw [if_neg h];have:(j<k)↔(j<k+1):=om;simp only [this]
  conv=>whnf
  repeat' (first|refine zx ?_|refine a55 rfl hlt ?_|refine p8 gp ?_|refine bl0 [10] ?_|apply zD<;>intro h<;>try omega)<;>conv=>whnf
  all_goals first|omega|exact ⟨hlt,trivial,[some 0],rfl,rfl,⟨⟨rfl,rfl,rfl,.inl ⟨congrArg Blk.rows e,(congrArg Blk.rows e) ▸ e7 _⟩⟩,trivial⟩,⟨⟨rfl,rfl,rfl,fun h=>h⟩,rfl,rfl,d7 om,trivial⟩⟩
 ·have hke:k=n:=by omega
  subst hke;conv=>whnf
  repeat' (first|refine zx ?_|apply zD<;>intro h<;>try omega)<;>conv=>whnf
  all_goals first|omega|exact ⟨[some 0],rfl,rfl,⟨f5 (e7 _),trivial⟩,⟨rfl,rfl,rfl,fun h=>h⟩⟩
def a5P {out:List Bool} {j:Nat} {b:Bool} {K:List C->Prop} (h:out[j]? =some b) (k:K [C.t (tb b)]):∃row,(I3 out).rows[j]? =some row∧K row:=⟨_,by show (toC (out.map V9))[j]? =_;simp [toC,V9,h],k⟩
def aU2 {O:Blk} {y:List Rat} {n:Nat} (hl:y.length=n):a68 [some 0] [O,flB (y.map fz)] (.c (.own [O].length 0 n true)) (.c (.t (z4 (y.map fz)))):=by
 show b0l [some 0] [O,flB (y.map fz)] (.own 1 0 n true) (.t (.sl 4 .any ((y.map fz).map t5)));refine aD8 (k:=flB (y.map fz)) (app:=true) rfl rfl ?_ rfl rfl ?_
 ·intro h;cases h
 ·rw [lbr,lbr,hl]
def b4K (s:j2) (gL:List (List (Int × Rat))) (h:a7E s gL):
 ec 177 [S9 s,X0 gL] [] (.tup [a99 (isF s gL),p5 ((ap2 s gL).map fz)]) []:=by
 have hG:=h;have hL:=h.l;have h9:=h.sm.n;have hpos:=h.pos;have hn:=L3 h.sm.r;obtain ⟨n,hnn⟩:∃n,s.n.toNat=n:=⟨_,rfl⟩;have m1:(gL.map P3).length=gL.length:=zq;have cl:∀x:List Rat,x.length=n->ec 224 [p5 (x.map fz)] [] (.c (.own 0 0 n true)) [flB (x.map fz)]:=fun x hx=>by
  have:=aa7 (x.map fz) (by rw [lbr];omega) (by rw [lbr];omega);rwa [lbr,hx] at this
 have eR:List.replicate (((gL.map P3).length:Nat):Int).toNat [B6 (Value.bool false)]=toC ((y3 s gL 0).map V9):=by
  rw [lbZ,m1];show _=toC ((List.replicate gL.length false).map V9);simp [toC,V9];exact .inr rfl
 (refine ac Tryz.func177 ?_;(conv=>whnf);repeat ((first|refine b0x ?_|refine zy ?_);conv=>whnf))
 repeat' (first|refine zx ?_|refine a0x om om om de ?_|apply zD<;>intro h<;>try omega)<;>conv=>whnf
 refine i7 d9 (fun k=>([J,X0 gL,S.c (C.t (T.ptr [ti s.n,J7 s.rows])),J,J,J,S.c (C.own 0 0 gL.length true),S.c (C.t (b1f s gL k)),eI k]++Jn 94,[I3 (y3 s gL k)])) (gL.length+1) (fun k=>∀j,j<k->y3 s gL (j+1)≠y3 s gL j) [some 0] (fun j hj=>om)
  ⟨rfl,rfl,⟨⟨rfl,rfl,rfl,.inl ⟨eR,eR ▸ e7 _⟩⟩,trivial⟩,⟨rfl,rfl,⟨rfl,rfl,om,fun h=>h⟩,rz⟩⟩ ?_
 intro k hk hI;have hkl:=a5E hI;have olen:=L6 s gL k;generalize hout:y3 s gL k=out at olen;conv=>whnf
 repeat' (first|refine zx ?_|apply zD<;>intro h<;>try omega)<;>conv=>whnf
 refine i7 d9 (fun i=>([J,X0 gL,S.c (C.t (T.ptr [ti s.n,J7 s.rows])),J,J,J,S.c (C.own 0 0 gL.length true),S.c (C.t (b1f s gL k)),eI k,m8 (G4 gL out i)]++Jn 16++[X0 gL,eI gL.length,eI i]++Jn 74,[I3 out])) gL.length tT [some 0] trivial
  ⟨rfl,rfl,⟨f5 (e7 _),trivial⟩,⟨rfl,rfl,⟨rfl,rfl,rfl,fun h=>h⟩,k8 rfl,rfl,rfl,rfl,d7 zq,rz⟩⟩ ?_
 intro i hi _;by_cases hil:i<gL.length
 ·obtain ⟨g,hg⟩:∃g,gL[i]? =some g:=⟨_,lbf hil⟩;have hgd:gL.getD i []=g:=by rw [lbl,hg];rfl
  obtain ⟨b,hb⟩:∃b,out[i]? =some b:=⟨_,lbf om⟩;have hbd:out.getD i false=b:=by rw [lbl,hb];rfl
  have gp:out[0+(i:Int).toNat]? =some b:=by rw [O5,show (i:Int).toNat=i by omega];exact hb
  have eS:G4 gL out (i+1)=if b=true then G4 gL out i else u3 (G4 gL out i) g:=by
   conv=>lhs;unfold G4
   rw [hbd,hgd]
  rw [eS];have pl:=bm4 (G4 gL out i) g (a0w om (W7 h.p out i om)) (a0w om (h.p.g g (lbm hg)))
   (fun t ht=>by have:=D5 (a6e h out i om) t ht;omega) (fun t ht=>by have:=D5 (a2K (h.w g (lbm hg)) de) t ht;omega)
  cases b with
  |true=>
   rw [if_pos rfl];conv=>whnf
   repeat' (first|refine zx ?_|refine f7 hg ?_|refine a5P gp ?_|apply zD<;>intro h<;>try omega)<;>conv=>whnf
   all_goals first
    |omega
    |exact ⟨hil,trivial,[some 0],rfl,rfl,⟨f5 (e7 _),trivial⟩,⟨rfl,rfl,⟨rfl,rfl,rfl,fun h=>h⟩,k8 rfl,rfl,rfl,rfl,rfl,d7 om,trivial⟩⟩
  |false=>
   rw [if_neg de];conv=>whnf
   repeat' (first|refine zx ?_|refine f7 hg ?_|refine a5P gp ?_|apply zD<;>intro h<;>try omega)<;>conv=>whnf
   all_goals first|omega|exact ⟨hil,trivial,[some 0],rfl,rfl,⟨f5 (e7 _),trivial⟩,⟨rfl,rfl,⟨rfl,rfl,rfl,fun h=>h⟩,k8 rfl,rfl,rfl,rfl,rfl,d7 om,trivial⟩⟩
 have hie:i=gL.length:=om;subst hie;have mu:=b1P s (G4 gL out gL.length) h.sm h.p.z hpos (W7 h.p out _ (lbS _)) (a6e h out _ (lbS _));have xr:=aQ6 h out;have xl:(a1Q s gL out).length=n:=by rw [av6,hnn]
 have ex:V8 s (G4 gL out gL.length)=a1Q s gL out:=rfl;rw [ex] at mu;have m2:(((a1Q s gL out).map fz).map t5).length=n:=by rw [lbr,lbr,xl]
 have po:∀g ∈ gL,ec 173 [m8 g,p5 ((a1Q s gL out).map fz)] [] (j8 (a14 g (a1Q s gL out))) []:=fun g hg=>
  al4 g (a1Q s gL out) (by rw [xl];have:=h.p.g g hg;rwa [hnn] at this) (a2K (h.w g hg) de) (fun v hv=>by have:=xr v hv;omega) om (fun k=>by
   have h1:=a2u (D5 (a2K (h.w g hg) de)) xr k;have h2:=v8 (h.p.g g hg);have h3:g.length<=9:=om;have h4:=lbV (31+4) h3;omega)
 have eX:a1Q s gL (y3 s gL k)=a1Q s gL out:=by rw [hout]
 obtain ⟨x,hx⟩:∃x,a1Q s gL out=x:=⟨_,rfl⟩;rw [hx] at mu xr xl m2 po eX;conv=>whnf
 repeat' (first|refine zx ?_|refine bl0 [5] ?_|apply zD<;>intro h<;>try omega)<;>conv=>whnf
 all_goals try omega
 refine i7 d9 (fun i=>([J,X0 gL,S.c (C.t (T.ptr [ti s.n,J7 s.rows])),J,J,J,S.c (C.own 0 0 gL.length true),S.c (C.t (b1f s gL k)),eI k,J,J,J,p5 (x.map fz),J,j8 (a0R gL out x i)]++Jn 33++[X0 gL,eI gL.length,eI i]++Jn 52,[I3 (a0L gL out x i)])) gL.length tT [some 0] trivial
  ⟨rfl,rfl,⟨d8 (rows:=out.map V9) rfl rfl rfl rfl (by rw [az3 olen]),trivial⟩,⟨rfl,rfl,⟨rfl,rfl,rfl,fun h=>h⟩,k8 rfl,rfl,rfl,rfl,rfl,d7 zq,rz⟩⟩ ?_
 intro i hi _;by_cases hil:i<gL.length
 ·obtain ⟨g,hg⟩:∃g,gL[i]? =some g:=⟨_,lbf hil⟩;have hgd:gL.getD i []=g:=by rw [lbl,hg];rfl
  obtain ⟨b,hb⟩:∃b,out.getD i false=b:=⟨_,rfl⟩;have gp:(a0L gL out x i)[0+(i:Int).toNat]? =some b:=by rw [O5,show (i:Int).toNat=i by omega,aY2 hil,hb]
  have pg:=po g (lbm hg);rw [at9,hb,hgd];have eM:0+(i:Int).toNat=i:=om;generalize a0R gL out x i=mo;cases b with
  |true=>
   rw [a6z (.inl hb)];cases mo<;>
   ·conv=>whnf
    repeat' (first|refine zx ?_|refine f7 hg ?_|refine a5P gp ?_|apply zD<;>intro h<;>try omega)<;>conv=>whnf
    all_goals first
     |omega
     |exact ⟨hil,trivial,[some 0],rfl,rfl,⟨f5 (e7 _),trivial⟩,⟨rfl,rfl,⟨rfl,rfl,rfl,fun h=>h⟩,k8 rfl,rfl,rfl,rfl,rfl,rfl,d7 om,trivial⟩⟩
  |false=>
   cases hq:a14 g x with
   |false=>
    rw [hq] at pg;rw [a6z (.inr (by rw [hgd];exact hq))];cases mo<;>
    ·conv=>whnf
     repeat' (first|refine zx ?_|refine f7 hg ?_|refine a5P gp ?_|apply zD<;>intro h<;>try omega)<;>conv=>whnf
     all_goals first
      |omega
      |exact ⟨hil,trivial,[some 0],rfl,rfl,⟨f5 (e7 _),trivial⟩,⟨rfl,rfl,⟨rfl,rfl,rfl,fun h=>h⟩,k8 rfl,rfl,rfl,rfl,rfl,rfl,d7 om,trivial⟩⟩
   |true=>
    rw [hq] at pg;have eB:=ac5 (l:=a0L gL out x i) eM;rw [b0N hil (by rw [hgd];exact hq)] at eB;cases mo<;>
    ·conv=>whnf
     repeat' (first|refine zx ?_|refine f7 hg ?_|refine a5P gp ?_|apply zD<;>intro h<;>try omega)<;>conv=>whnf
     all_goals first|omega|exact ⟨hil,trivial,[some 0],rfl,rfl,⟨⟨rfl,rfl,rfl,.inl ⟨congrArg Blk.rows eB,(congrArg Blk.rows eB) ▸ e7 _⟩⟩,trivial⟩,⟨rfl,rfl,⟨rfl,rfl,rfl,fun h=>h⟩,k8 rfl,rfl,rfl,rfl,rfl,rfl,d7 om,trivial⟩⟩
 have hie:i=gL.length:=om;subst hie;cases k with
 |zero=>
  have ey:a13 s gL 0=x:=by show a1Q s gL (y3 s gL 0)=x;exact eX
  have cq:=fun H:Hp=>a2d (H:=H) (cl x xl) rfl rfl (e7 _)
  have eT:b1f s gL 0=.sl 0 .nil []:=rfl;rw [eT];have eT1:b1f s gL (0+1)=z4 (x.map fz):=by show z4 ((a13 s gL 0).map fz)=_;rw [ey]
  have yl:x.length=n:=by rw [← ey,a8f,hnn]
  have yr:∀v ∈ x,rl v<=1000:=fun v hv=>by
   rw [← ey] at hv;have h1:=ah4 hG _ v hv;have h2:=lbV 32 (show 0+1<=31 by omega);omega
  have oE:a0L gL out x gL.length=y3 s gL (0+1):=by rw [← hout,←eX];exact aW4 s gL _
  have mE:a0R gL out x gL.length=false↔y3 s gL (0+1)=y3 s gL 0:=by rw [← hout,←eX];exact aG3
  rw [oE];cases hmo:a0R gL out x gL.length with
  |true=>
   have hne:y3 s gL (0+1)≠y3 s gL 0:=fun e=>by rw [mE.2 e] at hmo;cases hmo
   have hI2:∀j,j<0+1->y3 s gL (j+1)≠y3 s gL j:=fun j hj=>by
    by_cases hjk:j=0
    ·subst hjk;exact hne
    ·exact hI j om
   have hf2:=a5E hI2;rw [eT1];generalize y3 s gL (0+1)=O';generalize x=y at yl yr cq ⊢;conv=>whnf
   repeat' (first|refine zx ?_|refine .inl ⟨_,_,cq _,?_⟩|apply zD<;>intro h<;>try omega)<;>conv=>whnf
   all_goals first
    |omega
    |exact ⟨om,hI2,[some 0],rfl,rfl,⟨f5 (e7 _),trivial⟩,⟨rfl,rfl,⟨rfl,rfl,rfl,fun h=>h⟩,aU2 yl,d7 om,trivial⟩⟩
  |false=>
   have hK:=b3j (mE.1 hmo) hI;have eF:y3 s gL (0+1)=isF s gL:=by unfold isF;rw [← hK];exact mE.1 hmo
   have eW:ap2 s gL=x.map fun v=>v*Rat.divInt 1 ((0+1:Nat):Int):=by unfold ap2;rw [← hK,ey]
   rw [eF,eW];have of:=b7N 1 ((0:Nat)+1:Int) om de de om om;have e1:Rat.divInt 1 ((0+1:Nat):Int)=Rat.divInt 1 ((0:Nat)+1:Int):=by push_cast;rfl
   rw [e1];have shr:rl (Rat.divInt 1 ((0:Nat)+1:Int))<=1:=by
    have h1:=N1 (p:=1) (q:=((0:Nat)+1:Int)) om;have h2:=o7 (x:=1) de de;have h3:=o7 (x:=((0:Nat)+1:Int)) om om;omega
   generalize Rat.divInt 1 ((0:Nat)+1:Int)=sh at of shr;have iL:(isF s gL).length=gL.length:=L6 _ _ _;generalize isF s gL=I' at iL;generalize x=y at yl yr cq ⊢;have m5:((y.map fz).map t5).length=n:=by rw [lbr,lbr,yl]
   conv=>whnf
   repeat' (first|refine zx ?_|refine .inl ⟨_,_,cq _,?_⟩|refine bl0 [7] ?_|refine bl0 [5] ?_|apply zD<;>intro h<;>try omega)<;>conv=>whnf
   all_goals try omega
   refine i7 d9 (fun j=>(Jn 6++[S.c (C.own 0 0 gL.length true),S.c (C.own 1 0 n true),J,J,J,J,J,J,J,J,J,sP 2 0 0]++Jn 66++[S.c (C.own 1 0 n true),eI n,eI j]++Jn 16,[I3 I',flB (rF n (scF (fun j=>y.getD j 0) sh j)),frX sh])) n tT [some 0,some 1,some 2] trivial
    ⟨rfl,rfl,⟨f5 (e7 _),d8 (rows:=(y.map fz).map t5) rfl rfl rfl rfl (by rw [Y6 y,yl,s9 (g:=scF (fun j=>y.getD j 0) sh 0) (h:=fun j=>y.getD j 0) fun j hj=>by unfold scF;rw [if_neg om]]),b2B _,trivial⟩,⟨⟨rfl,rfl,rfl,fun h=>h⟩,⟨rfl,rfl,rfl,fun h=>h⟩,rz,⟨rfl,rfl,rfl,fun h=>h⟩,d7 om,rz⟩⟩ ?_
   intro j hj _;by_cases hjl:j<n
   ·have hyj:rl (y.getD j 0)<=1000:=by rw [lbl,lbf om];exact yr _ (lbF _)
    have mu2:=as8 (y.getD j 0) sh om om;have eJ:0+(j:Int).toNat=j:=om;have gj:(rF n (scF (fun j=>y.getD j 0) sh j))[0+(j:Int).toNat]? =some (fz (y.getD j 0)):=by rw [eJ,E6 hjl];unfold scF;rw [if_neg om]
    have e:t4 (flB (rF n (scF (fun j=>y.getD j 0) sh j))) ((flB (rF n (scF (fun j=>y.getD j 0) sh j))).rows.set (0+(j:Int).toNat) (frC (fz (y.getD j 0*sh))))=flB (rF n (scF (fun j=>y.getD j 0) sh (j+1))):=by
     rw [I5 eJ,S4 hjl];refine congrArg flB (s9 fun q hq=>?_);unfold scF;by_cases hqj:q=j
     ·subst hqj;rw [if_pos rfl,if_pos om]
     ·rw [if_neg hqj];by_cases hq2:q<j
      ·rw [if_pos hq2,if_pos om]
      ·rw [if_neg hq2,if_neg om]
    conv=>whnf
    repeat' (first|refine zx ?_|refine p8 gj ?_|refine bl0 [7] ?_|refine bl0 [5] ?_|apply zD<;>intro h<;>try omega)<;>conv=>whnf
    all_goals first|omega|exact ⟨hjl,trivial,[some 0,some 1,some 2],rfl,rfl,⟨f5 (e7 _),⟨rfl,rfl,rfl,.inl ⟨congrArg Blk.rows e,(congrArg Blk.rows e) ▸ e7 _⟩⟩,b2B _,trivial⟩,⟨⟨rfl,rfl,rfl,fun h=>h⟩,⟨rfl,rfl,rfl,fun h=>h⟩,rz,⟨rfl,rfl,rfl,fun h=>h⟩,rfl,d7 om,trivial⟩⟩
   ·have hje:j=n:=by omega
    subst hje;have eE:rF j (scF (fun j=>y.getD j 0) sh j)=(y.map fun v=>v*sh).map fz:=by
     rw [Y6 (y.map _),lbr,yl];refine s9 fun q hq=>?_
     unfold scF;rw [if_pos hq];show y.getD q 0*sh=(y.map fun v=>v*sh).getD q 0;rw [lbl,lbl,lba,lbf om];rfl
    rw [eE];conv=>whnf
    repeat' (first|refine zx ?_|apply zD<;>intro h<;>try omega)<;>conv=>whnf
    all_goals first
     |omega
     |exact n9 ⟨(show VC _ (fun id=>G8 [] id=true) (C.own 0 0 _ true) _ from s6 (k:=I3 I') rfl rfl (fun h=>h) rfl rfl (by rw [lbr,iL])),(show VC _ (fun id=>G8 [] id=true) (C.own 1 0 _ true) _ from s6 (k:=flB ((y.map fun v=>v*sh).map fz)) rfl rfl (fun h=>h) rfl rfl (by rw [lbr,lbr,lbr,yl])),trivial⟩
 |succ k=>
  have ey:a13 s gL (k+1)=Z3 (a13 s gL k) x:=by show Z3 (a13 s gL k) (a1Q s gL (y3 s gL (k+1)))=_;rw [eX]
  have sl:=a8f (s:=s) (gL:=gL) k;have sr:=ah4 hG k;have hl7:0<(((a13 s gL k).map fz).map t5).length:=by rw [lbr,lbr,sl];omega
  have pl:=b8r (a13 s gL k) x (by rw [sl,xl,hnn]) om om (fun v hv=>by have:=sr v hv;omega) (fun v hv=>by have:=xr v hv;omega);rw [sl,hnn] at pl;have pq:=fun H:Hp=>a2d (H:=H) pl rfl rfl (e7 _)
  have eT:b1f s gL (k+1)=z4 ((a13 s gL k).map fz):=rfl;rw [eT];have eT1:b1f s gL (k+1+1)=z4 ((Z3 (a13 s gL k) x).map fz):=by show z4 ((a13 s gL (k+1)).map fz)=_;rw [ey]
  have yl:(Z3 (a13 s gL k) x).length=n:=by rw [← ey,a8f,hnn]
  have yr:∀v ∈ (Z3 (a13 s gL k) x),rl v<=1000:=fun v hv=>by
   rw [← ey] at hv;have h1:=ah4 hG _ v hv;have h2:=lbV 32 (show (k+1)+1<=31 by omega);omega
  have oE:a0L gL out x gL.length=y3 s gL ((k+1)+1):=by rw [← hout,←eX];exact aW4 s gL _
  have mE:a0R gL out x gL.length=false↔y3 s gL ((k+1)+1)=y3 s gL (k+1):=by rw [← hout,←eX];exact aG3
  rw [oE];cases hmo:a0R gL out x gL.length with
  |true=>
   have hne:y3 s gL ((k+1)+1)≠y3 s gL (k+1):=fun e=>by rw [mE.2 e] at hmo;cases hmo
   have hI2:∀j,j<(k+1)+1->y3 s gL (j+1)≠y3 s gL j:=fun j hj=>by
    by_cases hjk:j=(k+1)
    ·subst hjk;exact hne
    ·exact hI j om
   have hf2:=a5E hI2;rw [eT1];generalize y3 s gL ((k+1)+1)=O';generalize (Z3 (a13 s gL k) x)=y at yl yr pq ⊢;conv=>whnf
   repeat' (first|refine zx ?_|refine ⟨hl7,?_⟩|refine .inl ⟨_,_,pq _,?_⟩|apply zD<;>intro h<;>try omega)<;>conv=>whnf
   all_goals first
    |omega
    |exact ⟨om,hI2,[some 0],rfl,rfl,⟨f5 (e7 _),trivial⟩,⟨rfl,rfl,⟨rfl,rfl,rfl,fun h=>h⟩,aU2 yl,d7 om,trivial⟩⟩
  |false=>
   have hK:=b3j (mE.1 hmo) hI;have eF:y3 s gL ((k+1)+1)=isF s gL:=by unfold isF;rw [← hK];exact mE.1 hmo
   have eW:ap2 s gL=(Z3 (a13 s gL k) x).map fun v=>v*Rat.divInt 1 (((k+1)+1:Nat):Int):=by unfold ap2;rw [← hK,ey]
   rw [eF,eW];have of:=b7N 1 (((k+1):Nat)+1:Int) om de de om om;have e1:Rat.divInt 1 (((k+1)+1:Nat):Int)=Rat.divInt 1 (((k+1):Nat)+1:Int):=by push_cast;rfl
   rw [e1];have shr:rl (Rat.divInt 1 (((k+1):Nat)+1:Int))<=1:=by
    have h1:=N1 (p:=1) (q:=(((k+1):Nat)+1:Int)) om;have h2:=o7 (x:=1) de de;have h3:=o7 (x:=(((k+1):Nat)+1:Int)) om om;omega
   generalize Rat.divInt 1 (((k+1):Nat)+1:Int)=sh at of shr;have iL:(isF s gL).length=gL.length:=L6 _ _ _;generalize isF s gL=I' at iL;generalize (Z3 (a13 s gL k) x)=y at yl yr pq ⊢;have m5:((y.map fz).map t5).length=n:=by rw [lbr,lbr,yl]
   conv=>whnf
   repeat' (first|refine zx ?_|refine ⟨hl7,?_⟩|refine .inl ⟨_,_,pq _,?_⟩|refine bl0 [7] ?_|refine bl0 [5] ?_|apply zD<;>intro h<;>try omega)<;>conv=>whnf
   all_goals try omega
   refine i7 d9 (fun j=>(Jn 6++[S.c (C.own 0 0 gL.length true),S.c (C.own 1 0 n true),J,J,J,J,J,J,J,J,J,sP 2 0 0]++Jn 66++[S.c (C.own 1 0 n true),eI n,eI j]++Jn 16,[I3 I',flB (rF n (scF (fun j=>y.getD j 0) sh j)),frX sh])) n tT [some 0,some 1,some 2] trivial
    ⟨rfl,rfl,⟨f5 (e7 _),d8 (rows:=(y.map fz).map t5) rfl rfl rfl rfl (by rw [Y6 y,yl,s9 (g:=scF (fun j=>y.getD j 0) sh 0) (h:=fun j=>y.getD j 0) fun j hj=>by unfold scF;rw [if_neg om]]),b2B _,trivial⟩,⟨⟨rfl,rfl,rfl,fun h=>h⟩,⟨rfl,rfl,rfl,fun h=>h⟩,rz,⟨rfl,rfl,rfl,fun h=>h⟩,d7 om,rz⟩⟩ ?_
   intro j hj _;by_cases hjl:j<n
   ·have hyj:rl (y.getD j 0)<=1000:=by rw [lbl,lbf om];exact yr _ (lbF _)
    have mu2:=as8 (y.getD j 0) sh om om;have eJ:0+(j:Int).toNat=j:=om;have gj:(rF n (scF (fun j=>y.getD j 0) sh j))[0+(j:Int).toNat]? =some (fz (y.getD j 0)):=by rw [eJ,E6 hjl];unfold scF;rw [if_neg om]
    have e:t4 (flB (rF n (scF (fun j=>y.getD j 0) sh j))) ((flB (rF n (scF (fun j=>y.getD j 0) sh j))).rows.set (0+(j:Int).toNat) (frC (fz (y.getD j 0*sh))))=flB (rF n (scF (fun j=>y.getD j 0) sh (j+1))):=by
     rw [I5 eJ,S4 hjl];refine congrArg flB (s9 fun q hq=>?_);unfold scF;by_cases hqj:q=j
     ·subst hqj;rw [if_pos rfl,if_pos om]
     ·rw [if_neg hqj];by_cases hq2:q<j
      ·rw [if_pos hq2,if_pos om]
      ·rw [if_neg hq2,if_neg om]
    conv=>whnf
    repeat' (first|refine zx ?_|refine p8 gj ?_|refine bl0 [7] ?_|refine bl0 [5] ?_|apply zD<;>intro h<;>try omega)<;>conv=>whnf
    all_goals first|omega|exact ⟨hjl,trivial,[some 0,some 1,some 2],rfl,rfl,⟨f5 (e7 _),⟨rfl,rfl,rfl,.inl ⟨congrArg Blk.rows e,(congrArg Blk.rows e) ▸ e7 _⟩⟩,b2B _,trivial⟩,⟨⟨rfl,rfl,rfl,fun h=>h⟩,⟨rfl,rfl,rfl,fun h=>h⟩,rz,⟨rfl,rfl,rfl,fun h=>h⟩,rfl,d7 om,trivial⟩⟩
   ·have hje:j=n:=by omega
    subst hje;have eE:rF j (scF (fun j=>y.getD j 0) sh j)=(y.map fun v=>v*sh).map fz:=by
     rw [Y6 (y.map _),lbr,yl];refine s9 fun q hq=>?_
     unfold scF;rw [if_pos hq];show y.getD q 0*sh=(y.map fun v=>v*sh).getD q 0;rw [lbl,lbl,lba,lbf om];rfl
    rw [eE];conv=>whnf
    repeat' (first|refine zx ?_|apply zD<;>intro h<;>try omega)<;>conv=>whnf
    all_goals first|omega|exact n9 ⟨(show VC _ (fun id=>G8 [] id=true) (C.own 0 0 _ true) _ from s6 (k:=I3 I') rfl rfl (fun h=>h) rfl rfl (by rw [lbr,iL])),(show VC _ (fun id=>G8 [] id=true) (C.own 1 0 _ true) _ from s6 (k:=flB ((y.map fun v=>v*sh).map fz)) rfl rfl (fun h=>h) rfl rfl (by rw [lbr,lbr,lbr,yl])),trivial⟩
def b9t {cs:List M9} {rs:List F6} {scale reading day:Int} {lo hi:Rat} (h:L9 cs rs scale reading day=some (lo,hi)):0<=hi:=by
 unfold L9 at h;split at h
 ·cases h
 ·rename_i i hi;obtain ⟨hb,c,hc,_,hcv⟩:=O0 hi;have e:a1V cs i=c:=by unfold a1V;rw [hc];rfl
  rw [e] at h;split at h
  ·cases h
  ·split at h
   ·rename_i hr;injection h with h;injection h with h1 h2;rw [← h2];unfold L8 R6 at hcv;rw [a09] at hr;simp only [lbO,lbJ,a09] at hcv;obtain ⟨⟨⟨⟨⟨⟨⟨h1,h2⟩,h3⟩,_⟩,h4⟩,h5⟩,h6⟩,h7⟩:=hcv;have e1:0<=c.permille*reading:=lb1 om om;have e3:0<=c.drift*(day - c.since):=lb1 om om;have r1:(0:Rat)<=(reading:Rat):=by exact_mod_cast hr.1
    have r2:(0:Rat)<=Rat.divInt (c.permille*reading) 1000:=by rw [Rat.divInt_nonneg_iff_of_pos_right de];exact e1
    have r3:(0:Rat)<=((c.grams+c.drift*(day - c.since):Int):Rat):=by exact_mod_cast (show (0:Int)<=c.grams+c.drift*(day - c.since) by omega)
    unfold a3H;grind
   ·cases h
def b4C {t:j6} {kind:Int} (ht:y7 t=0) (k0:0<=kind) (k1:kind<8):b9z (B9 t) kind (List.replicate t.ev.moves.length 0):=by
 refine ⟨a3V ht,k0,k1,by simp [B9],fun i x hx=>?_⟩;rw [at7,b5w (fun j=>at7 _ j)];refine ⟨⟨lb4,fun _=>lb4,fun _=>rfl⟩,?_,fun g hg=>(by simp [t8,B9] at hg),fun _=>rfl⟩;show b7j (M5 t.ev x) 0=true;cases hiv:M5 t.ev x with
 |none=>rfl
 |some p=>
  obtain ⟨lo,hi⟩:=p;simp only [b7j,lbJ];unfold M5 at hiv;split at hiv
  ·cases hiv
  ·exact b9t hiv
def b2u {t:j6} {kind:Int} (i:Nat) (ht:y7 t=0) (k0:0<=kind) (k1:kind<8):aA9 t kind i (List.replicate t.ev.moves.length 0):=
 ⟨b4C ht k0 k1,fun j _ _=>at7 _ j⟩
structure QT (t:j6):Prop where
 h:y7 t=0
 m:t.ev.moves.length<=8
 p:t.ev.places.length<=20
def QT.c {t:j6} (h:QT t):t.cleans.length<=50:=(v3 h.h).2.2.1
def a0y {t:j6} {kind:Int} {i:Nat} {z:List Rat} (h:QT t) (k0:0<=kind) (k1:kind<8):m9 (u4 t kind i) z=true↔aA9 t kind i z:=alone_holds h.h k0 k1 (by have:=h.m;omega)
def b4B {l:List Nat} {i:Nat}:∀w ∈ P6 l i,b5q w:=by
 intro w hw;obtain ⟨j,hj,rfl⟩:=lby.1 hw;exact ⟨a0n de de,a7T⟩
def a0r {t:j6} {kind:Int} (i:Nat) (h:QT t):I8 (u4 t kind i):=by
 have hm:=h.m;have hc:=h.c;refine ⟨ae5 om hc,fun w hw=>?_,by show ((t.ev.moves.length:Nat):Int)<=9;omega,?_⟩
 ·rcases lbA.1 hw with hw|hw
  ·exact bz1 (a3V h.h) w hw
  ·exact b4B w hw
 ·have h1:=X3 (t:=B9 t) (kind:=kind) t.ev.moves.length;have h2:t.ev.moves.length*(2+(B9 t).finds.length+(B9 t).cleans.length)<=14*52:=lbU om (by show 2+0+t.cleans.length<=52;omega);have h3:=a3o (n6 t.ev) i;have h4:(n6 t.ev).length<=t.ev.moves.length:=B1 _;show ((t9 (B9 t) kind t.ev.moves.length)++P6 (n6 t.ev) i).length<=999;rw [lbq];omega
def a6F (i:Nat) (z:List Rat):n8 (D4 i) z=z.getD i 0:=by
 unfold D4;show _=_;simp only [n8,lbZ];have:((1:Int):Rat)=1:=rfl;rw [this];grind
def ac1 {e:Ev} (h0:F3 e=0) (z:List Rat) (p:Nat) (k:Nat):n8 (x6 e p k) z=if w9 e p=0 then 0 else a1N e z k p:=by
 unfold x6;split
 ·rfl
 ·exact a7q h0 z p k
def az0 {e:Ev} {p:Int}:∀k,a1e 1 (k9 e p k)
 |0=>fun t ht=>by cases ht
 |k+1=>by
  have ih:=az0 (e:=e) (p:=p) k;unfold k9;cases hx:e.moves[k]? with
  |none=>exact ih
  |some y=>
   simp only;split
   ·intro t ht;rcases lbA.1 ht with ht|ht
    ·exact ih t ht
    ·simp at ht;subst ht;exact ⟨1,rfl,de⟩
   ·split
    ·intro t ht;rcases lbA.1 ht with ht|ht
     ·exact ih t ht
     ·simp at ht;subst ht;exact ⟨-1,rfl,de⟩
    ·exact ih
def a9g {e:Ev} {g:List (Int × Rat)} (h:g ∈ v4 e):(∃ i,i<e.moves.length∧g=D4 i)∨∃p,p<e.places.length∧g=x6 e p e.moves.length:=by
 unfold v4 B8 at h;rcases lbA.1 h with h|h
 ·obtain ⟨i,hi,rfl⟩:=lby.1 h;exact .inl ⟨i,lbC.1 hi,rfl⟩
 ·obtain ⟨p,hp,rfl⟩:=lby.1 h;exact .inr ⟨p,lbC.1 hp,rfl⟩
def a2j (e:Ev):(v4 e).length=e.moves.length+e.places.length:=a31 _ _ _
def b2b {e:Ev} {i:Nat} (h:i<e.moves.length):(v4 e).getD i []=D4 i:=by
 unfold v4 B8;rw [lbl,lbb (by simpa using h)];simp [h]
def aU1 {e:Ev} {p:Nat} (h:p<e.places.length):(v4 e).getD (e.moves.length+p) []=x6 e p e.moves.length:=by
 unfold v4 B8;rw [lbl,lbc zq];simp [h]
def J1 {t:j6} {kind:Int} (i:Nat) (h:QT t) (h0:0<t.ev.moves.length) (k0:0<=kind) (k1:kind<8):a7E (u4 t kind i) (v4 t.ev):=by
 have hs:=a0r (kind:=kind) i h;have hck:=(v3 h.h).1;refine ⟨⟨hs.r,(aR4 hs.r).2 ⟨_,(a0y h k0 k1).2 (b2u i h.h k0 k1)⟩,fun g hg=>?_,fun g hg z hz=>?_⟩,hs,by show (0:Int)<((t.ev.moves.length:Nat):Int);omega,fun g hg=>?_,by rw [a2j];have:=h.m;have:=h.p;omega⟩
 ·show j9 (-1) ((((t.ev.moves.length:Nat):Int).toNat:Nat):Int) g=true;rw [lbZ];rcases a9g hg with ⟨i,hi,rfl⟩|⟨p,hp,rfl⟩
  ·exact a0e om (by show ((i:Nat):Int)<_;omega) (by show ((1:Int):Rat)≠0;decide) rfl
  ·unfold x6;split
   ·rfl
   ·exact (a3G _ (ab0 _)).1
 ·have hA:=(a0y h k0 k1).1 hz;rcases a9g hg with ⟨j,hj,rfl⟩|⟨p,hp,rfl⟩
  ·rw [a6F];obtain ⟨x,hx⟩:∃x,t.ev.moves[j]? =some x:=⟨_,lbf hj⟩;exact (hA.p.step j x hx).1.pos
  ·rw [ac1 hck];split
   ·exact lb4
   ·rename_i hk;exact b0I hA.p _ _ hk
 ·rcases a9g hg with ⟨j,hj,rfl⟩|⟨p,hp,rfl⟩
  ·intro t ht;simp [D4] at ht;subst ht;exact ⟨1,rfl,de⟩
  ·unfold x6;split
   ·intro t ht;cases ht
   ·exact az0 _
noncomputable def isA (t:j6) (kind:Int) (i:Nat):List Bool:=isF (u4 t kind i) (v4 t.ev)
noncomputable def R7 (t:j6) (kind:Int) (mv:Nat):List Nat:=(n6 t.ev).filter fun i=>(isA t kind i).getD mv false
noncomputable def P2 (t:j6) (kind:Int) (mv g:Nat):Bool:=(R7 t kind mv).any fun i=>(isA t kind i).getD g false
def b5t (e:Ev) (z:List Rat) (g:Nat):Rat:=if g<e.moves.length then z.getD g 0 else if w9 e ((g - e.moves.length:Nat):Int)=0 then 0 else a1N e z e.moves.length (g - e.moves.length)
def a9C {e:Ev} (h0:F3 e=0) (z:List Rat) {g:Nat} (hg:g<e.moves.length+e.places.length):n8 ((v4 e).getD g []) z=b5t e z g:=by
 unfold b5t;by_cases h:g<e.moves.length
 ·rw [if_pos h,b2b h,a6F]
 ·obtain ⟨p,rfl⟩:∃p,g=e.moves.length+p:=⟨g - e.moves.length,om⟩;rw [if_neg h,aU1 om,ac1 h0,Nat.add_sub_cancel_left]
def be9 {t:j6} {kind:Int} {i g:Nat} (h:QT t) (h0:0<t.ev.moves.length) (k0:0<=kind) (k1:kind<8) (hg:g<t.ev.moves.length+t.ev.places.length):
 (isA t kind i).getD g false=true↔∃z,aA9 t kind i z∧0<b5t t.ev z g:=by
 have hG:=J1 (kind:=kind) i h h0 k0 k1;have hck:=(v3 h.h).1;rw [isA,aN5 hG.p (by rw [a2j];exact hg)];constructor
 ·rintro ⟨z,hz,hp⟩;exact ⟨z,(a0y h k0 k1).1 hz,by rw [← a9C hck z hg];exact hp⟩
 ·rintro ⟨z,hz,hp⟩;exact ⟨z,(a0y h k0 k1).2 hz,by rw [a9C hck z hg];exact hp⟩
noncomputable def a7p (t:j6) (kind:Int) (i:Nat):List Rat:=ap2 (u4 t kind i) (v4 t.ev)
def aE8 {t:j6} {kind:Int} {i:Nat} (h:QT t) (h0:0<t.ev.moves.length) (k0:0<=kind) (k1:kind<8):aA9 t kind i (a7p t kind i)∧∀g,g<t.ev.moves.length+t.ev.places.length->(isA t kind i).getD g false=true->0<b5t t.ev (a7p t kind i) g:=by
 have hG:=J1 (kind:=kind) i h h0 k0 k1;have hck:=(v3 h.h).1;obtain ⟨h1,h2⟩:=b8W hG.p;refine ⟨(a0y h k0 k1).1 h1,fun g hg hi=>?_⟩;rw [← a9C hck _ hg];exact h2 g (by rw [a2j];exact hg) hi
def aP1 (t:j6) (kind:Int) (i:Nat):(isA t kind i).length=t.ev.moves.length+t.ev.places.length:=by
 rw [← a2j];exact L6 _ _ _
end Go.Proofs.YtikokmdpigploaaGreat
