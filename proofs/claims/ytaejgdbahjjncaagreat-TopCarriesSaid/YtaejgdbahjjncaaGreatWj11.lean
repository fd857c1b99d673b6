/- Part 11. -/
import Derived.Shelf.SlSortCmp.WholeK
import Derived.Shelf.SlSortCmp.NoneTotal
import Derived.Shelf.SlLaysF0
import Derived.Shelf.Lays
import Derived.Shelf.Lays2
import Derived.Test.YtaejgdbahjjncaaGreatProg
import Derived.Shelf.Small.Wraps
import Derived.Test.YtaejgdbahjjncaaGreatWj10
namespace Go.Proofs.YtaejgdbahjjncaaGreat
set_option linter.unusedVariables false
set_option linter.unusedSimpArgs false
set_option maxRecDepth 100000
set_option maxHeartbeats 8000000
open Go.RowKit
open St1 St2 St3 St4 St5 St6 St7 St8 StA StB
def a6j (e:Ev) (m k:Int):Bool:=decide (e.mats<=k) && decide (e.hhs<=6) && decide (e.scs<=6) && decide (e.places.length<=12) && decide ((e.moves.length:Int)<=m) && decide (e.certs.length<=10) && decide (e.recalls.length<=4) && decide (e.purities.length<=6)
theorem b2J (e:Ev) (m k:Int):a8 Tryz.prog 32 [evS e,a7 .i64 m,a7 .i64 k] [] (d9 (a6j e m k)) []:=by
 have m1:(e.places.map C2.row).length=e.places.length:=by simp
 have m2:(e.moves.map j5.row).length=e.moves.length:=by simp
 have m3:(e.certs.map D7.row).length=e.certs.length:=by simp
 have m4:(e.recalls.map s8.row).length=e.recalls.length:=by simp
 have m5:(e.purities.map w9.row).length=e.purities.length:=by simp
 (refine ac Tryz.func32 ?_;(conv=>whnf);repeat ((first|refine b0x ?_|refine zy ?_);conv=>whnf))
 repeat' (first|refine zx ?_|refine zd ?_ ?_<;>intro h<;>try omega|fail)<;>conv=>whnf
 all_goals
  refine c9 ?_
  unfold a6j
  simp only [m1,m2,m3,m4,m5] at *
  first
   |(symm;simp only [lbM,lbI];omega)
   |(symm;rw [← lbP];simp only [lbM,lbI];omega)
def b0X (z:List Fr) (n:Nat) (d:Int):Bool:=(z.take (n+1)).all (b1k d) && decide (z.length<=n)
theorem aV3 (z:List Fr) (n:Nat) (d:Int) (hn:n<=1000):a8 Tryz.prog 33 [B4 z,a7 .i64 n,a7 .i64 d] [] (d9 (b0X z n d)) []:=by
 have m1:(z.map n7).length=z.length:=by simp
 (refine ac Tryz.func33 ?_;(conv=>whnf);repeat ((first|refine b0x ?_|refine zy ?_);conv=>whnf))
 repeat' (first|refine zx ?_|refine zd ?_ ?_<;>intro h<;>try omega|fail)<;>conv=>whnf
 refine g8 b9 (fun k=>([B4 z,a7 .i64 n,a7 .i64 d,J,J,J,J,a7 .i64 k]++Jn 22,[])) (n+1) (fun k=>k<=z.length∧(z.take k).all (b1k d)=true) [] ⟨B9 _,rfl⟩
  ⟨rfl,rfl,trivial,⟨rfl,rfl,rfl,rfl,trivial⟩⟩ ?_
 rintro k hk ⟨hle,hI⟩
 by_cases hlt:k<z.length∧k<n+1
 ·obtain ⟨f,hf⟩:∃f,z[k]? =some f:=⟨_,lbf hlt.1⟩
  have hf2:(z.take (n+1))[k]? =some f:=by rw [lbi,if_pos hlt.2];exact hf
  have r:=b2R f d
  cases hff:b1k d f with
  |true=>
   rw [hff] at r
   conv=>whnf
   repeat' (first|refine zx ?_|refine qp r ?_|refine f9 hf ?_|refine zd ?_ ?_<;>intro h<;>try omega|fail)<;>conv=>whnf
   all_goals first
    |omega
    |exact ⟨hlt.2,⟨by omega,by rw [D3 hf,hI,hff];rfl⟩,[],rfl,rfl,trivial,⟨rfl,rfl,rfl,rfl,trivial⟩⟩
  |false=>
   rw [hff] at r
   have e1:b0X z n d=false:=by unfold b0X;rw [F8 hf2 hff];rfl
   rw [e1]
   conv=>whnf
   repeat' (first|refine zx ?_|refine qp r ?_|refine f9 hf ?_|refine zd ?_ ?_<;>intro h<;>try omega|fail)<;>conv=>whnf
   all_goals first
    |omega
    |exact c9 rfl
 ·have hk2:z.length=k∨k=n+1:=by omega
  have hall:(z.take (n+1)).all (b1k d)=true:=by
   rcases hk2 with h|h
   ·have e:z.take (n+1)=z.take k:=by rw [lbn (by omega),lbn (by omega)]
    rw [e];exact hI
   ·rw [← h];exact hI
  conv=>whnf
  repeat' (first|refine zx ?_|refine zd ?_ ?_<;>intro h<;>try omega|fail)<;>conv=>whnf
  all_goals first
   |omega
   |(refine c9 ?_;unfold b0X;rw [hall];simp;omega)
def x7:List (Int × Rat)->List (Int × Rat)->List (Int × Rat)
 |[],b=>b
 |t::r,[]=>t::r
 |t::r,u::q=>if t.1<u.1 then t::x7 r (u::q) else if u.1<t.1 then u::x7 (t::r) q else if t.2+u.2=0 then x7 r q else (t.1,t.2+u.2)::x7 r q
termination_by a b=>a.length+b.length
theorem a18 {last n:Int} {t:Int × Rat} {r:List (Int × Rat)} (h1:last<t.1) (h2:t.1<n) (h3:t.2≠0) (h4:d6 t.1 n r=true):d6 last n (t::r)=true:=by
 unfold d6
 simp only [lbM,lbI]
 exact ⟨⟨⟨h1,h2⟩,h3⟩,h4⟩
theorem a5n {n:Int}:∀(k:Nat) {last:Int} {a b:List (Int × Rat)},a.length+b.length<=k->-1<=last->d6 last n a=true->d6 last n b=true->
 d6 last n (x7 a b)=true∧∀v,B7 (x7 a b) v=B7 a v+B7 b v:=by
 intro k
 induction k with
 |zero=>
  intro last a b hk h0 ha hb
  have:a=[]:=S8.1 (by omega)
  have:b=[]:=S8.1 (by omega)
  subst a b
  rw [x7]
  exact ⟨rfl,fun v=>by show (0:Rat)=0+0;grind⟩
 |succ k ih=>
  intro last a b hk h0 ha hb
  match a,b with
  |[],b=>rw [x7];exact ⟨hb,fun v=>by show _=(0:Rat)+_;grind⟩
  |t::r,[]=>rw [x7];exact ⟨ha,fun v=>by show _=_+(0:Rat);grind⟩
  |t::r,u::q=>
   have mt:=n9 ha t (K9 ..)
   have mu:=n9 hb u (K9 ..)
   simp only [lbu] at hk
   rw [x7]
   by_cases h1:t.1<u.1
   ·rw [if_pos h1]
    have hb':d6 t.1 n (u::q)=true:=a18 h1 mu.2.1 mu.2.2 (B1 hb)
    obtain ⟨i1,i2⟩:=ih (last:=t.1) (a:=r) (b:=u::q) (by simp only [lbu];omega) (by omega) (B1 ha) hb'
    have hr:=a18 mt.1 mt.2.1 mt.2.2 i1
    refine ⟨hr,fun v=>?_⟩
    rw [x5 h0 hr,x5 h0 ha,i2]
    by_cases hv:v=t.1.toNat
    ·rw [if_pos hv,if_pos hv,X6 (v:=v) (by omega) hb' (by omega)];grind
    ·rw [if_neg hv,if_neg hv]
   ·rw [if_neg h1]
    by_cases h2:u.1<t.1
    ·rw [if_pos h2]
     have ha':d6 u.1 n (t::r)=true:=a18 h2 mt.2.1 mt.2.2 (B1 ha)
     obtain ⟨i1,i2⟩:=ih (last:=u.1) (a:=t::r) (b:=q) (by simp only [lbu];omega) (by omega) ha' (B1 hb)
     have hr:=a18 mu.1 mu.2.1 mu.2.2 i1
     refine ⟨hr,fun v=>?_⟩
     rw [x5 h0 hr,x5 h0 hb,i2]
     by_cases hv:v=u.1.toNat
     ·rw [if_pos hv,if_pos hv,X6 (v:=v) (by omega) ha' (by omega)];grind
     ·rw [if_neg hv,if_neg hv]
    ·rw [if_neg h2]
     have he:t.1=u.1:=by omega
     have hq':=B1 hb
     rw [← he] at hq'
     obtain ⟨i1,i2⟩:=ih (last:=t.1) (a:=r) (b:=q) (by omega) (by omega) (B1 ha) hq'
     by_cases h3:t.2+u.2=0
     ·rw [if_pos h3]
      refine ⟨aG1 (by omega) i1,fun v=>?_⟩
      rw [x5 h0 ha,x5 h0 hb,←he]
      by_cases hv:v=t.1.toNat
      ·rw [if_pos hv,if_pos hv,X6 (v:=v) (by omega) i1 (by omega)];grind
      ·rw [if_neg hv,if_neg hv,i2]
     ·rw [if_neg h3]
      have hr:=a18 (t:=(t.1,t.2+u.2)) mt.1 mt.2.1 h3 i1
      refine ⟨hr,fun v=>?_⟩
      rw [x5 h0 hr,x5 h0 ha,x5 h0 hb,←he,i2]
      by_cases hv:v=t.1.toNat
      ·simp only [if_pos hv]
      ·simp only [if_neg hv]
theorem aI8 {n:Nat} {a b:List (Int × Rat)} (ha:d6 (-1) (n:Int) a=true) (hb:d6 (-1) (n:Int) b=true) (z:List Rat):j0 (x7 a b) z=j0 a z+j0 b z:=by
 obtain ⟨h1,h2⟩:=a5n (a.length+b.length) (lbQ _) (a5l _) ha hb
 rw [S1 h1,S1 ha,S1 hb,←U1]
 exact d8 fun j hj=>by rw [h2];grind
def a0a (B:Nat) (l:List (Int × Rat)):Prop:=∀t ∈ l,∃c:Int,t.2=((c:Int):Rat)∧c.natAbs<=B
theorem aV4:∀(k:Nat) {A B:Nat} {a b:List (Int × Rat)},a.length+b.length<=k->a0a A a->a0a B b->a0a (A+B) (x7 a b):=by
 intro k
 have up:∀{X Y:Nat} {l:List (Int × Rat)},X<=Y->a0a X l->a0a Y l:=fun h hl t ht=>by
  obtain ⟨c,h1,h2⟩:=hl t ht;exact ⟨c,h1,by omega⟩
 have tl:∀{X:Nat} {t:Int × Rat} {l:List (Int × Rat)},a0a X (t::l)->a0a X l:=fun h u hu=>h u (O6 _ hu)
 have cons:∀{X:Nat} {t:Int × Rat} {l:List (Int × Rat)},(∃ c:Int,t.2=((c:Int):Rat)∧c.natAbs<=X)->a0a X l->a0a X (t::l):=fun h hl u hu=>by
  rcases lbA.1 hu with rfl|hu
  ·exact h
  ·exact hl u hu
 induction k with
 |zero=>
  intro A B a b hk ha hb
  have:a=[]:=S8.1 (by omega)
  have:b=[]:=S8.1 (by omega)
  subst a b
  rw [x7]
  exact up (by omega) hb
 |succ k ih=>
  intro A B a b hk ha hb
  match a,b with
  |[],b=>rw [x7];exact up (by omega) hb
  |t::r,[]=>rw [x7];exact up (by omega) ha
  |t::r,u::q=>
   simp only [lbu] at hk
   obtain ⟨c,hc,hcb⟩:=ha t (K9 ..)
   obtain ⟨d,hd,hdb⟩:=hb u (K9 ..)
   rw [x7]
   split
   ·exact cons ⟨c,hc,by omega⟩ (ih (by simp only [lbu];omega) (tl ha) hb)
   ·split
    ·exact cons ⟨d,hd,by omega⟩ (ih (by simp only [lbu];omega) ha (tl hb))
    ·split
     ·exact ih (by omega) (tl ha) (tl hb)
     ·refine cons ⟨c+d,by show t.2+u.2=_;rw [hc,hd];push_cast;rfl,?_⟩ (ih (by omega) (tl ha) (tl hb))
      have:=Int.natAbs_add_le c d;omega
noncomputable def aY7 (s:f7) (g:List (Int × Rat)):List Rat:=match U5 s (a0r g) with
 |.col c=>aa9 (F9 s []) (ax6 s (a0r g) c)
 |_=>F9 s (a0r g)
structure b0S (s:f7) (g:List (Int × Rat)):Prop where
 r:i7 s=true
 z:U5 s []=.best
 t:d6 (-1) ((s.n.toNat:Nat):Int) g=true
 p:∀z,g6 s z=true->0<=j0 g z
theorem b0S.og {s:f7} {g:List (Int × Rat)} (h:b0S s g):d6 (-1) ((s.n.toNat:Nat):Int) (a0r g)=true:=L9 h.t
theorem b3v {s:f7} {g:List (Int × Rat)} (h:b0S s g):g6 s (aY7 s g)=true∧((∃ z,g6 s z=true∧0<j0 g z)->0<j0 g (aY7 s g)):=by
 have h0:=(a2w h.r rfl h.z).1
 unfold aY7
 rcases not_row (g:=a0r g) h.r h.z with ho|⟨c,ho⟩
 ·rw [ho]
  simp only
  obtain ⟨p1,p2⟩:=a2w h.r h.og ho
  refine ⟨p1,fun ⟨z,hz,hp⟩=>?_⟩
  have:=p2 z hz
  rw [P5 (s:=s) (g:=g),P5 (s:=s) (g:=g)] at this
  grind
 ·rw [ho]
  simp only
  obtain ⟨h1,h2⟩:=a95 h.r h.og ho
  refine ⟨a7Y h0 h1,fun _=>?_⟩
  have h3:=J8 h0
  have hn:=O9 h.r
  rw [a2K (n:=s.n.toNat) (by omega) h1.len h.t]
  rw [P5 (s:=s) (g:=g)] at h2
  have:=h.p _ h0
  grind
def a42 (gL:List (List (Int × Rat))) (out:List Bool):Nat->List (Int × Rat)
 |0=>[]
 |k+1=>if out.getD k false=true then a42 gL out k else x7 (a42 gL out k) (gL.getD k [])
noncomputable def b7r (s:f7) (gL:List (List (Int × Rat))) (out:List Bool):List Rat:=aY7 s (a42 gL out gL.length)
def ba6 (g:List (Int × Rat)) (x:List Rat):Bool:=decide (0<j0 g x)
noncomputable def ba2 (s:f7) (gL:List (List (Int × Rat))) (out:List Bool):List Bool:=(List.range gL.length).map fun i=>out.getD i false || ba6 (gL.getD i []) (b7r s gL out)
noncomputable def b6V (s:f7) (gL:List (List (Int × Rat))):Nat->List Bool
 |0=>List.replicate gL.length false
 |k+1=>ba2 s gL (b6V s gL k)
noncomputable def ba0 (s:f7) (gL:List (List (Int × Rat))):Nat->List Rat
 |0=>b7r s gL (b6V s gL 0)
 |k+1=>aa9 (ba0 s gL k) (b7r s gL (b6V s gL (k+1)))
structure a9H (s:f7) (gL:List (List (Int × Rat))):Prop where
 r:i7 s=true
 z:U5 s []=.best
 g:∀g ∈ gL,d6 (-1) ((s.n.toNat:Nat):Int) g=true
 p:∀g ∈ gL,∀z,g6 s z=true->0<=j0 g z
theorem a7G {gL:List (List (Int × Rat))} {k:Nat} (h:k<gL.length):gL.getD k [] ∈ gL:=by
 rw [lbl,lbf h];exact lbE h
theorem a5A {s:f7} {gL:List (List (Int × Rat))} (h:a9H s gL) (out:List Bool):∀k,k<=gL.length->d6 (-1) ((s.n.toNat:Nat):Int) (a42 gL out k)=true
 |0,_=>rfl
 |k+1,hk=>by
  have ih:=a5A h out k (by omega)
  unfold a42
  split
  ·exact ih
  ·exact (a5n _ (lbQ _) (a5l _) ih (h.g _ (a7G (by omega)))).1
theorem b0f {s:f7} {gL:List (List (Int × Rat))} (h:a9H s gL) (out:List Bool) (z:List Rat):∀k,k<=gL.length->j0 (a42 gL out k) z=i6 (fun i=>if out.getD i false=true then 0 else j0 (gL.getD i []) z) k
 |0,_=>rfl
 |k+1,hk=>by
  have ih:=b0f h out z k (by omega)
  show _=i6 _ k+(if out.getD k false=true then 0 else j0 (gL.getD k []) z)
  unfold a42
  by_cases ho:out.getD k false=true
  ·rw [if_pos ho,if_pos ho,ih];grind
  ·rw [if_neg ho,if_neg ho,aI8 (a5A h out k (by omega)) (h.g _ (a7G (by omega))),ih]
theorem b2P {s:f7} {gL:List (List (Int × Rat))} (h:a9H s gL) (out:List Bool):b0S s (a42 gL out gL.length):=
 ⟨h.r,h.z,a5A h out _ (lbQ _),fun z hz=>by
   rw [b0f h out z _ (lbQ _)]
   exact a1f fun i hi=>by
    split
    ·exact lb1
    ·exact h.p _ (a7G hi) z hz⟩
theorem b0r {s:f7} {gL:List (List (Int × Rat))} (h:a9H s gL) (out:List Bool):g6 s (b7r s gL out)=true:=(b3v (b2P h out)).1
structure ad2 (s:f7) (c:Rat) (z:List Rat):Prop where
 r:i7 s=true
 l:(z.length:Int)=s.n
 p:∀v ∈ z,0<=v
 w:∀w ∈ s.rows,(w.kind≠1->c*w.value<=j0 w.terms z)∧(w.kind≠0->j0 w.terms z<=c*w.value)
theorem af4 {s:f7} {z:List Rat} (h:g6 s z=true):ad2 s 1 z:=by
 obtain ⟨h1,h2,h3,h4⟩:=W7.1 h
 exact ⟨h1,h2,h3,fun w hw=>by
  obtain ⟨a,b⟩:=h4 w hw
  have e:(1:Rat)*w.value=w.value:=by grind
  rw [e];exact ⟨a,b⟩⟩
theorem aU7 {s:f7} {c d:Rat} {x y:List Rat} (hx:ad2 s c x) (hy:ad2 s d y):ad2 s (c+d) (aa9 x y):=by
 have hn:=O9 hx.r
 have lx:x.length=s.n.toNat:=by have:=hx.l;omega
 have ly:y.length=s.n.toNat:=by have:=hy.l;omega
 have ll:=ac3 lx ly
 refine ⟨hx.r,by omega,fun v hv=>?_,fun w hw=>?_⟩
 ·obtain ⟨j,hj,rfl⟩:=Y0 hv
  have e:=as4 lx ly (j:=j) (by omega)
  rw [lbl,lbf hj] at e
  have e:(aa9 x y)[j]=x.getD j 0+y.getD j 0:=e
  rw [e]
  have h1:0<=x.getD j 0:=by rw [lbl,lbf (by omega)];exact hx.p _ (lbE _)
  have h2:0<=y.getD j 0:=by rw [lbl,lbf (by omega)];exact hy.p _ (lbE _)
  grind
 ·obtain ⟨i,hi,rfl⟩:=Y0 hw
  have hrt:=(a0n hx.r (lbf hi)).1
  rw [a2K lx ly hrt]
  obtain ⟨a1,a2⟩:=hx.w _ (lbE hi)
  obtain ⟨b1,b2⟩:=hy.w _ (lbE hi)
  have e:(c+d)*s.rows[i].value=c*s.rows[i].value+d*s.rows[i].value:=by grind
  rw [e]
  exact ⟨fun h=>by have:=a1 h;have:=b1 h;grind,fun h=>by have:=a2 h;have:=b2 h;grind⟩
theorem sumX_holds {s:f7} {gL:List (List (Int × Rat))} (h:a9H s gL):∀k,ad2 s ((k+1:Nat):Rat) (ba0 s gL k)
 |0=>af4 (b0r h _)
 |k+1=>by
  have:=aU7 (sumX_holds h k) (af4 (b0r h (b6V s gL (k+1))))
  have e:(((k+1+1:Nat)):Rat)=((k+1:Nat):Rat)+1:=by push_cast;rfl
  rw [e];exact this
theorem M9 {P:Program} {g:FuncId} {n:Nat} {H H':Hp} {r:S} (h1:a8 P g [.c (.t (.sl n .nul []))] H r H') (h2:a8 P g [.c (.t (.sl n .non []))] H r H'):a8 P g [.c (.t (.sl n .any []))] H r H':=by
 refine ⟨h1.1,fun w ι M vals hl hv hH hM hf=>?_⟩
 have h0:=hv 0 _ rfl
 have key:RS w ι M (.c (.t (.sl n .nul []))) (vals.getD 0 undef)∨RS w ι M (.c (.t (.sl n .non []))) (vals.getD 0 undef):=by
  generalize vals.getD 0 undef=v at h0
  cases h0 with
  |c h=>cases h with
   |t h=>cases h with
    |@sl _ _ _ b off cap A f hrow hcap hmax hk hn hA hc hr hx=>
     cases A with
     |none=>exact .inl (.c (.t (.sl (b:=b) (off:=off) f hrow hcap hmax (fun h=>nomatch h) (fun h=>nomatch h) hA hc hr ⟨fun _=>⟨rfl,rfl⟩,fun h=>nomatch h⟩)))
     |some a=>exact .inr (.c (.t (.sl (b:=b) (off:=off) f hrow hcap hmax (fun h=>nomatch h) (fun h=>nomatch h) hA hc hr ⟨(fun h=>nomatch h),fun _=>(fun h=>nomatch h)⟩)))
 have one:∀s,RS w ι M s (vals.getD 0 undef)->∀j s',[s][j]? =some s'->RS w ι M s' (vals.getD j undef):=fun s hs j s' hj=>by
  cases j with
  |zero=>injection hj with hj;subst hj;exact hs
  |succ j=>simp at hj
 rcases key with k|k
 ·exact h1.2 w ι M vals hl (one _ k) hH hM hf
 ·exact h2.2 w ι M vals hl (one _ k) hH hM hf
structure b6s where
 hh:Int
 state:Int
 w:List Fr
 wo:List Fr
 pr:List Fr
def b6s.row (v:b6s):List T:=[ti v.hh,ti v.state,H5 v.w,H5 v.wo,H5 v.pr]
def b6s.val (v:b6s):b8u:=⟨v.hh,v.state,v.w.map fv,v.wo.map fv,v.pr.map fv⟩
theorem b4P {v:Rat} (h:a5e v):rl v<=4:=by
 obtain ⟨z,h1,h2⟩:=h
 have:=a9d (x:=v) (p:=z) (q:=1000) (by decide) (by rw [← h1];rfl)
 have b1:bl z<=4:=a5j h2 (by decide)
 have b2:bl 1000<=4:=by have:=S5 (x:=1000) (by decide) (by decide);omega
 omega
theorem b9T {s:f7} {g:List (Int × Rat)} {n B c:Nat} (h:H3 s g n B) (hc:c<n) {j:Nat} (hj:j<n):rl (a1F (c8 s).length n (m8 s g) 0 (fun q=>if q=c then 1 else 0) j)<=B:=by
 have hb:=a5T h
 have hB:=h.b1
 have hp:a0F (c8 s).length n (m8 s g):=by have hn:=h.nn;subst hn;exact Q3.p
 rw [← b0g hp hc hj]
 have key:∀k,k<=(c8 s).length->rl (ptK n (m8 s g).O (fun i=>-((m8 s g).A i c)) (fun j=>if (m8 s g).F c<n∧j=(m8 s g).F c then 1 else 0) k j)<=B:=by
  intro k
  induction k with
  |zero=>
   intro _
   have:=rl0;have:=rl1
   show rl (if _ then (1:Rat) else 0)<=_
   split<;>omega
  |succ k ih=>
   intro hk
   rw [S2]
   simp only
   split
   ·rw [R9];exact hb.a k (by omega) c hc
   ·exact ih (by omega)
 exact key _ (lbQ _)
theorem b1V:∀n,n<11->((a68 (n+1) fun c=>if c=0 then 2305843009213693952 else 1048575:Nat):Int)<pw 15∧((a68 n fun _=>1048575:Nat):Int)<pw 15∧((1000*a68 n fun _=>1048575:Nat):Int)<pw 15:=by decide +kernel
structure F0 (s:f7):Prop where
 r:i7 s=true
 i:∀w ∈ s.rows,b9c w
 n:s.n<=10
 l:s.rows.length<=999
theorem b1s {s:f7} {g:List (Int × Rat)} (h:F0 s) (hg:A7 g):∀D,V4 (c8 s).length s.n.toNat (f8 s g) D->BdD (c8 s).length s.n.toNat 15 D:=by
 intro D hD
 have hn:=O9 h.r
 have:=h.n
 obtain ⟨p1,p2,p3⟩:=b1V s.n.toNat (by omega)
 obtain ⟨b1,b2,b3⟩:=aX6 b7a (b1N h.i hg) a2B hD p1 p2 p3 p2
 exact ⟨b1,fun i hi j hj=>b2 i j hi hj,b3⟩
theorem W2 {s:f7} (h:F0 s):∀w ∈ s.rows,w.terms.length<=100∧(∀ t ∈ w.terms,rl t.2<=200)∧rl w.value<=200:=fun w hw=>by
 have hn:=O9 h.r
 have h9:=h.n
 obtain ⟨i,hi,rfl⟩:=Y0 hw
 have hrt:=(a0n h.r (lbf hi)).1
 have h1:=z7 hrt
 have h2:=h.i _ (lbE hi)
 exact ⟨by omega,fun t ht=>by have:=O0 h2.1 t ht;omega,by have:=b4P h2.2;omega⟩
theorem a2t {s:f7} (h:F0 s):ai5 s:=⟨by have:=h.l;omega,W2 h⟩
theorem a1n {s:f7} {g:List (Int × Rat)} (h:F0 s) (hg:d6 (-1) ((s.n.toNat:Nat):Int) g=true) (hw:A7 g):H3 s g s.n.toNat 15:=by
 have hn:=O9 h.r
 have h9:=h.n
 have hl:=h.l
 have hwr:=O0 hw
 refine ⟨⟨h.r,hg,hn.symm,by omega,fun w hw=>?_,fun t ht=>by have:=hwr t ht;omega,by omega⟩,a2t h,fun t ht=>by have:=hwr t ht;omega,b1s h hw,by decide,?_,by omega⟩
 ·obtain ⟨a1,a2,a3⟩:=W2 h w hw
  exact ⟨by omega,fun t ht=>by have:=a2 t ht;omega⟩
 ·have:s.n.toNat<=10:=by omega
  have:=lbT (15+2) (show s.n.toNat+3<=13 by omega)
  omega
theorem aE2 {s:f7} {g:List (Int × Rat)} (h:F0 s) (hg:d6 (-1) ((s.n.toNat:Nat):Int) g=true) (hw:A7 g):∀v ∈ F9 s g,rl v<=15:=b1y (a1n h hg hw)
theorem b1G {c:D7} {reading day:Int} (hcv:Z2 c day=true) (hr:0<=reading∧reading<=1099511627776):∃z:Int,((1000:Nat):Rat)*a5U c reading day=((z:Int):Rat)∧0<=z∧z<=1152921504606846976:=by
 unfold Z2 a0d at hcv
 simp only [lbM,lbI,a30] at hcv
 obtain ⟨⟨⟨⟨⟨⟨⟨h1,h2⟩,h3⟩,_⟩,h4⟩,h5⟩,h6⟩,h7⟩:=hcv
 have e1:0<=c.permille*reading:=lbZ (by omega) (by omega)
 have e2:c.permille*reading<=1000*1099511627776:=a0P (by omega) (by omega) (by omega) (by omega)
 have e3:0<=c.drift*(day - c.since):=lbZ (by omega) (by omega)
 have e4:c.drift*(day - c.since)<=10000000*100000:=a0P (by omega) (by omega) (by omega) (by omega)
 refine ⟨c.permille*reading+1000*(c.grams+c.drift*(day - c.since)),?_,by omega,by omega⟩
 unfold a5U
 have e5:((1000:Nat):Rat)*Rat.divInt (c.permille*reading) 1000=((c.permille*reading:Int):Rat):=by
  rw [Rat.divInt_eq_div]
  have:((1000:Nat):Rat)=((1000:Int):Rat):=rfl
  rw [this]
  rw [Rat.div_def,←a9D,Rat.mul_comm (((1000:Int):Rat)),a9D,aV5 _ (by decide)];grind
 have e6:((1000:Nat):Rat)*(Rat.divInt (c.permille*reading) 1000+((c.grams+c.drift*(day - c.since):Int):Rat))=((1000:Nat):Rat)*Rat.divInt (c.permille*reading) 1000+((1000:Nat):Rat)*((c.grams+c.drift*(day - c.since):Int):Rat):=by grind
 rw [e6,e5];push_cast;rfl
theorem b3u {cs:List D7} {rs:List s8} {scale reading day:Int} {lo hi:Rat} (h:Q4 cs rs scale reading day=some (lo,hi)):a5e lo:=by
 unfold Q4 at h
 split at h
 ·cases h
 ·rename_i i hi
  obtain ⟨hb,c,hc,_,hcv⟩:=W9 hi
  have e:a3U cs i=c:=by unfold a3U;rw [hc];rfl
  rw [e] at h
  split at h
  ·cases h
  ·split at h
   ·rename_i hr
    injection h with h
    injection h with h1 h2
    rw [a30] at hr
    obtain ⟨z,hz,z0,z1⟩:=b1G hcv hr
    have key:a5e ((reading:Rat) - a5U c reading day):=by
     refine ⟨1000*reading - z,?_,by omega⟩
     have:((1000:Nat):Rat)*((reading:Rat) - a5U c reading day)=((1000:Nat):Rat)*(reading:Rat) - ((1000:Nat):Rat)*a5U c reading day:=by grind
     rw [this,hz];push_cast;rfl
    rw [← h1]
    unfold b1l
    split
    ·exact a3c
    ·exact key
   ·cases h
structure OrP where
 kind:Int
 mv:Int
 mat:Int
 idx:Int
def M8 (e:Ev) (i m:Nat):Int:=(i:Int)*e.mats+m
def j9 (e:Ev) (p:Int) (m:Nat):Nat->List (Int × Rat)
 |0=>[]
 |k+1=>match e.moves[k]? with
  |none=>j9 e p m k
  |some y=>if y.src=p then j9 e p m k++[(M8 e k m,((-1:Int):Rat))] else if y.dst=p then j9 e p m k++[(M8 e k m,((1:Int):Rat))] else j9 e p m k
def a2W (e:Ev) (i:Nat) (x:j5) (m:Nat):j6 × OrP:=(⟨j9 e x.src m (i+1),if x.all then 2 else 0,((0:Int):Rat)⟩,⟨0,i,m,-1⟩)
def a4i (b own more:Int) (m:Nat):Int:=if (m:Int)=own then b+more else b
def a2o (e:Ev) (i:Nat) (b own more:Int):Nat->List (Int × Rat)
 |0=>[]
 |m+1=>if a4i b own more m≠0 then a2o e i b own more m++[(M8 e i m,((a4i b own more m:Int):Rat))] else a2o e i b own more m
def a08 (e:Ev) (i:Nat) (b own more:Int):List (Int × Rat):=a2o e i b own more e.mats.toNat
def Y4 (e:Ev) (i:Nat) (x:j5):List (j6 × OrP):=match a3u e x with
 |none=>[]
 |some (lo,hi)=>[(⟨a08 e i 1 (-1) 0,0,lo⟩,⟨1,i,-1,-1⟩),(⟨a08 e i 1 (-1) 0,1,hi⟩,⟨2,i,-1,-1⟩)]
def aN8 (e:Ev) (i k:Nat) (p:w9):List (j6 × OrP):=
 [(⟨a08 e i (-p.least) p.mat 1000,0,((0:Int):Rat)⟩,⟨3,i,-1,k⟩),(⟨a08 e i p.most p.mat (-1000),0,((0:Int):Rat)⟩,⟨4,i,-1,k⟩)]
def I6 (e:Ev) (i:Nat):Nat->List (j6 × OrP)
 |0=>[]
 |k+1=>match e.purities[k]? with
  |none=>I6 e i k
  |some p=>if p.move=(i:Int) then I6 e i k++aN8 e i k p else I6 e i k
def H6 (e:Ev) (i:Nat) (x:j5) (m:Nat):List (j6 × OrP):=(List.range m).map (a2W e i x)
def a3o (e:Ev) (i:Nat) (x:j5):List (j6 × OrP):=
 (if F4 e x.src=0 then [] else H6 e i x e.mats.toNat)++Y4 e i x++I6 e i e.purities.length
def a0V (e:Ev):Nat->List (j6 × OrP)
 |0=>[]
 |k+1=>match e.moves[k]? with
  |none=>a0V e k
  |some x=>a0V e k++a3o e k x
def a05 (e:Ev):List (j6 × OrP):=a0V e e.moves.length
def A0 (e:Ev):f7:=⟨e.moves.length*e.mats,(a05 e).map Prod.fst⟩
def b6r (e:Ev) (G:List (List Rat)) (z:List Rat):Prop:=∀i m:Nat,i<e.moves.length->(m:Int)<e.mats->z.getD (M8 e i m).toNat 0=hAt G i m
theorem b1W {l:List (Int × Rat)} {v:Rat} {z:List Rat}:N2 ⟨l,2,v⟩ z=true↔j0 l z=v:=by
 rw [a16]
 constructor
 ·intro h
  have h1:¬j0 l z<v:=fun h'=>absurd (show (2:Int)=1 from h.1 h') (by decide)
  have h2:¬v<j0 l z:=fun h'=>absurd (show (2:Int)=0 from h.2 h') (by decide)
  grind
 ·intro h;subst h;exact ⟨fun h'=>absurd h' (by grind),fun h'=>absurd h' (by grind)⟩
theorem F2 {e:Ev} (h:p7 e=0):1<=e.mats∧e.mats<=6∧e.places.length<=100∧e.moves.length<=200:=by
 obtain ⟨h1,h2,_⟩:=a32 h
 unfold ai0 at h1
 simp only [a23,lbK] at h1
 omega
theorem aD5 {e:Ev} {q:j6 × OrP->Bool}:∀n,n<=e.moves.length->((a0V e n).all q=true↔∀i x,i<n->e.moves[i]? =some x->(a3o e i x).all q=true)
 |0,_=>by simp [a0V]
 |n+1,hn=>by
  have ih:=aD5 (e:=e) (q:=q) n (by omega)
  obtain ⟨x,hx⟩:∃x,e.moves[n]? =some x:=⟨_,lbf (by omega)⟩
  unfold a0V
  rw [hx]
  simp only
  rw [a3a,lbM,ih]
  constructor
  ·rintro ⟨h1,h2⟩ i y hi hy
   by_cases h:i<n
   ·exact h1 i y h hy
   ·have:i=n:=by omega
    subst this
    rw [hx] at hy;injection hy with hy;subst hy;exact h2
  ·intro h
   exact ⟨fun i y hi hy=>h i y (by omega) hy,h n x (by omega) hx⟩
theorem a6y {e:Ev} (hm0:0<=e.mats) {p:Int} {m:Nat} (hm:(m:Int)<e.mats) {n:Int}:∀k:Nat,(k:Int)*e.mats<=n->d6 (-1) n (j9 e p m k)=true∧∀t ∈ j9 e p m k,t.1<(k:Int)*e.mats
 |0,_=>⟨rfl,fun t ht=>by cases ht⟩
 |k+1,hk=>by
  have hk1:((k+1:Nat):Int)*e.mats=(k:Int)*e.mats+e.mats:=by rw [Int.natCast_add];simp [a44]
  rw [hk1] at hk ⊢
  obtain ⟨h1,h2⟩:=a6y hm0 hm (p:=p) (n:=n) k (by omega)
  have hk0:0<=(k:Int)*e.mats:=lbZ (by omega) hm0
  have hv:M8 e k m=(k:Int)*e.mats+m:=rfl
  unfold j9
  split
  ·exact ⟨h1,fun t ht=>by have:=h2 t ht;omega⟩
  ·split
   ·refine ⟨W8 (by omega) a3V h1 (by omega) (fun t ht=>by have:=h2 t ht;omega),fun t ht=>?_⟩
    rcases lbz.1 ht with ht|ht
    ·have:=h2 t ht;omega
    ·simp at ht;subst ht;show M8 e k m<_;omega
   ·split
    ·refine ⟨W8 (by omega) a3i h1 (by omega) (fun t ht=>by have:=h2 t ht;omega),fun t ht=>?_⟩
     rcases lbz.1 ht with ht|ht
     ·have:=h2 t ht;omega
     ·simp at ht;subst ht;show M8 e k m<_;omega
    ·exact ⟨h1,fun t ht=>by have:=h2 t ht;omega⟩
theorem ad6 {e:Ev} (hm0:0<=e.mats) {i:Nat} {b own more:Int} {n:Int} (hn:(i:Int)*e.mats+e.mats<=n):∀m:Nat,(m:Int)<=e.mats->d6 (-1) n (a2o e i b own more m)=true∧∀t ∈ a2o e i b own more m,(i:Int)*e.mats<=t.1∧t.1<(i:Int)*e.mats+m
 |0,_=>⟨rfl,fun t ht=>by cases ht⟩
 |m+1,hm=>by
  obtain ⟨h1,h2⟩:=ad6 hm0 hn (b:=b) (own:=own) (more:=more) m (by omega)
  have hi0:0<=(i:Int)*e.mats:=lbZ (by omega) hm0
  have hv:M8 e i m=(i:Int)*e.mats+m:=rfl
  unfold a2o
  split
  ·rename_i hc
   refine ⟨W8 (by omega) (fun h=>hc (by exact_mod_cast h)) h1 (by omega) (fun t ht=>by have:=h2 t ht;omega),fun t ht=>?_⟩
   rcases lbz.1 ht with ht|ht
   ·have:=h2 t ht;omega
   ·simp at ht;subst ht;show _<=M8 e i m∧M8 e i m<_;omega
  ·exact ⟨h1,fun t ht=>by have:=h2 t ht;omega⟩
theorem aB9 {e:Ev} (hm0:0<=e.mats) {i:Nat} {x:j5} {m:Nat} (hm:(m:Int)<e.mats) {n:Int} (hn:(i:Int)*e.mats+e.mats<=n):p5 n (a2W e i x m).1=true:=by
 unfold p5 a2W
 have hk1:((i+1:Nat):Int)*e.mats=(i:Int)*e.mats+e.mats:=by rw [Int.natCast_add];simp [a44]
 simp only [lbM,lbI]
 refine ⟨⟨(a6y hm0 hm (i+1) (by omega)).1,?_⟩,?_⟩<;>split<;>decide
theorem a4s {e:Ev} (hm0:0<=e.mats) {i:Nat} {b own more k:Int} {v:Rat} {n:Int} (hn:(i:Int)*e.mats+e.mats<=n) (k0:0<=k) (k1:k<3):p5 n ⟨a08 e i b own more,k,v⟩=true:=by
 unfold p5
 simp only [lbM,lbI]
 exact ⟨⟨(ad6 hm0 hn _ (by omega)).1,k0⟩,k1⟩
theorem a4A {e:Ev} {i:Nat} {w:j6 × OrP}:∀{n:Nat},w ∈ I6 e i n->∃k p,k<n∧e.purities[k]? =some p∧p.move=(i:Int)∧w ∈ aN8 e i k p
 |0,h=>by cases h
 |n+1,h=>by
  unfold I6 at h
  cases hp:e.purities[n]? with
  |none=>rw [hp] at h;obtain ⟨k,p,h1,h2⟩:=a4A h;exact ⟨k,p,by omega,h2⟩
  |some p=>
   rw [hp] at h
   simp only at h
   split at h
   ·rename_i hm
    rcases lbz.1 h with h|h
    ·obtain ⟨k,p,h1,h2⟩:=a4A h;exact ⟨k,p,by omega,h2⟩
    ·exact ⟨n,p,by omega,hp,hm,h⟩
   ·obtain ⟨k,p,h1,h2⟩:=a4A h;exact ⟨k,p,by omega,h2⟩
theorem as0 {e:Ev} {i:Nat} {x:j5} {w:j6 × OrP} (h:w ∈ a3o e i x):
 (F4 e x.src≠0∧∃m:Nat,(m:Int)<e.mats∧w=a2W e i x m)∨(∃ lo hi,a3u e x=some (lo,hi)∧(w=(⟨a08 e i 1 (-1) 0,0,lo⟩,⟨1,i,-1,-1⟩)∨w=(⟨a08 e i 1 (-1) 0,1,hi⟩,⟨2,i,-1,-1⟩)))∨
 (∃ k p,e.purities[k]? =some p∧p.move=(i:Int)∧w ∈ aN8 e i k p):=by
 unfold a3o at h
 rcases lbz.1 h with h|h
 ·rcases lbz.1 h with h|h
  ·refine .inl ?_
   by_cases hk:F4 e x.src=0
   ·rw [if_pos hk] at h;cases h
   ·rw [if_neg hk] at h
    obtain ⟨m,hm,rfl⟩:=lbx.1 h
    have:=lbB.1 hm
    exact ⟨hk,m,by omega,rfl⟩
  ·refine .inr (.inl ?_)
   unfold Y4 at h
   split at h
   ·cases h
   ·rename_i lo hi hiv
    refine ⟨lo,hi,hiv,?_⟩
    simp only [lbA,lb8,or_false] at h
    exact h
 ·obtain ⟨k,p,_,h2,h3,h4⟩:=a4A h
  exact .inr (.inr ⟨k,p,h2,h3,h4⟩)
theorem av5 {e:Ev} (hm0:0<=e.mats) {i:Nat} {x:j5} {n:Int} (hn:(i:Int)*e.mats+e.mats<=n) {w:j6 × OrP} (h:w ∈ a3o e i x):p5 n w.1=true:=by
 rcases as0 h with ⟨_,m,hm,rfl⟩|⟨lo,hi,_,rfl|rfl⟩|⟨k,p,_,_,h⟩
 ·exact aB9 hm0 hm hn
 ·exact a4s hm0 hn (by decide) (by decide)
 ·exact a4s hm0 hn (by decide) (by decide)
 ·unfold aN8 at h
  simp only [lbA,lb8,or_false] at h
  rcases h with rfl|rfl
  ·exact a4s hm0 hn (by decide) (by decide)
  ·exact a4s hm0 hn (by decide) (by decide)
theorem a7B {e:Ev} {i:Nat}:∀n,(I6 e i n).length<=2*n
 |0=>by simp [I6]
 |n+1=>by
  have ih:=a7B (e:=e) (i:=i) n
  unfold I6
  split
  ·omega
  ·split
   ·rw [lbq];simp [aN8];omega
   ·omega
theorem b2d {e:Ev} {i:Nat} {x:j5} (hm:e.mats<=6):(a3o e i x).length<=8+2*e.purities.length:=by
 have h1:=a7B (e:=e) (i:=i) e.purities.length
 unfold a3o
 rw [lbq,lbq]
 have h2:(Y4 e i x).length<=2:=by unfold Y4;split<;>simp
 have h3:(if F4 e x.src=0 then ([]:List (j6 × OrP)) else H6 e i x e.mats.toNat).length<=6:=by
  split
  ·simp
  ·simp [H6];omega
 omega
theorem a6u {e:Ev} (hm:e.mats<=6):∀n,(a0V e n).length<=n*(8+2*e.purities.length)
 |0=>by simp [a0V]
 |n+1=>by
  have ih:=a6u hm n
  unfold a0V
  rw [lbU]
  split
  ·omega
  ·rename_i x _
   have:=b2d (i:=n) (x:=x) hm
   rw [lbq];omega
theorem a62 {e:Ev} {w:j6 × OrP}:∀{n:Nat},w ∈ a0V e n->∃i x,i<n∧e.moves[i]? =some x∧w ∈ a3o e i x
 |0,h=>by cases h
 |n+1,h=>by
  unfold a0V at h
  cases hx:e.moves[n]? with
  |none=>rw [hx] at h;obtain ⟨i,x,h1,h2⟩:=a62 h;exact ⟨i,x,by omega,h2⟩
  |some x=>
   rw [hx] at h
   simp only at h
   rcases lbz.1 h with h|h
   ·obtain ⟨i,x,h1,h2⟩:=a62 h;exact ⟨i,x,by omega,h2⟩
   ·exact ⟨n,x,by omega,hx,h⟩
theorem b5u {e:Ev} (hc:p7 e=0) (hm:e.moves.length<=8) (hp:e.purities.length<=20):i7 (A0 e)=true:=by
 obtain ⟨b1,b2,b3,b4⟩:=F2 hc
 have h1:(e.moves.length:Int)*e.mats<=8*6:=a0P (by omega) b2 (by omega) (by decide)
 have h0:0<=(e.moves.length:Int)*e.mats:=lbZ (by omega) (by omega)
 have h2:=a6u b2 e.moves.length
 have h3:e.moves.length*(8+2*e.purities.length)<=8*48:=lbS hm (by omega)
 unfold i7
 simp only [lbM,lbI]
 refine ⟨⟨⟨h0,?_⟩,?_⟩,?_⟩
 ·show (e.moves.length:Int)*e.mats<=1500;omega
 ·show ((a0V e e.moves.length).map Prod.fst).length<=6000;rw [lbr];omega
 ·show ((a0V e e.moves.length).map Prod.fst).all _=true
  rw [List.all_map,lbv]
  intro w hw
  obtain ⟨i,x,hi,hx,hw⟩:=a62 hw
  refine av5 (by omega) ?_ hw
  have:((i+1:Nat):Int)*e.mats<=(e.moves.length:Int)*e.mats:=lbW (by omega) (by omega)
  rw [Int.natCast_add,a44] at this
  show (i:Int)*e.mats+e.mats<=(e.moves.length:Int)*e.mats
  simpa using this
theorem aL4 {α:Type} {w:Nat}:∀{G:List (List α)} (i m:Nat),(∀ l ∈ G,l.length=w)->m<w->G.flatten[i*w+m]? =(G[i]?).bind (·[m]?)
 |[],i,m,_,_=>by simp
 |l::r,0,m,h,hm=>by
  have hl:=h l (by simp)
  rw [a5B,D8,List.flatten_cons,lbb (by omega)];simp
 |l::r,i+1,m,h,hm=>by
  have hl:=h l (by simp)
  have ih:=aL4 (G:=r) i m (fun l hl=>h l (O6 _ hl)) hm
  rw [List.flatten_cons,lbc (by rw [lbU];omega),show (i+1)*w+m - l.length=i*w+m by rw [lbU];omega,ih];simp
theorem flat_holds {e:Ev} {G:List (List Rat)} (sG:b9P e G):b6r e G G.flatten:=by
 intro i m hi hm
 have hw:∀l ∈ G,l.length=e.mats.toNat:=fun l hl=>by have:=sG.wid l hl;omega
 have e1:(M8 e i m).toNat=i*e.mats.toNat+m:=by
  have h0:(e.mats.toNat:Int)=e.mats:=lbY (by omega)
  have:M8 e i m=((i*e.mats.toNat+m:Nat):Int):=by unfold M8;rw [← h0];simp
  rw [this,lbX]
 rw [e1,lbl,aL4 i m hw (by omega)]
 unfold hAt
 rw [lbl,lbl]
 cases h:G[i]? with
 |none=>simp
 |some l=>simp
theorem aN9 {e:Ev} {i:Nat} {x:j5}:(Y4 e i x).length=if (a3u e x).isSome then 2 else 0:=by unfold Y4;cases a3u e x<;>rfl
theorem a6U {e:Ev} {p:Int} {m:Nat}:∀k,A7 (j9 e p m k)
 |0=>by intro t ht;cases ht
 |k+1=>by
  have ih:=a6U (e:=e) (p:=p) (m:=m) k
  unfold j9
  split
  ·exact ih
  ·split
   ·exact a7f ih (a7b (by decide) (by decide))
   ·split
    ·exact a7f ih (a7b (by decide) (by decide))
    ·exact ih
theorem a1s {e:Ev} {i:Nat} {b own more:Int} (h1:-1000<=b∧b<=1000) (h2:-1000<=more∧more<=1000):∀k,A7 (a2o e i b own more k)
 |0=>by intro t ht;cases ht
 |k+1=>by
  have ih:=a1s (e:=e) (i:=i) (own:=own) h1 h2 k
  unfold a2o
  have hc:-2000<=a4i b own more k∧a4i b own more k<=2000:=by unfold a4i;split<;>omega
  split
  ·exact a7f ih (a7b (by omega) (by omega))
  ·exact ih
theorem bb0 {e:Ev} (hc:p7 e=0):∀w ∈ (A0 e).rows,b9c w:=by
 intro w hw
 obtain ⟨p,hp,rfl⟩:=lbx.1 (show w ∈ (a05 e).map Prod.fst from hw)
 obtain ⟨i,x,hi,hx,hw⟩:=a62 hp
 rcases as0 hw with ⟨_,m,hm,rfl⟩|⟨lo,hi,hiv,h⟩|⟨k,q,hq,_,h⟩
 ·exact ⟨a6U _,a3c⟩
 ·have hv:a5e lo∧a5e hi:=by
   unfold a3u at hiv
   split at hiv
   ·cases hiv
   ·exact ⟨b3u hiv,b4h hiv⟩
  rcases h with rfl|rfl
  ·exact ⟨a1s (by decide) (by decide) _,hv.1⟩
  ·exact ⟨a1s (by decide) (by decide) _,hv.2⟩
 ·have hs:=(a32 hc).2.2.2.2.2.2
  unfold a1o at hs
  simp only [lbM] at hs
  have:=lbv.1 hs.2 q (lbm hq)
  unfold a1d idx at this
  simp only [lbM,lbI] at this
  unfold aN8 at h
  simp only [lbA,lb8,or_false] at h
  rcases h with rfl|rfl
  ·exact ⟨a1s (by omega) (by omega) _,a3c⟩
  ·exact ⟨a1s (by omega) (by omega) _,a3c⟩
theorem aF3 {e:Ev} (hc:p7 e=0) (hm:e.moves.length<=8) (hp:e.purities.length<=20):(A0 e).rows.length<=400:=by
 obtain ⟨b1,b2,b3,b4⟩:=F2 hc
 have h2:=a6u b2 e.moves.length
 have h3:e.moves.length*(8+2*e.purities.length)<=8*48:=lbS hm (by omega)
 show ((a0V e e.moves.length).map Prod.fst).length<=400
 rw [lbr];omega
theorem an3 {e:Ev} (hc:p7 e=0) (hm:e.moves.length<=8) (hp:e.purities.length<=20) (hn:(e.moves.length:Int)*e.mats<=10):F0 (A0 e):=
 ⟨b5u hc hm hp,bb0 hc,hn,by have:=aF3 hc hm hp;omega⟩
theorem b7o {s:f7} {g:List (Int × Rat)} {Y:List Rat} (hr:i7 s=true) (h:a8O s g Y=true):b2u s (B7 g) (yN Y) (a4Y s (yN Y)):=by
 unfold a8O a3r at h
 simp only [lbM,lbI,lbv] at h
 obtain ⟨⟨⟨h1,h2⟩,h3⟩,h4⟩:=h
 refine ⟨fun i w hw=>?_,fun l hl=>?_,rfl⟩
 ·have:=h2 i (lbB.2 (lbe.1 hw).1)
  unfold sgB at this
  rw [U7 hw] at this
  simp only [a7D,a23,lbO,lbK] at this
  obtain ⟨a,b⟩:=this
  exact ⟨fun hk=>by
   rcases a with a|a
   ·exact absurd hk a
   ·exact lb2.1 a,fun hk=>by
   rcases b with b|b
   ·exact absurd hk b
   ·exact lb2.1 b⟩
 ·exact h4 l (lbB.2 hl)
theorem never_holds {s:f7} {g:List (Int × Rat)} {z:List Rat} (hr:i7 s=true) (hl:s.rows.length<6000) (hg:d6 (-1) s.n g=true) (hz:g6 s z=true) (h0:j0 g z=0):g6 (aT9 s g) z=true:=by
 obtain ⟨h1,h2,h3,h4⟩:=W7.1 hz
 refine W7.2 ⟨aJ6 hr hl hg,h2,h3,fun w hw=>?_⟩
 rcases lbz.1 hw with h|h
 ·exact h4 w h
 ·have h:=List.mem_singleton.1 h
  subst h
  have e1:((0:Int):Rat)=0:=rfl
  simp only
  rw [h0,e1]
  exact ⟨fun _=>lb1,fun _=>lb1⟩
theorem b1h {f:Nat->Rat} {B N:Nat} (h:∀i,rl (f i)<=B) (h0:∀i,N<=i->f i=0):∀k,rl (i6 f k)<=N*(B+1)+1:=by
 intro k
 by_cases hk:k<=N
 ·have h1:=a1O (f:=f) (B:=B) k fun j _=>h j
  have h2:=lbT (B+1) hk
  omega
 ·obtain ⟨d,rfl⟩:∃d,k=N+d:=⟨k - N,by omega⟩
  have e:i6 f (N+d)=i6 f N:=by
   clear hk
   induction d with
   |zero=>rfl
   |succ d ih=>show i6 f (N+d)+f (N+d)=_;rw [h0 _ (by omega),ih];grind
  rw [e]
  exact a1O (f:=f) (B:=B) N fun j _=>h j
theorem b56 {s:f7} {Y:List Rat} {B C N:Nat} (hl:Y.length=s.rows.length) (hN:Y.length<=N) (hB:1<=B) (hy:∀v ∈ Y,rl v<=B) (hc:∀w ∈ s.rows,(∀ t ∈ w.terms,rl t.2<=C)∧rl w.value<=C) (hC:1<=C) (hn:N*(B+C+1)+1<=40000) (hm:N<=1000000):b77 s Y:=by
 have hyi:∀i,rl (yN Y i)<=B:=fun i=>by
  unfold yN
  by_cases h:i<Y.length
  ·rw [lbl,lbf h];exact hy _ (lbE _)
  ·rw [lbl,lbd (by omega)];have:=rl0;show rl 0<=B;omega
 have hy0:∀i,N<=i->yN Y i=0:=fun i hi=>by unfold yN;rw [lbl,lbd (by omega)];rfl
 have hrow:∀i,(∀ t ∈ (o8 s i).terms,rl t.2<=C)∧rl (o8 s i).value<=C:=fun i=>by
  by_cases h:i<s.rows.length
  ·rw [U7 (lbf h)];exact hc _ (lbE _)
  ·have e:o8 s i=⟨[],2,0⟩:=by unfold o8;rw [lbl,lbd (by omega)];rfl
   rw [e]
   exact ⟨fun (t:Int × Rat) (ht:t ∈ [])=>by simp at ht,by have:=rl0;show rl 0<=C;omega⟩
 have hcof:∀i l,rl (B7 (o8 s i).terms l)<=C:=fun i l=>by
  have key:∀k,rl (K2 (o8 s i).terms k l)<=C:=by
   intro k
   induction k with
   |zero=>have:=rl0;show rl 0<=C;omega
   |succ k ih=>
    cases hk:(o8 s i).terms[k]? with
    |none=>rw [K2,hk];exact ih
    |some t=>
     rw [I9 hk]
     simp only
     split
     ·exact (hrow i).1 t (lbm hk)
     ·exact ih
  exact key _
 refine ⟨fun v hv=>by
  have h1:=hy v hv
  by_cases h2:N=0
  ·have:Y=[]:=S8.1 (by omega)
   subst this;cases hv
  ·have:1*(B+C+1)<=N*(B+C+1):=lbT _ (by omega)
   omega,fun l k=>?_,fun k=>?_,hl,by omega⟩
 ·have:=b1h (f:=fun i=>yN Y i*B7 (o8 s i).terms l) (B:=B+C) (N:=N) (fun i=>by have:=a86 (yN Y i) (B7 (o8 s i).terms l);have:=hyi i;have:=hcof i l;omega) (fun i hi=>by rw [hy0 i hi];grind) k
  have e:rl (Z8 s (yN Y) l k)<=N*(B+C+1)+1:=this
  omega
 ·have:=b1h (f:=fun i=>yN Y i*(o8 s i).value) (B:=B+C) (N:=N) (fun i=>by have:=a86 (yN Y i) (o8 s i).value;have:=hyi i;have:=(hrow i).2;omega) (fun i hi=>by rw [hy0 i hi];grind) k
  have e:rl (a3s s (yN Y) k)<=N*(B+C+1)+1:=this
  omega
structure a0I where
 kind:Int
 value:Fr
 X:List Rat
 Y:List Rat
 R:List Rat
structure a60 (s:f7) (g:List (Int × Rat)) (o:a0I):Prop where
 k:o.kind=0∨o.kind=1∨o.kind=2
 found:o.kind=0->g6 s o.X=true∧o.value=fz (j0 g o.X)∧(∀ z,g6 s z=true->j0 g o.X<=j0 g z)∧o.R=[]∧a8O s g o.Y=true∧a4Y s (yN o.Y)=j0 g o.X
 none:o.kind=1->(∀ z,g6 s z=false)∧o.X=[]∧o.R=[]∧o.value=M6∧aT5 s o.Y=true
 free:o.kind=2->g6 s o.X=true∧b6Y s o.R∧j0 g o.R<0∧o.Y=[]∧o.value=M6
 bx:∀v ∈ o.X,rl v<=15
 br:∀v ∈ o.R,rl v<=15
 by':∀v ∈ o.Y,rl v<=300
theorem aW9 {s:f7} {w:Nat} {p:Rat} {i B:Nat} (h:rl p<=B) (hB:1<=B):rl (chg s w p i)<=B:=by
 unfold chg
 split
 ·rw [R9]
  cases (I7 s (w - s.n.toNat)).2 with
  |false=>exact h
  |true=>show rl (-p)<=B;rw [R9];exact h
 ·have:=rl0;omega
theorem aF0 {s:f7} {g:List (Int × Rat)} (h:F0 s) (hg:d6 (-1) ((s.n.toNat:Nat):Int) g=true) (hw:A7 g) (i:Nat):rl (a2L s (m8 s g) i)<=300:=by
 have hb:=a5T (a1n h hg hw)
 have hn:=O9 h.r
 have h10:=h.n
 unfold a2L
 have:=a1O (f:=fun j=>chg s ((m8 s g).F j) (-((m8 s g).G j)) i) (B:=15) s.n.toNat fun j hj=>aW9 (by rw [R9];exact hb.g j hj) (by decide)
 have h2:=lbT 16 (show s.n.toNat<=10 by omega)
 omega
theorem aC9 {s:f7} {g:List (Int × Rat)} (h:F0 s) (hg:d6 (-1) ((s.n.toNat:Nat):Int) g=true) (hw:A7 g) {r:Nat} (hr:r<(c8 s).length) (i:Nat):rl (Y3 s (m8 s g) r i)<=300:=by
 have hb:=a5T (a1n h hg hw)
 have hn:=O9 h.r
 have h10:=h.n
 unfold Y3
 have h1:rl (chg s ((m8 s g).O r) 1 i)<=15:=aW9 (by have:=rl1;omega) (by decide)
 have h2:=a1O (f:=fun j=>chg s ((m8 s g).F j) ((m8 s g).A r j) i) (B:=15) s.n.toNat fun j hj=>aW9 (hb.a r hr j hj) (by decide)
 have h3:=a3Z (chg s ((m8 s g).O r) 1 i) (i6 (fun j=>chg s ((m8 s g).F j) ((m8 s g).A r j) i) s.n.toNat)
 have h4:=lbT 16 (show s.n.toNat<=10 by omega)
 omega
theorem b9j {n B:Nat} {y:Nat->Rat} (h:∀i,rl (y i)<=B):∀v ∈ zOf n y,rl v<=B:=fun v hv=>by
 obtain ⟨j,hj,rfl⟩:=a99 hv
 exact h j
theorem a00:A7 []:=fun t ht=>by cases ht
theorem b1T {s:f7} {g:List (Int × Rat)} (h:F0 s) (hg:d6 (-1) ((s.n.toNat:Nat):Int) g=true) (hw:A7 g) (ho:U5 s g=.best):
 a60 s g ⟨0,fz (j0 g (F9 s g)),F9 s g,zOf s.rows.length (a2L s (m8 s g)),[]⟩ where
 k:=.inl rfl
 found:=fun _=>by
  obtain ⟨h1,h2⟩:=a2w h.r hg ho
  obtain ⟨h3,h4⟩:=b0Q h.r hg (b5r h.r hg ho) (Y:=zOf s.rows.length (a2L s (m8 s g))) a4I fun i hi=>b3S hi
  exact ⟨h1,rfl,h2,rfl,h3,h4⟩
 none:=fun e=>by cases e
 free:=fun e=>by cases e
 bx:=fun v hv=>by have:=aE2 h hg hw v hv;omega
 br:=fun v hv=>by cases hv
 by':=b9j (aF0 h hg hw)
theorem a9p {s:f7} {g g':List (Int × Rat)} {r:Nat} (h:F0 s) (hg:d6 (-1) ((s.n.toNat:Nat):Int) g'=true) (hw:A7 g') (ho:U5 s g'=.row r):
 a60 s g ⟨1,M6,[],zOf s.rows.length (Y3 s (m8 s g') r),[]⟩ where
 k:=.inr (.inl rfl)
 found:=fun e=>by cases e
 none:=fun _=>by
  obtain ⟨h1,h2⟩:=b6D ho
  obtain ⟨h3,h4⟩:=b0Q (g:=[]) h.r rfl h1 (Y:=zOf s.rows.length (Y3 s (m8 s g') r)) a4I fun i hi=>b3S hi
  refine ⟨b0s ho,rfl,rfl,rfl,?_⟩
  unfold aT5
  rw [h3,h4]
  show decide _=true
  exact lbH (by grind)
 free:=fun e=>by cases e
 bx:=fun v hv=>by cases hv
 br:=fun v hv=>by cases hv
 by':=b9j (aC9 h hg hw (a4l ho).1)
theorem b48 {s:f7} {g:List (Int × Rat)} {c:Nat} (h:F0 s) (hg:d6 (-1) ((s.n.toNat:Nat):Int) g=true) (hw:A7 g) (ho:U5 s g=.col c) (h0:U5 s []=.best):
 a60 s g ⟨2,M6,F9 s [],[],ax6 s g c⟩ where
 k:=.inr (.inr rfl)
 found:=fun e=>by cases e
 none:=fun e=>by cases e
 free:=fun _=>by
  obtain ⟨h1,h2⟩:=a95 h.r hg ho
  exact ⟨(a2w h.r rfl h0).1,h1,h2,rfl,rfl⟩
 bx:=fun v hv=>by have:=aE2 (g:=[]) h rfl a00 v hv;omega
 br:=fun v hv=>by
  obtain ⟨j,hj,rfl⟩:=a99 hv
  have:=b9T (a1n h hg hw) (a74 ho).1 hj
  omega
 by':=fun v hv=>by cases hv
def a2S (g:List (Int × Rat)) (o:a0I):Option Rat:=if o.kind=0 then some (j0 g o.X) else none
theorem a40 {s:f7} {g:List (Int × Rat)} {o:a0I} (h:a60 s g o) (hk:o.kind≠1):g6 s o.X=true:=by
 rcases h.k with e|e|e
 ·exact (h.found e).1
 ·exact absurd e hk
 ·exact (h.free e).1
theorem aE8 {s:f7} {g g':List (Int × Rat)} {o o':a0I} (hg:d6 (-1) ((s.n.toNat:Nat):Int) g'=true) (h:a60 s g o) (h':a60 s g' o') (he:∀z,g6 s z=true->j0 g z=j0 g' z) (hk:o.kind=0):o'.kind≠2:=by
 intro hk'
 obtain ⟨h1,h2,h3,_⟩:=h.found hk
 obtain ⟨f1,f2,f3,_⟩:=h'.free hk'
 have hs:=a7Y h1 f2
 have hl:=(J8 h1).2
 have hn:=O9 (J8 h1).1
 have e1:=h3 _ hs
 rw [he _ h1,he _ hs,a2K (n:=s.n.toNat) (by omega) f2.len hg] at e1
 grind
theorem aH6 {s:f7} {g g':List (Int × Rat)} {o o':a0I} (hg:d6 (-1) ((s.n.toNat:Nat):Int) g=true) (hg':d6 (-1) ((s.n.toNat:Nat):Int) g'=true) (h:a60 s g o) (h':a60 s g' o') (hne:o.kind≠1) (hne':o'.kind≠1) (he:∀z,g6 s z=true->j0 g z=j0 g' z):a2S g o=a2S g' o':=by
 unfold a2S
 by_cases hk:o.kind=0
 ·have hk':o'.kind=0:=by
   rcases h'.k with e|e|e
   ·exact e
   ·exact absurd e hne'
   ·exact absurd e (aE8 hg' h h' he hk)
  rw [if_pos hk,if_pos hk']
  obtain ⟨a1,_,a3,_⟩:=h.found hk
  obtain ⟨b1,_,b3,_⟩:=h'.found hk'
  have c1:=a3 _ b1
  have c2:=b3 _ a1
  rw [← he _ a1] at c2
  rw [he _ b1] at c1
  congr 1
  grind
 ·have hk':o'.kind≠0:=by
   intro e
   have hk2:o.kind=2:=by rcases h.k with h1|h1|h1<;>omega
   exact aE8 hg h' h (fun z hz=>(he z hz).symm) e hk2
  rw [if_neg hk,if_neg hk']
theorem b22 {s:f7} {g:List (Int × Rat)} {o:a0I} (h:a60 s g o) (hp:∀t ∈ g,0<=t.2) (hk:o.kind≠1):o.kind=0:=by
 rcases h.k with e|e|e
 ·exact e
 ·exact absurd e hk
 ·obtain ⟨_,h2,h3,_⟩:=h.free e
  have:=b3y h2.pos g hp
  grind
theorem ap9 {s:f7} {g:List (Int × Rat)} {o:a0I} {c:Rat} (hg:d6 (-1) ((s.n.toNat:Nat):Int) g=true) (h:a60 s g o) (hk:o.kind≠1) (hc:∀z,g6 s z=true->j0 g z=c):o.kind=0∧o.value=fz c:=by
 have h0:o.kind=0:=by
  rcases h.k with e|e|e
  ·exact e
  ·exact absurd e hk
  ·obtain ⟨f1,f2,f3,_⟩:=h.free e
   have hs:=a7Y f1 f2
   have hl:=(J8 f1).2
   have hn:=O9 (J8 f1).1
   have e1:=hc _ hs
   rw [a2K (n:=s.n.toNat) (by omega) f2.len hg,hc _ f1] at e1
   grind
 obtain ⟨a1,a2,_⟩:=h.found h0
 exact ⟨h0,by rw [a2,hc _ a1]⟩
structure a24 (s:f7) (g:List (Int × Rat)) (lo hi:a0I):Prop where
 l1:lo.kind≠1
 h1:hi.kind≠1
 lo:a60 s g lo
 hi:a60 s (a0r g) hi
def a1q (g:List (Int × Rat)) (o:a0I):Option Rat:=(a2S (a0r g) o).map fun x=>-x
theorem aH0 {s:f7} {g:List (Int × Rat)} {lo hi:a0I} (h:a24 s g lo hi) (hk:hi.kind=0):a1q g hi=some (j0 g hi.X):=by
 unfold a1q a2S
 rw [if_pos hk,V5,P5 (s:=s) (g:=g)]
 congr 1;grind
theorem aO7 {s:f7} {g g':List (Int × Rat)} {lo hi lo' hi':a0I} (hg:d6 (-1) ((s.n.toNat:Nat):Int) g=true) (hg':d6 (-1) ((s.n.toNat:Nat):Int) g'=true) (h:a24 s g lo hi) (h':a24 s g' lo' hi') (he:∀z,g6 s z=true->j0 g z=j0 g' z):
 a2S g lo=a2S g' lo'∧a1q g hi=a1q g' hi':=by
 refine ⟨aH6 hg hg' h.lo h'.lo h.l1 h'.l1 he,?_⟩
 have e:=aH6 (L9 hg) (L9 hg') h.hi h'.hi h.h1 h'.h1 fun z hz=>by rw [P5 (s:=s) (g:=g),P5 (s:=s) (g:=g'),he z hz]
 unfold a1q
 rw [e]
def exW (r:Int):Ev:=⟨1,1,1,[⟨0,0,0⟩,⟨1,-1,-1⟩,⟨5,-1,-1⟩],[⟨3,0,1,0,20,false⟩,⟨5,1,2,0,r,true⟩],[⟨0,0,9,2,0,0⟩],[],[]⟩
def aP9:Ev:=⟨1,1,1,[⟨0,0,0⟩,⟨1,-1,-1⟩,⟨5,-1,-1⟩],[⟨3,0,1,-1,0,false⟩,⟨5,1,2,-1,0,true⟩],[⟨0,0,9,2,0,0⟩],[],[]⟩
def wR (lo hi:Rat):List j6:=[⟨[(0,((1:Int):Rat))],0,18⟩,⟨[(0,((1:Int):Rat))],1,22⟩,⟨[(0,((1:Int):Rat)),(1,((-1:Int):Rat))],2,0⟩,⟨[(1,((1:Int):Rat))],0,lo⟩,⟨[(1,((1:Int):Rat))],1,hi⟩]
theorem a7C:A0 (exW 23)=⟨2,wR 21 25⟩:=by decide +kernel
theorem ap7:A0 (exW 25)=⟨2,wR 23 27⟩:=by decide +kernel
theorem I8:p7 (exW 23)=0∧p7 (exW 25)=0∧p7 aP9=0:=by decide +kernel
theorem aE3:F0 (A0 (exW 25)):=an3 I8.2.1 (by decide) (by decide) (by decide)
theorem a9k:g6 (A0 (exW 23)) [21,21]=true:=by decide +kernel
theorem b3l:g6 (A0 (exW 23)) [22,22]=true:=by decide +kernel
theorem b3C:g6 (A0 aP9) [0,0]=true:=by decide +kernel
theorem v0 (a b:Rat):j0 [(0,((1:Int):Rat))] [a,b]=a:=by
 show ((0:Int):Rat)+((1:Int):Rat)*a=a
 have e0:((0:Int):Rat)=0:=rfl
 have e1:((1:Int):Rat)=1:=rfl
 rw [e0,e1];grind
theorem v1 (a b:Rat):j0 [(1,((1:Int):Rat))] [a,b]=b:=by
 show ((0:Int):Rat)+((1:Int):Rat)*b=b
 have e0:((0:Int):Rat)=0:=rfl
 have e1:((1:Int):Rat)=1:=rfl
 rw [e0,e1];grind
theorem v01 (a b:Rat):j0 [(0,((1:Int):Rat)),(1,((-1:Int):Rat))] [a,b]=a - b:=by
 show ((0:Int):Rat)+((1:Int):Rat)*a+((-1:Int):Rat)*b=a - b
 have e0:((0:Int):Rat)=0:=rfl
 have e1:((1:Int):Rat)=1:=rfl
 have e2:((-1:Int):Rat)=-1:=rfl
 rw [e0,e1,e2];grind
theorem b8G {z:List Rat} (h:(z.length:Int)=2):∃a b,z=[a,b]:=by
 match z,h with
 |[a,b],_=>exact ⟨a,b,rfl⟩
theorem aD8 {lo hi:Rat} {rows:List j6} {z:List Rat} (hz:g6 ⟨2,rows⟩ z=true) (h1:(⟨[(0,((1:Int):Rat))],1,22⟩:j6) ∈ rows) (h2:(⟨[(0,((1:Int):Rat)),(1,((-1:Int):Rat))],2,0⟩:j6) ∈ rows) (h3:(⟨[(1,((1:Int):Rat))],0,lo⟩:j6) ∈ rows):
 ∃a b,z=[a,b]∧a<=22∧a=b∧lo<=b:=by
 obtain ⟨_,hl,_,hw⟩:=W7.1 hz
 obtain ⟨a,b,rfl⟩:=b8G hl
 have g1:=(hw _ h1).2 (by decide)
 have g2:=hw _ h2
 have g2a:=g2.1 (by decide)
 have g2b:=g2.2 (by decide)
 have g3:=(hw _ h3).1 (show (0:Int)≠1 by decide)
 simp only [v0,v1,v01] at g1 g2a g2b g3
 exact ⟨a,b,rfl,g1,by grind,g3⟩
theorem aG9 {z:List Rat} (hz:g6 (A0 (exW 23)) z=true):21<=j0 [(0,((1:Int):Rat))] z∧j0 [(0,((1:Int):Rat))] z<=22:=by
 rw [a7C] at hz
 obtain ⟨a,b,rfl,h1,h2,h3⟩:=aD8 (lo:=21) (hi:=25) hz (by simp [wR]) (by simp [wR]) (by simp [wR])
 rw [v0]
 exact ⟨by grind,h1⟩
theorem aK2 {rows:List j6} (h1:(⟨[(0,((1:Int):Rat))],1,22⟩:j6) ∈ rows) (h2:(⟨[(0,((1:Int):Rat)),(1,((-1:Int):Rat))],2,0⟩:j6) ∈ rows) (h3:(⟨[(1,((1:Int):Rat))],0,23⟩:j6) ∈ rows) (z:List Rat):g6 ⟨2,rows⟩ z=false:=by
 cases hz:g6 ⟨2,rows⟩ z with
 |false=>rfl
 |true=>
  obtain ⟨a,b,rfl,g1,g2,g3⟩:=aD8 (hi:=27) hz h1 h2 h3
  exfalso
  rw [g2] at g1
  exact absurd (Rat.le_trans g3 g1) (by decide)
theorem aQ3 (z:List Rat):g6 (A0 (exW 25)) z=false:=by
 rw [ap7]
 exact aK2 (by simp [wR]) (by simp [wR]) (by simp [wR]) z
abbrev b3V (o:a0I):List C:=C.t (ti o.kind)::frC o.value++[C.t (H5 (o.X.map fz)),C.t (H5 (o.Y.map fz)),C.t (H5 (o.R.map fz))]
abbrev ao1 (o:a0I):S:=.agg (b3V o)
theorem b7A {H:Hp} {p:Nat->Prop} {id n:Nat} {y:Nat->Rat} (hp:p id) (hk:H[id]? =some (flB (rF n y))):VC H p (.own id 0 n true) (H5 ((zOf n y).map fz)):=
 p4 (k:=flB (rF n y)) hp hk (fun h=>h) rfl (by rw [ab4]) (by rw [ab4];simp [a0K])
theorem b6P {kind:Int} {v:Fr} {X:List Rat} {n:Nat} {y:Nat->Rat}:Fin 0 (.tup [.agg (C.t (ti kind)::frC v++[.t (H5 (X.map fz)),.own 0 0 n true,.t (.sl 0 .nil [])]),a7 .i64 0]) [flB (rF n y)] (.tup [ao1 ⟨kind,v,X,zOf n y,[]⟩,a7 .i64 0]) []:=
 j2 ⟨⟨rfl,rfl,rfl,rfl,rfl,rfl,show VC _ (fun id=>E6 [] id=true) _ _ from b7A rfl rfl,rfl,trivial⟩,rfl,trivial⟩
theorem a80 {s:f7} {g:List (Int × Rat)} {z:List Rat} (hg:d6 (-1) ((s.n.toNat:Nat):Int) g=true) (h10:s.n<=10) (hw:A7 g) (hz:∀v ∈ z,rl v<=400) (k:Nat):rl (j0 (g.take k) z)<=5000:=by
 have hl:=z7 hg
 have:=aD1 (l:=g) (z:=z) (B:=400) (O0 hw) hz k
 have h2:=lbT (400+4) (show g.length<=10 by omega)
 omega
theorem aK1 {kind:Int} {v:Fr} {n:Nat} {y:Nat->Rat}:Fin 0 (.tup [.agg (C.t (ti kind)::frC v++[.t (.sl 0 .nil []),.own 0 0 n true,.t (.sl 0 .nil [])]),a7 .i64 0]) [flB (rF n y)] (.tup [ao1 ⟨kind,v,[],zOf n y,[]⟩,a7 .i64 0]) []:=
 j2 ⟨⟨rfl,rfl,rfl,rfl,rfl,rfl,show VC _ (fun id=>E6 [] id=true) _ _ from b7A rfl rfl,rfl,trivial⟩,rfl,trivial⟩
theorem aH4 (s:f7) (g:List (Int × Rat)) (h:F0 s) (hg:d6 (-1) ((s.n.toNat:Nat):Int) g=true) (hw:A7 g):∃o,a60 s g o∧a8 Tryz.prog 124 [Q8 s,j1 g] [] (.tup [ao1 o,a7 .i64 0]) []:=by
 have hl:=a1n h hg hw
 have h0:=a1n (g:=[]) h rfl a00
 rcases a4M s g with hb|⟨r,hr⟩|⟨c,hc⟩
 ·exact ⟨_,b1T h hg hw hb,L4 (a6m s g _ _ hl hb (fun k=>lbR (a80 hg h.n hw (fun v hv=>by have:=aE2 h hg hw v hv;omega) k) (by decide)) (fun v hv=>by have:=aE2 h hg hw v hv;omega)) b6P⟩
 ·exact ⟨_,a9p h hg hw hr,L4 (a8s s g _ _ r hl hr) aK1⟩
 ·rcases a4M s [] with hb|⟨r,hr⟩|⟨c',hc'⟩
  ·exact ⟨_,b48 h hg hw hc hb,L4 (aw2 s g _ _ _ c hl h0 hc hb) (j2 ⟨⟨rfl,rfl,rfl,rfl,rfl,rfl,rfl,rfl,trivial⟩,rfl,trivial⟩)⟩
  ·exact ⟨_,a9p h (g':=[]) rfl a00 hr,L4 (as7 s g _ _ _ c r hl h0 hc hr) aK1⟩
  ·exact absurd hc' (b6h h.r)
theorem b1E (l:List (Int × Rat)) (hr:d6 (-1) 1500 l=true) (hb:∀t ∈ l,rl t.2<=200):a8 Tryz.prog 125 [j1 l] [] (j1 (a0r l)) []:=by
 have i1:=H4 (-1) (by decide) (by decide)
 have ti:=az0 l ((-1:Int):Rat) (by decide) hr hb (by have:=b4g;omega)
 (refine ac Tryz.func125 ?_;(conv=>whnf);repeat ((first|refine b0x ?_|refine zy ?_);conv=>whnf))
 repeat' (first|refine zx ?_|refine qp i1 ?_|refine qp ti ?_|refine zd ?_ ?_<;>intro h<;>try omega|fail)<;>conv=>whnf
 all_goals exact j2 rfl
abbrev a7x:a0I:=⟨0,M6,[],[],[]⟩
abbrev a0j (lo hi:a0I):S:=.agg (b3V lo++b3V hi)
theorem aM9 (s:f7) (g:List (Int × Rat)) (h:F0 s) (hg:d6 (-1) ((s.n.toNat:Nat):Int) g=true) (hw:A7 g):
 ((∀ z,g6 s z=false)∧a8 Tryz.prog 52 [Q8 s,j1 g] [] (.tup [a0j a7x a7x,a7 .i64 15]) [])∨
 ∃lo hi,a24 s g lo hi∧a8 Tryz.prog 52 [Q8 s,j1 g] [] (.tup [a0j lo hi,a7 .i64 0]) []:=by
 obtain ⟨lo,hlo,l1⟩:=aH4 s g h hg hw
 have hn:=O9 h.r
 have h10:=h.n
 have og:=b1E g (W6 (by omega) hg) (fun t ht=>by have:=O0 hw t ht;omega)
 have hwo:=a4B hw
 by_cases hk:lo.kind=1
 ·refine .inl ⟨(hlo.none hk).1,?_⟩
  rw [show ao1 lo=.agg (C.t (ti 1)::frC lo.value++[C.t (H5 (lo.X.map fz)),C.t (H5 (lo.Y.map fz)),C.t (H5 (lo.R.map fz))]) by show S.agg (C.t (ti lo.kind)::_)=_;rw [hk];rfl] at l1
  (refine ac Tryz.func52 ?_;(conv=>whnf);repeat ((first|refine b0x ?_|refine zy ?_);conv=>whnf))
  repeat' (first|refine zx ?_|refine qp l1 ?_|refine zd ?_ ?_<;>intro h<;>try omega|fail)<;>conv=>whnf
  all_goals first
   |(exfalso;(try dsimp only at *);omega)
   |exact j2 ⟨⟨rfl,rfl,rfl,rfl,rfl,rfl,rfl,rfl,rfl,rfl,rfl,rfl,rfl,rfl,rfl,rfl,trivial⟩,rfl,trivial⟩
 ·obtain ⟨hi,hhi,l2⟩:=aH4 s (a0r g) h (L9 hg) hwo
  have h1:hi.kind≠1:=fun e=>by
   have:=(hhi.none e).1 lo.X
   rw [a40 hlo hk] at this;cases this
  refine .inr ⟨lo,hi,⟨hk,h1,hlo,hhi⟩,?_⟩
  (refine ac Tryz.func52 ?_;(conv=>whnf);repeat ((first|refine b0x ?_|refine zy ?_);conv=>whnf))
  repeat' (first|refine zx ?_|refine qp l1 ?_|refine qp og ?_|refine qp l2 ?_|refine B3 _ (by decide +kernel) rfl ?_|refine zd ?_ ?_<;>intro h<;>try omega|fail)<;>conv=>whnf
  all_goals first
   |(exfalso;(try dsimp only at *);omega)
   |exact j2 ⟨⟨rfl,rfl,rfl,rfl,rfl,rfl,rfl,rfl,rfl,rfl,rfl,rfl,rfl,rfl,rfl,rfl,trivial⟩,rfl,trivial⟩
def b6j (o:Option Rat):Fr:=match o with
 |none=>M6
 |some x=>fz x
abbrev bb6 (l h:Option Rat):List C:=frC (b6j l)++frC (b6j h)++[.t (tb l.isSome),.t (tb h.isSome)]
abbrev aE7 (l h:Option Rat):S:=.agg (bb6 l h)
theorem b2M (x:Rat) (hx:rl x<=60000):a8 Tryz.prog 61 [frS (fz x)] [] (frS (fz x)) []:=by
 have h1:=K0 x
 have h2:=M3 x
 have m1:(toC ((fz x).p.dl.map d7)).length*(8+1)<=140737488355328:=by
  simp only [toC,lbr]
  have:(fz x).p.dl.length<=60000:=by show bl x.num<=_;omega
  omega
 have m2:(toC ((fz x).q.dl.map d7)).length*(8+1)<=140737488355328:=by
  simp only [toC,lbr]
  have:(fz x).q.dl.length<=60000:=by show bl x.den<=_;omega
  omega
 (refine ac Tryz.func61 ?_;(conv=>whnf);repeat ((first|refine b0x ?_|refine zy ?_);conv=>whnf))
 repeat' (first|refine zx ?_|refine ⟨m1,?_⟩|refine ⟨m2,?_⟩|refine zd ?_ ?_<;>intro h<;>try omega|fail)<;>conv=>whnf
 all_goals first
  |exact j2 ⟨rfl,show VC _ (fun id=>E6 [] id=true) _ _ from p4 rfl rfl (by intro h;cases h) rfl rfl (by simp [toC]),rfl,show VC _ (fun id=>E6 [] id=true) _ _ from p4 rfl rfl (by intro h;cases h) rfl rfl (by simp [toC]),trivial⟩
theorem b20 (lo hi:a0I) (x y:Rat) (h0:lo.kind=0->lo.value=fz x) (h1:hi.kind=0->hi.value=fz y) (bx:rl x<=60000) (by':rl y<=60000):
 a8 Tryz.prog 21 [a0j lo hi] [] (aE7 (if lo.kind=0 then some x else none) (if hi.kind=0 then some (-y) else none)) []:=by
 obtain ⟨k,v,X,Y,R⟩:=lo
 obtain ⟨k',v',X',Y',R'⟩:=hi
 have fr:=b2M x bx
 have ng:=Z1 y by'
 by_cases c0:k=0
 ·obtain rfl:v=fz x:=h0 c0
  subst c0
  by_cases c1:k'=0
  ·obtain rfl:v'=fz y:=h1 c1
   subst c1
   (refine ac Tryz.func21 ?_;(conv=>whnf);repeat (refine zy ?_;conv=>whnf))
   repeat' (first|refine zx ?_|refine qp fr ?_|refine qp ng ?_|refine zd ?_ ?_<;>intro h<;>try omega|fail)<;>conv=>whnf
   all_goals first
    |(exfalso;(try dsimp only at *);omega)
    |exact j2 ⟨rfl,rfl,rfl,rfl,rfl,rfl,rfl,rfl,rfl,rfl,trivial⟩
  ·rw [if_neg (show ¬(a0I.mk k' v' X' Y' R').kind=0 from c1)]
   (refine ac Tryz.func21 ?_;(conv=>whnf);repeat (refine zy ?_;conv=>whnf))
   repeat' (first|refine zx ?_|refine qp fr ?_|refine zd ?_ ?_<;>intro h<;>try omega|fail)<;>conv=>whnf
   all_goals first
    |(exfalso;(try dsimp only at *);omega)
    |exact j2 ⟨rfl,rfl,rfl,rfl,rfl,rfl,rfl,rfl,rfl,rfl,trivial⟩
 ·rw [if_neg (show ¬(a0I.mk k v X Y R).kind=0 from c0)]
  by_cases c1:k'=0
  ·obtain rfl:v'=fz y:=h1 c1
   subst c1
   (refine ac Tryz.func21 ?_;(conv=>whnf);repeat (refine zy ?_;conv=>whnf))
   repeat' (first|refine zx ?_|refine qp ng ?_|refine zd ?_ ?_<;>intro h<;>try omega|fail)<;>conv=>whnf
   all_goals first
    |(exfalso;(try dsimp only at *);omega)
    |exact j2 ⟨rfl,rfl,rfl,rfl,rfl,rfl,rfl,rfl,rfl,rfl,trivial⟩
  ·rw [if_neg (show ¬(a0I.mk k' v' X' Y' R').kind=0 from c1)]
   (refine ac Tryz.func21 ?_;(conv=>whnf);repeat (refine zy ?_;conv=>whnf))
   repeat' (first|refine zx ?_|refine zd ?_ ?_<;>intro h<;>try omega|fail)<;>conv=>whnf
   all_goals first
    |(exfalso;(try dsimp only at *);omega)
    |exact j2 ⟨rfl,rfl,rfl,rfl,rfl,rfl,rfl,rfl,rfl,rfl,trivial⟩
theorem ag9 {s:f7} {g:List (Int × Rat)} {lo hi:a0I} (hs:F0 s) (hg:d6 (-1) ((s.n.toNat:Nat):Int) g=true) (hw:A7 g) (h:a24 s g lo hi):rl (j0 g lo.X)<=5000∧rl (j0 (a0r g) hi.X)<=5000:=by
 have a:=a80 hg hs.n hw (z:=lo.X) (fun v hv=>by have:=h.lo.bx v hv;omega) g.length
 have b:=a80 (L9 hg) hs.n (a4B hw) (z:=hi.X) (fun v hv=>by have:=h.hi.bx v hv;omega) (a0r g).length
 rw [a4c] at a b
 exact ⟨a,b⟩
theorem a6b {s:f7} {g:List (Int × Rat)} {lo hi:a0I} (hs:F0 s) (hg:d6 (-1) ((s.n.toNat:Nat):Int) g=true) (hw:A7 g) (h:a24 s g lo hi):
 a8 Tryz.prog 21 [a0j lo hi] [] (aE7 (a2S g lo) (a1q g hi)) []:=by
 obtain ⟨b1,b2⟩:=ag9 hs hg hw h
 have r:=b20 lo hi (j0 g lo.X) (j0 (a0r g) hi.X) (fun e=>(h.lo.found e).2.1) (fun e=>(h.hi.found e).2.1) (by omega) (by omega)
 have e:a1q g hi=if hi.kind=0 then some (-(j0 (a0r g) hi.X)) else none:=by
  unfold a1q a2S
  split<;>rfl
 rw [e]
 exact r
theorem b26 (s:f7) (g:List (Int × Rat)) (c:Rat) (hs:F0 s) (hg:d6 (-1) ((s.n.toNat:Nat):Int) g=true) (hw:A7 g) (hz:∃z,g6 s z=true) (hc:∀z,g6 s z=true->j0 g z=c):
 a8 Tryz.prog 13 [Q8 s,j1 g] [] (.tup [frS (fz c),d9 true]) []:=by
 rcases aM9 s g hs hg hw with ⟨hn,_⟩|⟨lo,hi,hr,so⟩
 ·obtain ⟨z,hz⟩:=hz;rw [hn z] at hz;cases hz
 have sb:=a6b hs hg hw hr
 obtain ⟨l0,lv⟩:=ap9 hg hr.lo hr.l1 hc
 obtain ⟨z0,hz0⟩:=hz
 have sol:=a40 hr.lo hr.l1
 obtain ⟨b1,b2⟩:=ag9 hs hg hw hr
 have e1:a2S g lo=some c:=by unfold a2S;rw [if_pos l0,hc _ sol]
 have e2:a1q g hi=some c:=by
  obtain ⟨h0,_⟩:=ap9 (c:=-c) (L9 hg) hr.hi hr.h1 fun z hz=>by rw [P5 (s:=s) (g:=g),hc z hz]
  rw [aH0 hr h0,hc _ (a40 hr.hi hr.h1)]
 rw [e1,e2] at sb
 rw [hc _ sol] at b1
 have cm:=Q5 c c (by omega) (by omega)
 have ce:a1G c c=0:=by unfold a1G;simp
 rw [ce] at cm
 (refine ac Tryz.func13 ?_;(conv=>whnf);repeat ((first|refine b0x ?_|refine zy ?_);conv=>whnf))
 repeat' (first|refine zx ?_|refine qp so ?_|refine qp sb ?_|refine qp cm ?_|refine zd ?_ ?_<;>intro h<;>try omega|fail)<;>conv=>whnf
 all_goals first
  |(exfalso;(try dsimp only at *);omega)
  |exact j2 ⟨⟨rfl,rfl,rfl,rfl,trivial⟩,rfl,trivial⟩
  |(exfalso;rename_i h;simp at h;done)
  |(exfalso;rename_i h _;simp at h;done)
theorem ad5 (r:Int):a8 Tryz.prog 39 [a7 .i64 r] [] (evS (exW r)) []:=by
 (refine ac Tryz.func39 ?_;(conv=>whnf);repeat ((first|refine b0x ?_|refine zy ?_);conv=>whnf))
 repeat' (first|refine zx ?_|refine zd ?_ ?_<;>intro h<;>try omega|fail)<;>conv=>whnf
 all_goals first
  |exact j2 ⟨rfl,rfl,rfl,rfl,rfl,rfl,rfl,rfl,trivial⟩
theorem b73:a8 Tryz.prog 45 [ao1 a7x,a7 .i64 60,a7 .i64 40] [] (d9 true) []:=by
 have f:=b2R M6 40
 have p:=aV3 [] 60 40 (by decide)
 (refine ac Tryz.func45 ?_;(conv=>whnf);repeat ((first|refine b0x ?_|refine zy ?_);conv=>whnf))
 repeat' (first|refine zx ?_|refine qp f ?_|refine qp p ?_|refine zd ?_ ?_<;>intro h<;>try omega|fail)<;>conv=>whnf
 all_goals first
  |omega
  |exact c9 rfl
def a56 (e:Ev) (ps:List E0) (m k:Int):Bool:=a6j e m k && decide (e.purities.length<=3) && decide (ps.length<=20)
theorem a9N (e:Ev) (ps:List E0) (m k:Int):a8 Tryz.prog 7 [evS e,G7 ps,a0j a7x a7x,a7 .i64 m,a7 .i64 k] [] (d9 (a56 e ps m k)) []:=by
 have sm:=b2J e m k
 have fz':=b73
 have m1:(e.purities.map w9.row).length=e.purities.length:=by simp
 have m2:(ps.map E0.row).length=ps.length:=by simp
 unfold a56
 cases hs:a6j e m k with
 |false=>
  rw [hs] at sm
  (refine ac Tryz.func7 ?_;(conv=>whnf);repeat ((first|refine b0x ?_|refine zy ?_);conv=>whnf))
  repeat' (first|refine zx ?_|refine qp sm ?_|refine qp fz' ?_|refine zd ?_ ?_<;>intro h<;>try omega|fail)<;>conv=>whnf
  all_goals first
   |omega
   |(exfalso;contradiction)
   |exact c9 rfl
 |true=>
  rw [hs] at sm
  rw [N9]
  by_cases h1:e.purities.length<=3<;>by_cases h2:ps.length<=20<;>
  ·simp only [h1,h2,decide_true,decide_false,a7M,Bool.and_false,N9,aB5]
   (refine ac Tryz.func7 ?_;(conv=>whnf);repeat ((first|refine b0x ?_|refine zy ?_);conv=>whnf))
   repeat' (first|refine zx ?_|refine qp sm ?_|refine qp fz' ?_|refine zd ?_ ?_<;>intro h<;>try omega|fail)<;>conv=>whnf
   all_goals first
    |omega
    |exact c9 rfl
abbrev aJ0 (l:List C2):Blk:={ mode:=.live,elem:=121,size:=3,rows:=toC (l.map C2.row),box:=false }
theorem aB6:a8 Tryz.prog 186 [.c (.t (.sl 3 .any []))] [] (.c (.own 0 0 0 true)) [aJ0 []]:=by
 refine M9 ?_ ?_
 ·(refine ac Tryz.func186 ?_;(conv=>whnf);repeat (refine zy ?_;conv=>whnf))
  repeat' (first|refine zx ?_|refine zd ?_ ?_<;>intro h<;>try omega|fail)<;>conv=>whnf
  exact ⟨[none],rfl,rfl,⟨⟨rfl,rfl⟩,trivial⟩,⟨rfl,rfl,rfl⟩⟩
 ·(refine ac Tryz.func186 ?_;(conv=>whnf);repeat (refine zy ?_;conv=>whnf))
  repeat' (first|refine zx ?_|refine E8 rfl (by decide) ?_|refine zd ?_ ?_<;>intro h<;>try omega|fail)<;>conv=>whnf
  exact ⟨[some 0],rfl,rfl,⟨b7 (rows:=([]:List C2).map C2.row) rfl rfl rfl rfl rfl,trivial⟩,⟨rfl,rfl,rfl,fun h=>h⟩⟩
theorem aW7 (l:List C2) (h1:l.length<=1000000):a8 Tryz.prog 186 [.c (.t (a1W l))] [] (.c (.own 0 0 l.length true)) [aJ0 l]:=by
 have m1:(l.map C2.row).length=l.length:=by simp
 by_cases h0:l.length=0
 ·have:l=[]:=S8.1 h0
  subst this
  exact aB6
 have hl:0<(l.map C2.row).length:=by omega
 (refine ac Tryz.func186 ?_;(conv=>whnf);repeat (refine zy ?_;conv=>whnf))
 repeat' (first|refine zx ?_|refine qp (toC,lbr,K5) ?_|refine qp (toC,lbr) ?_|refine ⟨hl,?_⟩|refine zz ?_|refine E8 rfl (by simp only [toC,lbr,K5];omega) ?_|refine o6 (B9 _) (by simp only [toC,lbr];omega) ?_|refine zd ?_ ?_<;>intro h<;>try omega|fail)<;>conv=>whnf
 all_goals first
  |omega
  |exact ⟨[some 0],rfl,rfl,⟨b7 (rows:=l.map C2.row) rfl rfl rfl rfl rfl,trivial⟩,⟨rfl,rfl,by simp [toC],fun h=>h⟩⟩
theorem ah1 (l:List C2) (h1:l.length<=1000000):a8 Tryz.prog 186 [.c (.t (a1W l))] [] (.c (.t (a1W l))) []:=
 L4 (aW7 l h1) (K6 rfl (fun h=>h) rfl rfl (by simp))
abbrev a1N (l:List j5):Blk:={ mode:=.live,elem:=45,size:=6,rows:=toC (l.map j5.row),box:=false }
theorem aP6:a8 Tryz.prog 187 [.c (.t (.sl 6 .any []))] [] (.c (.own 0 0 0 true)) [a1N []]:=by
 refine M9 ?_ ?_
 ·(refine ac Tryz.func187 ?_;(conv=>whnf);repeat (refine zy ?_;conv=>whnf))
  repeat' (first|refine zx ?_|refine zd ?_ ?_<;>intro h<;>try omega|fail)<;>conv=>whnf
  exact ⟨[none],rfl,rfl,⟨⟨rfl,rfl⟩,trivial⟩,⟨rfl,rfl,rfl⟩⟩
 ·(refine ac Tryz.func187 ?_;(conv=>whnf);repeat (refine zy ?_;conv=>whnf))
  repeat' (first|refine zx ?_|refine E8 rfl (by decide) ?_|refine zd ?_ ?_<;>intro h<;>try omega|fail)<;>conv=>whnf
  exact ⟨[some 0],rfl,rfl,⟨b7 (rows:=([]:List j5).map j5.row) rfl rfl rfl rfl rfl,trivial⟩,⟨rfl,rfl,rfl,fun h=>h⟩⟩
theorem al6 (l:List j5) (h1:l.length<=1000000):a8 Tryz.prog 187 [.c (.t (P8 l))] [] (.c (.own 0 0 l.length true)) [a1N l]:=by
 have m1:(l.map j5.row).length=l.length:=by simp
 by_cases h0:l.length=0
 ·have:l=[]:=S8.1 h0
  subst this
  exact aP6
 have hl:0<(l.map j5.row).length:=by omega
 (refine ac Tryz.func187 ?_;(conv=>whnf);repeat (refine zy ?_;conv=>whnf))
 repeat' (first|refine zx ?_|refine qp (toC,lbr,K5) ?_|refine qp (toC,lbr) ?_|refine ⟨hl,?_⟩|refine zz ?_|refine E8 rfl (by simp only [toC,lbr,K5];omega) ?_|refine o6 (B9 _) (by simp only [toC,lbr];omega) ?_|refine zd ?_ ?_<;>intro h<;>try omega|fail)<;>conv=>whnf
 all_goals first
  |omega
  |exact ⟨[some 0],rfl,rfl,⟨b7 (rows:=l.map j5.row) rfl rfl rfl rfl rfl,trivial⟩,⟨rfl,rfl,by simp [toC],fun h=>h⟩⟩
theorem b2o (l:List j5) (h1:l.length<=1000000):a8 Tryz.prog 187 [.c (.t (P8 l))] [] (.c (.t (P8 l))) []:=
 L4 (al6 l h1) (K6 rfl (fun h=>h) rfl rfl (by simp))
abbrev b0j (l:List D7):Blk:={ mode:=.live,elem:=211,size:=6,rows:=toC (l.map D7.row),box:=false }
theorem aT3:a8 Tryz.prog 188 [.c (.t (.sl 6 .any []))] [] (.c (.own 0 0 0 true)) [b0j []]:=by
 refine M9 ?_ ?_
 ·(refine ac Tryz.func188 ?_;(conv=>whnf);repeat (refine zy ?_;conv=>whnf))
  repeat' (first|refine zx ?_|refine zd ?_ ?_<;>intro h<;>try omega|fail)<;>conv=>whnf
  exact ⟨[none],rfl,rfl,⟨⟨rfl,rfl⟩,trivial⟩,⟨rfl,rfl,rfl⟩⟩
 ·(refine ac Tryz.func188 ?_;(conv=>whnf);repeat (refine zy ?_;conv=>whnf))
  repeat' (first|refine zx ?_|refine E8 rfl (by decide) ?_|refine zd ?_ ?_<;>intro h<;>try omega|fail)<;>conv=>whnf
  exact ⟨[some 0],rfl,rfl,⟨b7 (rows:=([]:List D7).map D7.row) rfl rfl rfl rfl rfl,trivial⟩,⟨rfl,rfl,rfl,fun h=>h⟩⟩
theorem b1B (l:List D7) (h1:l.length<=1000000):a8 Tryz.prog 188 [.c (.t (a0G l))] [] (.c (.own 0 0 l.length true)) [b0j l]:=by
 have m1:(l.map D7.row).length=l.length:=by simp
 by_cases h0:l.length=0
 ·have:l=[]:=S8.1 h0
  subst this
  exact aT3
 have hl:0<(l.map D7.row).length:=by omega
 (refine ac Tryz.func188 ?_;(conv=>whnf);repeat (refine zy ?_;conv=>whnf))
 repeat' (first|refine zx ?_|refine qp (toC,lbr,K5) ?_|refine qp (toC,lbr) ?_|refine ⟨hl,?_⟩|refine zz ?_|refine E8 rfl (by simp only [toC,lbr,K5];omega) ?_|refine o6 (B9 _) (by simp only [toC,lbr];omega) ?_|refine zd ?_ ?_<;>intro h<;>try omega|fail)<;>conv=>whnf
 all_goals first
  |omega
  |exact ⟨[some 0],rfl,rfl,⟨b7 (rows:=l.map D7.row) rfl rfl rfl rfl rfl,trivial⟩,⟨rfl,rfl,by simp [toC],fun h=>h⟩⟩
theorem aq1 (l:List D7) (h1:l.length<=1000000):a8 Tryz.prog 188 [.c (.t (a0G l))] [] (.c (.t (a0G l))) []:=
 L4 (b1B l h1) (K6 rfl (fun h=>h) rfl rfl (by simp))
abbrev ak6 (l:List s8):Blk:={ mode:=.live,elem:=307,size:=2,rows:=toC (l.map s8.row),box:=false }
theorem au9:a8 Tryz.prog 189 [.c (.t (.sl 2 .any []))] [] (.c (.own 0 0 0 true)) [ak6 []]:=by
 refine M9 ?_ ?_
 ·(refine ac Tryz.func189 ?_;(conv=>whnf);repeat (refine zy ?_;conv=>whnf))
  repeat' (first|refine zx ?_|refine zd ?_ ?_<;>intro h<;>try omega|fail)<;>conv=>whnf
  exact ⟨[none],rfl,rfl,⟨⟨rfl,rfl⟩,trivial⟩,⟨rfl,rfl,rfl⟩⟩
 ·(refine ac Tryz.func189 ?_;(conv=>whnf);repeat (refine zy ?_;conv=>whnf))
  repeat' (first|refine zx ?_|refine E8 rfl (by decide) ?_|refine zd ?_ ?_<;>intro h<;>try omega|fail)<;>conv=>whnf
  exact ⟨[some 0],rfl,rfl,⟨b7 (rows:=([]:List s8).map s8.row) rfl rfl rfl rfl rfl,trivial⟩,⟨rfl,rfl,rfl,fun h=>h⟩⟩
theorem aH3 (l:List s8) (h1:l.length<=1000000):a8 Tryz.prog 189 [.c (.t (M5 l))] [] (.c (.own 0 0 l.length true)) [ak6 l]:=by
 have m1:(l.map s8.row).length=l.length:=by simp
 by_cases h0:l.length=0
 ·have:l=[]:=S8.1 h0
  subst this
  exact au9
 have hl:0<(l.map s8.row).length:=by omega
 (refine ac Tryz.func189 ?_;(conv=>whnf);repeat (refine zy ?_;conv=>whnf))
 repeat' (first|refine zx ?_|refine qp (toC,lbr,K5) ?_|refine qp (toC,lbr) ?_|refine ⟨hl,?_⟩|refine zz ?_|refine E8 rfl (by simp only [toC,lbr,K5];omega) ?_|refine o6 (B9 _) (by simp only [toC,lbr];omega) ?_|refine zd ?_ ?_<;>intro h<;>try omega|fail)<;>conv=>whnf
 all_goals first
  |omega
  |exact ⟨[some 0],rfl,rfl,⟨b7 (rows:=l.map s8.row) rfl rfl rfl rfl rfl,trivial⟩,⟨rfl,rfl,by simp [toC],fun h=>h⟩⟩
theorem a8r (l:List s8) (h1:l.length<=1000000):a8 Tryz.prog 189 [.c (.t (M5 l))] [] (.c (.t (M5 l))) []:=
 L4 (aH3 l h1) (K6 rfl (fun h=>h) rfl rfl (by simp))
abbrev ap5 (l:List w9):Blk:={ mode:=.live,elem:=252,size:=4,rows:=toC (l.map w9.row),box:=false }
theorem aA9:a8 Tryz.prog 190 [.c (.t (.sl 4 .any []))] [] (.c (.own 0 0 0 true)) [ap5 []]:=by
 refine M9 ?_ ?_
 ·(refine ac Tryz.func190 ?_;(conv=>whnf);repeat (refine zy ?_;conv=>whnf))
  repeat' (first|refine zx ?_|refine zd ?_ ?_<;>intro h<;>try omega|fail)<;>conv=>whnf
  exact ⟨[none],rfl,rfl,⟨⟨rfl,rfl⟩,trivial⟩,⟨rfl,rfl,rfl⟩⟩
 ·(refine ac Tryz.func190 ?_;(conv=>whnf);repeat (refine zy ?_;conv=>whnf))
  repeat' (first|refine zx ?_|refine E8 rfl (by decide) ?_|refine zd ?_ ?_<;>intro h<;>try omega|fail)<;>conv=>whnf
  exact ⟨[some 0],rfl,rfl,⟨b7 (rows:=([]:List w9).map w9.row) rfl rfl rfl rfl rfl,trivial⟩,⟨rfl,rfl,rfl,fun h=>h⟩⟩
theorem aI4 (l:List w9) (h1:l.length<=1000000):a8 Tryz.prog 190 [.c (.t (R0 l))] [] (.c (.own 0 0 l.length true)) [ap5 l]:=by
 have m1:(l.map w9.row).length=l.length:=by simp
 by_cases h0:l.length=0
 ·have:l=[]:=S8.1 h0
  subst this
  exact aA9
 have hl:0<(l.map w9.row).length:=by omega
 (refine ac Tryz.func190 ?_;(conv=>whnf);repeat (refine zy ?_;conv=>whnf))
 repeat' (first|refine zx ?_|refine qp (toC,lbr,K5) ?_|refine qp (toC,lbr) ?_|refine ⟨hl,?_⟩|refine zz ?_|refine E8 rfl (by simp only [toC,lbr,K5];omega) ?_|refine o6 (B9 _) (by simp only [toC,lbr];omega) ?_|refine zd ?_ ?_<;>intro h<;>try omega|fail)<;>conv=>whnf
 all_goals first
  |omega
  |exact ⟨[some 0],rfl,rfl,⟨b7 (rows:=l.map w9.row) rfl rfl rfl rfl rfl,trivial⟩,⟨rfl,rfl,by simp [toC],fun h=>h⟩⟩
theorem a8m (l:List w9) (h1:l.length<=1000000):a8 Tryz.prog 190 [.c (.t (R0 l))] [] (.c (.t (R0 l))) []:=
 L4 (aI4 l h1) (K6 rfl (fun h=>h) rfl rfl (by simp))
abbrev b0N (l:List E0):Blk:={ mode:=.live,elem:=54,size:=2,rows:=toC (l.map E0.row),box:=false }
theorem aY3:a8 Tryz.prog 114 [.c (.t (.sl 2 .any []))] [] (.c (.own 0 0 0 true)) [b0N []]:=by
 refine M9 ?_ ?_
 ·(refine ac Tryz.func114 ?_;(conv=>whnf);repeat (refine zy ?_;conv=>whnf))
  repeat' (first|refine zx ?_|refine zd ?_ ?_<;>intro h<;>try omega|fail)<;>conv=>whnf
  exact ⟨[none],rfl,rfl,⟨⟨rfl,rfl⟩,trivial⟩,⟨rfl,rfl,rfl⟩⟩
 ·(refine ac Tryz.func114 ?_;(conv=>whnf);repeat (refine zy ?_;conv=>whnf))
  repeat' (first|refine zx ?_|refine E8 rfl (by decide) ?_|refine zd ?_ ?_<;>intro h<;>try omega|fail)<;>conv=>whnf
  exact ⟨[some 0],rfl,rfl,⟨b7 (rows:=([]:List E0).map E0.row) rfl rfl rfl rfl rfl,trivial⟩,⟨rfl,rfl,rfl,fun h=>h⟩⟩
theorem b2b (l:List E0) (h1:l.length<=1000000):a8 Tryz.prog 114 [.c (.t (S0 l))] [] (.c (.own 0 0 l.length true)) [b0N l]:=by
 have m1:(l.map E0.row).length=l.length:=by simp
 by_cases h0:l.length=0
 ·have:l=[]:=S8.1 h0
  subst this
  exact aY3
 have hl:0<(l.map E0.row).length:=by omega
 (refine ac Tryz.func114 ?_;(conv=>whnf);repeat (refine zy ?_;conv=>whnf))
 repeat' (first|refine zx ?_|refine qp (toC,lbr,K5) ?_|refine qp (toC,lbr) ?_|refine ⟨hl,?_⟩|refine zz ?_|refine E8 rfl (by simp only [toC,lbr,K5];omega) ?_|refine o6 (B9 _) (by simp only [toC,lbr];omega) ?_|refine zd ?_ ?_<;>intro h<;>try omega|fail)<;>conv=>whnf
 all_goals first
  |omega
  |exact ⟨[some 0],rfl,rfl,⟨b7 (rows:=l.map E0.row) rfl rfl rfl rfl rfl,trivial⟩,⟨rfl,rfl,by simp [toC],fun h=>h⟩⟩
theorem b27 (l:List E0) (h1:l.length<=1000000):a8 Tryz.prog 114 [.c (.t (S0 l))] [] (.c (.t (S0 l))) []:=
 L4 (b2b l h1) (K6 rfl (fun h=>h) rfl rfl (by simp))
theorem aW5:a8 Tryz.prog 314 [.c (.t (.sl 5 .any []))] [] (.c (.own 0 0 0 true)) [E3 []]:=by
 refine M9 ?_ ?_
 ·(refine ac Tryz.func314 ?_;(conv=>whnf);repeat (refine zy ?_;conv=>whnf))
  repeat' (first|refine zx ?_|refine zd ?_ ?_<;>intro h<;>try omega|fail)<;>conv=>whnf
  exact ⟨[none],rfl,rfl,⟨⟨rfl,rfl⟩,trivial⟩,⟨rfl,rfl,rfl⟩⟩
 ·(refine ac Tryz.func314 ?_;(conv=>whnf);repeat (refine zy ?_;conv=>whnf))
  repeat' (first|refine zx ?_|refine E8 rfl (by decide) ?_|refine zd ?_ ?_<;>intro h<;>try omega|fail)<;>conv=>whnf
  exact ⟨[some 0],rfl,rfl,⟨b7 (rows:=([]:List (Int × Rat)).map i8) rfl rfl rfl rfl rfl,trivial⟩,⟨rfl,rfl,rfl,fun h=>h⟩⟩
theorem b1F (l:List (Int × Rat)) (h1:l.length<=1000000):a8 Tryz.prog 314 [.c (.t (a2c l))] [] (.c (.own 0 0 l.length true)) [E3 l]:=by
 have m1:(l.map i8).length=l.length:=by simp
 by_cases h0:l.length=0
 ·have:l=[]:=S8.1 h0
  subst this
  exact aW5
 have hl:0<(l.map i8).length:=by omega
 (refine ac Tryz.func314 ?_;(conv=>whnf);repeat (refine zy ?_;conv=>whnf))
 repeat' (first|refine zx ?_|refine qp (toC,lbr,K5) ?_|refine qp (toC,lbr) ?_|refine ⟨hl,?_⟩|refine zz ?_|refine E8 rfl (by simp only [toC,lbr,K5];omega) ?_|refine o6 (B9 _) (by simp only [toC,lbr];omega) ?_|refine zd ?_ ?_<;>intro h<;>try omega|fail)<;>conv=>whnf
 all_goals first
  |omega
  |exact ⟨[some 0],rfl,rfl,⟨b7 (rows:=l.map i8) rfl rfl rfl rfl rfl,trivial⟩,⟨rfl,rfl,by simp [toC],fun h=>h⟩⟩
theorem b2f:a8 Tryz.prog 164 [.c (.t (.sl 1 .any []))] [] (.c (.own 0 0 0 true)) [k9 []]:=by
 refine M9 ?_ ?_
 ·(refine ac Tryz.func164 ?_;(conv=>whnf);repeat (refine zy ?_;conv=>whnf))
  repeat' (first|refine zx ?_|refine zd ?_ ?_<;>intro h<;>try omega|fail)<;>conv=>whnf
  exact ⟨[none],rfl,rfl,⟨⟨rfl,rfl⟩,trivial⟩,⟨rfl,rfl,rfl⟩⟩
 ·(refine ac Tryz.func164 ?_;(conv=>whnf);repeat (refine zy ?_;conv=>whnf))
  repeat' (first|refine zx ?_|refine E8 rfl (by decide) ?_|refine zd ?_ ?_<;>intro h<;>try omega|fail)<;>conv=>whnf
  exact ⟨[some 0],rfl,rfl,⟨b7 (rows:=([]:List Int).map d7) rfl rfl rfl rfl rfl,trivial⟩,⟨rfl,rfl,rfl,fun h=>h⟩⟩
theorem aN2 (l:List Int) (h1:l.length<=1000000):a8 Tryz.prog 164 [.c (.t (M4 l))] [] (.c (.own 0 0 l.length true)) [k9 l]:=by
 have m1:(l.map d7).length=l.length:=by simp
 by_cases h0:l.length=0
 ·have:l=[]:=S8.1 h0
  subst this
  exact b2f
 have hl:0<(l.map d7).length:=by omega
 (refine ac Tryz.func164 ?_;(conv=>whnf);repeat (refine zy ?_;conv=>whnf))
 repeat' (first|refine zx ?_|refine qp (toC,lbr,K5) ?_|refine qp (toC,lbr) ?_|refine ⟨hl,?_⟩|refine zz ?_|refine E8 rfl (by simp only [toC,lbr,K5];omega) ?_|refine o6 (B9 _) (by simp only [toC,lbr];omega) ?_|refine zd ?_ ?_<;>intro h<;>try omega|fail)<;>conv=>whnf
 all_goals first
  |omega
  |exact ⟨[some 0],rfl,rfl,⟨b7 (rows:=l.map d7) rfl rfl rfl rfl rfl,trivial⟩,⟨rfl,rfl,by simp [toC],fun h=>h⟩⟩
theorem b4n (l:List Int) (h1:l.length<=1000000):a8 Tryz.prog 164 [.c (.t (M4 l))] [] (.c (.t (M4 l))) []:=
 L4 (aN2 l h1) (K6 rfl (fun h=>h) rfl rfl (by simp))
theorem a6e {l:List (Int × Rat)} {n m:Nat} {t:Int × Rat} {K:List C->Prop} (e:n=m) (h:l[m]? =some t) (k:K ((i8 t).map C.t)):∃row,(toC (l.map i8))[n]? =some row∧K row:=by
 subst e;exact ⟨_,by simp [toC,h],k⟩
open Go.RowKit Go.Shelf Go.Lib Go.Sort
structure b9U (b:Nat) (w w':World):Prop where
 os:w'.os=w.os
 tape:w'.tape=w.tape
 output:w'.output=w.output
 size:w.heap.size<=w'.heap.size
 block:∀k,k<w.heap.size->k≠b->w'.heap[k]? =w.heap[k]?
theorem a6X {α:Type} [Inhabited α] (enc:α->Value) (w:World) (blk off n:Nat) (d:Array α) (os:Array Obj):b9U blk w (grow (putRow enc (Sort.ahead w n) blk off d) os) where
 os:=rfl
 tape:=rfl
 output:=rfl
 size:=by show _<=((w.heap.modify blk _)++os).size;simp
 block:=fun k hk hb=>by
  show ((w.heap.modify blk _)++os)[k]? =_
  rw [Array.getElem?_append_left (by simpa using hk),Array.getElem?_modify,if_neg (fun e=>hb e.symm)]
theorem ae9 {α:Type} [Inhabited α] (enc:α->Value) {w:World} {blk:Nat} (off n:Nat) (d:Array α) (os:Array Obj) {cur:Array Value} {e:TypeId} {fr:Nat × Nat} (h:w.heap[blk]? =some (.cells cur e fr)):
 (grow (putRow enc (Sort.ahead w n) blk off d) os).heap[blk]? =some (.cells (putCells enc off d cur) e fr):=by
 have hlt:=A9 h
 show ((w.heap.modify blk _)++os)[blk]? =_
 rw [Array.getElem?_append_left (by simpa using hlt),Array.getElem?_modify,if_pos rfl,h];rfl
theorem a7I {α:Type} [Inhabited α] (enc:α->Value) (off:Nat) (d:Array α) (cur:Array Value):(putCells enc off d cur).size=cur.size:=by simp [putCells]
theorem ai2 {α:Type} [Inhabited α] (enc:α->Value) {off:Nat} {d:Array α} {cur:Array Value} {j:Nat} (h1:j<d.size) (h2:off+j<cur.size):(putCells enc off d cur)[off+j]? =some (enc d[j]!):=by
 unfold putCells
 rw [Array.getElem?_mapIdx,Array.getElem?_eq_getElem h2]
 simp only [V5]
 rw [if_pos ⟨Nat.le_add_right _ _,by omega⟩,Nat.add_sub_cancel_left]
theorem a5I {w w':World} {ι:Io} {M:Ms} {k k':Blk} {b cap size:Nat} (hH:j4 w ι M [k]) (hMB:MB w M) (hF:a0R ι 1) (hι:ι 0=some (.blk b cap size)) (hm:k.mode=.live) (hm':k'.mode=.live) (hB:b9U b w w')
 (hk:E7 w' ι M k' (.blk b cap size)) {s:S} {v:Value} (hv:RS w' ι M s v):E1 w ι M [k] s [k'] v w':=by
 have lv:∀k:Blk,k.mode=.live->a1Z ι [k] b:=fun k hk=>⟨0,k,cap,size,rfl,hk,hι⟩
 have lo:∀(k:Blk) x,a1Z ι [k] x->x=b:=by
  rintro k x ⟨id,k2,c2,s2,h1,h2,h3⟩
  rcases id with _|id
  ·rw [hι] at h3;injection h3 with h3;injection h3 with h3;exact h3.symm
  ·simp at h1
 have hMb:M b:=hH.liv 0 k rfl hm b cap size hι
 refine ⟨ι,M,hv,⟨?_,?_,?_,?_,?_⟩,fun x hx=>a27 (hMB x hx) hB.size,hF,hB.os,hB.tape,hB.output,hB.size,fun x hx hl=>hB.block x hx (fun e=>hl (by rw [e];exact lv k hm)),fun _ _=>rfl,fun x h=>.inl h,fun x h=>.inl h,fun x h=>by
  have e:=lo _ _ h
  subst e;exact .inl (lv k hm),lbQ _⟩
 ·intro id k2 h1 h2 l hl
  rcases id with _|id
  ·injection h1 with h1;subst h1
   rw [hι] at hl;injection hl with hl;subst hl;exact hk
  ·simp at h1
 ·intro id k2 h1 h2 x c2 s2 h3
  rcases id with _|id
  ·rw [hι] at h3;injection h3 with h3;injection h3 with h3;subst h3;exact hMb
  ·simp at h1
 ·intro id k2 h1 h2
  rcases id with _|id
  ·injection h1 with h1;subst h1;rw [hm'] at h2;cases h2
  ·simp at h1
 ·intro id id' k2 k3 h1 h2 _ _ x c s c' s' h3 h4
  rcases id with _|id<;>rcases id' with _|id'
  ·rfl
  ·simp at h2
  ·simp at h1
  ·simp at h1
 ·intro id id' k2 k3 h1 h2 h3
  rcases id with _|id
  ·injection h1 with h1;subst h1;rw [hm'] at h3;cases h3
  ·simp at h1
def y8 (l:List Int):List Int:=l.mergeSort fun a b=>decide (a<=b)
def q9 (l:List Int):List (Int × Rat):=l.map fun v=>(v,((1:Int):Rat))
theorem a0e (l:List Int):(y8 l).Perm l:=List.mergeSort_perm l _
theorem V7 (l:List Int):(y8 l).length=l.length:=(a0e l).length_eq
theorem b2l {l:List Int} {x:Int}:x ∈ y8 l↔x ∈ l:=(a0e l).mem_iff
theorem a0W (l:List Int):(y8 l).Pairwise (·<=·):=by
 have:=List.pairwise_mergeSort (le:=fun a b:Int=>decide (a<=b)) (fun a b c h1 h2=>by simp only [lbI] at *;omega) (fun a b=>by simp only [lbN,lbI];omega) l
 exact this.imp fun h=>lbL h
open Go.RowKit Go.Shelf Go.Lib Go.Sort
def a8P (cur:Array Value) (n:Nat) (i:Nat):List Value:=if i<n then [cur[i*5]!,cur[i*5+1]!,cur[i*5+2]!,cur[i*5+3]!,cur[i*5+4]!] else [.int .i64 0,.int .i64 0,.slice none 0 0,.int .i64 0,.slice none 0 0]
def a5G (vs:List Int) (i:Nat):Int:=vs.getD i 0
theorem b6I (f:Nat->Int):SWO (ltOf fun x y:Nat=>Lib.compareInt (f x) (f y)):=by
 have e:∀x y,ltOf (fun x y:Nat=>Lib.compareInt (f x) (f y)) x y=decide (f x<f y):=fun x y=>by
  unfold ltOf Lib.compareInt
  by_cases h1:f x<f y
  ·simp [h1]
  ·by_cases h2:f y<f x<;>simp [h1,h2]
 exact ⟨fun x=>by rw [e];simp,fun x y z h1 h2=>by rw [e] at *;simp at *;omega,fun x y z h1 h2=>by rw [e] at *;simp at *;omega⟩
def b4w (P:Program) (g:FuncId):Prop:=∀(x y:Int) (a1 a2 a3 a4 b1 b2 b3 b4:Value) (W:World),
 Calls P g #[.agg #[.int .i64 x,a1,a2,a3,a4],.agg #[.int .i64 y,b1,b2,b3,b4]] W fun e w'=>e=.returned (.int .i64 (Lib.compareInt x y))∧∃q os',w'=grow (W.drewN q) os'
theorem aS1 {n:Nat} {d':Array Nat} (h:PermIn 0 (Array.range n).size (Array.range n) d'):d'.size=n∧d'.toList.Perm (List.range n):=by
 obtain ⟨h1,_,h3⟩:=h
 simp only [a5S] at h1 h3
 refine ⟨h1,?_⟩
 have e1:d'.extract 0 n=d':=by rw [← h1];exact Array.extract_size
 have e2:(Array.range n).extract 0 n=Array.range n:=by
  have:(Array.range n).extract 0 (Array.range n).size=Array.range n:=Array.extract_size
  rwa [a5S] at this
 rw [e1,e2,Array.toList_range] at h3
 exact h3
theorem b3U {vs:List Int} {d':Array Nat} (hp:d'.toList.Perm (List.range vs.length)) (hs:∀i j,i<j->j<d'.size->¬a5G vs d'[j]!<a5G vs d'[i]!):d'.toList.map (a5G vs)=y8 vs:=by
 have e0:(List.range vs.length).map (a5G vs)=vs:=by
  refine Z4 fun i=>?_
  rw [lba]
  by_cases h:i<vs.length
  ·rw [lbh h,lbf h]
   show some (vs.getD i 0)=_
   rw [lbl,lbf h];rfl
  ·rw [lbd (by simpa using h),lbd (by simpa using h)];rfl
 have h1:(d'.toList.map (a5G vs)).Perm vs:=by
  have:=hp.map (a5G vs)
  rwa [e0] at this
 refine List.Perm.eq_of_pairwise (le:=(·<=·)) (fun a b _ _ h1 h2=>by omega) ?_ (a0W vs) (h1.trans (a0e vs).symm)
 rw [af8]
 intro i j hi hj hij
 simp only [lbr,a1A] at hi hj
 have:=hs i j hij hj
 rw [getElem!_pos d' i hi,getElem!_pos d' j hj] at this
 simp only [av0,Array.getElem_toList]
 omega
theorem aF2 {P:Program} {ρ:Ren} (L:SlLaysF0.n6 P ρ) (aE:∀w,(isAgg (ρ.t 24)).run P w=.ok true w) (zE:∀w,(Go.sizeOf (ρ.t 24)).run P w=.ok 5 w) (en:a7S P (ρ.f 6)) {g:FuncId} (eg:∀args w,(callFunc g args).run P w=.ok (.enter g args) w) (hc:b4w P g)
 (vs:List Int) (hl:vs.length<=1000):a8 P (ρ.f 6) [.c (.own 0 0 vs.length true),.c (.t (.fn (Fn.func g) []))] [E3 (q9 vs)] (.tup []) [E3 (q9 (y8 vs))]:=by
 refine ⟨en,fun w ι M vals hlen hv hH hMB hF=>?_⟩
 obtain ⟨x,y,rfl⟩:∃x y,vals=[x,y]:=by
  match vals,hlen with
  |[x,y],_=>exact ⟨x,y,rfl⟩
 have hx:=hv 0 _ rfl
 have hy:=hv 1 _ rfl
 simp only [lb5,List.getD_cons_succ] at hx hy
 obtain ⟨rfl⟩:y=.func (.func g) #[] #[]:=by
  cases hy with
  |c hy=>cases hy with
   |t hy=>cases hy with
    |fn vs hl _=>
     have:vs=[]:=lbF hl
     subst this;rfl
 have m1:((q9 vs).map i8).length=vs.length:=by simp [q9]
 have hb0:∀l0,ι 0=some l0->E7 w ι M (E3 (q9 vs)) l0:=fun l0 h=>hH.blk 0 _ rfl (by intro h;cases h) _ h
 generalize hn:vs.length=n at hx
 cases hx with
 |c hx=>
 cases hx with
 |nil hnil=>
  have hvs:vs=[]:=by
   have h1:(E3 (q9 vs)).rows=[]:=hb0 _ hnil
   cases vs with
   |nil=>rfl
   |cons a r=>simp [toC,q9] at h1
  subst hvs
  clear hn
  refine (AnyF.slices_SortFunc_none L _ _ _ w).mono ?_
  rintro e w' ⟨rfl,rfl⟩
  have e0:y8 []=[]:=by simp [y8]
  rw [e0]
  exact ⟨_,rfl,ι,M,.tup [] rfl (fun j s h=>by simp at h),hH,hMB,hF,rfl,rfl,rfl,lbQ _,fun _ _ _=>rfl,fun _ _=>rfl,fun _ h=>.inl h,fun _ h=>.inl h,fun _ h=>.inl h,lbQ _⟩
 |@own _ _ _ _ b cap size A cap' h0 h1 h2 h3 h4 h5=>
  subst hn
  obtain ⟨q1,q2,q3,q4,q5,cur,q6,q7,q8⟩:=hb0 _ h0
  have hs5:size=5:=q1.symm
  subst hs5
  obtain ⟨_,hA,hcap⟩:=h5 rfl
  subst hA
  have hle:vs.length<=cap:=by omega
  have hblk:=A9 q6
  have hsz:vs.length*5<=cur.size:=by rw [q7];exact lbT 5 hle
  have row:∀i,i<vs.length->(toC ((q9 vs).map i8))[i]? =some ((i8 (vs.getD i 0,((1:Int):Rat))).map C.t):=fun i hi=>by
   simp [toC,q9,hi]
  have cell:∀i j c,i<vs.length->(i8 (vs.getD i 0,((1:Int):Rat)))[j]? =some c->RC w ι M (.t c) cur[i*5+j]!:=fun i j c hi hj=>by
   obtain ⟨u,hu,hr⟩:=q8 i j (.t c) (by unfold at2;rw [row i hi];simp only [Option.bind_some,lba,hj];rfl)
   have:=(lb4.1 hu).1
   rw [getElem!_pos cur _ this]
   rw [Array.getElem?_eq_getElem this] at hu
   injection hu with hu;rw [hu];exact hr
  have k0:∀i,i<vs.length->cur[i*5]! =.int .i64 (a5G vs i):=fun i hi=>by
   have h:RC w ι M (.t (ti (a5G vs i))) cur[i*5]!:=cell i 0 _ hi rfl
   generalize cur[i*5]! =u at h ⊢
   cases h with
   |t h=>cases h;rfl
  have one:∀x,∀v ∈ a8P cur vs.length x,v.oneCell'=true:=fun x v hv=>by
   unfold a8P at hv
   split at hv
   ·rename_i hx
    simp only [lbA,lb8,or_false] at hv
    rcases hv with rfl|rfl|rfl|rfl|rfl
    ·exact (cell x 0 _ hx rfl).one
    ·exact (cell x 1 _ hx rfl).one
    ·exact (cell x 2 _ hx rfl).one
    ·exact (cell x 3 _ hx rfl).one
    ·exact (cell x 4 _ hx rfl).one
   ·simp only [lbA,lb8,or_false] at hv
    rcases hv with rfl|rfl|rfl|rfl|rfl<;>rfl
  have enc0:∀x,∃a1 a2 a3 a4,(a8P cur vs.length x).toArray=#[.int .i64 (a5G vs x),a1,a2,a3,a4]:=fun x=>by
   unfold a8P
   split
   ·rename_i hx;exact ⟨_,_,_,_,by rw [k0 x hx]⟩
   ·rename_i hx
    have:a5G vs x=0:=by unfold a5G;rw [lbl,lbd (by omega)];rfl
    exact ⟨_,_,_,_,by rw [this]⟩
  have hold:HoldsK (a8P cur vs.length) 5 w b 0 (Array.range vs.length):=by
   intro j hj
   rw [size_flatK,a5S] at hj
   have hj5:j<cur.size:=by omega
   have e1:(flatK (a8P cur vs.length) 5 (Array.range vs.length))[j]! =cur[j]!:=by
    rw [get_flatK _ _ _ _ (by rw [a5S];exact hj)]
    have hd:j / 5<vs.length:=by omega
    have e2:(Array.range vs.length)[j / 5]! =j / 5:=by rw [getElem!_pos _ _ (by simpa using hd)];simp
    rw [e2]
    unfold a8P
    rw [if_pos hd]
    have hm:j % 5<5:=a5y _ (by decide)
    have e3:j / 5*5+j % 5=j:=by omega
    clear e2
    generalize j / 5=q at hd e3 ⊢
    generalize j % 5=m at hm e3 ⊢
    subst e3
    match m,hm with
    |0,_=>rfl
    |1,_=>rfl
    |2,_=>rfl
    |3,_=>rfl
    |4,_=>rfl
   rw [e1]
   refine ⟨?_,?_⟩
   ·show w.cell? ⟨b,0+j,none⟩=_
    simp [World.cell?,q6,hj5]
   ·simp [World.frozen?,q6]
  have cmp:CmpLays P g #[] (a8P cur vs.length) 5 (fun x y=>Lib.compareInt (a5G vs x) (a5G vs y)) b 0 (Array.range vs.length).size w:=fun m os dk _ x y=>by
   obtain ⟨a1,a2,a3,a4,ea⟩:=enc0 x
   obtain ⟨b1,b2,b3,b4,eb⟩:=enc0 y
   rw [ea,eb]
   exact hc _ _ _ _ _ _ _ _ _ _ _
  have key:=AnyQ.slices_SortFunc L 5 aE zE (a8P cur vs.length) (fun x=>by unfold a8P;split<;>rfl) one (fun x y=>Lib.compareInt (a5G vs x) (a5G vs y)) (b6I _) g #[] b 0 cap' (Array.range vs.length) w eg cmp hold hblk (by rw [a5S];omega)
  rw [a5S] at key
  refine key.mono ?_
  rintro e w' ⟨rfl,d',n,os,hp,hs,rfl⟩
  obtain ⟨d1,d2⟩:=aS1 (by rw [a5S];exact hp)
  have d3:=b3U d2 fun i j hij hj hlt=>by
   have:=hs i j (B9 _) hij (by omega)
   simp [ltOf,Lib.compareInt,hlt] at this
  have hin:∀i,i<vs.length->d'[i]!<vs.length:=fun i hi=>by
   have hi':i<d'.size:=by omega
   have:d'[i]! ∈ d'.toList:=by rw [getElem!_pos d' i hi'];simp
   have:=d2.mem_iff.1 this
   simpa using this
  refine ⟨_,rfl,a5I hH hMB hF h0 rfl rfl (a6X id w b 0 n _ os) ?_ (.tup [] rfl (fun j s h=>by simp at h))⟩
  have ml:((q9 (y8 vs)).map i8).length=vs.length:=by simp [q9,V7]
  refine ⟨rfl,by decide,?_,q4,?_,_,ae9 id 0 n _ os q6,by rw [a7I,q7],?_⟩
  ·show (toC _).length<=cap;simp [toC,q9,V7];omega
  ·intro r hr
   simp only [toC,q9,Z3,lbx,Function.comp_def] at hr
   obtain ⟨x,_,rfl⟩:=hr
   rfl
  ·intro i j c hij
   have hi:i<vs.length:=by
    have h9:i<(toC ((q9 (y8 vs)).map i8)).length:=by
     unfold at2 at hij
     cases hq:(toC ((q9 (y8 vs)).map i8))[i]? with
     |none=>rw [show (E3 (q9 (y8 vs))).rows=toC ((q9 (y8 vs)).map i8) from rfl,hq] at hij;cases hij
     |some _=>exact (lbe.1 hq).1
    simpa [toC,q9,V7] using h9
   have hid:i<d'.size:=by omega
   have hk:(y8 vs)[i]? =some (vs.getD d'[i]! 0):=by
    rw [← d3,lba,Array.getElem?_toList,Array.getElem?_eq_getElem hid]
    rw [getElem!_pos d' i hid];rfl
   have hrow:(toC ((q9 (y8 vs)).map i8))[i]? =some ((i8 (vs.getD d'[i]! 0,((1:Int):Rat))).map C.t):=by
    simp only [toC,q9,Z3,lba,hk];rfl
   unfold at2 at hij
   rw [show (E3 (q9 (y8 vs))).rows=toC ((q9 (y8 vs)).map i8) from rfl,hrow] at hij
   simp only [Option.bind_some,lba] at hij
   obtain ⟨t,ht,rfl⟩:=a2V.1 hij
   have hj5:j<5:=(lbe.1 ht).1
   have hcl:=cell _ j t (hin i hi) ht
   have hbd:i*5+j<vs.length*5:=by omega
   refine ⟨cur[d'[i]!*5+j]!,?_,?_⟩
   ·have h7:=ai2 id (off:=0) (d:=flatK (a8P cur vs.length) 5 d') (cur:=cur) (j:=i*5+j) (by rw [size_flatK,d1];exact hbd) (by omega)
    rw [D8] at h7
    rw [h7,get_flatK _ _ _ _ (by rw [d1];exact hbd)]
    have e4:(i*5+j) / 5=i:=by omega
    have e5:(i*5+j) % 5=j:=by omega
    rw [e4,e5]
    unfold a8P
    rw [if_pos (hin i hi)]
    match j,hj5 with
    |0,_=>rfl
    |1,_=>rfl
    |2,_=>rfl
    |3,_=>rfl
    |4,_=>rfl
   ·cases hcl with
    |t hcl=>exact .t (hcl.keep (fun x hx hM=>(a6X id w b 0 n _ os).block x hx (fun e=>hM (by rw [e];exact hH.liv 0 _ rfl rfl b cap 5 h0))) (fun x h=>.inl h))
open Go.Shelf Go.Proofs
def a2h:Go.Shelf.Ren:=⟨fun|6=>127|15=>206|14=>205|28=>258|29=>259|20=>250|21=>251|22=>252|23=>253|24=>254|25=>255|26=>256|27=>257|46=>297|47=>298|48=>299|49=>300|50=>301|57=>317|n=>n,fun|22=>57|24=>129|25=>234|3=>3|39=>236|0=>0|53=>378|55=>235|4=>4|46=>372|45=>371|50=>328|5=>5|9=>9|66=>417|70=>421|76=>438|77=>316|n=>n,fun|n=>n⟩
theorem b28:Go.Proofs.SlLaysF0.n6 Tryz.prog a2h:={
 mixed:=by kernel_rfl
 f6:=⟨Tryz.f127.name,by decide,Tryz.func127.trans (congrArg some (by kernel_rfl))⟩
 f14:=⟨Tryz.f205.name,by decide,Tryz.func205.trans (congrArg some (by kernel_rfl))⟩
 f15:=Tryz.func206.trans (congrArg some (by kernel_rfl))
 f20:=⟨Tryz.f250.name,by decide,Tryz.func250.trans (congrArg some (by kernel_rfl))⟩
 f21:=⟨Tryz.f251.name,by decide,Tryz.func251.trans (congrArg some (by kernel_rfl))⟩
 f22:=⟨Tryz.f252.name,by decide,Tryz.func252.trans (congrArg some (by kernel_rfl))⟩
 f23:=⟨Tryz.f253.name,by decide,Tryz.func253.trans (congrArg some (by kernel_rfl))⟩
 f24:=⟨Tryz.f254.name,by decide,Tryz.func254.trans (congrArg some (by kernel_rfl))⟩
 f25:=⟨Tryz.f255.name,by decide,Tryz.func255.trans (congrArg some (by kernel_rfl))⟩
 f26:=⟨Tryz.f256.name,by decide,Tryz.func256.trans (congrArg some (by kernel_rfl))⟩
 f27:=⟨Tryz.f257.name,by decide,Tryz.func257.trans (congrArg some (by kernel_rfl))⟩
 f28:=Tryz.func258.trans (congrArg some (by kernel_rfl))
 f29:=Tryz.func259.trans (congrArg some (by kernel_rfl))
 f46:=⟨Tryz.f297.name,by decide,Tryz.func297.trans (congrArg some (by kernel_rfl))⟩
 f47:=Tryz.func298.trans (congrArg some (by kernel_rfl))
 f48:=Tryz.func299.trans (congrArg some (by kernel_rfl))
 f49:=⟨Tryz.f300.name,by decide,Tryz.func300.trans (congrArg some (by kernel_rfl))⟩
 f50:=⟨Tryz.f301.name,by decide,Tryz.func301.trans (congrArg some (by kernel_rfl))⟩
 f57:=⟨Tryz.f317.name,by decide,Tryz.func317.trans (congrArg some (by kernel_rfl))⟩
 t0:=Tryz.underlying0
 a0:=Tryz.isAgg0
 z0:=Tryz.sizeOf0
 v0:=Tryz.zeroValue0
 t3:=Tryz.underlying3
 a3:=Tryz.isAgg3
 z3:=Tryz.sizeOf3
 v3:=Tryz.zeroValue3
 t4:=Tryz.underlying4
 a4:=Tryz.isAgg4
 z4:=Tryz.sizeOf4
 v4:=Tryz.zeroValue4
 t5:=Tryz.underlying5
 a5:=Tryz.isAgg5
 z5:=Tryz.sizeOf5
 v5:=Tryz.zeroValue5
 t9:=Tryz.underlying9
 a9:=Tryz.isAgg9
 z9:=Tryz.sizeOf9
 v9:=Tryz.zeroValue9
 t22:=Tryz.underlying57
 a22:=Tryz.isAgg57
 z22:=Tryz.sizeOf57
 v22:=Tryz.zeroValue57
 t25:=Tryz.underlying234
 a25:=Tryz.isAgg234
 z25:=Tryz.sizeOf234
 v25:=Tryz.zeroValue234
 t39:=Tryz.underlying236
 a39:=Tryz.isAgg236
 z39:=Tryz.sizeOf236
 v39:=Tryz.zeroValue236
 t45:=Tryz.underlying371
 a45:=Tryz.isAgg371
 z45:=Tryz.sizeOf371
 v45:=Tryz.zeroValue371
 t46:=Tryz.underlying372
 a46:=Tryz.isAgg372
 z46:=Tryz.sizeOf372
 v46:=Tryz.zeroValue372
 t50:=Tryz.underlying328
 a50:=Tryz.isAgg328
 z50:=Tryz.sizeOf328
 v50:=Tryz.zeroValue328
 t53:=Tryz.underlying378
 a53:=Tryz.isAgg378
 z53:=Tryz.sizeOf378
 v53:=Tryz.zeroValue378
 t55:=Tryz.underlying235
 a55:=Tryz.isAgg235
 z55:=Tryz.sizeOf235
 v55:=Tryz.zeroValue235
 t66:=Tryz.underlying417
 a66:=Tryz.isAgg417
 z66:=Tryz.sizeOf417
 v66:=Tryz.zeroValue417
 t70:=Tryz.underlying421
 a70:=Tryz.isAgg421
 z70:=Tryz.sizeOf421
 v70:=Tryz.zeroValue421
 t76:=Tryz.underlying438
 a76:=Tryz.isAgg438
 z76:=Tryz.sizeOf438
 v76:=Tryz.zeroValue438
 t77:=Tryz.underlying316
 a77:=Tryz.isAgg316
 z77:=Tryz.sizeOf316
 v77:=Tryz.zeroValue316 }
def ai3:Go.Shelf.Ren:=⟨fun|189=>179|125=>206|257=>237|128=>258|129=>259|294=>282|295=>283|296=>284|297=>285|298=>286|299=>287|216=>288|300=>289|301=>290|328=>311|329=>298|330=>299|331=>312|332=>313|215=>207|343=>324|n=>n,fun|28=>31|3=>3|46=>236|0=>0|51=>378|53=>235|4=>4|183=>372|182=>371|131=>328|5=>5|9=>9|218=>417|222=>421|228=>438|229=>316|n=>n,fun|n=>n⟩
theorem a81:Go.Proofs.Lays.n189 Tryz.prog ai3:={
 mixed:=by kernel_rfl
 f125:=Tryz.func206.trans (congrArg some (by kernel_rfl))
 f128:=Tryz.func258.trans (congrArg some (by kernel_rfl))
 f129:=Tryz.func259.trans (congrArg some (by kernel_rfl))
 f189:=Tryz.func179.trans (congrArg some (by kernel_rfl))
 f215:=Tryz.func207.trans (congrArg some (by kernel_rfl))
 f216:=Tryz.func288.trans (congrArg some (by kernel_rfl))
 f257:=Tryz.func237.trans (congrArg some (by kernel_rfl))
 f294:=Tryz.func282.trans (congrArg some (by kernel_rfl))
 f295:=Tryz.func283.trans (congrArg some (by kernel_rfl))
 f296:=Tryz.func284.trans (congrArg some (by kernel_rfl))
 f297:=Tryz.func285.trans (congrArg some (by kernel_rfl))
 f298:=Tryz.func286.trans (congrArg some (by kernel_rfl))
 f299:=Tryz.func287.trans (congrArg some (by kernel_rfl))
 f300:=Tryz.func289.trans (congrArg some (by kernel_rfl))
 f301:=Tryz.func290.trans (congrArg some (by kernel_rfl))
 f328:=Tryz.func311.trans (congrArg some (by kernel_rfl))
 f329:=Tryz.func298.trans (congrArg some (by kernel_rfl))
 f330:=Tryz.func299.trans (congrArg some (by kernel_rfl))
 f331:=Tryz.func312.trans (congrArg some (by kernel_rfl))
 f332:=Tryz.func313.trans (congrArg some (by kernel_rfl))
 f343:=Tryz.func324.trans (congrArg some (by kernel_rfl))
 t0:=Tryz.underlying0
 a0:=Tryz.isAgg0
 z0:=Tryz.sizeOf0
 v0:=Tryz.zeroValue0
 t3:=Tryz.underlying3
 a3:=Tryz.isAgg3
 z3:=Tryz.sizeOf3
 v3:=Tryz.zeroValue3
 t4:=Tryz.underlying4
 a4:=Tryz.isAgg4
 z4:=Tryz.sizeOf4
 v4:=Tryz.zeroValue4
 t5:=Tryz.underlying5
 a5:=Tryz.isAgg5
 z5:=Tryz.sizeOf5
 v5:=Tryz.zeroValue5
 t9:=Tryz.underlying9
 a9:=Tryz.isAgg9
 z9:=Tryz.sizeOf9
 v9:=Tryz.zeroValue9
 t28:=Tryz.underlying31
 a28:=Tryz.isAgg31
 z28:=Tryz.sizeOf31
 v28:=Tryz.zeroValue31
 t46:=Tryz.underlying236
 a46:=Tryz.isAgg236
 z46:=Tryz.sizeOf236
 v46:=Tryz.zeroValue236
 t51:=Tryz.underlying378
 a51:=Tryz.isAgg378
 z51:=Tryz.sizeOf378
 v51:=Tryz.zeroValue378
 t53:=Tryz.underlying235
 a53:=Tryz.isAgg235
 z53:=Tryz.sizeOf235
 v53:=Tryz.zeroValue235
 t131:=Tryz.underlying328
 a131:=Tryz.isAgg328
 z131:=Tryz.sizeOf328
 v131:=Tryz.zeroValue328
 t182:=Tryz.underlying371
 a182:=Tryz.isAgg371
 z182:=Tryz.sizeOf371
 v182:=Tryz.zeroValue371
 t183:=Tryz.underlying372
 a183:=Tryz.isAgg372
 z183:=Tryz.sizeOf372
 v183:=Tryz.zeroValue372
 t218:=Tryz.underlying417
 a218:=Tryz.isAgg417
 z218:=Tryz.sizeOf417
 v218:=Tryz.zeroValue417
 t222:=Tryz.underlying421
 a222:=Tryz.isAgg421
 z222:=Tryz.sizeOf421
 v222:=Tryz.zeroValue421
 t228:=Tryz.underlying438
 a228:=Tryz.isAgg438
 z228:=Tryz.sizeOf438
 v228:=Tryz.zeroValue438
 t229:=Tryz.underlying316
 a229:=Tryz.isAgg316
 z229:=Tryz.sizeOf316
 v229:=Tryz.zeroValue316 }
def a8K:Go.Shelf.Ren:=⟨fun|20=>180|n=>n,fun|22=>31|3=>3|4=>4|0=>0|n=>n,fun|n=>n⟩
theorem aF6:Go.Proofs.Lays2.n20 Tryz.prog a8K:={
 mixed:=by kernel_rfl
 f20:=Tryz.func180.trans (congrArg some (by kernel_rfl))
 t0:=Tryz.underlying0
 a0:=Tryz.isAgg0
 z0:=Tryz.sizeOf0
 v0:=Tryz.zeroValue0
 t3:=Tryz.underlying3
 a3:=Tryz.isAgg3
 z3:=Tryz.sizeOf3
 v3:=Tryz.zeroValue3
 t4:=Tryz.underlying4
 a4:=Tryz.isAgg4
 z4:=Tryz.sizeOf4
 v4:=Tryz.zeroValue4
 t22:=Tryz.underlying31
 a22:=Tryz.isAgg31
 z22:=Tryz.sizeOf31
 v22:=Tryz.zeroValue31
 i3:=by kernel_rfl }
def aK8:Go.Shelf.Ren:=⟨fun|122=>129|215=>207|n=>n,fun|3=>3|4=>4|n=>n,fun|n=>n⟩
theorem b6d:Go.Proofs.Lays.n122 Tryz.prog aK8:={
 mixed:=by kernel_rfl
 f122:=Tryz.func129.trans (congrArg some (by kernel_rfl))
 f215:=Tryz.func207.trans (congrArg some (by kernel_rfl))
 t3:=Tryz.underlying3
 a3:=Tryz.isAgg3
 z3:=Tryz.sizeOf3
 v3:=Tryz.zeroValue3
 t4:=Tryz.underlying4
 a4:=Tryz.isAgg4
 z4:=Tryz.sizeOf4
 v4:=Tryz.zeroValue4 }
theorem b5c (w:World):(isAgg (a2h.t 24)).run Tryz.prog w=.ok true w:=Tryz.isAgg129 w
theorem b1m (w:World):(Go.sizeOf (a2h.t 24)).run Tryz.prog w=.ok 5 w:=Tryz.sizeOf129 w
def O5 (e:Ev) (p:E0):Int:=p.mv*e.mats+p.mat
def a1u (e:Ev) (p:E0):Bool:=decide (0<=p.mv) && decide (p.mv<e.moves.length) && decide (0<=p.mat) && decide (p.mat<e.mats)
def a7l:List Int->Bool
 |[]=>true
 |[_]=>true
 |a::b::r=>decide (a≠b) && a7l (b::r)
def G4 (e:Ev) (ps:List E0):Bool:=decide (p7 e=0) && ps.all (a1u e) && a7l (y8 (ps.map (O5 e)))
def y9 (e:Ev) (ps:List E0):List (Int × Rat):=if G4 e ps=true then q9 (y8 (ps.map (O5 e))) else []
theorem as2 {n:Int}:∀{l:List Int} {last:Int},l.Pairwise (·<=·)->a7l l=true->(∀ x ∈ l,last<x∧x<n)->d6 last n (q9 l)=true
 |[],_,_,_,_=>rfl
 |[a],last,_,_,h=>by
  obtain ⟨h1,h2⟩:=h a (by simp)
  show (decide (last<a) && decide (a<n) && decide (((1:Int):Rat)≠0) && true)=true
  rw [lbH h1,lbH h2];decide
 |a::b::r,last,hp,ha,h=>by
  obtain ⟨h1,h2⟩:=h a (by simp)
  unfold a7l at ha
  rw [lbM,lbI] at ha
  rw [a9G] at hp
  have hab:=hp.1 b (by simp)
  have ih:=as2 (l:=b::r) (last:=a) hp.2 ha.2 fun x hx=>by
   refine ⟨?_,(h x (O6 _ hx)).2⟩
   have h3:b<=x:=by
    rcases lbA.1 hx with rfl|hx
    ·exact a5l _
    ·exact (a9G.1 hp.2).1 x hx
   omega
  show (decide (last<a) && decide (a<n) && decide (((1:Int):Rat)≠0) && d6 a n (q9 (b::r)))=true
  rw [lbH h1,lbH h2,ih];decide
theorem b76 {e:Ev} {p:E0} (h:a1u e p=true) (hm:0<=e.mats):0<=O5 e p∧O5 e p<(e.moves.length:Int)*e.mats:=by
 unfold a1u at h
 simp only [lbM,lbI] at h
 unfold O5
 have h1:0<=p.mv*e.mats:=lbZ (by omega) hm
 have h2:(p.mv+1)*e.mats<=(e.moves.length:Int)*e.mats:=lbW (by omega) hm
 rw [a44] at h2
 omega
theorem aU0 {e:Ev} {ps:List E0} (h:G4 e ps=true):d6 (-1) ((e.moves.length:Int)*e.mats) (y9 e ps)=true:=by
 unfold y9
 rw [if_pos h]
 unfold G4 at h
 simp only [lbM,lbI] at h
 have hm:=(F2 h.1.1).1
 refine as2 (a0W _) h.2 fun x hx=>?_
 obtain ⟨p,hp,rfl⟩:=lbx.1 (b2l.1 hx)
 have:=b76 (lbv.1 h.1.2 p hp) (by omega)
 omega
theorem aV9 (l:List Int):A7 (q9 l):=fun t ht=>by
 obtain ⟨v,_,rfl⟩:=lbx.1 ht
 exact ⟨1,rfl,S5 (by decide) (by decide)⟩
theorem a1E (e:Ev) (ps:List E0):A7 (y9 e ps):=by
 unfold y9;split
 ·exact aV9 _
 ·exact a00
theorem b3g (e:Ev) (ps:List E0):∀t ∈ y9 e ps,0<=t.2:=by
 unfold y9;split
 ·intro t ht
  obtain ⟨v,_,rfl⟩:=lbx.1 ht
  show (0:Rat)<=((1:Int):Rat)
  decide
 ·intro t ht;cases ht
theorem a7m (f:Int × Rat->Rat):∀(l:List (Int × Rat)) (a:Rat),l.foldl (fun x t=>x+f t) a=a+l.foldl (fun x t=>x+f t) ((0:Int):Rat)
 |[],a=>by simp only [List.foldl_nil];have:((0:Int):Rat)=0:=rfl;grind
 |t::r,a=>by
  rw [ad4,a7m f r,ad4,a7m f r (((0:Int):Rat)+f t)]
  have:((0:Int):Rat)=0:=rfl
  grind
theorem a03 (t:Int × Rat) (l:List (Int × Rat)) (z:List Rat):j0 (t::l) z=t.2*z.getD t.1.toNat 0+j0 l z:=by
 unfold j0
 rw [ad4,a7m (fun t=>t.2*z.getD t.1.toNat 0)]
 have:((0:Int):Rat)=0:=rfl
 grind
theorem b2t {l l':List (Int × Rat)} (h:l.Perm l') (z:List Rat):j0 l z=j0 l' z:=by
 induction h with
 |nil=>rfl
 |cons t _ ih=>rw [a03,a03,ih]
 |swap t u l=>rw [a03,a03,a03,a03];grind
 |trans _ _ ih1 ih2=>rw [ih1,ih2]
def b4T (z:List Rat):List Int->Rat
 |[]=>0
 |v::r=>z.getD v.toNat 0+b4T z r
theorem b2h (l:List Int) (z:List Rat):j0 (q9 l) z=b4T z l:=by
 induction l with
 |nil=>rfl
 |cons v r ih=>
  show j0 ((v,((1:Int):Rat))::q9 r) z=_
  rw [a03,ih]
  show ((1:Int):Rat)*_+_=z.getD v.toNat 0+b4T z r
  have:((1:Int):Rat)=1:=rfl
  grind
theorem aD3 {e:Ev} {ps:List E0} (h:G4 e ps=true) (z:List Rat):j0 (y9 e ps) z=b4T z (ps.map (O5 e)):=by
 unfold y9
 rw [if_pos h,←b2h]
 exact b2t ((a0e _).map _) z
end Go.Proofs.YtaejgdbahjjncaaGreat
