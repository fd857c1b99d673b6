/- Part 5. -/
import Derived.Test.YtpjgpclheebhkaaGreatAj4
namespace Go.Proofs.YtpjgpclheebhkaaGreat
set_option linter.unusedVariables false
set_option linter.unusedSimpArgs false
set_option maxRecDepth 100000
open Go.RowKit
open St1 St2 St3 St4 St5 St6 St7 St8 StA StB
def zOf (n:Nat) (y:Nat->Rat):List Rat:=(List.range n).map y
theorem G2 {n:Nat} {y:Nat->Rat}:(zOf n y).length=n:=by simp [zOf]
theorem a6F {n:Nat} {y:Nat->Rat} {j:Nat} (h:j<n):(zOf n y).getD j 0=y j:=by simp [zOf,lbl,h]
theorem a70 {n:Nat} {y:Nat->Rat} {v:Rat} (h:v ∈ zOf n y):∃j,j<n∧v=y j:=by
 obtain ⟨j,hj,rfl⟩:=lby.1 h
 exact ⟨j,lbC.1 hj,rfl⟩
theorem aW0 {n:Nat} {l:List (Int × Rat)} (h:d8 (-1) (n:Int) l=true) (y:Nat->Rat):i9 l (zOf n y)=f8 (fun j=>w7 l j*y j) n:=by
 rw [V3 h];exact e8 fun j hj=>by rw [a6F hj]
theorem a0S {s:d7} (hr:g7 s=true):((s.n.toNat:Nat):Int)=s.n:=by
 unfold g7 at hr
 simp only [lbO,lbJ] at hr
 omega
theorem a1J {s:d7} (hr:g7 s=true) {i:Nat} {w:B8} (hw:s.rows[i]? =some w):d8 (-1) ((s.n.toNat:Nat):Int) w.terms=true∧0<=w.kind∧w.kind<3:=by
 rw [a0S hr]
 unfold g7 at hr
 simp only [lbO,lbw] at hr
 have:=hr.2 w (lbm hw)
 unfold y9 at this
 simp only [lbO,lbJ] at this
 exact ⟨this.1.1,this.1.2,this.2⟩
theorem b8h {s:d7} {g:List (Int × Rat)} (hr:g7 s=true) {y:Nat->Rat} {c:Rat} (hy:Ids (c6 s).length s.n.toNat (f7 s g) y c) {i k:Nat} {b:Bool} {w:B8}
 (hf:(c6 s)[i]? =some (k,b)) (hw:s.rows[k]? =some w):y (s.n.toNat+i)=O6 b (c*w.value - i9 w.terms (zOf s.n.toNat y)):=by
 have hi:i<(c6 s).length:=(lbe.1 hf).1
 have h1:y (s.n.toNat+i)=c*(f7 s g).V i - f8 (fun j=>(f7 s g).A i j*y j) s.n.toNat:=hy i hi
 have hd:(c6 s).getD i (0,false)=(k,b):=by rw [lbl,hf];rfl
 have hV:(f7 s g).V i=O6 b w.value:=by show a3s s ((c6 s).getD i (0,false))=_;rw [hd];unfold a3s;simp only [hw]
 have hA:∀j,(f7 s g).A i j=O6 b (w7 w.terms j):=fun j=>by show a1o s ((c6 s).getD i (0,false)) j=_;rw [hd];unfold a1o;simp only [hw]
 rw [h1,hV,aW0 (a1J hr hw).1]
 cases b with
 |false=>rw [e8 (g:=fun j=>w7 w.terms j*y j) fun j hj=>by rw [hA j];rfl];rfl
 |true=>
  rw [e8 (g:=fun j=>(-1:Rat)*(w7 w.terms j*y j)) fun j hj=>by rw [hA j];show -(w7 w.terms j)*_=_;grind,E9]
  show c*-w.value - _=-(c*w.value - _)
  grind
noncomputable def j8 (s:d7) (g:List (Int × Rat)):Fd:=ak4 (c6 s).length s.n.toNat (f7 s g)
noncomputable def J5 (s:d7) (g:List (Int × Rat)):b62:=y7 (c6 s).length s.n.toNat (j8 s g)
theorem a2v {s:d7} {g:List (Int × Rat)}:a7T (c6 s).length s.n.toNat (f7 s g) (fun j=>-(w7 g j)) (f7 s g):=⟨b0b,fun _ _=>Iff.rfl,0,aW9⟩
theorem I5 {s:d7} {g:List (Int × Rat)}:a7T (c6 s).length s.n.toNat (f7 s g) (fun j=>-(w7 g j)) (j8 s g):=b9b a2v
theorem a88 (s:d7) (g:List (Int × Rat)):J5 s g=.best∨(∃ r,J5 s g=.row r)∨∃c,J5 s g=.col c:=b5D (a4E a2v).2
noncomputable def i4 (s:d7) (g:List (Int × Rat)):List Rat:=zOf s.n.toNat (F2 (c6 s).length s.n.toNat (j8 s g) 1 (fun _=>0))
noncomputable def a6S (s:d7) (g:List (Int × Rat)) (c:Nat):List Rat:=zOf s.n.toNat (F2 (c6 s).length s.n.toNat (j8 s g) 0 (fun j=>if j=c then 1 else 0))
theorem aZ4 {s:d7} {g:List (Int × Rat)} {y:Nat->Rat} (hy:Ids (c6 s).length s.n.toNat (f7 s g) y 1):∀w,w<s.n.toNat+(c6 s).length->a5K s g (zOf s.n.toNat y) w=y w:=by
 intro w hw
 unfold a5K
 split
 ·rename_i h;exact a6F h
 ·have h1:y (s.n.toNat+(w - s.n.toNat))=1*(f7 s g).V (w - s.n.toNat) - f8 (fun j=>(f7 s g).A (w - s.n.toNat) j*y j) s.n.toNat:=hy (w - s.n.toNat) (by omega)
  rw [show s.n.toNat+(w - s.n.toNat)=w by omega] at h1
  rw [h1,e8 (g:=fun j=>(f7 s g).A (w - s.n.toNat) j*y j) fun j hj=>by rw [a6F hj]]
  grind
theorem b3e {s:d7} {g:List (Int × Rat)} (hr:g7 s=true) {y:Nat->Rat} (hy:Ids (c6 s).length s.n.toNat (f7 s g) y 1) (hp:b3R (c6 s).length s.n.toNat y):j2 s (zOf s.n.toNat y)=true:=by
 refine (first_holds (g:=g) hr (by rw [G2];exact a0S hr)).2 fun w hw=>?_
 rw [aZ4 hy w hw];exact hp w hw
theorem P7 {s:d7} {z:List Rat} (h:j2 s z=true):g7 s=true∧(z.length:Int)=s.n:=by
 unfold j2 at h
 simp only [lbO,lbJ] at h
 exact ⟨h.1.1.1,h.1.1.2⟩
theorem a9U {s:d7} {g:List (Int × Rat)} (hg:d8 (-1) ((s.n.toNat:Nat):Int) g=true) (z:List Rat):f8 (fun j=>-(w7 g j)*a5K s g z j) s.n.toNat=-(i9 g z):=by
 rw [V3 hg z,e8 (g:=fun j=>(-1:Rat)*(w7 g j*z.getD j 0)) fun j hj=>by
  have:a5K s g z j=z.getD j 0:=by unfold a5K;rw [if_pos hj]
  rw [this];grind,E9]
 grind
theorem a2m {s:d7} {g:List (Int × Rat)} (hr:g7 s=true) (hg:d8 (-1) ((s.n.toNat:Nat):Int) g=true) (h:J5 s g=.best):
 j2 s (i4 s g)=true∧∀z,j2 s z=true->i9 g (i4 s g)<=i9 g z:=by
 obtain ⟨hv,hgj⟩:=ar2 h
 have hi:=I5 (s:=s) (g:=g)
 obtain ⟨v,hv'⟩:=hi.g
 obtain ⟨⟨y,h1,h2,h3,h4⟩,h5⟩:=aK5 hi.p hv' hv hgj
 have h1':=(hi.i y 1).2 h1
 have e:i4 s g=zOf s.n.toNat y:=by unfold i4;rw [h4]
 rw [e]
 refine ⟨b3e hr h1' h2,fun z hz=>?_⟩
 have hx:=h5 (a5K s g z) ((hi.i _ 1).1 (b2N z)) ((first_holds hr (P7 hz).2).1 hz)
 rw [a9U hg z] at hx
 have h6:f8 (fun j=>-(w7 g j)*y j) s.n.toNat=-(i9 g (zOf s.n.toNat y)):=by
  rw [← a9U hg]
  exact e8 fun j hj=>by rw [aZ4 h1' j (by omega)]
 rw [h6] at h3
 grind
theorem aC6 {s:d7} {g:List (Int × Rat)} {r:Nat} (h:J5 s g=.row r):∀z,j2 s z=false:=by
 intro z
 cases hz:j2 s z with
 |false=>rfl
 |true=>
  obtain ⟨hr1,hv,ha⟩:=aW5 h
  have hi:=I5 (s:=s) (g:=g)
  exact absurd ((first_holds (P7 hz).1 (P7 hz).2).1 hz) (b87 hi.p hr1 hv ha (a5K s g z) ((hi.i _ 1).1 (b2N z)))
structure bj4 (s:d7) (d:List Rat):Prop where
 len:d.length=s.n.toNat
 pos:∀v ∈ d,0<=v
 up:∀(k:Nat) (w:B8),s.rows[k]? =some w->w.kind≠0->i9 w.terms d<=0
 down:∀(k:Nat) (w:B8),s.rows[k]? =some w->w.kind≠1->0<=i9 w.terms d
theorem aC0 {s:d7} {g:List (Int × Rat)} {c:Nat} (hr:g7 s=true) (hg:d8 (-1) ((s.n.toNat:Nat):Int) g=true) (h:J5 s g=.col c):bj4 s (a6S s g c)∧i9 g (a6S s g c)<0:=by
 obtain ⟨hc,hgc,ha⟩:=a7q h
 have hi:=I5 (s:=s) (g:=g)
 obtain ⟨v,hv⟩:=hi.g
 obtain ⟨y,h1,h2,h3,h4⟩:=b8d hi.p hv hc hgc ha
 have h1':=(hi.i y 0).2 h1
 have e:a6S s g c=zOf s.n.toNat y:=by unfold a6S;rw [h4]
 rw [e]
 have side:∀(k:Nat) (w:B8) (b:Bool),s.rows[k]? =some w->(b=false->w.kind≠0)->(b=true->w.kind≠1)->0<=O6 b (-(i9 w.terms (zOf s.n.toNat y))):=by
  intro k w b hw hb1 hb2
  have hm:((k,b):Nat × Bool) ∈ c6 s:=Y0.2 ⟨w,hw,hb1,hb2⟩
  obtain ⟨i,hil,hif⟩:=a0Y hm
  have hf:(c6 s)[i]? =some (k,b):=by rw [lbf hil,hif]
  have:=b8h hr h1' hf hw
  have hp:=h2 (s.n.toNat+i) (by omega)
  rw [this] at hp
  have e2:(0:Rat)*w.value - i9 w.terms (zOf s.n.toNat y)=-(i9 w.terms (zOf s.n.toNat y)):=by grind
  rw [e2] at hp;exact hp
 refine ⟨⟨G2,fun v hv=>?_,fun k w hw hk=>?_,fun k w hw hk=>?_⟩,?_⟩
 ·obtain ⟨j,hj,rfl⟩:=a70 hv
  exact h2 j (by omega)
 ·have:0<=-(i9 w.terms (zOf s.n.toNat y)):=side k w false hw (fun _=>hk) (fun h=>by cases h)
  grind
 ·have:0<=-(-(i9 w.terms (zOf s.n.toNat y))):=side k w true hw (fun h=>by cases h) (fun _=>hk)
  grind
 ·rw [aW0 hg,e8 (g:=fun j=>(-1:Rat)*(-(w7 g j)*y j)) fun j hj=>by grind,E9]
  grind
def a97 (x d:List Rat):List Rat:=List.zipWith (·+·) x d
theorem aP8 {x d:List Rat} {n:Nat} (hx:x.length=n) (hd:d.length=n):(a97 x d).length=n:=by simp [a97,hx,hd]
theorem b4f {x d:List Rat} {n j:Nat} (hx:x.length=n) (hd:d.length=n) (hj:j<n):(a97 x d).getD j 0=x.getD j 0+d.getD j 0:=by
 simp only [a97,lbl,List.getElem?_zipWith]
 rw [lbf (show j<x.length by omega),lbf (show j<d.length by omega)]
 rfl
theorem au2 {x d:List Rat} {n:Nat} {l:List (Int × Rat)} (hx:x.length=n) (hd:d.length=n) (h:d8 (-1) (n:Int) l=true):i9 l (a97 x d)=i9 l x+i9 l d:=by
 rw [V3 h,V3 h,V3 h,←a1E]
 exact e8 fun j hj=>by rw [b4f hx hd hj];grind
theorem ax0 {s:d7} {z:List Rat} (h:j2 s z=true):∀v ∈ z,0<=v:=by
 unfold j2 at h
 simp only [lbO,lbJ,lbw] at h
 exact h.1.2
theorem b6B {w:B8} {z:List Rat}:V7 w z=true↔(w.kind≠1->w.value<=i9 w.terms z)∧(w.kind≠0->i9 w.terms z<=w.value):=by
 unfold V7
 simp only [a2T,a5l,lbQ,lbL,lb3]
 constructor
 ·rintro ⟨h1,h2⟩
  exact ⟨fun h=>h1.elim id fun h'=>absurd h h',fun h=>h2.elim id fun h'=>absurd h h'⟩
 ·rintro ⟨h1,h2⟩
  refine ⟨?_,?_⟩
  ·by_cases h:w.kind≠1
   ·exact .inl (h1 h)
   ·exact .inr h
  ·by_cases h:w.kind≠0
   ·exact .inl (h2 h)
   ·exact .inr h
theorem a2w {s:d7} {z:List Rat}:j2 s z=true↔g7 s=true∧(z.length:Int)=s.n∧(∀ v ∈ z,0<=v)∧∀w ∈ s.rows,(w.kind≠1->w.value<=i9 w.terms z)∧(w.kind≠0->i9 w.terms z<=w.value):=by
 unfold j2
 simp only [lbO,lbJ,lbw,b6B]
 constructor
 ·rintro ⟨⟨⟨h1,h2⟩,h3⟩,h4⟩;exact ⟨h1,h2,h3,h4⟩
 ·rintro ⟨h1,h2,h3,h4⟩;exact ⟨⟨⟨h1,h2⟩,h3⟩,h4⟩
theorem b3T {s:d7} {x d:List Rat} (hx:j2 s x=true) (hd:bj4 s d):j2 s (a97 x d)=true:=by
 obtain ⟨h1,h2,h3,h4⟩:=a2w.1 hx
 have hn:=a0S h1
 have hxl:x.length=s.n.toNat:=by omega
 refine a2w.2 ⟨h1,by rw [aP8 hxl hd.len];exact hn,fun v hv=>?_,fun w hw=>?_⟩
 ·obtain ⟨j,hj,rfl⟩:=a0Y hv
  rw [aP8 hxl hd.len] at hj
  have h5:0<=x[j]:=h3 _ (lbF _)
  have h6:0<=d[j]'(by rw [hd.len];exact hj):=hd.pos _ (lbF _)
  simp only [a97,List.getElem_zipWith]
  grind
 ·obtain ⟨k,hk,hkw⟩:=a0Y hw
  have hkw':s.rows[k]? =some w:=by rw [lbf hk,hkw]
  have h7:=au2 hxl hd.len (a1J h1 hkw').1
  obtain ⟨h8,h9⟩:=h4 w hw
  rw [h7]
  exact ⟨fun h=>by have:=h8 h;have:=hd.down k w hkw' h;grind,fun h=>by have:=h9 h;have:=hd.up k w hkw' h;grind⟩
theorem aJ8 {f:Nat->Nat->Rat} (m:Nat):∀n:Nat,f8 (fun i=>f8 (f i) m) n=f8 (fun j=>f8 (fun i=>f i j) n) m
 |0=>by
  show f8 _ 0=_
  rw [s7 (f:=fun j=>f8 (fun i=>f i j) 0) (n:=m) fun j hj=>by simp only [f8,S8]]
  simp only [f8,S8]
 |n+1=>by
  simp only [f8]
  rw [aJ8 m n,←a1E]
theorem a3D {n a:Nat} (ha:a<n) (v:Rat) (c:Nat->Rat):f8 (fun i=>(if a=i then v else 0)*c i) n=v*c a:=by
 rw [C3 ha,s7 fun j hj=>by
  by_cases h:j=a
  ·rw [if_pos h]
  ·rw [if_neg h,if_neg (fun e=>h e.symm)];grind]
 rw [if_pos rfl];grind
def m6 (s:d7) (i:Nat):B8:=s.rows.getD i ⟨[],2,0⟩
theorem O3 {s:d7} {i:Nat} {w:B8} (h:s.rows[i]? =some w):m6 s i=w:=by unfold m6;rw [lbl,h];rfl
def z7 (s:d7) (k:Nat):Nat × Bool:=(c6 s).getD k (0,false)
def chg (s:d7) (w:Nat) (p:Rat) (i:Nat):Rat:=if s.n.toNat<=w∧(z7 s (w - s.n.toNat)).1=i then -(O6 (z7 s (w - s.n.toNat)).2 p) else 0
def slV (s:d7) (w:Nat):Rat:=if s.n.toNat<=w then (f7 s []).V (w - s.n.toNat) else 0
def slA (s:d7) (l w:Nat):Rat:=if s.n.toNat<=w then (f7 s []).A (w - s.n.toNat) l else 0
theorem a59 {s:d7} {k:Nat} (hk:k<(c6 s).length):∃w,s.rows[(z7 s k).1]? =some w∧((z7 s k).2=false->w.kind≠0)∧((z7 s k).2=true->w.kind≠1):=by
 have:z7 s k ∈ c6 s:=by
  unfold z7
  rw [lbl,lbf hk]
  exact lbF _
 exact Y0.1 this
theorem aW4 {s:d7} {w:Nat} (hw:w<s.n.toNat+(c6 s).length) (p:Rat) (c:B8->Rat):
 f8 (fun i=>chg s w p i*c (m6 s i)) s.rows.length=if s.n.toNat<=w then -p*O6 (z7 s (w - s.n.toNat)).2 (c (m6 s (z7 s (w - s.n.toNat)).1)) else 0:=by
 by_cases h:s.n.toNat<=w
 ·rw [if_pos h]
  obtain ⟨x,hx,_⟩:=a59 (s:=s) (k:=w - s.n.toNat) (by omega)
  have hl:=(lbe.1 hx).1
  rw [e8 (g:=fun i=>(if (z7 s (w - s.n.toNat)).1=i then -(O6 (z7 s (w - s.n.toNat)).2 p) else 0)*c (m6 s i)) fun i hi=>by
   unfold chg
   by_cases h2:(z7 s (w - s.n.toNat)).1=i
   ·rw [if_pos ⟨h,h2⟩,if_pos h2]
   ·rw [if_neg (fun e=>h2 e.2),if_neg h2]]
  rw [a3D hl]
  cases (z7 s (w - s.n.toNat)).2 with
  |false=>rfl
  |true=>show -(-p)*_=-p*-_;grind
 ·rw [if_neg h]
  exact s7 fun i hi=>by unfold chg;rw [if_neg (fun e=>h e.1)];grind
theorem b8a {s:d7} {w:Nat} (hw:w<s.n.toNat+(c6 s).length) (p:Rat):f8 (fun i=>chg s w p i*(m6 s i).value) s.rows.length=-p*slV s w:=by
 rw [aW4 hw p B8.value]
 unfold slV
 split
 ·rename_i h
  obtain ⟨x,hx,_⟩:=a59 (s:=s) (k:=w - s.n.toNat) (by omega)
  rw [O3 hx]
  have:(f7 s []).V (w - s.n.toNat)=O6 (z7 s (w - s.n.toNat)).2 x.value:=by show a3s s (z7 s (w - s.n.toNat))=_;unfold a3s;simp only [hx]
  rw [this]
 ·grind
theorem b8O {s:d7} {w:Nat} (hw:w<s.n.toNat+(c6 s).length) (p:Rat) (l:Nat):f8 (fun i=>chg s w p i*w7 (m6 s i).terms l) s.rows.length=-p*slA s l w:=by
 rw [aW4 hw p (fun r=>w7 r.terms l)]
 unfold slA
 split
 ·rename_i h
  obtain ⟨x,hx,_⟩:=a59 (s:=s) (k:=w - s.n.toNat) (by omega)
  rw [O3 hx]
  have:(f7 s []).A (w - s.n.toNat) l=O6 (z7 s (w - s.n.toNat)).2 (w7 x.terms l):=by show a1o s (z7 s (w - s.n.toNat)) l=_;unfold a1o;simp only [hx]
  rw [this]
 ·grind
def yv (s:d7) (c:Rat) (t:Nat->Rat) (w:Nat):Rat:=if w<s.n.toNat then t w else c*(f7 s []).V (w - s.n.toNat) - f8 (fun l=>(f7 s []).A (w - s.n.toNat) l*t l) s.n.toNat
theorem b5l {s:d7} {g:List (Int × Rat)} (c:Rat) (t:Nat->Rat):Ids (c6 s).length s.n.toNat (f7 s g) (yv s c t) c:=by
 intro i hi
 show yv s c t (s.n.toNat+i)=_
 unfold yv
 rw [if_neg (by omega),show s.n.toNat+i - s.n.toNat=i by omega]
 show c*(f7 s g).V i - _=c*(f7 s g).V i - _
 congr 1
 refine e8 fun j hj=>?_
 show _=(f7 s g).A i j*(if j<s.n.toNat then t j else _)
 rw [if_pos hj];rfl
theorem b4Y {s:d7} (w:Nat):yv s 1 (fun _=>0) w=slV s w:=by
 unfold yv slV
 by_cases h:w<s.n.toNat
 ·rw [if_pos h,if_neg (by omega)]
 ·rw [if_neg h,if_pos (by omega),s7 fun l hl=>by grind];grind
theorem b9O {s:d7} {l:Nat} (hl:l<s.n.toNat) (w:Nat):yv s 0 (fun j=>if l=j then 1 else 0) w=(if l=w then 1 else 0) - slA s l w:=by
 unfold yv slA
 by_cases h:w<s.n.toNat
 ·rw [if_pos h,if_neg (show ¬s.n.toNat<=w by omega)];grind
 ·rw [if_neg h,if_pos (show s.n.toNat<=w by omega),if_neg (show ¬l=w by omega),e8 (g:=fun j=>(if l=j then (1:Rat) else 0)*(f7 s []).A (w - s.n.toNat) j) fun j hj=>by grind,a3D hl]
  grind
def L2 (s:d7) (y:Nat->Rat) (l:Nat):Rat:=f8 (fun i=>y i*w7 (m6 s i).terms l) s.rows.length
def a0k (s:d7) (y:Nat->Rat):Rat:=f8 (fun i=>y i*(m6 s i).value) s.rows.length
def aO9 (s:d7) (y:Nat->Rat):Prop:=∀(i:Nat) (w:B8),s.rows[i]? =some w->(w.kind=0->0<=y i)∧(w.kind=1->y i<=0)
theorem b6O {s:d7} {w:Nat} (hw:w<s.n.toNat+(c6 s).length) {p:Rat} (hp:0<=p):aO9 s (chg s w p):=by
 intro i x hx
 unfold chg
 by_cases h:s.n.toNat<=w∧(z7 s (w - s.n.toNat)).1=i
 ·rw [if_pos h]
  obtain ⟨x',hx',h1,h2⟩:=a59 (s:=s) (k:=w - s.n.toNat) (by omega)
  rw [h.2,hx] at hx'
  injection hx' with hx'
  subst hx'
  cases hb:(z7 s (w - s.n.toNat)).2 with
  |false=>exact ⟨fun e=>absurd e (h1 hb),fun _=>by show -p<=0;grind⟩
  |true=>exact ⟨fun _=>by show 0<=-(-p);grind,fun e=>absurd e (h2 hb)⟩
 ·rw [if_neg h];exact ⟨fun _=>by grind,fun _=>by grind⟩
theorem aS0 {s:d7} {f:Nat->Nat->Rat}:∀n:Nat,(∀ j,j<n->aO9 s (f j))->aO9 s (fun i=>f8 (fun j=>f j i) n)
 |0,_=>fun i w hw=>⟨fun _=>by simp only [f8,S8];grind,fun _=>by simp only [f8,S8];grind⟩
 |n+1,h=>fun i w hw=>by
  have h1:=aS0 n (fun j hj=>h j (by omega)) i w hw
  have h2:=h n (by omega) i w hw
  simp only [f8]
  exact ⟨fun e=>by have:=h1.1 e;have:=h2.1 e;grind,fun e=>by have:=h1.2 e;have:=h2.2 e;grind⟩
def y4 (s:d7) (E:Fd) (i:Nat):Rat:=f8 (fun j=>chg s (E.F j) (-(E.G j)) i) s.n.toNat
def a8J (s:d7) (E:Fd) (r i:Nat):Rat:=chg s (E.O r) 1 i+f8 (fun j=>chg s (E.F j) (E.A r j) i) s.n.toNat
theorem a6y {s:d7} {f:Nat->Nat->Rat} {c:Nat->Rat} {n R:Nat}:f8 (fun i=>f8 (fun j=>f j i) n*c i) R=f8 (fun j=>f8 (fun i=>f j i*c i) R) n:=by
 rw [← aJ8]
 refine e8 fun i hi=>?_
 rw [e8 (f:=fun j=>f j i*c i) (g:=fun j=>c i*f j i) fun j hj=>by grind,E9];grind
structure b76 (s:d7) (g:Nat->Rat) (y:Nat->Rat) (v:Rat):Prop where
 sign:aO9 s y
 mix:∀l,l<s.n.toNat->L2 s y l<=g l
 val:a0k s y=v
theorem aW2 {s:d7} {g:List (Int × Rat)} (hr:g7 s=true) (hg:d8 (-1) ((s.n.toNat:Nat):Int) g=true) (h:J5 s g=.best):b76 s (w7 g) (y4 s (j8 s g)) (i9 g (i4 s g)):=by
 obtain ⟨hv,hgj⟩:=ar2 h
 have hi:=I5 (s:=s) (g:=g)
 obtain ⟨z,hz⟩:=hi.g
 have hF:∀j,j<s.n.toNat->(j8 s g).F j<s.n.toNat+(c6 s).length:=fun j hj=>hi.p.fb j hj
 refine ⟨aS0 _ fun j hj=>b6O (hF j hj) (by have:=hgj j hj;grind),fun l hl=>?_,?_⟩
 ·have h1:=hz _ _ ((hi.i _ 0).1 (b5l (s:=s) (g:=g) 0 (fun j=>if l=j then 1 else 0)))
  rw [e8 (g:=fun j=>(if l=j then (1:Rat) else 0)*-(w7 g j)) fun j hj=>by unfold yv;rw [if_pos hj];grind,a3D hl] at h1
  unfold L2 y4
  rw [a6y (s:=s),e8 (g:=fun j=>(j8 s g).G j*slA s l ((j8 s g).F j)) fun j hj=>by rw [b8O (hF j hj)];grind]
  rw [e8 (g:=fun j=>(j8 s g).G j*(if l=(j8 s g).F j then 1 else 0)+(-1:Rat)*((j8 s g).G j*slA s l ((j8 s g).F j))) fun j hj=>by rw [b9O hl];grind,a1E,E9] at h1
  have h2:f8 (fun j=>(j8 s g).G j*(if l=(j8 s g).F j then (1:Rat) else 0)) s.n.toNat<=0:=a6t fun j hj=>by
   have:=hgj j hj
   split<;>grind
  grind
 ·have h1:=hz _ _ ((hi.i _ 1).1 (b5l (s:=s) (g:=g) 1 (fun _=>0)))
  rw [s7 fun j hj=>by unfold yv;rw [if_pos hj];grind] at h1
  unfold a0k y4
  rw [a6y (s:=s),e8 (g:=fun j=>(j8 s g).G j*slV s ((j8 s g).F j)) fun j hj=>by rw [b8a (hF j hj)];grind]
  rw [e8 (g:=fun j=>(j8 s g).G j*slV s ((j8 s g).F j)) fun j hj=>by rw [b4Y]] at h1
  obtain ⟨⟨y,k1,k2,k3,k4⟩,_⟩:=aK5 hi.p hz hv hgj
  have k1':=(hi.i y 1).2 k1
  have e:i4 s g=zOf s.n.toNat y:=by unfold i4;rw [k4]
  have h6:f8 (fun j=>-(w7 g j)*y j) s.n.toNat=-(i9 g (zOf s.n.toNat y)):=by
   rw [← a9U hg]
   exact e8 fun j hj=>by rw [aZ4 k1' j (by omega)]
  rw [e];rw [h6] at k3
  grind
theorem a7E {s:d7} {g:List (Int × Rat)} {c y:Nat->Rat} {v:Rat} (h:b76 s c y v) {z:List Rat} (hz:j2 s z=true):v<=f8 (fun l=>c l*z.getD l 0) s.n.toNat:=by
 obtain ⟨hr,hl,hp,hw⟩:=a2w.1 hz
 have hn:=a0S hr
 have h0:∀l,l<s.n.toNat->0<=z.getD l 0:=fun l hl'=>by
  rw [lbl,lbf (by omega)]
  exact hp _ (lbF _)
 have h1:f8 (fun l=>L2 s y l*z.getD l 0) s.n.toNat<=f8 (fun l=>c l*z.getD l 0) s.n.toNat:=by
  have:=a3V (f:=fun l=>(c l - L2 s y l)*z.getD l 0) (n:=s.n.toNat) fun l hl'=>lb1 (by have:=h.mix l hl';grind) (h0 l hl')
  rw [e8 (g:=fun l=>c l*z.getD l 0+(-1:Rat)*(L2 s y l*z.getD l 0)) fun l hl'=>by grind,a1E,E9] at this
  grind
 have h2:f8 (fun l=>L2 s y l*z.getD l 0) s.n.toNat=f8 (fun i=>y i*i9 (m6 s i).terms z) s.rows.length:=by
  unfold L2
  rw [a6y (s:=s) (f:=fun i l=>y i*w7 (m6 s i).terms l)]
  refine e8 fun i hi=>?_
  have hx:s.rows[i]? =some (m6 s i):=by unfold m6;rw [lbl,lbf hi];rfl
  rw [V3 (a1J hr hx).1 z,←E9]
  exact e8 fun l hl=>by grind
 have h3:0<=f8 (fun i=>y i*(i9 (m6 s i).terms z - (m6 s i).value)) s.rows.length:=a3V fun i hi=>by
  have hx:s.rows[i]? =some (m6 s i):=by unfold m6;rw [lbl,lbf hi];rfl
  obtain ⟨_,k1,k2⟩:=a1J hr hx
  obtain ⟨s1,s2⟩:=h.sign i _ hx
  obtain ⟨b1,b2⟩:=hw _ (lbm hx)
  by_cases e0:(m6 s i).kind=0
  ·have:=b1 (by omega)
   exact lb1 (s1 e0) (by grind)
  ·by_cases e1:(m6 s i).kind=1
   ·have:=b2 e0
    have:=lb1 (show 0<=-(y i) by have:=s2 e1;grind) (show 0<=-(i9 (m6 s i).terms z - (m6 s i).value) by grind)
    grind
   ·have a1:=b1 e1
    have a2:=b2 e0
    have:i9 (m6 s i).terms z - (m6 s i).value=0:=by grind
    rw [this];grind
 rw [e8 (g:=fun i=>y i*i9 (m6 s i).terms z+(-1:Rat)*(y i*(m6 s i).value)) fun i hi=>by grind,a1E,E9] at h3
 have h4:=h.val
 unfold a0k at h4
 grind
def rF (n:Nat) (g:Nat->Rat):List Fr:=(List.range n).map fun j=>fz (g j)
def mF (m n:Nat) (A:Nat->Nat->Rat):List (List Fr):=(List.range m).map fun i=>rF n (A i)
theorem L4 (n:Nat) (g:Nat->Rat):(rF n g).length=n:=by simp [rF]
theorem b7 (m n:Nat) (A:Nat->Nat->Rat):(mF m n A).length=m:=by simp [mF]
theorem E7 {n:Nat} {g:Nat->Rat} {j:Nat} (h:j<n):(rF n g)[j]? =some (fz (g j)):=by simp [rF,h]
theorem M6 {m n:Nat} {A:Nat->Nat->Rat} {i:Nat} (h:i<m):(mF m n A)[i]? =some (rF n (A i)):=by simp [mF,h]
theorem T8 {n:Nat} {g:Nat->Rat} {s:Nat} {v:Rat} (h:s<n):(rF n g).set s (fz v)=rF n (fun j=>if j=s then v else g j):=by
 apply I6
 intro j
 by_cases hj:j<n
 ·rw [E7 hj,lbg,L4]
  by_cases hjm:s=j
  ·subst hjm;simp [h]
  ·rw [if_neg hjm,E7 hj,if_neg (by omega)]
 ·rw [lbd (by simp [L4];omega),lbd (by simp [L4];omega)]
theorem A9 {n:Nat} {g h:Nat->Rat} (e:∀j,j<n->g j=h j):rF n g=rF n h:=lbp fun j hj=>by rw [e j (lbC.1 hj)]
theorem aU9 {m n:Nat} {A B:Nat->Nat->Rat} (e:∀i,i<m->∀j,j<n->A i j=B i j):mF m n A=mF m n B:=lbp fun i hi=>A9 (e i (lbC.1 hi))
theorem b4T {m n:Nat} {A:Nat->Nat->Rat} {r:Nat} {g:Nat->Rat} (h:r<m):(mF m n A).set r (rF n g)=mF m n (fun i=>if i=r then g else A i):=by
 apply I6
 intro j
 by_cases hj:j<m
 ·rw [M6 hj,lbg,b7]
  by_cases hjm:r=j
  ·subst hjm;simp [h]
  ·rw [if_neg hjm,M6 hj,if_neg (by omega)]
 ·rw [lbd (by simp [b7];omega),lbd (by simp [b7];omega)]
abbrev flB (l:List Fr):Blk:={ mode:=.live,elem:=83,size:=4,rows:=toC (l.map j0),box:=false }
theorem H7 {row:List Fr} {i n:Nat} {y:Fr} (h:n=i):p5 (flB row) ((toC (row.map j0)).set n (frC y))=flB (row.set i y):=by
 subst h
 unfold p5
 simp [toC,a2Y,j0]
def O5 (b m n:Nat) (V:Nat->Rat):List (List C):=(List.range m).map fun i=>frC (fz (V i))++[C.own (i+b) 0 n true]
def a0c (m:Nat) (O:Nat->Nat):List (List T):=(List.range m).map fun i=>[ti (O i)]
def X5 (l:List (Nat × Bool)):List (List T):=l.map fun f=>[ti f.1,tb f.2]
theorem y8 (b m n:Nat) (V:Nat->Rat):(O5 b m n V).length=m:=by simp [O5]
theorem p7 (m:Nat) (O:Nat->Nat):(a0c m O).length=m:=by simp [a0c]
theorem a2e {b m n:Nat} {V:Nat->Rat} {i:Nat} (h:i<m):(O5 b m n V)[i]? =some (frC (fz (V i))++[C.own (i+b) 0 n true]):=by simp [O5,h]
theorem a6w {m:Nat} {O:Nat->Nat} {i:Nat} (h:i<m):(a0c m O)[i]? =some [ti (O i)]:=by simp [a0c,h]
theorem b30 {b m n:Nat} {V:Nat->Rat} {r:Nat} {v:Rat} (h:r<m):(O5 b m n V).set r (frC (fz v)++[C.own (r+b) 0 n true])=O5 b m n (fun i=>if i=r then v else V i):=by
 apply I6
 intro j
 by_cases hj:j<m
 ·rw [a2e hj,lbg,y8]
  by_cases hjm:r=j
  ·subst hjm;simp [h]
  ·rw [if_neg hjm,a2e hj,if_neg (by omega)]
 ·rw [lbd (by simp [y8];omega),lbd (by simp [y8];omega)]
theorem b6V {m:Nat} {O:Nat->Nat} {r v:Nat} (h:r<m):(a0c m O).set r [ti v]=a0c m (fun i=>if i=r then v else O i):=by
 apply I6
 intro j
 by_cases hj:j<m
 ·rw [a6w hj,lbg,p7]
  by_cases hjm:r=j
  ·subst hjm;simp [h]
  ·rw [if_neg hjm,a6w hj,if_neg (by omega)]
 ·rw [lbd (by simp [p7];omega),lbd (by simp [p7];omega)]
abbrev b1q (m n k:Nat):Blk:={ mode:=.live,elem:=291,size:=6,rows:=[[C.t (ti n),.own 1 0 m true,.own 2 0 n true,.own 3 0 m true,.own 4 0 n true,.own 5 0 k true]],box:=true }
abbrev a00 (b m n:Nat) (V:Nat->Rat):Blk:={ mode:=.live,elem:=296,size:=5,rows:=O5 b m n V,box:=false }
abbrev U8 (m:Nat) (O:Nat->Nat):Blk:={ mode:=.live,elem:=3,size:=1,rows:=toC (a0c m O),box:=false }
abbrev a0H (l:List (Nat × Bool)):Blk:={ mode:=.live,elem:=324,size:=2,rows:=toC (X5 l),box:=false }
abbrev W7 (m n:Nat) (fr:List (Nat × Bool)) (D:Fd):Hp:=
 b1q m n fr.length::a00 6 m n D.V::flB (rF n D.G)::U8 m D.O::U8 n D.F::a0H fr::(mF m n D.A).map flB
theorem a2n {m n:Nat} {fr:List (Nat × Bool)} {D:Fd}:(W7 m n fr D).length=m+6:=by simp [b7]
theorem ag6 {b m n N:Nat} {V:Nat->Rat} (h:m+b<=N):okB N (a00 b m n V):=by
 intro r hr c hc
 obtain ⟨i,hi,rfl⟩:=lby.1 hr
 have:=lbC.1 hi
 simp [frC] at hc
 rcases hc with rfl|rfl|rfl|rfl|rfl<;>first|trivial|(simp only;omega)
theorem b2J {m n k N:Nat} (h:6<=N):okB N (b1q m n k):=by
 intro r hr c hc
 simp at hr
 subst hr
 simp at hc
 rcases hc with rfl|rfl|rfl|rfl|rfl|rfl<;>first|trivial|(simp only;omega)
theorem a74 {m n:Nat} {fr:List (Nat × Bool)} {D:Fd}:∀k ∈ W7 m n fr D,okB (m+6) k:=by
 intro k hk
 simp only [lbB] at hk
 rcases hk with rfl|rfl|rfl|rfl|rfl|rfl|hk
 ·exact b2J (by omega)
 ·exact ag6 (lbS _)
 ·exact D8 rfl
 ·exact D8 rfl
 ·exact D8 rfl
 ·exact D8 rfl
 ·obtain ⟨l,_,rfl⟩:=lby.1 hk
  exact D8 rfl
theorem b2e (x:Rat):(fz x).p.sg=0↔x=0:=by
 show x.num.sign=0↔_
 rw [Int.sign_eq_zero_iff_zero,Rat.num_eq_zero]
theorem rl0:rl 0<=1:=by
 have h0:=n8 (x:=0) (by decide) (by decide)
 have h1:=n8 (x:=1) (by decide) (by decide)
 show max (bl 0) (bl 1)<=1
 omega
theorem rl1:rl 1<=1:=by
 have h1:=n8 (x:=1) (by decide) (by decide)
 show max (bl 1) (bl 1)<=1
 omega
theorem bc8 (x y:Rat) (hy:y≠0) (lx:rl x<=60000) (ly:rl y<=60000):a8 Tryz.prog 221 [frS (fz x),frS (fz y)] [] (.tup [frS (fz (x / y)),a7 .i64 0]) []:=by
 have r1:=G0 x (by omega)
 have r2:=G0 y (by omega)
 have x1:=O2 x
 have x2:=P1 x
 have y1:=O2 y
 have y2:=P1 y
 have hn:y.num≠0:=fun h=>hy (Rat.num_eq_zero.1 h)
 have hs:y.num.sign≠0:=fun h=>hn (Int.sign_eq_zero_iff_zero.1 h)
 have hsg:=b2e y
 have l1:=O1 x.num y.den
 have l3:=O1 x.den y.num
 have t1:=a0v x.num y.den (by omega) (by omega)
 have t3:=a0v x.den y.num (by omega) (by omega)
 have n:=az3 (x.num*y.den) (x.den*y.num) (Int.mul_ne_zero (b0p x) hn) (by omega) (by omega)
 rw [← b7H] at n
 (refine ac Tryz.func221 ?_;(conv=>whnf);repeat (refine zy ?_;conv=>whnf))
 repeat' (first|refine zx ?_|refine qp r1 ?_|refine qp r2 ?_|refine qp t1 ?_|refine qp t3 ?_|refine qp n ?_|refine zd ?_ ?_<;>intro h<;>try omega|fail)<;>conv=>whnf
 all_goals first
  |(exfalso;simp_all;done)
  |exact a1Q rfl
theorem a6f (x:Rat) (lx:rl x<=60000):a8 Tryz.prog 175 [frS (fz x)] [] (frS (fz (-x))) []:=by
 have r1:=G0 x (by omega)
 have x1:=O2 x
 have x2:=P1 x
 have n:=a7V x.num (by omega)
 have s:=ad3 x.den (by omega)
 have e:fz (-x)=⟨bz (-x.num),bz x.den⟩:=rfl
 rw [e]
 (refine ac Tryz.func175 ?_;(conv=>whnf);repeat (refine zy ?_;conv=>whnf))
 repeat' (first|refine zx ?_|refine qp r1 ?_|refine qp n ?_|refine qp s ?_|refine zd ?_ ?_<;>intro h<;>try omega|fail)<;>conv=>whnf
 all_goals first
  |(exfalso;simp_all;done)
  |exact l9 ⟨rfl,rfl,rfl,rfl,trivial⟩
theorem af4 (x:Rat):a8 Tryz.prog 207 [frS (fz x)] [] (d9 (decide (x=0))) []:=by
 have h:=b2e x
 (refine ac Tryz.func207 ?_;(conv=>whnf);repeat (refine zy ?_;conv=>whnf))
 repeat' (first|refine zx ?_|refine zd ?_ ?_<;>intro h<;>try omega|fail)<;>conv=>whnf
 all_goals (refine b9 ?_;simp_all)
theorem b0V (a b c:Rat) (la:rl a<=60000) (lb:rl b<=30000) (lc:rl c<=30000):a8 Tryz.prog 208 [frS (fz a),frS (fz b),frS (fz c)] [] (frS (fz (a - b*c))) []:=by
 have z1:=af4 b
 have z2:=af4 c
 have m:=aF7 b c (by omega) (by omega)
 have lm:=a4x b c
 have s:=b0T a (b*c) la (by omega)
 by_cases hb:b=0
 ·have e:a - b*c=a:=by rw [hb];grind
  rw [e]
  (refine ac Tryz.func208 ?_;(conv=>whnf);repeat (refine zy ?_;conv=>whnf))
  repeat' (first|refine zx ?_|refine qp z1 ?_|refine qp z2 ?_|refine qp m ?_|refine qp s ?_|refine zd ?_ ?_<;>intro h<;>try omega|fail)<;>conv=>whnf
  all_goals first
   |(exfalso;simp_all;done)
   |exact l9 ⟨rfl,rfl,rfl,rfl,trivial⟩
 ·by_cases hc:c=0
  ·have e:a - b*c=a:=by rw [hc];grind
   rw [e]
   (refine ac Tryz.func208 ?_;(conv=>whnf);repeat (refine zy ?_;conv=>whnf))
   repeat' (first|refine zx ?_|refine qp z1 ?_|refine qp z2 ?_|refine qp m ?_|refine qp s ?_|refine zd ?_ ?_<;>intro h<;>try omega|fail)<;>conv=>whnf
   all_goals first
    |(exfalso;simp_all;done)
    |exact l9 ⟨rfl,rfl,rfl,rfl,trivial⟩
  ·(refine ac Tryz.func208 ?_;(conv=>whnf);repeat (refine zy ?_;conv=>whnf))
   repeat' (first|refine zx ?_|refine qp z1 ?_|refine qp z2 ?_|refine qp m ?_|refine qp s ?_|refine zd ?_ ?_<;>intro h<;>try omega|fail)<;>conv=>whnf
   all_goals first
    |(exfalso;simp_all;done)
    |exact l9 ⟨rfl,rfl,rfl,rfl,trivial⟩
theorem aY8 (a b:Rat) (hb:b≠0) (la:rl a<=60000) (lb:rl b<=60000):a8 Tryz.prog 206 [frS (fz a),frS (fz b)] [] (frS (fz (a / b))) []:=by
 have d:=bc8 a b hb la lb
 (refine ac Tryz.func206 ?_;(conv=>whnf);repeat (refine zy ?_;conv=>whnf))
 repeat' (first|refine zx ?_|refine qp d ?_|refine zd ?_ ?_<;>intro h<;>try omega|fail)<;>conv=>whnf
 all_goals exact l9 ⟨rfl,rfl,rfl,rfl,trivial⟩
def tkF (a row:Nat->Rat) (s k:Nat):Nat->Rat:=fun j=>if j<k∧j≠s then a j - a s*row j else a j
def tkA (a row:Nat->Rat) (s:Nat):Nat->Rat:=fun j=>if j=s then 0 - a s*row s else a j - a s*row j
def pZ (k n:Nat):List Fr:=(List.range n).map fun j=>if j<k then fz 0 else J3
theorem ah5 (k n:Nat):(pZ k n).length=n:=by simp [pZ]
theorem a8a {k n j:Nat} (h:j<n):(pZ k n)[j]? =some (if j<k then fz 0 else J3):=by simp [pZ,h]
theorem b4y {k n:Nat} (h:k<n):(pZ k n).set k (fz 0)=pZ (k+1) n:=by
 apply I6
 intro j
 by_cases hj:j<n
 ·rw [a8a hj,lbg,ah5]
  by_cases hjk:k=j
  ·subst hjk;simp [h]
  ·rw [if_neg hjk,a8a hj]
   have:(j<k+1)↔(j<k):=by omega
   simp only [this]
 ·rw [lbd (by simp [ah5];omega),lbd (by simp [ah5];omega)]
theorem b5c (n:Nat):pZ n n=rF n (fun _=>0):=lbp fun j hj=>by rw [if_pos (lbC.1 hj)]
theorem b8m (n:Nat) (hn:n<=1000):a8 Tryz.prog 173 [a7 .i64 n] [] (.c (.own 0 0 n true)) [flB (rF n fun _=>0)]:=by
 have i0:=B3 0 (by decide) (by decide)
 have hnn:(n:Int).toNat=n:=by omega
 (refine ac Tryz.func173 ?_;(conv=>whnf);repeat (refine zy ?_;conv=>whnf))
 repeat' (first|refine zx ?_|refine a5q (by omega) (by omega) (by omega) (by decide) ?_|refine zd ?_ ?_<;>intro h<;>try omega|fail)<;>conv=>whnf
 refine i3 c9 (fun k=>([a7 .i64 n,J,J,S.c (C.own 0 0 n true),J,J,J,J,a7 .i64 n,a7 .i64 k]++Jn 8,[flB (pZ k n)])) n (fun _=>True) [some 0] trivial
  ⟨rfl,rfl,⟨⟨rfl,rfl,rfl,.inr (a7d ?_ ?_)⟩,trivial⟩,⟨i8 rfl,⟨rfl,rfl,by omega,fun h=>h⟩,c7 (by omega),c7 rfl,trivial⟩⟩ ?_
 ·simp [I8,toC,ah5]
 ·intro i x y hx hy
  simp only [I8,lbk] at hx
  split at hx
  ·rename_i hi
   injection hx with hx
   subst hx
   have hy:(toC ((pZ 0 n).map j0))[i]? =some y:=hy
   rw [toC,lba,lba,a8a (by omega),if_neg (by omega)] at hy
   injection hy with hy
   subst hy
   exact ⟨rfl,rfl,rfl,rfl,trivial⟩
  ·cases hx
 intro k hk _
 by_cases hlt:k<n
 ·obtain ⟨pf,hpf⟩:∃pf,(pZ k n)[k]? =some pf:=⟨_,a8a hlt⟩
  have gp:(pZ k n)[0+(k:Int).toNat]? =some pf:=by rw [y3,show (k:Int).toNat=k by omega];exact hpf
  have eM:0+(k:Int).toNat=k:=by omega
  conv=>whnf
  repeat' (first|refine zx ?_|refine qp i0 ?_|refine k7 gp ?_|refine zd ?_ ?_<;>intro h<;>try omega|fail)<;>conv=>whnf
  all_goals first
   |omega
   |(refine ⟨hlt,trivial,[some 0],rfl,rfl,⟨b8 (rows:=(pZ (k+1) n).map j0) rfl rfl rfl ?_ rfl,trivial⟩,⟨rfl,⟨rfl,rfl,rfl,fun h=>h⟩,rfl,c7 (by omega),trivial⟩⟩
     have e:=H7 (row:=pZ k n) (y:=fz 0) eM
     rw [b4y hlt] at e
     exact congrArg Blk.rows e)
 ·have hke:k=n:=by omega
  subst hke
  conv=>whnf
  repeat' (first|refine zx ?_|refine zd ?_ ?_<;>intro h<;>try omega|fail)<;>conv=>whnf
  all_goals first
   |omega
   |exact ⟨[some 0],rfl,rfl,⟨b8 (rows:=(rF k fun _=>0).map j0) rfl rfl rfl (by rw [← b5c]) rfl,trivial⟩,⟨rfl,rfl,rfl,fun h=>h⟩⟩
theorem b6J (a row:Nat->Rat) (s:Nat):tkF a row s 0=a:=by funext j;unfold tkF;rw [if_neg (by omega)]
theorem bf5 (a row:Nat->Rat) (s k:Nat):tkF a row s k k=a k:=by unfold tkF;rw [if_neg (by omega)]
theorem bj1 (a row:Nat->Rat) (s k:Nat):tkF a row s k s=a s:=by unfold tkF;rw [if_neg (by omega)]
theorem b4Q {a row:Nat->Rat} {s k:Nat} (h:k≠s):(fun j=>if j=k then a k - a s*row k else tkF a row s k j)=tkF a row s (k+1):=by
 funext j
 by_cases hj:j=k
 ·subst hj;rw [if_pos rfl];unfold tkF;rw [if_pos ⟨by omega,h⟩]
 ·rw [if_neg hj];unfold tkF
  have:(j<k∧j≠s)↔(j<k+1∧j≠s):=by omega
  simp only [this]
theorem b6z {a row:Nat->Rat} {s:Nat}:tkF a row s s=tkF a row s (s+1):=by
 funext j;unfold tkF
 have:(j<s∧j≠s)↔(j<s+1∧j≠s):=by omega
 simp only [this]
theorem b7C {a row:Nat->Rat} {s n:Nat}:rF n (fun j=>if j=s then 0 - a s*row s else tkF a row s n j)=rF n (tkA a row s):=A9 fun j hj=>by
 unfold tkA tkF
 by_cases h:j=s
 ·rw [if_pos h,if_pos h]
 ·rw [if_neg h,if_neg h,if_pos ⟨hj,h⟩]
abbrev frX (x:Rat):Blk:={ mode:=.live,elem:=83,size:=4,rows:=[frC (fz x)],box:=true }
theorem be1 {ρ:List (Option Nat)} {H:Hp} (x:Rat):a6d ρ H (frX x) (frX x):=⟨rfl,rfl,rfl,.inl ⟨rfl,f5 [j0 (fz x)]⟩⟩
theorem bb9 (n s:Nat) (a row:Nat->Rat) (hn:n<=1000) (hs:s<n) (ha:∀j,j<n->rl (a j)<=30000) (hr:∀j,j<n->rl (row j)<=30000):
 a8 Tryz.prog 209 [.c (.own 0 0 n true),.c (.own 1 0 n true),a7 .i64 s] [flB (rF n a),flB (rF n row)] (.tup []) [flB (rF n (tkA a row s)),flB (rF n row)]:=by
 have i0:=B3 0 (by decide) (by decide)
 have ls:=ha s hs
 have eS:0+(s:Int).toNat=s:=by omega
 have gs:(rF n a)[0+(s:Int).toNat]? =some (fz (a s)):=by rw [eS,E7 hs]
 (refine ac Tryz.func209 ?_;(conv=>whnf);repeat (refine zy ?_;conv=>whnf))
 repeat' (first|refine zx ?_|refine k7 gs ?_|refine zd ?_ ?_<;>intro h<;>try omega|fail)<;>conv=>whnf
 refine i3 c9 (fun k=>([S.c (C.own 0 0 n true),S.c (C.own 1 0 n true),a7 .i64 s,J,J,J,S.c (C.ptr 2 0 0),J,J,J,J,J,J,a7 .i64 n,a7 .i64 k]++Jn 29,[flB (rF n (tkF a row s k)),flB (rF n row),frX (a s)])) n (fun _=>True) [some 0,some 1,some 2] trivial
  ⟨rfl,rfl,⟨b8 (rows:=(rF n a).map j0) rfl rfl rfl rfl (by rw [b6J]),b8 rfl rfl rfl rfl rfl,be1 _,trivial⟩,⟨⟨rfl,rfl,rfl,fun h=>h⟩,⟨rfl,rfl,rfl,fun h=>h⟩,rfl,⟨rfl,rfl,rfl⟩,c7 rfl,c7 rfl,trivial⟩⟩ ?_
 intro k hk _
 by_cases hlt:k<n
 ·have eM:0+(k:Int).toNat=k:=by omega
  have lk:=ha k hlt
  have lr:=hr k hlt
  have g1:(rF n (tkF a row s k))[0+(k:Int).toNat]? =some (fz (a k)):=by rw [eM,E7 hlt,bf5]
  have g2:(rF n row)[0+(k:Int).toNat]? =some (fz (row k)):=by rw [eM,E7 hlt]
  have le:=b0V (a k) (a s) (row k) (by omega) (by omega) (by omega)
  by_cases hks:k=s
  ·subst hks
   conv=>whnf
   repeat' (first|refine zx ?_|refine qp le ?_|refine k7 g1 ?_|refine k7 g2 ?_|refine zd ?_ ?_<;>intro h<;>try omega|fail)<;>conv=>whnf
   all_goals first
    |omega
    |exact ⟨hlt,trivial,[some 0,some 1,some 2],rfl,rfl,⟨b8 (rows:=(rF n (tkF a row k k)).map j0) rfl rfl rfl rfl (by rw [b6z]),b8 rfl rfl rfl rfl rfl,be1 _,trivial⟩,⟨⟨rfl,rfl,rfl,fun h=>h⟩,⟨rfl,rfl,rfl,fun h=>h⟩,rfl,⟨rfl,rfl,rfl⟩,c7 rfl,c7 rfl,trivial⟩⟩
  ·conv=>whnf
   repeat' (first|refine zx ?_|refine qp le ?_|refine k7 g1 ?_|refine k7 g2 ?_|refine zd ?_ ?_<;>intro h<;>try omega|fail)<;>conv=>whnf
   all_goals first
    |omega
    |(refine ⟨hlt,trivial,[some 0,some 1,some 2],rfl,rfl,⟨b8 (rows:=(rF n (tkF a row s (k+1))).map j0) rfl rfl rfl ?_ rfl,b8 rfl rfl rfl rfl rfl,be1 _,trivial⟩,⟨⟨rfl,rfl,rfl,fun h=>h⟩,⟨rfl,rfl,rfl,fun h=>h⟩,rfl,⟨rfl,rfl,rfl⟩,c7 rfl,c7 rfl,trivial⟩⟩
      have e:=H7 (row:=rF n (tkF a row s k)) (y:=fz (a k - a s*row k)) eM
      rw [T8 hlt,b4Q hks] at e
      exact congrArg Blk.rows e)
 ·have hke:k=n:=by omega
  subst hke
  have g2:(rF k row)[0+(s:Int).toNat]? =some (fz (row s)):=by rw [eS,E7 hs]
  have lr:=hr s hs
  have le:=b0V 0 (a s) (row s) (by have:=rl0;omega) (by omega) (by omega)
  have le:a8 Tryz.prog 208 [frS (fz ((0:Int):Rat)),frS (fz (a s)),frS (fz (row s))] [] (frS (fz (0 - a s*row s))) []:=le
  conv=>whnf
  have g1:(rF k (tkF a row s k))[0+(s:Int).toNat]? =some (fz (a s)):=by rw [eS,E7 hs,bj1]
  repeat' (first|refine zx ?_|refine qp i0 ?_|refine qp le ?_|refine k7 g2 ?_|refine k7 g1 ?_|refine zd ?_ ?_<;>intro h<;>try omega|fail)<;>conv=>whnf
  all_goals first
   |omega
   |(refine ⟨[some 0,some 1],rfl,rfl,⟨b8 (rows:=(rF k (tkA a row s)).map j0) rfl rfl rfl ?_ rfl,b8 rfl rfl rfl rfl rfl,trivial⟩,trivial⟩
     have e:=H7 (row:=rF k (tkF a row s k)) (y:=fz (0 - a s*row s)) eS
     rw [T8 hs,b7C] at e
     exact congrArg Blk.rows e)
def leI:Option Nat->Int
 |none=>-1
 |some a=>a
theorem a5a (f:Nat->Nat) (p:Nat->Bool) (k:Nat):S6 f p (k+1)=match S6 f p k with
 |none=>if p k then some k else none
 |some a=>if p k && decide (f k<f a) then some k else some a:=rfl
theorem B9 {m:Nat} {f:Nat->Nat} {n:Int} {i:Nat} {K:List T->Prop} (e:n=i) (h:i<m) (k:K [ti (f i)]):∃row,0<=n∧(a0c m f)[n.toNat]? =some row∧K row:=by
 subst e;exact ⟨_,by omega,by rw [show (i:Int).toNat=i by omega,a6w h],k⟩
abbrev a6k (m:Nat) (f:Nat->Nat):S:=.c (.t (.sl 1 .any (a0c m f)))
set_option maxHeartbeats 1000000 in
theorem a57 (m:Nat) (hm:m<=100000) (f:Nat->Nat) (p:Nat->Bool) (g:FuncId) (caps:List T) (hg:∀i:Nat,i<m->a8 Tryz.prog g (a7 .i64 i::caps.map fun x=>.c (.t x)) [] (d9 (p i)) []):
 a8 Tryz.prog 176 [a6k m f,.c (.t (.fn (.func g) caps))] [] (a7 .i64 (leI (S6 f p m))) []:=by
 have m1:(a0c m f).length=m:=p7 m f
 (refine ac Tryz.func176 ?_;(conv=>whnf);repeat (refine zy ?_;conv=>whnf))
 repeat' (first|refine zx ?_|refine zd ?_ ?_<;>intro h<;>try omega|fail)<;>conv=>whnf
 refine i3 c9 (fun k=>([a6k m f,S.c (C.t (T.fn (.func g) caps)),J,J,J,a7 .i64 (leI (S6 f p k)),J,J,a6k m f,a7 .i64 m,a7 .i64 k]++Jn 22,[])) m (fun _=>True) [] trivial
  ⟨rfl,rfl,trivial,⟨i8 rfl,i8 rfl,c7 rfl,i8 rfl,c7 (by omega),c7 rfl,trivial⟩⟩ ?_
 intro k hk _
 by_cases hlt:k<m
 ·have hgr:=hg k hlt
  have ha:(a7 .i64 (k:Int)::caps.map fun x=>S.c (C.t x)).all S.isT=true:=by simp [S.isT,C.isT,a7]
  cases hp:p k with
  |false=>
   rw [hp] at hgr
   have e1:leI (S6 f p k)=leI (S6 f p (k+1)):=by
    rw [a5a,hp];cases S6 f p k<;>rfl
   conv=>whnf
   repeat' (first|refine zx ?_|refine .inl ⟨_,_,F9 hgr ha rfl,?_⟩|refine B9 rfl hlt ?_|refine zd ?_ ?_<;>intro h<;>try omega|fail)<;>conv=>whnf
   all_goals first
    |omega
    |exact ⟨hlt,trivial,[],rfl,rfl,trivial,⟨rfl,rfl,c7 e1,rfl,rfl,c7 rfl,trivial⟩⟩
  |true=>
   rw [hp] at hgr
   cases hl:S6 f p k with
   |none=>
    have hle:leI none=-1:=rfl
    have e1:(k:Int)=leI (S6 f p (k+1)):=by rw [a5a,hl,hp];rfl
    conv=>whnf
    repeat' (first|refine zx ?_|refine .inl ⟨_,_,F9 hgr ha rfl,?_⟩|refine B9 rfl hlt ?_|refine zd ?_ ?_<;>intro h<;>try omega|fail)<;>conv=>whnf
    all_goals first
     |omega
     |exact ⟨hlt,trivial,[],rfl,rfl,trivial,⟨rfl,rfl,c7 e1,rfl,rfl,c7 rfl,trivial⟩⟩
   |some b=>
    have hb:=(E4 hl).1
    have hle:leI (some b)=b:=rfl
    by_cases hc:f k<f b
    ·have e1:(k:Int)=leI (S6 f p (k+1)):=by rw [a5a,hl,hp];simp [hc,leI]
     conv=>whnf
     repeat' (first|refine zx ?_|refine .inl ⟨_,_,F9 hgr ha rfl,?_⟩|refine B9 rfl hlt ?_|refine B9 (i:=b) hle (by omega) ?_|refine zd ?_ ?_<;>intro h<;>try omega|fail)<;>conv=>whnf
     all_goals first
      |omega
      |exact ⟨hlt,trivial,[],rfl,rfl,trivial,⟨rfl,rfl,c7 e1,rfl,rfl,c7 rfl,trivial⟩⟩
    ·have e1:leI (some b)=leI (S6 f p (k+1)):=by rw [a5a,hl,hp];simp [hc,leI]
     conv=>whnf
     repeat' (first|refine zx ?_|refine .inl ⟨_,_,F9 hgr ha rfl,?_⟩|refine B9 rfl hlt ?_|refine B9 (i:=b) hle (by omega) ?_|refine zd ?_ ?_<;>intro h<;>try omega|fail)<;>conv=>whnf
     all_goals first
      |omega
      |exact ⟨hlt,trivial,[],rfl,rfl,trivial,⟨rfl,rfl,c7 e1,rfl,rfl,c7 rfl,trivial⟩⟩
 ·have hke:k=m:=by omega
  subst hke
  conv=>whnf
  repeat' (first|refine zx ?_|refine zd ?_ ?_<;>intro h<;>try omega|fail)<;>conv=>whnf
  all_goals first
   |omega
   |exact n6 rfl
def a8G (m n:Nat) (D:Fd):List (List T):=(List.range m).map fun i=>j0 (fz (D.V i))++[T.sl 4 .any ((rF n (D.A i)).map j0)]
def b98 (m n:Nat) (fr:List (Nat × Bool)) (D:Fd):List T:=[ti n,.sl 5 .any (a8G m n D),.sl 4 .any ((rF n D.G).map j0),.sl 1 .any (a0c m D.O),.sl 1 .any (a0c n D.F),.sl 2 .any (X5 fr)]
theorem a8g {m n:Nat} {D:Fd} {i:Nat} (h:i<m):(a8G m n D)[i]? =some (j0 (fz (D.V i))++[T.sl 4 .any ((rF n (D.A i)).map j0)]):=by simp [a8G,h]
theorem a4U (m n:Nat) (D:Fd):(a8G m n D).length=m:=by simp [a8G]
theorem a09 {m n:Nat} {D:Fd} {x:Int} {i:Nat} {K:List T->Prop} (e:x=i) (h:i<m) (k:K (j0 (fz (D.V i))++[T.sl 4 .any ((rF n (D.A i)).map j0)])):∃row,0<=x∧(a8G m n D)[x.toNat]? =some row∧K row:=by
 subst e;exact ⟨_,by omega,by rw [show (i:Int).toNat=i by omega,a8g h],k⟩
theorem a3c {n:Nat} {g:Nat->Rat} {x:Int} {j:Nat} {K:List T->Prop} (e:x=j) (h:j<n) (k:K (j0 (fz (g j)))):∃row,0<=x∧((rF n g).map j0)[x.toNat]? =some row∧K row:=by
 subst e;exact ⟨_,by omega,by rw [show (j:Int).toNat=j by omega,lba,E7 h];rfl,k⟩
theorem b52 (x:Rat):(fz x).p.sg<0↔x<0:=by
 show x.num.sign<0↔_
 rw [aj4];unfold sgR;split<;>(try split)<;>simp_all
theorem b53 (x:Rat):(fz x).p.sg > 0↔0<x:=by
 show x.num.sign > 0↔_
 rw [aj4];unfold sgR
 split
 ·constructor
  ·intro h;omega
  ·intro h;grind
 ·split<;>simp_all
abbrev a5W (m n:Nat) (fr:List (Nat × Bool)) (D:Fd):T:=.ptr [.ptr (b98 m n fr D)]
theorem b45 (m n:Nat) (fr:List (Nat × Bool)) (D:Fd) (i:Nat) (hi:i<m):
 a8 Tryz.prog 177 (a7 .i64 i::[a5W m n fr D].map fun x=>.c (.t x)) [] (d9 (decide (D.V i<0))) []:=by
 have h:=b52 (D.V i)
 (refine ac Tryz.func177 ?_;(conv=>whnf);repeat (refine zy ?_;conv=>whnf))
 repeat' (first|refine zx ?_|refine a09 rfl hi ?_|refine zd ?_ ?_<;>intro h<;>try omega|fail)<;>conv=>whnf
 all_goals (refine b9 ?_;simp_all)
theorem b3C (m n:Nat) (fr:List (Nat × Bool)) (D:Fd) (j:Nat) (hj:j<n):
 a8 Tryz.prog 178 (a7 .i64 j::[a5W m n fr D].map fun x=>.c (.t x)) [] (d9 (decide (0<D.G j))) []:=by
 have h:=b53 (D.G j)
 (refine ac Tryz.func178 ?_;(conv=>whnf);repeat (refine zy ?_;conv=>whnf))
 repeat' (first|refine zx ?_|refine a3c rfl hj ?_|refine zd ?_ ?_<;>intro h<;>try omega|fail)<;>conv=>whnf
 all_goals (refine b9 ?_;simp_all)
theorem ar9 (m n:Nat) (fr:List (Nat × Bool)) (D:Fd) (r j:Nat) (hr:r<m) (hj:j<n):
 a8 Tryz.prog 179 (a7 .i64 j::[a5W m n fr D,T.ptr [ti r]].map fun x=>.c (.t x)) [] (d9 (decide (D.A r j<0))) []:=by
 have h:=b52 (D.A r j)
 (refine ac Tryz.func179 ?_;(conv=>whnf);repeat (refine zy ?_;conv=>whnf))
 repeat' (first|refine zx ?_|refine a09 rfl hr ?_|refine a3c rfl hj ?_|refine zd ?_ ?_<;>intro h<;>try omega|fail)<;>conv=>whnf
 all_goals (refine b9 ?_;simp_all)
theorem ar6 (m n:Nat) (fr:List (Nat × Bool)) (D:Fd) (i s:Nat) (hi:i<m) (hs:s<n):
 a8 Tryz.prog 180 (a7 .i64 i::[a5W m n fr D,T.ptr [ti s]].map fun x=>.c (.t x)) [] (d9 (decide (0<D.A i s))) []:=by
 have h:=b53 (D.A i s)
 (refine ac Tryz.func180 ?_;(conv=>whnf);repeat (refine zy ?_;conv=>whnf))
 repeat' (first|refine zx ?_|refine a09 rfl hi ?_|refine a3c rfl hs ?_|refine zd ?_ ?_<;>intro h<;>try omega|fail)<;>conv=>whnf
 all_goals (refine b9 ?_;simp_all)
theorem b1D {H:Hp} {ia ir n s:Nat} {a row:Nat->Rat} (hne:ia≠ir) (ga:H[ia]? =some (flB (rF n a))) (gr:H[ir]? =some (flB (rF n row))) (hn:n<=1000) (hs:s<n) (ha:∀j,j<n->rl (a j)<=30000) (hr:∀j,j<n->rl (row j)<=30000):
 a8 Tryz.prog 209 [.c (.own ia 0 n true),.c (.own ir 0 n true),a7 .i64 s] H (.tup []) (H.set ia (flB (rF n (tkA a row s)))):=by
 have la:ia<H.length:=(lbe.1 ga).1
 refine O0 [ia,ir] (bb9 n s a row hn hs ha hr) rfl rfl rfl (by simp;exact hne) ?_ ?_ (by simp) rfl rfl (by simp) ?_ ?_
 ·intro i k hk
  match i,hk with
  |0,hk=>injection hk with hk;subst hk;exact ⟨rfl,rfl,a3d _,_,ga,C4 rfl⟩
  |1,hk=>injection hk with hk;subst hk;exact ⟨rfl,rfl,a3d _,_,gr,C4 rfl⟩
 ·intro k hk
  simp at hk
  rcases hk with rfl|rfl<;>(intro h;cases h)
 ·intro i k hk
  match i,hk with
  |0,hk=>
   injection hk with hk;subst hk
   refine ⟨_,?_,C4 rfl⟩
   show (H.set ia _)[ia]? =_
   rw [lbg,if_pos rfl,if_pos la]
  |1,hk=>
   injection hk with hk;subst hk
   refine ⟨_,?_,C4 rfl⟩
   show (H.set ia _)[ir]? =_
   rw [lbg,if_neg hne];exact gr
 ·intro j hj hjn
  simp at hjn
  rw [lbg,if_neg (fun h=>hjn.1 h.symm)]
theorem a1P {b m n i r:Nat} {V:Nat->Rat} {K:List C->Prop} (e:i=r) (h:r<m) (k:K (frC (fz (V r))++[C.own (r+b) 0 n true])):∃row,(O5 b m n V)[i]? =some row∧K row:=by
 subst e;exact ⟨_,a2e h,k⟩
theorem b1W {rows:List (List C)} {i:Nat} {x:List C} {K:List C->Prop} (h:i<rows.length) (k:K x):∃row,(rows.set i x)[i]? =some row∧K row:=⟨x,List.getElem?_set_self h,k⟩
theorem b92 {rows:List (List C)} {i j:Nat} {x:List C} {K:List C->Prop} (h:i≠j) (k:∃row,rows[j]? =some row∧K row):∃row,(rows.set i x)[j]? =some row∧K row:=by
 rw [List.getElem?_set_ne h];exact k
def a47 (a:Nat->Rat) (p:Rat) (s k:Nat):Nat->Rat:=fun j=>if j<k∧j≠s then a j / p else a j
def A1 (D:Fd) (r s k:Nat):Nat->Nat->Rat:=fun i=>if i=r then a47 (D.A r) (D.A r s) s k else D.A i
theorem bj0 {D:Fd} {r s k:Nat}:A1 D r s k r k=D.A r k:=by unfold A1 a47;rw [if_pos rfl,if_neg (by omega)]
theorem bl1 {D:Fd} {r s k:Nat}:A1 D r s k r s=D.A r s:=by unfold A1 a47;rw [if_pos rfl,if_neg (by omega)]
theorem b97 {D:Fd} {r s k:Nat} (h:k≠s):(fun i=>if i=r then (fun j=>if j=k then D.A r k / D.A r s else A1 D r s k r j) else A1 D r s k i)=A1 D r s (k+1):=by
 funext i j
 by_cases hi:i=r
 ·subst hi
  simp only [if_true]
  unfold A1 a47
  simp only [if_true]
  by_cases hj:j=k
  ·subst hj;rw [if_pos rfl,if_pos ⟨by omega,h⟩]
  ·rw [if_neg hj]
   have:(j<k∧j≠s)↔(j<k+1∧j≠s):=by omega
   simp only [this]
 ·rw [if_neg hi];unfold A1;rw [if_neg hi,if_neg hi]
theorem b7o {D:Fd} {r s:Nat}:A1 D r s s=A1 D r s (s+1):=by
 funext i j;unfold A1 a47
 have:(j<s∧j≠s)↔(j<s+1∧j≠s):=by omega
 split
 ·simp only [this]
 ·rfl
theorem b80 {D:Fd} {r s k:Nat} (h:D.A r k=0):A1 D r s k=A1 D r s (k+1):=by
 funext i j;unfold A1 a47
 split
 ·show (if j<k∧j≠s then D.A r j / D.A r s else D.A r j)=if j<k+1∧j≠s then D.A r j / D.A r s else D.A r j
  by_cases hj:j=k
  ·subst hj
   rw [if_neg (show ¬(j<j∧j≠s) by omega)]
   split
   ·rw [h];grind
   ·rfl
  ·have:(j<k∧j≠s)↔(j<k+1∧j≠s):=by omega
   simp only [this]
 ·rfl
theorem b2E {m n r:Nat} {A B:Nat->Nat->Rat} {g:Nat->Rat} (h:r<m) (e:(fun i=>if i=r then g else A i)=B):(mF m n A).set r (rF n g)=mF m n B:=by rw [b4T h,e]
def V1 (D:Fd) (r s:Nat):Nat->Rat:=fun i=>if i=r then D.V r / D.A r s else D.V i
def V2 (D:Fd) (r s k:Nat):Nat->Rat:=fun i=>if i=r then D.V r / D.A r s else if i<k then D.V i - D.A i s*(D.V r / D.A r s) else D.V i
def A2 (D:Fd) (r s k:Nat):Nat->Nat->Rat:=fun i=>if i=r then D.pRow r s else if i<k then tkA (D.A i) (D.pRow r s) s else D.A i
theorem aN8 {a row:Nat->Rat} {s:Nat} (h:a s=0):tkA a row s=a:=by
 funext j;unfold tkA
 by_cases hj:j=s
 ·rw [if_pos hj,hj,h];grind
 ·rw [if_neg hj,h];grind
theorem a0h {m i r:Nat} {f:Nat->Nat} {K:List C->Prop} (e:i=r) (h:r<m) (k:K [C.t (ti (f r))]):∃row,(toC (a0c m f))[i]? =some row∧K row:=by
 subst e;exact ⟨_,by simp [toC,a6w h],k⟩
theorem H6 {α β:Type} {f:β->α} {M:List β} {T:List α} {i:Nat} {x:β} (h:M[i]? =some x):(M.map f++T)[i]? =some (f x):=by
 rw [lbb (by simpa using (lbe.1 h).1),lba,h];rfl
theorem b4V {α β:Type} {f:β->α} {M:List β} {T:List α} {i:Nat} {x:β} (h:i<M.length):(M.map f++T).set i (f x)=(M.set i x).map f++T:=by
 rw [b28 _ _ (by simpa using h),←a2Y]
theorem b7q {m n:Nat} {D:Fd} {r s:Nat} (hr:r<m) (hs:s<n):(mF m n (A1 D r s n)).set r ((rF n (A1 D r s n r)).set s (fz (((1:Int):Rat) / D.A r s)))=mF m n (A2 D r s 0):=by
 rw [T8 hs,b4T hr]
 refine aU9 fun i hi j hj=>?_
 unfold A2
 by_cases hir:i=r
 ·rw [if_pos hir,if_pos hir]
  unfold Fd.pRow A1 a47
  rw [if_pos rfl]
  by_cases hjs:j=s
  ·rw [if_pos hjs,if_pos hjs];rfl
  ·rw [if_neg hjs,if_neg hjs,if_pos ⟨hj,hjs⟩]
 ·rw [if_neg hir,if_neg hir,if_neg (by omega)];unfold A1;rw [if_neg hir]
theorem b7O {D:Fd} {r s:Nat}:V2 D r s 0=V1 D r s:=by
 funext i;unfold V2 V1;split
 ·rfl
 ·rw [if_neg (by omega)]
theorem bi0 {D:Fd} {r s k:Nat}:V2 D r s k r=D.V r / D.A r s:=by unfold V2;rw [if_pos rfl]
theorem b6t {D:Fd} {r s k:Nat} (h:k≠r):V2 D r s k k=D.V k:=by unfold V2;rw [if_neg h,if_neg (by omega)]
theorem bk5 {D:Fd} {r s k:Nat}:A2 D r s k r=D.pRow r s:=by unfold A2;rw [if_pos rfl]
theorem b9i {D:Fd} {r s k:Nat} (h:k≠r):A2 D r s k k=D.A k:=by unfold A2;rw [if_neg h,if_neg (by omega)]
theorem b2n {D:Fd} {r s k:Nat} (h:k≠r):(fun i=>if i=k then D.V k - D.A k s*(D.V r / D.A r s) else V2 D r s k i)=V2 D r s (k+1):=by
 funext i
 by_cases hi:i=k
 ·subst hi;rw [if_pos rfl];unfold V2;rw [if_neg h,if_pos (by omega)]
 ·rw [if_neg hi];unfold V2
  have:(i<k)↔(i<k+1):=by omega
  simp only [this]
theorem b1R {D:Fd} {r s k:Nat} (h:k≠r):(fun i=>if i=k then tkA (D.A k) (D.pRow r s) s else A2 D r s k i)=A2 D r s (k+1):=by
 funext i
 by_cases hi:i=k
 ·subst hi;rw [if_pos rfl];unfold A2;rw [if_neg h,if_pos (by omega)]
 ·rw [if_neg hi];unfold A2
  have:(i<k)↔(i<k+1):=by omega
  simp only [this]
theorem b7A {D:Fd} {r s:Nat}:V2 D r s r=V2 D r s (r+1):=by
 funext i;unfold V2
 by_cases h:i=r
 ·rw [if_pos h,if_pos h]
 ·have:(i<r)↔(i<r+1):=by omega
  simp only [this]
theorem b8L {D:Fd} {r s:Nat}:A2 D r s r=A2 D r s (r+1):=by
 funext i;unfold A2
 by_cases h:i=r
 ·rw [if_pos h,if_pos h]
 ·have:(i<r)↔(i<r+1):=by omega
  simp only [this]
theorem b7L {D:Fd} {r s k:Nat} (h:k≠r) (hz:D.A k s=0):V2 D r s k=V2 D r s (k+1):=by
 rw [← b2n h,hz];funext i
 by_cases hi:i=k
 ·subst hi;rw [if_pos rfl,b6t h];grind
 ·rw [if_neg hi]
theorem b9c {D:Fd} {r s k:Nat} (h:k≠r) (hz:D.A k s=0):A2 D r s k=A2 D r s (k+1):=by
 rw [← b1R h,aN8 hz];funext i
 by_cases hi:i=k
 ·subst hi;rw [if_pos rfl,b9i h]
 ·rw [if_neg hi]
theorem ba2 {D:Fd} {r s m i:Nat} (h:i<m):V2 D r s m i=(D.exch r s).V i:=by
 unfold V2 Fd.exch;simp only
 split
 ·rfl
 ·first|rfl|rw [if_pos h]
theorem b9I {D:Fd} {r s m i j:Nat} (h:i<m):A2 D r s m i j=(D.exch r s).A i j:=by
 unfold A2 Fd.exch;simp only
 split
 ·rfl
 ·first|rfl|(rw [if_pos h];rfl)
abbrev G4 (m n:Nat) (fr:List (Nat × Bool)) (V:Nat->Rat) (G:Nat->Rat) (O F:Nat->Nat) (A:Nat->Nat->Rat) (T:Hp):Hp:=
 b1q m n fr.length::a00 6 m n V::flB (rF n G)::U8 m O::U8 n F::a0H fr::((mF m n A).map flB++T)
structure BdD (m n B:Nat) (D:Fd):Prop where
 v:∀i,i<m->rl (D.V i)<=B
 a:∀i,i<m->∀j,j<n->rl (D.A i j)<=B
 g:∀j,j<n->rl (D.G j)<=B
theorem b18 {b m n r i:Nat} {V:Nat->Rat} {x:List C} {v:Rat} (e:i=r) (h:r<m) (hx:x=frC (fz v)++[C.own (r+b) 0 n true]):(O5 b m n V).set i x=O5 b m n (fun i=>if i=r then v else V i):=by
 subst e hx;exact b30 h
theorem aV9 {m n:Nat} {fr:List (Nat × Bool)} {V G:Nat->Rat} {O F:Nat->Nat} {A:Nat->Nat->Rat} {T T':Hp}:G4 m n fr V G O F A (T++T')=G4 m n fr V G O F A T++T':=by
 show b1q m n fr.length::a00 6 m n V::flB (rF n G)::U8 m O::U8 n F::a0H fr::((mF m n A).map flB++(T++T'))=b1q m n fr.length::a00 6 m n V::flB (rF n G)::U8 m O::U8 n F::a0H fr::(((mF m n A).map flB++T)++T')
 rw [lbE]
theorem a6D {m n:Nat} {fr:List (Nat × Bool)} {V G:Nat->Rat} {O F:Nat->Nat} {A:Nat->Nat->Rat} {T:Hp}:(G4 m n fr V G O F A T).length=m+6+T.length:=by simp [b7];omega
theorem b2v {m n N:Nat} {fr:List (Nat × Bool)} {V G:Nat->Rat} {O F:Nat->Nat} {A:Nat->Nat->Rat} {T:Hp} (h:m+6<=N) (hT:∀k ∈ T,okB N k):∀k ∈ G4 m n fr V G O F A T,okB N k:=by
 intro k hk
 simp only [lbB,lbA] at hk
 rcases hk with rfl|rfl|rfl|rfl|rfl|rfl|hk|hk
 ·exact b2J (by omega)
 ·exact ag6 h
 ·exact D8 rfl
 ·exact D8 rfl
 ·exact D8 rfl
 ·exact D8 rfl
 ·obtain ⟨l,_,rfl⟩:=lby.1 hk
  exact D8 rfl
 ·exact hT k hk
theorem R4 {n0 N m n:Nat} {fr:List (Nat × Bool)} {V G:Nat->Rat} {O F:Nat->Nat} {A:Nat->Nat->Rat} {T T' H:Hp} {env env':Env} (hH:H=G4 m n fr V G O F A (T++T')) (hN:m+6+T.length=N) (h0:n0<=N) (hT:∀k ∈ T,okB N k)
 (hE:a0g (idR N) H env env'):Ent n0 (idR N) env H env' (G4 m n fr V G O F A T):=by
 refine a7W (by rw [a6D];exact hN) h0 (b2v (by omega) hT) (fun i hi=>?_) hE
 rw [hH,aV9,lbb (by rw [a6D];omega)]
theorem ab4 {n0 N m n:Nat} {fr:List (Nat × Bool)} {V G:Nat->Rat} {O F:Nat->Nat} {A:Nat->Nat->Rat} {T H:Hp} {r s:S} (hH:H=G4 m n fr V G O F A T) (hN:m+6=N) (h0:n0<=N) (hE:a9d (idR N) H r s):
 Fin n0 r H s (G4 m n fr V G O F A []):=by
 refine ax2 (by rw [a6D];exact hN) h0 (b2v (by omega) (by simp)) (fun i hi=>?_) hE
 have e:G4 m n fr V G O F A T=G4 m n fr V G O F A []++T:=aV9 (T:=[]) (T':=T)
 rw [hH,e,lbb (by rw [a6D];simp;omega)]
theorem a0l {b0 b1 b2 b3 b4 b5 c0 c1 c2 c3 c4 c5:Blk} {L L':Hp} (h0:b0=c0) (h1:b1=c1) (h2:b2=c2) (h3:b3=c3) (h4:b4=c4) (h5:b5=c5) (h6:L=L'):b0::b1::b2::b3::b4::b5::L=c0::c1::c2::c3::c4::c5::L':=by
 subst h0 h1 h2 h3 h4 h5 h6;rfl
theorem ap9 {b m n r i:Nat} {V V':Nat->Rat} {x:List C} {v:Rat} (e:i=r) (h:r<m) (hx:x=frC (fz v)++[C.own (r+b) 0 n true]) (hV:(fun i=>if i=r then v else V i)=V'):p5 (a00 b m n V) ((a00 b m n V).rows.set i x)=a00 b m n V':=by
 have:=b18 (V:=V) e h hx
 subst hV
 unfold p5
 simp only [this]
theorem a71 {m r i v:Nat} {O:Nat->Nat} (e:i=r) (h:r<m):p5 (U8 m O) ((U8 m O).rows.set i [C.t (ti v)])=U8 m (fun i=>if i=r then v else O i):=by
 subst e
 have:(toC (a0c m O)).set i [C.t (ti v)]=toC (a0c m (fun j=>if j=i then v else O j)):=by
  rw [← b6V h];simp [toC,a2Y]
 unfold p5
 simp only [this]
theorem aG2 {N:Nat} {x:Rat}:okB N (frX x):=D8 (rows:=[j0 (fz x)]) rfl
set_option maxHeartbeats 4000000 in
theorem b0S (m n:Nat) (fr:List (Nat × Bool)) (D:Fd) (r s:Nat) (hm:m<=100000) (hn:n<=1000) (hr:r<m) (hs:s<n) (hp:D.A r s≠0) (hB:BdD m n 30000 D) (hB':BdD m n 30000 (D.exch r s)):
 a8 Tryz.prog 181 [.c (.ptr 0 0 0),a7 .i64 r,a7 .i64 s] (W7 m n fr D) (.tup []) (W7 m n fr (D.exch r s)):=by
 have eR:0+(r:Int).toNat=r:=by omega
 have eS:0+(s:Int).toNat=s:=by omega
 have gA:(mF m n D.A)[r]? =some (rF n (D.A r)):=M6 hr
 have gs:(rF n (D.A r))[0+(s:Int).toNat]? =some (fz (D.A r s)):=by rw [eS,E7 hs]
 have bp:=hB.a r hr s hs
 have ov:=aY8 (D.V r) (D.A r s) hp (by have:=hB.v r hr;omega) (by omega)
 (refine ac Tryz.func181 ?_;(conv=>whnf);repeat (refine zy ?_;conv=>whnf))
 repeat' (first|refine zx ?_|refine qp ov ?_|refine qp y8 ?_|refine a4u (b7 _ _ _) ?_|refine D3 ?_|refine a2O ?_|refine a1P eR hr ?_|refine aO0 gA ?_|refine U1 gA ?_|refine B5 (b7 _ _ _) ?_|refine a7F (b7 _ _ _) ?_|refine k7 gs ?_|refine b1W (by show _<(O5 _ _ _ _).length;rw [y8];omega) ?_|refine zd ?_ ?_<;>intro h<;>try omega|fail)<;>conv=>whnf
 refine i3 c9 (fun k=>([S.c (C.ptr 0 0 0),a7 .i64 r,a7 .i64 s,J,J,J,S.c (C.ptr 1 r 0),S.c (C.ptr (m+6) 0 0)]++Jn 29++[a7 .i64 n,a7 .i64 k]++Jn 144,G4 m n fr (V1 D r s) D.G D.O D.F (A1 D r s k) [frX (D.A r s)])) n (fun _=>True) (idR (m+7)) trivial ?_ ?_
 ·refine R4 (T':=[]) ?_ rfl (by simp [b7]) (by intro k hk;simp at hk;subst hk;exact aG2) ?_
  ·refine a0l rfl (ap9 eR hr rfl rfl) rfl rfl rfl rfl ?_
   have:A1 D r s 0=D.A:=by funext i j;unfold A1 a47;split<;>simp_all
   rw [this];rfl
  ·exact ⟨⟨k6 (by omega),rfl,rfl⟩,rfl,rfl,⟨k6 (by omega),eR,rfl⟩,⟨k6 (by omega),rfl,rfl⟩,c7 (by omega),c7 rfl,trivial⟩
 intro k hk _
 have gA1:(mF m n (A1 D r s k))[r]? =some (rF n (A1 D r s k r)):=M6 hr
 have lA:r<(mF m n (A1 D r s k)).length:=by rw [b7];exact hr
 by_cases hlt:k<n
 ·have eK:0+(k:Int).toNat=k:=by omega
  have gk:(rF n (A1 D r s k r))[0+(k:Int).toNat]? =some (fz (D.A r k)):=by rw [eK,E7 hlt,bj0]
  have bk:=hB.a r hr k hlt
  have ze:=af4 (D.A r k)
  have ovk:=aY8 (D.A r k) (D.A r s) hp (by omega) (by omega)
  by_cases hks:k=s
  ·subst hks
   conv=>whnf
   repeat' (first|refine zx ?_|refine qp ze ?_|refine qp ovk ?_|refine j5 (b7 _ _ _) ?_|refine D3 ?_|refine i7 ?_|refine a1P rfl hr ?_|refine U1 gA1 ?_|refine B5 (b7 _ _ _) ?_|refine k7 gk ?_|refine zd ?_ ?_<;>intro h<;>try omega|fail)<;>conv=>whnf
   all_goals first
    |omega
    |exact ⟨hlt,trivial,idR (m+7),R4 (T':=[]) (a0l rfl rfl rfl rfl rfl rfl (by rw [← b7o];rfl)) rfl (by simp [b7]) (by intro k hk;simp at hk;subst hk;exact aG2) ⟨⟨k6 (by omega),rfl,rfl⟩,rfl,rfl,⟨k6 (by omega),rfl,rfl⟩,⟨k6 (by omega),rfl,rfl⟩,rfl,c7 (by omega),trivial⟩⟩
  ·by_cases hz:D.A r k=0
   ·rw [lbI hz] at ze
    conv=>whnf
    repeat' (first|refine zx ?_|refine qp ze ?_|refine qp ovk ?_|refine j5 (b7 _ _ _) ?_|refine D3 ?_|refine i7 ?_|refine a1P rfl hr ?_|refine U1 gA1 ?_|refine B5 (b7 _ _ _) ?_|refine k7 gk ?_|refine zd ?_ ?_<;>intro h<;>try omega|fail)<;>conv=>whnf
    all_goals first
     |omega
     |exact ⟨hlt,trivial,idR (m+7),R4 (T':=[]) (a0l rfl rfl rfl rfl rfl rfl (by rw [← b80 hz];rfl)) rfl (by simp [b7]) (by intro k hk;simp at hk;subst hk;exact aG2) ⟨⟨k6 (by omega),rfl,rfl⟩,rfl,rfl,⟨k6 (by omega),rfl,rfl⟩,⟨k6 (by omega),rfl,rfl⟩,rfl,c7 (by omega),trivial⟩⟩
   ·rw [lbK hz] at ze
    conv=>whnf
    repeat' (first|refine zx ?_|refine qp ze ?_|refine qp ovk ?_|refine j5 (b7 _ _ _) ?_|refine D3 ?_|refine i7 ?_|refine a1P rfl hr ?_|refine U1 gA1 ?_|refine B5 (b7 _ _ _) ?_|refine k7 gk ?_|refine aq9 lA (H7 (y:=fz (D.A r k / D.A r s)) eK) ?_|refine zd ?_ ?_<;>intro h<;>try omega|fail)<;>conv=>whnf
    all_goals first
     |omega
     |exact ⟨hlt,trivial,idR (m+7),R4 (T':=[]) (a0l rfl rfl rfl rfl rfl rfl (by rw [T8 hlt,b2E hr (b97 hks)];rfl)) rfl (by simp [b7]) (by intro k hk;simp at hk;subst hk;exact aG2) ⟨⟨k6 (by omega),rfl,rfl⟩,rfl,rfl,⟨k6 (by omega),rfl,rfl⟩,⟨k6 (by omega),rfl,rfl⟩,rfl,c7 (by omega),trivial⟩⟩
 ·have hke:k=n:=by omega
  subst hke
  have gs1:(rF k (A1 D r s k r))[0+(s:Int).toNat]? =some (fz (D.A r s)):=by rw [eS,E7 hs,bl1]
  have i1:=B3 1 (by decide) (by decide)
  have ov1:=aY8 ((1:Int):Rat) (D.A r s) hp (by have:=rl1;show rl 1<=_;omega) (by omega)
  conv=>whnf
  repeat' (first|refine zx ?_|refine qp i1 ?_|refine qp ov1 ?_|refine j5 (b7 _ _ _) ?_|refine D3 ?_|refine i7 ?_|refine a1P rfl hr ?_|refine U1 gA1 ?_|refine B5 (b7 _ _ _) ?_|refine k7 gs1 ?_|refine aq9 lA (H7 (y:=fz (((1:Int):Rat) / D.A r s)) eS) ?_|refine zd ?_ ?_<;>intro h<;>try omega|fail)<;>conv=>whnf
  all_goals try omega
  refine i3 c9 (fun q=>([S.c (C.ptr 0 0 0),a7 .i64 r,a7 .i64 s,J,J,J,S.c (C.ptr 1 r 0)]++Jn 77++[a7 .i64 m,a7 .i64 q]++Jn 97,G4 m k fr (V2 D r s q) D.G D.O D.F (A2 D r s q) [])) m (fun _=>True) (idR (m+6)) trivial ?_ ?_
  ·refine R4 (T:=[]) (T':=[frX (D.A r s)]) (a0l rfl (by rw [b7O]) rfl rfl rfl rfl (by rw [b7q hr hs];rfl)) rfl (by simp [b7]) (by simp) ⟨⟨k6 (by omega),rfl,rfl⟩,rfl,rfl,⟨k6 (by omega),rfl,rfl⟩,c7 (by omega),c7 rfl,trivial⟩
  have eP:∀j,(D.exch r s).A r j=D.pRow r s j:=fun j=>by show (if r=r then _ else _)=_;rw [if_pos rfl]
  have har:∀j,j<k->rl (D.pRow r s j)<=30000:=fun j hj=>by rw [← eP];exact hB'.a r hr j hj
  intro q hq _
  have gAr:(mF m k (A2 D r s q))[r]? =some (rF k (D.pRow r s)):=by rw [M6 hr,bk5]
  by_cases hqm:q<m
  ·have eQ:0+(q:Int).toNat=q:=by omega
   have lQ:q<(mF m k (A2 D r s q)).length:=by rw [b7];exact hqm
   have ze:=af4 (D.A q s)
   by_cases hqr:q=r
   ·subst hqr
    conv=>whnf
    repeat' (first|refine zx ?_|refine j5 (b7 _ _ _) ?_|refine D3 ?_|refine i7 ?_|refine zd ?_ ?_<;>intro h<;>try omega|fail)<;>conv=>whnf
    all_goals first
     |omega
     |exact ⟨hqm,trivial,idR (m+6),R4 (T:=[]) (T':=[]) (a0l rfl (by rw [← b7A]) rfl rfl rfl rfl (by rw [← b8L];rfl)) rfl (by simp [b7]) (by simp) ⟨⟨k6 (by omega),rfl,rfl⟩,rfl,rfl,⟨k6 (by omega),rfl,rfl⟩,rfl,c7 (by omega),trivial⟩⟩
   ·have gAq:(mF m k (A2 D r s q))[q]? =some (rF k (D.A q)):=by rw [M6 hqm,b9i hqr]
    have gqs:(rF k (D.A q))[0+(s:Int).toNat]? =some (fz (D.A q s)):=by rw [eS,E7 hs]
    by_cases hz:D.A q s=0
    ·rw [lbI hz] at ze
     conv=>whnf
     repeat' (first|refine zx ?_|refine qp ze ?_|refine j5 (b7 _ _ _) ?_|refine D3 ?_|refine i7 ?_|refine a1P eQ hqm ?_|refine U1 gAq ?_|refine k7 gqs ?_|refine zd ?_ ?_<;>intro h<;>try omega|fail)<;>conv=>whnf
     all_goals first
      |omega
      |exact ⟨hqm,trivial,idR (m+6),R4 (T:=[]) (T':=[]) (a0l rfl (by rw [← b7L hqr hz]) rfl rfl rfl rfl (by rw [← b9c hqr hz];rfl)) rfl (by simp [b7]) (by simp) ⟨⟨k6 (by omega),rfl,rfl⟩,rfl,rfl,⟨k6 (by omega),rfl,rfl⟩,rfl,c7 (by omega),trivial⟩⟩
    ·rw [lbK hz] at ze
     have b1:=hB.v q hqm
     have b2:=hB.a q hqm s hs
     have b3:=hB'.v r hr
     have haq:∀j,j<k->rl (D.A q j)<=30000:=hB.a q hqm
     have le:=b0V (V2 D r s q q) (D.A q s) (V2 D r s q r) (by rw [b6t hqr];omega) (by omega) (by rw [bi0];have e:(D.exch r s).V r=D.V r / D.A r s:=(by show (if r=r then _ else _)=_;rw [if_pos rfl]);rw [← e];omega)
     conv=>whnf
     repeat' (first|refine zx ?_|refine qp ze ?_|refine qp le ?_|refine qp y8 ?_|refine j5 (b7 _ _ _) ?_|refine D3 ?_|refine i7 ?_|refine a1P eQ hqm ?_|refine a1P rfl hr ?_|refine U1 gAq ?_|refine k7 gqs ?_|refine b1W (by show _<(O5 _ _ _ _).length;rw [y8];omega) ?_|refine b92 (by omega) (a1P rfl hr ?_)|refine .inr ⟨_,_,b1D (ia:=q+6) (ir:=r+6) (by omega) (H6 gAq) (H6 gAr) hn hs haq har,?_⟩|refine zd ?_ ?_<;>intro h<;>try omega|fail)<;>conv=>whnf
     all_goals first
      |omega
      |exact ⟨hqm,trivial,idR (m+6),R4 (T:=[]) (T':=[]) (a0l rfl (ap9 (v:=V2 D r s q q - D.A q s*V2 D r s q r) eQ hqm rfl (by rw [b6t hqr,bi0];exact b2n hqr)) rfl rfl rfl rfl (by rw [b4V lQ,b2E hqm (b1R hqr)];rfl)) rfl (by simp [b7]) (by simp) ⟨⟨k6 (by omega),rfl,rfl⟩,rfl,rfl,⟨k6 (by omega),rfl,rfl⟩,rfl,c7 (by omega),trivial⟩⟩
  ·have hqe:q=m:=by omega
   subst hqe
   have ggs:(rF k D.G)[0+(s:Int).toNat]? =some (fz (D.G s)):=by rw [eS,E7 hs]
   have ze:=af4 (D.G s)
   have eL:a00 6 q k (V2 D r s q)=a00 6 q k (D.exch r s).V:=by
    have:O5 6 q k (V2 D r s q)=O5 6 q k (D.exch r s).V:=lbp fun i hi=>by rw [ba2 (lbC.1 hi)]
    unfold a00;rw [this]
   have eA:mF q k (A2 D r s q)=mF q k (D.exch r s).A:=aU9 fun i hi j _=>b9I hi
   have eO:a0c q (fun i=>if i=r then D.F s else D.O i)=a0c q (D.exch r s).O:=rfl
   have eF:a0c k (fun j=>if j=s then D.O r else D.F j)=a0c k (D.exch r s).F:=rfl
   have e0:W7 q k fr (D.exch r s)=G4 q k fr (D.exch r s).V (D.exch r s).G (D.exch r s).O (D.exch r s).F (D.exch r s).A []:=by
    show _::_::_::_::_::_::_=_::_::_::_::_::_::(_++[])
    rw [a1p]
   by_cases hz:D.G s=0
   ·have eG:(D.exch r s).G=D.G:=by have:=aN8 (row:=D.pRow r s) hz;exact this
    rw [lbI hz] at ze
    conv=>whnf
    repeat' (first|refine zx ?_|refine qp ze ?_|refine qp 9 ?_|refine j5 (b7 _ _ _) ?_|refine D3 ?_|refine i7 ?_|refine k7 ggs ?_|refine a0h eR hr ?_|refine a0h eS hs ?_|refine bl0 [9] ?_|refine zd ?_ ?_<;>intro h<;>try omega|fail)<;>conv=>whnf
    all_goals first
     |omega
     |(rw [e0];exact ab4 (T:=[]) (a0l rfl eL (by rw [eG]) (a71 eR hr) (a71 eS hs) rfl (by rw [eA])) rfl (by simp [b7]) trivial)
   ·have eG:(D.exch r s).G=tkA D.G (D.pRow r s) s:=rfl
    rw [lbK hz] at ze
    conv=>whnf
    repeat' (first|refine zx ?_|refine qp ze ?_|refine qp 9 ?_|refine j5 (b7 _ _ _) ?_|refine D3 ?_|refine i7 ?_|refine k7 ggs ?_|refine a1P rfl hr ?_|refine a0h eR hr ?_|refine a0h eS hs ?_|refine bl0 [9] ?_|refine .inr ⟨_,_,b1D (ia:=2) (ir:=r+6) (by omega) rfl (H6 gAr) hn hs hB.g har,?_⟩|refine zd ?_ ?_<;>intro h<;>try omega|fail)<;>conv=>whnf
    all_goals first
     |omega
     |(rw [e0];exact ab4 (T:=[]) (a0l rfl eL (by rw [eG]) (a71 eR hr) (a71 eS hs) rfl (by rw [eA])) rfl (by simp [b7]) trivial)
theorem aB8 {H:Hp} {p:Nat->Prop} {ys:List C} {us:List T} (h2:VYL H p ys us):∀{ts:List T},VYL H p (ts.map C.t++ys) (ts++us)
 |[]=>h2
 |t::r=>⟨b7b,aB8 h2⟩
theorem b7g {m n:Nat} {fr:List (Nat × Bool)} {D:Fd} {X:Hp}:VY (G4 m n fr D.V D.G D.O D.F D.A X) (fun _=>True) (.own 1 0 m true) (.sl 5 .any (a8G m n D)):=by
 refine b5N (k:=a00 6 m n D.V) trivial rfl (fun h=>h) rfl (a4U m n D) ?_ ?_
 ·intro r hr
  obtain ⟨i,_,rfl⟩:=lby.1 hr
  rfl
 ·intro i r hi
  have him:i<m:=by have:=(lbe.1 hi).1;rwa [a4U] at this
  rw [a8g him] at hi
  injection hi with hi
  subst hi
  refine ⟨_,a2e him,?_⟩
  show VYL _ _ ((j0 (fz (D.V i))).map C.t++[C.own (i+6) 0 n true]) _
  have hv:VY (G4 m n fr D.V D.G D.O D.F D.A X) (fun _=>True) (C.own (i+6) 0 n true) (T.sl 4 .any ((rF n (D.A i)).map j0)):=
   .vc (y0 (k:=flB (rF n (D.A i))) trivial (H6 (M6 him)) (fun h=>h) rfl rfl (by simp [L4]))
  exact aB8 (ys:=[C.own (i+6) 0 n true]) (us:=[T.sl 4 .any ((rF n (D.A i)).map j0)]) (show _∧True from ⟨hv,trivial⟩)
theorem bd1 {m n:Nat} {fr:List (Nat × Bool)} {D:Fd} {X:Hp}:VY (G4 m n fr D.V D.G D.O D.F D.A X) (fun _=>True) (.ptr 0 0 0) (.ptr (b98 m n fr D)):=by
 refine ai7 (k:=b1q m n fr.length) trivial rfl (fun h=>h) rfl ⟨b7b,b7g,?_,?_,?_,?_,trivial⟩
 ·exact .vc (y0 (k:=flB (rF n D.G)) trivial rfl (fun h=>h) rfl rfl (by simp [L4]))
 ·exact .vc (y0 (k:=U8 m D.O) trivial rfl (fun h=>h) rfl rfl (by simp [p7]))
 ·exact .vc (y0 (k:=U8 n D.F) trivial rfl (fun h=>h) rfl rfl (by simp [p7]))
 ·exact .vc (y0 (k:=a0H fr) trivial rfl (fun h=>h) rfl rfl (by simp [X5]))
abbrev bxD:Blk:={ mode:=.live,elem:=243,size:=1,rows:=[[.ptr 0 0 0]],box:=true }
abbrev bxI (i:Int):Blk:={ mode:=.live,elem:=3,size:=1,rows:=[[.t (ti i)]],box:=true }
theorem aE6 {m n:Nat} {fr:List (Nat × Bool)} {D:Fd} {X:Hp}:VY (G4 m n fr D.V D.G D.O D.F D.A (bxD::X)) (fun _=>True) (.ptr (m+6) 0 0) (a5W m n fr D):=by
 refine ai7 (k:=bxD) trivial ?_ (fun h=>h) rfl ⟨bd1,trivial⟩
 show (((mF m n D.A).map flB)++bxD::X)[m]? =_
 rw [lbc (by simp [b7])]
 simp [b7]
theorem b5y {m n t:Nat} {fr:List (Nat × Bool)} {D:Fd} {X:Hp} {i:Int} (h:X[t]? =some (bxI i)):VY (G4 m n fr D.V D.G D.O D.F D.A X) (fun _=>True) (.ptr (m+6+t) 0 0) (.ptr [ti i]):=by
 refine ai7 (k:=bxI i) trivial ?_ (fun h=>h) rfl ⟨b7b,trivial⟩
 show (G4 m n fr D.V D.G D.O D.F D.A X)[m+6+t]? =_
 rw [show m+6+t=m+t+6 by omega]
 show (((mF m n D.A).map flB)++X)[m+t]? =_
 rw [lbc (by simp [b7])]
 simpa [b7] using h
theorem bf7 {m n:Nat} {fr:List (Nat × Bool)} {D:Fd} {X:Hp}:VYS (G4 m n fr D.V D.G D.O D.F D.A X) (fun _=>True) (.c (.own 3 0 m true)) (a6k m D.O):=.vc (y0 (k:=U8 m D.O) trivial rfl (fun h=>h) rfl rfl (by simp [p7]))
theorem bh3 {m n:Nat} {fr:List (Nat × Bool)} {D:Fd} {X:Hp}:VYS (G4 m n fr D.V D.G D.O D.F D.A X) (fun _=>True) (.c (.own 4 0 n true)) (a6k n D.F):=.vc (y0 (k:=U8 n D.F) trivial rfl (fun h=>h) rfl rfl (by simp [p7]))
theorem a9D {m n:Nat} {fr:List (Nat × Bool)} {D:Fd} {r s:Nat} (X:Hp) (h:a8 Tryz.prog 181 [.c (.ptr 0 0 0),a7 .i64 r,a7 .i64 s] (W7 m n fr D) (.tup []) (W7 m n fr (D.exch r s))):
 a8 Tryz.prog 181 [.c (.ptr 0 0 0),a7 .i64 r,a7 .i64 s] (G4 m n fr D.V D.G D.O D.F D.A X) (.tup []) (G4 m n fr (D.exch r s).V (D.exch r s).G (D.exch r s).O (D.exch r s).F (D.exch r s).A X):=by
 have hl:∀{D:Fd},∀k ∈ W7 m n fr D,k.mode=.live∧k.app=false:=by
  intro D k hk
  simp only [lbB] at hk
  rcases hk with rfl|rfl|rfl|rfl|rfl|rfl|hk
  ·exact ⟨rfl,rfl⟩
  ·exact ⟨rfl,rfl⟩
  ·exact ⟨rfl,rfl⟩
  ·exact ⟨rfl,rfl⟩
  ·exact ⟨rfl,rfl⟩
  ·exact ⟨rfl,rfl⟩
  ·obtain ⟨l,_,rfl⟩:=lby.1 hk
   exact ⟨rfl,rfl⟩
 exact a8U (n:=m+6) X h a2n a2n (by simp [okS,okC,a7,K5]) (fun k hk=>⟨(hl k hk).1,(hl k hk).2,a74 k hk⟩) (fun k hk=>⟨(by rw [(hl k hk).1];intro h;cases h),a74 k hk⟩) rfl rfl
def b1g:b62->Int × Int
 |.best=>(-1,-1)
 |.row r=>(r,-1)
 |.col s=>(-1,s)
 |.next r s=>(r,s)
theorem b64 {N:Nat} (h:0<N):okB N bxD:=by
 intro r hr c hc
 simp at hr;subst hr
 simp at hc;subst hc
 exact h
set_option maxHeartbeats 4000000 in
theorem b5J (m n:Nat) (fr:List (Nat × Bool)) (D0:Fd) (g0:Nat->Rat) (hm:m<=100000) (hn:n<=1000) (h0:a7T m n D0 g0 D0) (hB:∀D,W4 m n D0 D->BdD m n 30000 D):
 a8 Tryz.prog 137 [.c (.ptr 0 0 0)] (W7 m n fr D0) (.tup [a7 .i64 (b1g (y7 m n (ak4 m n D0))).1,a7 .i64 (b1g (y7 m n (ak4 m n D0))).2]) (W7 m n fr (ak4 m n D0)):=by
 (refine ac Tryz.func137 ?_;(conv=>whnf);repeat (refine zy ?_;conv=>whnf))
 repeat' (first|refine zx ?_|refine a4u (b7 _ _ _) ?_|refine a2O ?_|refine zd ?_ ?_<;>intro h<;>try omega|fail)<;>conv=>whnf
 refine t8 c9 (σ:=Fd) (fun D=>([J,S.c (C.ptr (m+6) 0 0)]++Jn 69,G4 m n fr D.V D.G D.O D.F D.A [bxD])) (fun D=>W4 m n D0 D) (fun D=>a8K m n D) D0 (idR (m+7)) b0j ?_ ?_
 ·refine R4 (T':=[]) (a0l rfl rfl rfl rfl rfl rfl (by rw [a1p,a1p];rfl)) rfl (by simp [b7]) (by intro k hk;simp at hk;subst hk;exact b64 (by omega)) ⟨⟨k6 (by omega),rfl,rfl⟩,trivial⟩
 intro D hD
 have bd:=hB D hD
 have inv:a7T m n D0 g0 D:=by obtain ⟨k,hk⟩:=hD;exact a4S h0 hk
 have l1:=a57 m hm D.O (fun i=>decide (D.V i<0)) 177 [a5W m n fr D] (fun i hi=>b45 m n fr D i hi)
 have l2:=a57 n (by omega) D.F (fun j=>decide (0<D.G j)) 178 [a5W m n fr D] (fun j hj=>b3C m n fr D j hj)
 have va1:∀X,X2 (G4 m n fr D.V D.G D.O D.F D.A (bxD::X)) (fun _=>True) [.c (.own 3 0 m true),.c (.fn (.func 177) [.ptr (m+6) 0 0])] [a6k m D.O,.c (.t (.fn (.func 177) [a5W m n fr D]))]:=
  fun X=>⟨bf7,aQ7 (show _∧True from ⟨aE6,trivial⟩),trivial⟩
 have va2:∀X,X2 (G4 m n fr D.V D.G D.O D.F D.A (bxD::X)) (fun _=>True) [.c (.own 4 0 n true),.c (.fn (.func 178) [.ptr (m+6) 0 0])] [a6k n D.F,.c (.t (.fn (.func 178) [a5W m n fr D]))]:=
  fun X=>⟨bh3,aQ7 (show _∧True from ⟨aE6,trivial⟩),trivial⟩
 have va3:∀X (r:Nat),X2 (G4 m n fr D.V D.G D.O D.F D.A (bxD::bxI r::X)) (fun _=>True) [.c (.own 4 0 n true),.c (.fn (.func 179) [.ptr (m+6) 0 0,.ptr (m+7) 0 0])] [a6k n D.F,.c (.t (.fn (.func 179) [a5W m n fr D,.ptr [ti r]]))]:=
  fun X r=>⟨bh3,aQ7 (show _∧_∧True from ⟨aE6,b5y (t:=1) rfl,trivial⟩),trivial⟩
 have va4:∀X (x:Int) (s:Nat),X2 (G4 m n fr D.V D.G D.O D.F D.A (bxD::bxI x::bxI s::X)) (fun _=>True) [.c (.own 3 0 m true),.c (.fn (.func 180) [.ptr (m+6) 0 0,.ptr (m+8) 0 0])] [a6k m D.O,.c (.t (.fn (.func 180) [a5W m n fr D,.ptr [ti s]]))]:=
  fun X x s=>⟨bf7,aQ7 (show _∧_∧True from ⟨aE6,b5y (t:=2) rfl,trivial⟩),trivial⟩
 have fin0:∀(X:Hp) (r c:Int),E0 m n D=none->(r,c)=b1g (y7 m n D)->Fin (W7 m n fr D0).length (.tup [a7 .i64 r,a7 .i64 c]) (G4 m n fr D.V D.G D.O D.F D.A X) (.tup [a7 .i64 (b1g (y7 m n (ak4 m n D0))).1,a7 .i64 (b1g (y7 m n (ak4 m n D0))).2]) (W7 m n fr (ak4 m n D0)):=by
  intro X r c hn ho
  have e:=bb7 h0 hD hn
  rw [← e,←ho]
  have e0:W7 m n fr D=G4 m n fr D.V D.G D.O D.F D.A []:=by
   show _::_::_::_::_::_::_=_::_::_::_::_::_::(_++[])
   rw [a1p]
  rw [e0]
  exact ab4 (N:=m+6) rfl rfl (by simp [b7]) ⟨rfl,rfl,trivial⟩
 have go:∀(X:Hp) (env:Env) (r s:Nat),y7 m n D=.next r s->a0g (idR (m+7)) (G4 m n fr (D.exch r s).V (D.exch r s).G (D.exch r s).O (D.exch r s).F (D.exch r s).A (bxD::X)) env ([J,S.c (C.ptr (m+6) 0 0)]++Jn 69)->
  ∃ρ x',Ent (W7 m n fr D0).length ρ env (G4 m n fr (D.exch r s).V (D.exch r s).G (D.exch r s).O (D.exch r s).F (D.exch r s).A (bxD::X)) ([J,S.c (C.ptr (m+6) 0 0)]++Jn 69) (G4 m n fr x'.V x'.G x'.O x'.F x'.A [bxD])∧W4 m n D0 x'∧a8K m n x'<a8K m n D:=by
  intro X env r s hs hE
  have hnx:E0 m n D=some (D.exch r s):=by unfold E0;rw [hs]
  exact ⟨idR (m+7),D.exch r s,R4 (T:=[bxD]) (T':=X) rfl rfl (by simp [b7]) (by intro k hk;simp at hk;subst hk;exact b64 (by omega)) hE,af2 hD hnx,b1c (b9q inv.p inv.g) hnx⟩
 have exc:∀r s:Nat,y7 m n D=.next r s->a8 Tryz.prog 181 [.c (.ptr 0 0 0),a7 .i64 r,a7 .i64 s] (W7 m n fr D) (.tup []) (W7 m n fr (D.exch r s)):=fun r s hs=>by
  obtain ⟨q1,q2,q3⟩:=a87 hs
  exact b0S m n fr D r s hm hn q1 q2 (a9s q3) bd (hB _ (af2 hD (by unfold E0;rw [hs])))
 cases hR:S6 D.O (fun i=>decide (D.V i<0)) m with
 |none=>
  rw [hR,show leI none=-1 from rfl] at l1
  cases hS:S6 D.F (fun j=>decide (0<D.G j)) n with
  |none=>
   rw [hS,show leI none=-1 from rfl] at l2
   have hst:y7 m n D=.best:=by unfold y7;rw [hR,hS]
   conv=>whnf
   repeat' (first|refine zx ?_|refine .inl ⟨_,_,k5 l1 (va1 _) rfl,?_⟩|refine .inl ⟨_,_,k5 l2 (va2 _) rfl,?_⟩|refine j5 (b7 _ _ _) ?_|refine i7 ?_|refine B5 (b7 _ _ _) ?_|refine f9 (t:=1) (b7 _ _ _) ?_|refine f9 (t:=2) (b7 _ _ _) ?_|refine g6 (t:=1) (b7 _ _ _) ?_|refine g6 (t:=2) (b7 _ _ _) ?_|refine zd ?_ ?_<;>intro h<;>try omega|fail)<;>conv=>whnf
   all_goals first
    |omega
    |exact fin0 _ _ _ (by unfold E0;rw [hst]) (by rw [hst];rfl)
  |some ss=>
   rw [hS,show leI (some ss)=ss from rfl] at l2
   have hss:=(E4 hS).1
   have l4:=a57 m hm D.O (fun i=>decide (0<D.A i ss)) 180 [a5W m n fr D,T.ptr [ti ss]] (fun i hi=>ar6 m n fr D i ss hi hss)
   cases hC:S6 D.O (fun i=>decide (0<D.A i ss)) m with
   |none=>
    rw [hC,show leI none=-1 from rfl] at l4
    have hst:y7 m n D=.col ss:=by unfold y7;rw [hR,hS];show a0q m D ss=_;unfold a0q;rw [hC]
    conv=>whnf
    repeat' (first|refine zx ?_|refine .inl ⟨_,_,k5 l1 (va1 _) rfl,?_⟩|refine .inl ⟨_,_,k5 l2 (va2 _) rfl,?_⟩|refine .inl ⟨_,_,k5 l4 (va4 _ _ ss) rfl,?_⟩|refine j5 (b7 _ _ _) ?_|refine i7 ?_|refine B5 (b7 _ _ _) ?_|refine f9 (t:=1) (b7 _ _ _) ?_|refine f9 (t:=2) (b7 _ _ _) ?_|refine g6 (t:=1) (b7 _ _ _) ?_|refine g6 (t:=2) (b7 _ _ _) ?_|refine zd ?_ ?_<;>intro h<;>try omega|fail)<;>conv=>whnf
    all_goals first
     |omega
     |exact fin0 _ _ _ (by unfold E0;rw [hst]) (by rw [hst];rfl)
   |some rq=>
    rw [hC,show leI (some rq)=rq from rfl] at l4
    have hst:y7 m n D=.next rq ss:=by unfold y7;rw [hR,hS];show a0q m D ss=_;unfold a0q;rw [hC]
    have exr:=exc _ _ hst
    conv=>whnf
    repeat' (first|refine zx ?_|refine .inl ⟨_,_,k5 l1 (va1 _) rfl,?_⟩|refine .inl ⟨_,_,k5 l2 (va2 _) rfl,?_⟩|refine .inl ⟨_,_,k5 l4 (va4 _ _ ss) rfl,?_⟩|refine .inr ⟨_,_,a9D _ exr,?_⟩|refine j5 (b7 _ _ _) ?_|refine i7 ?_|refine B5 (b7 _ _ _) ?_|refine f9 (t:=1) (b7 _ _ _) ?_|refine f9 (t:=2) (b7 _ _ _) ?_|refine g6 (t:=1) (b7 _ _ _) ?_|refine g6 (t:=2) (b7 _ _ _) ?_|refine zd ?_ ?_<;>intro h<;>try omega|fail)<;>conv=>whnf
    all_goals first
     |omega
     |exact go _ _ _ _ hst ⟨⟨k6 (by omega),rfl,rfl⟩,trivial⟩
 |some rr=>
  rw [hR,show leI (some rr)=rr from rfl] at l1
  cases hS:S6 D.F (fun j=>decide (0<D.G j)) n with
  |none=>
   rw [hS,show leI none=-1 from rfl] at l2
   have hrr:=(E4 hR).1
   have l3:=a57 n (by omega) D.F (fun j=>decide (D.A rr j<0)) 179 [a5W m n fr D,T.ptr [ti rr]] (fun j hj=>ar9 m n fr D rr j hrr hj)
   cases hC:S6 D.F (fun j=>decide (D.A rr j<0)) n with
   |none=>
    rw [hC,show leI none=-1 from rfl] at l3
    have hst:y7 m n D=.row rr:=by unfold y7;rw [hR,hS];show a0o n D rr=_;unfold a0o;rw [hC]
    conv=>whnf
    repeat' (first|refine zx ?_|refine .inl ⟨_,_,k5 l1 (va1 _) rfl,?_⟩|refine .inl ⟨_,_,k5 l2 (va2 _) rfl,?_⟩|refine .inl ⟨_,_,k5 l3 (va3 _ rr) rfl,?_⟩|refine j5 (b7 _ _ _) ?_|refine i7 ?_|refine B5 (b7 _ _ _) ?_|refine f9 (t:=1) (b7 _ _ _) ?_|refine f9 (t:=2) (b7 _ _ _) ?_|refine g6 (t:=1) (b7 _ _ _) ?_|refine g6 (t:=2) (b7 _ _ _) ?_|refine zd ?_ ?_<;>intro h<;>try omega|fail)<;>conv=>whnf
    all_goals first
     |omega
     |exact fin0 _ _ _ (by unfold E0;rw [hst]) (by rw [hst];rfl)
   |some sq=>
    rw [hC,show leI (some sq)=sq from rfl] at l3
    have hst:y7 m n D=.next rr sq:=by unfold y7;rw [hR,hS];show a0o n D rr=_;unfold a0o;rw [hC]
    have exr:=exc _ _ hst
    conv=>whnf
    repeat' (first|refine zx ?_|refine .inl ⟨_,_,k5 l1 (va1 _) rfl,?_⟩|refine .inl ⟨_,_,k5 l2 (va2 _) rfl,?_⟩|refine .inl ⟨_,_,k5 l3 (va3 _ rr) rfl,?_⟩|refine .inr ⟨_,_,a9D _ exr,?_⟩|refine j5 (b7 _ _ _) ?_|refine i7 ?_|refine B5 (b7 _ _ _) ?_|refine f9 (t:=1) (b7 _ _ _) ?_|refine f9 (t:=2) (b7 _ _ _) ?_|refine g6 (t:=1) (b7 _ _ _) ?_|refine g6 (t:=2) (b7 _ _ _) ?_|refine zd ?_ ?_<;>intro h<;>try omega|fail)<;>conv=>whnf
    all_goals first
     |omega
     |exact go _ _ _ _ hst ⟨⟨k6 (by omega),rfl,rfl⟩,trivial⟩
  |some ss=>
   rw [hS,show leI (some ss)=ss from rfl] at l2
   have hrr:=(E4 hR).1
   have hss:=(E4 hS).1
   by_cases hlt:D.O rr<D.F ss
   ·skip
    have l3:=a57 n (by omega) D.F (fun j=>decide (D.A rr j<0)) 179 [a5W m n fr D,T.ptr [ti rr]] (fun j hj=>ar9 m n fr D rr j hrr hj)
    cases hC:S6 D.F (fun j=>decide (D.A rr j<0)) n with
    |none=>
     rw [hC,show leI none=-1 from rfl] at l3
     have hst:y7 m n D=.row rr:=by unfold y7 a0o;rw [hR,hS];simp only [if_pos hlt];rw [hC]
     conv=>whnf
     repeat' (first|refine zx ?_|refine .inl ⟨_,_,k5 l1 (va1 _) rfl,?_⟩|refine .inl ⟨_,_,k5 l2 (va2 _) rfl,?_⟩|refine .inl ⟨_,_,k5 l3 (va3 _ rr) rfl,?_⟩|refine j5 (b7 _ _ _) ?_|refine i7 ?_|refine B5 (b7 _ _ _) ?_|refine f9 (t:=1) (b7 _ _ _) ?_|refine f9 (t:=2) (b7 _ _ _) ?_|refine g6 (t:=1) (b7 _ _ _) ?_|refine g6 (t:=2) (b7 _ _ _) ?_|refine a0h (r:=rr) (by omega) hrr ?_|refine a0h (r:=ss) (by omega) hss ?_|refine zd ?_ ?_<;>intro h<;>try omega|fail)<;>conv=>whnf
     all_goals first
      |omega
      |exact fin0 _ _ _ (by unfold E0;rw [hst]) (by rw [hst];rfl)
    |some sq=>
     rw [hC,show leI (some sq)=sq from rfl] at l3
     have hst:y7 m n D=.next rr sq:=by unfold y7 a0o;rw [hR,hS];simp only [if_pos hlt];rw [hC]
     have exr:=exc _ _ hst
     conv=>whnf
     repeat' (first|refine zx ?_|refine .inl ⟨_,_,k5 l1 (va1 _) rfl,?_⟩|refine .inl ⟨_,_,k5 l2 (va2 _) rfl,?_⟩|refine .inl ⟨_,_,k5 l3 (va3 _ rr) rfl,?_⟩|refine .inr ⟨_,_,a9D _ exr,?_⟩|refine j5 (b7 _ _ _) ?_|refine i7 ?_|refine B5 (b7 _ _ _) ?_|refine f9 (t:=1) (b7 _ _ _) ?_|refine f9 (t:=2) (b7 _ _ _) ?_|refine g6 (t:=1) (b7 _ _ _) ?_|refine g6 (t:=2) (b7 _ _ _) ?_|refine a0h (r:=rr) (by omega) hrr ?_|refine a0h (r:=ss) (by omega) hss ?_|refine zd ?_ ?_<;>intro h<;>try omega|fail)<;>conv=>whnf
     all_goals first
      |omega
      |exact go _ _ _ _ hst ⟨⟨k6 (by omega),rfl,rfl⟩,trivial⟩
   ·skip
    have l4:=a57 m hm D.O (fun i=>decide (0<D.A i ss)) 180 [a5W m n fr D,T.ptr [ti ss]] (fun i hi=>ar6 m n fr D i ss hi hss)
    cases hC:S6 D.O (fun i=>decide (0<D.A i ss)) m with
    |none=>
     rw [hC,show leI none=-1 from rfl] at l4
     have hst:y7 m n D=.col ss:=by unfold y7 a0q;rw [hR,hS];simp only [if_neg hlt];rw [hC]
     conv=>whnf
     repeat' (first|refine zx ?_|refine .inl ⟨_,_,k5 l1 (va1 _) rfl,?_⟩|refine .inl ⟨_,_,k5 l2 (va2 _) rfl,?_⟩|refine .inl ⟨_,_,k5 l4 (va4 _ _ ss) rfl,?_⟩|refine j5 (b7 _ _ _) ?_|refine i7 ?_|refine B5 (b7 _ _ _) ?_|refine f9 (t:=1) (b7 _ _ _) ?_|refine f9 (t:=2) (b7 _ _ _) ?_|refine g6 (t:=1) (b7 _ _ _) ?_|refine g6 (t:=2) (b7 _ _ _) ?_|refine a0h (r:=rr) (by omega) hrr ?_|refine a0h (r:=ss) (by omega) hss ?_|refine zd ?_ ?_<;>intro h<;>try omega|fail)<;>conv=>whnf
     all_goals first
      |omega
      |exact fin0 _ _ _ (by unfold E0;rw [hst]) (by rw [hst];rfl)
    |some rq=>
     rw [hC,show leI (some rq)=rq from rfl] at l4
     have hst:y7 m n D=.next rq ss:=by unfold y7 a0q;rw [hR,hS];simp only [if_neg hlt];rw [hC]
     have exr:=exc _ _ hst
     conv=>whnf
     repeat' (first|refine zx ?_|refine .inl ⟨_,_,k5 l1 (va1 _) rfl,?_⟩|refine .inl ⟨_,_,k5 l2 (va2 _) rfl,?_⟩|refine .inl ⟨_,_,k5 l4 (va4 _ _ ss) rfl,?_⟩|refine .inr ⟨_,_,a9D _ exr,?_⟩|refine j5 (b7 _ _ _) ?_|refine i7 ?_|refine B5 (b7 _ _ _) ?_|refine f9 (t:=1) (b7 _ _ _) ?_|refine f9 (t:=2) (b7 _ _ _) ?_|refine g6 (t:=1) (b7 _ _ _) ?_|refine g6 (t:=2) (b7 _ _ _) ?_|refine a0h (r:=rr) (by omega) hrr ?_|refine a0h (r:=ss) (by omega) hss ?_|refine zd ?_ ?_<;>intro h<;>try omega|fail)<;>conv=>whnf
     all_goals first
      |omega
      |exact go _ _ _ _ hst ⟨⟨k6 (by omega),rfl,rfl⟩,trivial⟩
theorem a2l {P:Program} {g:FuncId} {args:List S} {H:Hp} {b:Blk} {n:Nat} {app:Bool} (h:a8 P g args [] (.c (.own 0 0 n app)) [b]) (ha:args.all S.isT=true) (hm:b.mode=.live) (hb:H4 b.rows):
 N1 P g args H (.c (.own H.length 0 n app)) [b]:=by
 refine ⟨h.1,fun w ι M vals hl hv hH hM hf=>?_⟩
 have:=h.2 w (fun _=>none) M vals hl (fun j s hj=>(hv j s hj).tree (lbw.1 ha s (lbm hj)))
  ⟨by simp,by simp,by simp,by simp,by simp⟩ hM (fun _ _=>rfl)
 refine Calls.mono this ?_
 rintro e w' ⟨v,rfl,ι',M',h1,h2,h3,h4,h5⟩
 have hnl:∀x,¬a2i (fun _=>none) ([]:Hp) x:=by rintro x ⟨id,k,_,_,hk,_⟩;simp at hk
 obtain ⟨l,hl0⟩:∃l,ι' 0=some l:=by
  cases h1 with
  |c h1=>cases h1 with
   |own hi=>exact ⟨_,hi⟩
   |nil hi=>exact ⟨_,hi⟩
 have hnew:s8 ι H.length [b].length (fun _=>l) H.length=some l:=by unfold s8;simp
 have hMM:∀x,a3r M [b].length (fun _=>l) x->M' x:=by
  intro x hx
  rcases hx with hx|⟨k,hk,cap,size,he⟩
  ·rcases h5.mold x hx with h|h
   ·exact h
   ·exact absurd h (hnl x)
  ·have he:l=.blk x cap size:=he
   subst he
   exact h2.liv 0 b rfl hm x cap size hl0
 refine ⟨v,rfl,fun _=>l,?_,⟨h5.os,h5.tape,h5.output,h5.size,fun x hx=>h5.keep x hx (hnl x)⟩,?_,?_,?_⟩
 ·cases h1 with
  |c h1=>cases h1 with
   |own hi q1 q2 q3 q4 q5=>
    rw [hl0] at hi;injection hi with hi
    subst hi
    exact .c (.own hnew q1 q2 q3 q4 q5)
   |nil hi=>
    rw [hl0] at hi;injection hi with hi
    subst hi
    exact .c (.nil hnew)
 ·intro k blk hk
  cases k with
  |succ k=>simp at hk
  |zero=>
   simp at hk
   subst hk
   refine ⟨hm,?_⟩
   have hbr:=h2.blk 0 b rfl (by rw [hm];intro h;cases h) l hl0
   cases l with
   |nil=>exact hbr
   |blk x cap size=>
    obtain ⟨r1,r2,r3,r4,r5,cur,r6,r7,r8⟩:=hbr
    refine ⟨r1,r2,r3,r4,r5,cur,r6,r7,fun i j c hc=>?_⟩
    obtain ⟨u,u1,u2⟩:=r8 i j c hc
    exact ⟨u,u1,al0 hMM hb hc u2⟩
 ·intro k x cap size hk he
  have he:l=.blk x cap size:=he
  subst he
  refine ⟨?_,h3 x (h2.liv 0 b rfl hm x cap size hl0)⟩
  rcases h5.live x ⟨0,b,cap,size,rfl,hm,hl0⟩ with h|h
  ·exact absurd h (hnl x)
  ·exact h
 ·intro k k' x cap size cap' size' hk hk' _ _
  simp at hk hk'
  omega
theorem b3w (H:Hp) (n:Nat) (hn:n<=1000):N1 Tryz.prog 173 [a7 .i64 n] H (.c (.own H.length 0 n true)) [flB (rF n fun _=>0)]:=
 a2l (b8m n hn) rfl rfl (f5 _)
def a4r (l:List (Int × Rat)):Nat->Nat->Rat
 |0=>w7 l
 |k+1=>match l[k]? with
  |none=>a4r l k
  |some t=>fun j=>if j=t.1.toNat then -t.2 else a4r l k j
theorem av3 {l:List (Int × Rat)} {k:Nat} {t:Int × Rat} (h:l[k]? =some t):a4r l (k+1)=fun j=>if j=t.1.toNat then -t.2 else a4r l k j:=by rw [a4r,h]
theorem b2I (l:List (Int × Rat)) (j:Nat):∀k,k<=l.length->a4r l k j=-(J0 l k j)∨(J0 l k j=0∧a4r l k j=w7 l j)
 |0,_=>.inr ⟨rfl,rfl⟩
 |k+1,hk=>by
  obtain ⟨t,ht⟩:∃t,l[k]? =some t:=⟨_,lbf (by omega)⟩
  rw [av3 ht,G6 ht]
  simp only
  by_cases hj:j=t.1.toNat
  ·rw [if_pos hj,if_pos hj];exact .inl rfl
  ·rw [if_neg hj,if_neg hj];exact b2I l j k (by omega)
theorem b5H (l:List (Int × Rat)):a4r l l.length=fun j=>-(w7 l j):=by
 funext j
 rcases b2I l j l.length (lbS _) with h|⟨h1,h2⟩
 ·exact h
 ·rw [h2]
  have:w7 l j=0:=h1
  rw [this];decide
def sgF (b:Bool) (l:List (Int × Rat)):Nat->Rat:=fun j=>O6 b (w7 l j)
theorem Y7 {H:Hp} {N n:Nat} (hN:H.length=N) (hn:n<=1000):N1 Tryz.prog 173 [a7 .i64 n] H (.c (.own N 0 n true)) [flB (rF n fun _=>0)]:=by subst hN;exact b3w H n hn
abbrev pB (n k l i f:Nat):Blk:={ mode:=.live,elem:=291,size:=6,rows:=[[C.t (ti n),.own l 0 k true,.own 2 0 n true,.own i 0 k true,.t (.sl 0 .nil []),.own f 0 k true]],box:=true }
abbrev a9O (t:TypeId) (s:Nat):Blk:=⟨.dead,t,s,[],false,false,false⟩
abbrev a5L (n k:Nat) (V G:Nat->Rat) (O:Nat->Nat) (fr:List (Nat × Bool)) (A:Nat->Nat->Rat) (X:Hp):Hp:=
 pB n k 1 3 4::a00 5 k n V::flB (rF n G)::U8 k O::a0H fr::((mF k n A).map flB++X)
abbrev lnX (k n:Nat) (v:Rat):Blk:={ mode:=.live,elem:=296,size:=5,rows:=[frC (fz v)++[C.own (k+6) 0 n true]],box:=true }
abbrev b2W (n k:Nat) (v:Rat) (a V G:Nat->Rat) (O:Nat->Nat) (fr:List (Nat × Bool)) (f:Nat × Bool) (A:Nat->Nat->Rat) (bx:Blk):Hp:=
 pB n (k+1) (k+8) (k+7) (k+9)::a9O 296 5::flB (rF n G)::a9O 3 1::a9O 324 2::((mF k n A).map flB++
  [bx,flB (rF n a),U8 (k+1) O,{ mode:=.live,elem:=296,size:=5,rows:=O5 5 k n V++[frC (fz v)++[C.own (k+6) 0 n true]],box:=false },a0H (fr++[f])])
theorem aH3 {k n N:Nat} {v:Rat} (h:k+6<N):okB N (lnX k n v):=by
 intro r hr c hc
 simp at hr;subst hr
 simp [frC] at hc
 rcases hc with rfl|rfl|rfl|rfl|rfl<;>first|trivial|exact h
theorem bh5 {n k N l i f:Nat} (h1:l<N) (h2:i<N) (h3:f<N) (h4:2<N):okB N (pB n k l i f):=by
 intro r hr c hc
 simp at hr;subst hr
 simp at hc
 rcases hc with rfl|rfl|rfl|rfl|rfl|rfl<;>first|trivial|assumption
theorem aT9 {n k:Nat} {V G:Nat->Rat} {O:Nat->Nat} {fr:List (Nat × Bool)} {A:Nat->Nat->Rat} {X:Hp}:(a5L n k V G O fr A X).length=k+5+X.length:=by simp [b7];omega
theorem b88 {n k N:Nat} {V G:Nat->Rat} {O:Nat->Nat} {fr:List (Nat × Bool)} {A:Nat->Nat->Rat} {X:Hp} (h:k+5<=N) (hX:∀b ∈ X,okB N b):∀b ∈ a5L n k V G O fr A X,okB N b:=by
 intro b hb
 simp only [lbB,lbA] at hb
 rcases hb with rfl|rfl|rfl|rfl|rfl|hb|hb
 ·exact bh5 (by omega) (by omega) (by omega) (by omega)
 ·exact ag6 h
 ·exact D8 rfl
 ·exact D8 rfl
 ·exact D8 rfl
 ·obtain ⟨l,_,rfl⟩:=lby.1 hb
  exact D8 rfl
 ·exact hX b hb
theorem b5C {n k:Nat} {V G:Nat->Rat} {O:Nat->Nat} {fr:List (Nat × Bool)} {A:Nat->Nat->Rat} {X X':Hp}:a5L n k V G O fr A (X++X')=a5L n k V G O fr A X++X':=by
 show _::_::_::_::_::(_++(X++X'))=_::_::_::_::_::((_++X)++X')
 rw [lbE]
theorem W6 {n0 N n k:Nat} {V G:Nat->Rat} {O:Nat->Nat} {fr:List (Nat × Bool)} {A:Nat->Nat->Rat} {X X' H:Hp} {env env':Env} (hH:H=a5L n k V G O fr A (X++X')) (hN:k+5+X.length=N) (h0:n0<=N) (hX:∀b ∈ X,okB N b)
 (hE:a0g (idR N) H env env'):Ent n0 (idR N) env H env' (a5L n k V G O fr A X):=by
 refine a7W (by rw [aT9];exact hN) h0 (b88 (by omega) hX) (fun i hi=>?_) hE
 rw [hH,b5C,lbb (by rw [aT9];omega)]
theorem a18 {b0 b1 b2 b3 b4 c0 c1 c2 c3 c4:Blk} {L L':Hp} (h0:b0=c0) (h1:b1=c1) (h2:b2=c2) (h3:b3=c3) (h4:b4=c4) (h6:L=L'):b0::b1::b2::b3::b4::L=c0::c1::c2::c3::c4::L':=by
 subst h0 h1 h2 h3 h4 h6;rfl
def fR (N:Nat) (f:Nat->Nat):List (Option Nat):=(List.range N).map fun i=>some (f i)
theorem w5 {N i:Nat} {f:Nat->Nat} (h:i<N):(fR N f)[i]? =some (some (f i)):=by simp [fR,h]
theorem bd8 (N:Nat) (f:Nat->Nat):(fR N f).length=N:=by simp [fR]
theorem b4P {N i j:Nat} {f:Nat->Nat} (h:(fR N f)[i]? =some (some j)):i<N∧f i=j:=by
 obtain ⟨h1,h2⟩:=lbe.1 h
 simp [fR] at h1 h2
 exact ⟨h1,h2⟩
theorem ah6 {ρ:List (Option Nat)}:∀{m:Nat},(∀ i:Nat,i<m->ρ[i]? =some (some i))->a13 ρ m=true
 |0,_=>rfl
 |m+1,h=>by
  unfold a13
  rw [h m (by omega),ah6 fun i hi=>h i (by omega)]
  simp
theorem b2D {N:Nat} {f:Nat->Nat} {H H':Hp} (hn:H'.length=N) (hB:∀(i:Nat) (k':Blk),H'[i]? =some k'->∃k:Blk,H[f i]? =some k∧a6d (fR N f) H k k'):a30 (fR N f) H (fR N f) H':=
 a56 (by rw [bd8,hn]) fun i k' hk=>by
  have hi:i<N:=by rw [← hn];exact (lbe.1 hk).1
  obtain ⟨k,h1,h2⟩:=hB i k' hk
  exact ⟨f i,k,w5 hi,h1,h2⟩
theorem aT0 {N:Nat} {f:Nat->Nat} {H:Hp} (hinj:∀i j,i<N->j<N->f i=f j->i=j):O8 (fR N f) H=true:=a0A fun i j n h1 h2=>by
 obtain ⟨a1,a2⟩:=b4P h1
 obtain ⟨b1,b2⟩:=b4P h2
 exact hinj i j a1 b1 (by omega)
theorem b0m {n0 N:Nat} {f:Nat->Nat} {env env':Env} {H H':Hp} (hn:H'.length=N) (h0:n0<=N) (hk:∀i,i<n0->f i=i) (hinj:∀i j,i<N->j<N->f i=f j->i=j)
 (hB:∀(i:Nat) (k':Blk),H'[i]? =some k'->∃k:Blk,H[f i]? =some k∧a6d (fR N f) H k k') (hE:a0g (fR N f) H env env'):Ent n0 (fR N f) env H env' H':=
 ⟨ah6 fun i hi=>by rw [w5 (by omega),hk i hi],aT0 hinj,b2D hn hB,hE⟩
theorem bd2 {n0 N:Nat} {f:Nat->Nat} {r s:S} {H H':Hp} (hn:H'.length=N) (h0:n0<=N) (hk:∀i,i<n0->f i=i) (hinj:∀i j,i<N->j<N->f i=f j->i=j)
 (hB:∀(i:Nat) (k':Blk),H'[i]? =some k'->∃k:Blk,H[f i]? =some k∧a6d (fR N f) H k k') (hE:a9d (fR N f) H r s):Fin n0 r H s H':=
 ⟨fR N f,ah6 fun i hi=>by rw [w5 (by omega),hk i hi],aT0 hinj,b2D hn hB,hE⟩
theorem b91 (k:Blk):a1V k k=true:=by unfold a1V;cases k.mode<;>simp
theorem g8 {ρ:List (Option Nat)} {H:Hp} {k:Blk} (h:H4 k.rows):a6d ρ H k k:=⟨b91 k,rfl,rfl,.inl ⟨rfl,h⟩⟩
theorem b1K {ρ:List (Option Nat)} {H:Hp} {l l':List C} (h:a1U ρ H l l'):∀ts:List T,a1U ρ H (ts.map C.t++l) (ts.map C.t++l')
 |[]=>h
 |t::r=>⟨U4 t,b1K h r⟩
theorem a1b {ρ:List (Option Nat)} {H:Hp} {m n:Nat} {V:Nat->Rat} {h h':Nat->Nat} (hh:∀i,i<m->ρ[h' i]? =some (some (h i))):
 a6d ρ H { mode:=.live,elem:=296,size:=5,rows:=(List.range m).map fun i=>frC (fz (V i))++[C.own (h i) 0 n true],box:=false } { mode:=.live,elem:=296,size:=5,rows:=(List.range m).map fun i=>frC (fz (V i))++[C.own (h' i) 0 n true],box:=false }:=by
 refine ⟨rfl,rfl,rfl,.inr (a7d (by simp) fun i x y hx hy=>?_)⟩
 have hi:i<m:=by have:=(lbe.1 hx).1;simpa using this
 simp [hi] at hx hy
 subst hx hy
 exact b1K (ts:=j0 (fz (V i))) (l:=[C.own (h i) 0 n true]) (l':=[C.own (h' i) 0 n true]) ⟨⟨hh i hi,rfl,rfl,fun h=>h⟩,trivial⟩
theorem b1S {a b:Nat} {K:Prop} (h:a<=b) (k:K):a<=b∧K:=⟨h,k⟩
theorem a4q {N:Nat} {b:Blk} (h:H4 b.rows):okB N b:=by
 intro r hr c hc
 have:=h r hr c hc
 cases c<;>first|trivial|cases this
def aJ9 (k n:Nat) (v:Rat) (V:Nat->Rat):Nat->Rat:=fun i=>if i=k then v else V i
def hnd (k:Nat):Nat->Nat:=fun i=>if i=k then k+6 else i+5
theorem a9M {k n:Nat} {v:Rat} {V:Nat->Rat}:O5 5 k n V++[frC (fz v)++[C.own (k+6) 0 n true]]=(List.range (k+1)).map fun i=>frC (fz (aJ9 k n v V i))++[C.own (hnd k i) 0 n true]:=by
 rw [a5M,lbD]
 congr 1
 ·refine lbp fun i hi=>?_
  have:=lbC.1 hi
  unfold aJ9 hnd
  rw [if_neg (by omega),if_neg (by omega)]
 ·unfold aJ9 hnd;simp
abbrev bg1 (n k:Nat) (v:Rat) (a V G:Nat->Rat) (O:Nat->Nat) (fr:List (Nat × Bool)) (f:Nat × Bool) (A:Nat->Nat->Rat) (bx lx lit:Blk):Hp:=
 pB n (k+1) (k+10) (k+8) (k+11)::a9O 296 5::flB (rF n G)::a9O 3 1::a9O 324 2::((mF k n A).map flB++
  [bx,flB (rF n a),lx,U8 (k+1) O,lit,{ mode:=.live,elem:=296,size:=5,rows:=O5 5 k n V++[frC (fz v)++[C.own (k+6) 0 n true]],box:=false },a0H (fr++[f])])
def af8 (k:Nat):Nat->Nat:=fun i=>if i<k+7 then i else if i=k+7 then k+8 else if i=k+8 then k+10 else k+11
theorem a0M {α β:Type} {f:β->α} {M:List β} {X:List α} {N t:Nat} (h:M.length=N):(M.map f++X)[N+t]? =X[t]?:=by
 rw [lbc (by simp [h])];simp [h]
theorem b9w {n0 n:Nat} {r s:S} {H H':Hp} (e:n0=n) (h:Fin n r H s H'):Fin n0 r H s H':=by subst e;exact h
theorem b2s {n k:Nat} {v:Rat} {a V G:Nat->Rat} {O:Nat->Nat} {fr:List (Nat × Bool)} {f:Nat × Bool} {A:Nat->Nat->Rat} {bx lx lit:Blk} {H:Hp} (hbx:H4 bx.rows) (hH:H=bg1 n k v a V G O fr f A bx lx lit):
 Fin (k+6) (.tup []) H (.tup []) (b2W n k v a V G O fr f A bx):=by
 subst hH
 refine bd2 (N:=k+10) (f:=af8 k) (by simp [b7]) (by omega) (fun i hi=>by unfold af8;rw [if_pos (by omega)]) (fun i j hi hj h=>by unfold af8 at h;(repeat' split at h)<;>omega) ?_ trivial
 have r7:af8 k (k+7)=k+8:=by unfold af8;rw [if_neg (by omega),if_pos rfl]
 have r8:af8 k (k+8)=k+10:=by unfold af8;rw [if_neg (by omega),if_neg (by omega),if_pos rfl]
 have r9:af8 k (k+9)=k+11:=by unfold af8;rw [if_neg (by omega),if_neg (by omega),if_neg (by omega)]
 have rl:∀i,i<k+7->af8 k i=i:=fun i hi=>by unfold af8;rw [if_pos hi]
 intro i k' hk
 rcases i with _|_|_|_|_|i
 ·injection hk with hk;subst hk
  rw [rl 0 (by omega)]
  exact ⟨_,rfl,rfl,rfl,rfl,.inr ⟨⟨rfl,⟨by rw [w5 (by omega),r8],rfl,rfl,fun h=>h⟩,⟨by rw [w5 (by omega),rl 2 (by omega)],rfl,rfl,fun h=>h⟩,⟨by rw [w5 (by omega),r7],rfl,rfl,fun h=>h⟩,rfl,⟨by rw [w5 (by omega),r9],rfl,rfl,fun h=>h⟩,trivial⟩,trivial⟩⟩
 ·injection hk with hk;subst hk;rw [rl 1 (by omega)];exact ⟨_,rfl,g8 (by simp [H4])⟩
 ·injection hk with hk;subst hk;rw [rl 2 (by omega)];exact ⟨_,rfl,g8 (f5 _)⟩
 ·injection hk with hk;subst hk;rw [rl 3 (by omega)];exact ⟨_,rfl,g8 (by simp [H4])⟩
 ·injection hk with hk;subst hk;rw [rl 4 (by omega)];exact ⟨_,rfl,g8 (by simp [H4])⟩
 ·have hk:((mF k n A).map flB++[bx,flB (rF n a),U8 (k+1) O,{ mode:=.live,elem:=296,size:=5,rows:=O5 5 k n V++[frC (fz v)++[C.own (k+6) 0 n true]],box:=false },a0H (fr++[f])])[i]? =some k':=hk
  by_cases hi:i<k
  ·rw [H6 (M6 hi)] at hk
   injection hk with hk;subst hk
   rw [rl (i+5) (by omega)]
   exact ⟨_,H6 (M6 hi),g8 (f5 _)⟩
  ·obtain ⟨t,rfl⟩:∃t,i=k+t:=⟨i - k,by omega⟩
   rw [a0M (b7 _ _ _)] at hk
   have lk:∀j,(bg1 n k v a V G O fr f A bx lx lit)[k+j+5]? =([bx,flB (rF n a),lx,U8 (k+1) O,lit,{ mode:=.live,elem:=296,size:=5,rows:=O5 5 k n V++[frC (fz v)++[C.own (k+6) 0 n true]],box:=false },a0H (fr++[f])]:Hp)[j]?:=fun j=>a0M (b7 _ _ _)
   rcases t with _|_|_|_|_|t
   ·injection hk with hk;subst hk
    rw [rl (k+0+5) (by omega)]
    exact ⟨_,lk 0,g8 hbx⟩
   ·injection hk with hk;subst hk
    rw [rl (k+1+5) (by omega)]
    exact ⟨_,lk 1,g8 (f5 _)⟩
   ·injection hk with hk;subst hk
    rw [show k+2+5=k+7 by omega,r7]
    exact ⟨_,lk 3,g8 (f5 _)⟩
   ·injection hk with hk;subst hk
    rw [show k+3+5=k+8 by omega,r8]
    refine ⟨_,lk 5,?_⟩
    rw [a9M]
    refine a1b fun j hj=>?_
    have:hnd k j<k+7:=by unfold hnd;split<;>omega
    rw [w5 (by omega),rl _ this]
   ·injection hk with hk;subst hk
    rw [show k+4+5=k+9 by omega,r9]
    exact ⟨_,lk 6,g8 (f5 _)⟩
   ·simp at hk
theorem l7 {a0 a1 a2 a3 a4 a5 a6 b0 b1 b2 b3 b4 b5 b6:Blk} (h0:a0=b0) (h1:a1=b1) (h2:a2=b2) (h3:a3=b3) (h4:a4=b4) (h5:a5=b5) (h6:a6=b6):([a0,a1,a2,a3,a4,a5,a6]:Hp)=[b0,b1,b2,b3,b4,b5,b6]:=by
 subst h0 h1 h2 h3 h4 h5 h6;rfl
theorem a8o {k:Nat} {O:Nat->Nat} {x:Int} (h:x=O k):(toC (a0c k O)).take k++toC [[ti x]]=toC (a0c (k+1) O):=by
 rw [lbn (by simp [toC,p7])]
 unfold a0c
 rw [a5M,lbD,h]
 simp [toC]
theorem ah3 {fr:List (Nat × Bool)} {k:Nat} (h:fr.length=k) (f:Nat × Bool):(toC (X5 fr)).take k++toC [[ti f.1,tb f.2]]=toC (X5 (fr++[f])):=by
 rw [lbn (by simp [toC,X5,h])]
 unfold X5
 simp [toC]
set_option maxHeartbeats 4000000 in
theorem bh7 (n k row:Nat) (w:B8) (b:Bool) (V G:Nat->Rat) (fr:List (Nat × Bool)) (hfr:fr.length=k) (A:Nat->Nat->Rat) (bx:Blk) (hbx:H4 bx.rows) (hn:n<=1000) (hk:k<=10000) (hrow:row<=100000)
 (hr:d8 (-1) n w.terms=true) (hl:w.terms.length<=1000) (hb:∀t ∈ w.terms,rl t.2<=60000) (hv:rl w.value<=60000):
 a8 Tryz.prog 174 [.c (.ptr 0 0 0),a7 .i64 row,ba5 w,d9 b] (a5L n k V G (fun i=>n+i) fr A [bx]) (.tup []) (b2W n k (O6 b w.value) (sgF b w.terms) V G (fun i=>n+i) fr (row,b) A bx):=by
 have m1:(w.terms.map u6).length=w.terms.length:=by simp
 (refine ac Tryz.func174 ?_;(conv=>whnf);repeat ((first|refine b0x ?_|refine zy ?_);conv=>whnf))
 repeat' (first|refine zz ?_|refine qp b7 ?_|refine b0x ?_|refine .inl ⟨_,_,Y7 (N:=k+6) (by simp [b7]) hn,?_⟩|refine j5 (b7 _ _ _) ?_|refine i7 ?_|refine f9 (t:=1) (b7 _ _ _) ?_|refine f9 (t:=2) (b7 _ _ _) ?_|refine f9 (t:=3) (b7 _ _ _) ?_|refine g6 (t:=1) (b7 _ _ _) ?_|refine g6 (t:=2) (b7 _ _ _) ?_|refine g6 (t:=3) (b7 _ _ _) ?_|refine zd ?_ ?_<;>intro h<;>try omega|refine zy ?_|fail)<;>conv=>whnf
 refine i3 c9 (fun q=>([S.c (C.ptr 0 0 0),a7 .i64 row,J,d9 b,J,J,S.c (C.t (T.ptr (u0 w))),J,S.c (C.ptr (k+7) 0 0)]++Jn 13++[j4 w.terms,a7 .i64 w.terms.length,a7 .i64 q]++Jn 73,a5L n k V G (fun i=>n+i) fr A [bx,flB (rF n (J0 w.terms q)),lnX k n w.value])) w.terms.length (fun _=>True) (idR (k+8)) trivial ?_ ?_
 ·refine W6 (X':=[]) (a18 rfl rfl rfl rfl rfl ?_) rfl (by simp [b7]) ?_ ?_
  ·rfl
  ·intro b hb;simp at hb;rcases hb with rfl|rfl|rfl
   ·exact a4q hbx
   ·exact D8 rfl
   ·exact aH3 (by omega)
  ·exact ⟨⟨k6 (by omega),rfl,rfl⟩,rfl,rfl,i8 rfl,⟨k6 (by omega),rfl,rfl⟩,i8 rfl,c7 (by omega),c7 rfl,trivial⟩
 intro q hq _
 by_cases hlt:q<w.terms.length
 ·obtain ⟨t,ht⟩:∃t,w.terms[q]? =some t:=⟨_,lbf hlt⟩
  obtain ⟨t0,t1,t2⟩:=o8 hr t (lbm ht)
  have gp:(rF n (J0 w.terms q))[0+t.1.toNat]? =some (fz (J0 w.terms q t.1.toNat)):=by rw [y3,E7 (by omega)]
  have eV:0+t.1.toNat=t.1.toNat:=by omega
  have e:p5 (flB (rF n (J0 w.terms q))) ((flB (rF n (J0 w.terms q))).rows.set (0+t.1.toNat) (frC (fz t.2)))=flB (rF n (J0 w.terms (q+1))):=by
   have e1:=H7 (row:=rF n (J0 w.terms q)) (y:=fz t.2) eV
   rw [T8 (by omega),←G6 ht] at e1
   exact e1
  conv=>whnf
  repeat' (first|refine zx ?_|refine d6 ht ?_|refine k7 gp ?_|refine j5 (b7 _ _ _) ?_|refine i7 ?_|refine f9 (t:=1) (b7 _ _ _) ?_|refine f9 (t:=2) (b7 _ _ _) ?_|refine f9 (t:=3) (b7 _ _ _) ?_|refine g6 (t:=1) (b7 _ _ _) ?_|refine g6 (t:=2) (b7 _ _ _) ?_|refine g6 (t:=3) (b7 _ _ _) ?_|refine zd ?_ ?_<;>intro h<;>try omega|fail)<;>conv=>whnf
  all_goals first
   |omega
   |(refine ⟨hlt,trivial,idR (k+8),W6 (X:=[bx,flB (rF n (J0 w.terms (q+1))),lnX k n w.value]) (a18 rfl rfl rfl rfl rfl (congrArg (fun z=>(mF k n A).map flB++(bx::z::lnX k n w.value::[_])) e)) rfl (by simp [b7]) ?_ ⟨⟨k6 (by omega),rfl,rfl⟩,rfl,rfl,rfl,⟨k6 (by omega),rfl,rfl⟩,rfl,rfl,c7 (by omega),trivial⟩⟩
     intro b hb;simp at hb;rcases hb with rfl|rfl|rfl
     ·exact a4q hbx
     ·exact D8 rfl
     ·exact aH3 (by omega))
 ·have hqe:q=w.terms.length:=by omega
  subst hqe
  cases b with
  |false=>
   conv=>whnf
   repeat' (first|refine a4j [0,1,2,3,4,5,6,7,9,10,11,12,13,14,15,16,8,17,18,19,20,21,22,23] (by decide +kernel) (by decide +kernel) ?_|refine zz ?_|refine zz ?_|refine zz ?_|refine zz ?_|refine zz ?_|refine zz ?_|refine qp (0,1,2,3,4,5,6,7,9,10,11,12,13,14,15,16,8,17,18,19,20,21,22,23) ?_|refine qp (toC,p7,y8,X5,hfr) ?_|refine qp (toC,p7,y8,X5) ?_|refine qp 0 ?_|refine qp (0,1,8,9,10,11,12,13,14,15) ?_|refine qp (0,1) ?_|refine qp 1 ?_|refine D7 (by simp [toC,p7,y8,X5,hfr]) (by simp [toC,p7,y8,X5];omega) ?_|refine bl0 [0] ?_|refine bl0 [0,1,8,9,10,11,12,13,14,15] ?_|refine bl0 [0,1] ?_|refine bl0 [1] ?_|refine j5 (b7 _ _ _) ?_|refine i7 ?_|refine f9 (t:=1) (b7 _ _ _) ?_|refine f9 (t:=2) (b7 _ _ _) ?_|refine f9 (t:=3) (b7 _ _ _) ?_|refine g6 (t:=1) (b7 _ _ _) ?_|refine g6 (t:=2) (b7 _ _ _) ?_|refine g6 (t:=3) (b7 _ _ _) ?_|refine f9 (t:=4) (b7 _ _ _) ?_|refine b1S (lbS 1) ?_|refine zd ?_ ?_<;>intro h<;>try omega|refine zy ?_|fail)<;>conv=>whnf
   all_goals try omega
   all_goals refine b9w (n:=k+6) (by simp [b7]) (b2s (lit:=_) hbx (a18 rfl rfl rfl rfl rfl (congrArg (fun z=>(mF k n A).map flB++z) (l7 rfl rfl rfl ?_ rfl ?_ ?_))))
   ·exact congrArg (fun z=>({ mode:=.live,elem:=3,size:=1,rows:=z,box:=false }:Blk)) (a8o (x:=(n:Int)+k) (by simp))
   ·exact congrArg (fun z=>({ mode:=.live,elem:=296,size:=5,rows:=z,box:=false }:Blk)) (congrArg (fun z=>z++[frC (fz w.value)++[C.own (k+6) 0 n true]]) (lbn (by simp [y8])))
   ·exact congrArg (fun z=>({ mode:=.live,elem:=324,size:=2,rows:=z,box:=false }:Blk)) (ah3 hfr (row,false))
  |true=>
   have nv:=a6f w.value hv
   conv=>whnf
   repeat' (first|refine zx ?_|refine qp nv ?_|refine j5 (b7 _ _ _) ?_|refine i7 ?_|refine f9 (t:=1) (b7 _ _ _) ?_|refine f9 (t:=2) (b7 _ _ _) ?_|refine f9 (t:=3) (b7 _ _ _) ?_|refine g6 (t:=1) (b7 _ _ _) ?_|refine g6 (t:=2) (b7 _ _ _) ?_|refine g6 (t:=3) (b7 _ _ _) ?_|refine zd ?_ ?_<;>intro h<;>try omega|fail)<;>conv=>whnf
   all_goals try omega
   refine i3 c9 (fun q=>([S.c (C.ptr 0 0 0),a7 .i64 row,J,d9 true,J,J,J,J,S.c (C.ptr (k+7) 0 0)]++Jn 33++[j4 w.terms,a7 .i64 w.terms.length,a7 .i64 q]++Jn 53,a5L n k V G (fun i=>n+i) fr A [bx,flB (rF n (a4r w.terms q)),lnX k n (-w.value)])) w.terms.length (fun _=>True) (idR (k+8)) trivial ?_ ?_
   ·refine W6 (X':=[]) (a18 rfl rfl rfl rfl rfl rfl) rfl (by simp [b7]) ?_ ?_
    ·intro b hb;simp at hb;rcases hb with rfl|rfl|rfl
     ·exact a4q hbx
     ·exact D8 rfl
     ·exact aH3 (by omega)
    ·exact ⟨⟨k6 (by omega),rfl,rfl⟩,rfl,rfl,⟨k6 (by omega),rfl,rfl⟩,i8 rfl,c7 (by omega),c7 rfl,trivial⟩
   intro q hq _
   by_cases hlt:q<w.terms.length
   ·obtain ⟨t,ht⟩:∃t,w.terms[q]? =some t:=⟨_,lbf hlt⟩
    obtain ⟨t0,t1,t2⟩:=o8 hr t (lbm ht)
    have nt:=a6f t.2 (hb t (lbm ht))
    have gp:(rF n (a4r w.terms q))[0+t.1.toNat]? =some (fz (a4r w.terms q t.1.toNat)):=by rw [y3,E7 (by omega)]
    have eV:0+t.1.toNat=t.1.toNat:=by omega
    have e:p5 (flB (rF n (a4r w.terms q))) ((flB (rF n (a4r w.terms q))).rows.set (0+t.1.toNat) (frC (fz (-t.2))))=flB (rF n (a4r w.terms (q+1))):=by
     have e1:=H7 (row:=rF n (a4r w.terms q)) (y:=fz (-t.2)) eV
     rw [T8 (by omega),←av3 ht] at e1
     exact e1
    conv=>whnf
    repeat' (first|refine zx ?_|refine qp nt ?_|refine d6 ht ?_|refine k7 gp ?_|refine j5 (b7 _ _ _) ?_|refine i7 ?_|refine f9 (t:=1) (b7 _ _ _) ?_|refine f9 (t:=2) (b7 _ _ _) ?_|refine f9 (t:=3) (b7 _ _ _) ?_|refine g6 (t:=1) (b7 _ _ _) ?_|refine g6 (t:=2) (b7 _ _ _) ?_|refine g6 (t:=3) (b7 _ _ _) ?_|refine zd ?_ ?_<;>intro h<;>try omega|fail)<;>conv=>whnf
    all_goals first
     |omega
     |(refine ⟨hlt,trivial,idR (k+8),W6 (X:=[bx,flB (rF n (a4r w.terms (q+1))),lnX k n (-w.value)]) (a18 rfl rfl rfl rfl rfl (congrArg (fun z=>(mF k n A).map flB++(bx::z::lnX k n (-w.value)::[_])) e)) rfl (by simp [b7]) ?_ ⟨⟨k6 (by omega),rfl,rfl⟩,rfl,rfl,⟨k6 (by omega),rfl,rfl⟩,rfl,rfl,c7 (by omega),trivial⟩⟩
       intro b hb;simp at hb;rcases hb with rfl|rfl|rfl
       ·exact a4q hbx
       ·exact D8 rfl
       ·exact aH3 (by omega))
   ·have hqe:q=w.terms.length:=by omega
    subst hqe
    have ea:a4r w.terms w.terms.length=sgF true w.terms:=b5H w.terms
    conv=>whnf
    repeat' (first|refine a4j [0,1,2,3,4,5,6,7,9,10,11,12,13,14,15,16,8,17,18,19,20,21,22,23] (by decide +kernel) (by decide +kernel) ?_|refine zz ?_|refine zz ?_|refine zz ?_|refine zz ?_|refine zz ?_|refine zz ?_|refine qp (0,1,2,3,4,5,6,7,9,10,11,12,13,14,15,16,8,17,18,19,20,21,22,23) ?_|refine qp (toC,p7,y8,X5,hfr) ?_|refine qp (toC,p7,y8,X5) ?_|refine qp 0 ?_|refine qp (0,1,8,9,10,11,12,13,14,15) ?_|refine qp (0,1) ?_|refine qp 1 ?_|refine D7 (by simp [toC,p7,y8,X5,hfr]) (by simp [toC,p7,y8,X5];omega) ?_|refine bl0 [0] ?_|refine bl0 [0,1,8,9,10,11,12,13,14,15] ?_|refine bl0 [0,1] ?_|refine bl0 [1] ?_|refine j5 (b7 _ _ _) ?_|refine i7 ?_|refine f9 (t:=1) (b7 _ _ _) ?_|refine f9 (t:=2) (b7 _ _ _) ?_|refine f9 (t:=3) (b7 _ _ _) ?_|refine g6 (t:=1) (b7 _ _ _) ?_|refine g6 (t:=2) (b7 _ _ _) ?_|refine g6 (t:=3) (b7 _ _ _) ?_|refine f9 (t:=4) (b7 _ _ _) ?_|refine b1S (lbS 1) ?_|refine zd ?_ ?_<;>intro h<;>try omega|refine zy ?_|fail)<;>conv=>whnf
    all_goals try omega
    all_goals refine b9w (n:=k+6) (by simp [b7]) (b2s (lit:=_) hbx (a18 rfl rfl rfl rfl rfl (congrArg (fun z=>(mF k n A).map flB++z) (l7 rfl (by rw [ea]) rfl ?_ rfl ?_ ?_))))
    ·exact congrArg (fun z=>({ mode:=.live,elem:=3,size:=1,rows:=z,box:=false }:Blk)) (a8o (x:=(n:Int)+k) (by simp))
    ·exact congrArg (fun z=>({ mode:=.live,elem:=296,size:=5,rows:=z,box:=false }:Blk)) (congrArg (fun z=>z++[frC (fz (-w.value))++[C.own (k+6) 0 n true]]) (lbn (by simp [y8])))
    ·exact congrArg (fun z=>({ mode:=.live,elem:=324,size:=2,rows:=z,box:=false }:Blk)) (ah3 hfr (row,true))
def gR (N:Nat) (f:Nat->Option Nat):List (Option Nat):=(List.range N).map f
theorem a2L {N i:Nat} {f:Nat->Option Nat} (h:i<N):(gR N f)[i]? =some (f i):=by simp [gR,h]
theorem b5h {N i:Nat} {x:Option Nat} {f:Nat->Option Nat} (h:(gR N f)[i]? =some x):i<N∧f i=x:=by
 obtain ⟨h1,h2⟩:=lbe.1 h
 simp [gR] at h1 h2
 exact ⟨h1,h2⟩
theorem aR8 {ρ:List (Option Nat)} {H:Hp}:∀{r:List (Option Nat)} {H':Hp},r.length=H'.length->(∀ (i:Nat) (k':Blk),H'[i]? =some k'->(r[i]? =some none∧k'.rows=[]∧k'.mode=.live)∨∃(j:Nat) (k:Blk),r[i]? =some (some j)∧H[j]? =some k∧a6d ρ H k k')->a30 ρ H r H'
 |[],[],_,_=>trivial
 |[],_::_,h,_=>by simp at h
 |_::_,[],h,_=>by simp at h
 |x::r,k'::H',hl,h=>by
  refine ⟨?_,aR8 (by simpa using hl) fun i k1 hk=>by simpa using h (i+1) k1 (by simpa using hk)⟩
  rcases h 0 k' rfl with ⟨h1,h2,h3⟩|⟨j,k,h1,h2,h3⟩
  ·simp at h1;subst h1;exact ⟨h2,h3⟩
  ·simp at h1;subst h1
   simp only [h2]
   exact h3
theorem b5d {N:Nat} {f:Nat->Option Nat} {env env':Env} {H H':Hp} (hn:H'.length=N) (hinj:∀i j x,i<N->j<N->f i=some x->f j=some x->i=j)
 (hB:∀(i:Nat) (k':Blk),H'[i]? =some k'->(f i=none∧k'.rows=[]∧k'.mode=.live)∨∃(j:Nat) (k:Blk),f i=some j∧H[j]? =some k∧a6d (gR N f) H k k') (hE:a0g (gR N f) H env env'):Ent 0 (gR N f) env H env' H':=
 ⟨rfl,a0A fun i j n h1 h2=>by
   obtain ⟨a1,a2⟩:=b5h h1
   obtain ⟨b1,b2⟩:=b5h h2
   exact hinj i j n a1 b1 a2 b2,aR8 (by simp [gR,hn]) fun i k' hk=>by
   have hi:i<N:=by rw [← hn];exact (lbe.1 hk).1
   rcases hB i k' hk with ⟨h1,h2⟩|⟨j,k,h1,h2⟩
   ·exact .inl ⟨by rw [a2L hi,h1],h2⟩
   ·exact .inr ⟨j,k,by rw [a2L hi,h1],h2⟩,hE⟩
theorem a5J {s:d7} (k:Nat):H8 s (k+1)=match s.rows[k]? with
 |none=>H8 s k
 |some w=>H8 s k++(if w.kind≠0 then [(k,false)] else [])++(if w.kind≠1 then [(k,true)] else []):=rfl
theorem at3 {s:d7} {i:Nat}:∀d,∃rest,H8 s (i+d)=H8 s i++rest
 |0=>⟨[],by simp⟩
 |d+1=>by
  obtain ⟨r,hr⟩:=at3 (s:=s) (i:=i) d
  rw [show i+(d+1)=(i+d)+1 by omega,a5J]
  cases s.rows[i+d]? with
  |none=>exact ⟨r,hr⟩
  |some w=>exact ⟨r++((if w.kind≠0 then [(i+d,false)] else [])++(if w.kind≠1 then [(i+d,true)] else [])),by simp only;rw [hr,lbE,lbE]⟩
theorem au8 {s:d7} {i k:Nat} {f:Nat × Bool} (hi:i<=s.rows.length) (h:(H8 s i)[k]? =some f):(c6 s).getD k (0,false)=f:=by
 obtain ⟨r,hr⟩:=at3 (s:=s) (i:=i) (s.rows.length - i)
 rw [show i+(s.rows.length - i)=s.rows.length by omega] at hr
 unfold c6
 rw [hr,lbl,lbb (lbe.1 h).1,h];rfl
theorem a5c {s:d7}:∀i,(H8 s i).length<=2*i
 |0=>by simp [H8]
 |i+1=>by
  have ih:=a5c (s:=s) i
  rw [a5J]
  cases s.rows[i]? with
  |none=>simp only;omega
  |some w=>
   simp only [lbq]
   split<;>split<;>simp<;>omega
theorem ab7 {s:d7} {i:Nat} {w:B8} (h:s.rows[i]? =some w):H8 s (i+1)=(H8 s i++if w.kind≠0 then [(i,false)] else [])++if w.kind≠1 then [(i,true)] else []:=by
 rw [a5J,h]
def R8 (k:Nat):Nat->Nat:=fun i=>if i=0 then 0 else if i=1 then k+8 else if i=2 then 2 else if i=3 then k+7 else if i=4 then k+9 else if i<k+5 then i else if i=k+5 then k+6 else k+5
theorem ag0 {k:Nat} (i:Nat) (hi:i<k+7):(i=0∧R8 k i=0)∨(i=1∧R8 k i=k+8)∨(i=2∧R8 k i=2)∨(i=3∧R8 k i=k+7)∨(i=4∧R8 k i=k+9)∨(5<=i∧i<k+5∧R8 k i=i)∨(5<=i∧i=k+5∧R8 k i=k+6)∨(5<=i∧i=k+6∧R8 k i=k+5):=by
 unfold R8
 by_cases h0:i=0
 ·rw [if_pos h0];omega
 ·rw [if_neg h0]
  by_cases h1:i=1
  ·rw [if_pos h1];omega
  ·rw [if_neg h1]
   by_cases h2:i=2
   ·rw [if_pos h2];omega
   ·rw [if_neg h2]
    by_cases h3:i=3
    ·rw [if_pos h3];omega
    ·rw [if_neg h3]
     by_cases h4:i=4
     ·rw [if_pos h4];omega
     ·rw [if_neg h4]
      by_cases h5:i<k+5
      ·rw [if_pos h5];omega
      ·rw [if_neg h5]
       by_cases h6:i=k+5
       ·rw [if_pos h6];omega
       ·rw [if_neg h6];omega
theorem b7k {k:Nat}:R8 k (k+6)=k+5:=by
 have:=ag0 (k:=k) (k+6) (by omega)
 omega
theorem b1z {n k:Nat} {a V G:Nat->Rat} {v:Rat} {O:Nat->Nat} {fr:List (Nat × Bool)} {f:Nat × Bool} {A:Nat->Nat->Rat} {bx:Blk} {env env':Env} (hbx:H4 bx.rows) (hv:v=V k) (ha:a=A k)
 (hE:a0g (fR (k+7) (R8 k)) (b2W n k v a V G O fr f A bx) env env'):Ent 0 (fR (k+7) (R8 k)) env (b2W n k v a V G O fr f A bx) env' (a5L n (k+1) V G O (fr++[f]) A [bx]):=by
 subst hv ha
 have r1:R8 k 1=k+8:=rfl
 have r3:R8 k 3=k+7:=rfl
 have r4:R8 k 4=k+9:=rfl
 have ra:∀i,i<k->R8 k (i+5)=i+5:=fun i hi=>by
  unfold R8
  rw [if_neg (by omega),if_neg (by omega),if_neg (by omega),if_neg (by omega),if_neg (by omega),if_pos (by omega)]
 have rk:R8 k (k+5)=k+6:=by
  unfold R8
  rw [if_neg (by omega),if_neg (by omega),if_neg (by omega),if_neg (by omega),if_neg (by omega),if_neg (by omega),if_pos rfl]
 have rb:R8 k (k+6)=k+5:=by
  unfold R8
  rw [if_neg (by omega),if_neg (by omega),if_neg (by omega),if_neg (by omega),if_neg (by omega),if_neg (by omega),if_neg (by omega)]
 have lk:∀j,(b2W n k (V k) (A k) V G O fr f A bx)[k+j+5]? =([bx,flB (rF n (A k)),U8 (k+1) O,{ mode:=.live,elem:=296,size:=5,rows:=O5 5 k n V++[frC (fz (V k))++[C.own (k+6) 0 n true]],box:=false },a0H (fr++[f])]:Hp)[j]?:=fun j=>a0M (b7 _ _ _)
 have eV:aJ9 k n (V k) V=V:=by funext i;unfold aJ9;split<;>simp_all
 refine b0m (by simp [b7]) (by omega) (fun i hi=>by omega) (fun i j hi hj h=>by have:=ag0 i hi;have:=ag0 j hj;omega) ?_ hE
 intro i k' hk
 rcases i with _|_|_|_|_|i
 ·injection hk with hk;subst hk
  exact ⟨_,rfl,rfl,rfl,rfl,.inr ⟨⟨rfl,⟨by rw [w5 (by omega),r1],rfl,rfl,fun h=>h⟩,⟨by rw [w5 (by omega)];rfl,rfl,rfl,fun h=>h⟩,⟨by rw [w5 (by omega),r3],rfl,rfl,fun h=>h⟩,rfl,⟨by rw [w5 (by omega),r4],rfl,rfl,fun h=>h⟩,trivial⟩,trivial⟩⟩
 ·injection hk with hk;subst hk
  refine ⟨_,lk 3,?_⟩
  rw [a9M,eV]
  refine a1b (h':=fun i=>i+5) fun j hj=>?_
  rw [w5 (by omega)]
  unfold hnd
  by_cases hjk:j=k
  ·subst hjk;rw [if_pos rfl,rk]
  ·rw [if_neg hjk,ra j (by omega)]
 ·injection hk with hk;subst hk;exact ⟨_,rfl,g8 (f5 _)⟩
 ·injection hk with hk;subst hk;exact ⟨_,lk 2,g8 (f5 _)⟩
 ·injection hk with hk;subst hk;exact ⟨_,lk 4,g8 (f5 _)⟩
 ·have hk:((mF (k+1) n A).map flB++[bx])[i]? =some k':=hk
  by_cases hi:i<k+1
  ·rw [H6 (M6 hi)] at hk
   injection hk with hk;subst hk
   by_cases hik:i=k
   ·subst hik;rw [rk];exact ⟨_,lk 1,g8 (f5 _)⟩
   ·rw [ra i (by omega)]
    exact ⟨_,H6 (M6 (by omega)),g8 (f5 _)⟩
  ·obtain ⟨t,rfl⟩:∃t,i=(k+1)+t:=⟨i - (k+1),by omega⟩
   rw [a0M (b7 _ _ _)] at hk
   rcases t with _|t
   ·injection hk with hk;subst hk
    rw [show k+1+0+5=k+6 by omega,rb]
    exact ⟨_,lk 0,g8 hbx⟩
   ·simp at hk
theorem b7m {b0 b1 b2 b3 b4 b5 c0 c1 c2 c3 c4 c5:Blk} {L L':Hp} (h0:b0=c0) (h1:b1=c1) (h2:b2=c2) (h3:b3=c3) (h4:b4=c4) (h5:b5=c5) (h6:L=L'):b0::b1::b2::b3::b4::b5::L=c0::c1::c2::c3::c4::c5::L':=a0l h0 h1 h2 h3 h4 h5 h6
theorem s6:∀{last n:Int} {l:List (Int × Rat)},d8 last n l=true->l.length=0∨(l.length:Int)<=n - last - 1
 |_,_,[],_=>.inl rfl
 |last,n,a::r,h=>by
  unfold d8 at h
  simp only [lbO,lbJ] at h
  have ih:=s6 h.2
  have h1:=h.1.1.1
  have h2:=h.1.1.2
  right
  rw [lbu]
  rcases ih with h0|h0
  ·rw [h0];omega
  ·omega
structure b9e (s:d7) (g:List (Int × Rat)) (n:Nat):Prop where
 r:g7 s=true
 tg:d8 (-1) n g=true
 en:s.n=n
 n1:n<=1000
 b:∀w ∈ s.rows,rl w.value<=60000∧∀t ∈ w.terms,rl t.2<=60000
 bg:∀t ∈ g,rl t.2<=60000
 l:s.rows.length<=4000
abbrev rbx (w:B8):Blk:={ mode:=.live,elem:=94,size:=6,rows:=[(u0 w).map C.t],box:=true }
theorem aM3 (w:B8):H4 (rbx w).rows:=f5 [u0 w]
def a96 (s:d7):List T:=[ti s.n,K0 s.rows]
def pF1:Nat->Option Nat:=fun i=>if i=0 then some 1 else if i=2 then some 0 else none
theorem b1H {s:d7} {g:List (Int × Rat)} {k:Nat} {b:Bool} {i:Nat} {w:B8} (h:(c6 s).getD k (0,false)=(i,b)) (hw:s.rows[i]? =some w):O6 b w.value=(f7 s g).V k:=by
 show _=a3s s ((c6 s).getD k (0,false))
 rw [h];unfold a3s;simp only [hw]
theorem b2U {s:d7} {g:List (Int × Rat)} {k:Nat} {b:Bool} {i:Nat} {w:B8} (h:(c6 s).getD k (0,false)=(i,b)) (hw:s.rows[i]? =some w):sgF b w.terms=(f7 s g).A k:=by
 funext j
 show _=a1o s ((c6 s).getD k (0,false)) j
 rw [h];unfold a1o;simp only [hw];rfl
abbrev dF (m n j q:Nat):Blk:={ mode:=.live,elem:=291,size:=6,rows:=[[C.t (ti n),.own 1 0 m true,.own 2 0 n true,.own 3 0 m true,.own 4 0 j true,.own 5 0 q true]],box:=true }
abbrev b8r (m n j:Nat) (V G:Nat->Rat) (O:Nat->Nat) (fr:List (Nat × Bool)) (A:Nat->Nat->Rat) (X:Hp):Hp:=
 dF m n j fr.length::a00 6 m n V::flB (rF n G)::U8 m O::U8 j (fun j=>j)::a0H fr::((mF m n A).map flB++X)
def fF1:Nat->Option Nat:=fun i=>if i=4 then none else if i<4 then some i else some (i - 1)
theorem b7d {m n:Nat} {V G:Nat->Rat} {O:Nat->Nat} {fr:List (Nat × Bool)} {A:Nat->Nat->Rat} {env env':Env} {H:Hp} (hm:fr.length=m) (hH:H=a5L n m V G O fr A []) (hE:a0g (gR (m+6) fF1) H env env'):
 Ent 0 (gR (m+6) fF1) env H env' (b8r m n 0 V G O fr A []):=by
 subst hH
 refine b5d (by simp [b7]) (fun i j x hi hj h1 h2=>by unfold fF1 at h1 h2;(repeat' split at h1)<;>(repeat' split at h2)<;>first|(cases h1;done)|(cases h2;done)|(injection h1 with h1;injection h2 with h2;omega)) ?_ hE
 intro i k' hk
 have fa:∀i,fF1 (i+6)=some (i+5):=fun i=>by unfold fF1;rw [if_neg (by omega),if_neg (by omega)];rfl
 rcases i with _|_|_|_|_|_|i
 ·injection hk with hk;subst hk
  exact .inr ⟨0,_,rfl,rfl,rfl,rfl,rfl,.inr ⟨⟨rfl,⟨by rw [a2L (by omega)];rfl,rfl,rfl,fun h=>h⟩,⟨by rw [a2L (by omega)];rfl,rfl,rfl,fun h=>h⟩,⟨by rw [a2L (by omega)];rfl,rfl,rfl,fun h=>h⟩,⟨by rw [a2L (by omega)];rfl,rfl,rfl⟩,⟨by rw [a2L (by omega)];rfl,rfl,hm.symm,fun h=>h⟩,trivial⟩,trivial⟩⟩
 ·injection hk with hk;subst hk
  refine .inr ⟨1,_,rfl,rfl,a1b (h:=fun i=>i+5) (h':=fun i=>i+6) fun j hj=>?_⟩
  rw [a2L (by omega),fa]
 ·injection hk with hk;subst hk;exact .inr ⟨2,_,rfl,rfl,g8 (f5 _)⟩
 ·injection hk with hk;subst hk;exact .inr ⟨3,_,rfl,rfl,g8 (f5 _)⟩
 ·injection hk with hk;subst hk;exact .inl ⟨rfl,rfl,rfl⟩
 ·injection hk with hk;subst hk;exact .inr ⟨4,_,rfl,rfl,g8 (f5 _)⟩
 ·have hk:((mF m n A).map flB++[])[i]? =some k':=hk
  have hi:i<m:=by have:=(lbe.1 hk).1;simpa [b7] using this
  rw [H6 (M6 hi)] at hk
  injection hk with hk;subst hk
  exact .inr ⟨i+5,_,fa i,H6 (M6 hi),g8 (f5 _)⟩
abbrev bl4 (m n j:Nat) (V G:Nat->Rat) (O:Nat->Nat) (fr:List (Nat × Bool)) (A:Nat->Nat->Rat):Hp:=
 { mode:=.live,elem:=291,size:=6,rows:=[[C.t (ti n),.own 1 0 m true,.own 2 0 n true,.own 3 0 m true,.own (m+6) 0 (j+1) true,.own 5 0 fr.length true]],box:=true }::
   a00 6 m n V::flB (rF n G)::U8 m O::a9O 3 1::a0H fr::((mF m n A).map flB++[U8 (j+1) (fun j=>j)])
def fF2 (m:Nat):Nat->Nat:=fun i=>if i=4 then m+6 else i
theorem b8w {m n j:Nat} {V G:Nat->Rat} {O:Nat->Nat} {fr:List (Nat × Bool)} {A:Nat->Nat->Rat} {env env':Env} {H:Hp} (hH:H=bl4 m n j V G O fr A) (hE:a0g (fR (m+6) (fF2 m)) H env env'):
 Ent 0 (fR (m+6) (fF2 m)) env H env' (b8r m n (j+1) V G O fr A []):=by
 subst hH
 have fa:∀i,i≠4->fF2 m i=i:=fun i hi=>by unfold fF2;rw [if_neg hi]
 refine b0m (by simp [b7]) (by omega) (fun i hi=>by omega) (fun i j hi hj h=>by unfold fF2 at h;(repeat' split at h)<;>omega) ?_ hE
 intro i k' hk
 rcases i with _|_|_|_|_|_|i
 ·injection hk with hk;subst hk
  exact ⟨_,rfl,rfl,rfl,rfl,.inr ⟨⟨rfl,⟨by rw [w5 (by omega)];rfl,rfl,rfl,fun h=>h⟩,⟨by rw [w5 (by omega)];rfl,rfl,rfl,fun h=>h⟩,⟨by rw [w5 (by omega)];rfl,rfl,rfl,fun h=>h⟩,⟨by rw [w5 (by omega)];rfl,rfl,rfl,fun h=>h⟩,⟨by rw [w5 (by omega)];rfl,rfl,rfl,fun h=>h⟩,trivial⟩,trivial⟩⟩
 ·injection hk with hk;subst hk
  refine ⟨_,rfl,a1b (h:=fun i=>i+6) (h':=fun i=>i+6) fun j hj=>?_⟩
  rw [w5 (by omega),fa _ (by omega)]
 ·injection hk with hk;subst hk;exact ⟨_,rfl,g8 (f5 _)⟩
 ·injection hk with hk;subst hk;exact ⟨_,rfl,g8 (f5 _)⟩
 ·injection hk with hk;subst hk
  refine ⟨_,a0M (t:=0) (b7 _ _ _),g8 (f5 _)⟩
 ·injection hk with hk;subst hk;exact ⟨_,rfl,g8 (f5 _)⟩
 ·have hk:((mF m n A).map flB++[])[i]? =some k':=hk
  have hi:i<m:=by have:=(lbe.1 hk).1;simpa [b7] using this
  rw [H6 (M6 hi)] at hk
  injection hk with hk;subst hk
  rw [fa _ (by omega)]
  exact ⟨_,H6 (M6 hi),g8 (f5 _)⟩
set_option maxHeartbeats 4000000 in
theorem aB5 (s:d7) (g:List (Int × Rat)) (n:Nat) (h:b9e s g n):
 a8 Tryz.prog 136 [K3 s,j4 g] [] (.c (.ptr 0 0 0)) (W7 (c6 s).length n (c6 s) (f7 s g)):=by
 have m1:(s.rows.map u0).length=s.rows.length:=by simp
 have m2:(g.map u6).length=g.length:=by simp
 have z0:∀H:Hp,H.length=0->N1 Tryz.prog 173 [a7 .i64 s.n] H (.c (.own 0 0 n true)) [flB (rF n fun _=>0)]:=fun H hH=>by rw [h.en];exact Y7 hH h.n1
 have hsl:=h.l
 have htg:=h.tg
 have hbg:=h.bg
 have hgl:=s6 htg
 have hn1:=h.n1
 have hen:=h.en
 have put0:∀(K i:Nat) (w:B8) (b:Bool) (F:List (Nat × Bool)) (bx:Blk),s.rows[i]? =some w->F.length=K->H4 bx.rows->K<=10000->i<=100000->
  a8 Tryz.prog 174 [.c (.ptr 0 0 0),a7 .i64 i,ba5 w,d9 b] (a5L n K (f7 s g).V (fun _=>0) (fun i=>n+i) F (f7 s g).A [bx]) (.tup []) (b2W n K (O6 b w.value) (sgF b w.terms) (f7 s g).V (fun _=>0) (fun i=>n+i) F (i,b) (f7 s g).A bx):=by
  intro K i w b F bx hw hF hbx hK hi
  have hn:=a0S h.r
  have hrw:=(a1J h.r hw).1
  rw [hn,h.en] at hrw
  have hl:=s6 hrw
  have hb:=h.b w (lbm hw)
  exact bh7 n K i w b _ _ F hF _ bx hbx h.n1 hK hi hrw (by have:=h.n1;omega) hb.2 hb.1
 (refine ac Tryz.func136 ?_;(conv=>whnf);repeat ((first|refine b0x ?_|refine zy ?_);conv=>whnf))
 repeat' (first|refine zz ?_|refine b0x ?_|refine .inl ⟨_,_,z0 _ rfl,?_⟩|refine zd ?_ ?_<;>intro h<;>try omega|refine zy ?_|fail)<;>conv=>whnf
 refine b5s (fun i=>([J,j4 g,S.c (C.t (T.ptr (a96 s))),J,J,S.c (C.ptr 0 0 0)]++Jn 13++[S.c (C.t (K0 s.rows)),a7 .i64 s.rows.length,a7 .i64 i]++Jn 53,a5L n (H8 s i).length (f7 s g).V (fun _=>0) (fun i=>n+i) (H8 s i) (f7 s g).A [])) s.rows.length (fun _=>True) (gR 5 pF1) trivial ?_ ?_
 ·refine b5d rfl (fun i j x hi hj h1 h2=>by unfold pF1 at h1 h2;(repeat' split at h1)<;>(repeat' split at h2)<;>first|(cases h1;done)|(cases h2;done)|(injection h1 with h1;injection h2 with h2;omega)) ?_ ?_
  ·intro i k' hk
   rcases i with _|_|_|_|_|i
   ·injection hk with hk;subst hk
    exact .inr ⟨1,_,rfl,rfl,rfl,rfl,rfl,.inr ⟨⟨aD8 (by rw [h.en]),⟨rfl,rfl,rfl⟩,⟨rfl,rfl,rfl,fun h=>h⟩,⟨rfl,rfl,rfl⟩,rfl,⟨rfl,rfl,rfl⟩,trivial⟩,trivial⟩⟩
   ·injection hk with hk;subst hk;exact .inl ⟨rfl,rfl,rfl⟩
   ·injection hk with hk;subst hk;exact .inr ⟨0,_,rfl,rfl,g8 (f5 _)⟩
   ·injection hk with hk;subst hk;exact .inl ⟨rfl,rfl,rfl⟩
   ·injection hk with hk;subst hk;exact .inl ⟨rfl,rfl,rfl⟩
   ·simp [mF,H8] at hk
  ·exact ⟨rfl,i8 rfl,⟨rfl,rfl,rfl⟩,i8 rfl,c7 (by omega),c7 rfl,trivial⟩
 intro i hi _
 refine H5 c9 ?_
 conv=>whnf
 repeat' (first|refine zx ?_|refine i7 ?_|refine zd ?_ ?_<;>intro h<;>try omega|fail)<;>conv=>whnf
 ·have hlt:i<s.rows.length:=by omega
  obtain ⟨w,hw⟩:∃w,s.rows[i]? =some w:=⟨_,lbf hlt⟩
  obtain ⟨K,hK⟩:∃K,K=(H8 s i).length:=⟨_,rfl⟩
  rw [← hK]
  obtain ⟨K1,hK1⟩:∃K1,K1=(H8 s i++if w.kind≠0 then [(i,false)] else []).length:=⟨_,rfl⟩
  obtain ⟨F1,hF1⟩:∃F1,F1=(H8 s i++if w.kind≠0 then [(i,false)] else []):=⟨_,rfl⟩
  have hKb:K<=10000:=by have:=a5c (s:=s) i;omega
  refine H5 c9 ?_
  conv=>whnf
  refine a4f (a1d ?_)
  refine H5 c9 ?_
  conv=>whnf
  repeat' (first|refine zx ?_|refine d6 hw ?_|refine j5 (b7 _ _ _) ?_|refine i7 ?_|refine f9 (t:=0) (b7 _ _ _) ?_|refine g6 (t:=0) (b7 _ _ _) ?_|refine zd ?_ ?_<;>intro h<;>try omega|fail)<;>conv=>whnf
  refine a6J c9 ([J,j4 g,S.c (C.t (T.ptr (a96 s))),J,J,S.c (C.ptr 0 0 0),a7 .i64 i,S.c (C.ptr (K1+5) 0 0)]++Jn 11++[S.c (C.t (K0 s.rows)),a7 .i64 s.rows.length,a7 .i64 i]++Jn 53) (a5L n K1 (f7 s g).V (fun _=>0) (fun i=>n+i) F1 (f7 s g).A [rbx w]) ?_ ?_
  ·by_cases hk:w.kind=0
   ·have e1:F1=H8 s i:=by rw [hF1,if_neg (by simp [hk]),a1p]
    have e2:K1=K:=by rw [hK1,if_neg (by simp [hk]),a1p,hK]
    subst e1 e2
    conv=>whnf
    repeat' (first|refine zx ?_|refine j5 (b7 _ _ _) ?_|refine i7 ?_|refine f9 (t:=0) (b7 _ _ _) ?_|refine g6 (t:=0) (b7 _ _ _) ?_|refine zd ?_ ?_<;>intro h<;>try omega|fail)<;>conv=>whnf
    all_goals first
     |omega
     |exact ⟨idR (K1+6),W6 (X:=[rbx w]) (X':=[]) (a18 rfl rfl rfl rfl rfl rfl) rfl (D5 _) (by intro b hb;simp at hb;subst hb;exact a4q (aM3 w)) ⟨rfl,rfl,⟨k6 (by omega),rfl,rfl⟩,rfl,⟨k6 (by omega),rfl,rfl⟩,rfl,rfl,rfl,trivial⟩⟩
   ·have e1:F1=H8 s i++[(i,false)]:=by rw [hF1,if_pos hk]
    have e2:K1=K+1:=by rw [hK1,if_pos hk,lbq,←hK];rfl
    have hg:(c6 s).getD K (0,false)=(i,false):=by
     refine au8 (i:=i+1) (by omega) ?_
     rw [ab7 hw,if_pos hk,lbE,lbc (by omega),hK];simp
    subst e1 e2
    have pu:=put0 K i w false (H8 s i) (rbx w) hw hK.symm (aM3 w) hKb (by omega)
    conv=>whnf
    repeat' (first|refine zx ?_|refine .inr ⟨_,_,pu,?_⟩|refine j5 (b7 _ _ _) ?_|refine i7 ?_|refine f9 (t:=0) (b7 _ _ _) ?_|refine g6 (t:=0) (b7 _ _ _) ?_|refine zd ?_ ?_<;>intro h<;>try omega|fail)<;>conv=>whnf
    all_goals first
     |omega
     |exact ⟨_,b1z (aM3 w) (b1H hg hw) (b2U hg hw) ⟨rfl,rfl,⟨by rw [w5 (by omega)];rfl,rfl,rfl⟩,rfl,⟨by rw [w5 (by omega),b7k],rfl,rfl⟩,rfl,rfl,rfl,trivial⟩⟩
  ·have hl1:F1.length=K1:=by rw [hF1,hK1]
   have eF:H8 s (i+1)=F1++if w.kind≠1 then [(i,true)] else []:=by rw [ab7 hw,hF1]
   have hK1b:K1<=10000:=by
    have:=a5c (s:=s) i
    rw [hK1,lbq]
    split<;>simp<;>omega
   by_cases hk:w.kind=1
   ·have e1:H8 s (i+1)=F1:=by rw [eF,if_neg (by simp [hk]),a1p]
    refine m9 c9 _ ?_
    conv=>whnf
    repeat' (first|refine zx ?_|refine j5 (b7 _ _ _) ?_|refine i7 ?_|refine f9 (t:=0) (b7 _ _ _) ?_|refine g6 (t:=0) (b7 _ _ _) ?_|refine zd ?_ ?_<;>intro h<;>try omega|fail)<;>conv=>whnf
    all_goals try omega
    refine m9 c9 _ ?_
    conv=>whnf
    repeat' (first|refine zx ?_|refine j5 (b7 _ _ _) ?_|refine i7 ?_|refine f9 (t:=0) (b7 _ _ _) ?_|refine g6 (t:=0) (b7 _ _ _) ?_|refine zd ?_ ?_<;>intro h<;>try omega|fail)<;>conv=>whnf
    refine ⟨hlt,trivial,idR (K1+5),?_⟩
    rw [e1,hl1]
    exact W6 (X:=[]) (X':=[rbx w]) (a18 rfl rfl rfl rfl rfl rfl) rfl (D5 _) (by simp) ⟨rfl,rfl,⟨k6 (by omega),rfl,rfl⟩,rfl,rfl,c7 (by omega),trivial⟩
   ·have e1:H8 s (i+1)=F1++[(i,true)]:=by rw [eF,if_pos hk]
    have hg:(c6 s).getD K1 (0,false)=(i,true):=by
     refine au8 (i:=i+1) (by omega) ?_
     rw [e1,lbc (by omega),hl1];simp
    have pu:=put0 K1 i w true F1 (rbx w) hw hl1 (aM3 w) hK1b (by omega)
    refine m9 c9 _ ?_
    conv=>whnf
    repeat' (first|refine zx ?_|refine .inr ⟨_,_,pu,?_⟩|refine j5 (b7 _ _ _) ?_|refine i7 ?_|refine f9 (t:=0) (b7 _ _ _) ?_|refine g6 (t:=0) (b7 _ _ _) ?_|refine zd ?_ ?_<;>intro h<;>try omega|fail)<;>conv=>whnf
    all_goals try omega
    refine b7u (env':=[J,j4 g,S.c (C.t (T.ptr (a96 s))),J,J,S.c (C.ptr 0 0 0)]++Jn 13++[S.c (C.t (K0 s.rows)),a7 .i64 s.rows.length,a7 .i64 i]++Jn 53) _ (b1z (aM3 w) (b1H hg hw) (b2U hg hw) ⟨rfl,rfl,⟨by rw [w5 (by omega)];rfl,rfl,rfl⟩,rfl,rfl,rfl,trivial⟩) ?_
    refine m9 c9 _ ?_
    conv=>whnf
    repeat' (first|refine zx ?_|refine j5 (b7 _ _ _) ?_|refine i7 ?_|refine f9 (t:=0) (b7 _ _ _) ?_|refine g6 (t:=0) (b7 _ _ _) ?_|refine zd ?_ ?_<;>intro h<;>try omega|fail)<;>conv=>whnf
    refine ⟨hlt,trivial,idR (K1+1+5),?_⟩
    rw [e1,show (F1++[(i,true)]).length=K1+1 by simp [hl1]]
    exact W6 (X:=[]) (X':=[rbx w]) (a18 rfl rfl rfl rfl rfl rfl) rfl (D5 _) (by simp) ⟨rfl,rfl,⟨k6 (by omega),rfl,rfl⟩,rfl,rfl,c7 (by omega),trivial⟩
 ·have hie:i=s.rows.length:=by omega
  subst hie
  refine m9 c9 _ ?_
  conv=>whnf
  repeat' (first|refine zx ?_|refine j5 (b7 _ _ _) ?_|refine i7 ?_|refine f9 (t:=0) (b7 _ _ _) ?_|refine g6 (t:=0) (b7 _ _ _) ?_|refine zd ?_ ?_<;>intro h<;>try omega|fail)<;>conv=>whnf
  all_goals try omega
  refine i3 c9 (fun q=>([J,J,S.c (C.t (T.ptr (a96 s))),J,J,S.c (C.ptr 0 0 0)]++Jn 35++[j4 g,a7 .i64 g.length,a7 .i64 q]++Jn 31,a5L n (c6 s).length (f7 s g).V (fun j=>-(J0 g q j)) (fun i=>n+i) (c6 s) (f7 s g).A [])) g.length (fun _=>True) (idR ((c6 s).length+5)) trivial ?_ ?_
  ·refine W6 (X:=[]) (X':=[]) (a18 rfl rfl ?_ rfl rfl rfl) rfl (D5 _) (by simp) ⟨i8 rfl,⟨k6 (by omega),rfl,rfl⟩,i8 rfl,c7 (by omega),c7 rfl,trivial⟩
   rw [A9 (g:=fun _=>0) (h:=fun j=>-(J0 g 0 j)) fun j hj=>by show (0:Rat)=-0;decide]
  intro q hq _
  by_cases hlt:q<g.length
  ·obtain ⟨t,ht⟩:∃t,g[q]? =some t:=⟨_,lbf hlt⟩
   obtain ⟨t0,t1,t2⟩:=o8 htg t (lbm ht)
   have nt:=a6f t.2 (hbg t (lbm ht))
   have gp:(rF n (fun j=>-(J0 g q j)))[0+t.1.toNat]? =some (fz (-(J0 g q t.1.toNat))):=by rw [y3,E7 (by omega)]
   have eV:0+t.1.toNat=t.1.toNat:=by omega
   have e:p5 (flB (rF n (fun j=>-(J0 g q j)))) ((flB (rF n (fun j=>-(J0 g q j)))).rows.set (0+t.1.toNat) (frC (fz (-t.2))))=flB (rF n (fun j=>-(J0 g (q+1) j))):=by
    have e1:=H7 (row:=rF n (fun j=>-(J0 g q j))) (y:=fz (-t.2)) eV
    rw [T8 (by omega)] at e1
    refine e1.trans ?_
    rw [G6 ht]
    refine congrArg flB ?_
    exact A9 fun j hj=>by show (if j=t.1.toNat then -t.2 else -(J0 g q j))=-(if j=t.1.toNat then t.2 else J0 g q j);split<;>rfl
   conv=>whnf
   repeat' (first|refine zx ?_|refine qp nt ?_|refine d6 ht ?_|refine k7 gp ?_|refine j5 (b7 _ _ _) ?_|refine i7 ?_|refine f9 (t:=0) (b7 _ _ _) ?_|refine g6 (t:=0) (b7 _ _ _) ?_|refine zd ?_ ?_<;>intro h<;>try omega|fail)<;>conv=>whnf
   all_goals first
    |omega
    |exact ⟨hlt,trivial,idR ((c6 s).length+5),W6 (X:=[]) (X':=[_]) (a18 rfl rfl e rfl rfl rfl) rfl (D5 _) (by simp) ⟨rfl,⟨k6 (by omega),rfl,rfl⟩,rfl,rfl,c7 (by omega),trivial⟩⟩
  ·have hqe:q=g.length:=by omega
   subst hqe
   conv=>whnf
   repeat' (first|refine zx ?_|refine j5 (b7 _ _ _) ?_|refine i7 ?_|refine f9 (t:=0) (b7 _ _ _) ?_|refine g6 (t:=0) (b7 _ _ _) ?_|refine zd ?_ ?_<;>intro h<;>try omega|fail)<;>conv=>whnf
   all_goals try omega
   refine i3 c9 (fun q=>([J,J,J,J,J,S.c (C.ptr 0 0 0)]++Jn 53++[a7 .i64 n,a7 .i64 q]++Jn 14,b8r (c6 s).length n q (f7 s g).V (f7 s g).G (fun i=>n+i) (c6 s) (f7 s g).A [])) n (fun _=>True) (gR ((c6 s).length+6) fF1) trivial ?_ ?_
   ·exact b7d rfl rfl ⟨⟨by rw [a2L (by omega)];rfl,rfl,rfl⟩,c7 hen,c7 rfl,trivial⟩
   intro q hq _
   by_cases hlt:q<n
   ·conv=>whnf
    repeat' (first|refine zx ?_|refine qp (toC,p7) ?_|refine qp (toC,p7) ?_|refine qp 0 ?_|refine D7 (by simp [toC,p7]) (by simp [toC,p7];omega) ?_|refine bl0 [0] ?_|refine j5 (b7 _ _ _) ?_|refine i7 ?_|refine f9 (t:=0) (b7 _ _ _) ?_|refine g6 (t:=0) (b7 _ _ _) ?_|refine zd ?_ ?_<;>intro h<;>try omega|fail)<;>conv=>whnf
    all_goals first
     |omega
     |(refine ⟨hlt,trivial,fR ((c6 s).length+6) (fF2 (c6 s).length),b8w (b7m rfl rfl rfl rfl rfl rfl (congrArg (fun z=>(mF (c6 s).length n (f7 s g).A).map flB++[z]) ?_)) ⟨⟨by rw [w5 (by omega)];rfl,rfl,rfl⟩,rfl,c7 (by omega),trivial⟩⟩
       exact congrArg (fun z=>({ mode:=.live,elem:=3,size:=1,rows:=z,box:=false }:Blk)) (a8o (O:=fun j=>j) (x:=(q:Int)) rfl))
   ·have hqe:q=n:=by omega
    subst hqe
    conv=>whnf
    repeat' (first|refine zx ?_|refine j5 (b7 _ _ _) ?_|refine i7 ?_|refine f9 (t:=0) (b7 _ _ _) ?_|refine g6 (t:=0) (b7 _ _ _) ?_|refine zd ?_ ?_<;>intro h<;>try omega|fail)<;>conv=>whnf
    all_goals try omega
    refine ax2 (n:=(c6 s).length+6) a2n (D5 _) a74 (fun i _=>?_) ⟨k6 (by omega),rfl,rfl⟩
    have e0:W7 (c6 s).length q (c6 s) (f7 s g)=b8r (c6 s).length q q (f7 s g).V (f7 s g).G (fun i=>q+i) (c6 s) (f7 s g).A []:=by
     have eO:(f7 s g).O=fun i=>q+i:=by funext i;show s.n.toNat+i=_;rw [hen];rfl
     show _::_::_::U8 _ (f7 s g).O::_::_::_=_::_::_::_::_::_::(_++[])
     rw [a1p,eO];rfl
    rw [e0]
def ptK (n:Nat) (O:Nat->Nat) (v x0:Nat->Rat):Nat->Nat->Rat
 |0=>x0
 |k+1=>fun j=>if O k<n∧j=O k then v k else ptK n O v x0 k j
theorem L7 {n:Nat} {O:Nat->Nat} {v x0:Nat->Rat} {k:Nat}:ptK n O v x0 (k+1)=fun j=>if O k<n∧j=O k then v k else ptK n O v x0 k j:=rfl
theorem al3 {n:Nat} {O:Nat->Nat} {v x0:Nat->Rat} {j:Nat}:∀{k:Nat},(∀ i,i<k->O i≠j)->ptK n O v x0 k j=x0 j
 |0,_=>rfl
 |k+1,h=>by rw [L7];simp only;rw [if_neg (fun e=>h k (by omega) e.2.symm),al3 fun i hi=>h i (by omega)]
theorem aj9 {n:Nat} {O:Nat->Nat} {v x0:Nat->Rat} {i:Nat}:∀{k:Nat},i<k->O i<n->(∀ a,a<k->O a=O i->a=i)->ptK n O v x0 k (O i)=v i
 |0,h,_,_=>by omega
 |k+1,h,hn,hu=>by
  rw [L7];simp only
  by_cases he:O k=O i
  ·have:=hu k (by omega) he
   subst this
   rw [if_pos ⟨hn,rfl⟩]
  ·rw [if_neg (fun e=>he e.2.symm)]
   have:i≠k:=fun e=>he (by rw [e])
   exact aj9 (by omega) hn fun a ha=>hu a (by omega)
theorem aZ7 {m n:Nat} {D:Fd} (hP:Q1 m n D) {j:Nat} (hj:j<n):ptK n D.O D.V (fun _=>0) m j=F2 m n D 1 (fun _=>0) j:=by
 rcases hP.all j (by omega) with ⟨i,hi,rfl⟩|⟨q,hq,rfl⟩
 ·rw [aj9 hi hj fun a ha he=>hP.oi a i ha hi he,a3n hP hi,s7 fun j _=>by grind];grind
 ·rw [al3 fun i hi=>hP.of i q hi hq,X6 hP hq]
theorem aA8 {m n c:Nat} {D:Fd} (hP:Q1 m n D) (hc:c<n) {j:Nat} (hj:j<n):ptK n D.O (fun i=>-(D.A i c)) (fun j=>if D.F c<n∧j=D.F c then 1 else 0) m j=F2 m n D 0 (fun q=>if q=c then 1 else 0) j:=by
 rcases hP.all j (by omega) with ⟨i,hi,rfl⟩|⟨q,hq,rfl⟩
 ·rw [aj9 hi hj fun a ha he=>hP.oi a i ha hi he,a3n hP hi,e8 (g:=fun q=>(if c=q then (1:Rat) else 0)*D.A i q) fun q _=>by
   by_cases h:q=c
   ·subst h;simp only [if_true];grind
   ·rw [if_neg h,if_neg (fun e=>h e.symm)];grind,a3D hc]
  grind
 ·rw [al3 fun i hi=>hP.of i q hi hq,X6 hP hq]
  by_cases h:q=c
  ·subst h;rw [if_pos rfl,if_pos ⟨hj,rfl⟩]
  ·rw [if_neg h,if_neg (fun e=>h (hP.fi q c hq hc e.2))]
theorem a5R (n:Nat) (y:Nat->Rat):(zOf n y).map fz=rF n y:=by unfold zOf rF;rw [a4b];rfl
abbrev dT (m n:Nat) (fr:List (Nat × Bool)) (D:Fd):S:=.c (.t (.ptr (b98 m n fr D)))
set_option maxHeartbeats 2000000 in
theorem b75 (m n:Nat) (fr:List (Nat × Bool)) (D:Fd) (hP:Q1 m n D) (hm:m<=100000) (hn:n<=1000):a8 Tryz.prog 138 [dT m n fr D] [] (k8 ((zOf n (F2 m n D 1 (fun _=>0))).map fz)) []:=by
 have m1:(a0c m D.O).length=m:=p7 _ _
 have z0:∀H:Hp,H.length=0->N1 Tryz.prog 173 [a7 .i64 n] H (.c (.own 0 0 n true)) [flB (rF n fun _=>0)]:=fun H hH=>Y7 hH hn
 rw [a5R,←A9 (g:=ptK n D.O D.V (fun _=>0) m) fun j hj=>aZ7 hP hj]
 (refine ac Tryz.func138 ?_;(conv=>whnf);repeat ((first|refine b0x ?_|refine zy ?_);conv=>whnf))
 repeat' (first|refine zx ?_|refine .inl ⟨_,_,z0 _ rfl,?_⟩|refine zd ?_ ?_<;>intro h<;>try omega|fail)<;>conv=>whnf
 refine i3 c9 (fun k=>([dT m n fr D,J,J,S.c (C.own 0 0 n true)]++Jn 10++[a6k m D.O,a7 .i64 m,a7 .i64 k]++Jn 23,[flB (rF n (ptK n D.O D.V (fun _=>0) k))])) m (fun _=>True) [some 0] trivial
  ⟨rfl,rfl,⟨g8 (f5 _),trivial⟩,⟨i8 rfl,⟨rfl,rfl,rfl,fun h=>h⟩,i8 rfl,c7 (by omega),c7 rfl,trivial⟩⟩ ?_
 intro k hk _
 by_cases hlt:k<m
 ·by_cases ho:D.O k<n
  ·have gp:(rF n (ptK n D.O D.V (fun _=>0) k))[0+((D.O k:Nat):Int).toNat]? =some (fz (ptK n D.O D.V (fun _=>0) k (D.O k))):=by rw [show 0+((D.O k:Nat):Int).toNat=D.O k by omega,E7 ho]
   have e:p5 (flB (rF n (ptK n D.O D.V (fun _=>0) k))) ((flB (rF n (ptK n D.O D.V (fun _=>0) k))).rows.set (0+((D.O k:Nat):Int).toNat) (frC (fz (D.V k))))=flB (rF n (ptK n D.O D.V (fun _=>0) (k+1))):=by
    rw [H7 (show 0+((D.O k:Nat):Int).toNat=D.O k by omega),T8 ho,L7]
    refine congrArg flB (A9 fun j hj=>?_)
    simp only [ho,true_and]
   conv=>whnf
   repeat' (first|refine zx ?_|refine B9 rfl hlt ?_|refine a09 rfl hlt ?_|refine k7 gp ?_|refine zd ?_ ?_<;>intro h<;>try omega|fail)<;>conv=>whnf
   all_goals first
    |omega
    |exact ⟨hlt,trivial,[some 0],rfl,rfl,⟨⟨rfl,rfl,rfl,.inl ⟨congrArg Blk.rows e,(congrArg Blk.rows e) ▸ f5 _⟩⟩,trivial⟩,⟨rfl,⟨rfl,rfl,rfl,fun h=>h⟩,rfl,rfl,c7 (by omega),trivial⟩⟩
  ·have e:ptK n D.O D.V (fun _=>0) (k+1)=ptK n D.O D.V (fun _=>0) k:=by rw [L7];funext j;rw [if_neg (fun h=>ho h.1)]
   conv=>whnf
   repeat' (first|refine zx ?_|refine B9 rfl hlt ?_|refine zd ?_ ?_<;>intro h<;>try omega|fail)<;>conv=>whnf
   all_goals first
    |omega
    |exact ⟨hlt,trivial,[some 0],rfl,rfl,⟨b8 (rows:=(rF n (ptK n D.O D.V (fun _=>0) k)).map j0) rfl rfl rfl rfl (by rw [e]),trivial⟩,⟨rfl,⟨rfl,rfl,rfl,fun h=>h⟩,rfl,rfl,c7 (by omega),trivial⟩⟩
 ·have hke:k=m:=by omega
  subst hke
  conv=>whnf
  repeat' (first|refine zx ?_|refine zd ?_ ?_<;>intro h<;>try omega|fail)<;>conv=>whnf
  all_goals first
   |omega
   |exact V5 rfl (fun h=>h) rfl rfl (by simp [L4])
set_option maxHeartbeats 2000000 in
theorem ba4 (m n:Nat) (fr:List (Nat × Bool)) (D:Fd) (c:Nat) (hc:c<n) (hP:Q1 m n D) (hm:m<=100000) (hn:n<=1000) (hB:∀i,i<m->rl (D.A i c)<=60000):
 a8 Tryz.prog 139 [dT m n fr D,a7 .i64 c] [] (k8 ((zOf n (F2 m n D 0 (fun q=>if q=c then 1 else 0))).map fz)) []:=by
 have m1:(a0c m D.O).length=m:=p7 _ _
 have z0:∀H:Hp,H.length=0->N1 Tryz.prog 173 [a7 .i64 n] H (.c (.own 0 0 n true)) [flB (rF n fun _=>0)]:=fun H hH=>Y7 hH hn
 have i1:=B3 1 (by decide) (by decide)
 obtain ⟨x0,hx0⟩:∃x0:Nat->Rat,x0=fun j=>if D.F c<n∧j=D.F c then 1 else 0:=⟨_,rfl⟩
 rw [a5R,←A9 (g:=ptK n D.O (fun i=>-(D.A i c)) x0 m) fun j hj=>by rw [hx0];exact aA8 hP hc hj]
 by_cases hf:D.F c<n
 ·have gp0:(rF n (fun _=>(0:Rat)))[0+((D.F c:Nat):Int).toNat]? =some (fz 0):=by rw [show 0+((D.F c:Nat):Int).toNat=D.F c by omega,E7 hf]
  have e0:p5 (flB (rF n (fun _=>(0:Rat)))) ((flB (rF n (fun _=>(0:Rat)))).rows.set (0+((D.F c:Nat):Int).toNat) (frC (fz ((1:Int):Rat))))=flB (rF n x0):=by
   rw [H7 (show 0+((D.F c:Nat):Int).toNat=D.F c by omega),T8 hf,hx0]
   refine congrArg flB (A9 fun j hj=>?_)
   simp only [hf,true_and];rfl
  (refine ac Tryz.func139 ?_;(conv=>whnf);repeat ((first|refine b0x ?_|refine zy ?_);conv=>whnf))
  repeat' (first|refine zx ?_|refine qp i1 ?_|refine .inl ⟨_,_,z0 _ rfl,?_⟩|refine B9 rfl hc ?_|refine k7 gp0 ?_|refine zd ?_ ?_<;>intro h<;>try omega|fail)<;>conv=>whnf
  all_goals try omega
  refine i3 c9 (fun k=>([dT m n fr D,a7 .i64 c,J,J,J,S.c (C.own 0 0 n true)]++Jn 28++[a6k m D.O,a7 .i64 m,a7 .i64 k]++Jn 27,[flB (rF n (ptK n D.O (fun i=>-(D.A i c)) x0 k))])) m (fun _=>True) [some 0] trivial
   ⟨rfl,rfl,⟨⟨rfl,rfl,rfl,.inl ⟨congrArg Blk.rows e0,(congrArg Blk.rows e0) ▸ f5 _⟩⟩,trivial⟩,⟨i8 rfl,c7 rfl,⟨rfl,rfl,rfl,fun h=>h⟩,i8 rfl,c7 (by omega),c7 rfl,trivial⟩⟩ ?_
  intro k hk _
  by_cases hlt:k<m
  ·have ng:=a6f (D.A k c) (hB k hlt)
   by_cases ho:D.O k<n
   ·have gp:(rF n (ptK n D.O (fun i=>-(D.A i c)) x0 k))[0+((D.O k:Nat):Int).toNat]? =some (fz (ptK n D.O (fun i=>-(D.A i c)) x0 k (D.O k))):=by rw [show 0+((D.O k:Nat):Int).toNat=D.O k by omega,E7 ho]
    have e:p5 (flB (rF n (ptK n D.O (fun i=>-(D.A i c)) x0 k))) ((flB (rF n (ptK n D.O (fun i=>-(D.A i c)) x0 k))).rows.set (0+((D.O k:Nat):Int).toNat) (frC (fz (-(D.A k c)))))=flB (rF n (ptK n D.O (fun i=>-(D.A i c)) x0 (k+1))):=by
     rw [H7 (show 0+((D.O k:Nat):Int).toNat=D.O k by omega),T8 ho,L7]
     refine congrArg flB (A9 fun j hj=>?_)
     simp only [ho,true_and]
    conv=>whnf
    repeat' (first|refine zx ?_|refine qp ng ?_|refine B9 rfl hlt ?_|refine a09 rfl hlt ?_|refine a3c rfl hc ?_|refine k7 gp ?_|refine zd ?_ ?_<;>intro h<;>try omega|fail)<;>conv=>whnf
    all_goals first
     |omega
     |exact ⟨hlt,trivial,[some 0],rfl,rfl,⟨⟨rfl,rfl,rfl,.inl ⟨congrArg Blk.rows e,(congrArg Blk.rows e) ▸ f5 _⟩⟩,trivial⟩,⟨rfl,rfl,⟨rfl,rfl,rfl,fun h=>h⟩,rfl,rfl,c7 (by omega),trivial⟩⟩
   ·have e:ptK n D.O (fun i=>-(D.A i c)) x0 (k+1)=ptK n D.O (fun i=>-(D.A i c)) x0 k:=by rw [L7];funext j;rw [if_neg (fun h=>ho h.1)]
    conv=>whnf
    repeat' (first|refine zx ?_|refine B9 rfl hlt ?_|refine zd ?_ ?_<;>intro h<;>try omega|fail)<;>conv=>whnf
    all_goals first
     |omega
     |exact ⟨hlt,trivial,[some 0],rfl,rfl,⟨b8 (rows:=(rF n (ptK n D.O (fun i=>-(D.A i c)) x0 k)).map j0) rfl rfl rfl rfl (by rw [e]),trivial⟩,⟨rfl,rfl,⟨rfl,rfl,rfl,fun h=>h⟩,rfl,rfl,c7 (by omega),trivial⟩⟩
  ·have hke:k=m:=by omega
   subst hke
   conv=>whnf
   repeat' (first|refine zx ?_|refine zd ?_ ?_<;>intro h<;>try omega|fail)<;>conv=>whnf
   all_goals first
    |omega
    |exact V5 rfl (fun h=>h) rfl rfl (by simp [L4])
 ·have e0:x0=fun _=>0:=by rw [hx0];funext j;rw [if_neg (fun h=>hf h.1)]
  (refine ac Tryz.func139 ?_;(conv=>whnf);repeat ((first|refine b0x ?_|refine zy ?_);conv=>whnf))
  repeat' (first|refine zx ?_|refine qp i1 ?_|refine .inl ⟨_,_,z0 _ rfl,?_⟩|refine B9 rfl hc ?_|refine zd ?_ ?_<;>intro h<;>try omega|fail)<;>conv=>whnf
  all_goals try omega
  refine i3 c9 (fun k=>([dT m n fr D,a7 .i64 c,J,J,J,S.c (C.own 0 0 n true)]++Jn 28++[a6k m D.O,a7 .i64 m,a7 .i64 k]++Jn 27,[flB (rF n (ptK n D.O (fun i=>-(D.A i c)) x0 k))])) m (fun _=>True) [some 0] trivial
   ⟨rfl,rfl,⟨b8 (rows:=(rF n (fun _=>0)).map j0) rfl rfl rfl rfl (by rw [e0];rfl),trivial⟩,⟨i8 rfl,c7 rfl,⟨rfl,rfl,rfl,fun h=>h⟩,i8 rfl,c7 (by omega),c7 rfl,trivial⟩⟩ ?_
  intro k hk _
  by_cases hlt:k<m
  ·have ng:=a6f (D.A k c) (hB k hlt)
   by_cases ho:D.O k<n
   ·have gp:(rF n (ptK n D.O (fun i=>-(D.A i c)) x0 k))[0+((D.O k:Nat):Int).toNat]? =some (fz (ptK n D.O (fun i=>-(D.A i c)) x0 k (D.O k))):=by rw [show 0+((D.O k:Nat):Int).toNat=D.O k by omega,E7 ho]
    have e:p5 (flB (rF n (ptK n D.O (fun i=>-(D.A i c)) x0 k))) ((flB (rF n (ptK n D.O (fun i=>-(D.A i c)) x0 k))).rows.set (0+((D.O k:Nat):Int).toNat) (frC (fz (-(D.A k c)))))=flB (rF n (ptK n D.O (fun i=>-(D.A i c)) x0 (k+1))):=by
     rw [H7 (show 0+((D.O k:Nat):Int).toNat=D.O k by omega),T8 ho,L7]
     refine congrArg flB (A9 fun j hj=>?_)
     simp only [ho,true_and]
    conv=>whnf
    repeat' (first|refine zx ?_|refine qp ng ?_|refine B9 rfl hlt ?_|refine a09 rfl hlt ?_|refine a3c rfl hc ?_|refine k7 gp ?_|refine zd ?_ ?_<;>intro h<;>try omega|fail)<;>conv=>whnf
    all_goals first
     |omega
     |exact ⟨hlt,trivial,[some 0],rfl,rfl,⟨⟨rfl,rfl,rfl,.inl ⟨congrArg Blk.rows e,(congrArg Blk.rows e) ▸ f5 _⟩⟩,trivial⟩,⟨rfl,rfl,⟨rfl,rfl,rfl,fun h=>h⟩,rfl,rfl,c7 (by omega),trivial⟩⟩
   ·have e:ptK n D.O (fun i=>-(D.A i c)) x0 (k+1)=ptK n D.O (fun i=>-(D.A i c)) x0 k:=by rw [L7];funext j;rw [if_neg (fun h=>ho h.1)]
    conv=>whnf
    repeat' (first|refine zx ?_|refine B9 rfl hlt ?_|refine zd ?_ ?_<;>intro h<;>try omega|fail)<;>conv=>whnf
    all_goals first
     |omega
     |exact ⟨hlt,trivial,[some 0],rfl,rfl,⟨b8 (rows:=(rF n (ptK n D.O (fun i=>-(D.A i c)) x0 k)).map j0) rfl rfl rfl rfl (by rw [e]),trivial⟩,⟨rfl,rfl,⟨rfl,rfl,rfl,fun h=>h⟩,rfl,rfl,c7 (by omega),trivial⟩⟩
  ·have hke:k=m:=by omega
   subst hke
   conv=>whnf
   repeat' (first|refine zx ?_|refine zd ?_ ?_<;>intro h<;>try omega|fail)<;>conv=>whnf
   all_goals first
    |omega
    |exact V5 rfl (fun h=>h) rfl rfl (by simp [L4])
def a7b (y:Nat->Rat) (r:Nat) (p:Rat):Nat->Rat:=fun i=>if i=r then y i+p else y i
theorem be0 (b:Bool) (p:Rat):rl (O6 b p)=rl p:=by cases b;rfl;exact M9 p
set_option maxHeartbeats 2000000 in
theorem a6p (m n:Nat) (fr:List (Nat × Bool)) (D:Fd) (R:Nat) (y:Nat->Rat) (k row:Nat) (b:Bool) (p:Rat) (hk:fr[k]? =some (row,b)) (hr:row<R) (hp:rl p<=50000) (hy:rl (y row)<=50000):
 a8 Tryz.prog 182 [dT m n fr D,.c (.own 0 0 R true),a7 .i64 k,frS (fz p)] [flB (rF R y)] (.tup []) [flB (rF R (a7b y row (-(O6 b p))))]:=by
 have m1:(X5 fr).length=fr.length:=by simp [X5]
 have eR:0+(row:Int).toNat=row:=by omega
 have gp:(rF R y)[0+(row:Int).toNat]? =some (fz (y row)):=by rw [eR,E7 hr]
 have ng:=a6f p (by omega)
 cases b with
 |true=>
  have ad:=a3j (y row) p (by omega) (by omega)
  have e:p5 (flB (rF R y)) ((flB (rF R y)).rows.set (0+(row:Int).toNat) (frC (fz (y row+p))))=flB (rF R (a7b y row (-(O6 true p)))):=by
   rw [H7 eR,T8 hr]
   refine congrArg flB (A9 fun j hj=>?_)
   show (if j=row then y row+p else y j)=if j=row then y j+- -p else y j
   by_cases h:j=row
   ·subst h;rw [if_pos rfl,if_pos rfl,Rat.neg_neg]
   ·rw [if_neg h,if_neg h]
  (refine ac Tryz.func182 ?_;(conv=>whnf);repeat (refine zy ?_;conv=>whnf))
  repeat' (first|refine zx ?_|refine qp ng ?_|refine qp ad ?_|refine qp 12 ?_|refine d6 hk ?_|refine k7 gp ?_|refine bl0 [12] ?_|refine zd ?_ ?_<;>intro h<;>try omega|fail)<;>conv=>whnf
  all_goals first
   |omega
   |(exfalso;simp_all;done)
   |exact ⟨[some 0],rfl,rfl,⟨⟨rfl,rfl,rfl,.inl ⟨congrArg Blk.rows e,(congrArg Blk.rows e) ▸ f5 _⟩⟩,trivial⟩,trivial⟩
 |false=>
  have ad:=a3j (y row) (-p) (by omega) (by rw [M9];omega)
  have e:p5 (flB (rF R y)) ((flB (rF R y)).rows.set (0+(row:Int).toNat) (frC (fz (y row+-p))))=flB (rF R (a7b y row (-(O6 false p)))):=by
   rw [H7 eR,T8 hr]
   refine congrArg flB (A9 fun j hj=>?_)
   show (if j=row then y row+-p else y j)=if j=row then y j+-p else y j
   by_cases h:j=row
   ·subst h;rfl
   ·rw [if_neg h,if_neg h]
  (refine ac Tryz.func182 ?_;(conv=>whnf);repeat (refine zy ?_;conv=>whnf))
  repeat' (first|refine zx ?_|refine qp ng ?_|refine qp ad ?_|refine qp 12 ?_|refine d6 hk ?_|refine k7 gp ?_|refine bl0 [12] ?_|refine zd ?_ ?_<;>intro h<;>try omega|fail)<;>conv=>whnf
  all_goals first
   |omega
   |(exfalso;simp_all;done)
   |exact ⟨[some 0],rfl,rfl,⟨⟨rfl,rfl,rfl,.inl ⟨congrArg Blk.rows e,(congrArg Blk.rows e) ▸ f5 _⟩⟩,trivial⟩,trivial⟩
def yK (z:Nat->Rat) (f:Nat->Nat->Rat) (k:Nat):Nat->Rat:=fun i=>z i+f8 (fun j=>f j i) k
theorem a4L {z:Nat->Rat} {f:Nat->Nat->Rat} {k:Nat}:yK z f (k+1)=fun i=>yK z f k i+f k i:=by
 funext i;unfold yK;simp only [f8];grind
theorem a4Q {f:Nat->Rat} {B:Nat}:∀k:Nat,(∀ j,j<k->rl (f j)<=B)->rl (f8 f k)<=k*(B+1)+1
 |0,_=>by
  have h0:=rl0
  have e:f8 f 0=0:=by simp only [f8,S8]
  rw [e];omega
 |k+1,h=>by
  have h1:=a4Q k fun j hj=>h j (by omega)
  have h2:=h k (by omega)
  have h3:=Y6 (f8 f k) (f k)
  simp only [f8]
  rw [lbV]
  omega
theorem aI8 {s:d7} {w i B:Nat} {p:Rat} (h:rl p<=B) (hB:1<=B):rl (chg s w p i)<=B:=by
 unfold chg
 split
 ·rw [M9,be0];exact h
 ·have:=rl0;omega
theorem a9y {s:d7} {w:Nat} {p:Rat} (h:w<s.n.toNat):chg s w p=fun _=>0:=by
 funext i;unfold chg;rw [if_neg (fun e=>by omega)]
theorem aE7 {s:d7} {w k row:Nat} {b:Bool} {p:Rat} (hw:w=s.n.toNat+k) (hf:(c6 s)[k]? =some (row,b)) (y:Nat->Rat):a7b y row (-(O6 b p))=fun i=>y i+chg s w p i:=by
 funext i
 have e:z7 s (w - s.n.toNat)=(row,b):=by unfold z7;rw [show w - s.n.toNat=k by omega,lbl,hf];rfl
 unfold a7b chg
 rw [e]
 by_cases h:i=row
 ·subst h;rw [if_pos rfl,if_pos ⟨by omega,rfl⟩]
 ·rw [if_neg h,if_neg (fun e=>h e.2.symm)];grind
theorem a6L {s:d7} {k:Nat} {f:Nat × Bool} (h:(c6 s)[k]? =some f):f.1<s.rows.length:=by
 obtain ⟨w,hw,_⟩:=Y0.1 (lbm h)
 exact (lbe.1 hw).1
set_option maxHeartbeats 2000000 in
theorem b4q (s:d7) (n:Nat) (hn:s.n=n) (E:Fd) (hP:Q1 (c6 s).length n E) (B:Nat) (hB:∀j,j<n->rl (E.G j)<=B) (hB1:1<=B) (hBn:(n+2)*(B+2)<=50000) (hm:(c6 s).length<=100000) (hR:s.rows.length<=1000) (hn1:n<=1000):
 a8 Tryz.prog 141 [dT (c6 s).length n (c6 s) E,a7 .i64 s.rows.length] [] (.c (.own 0 0 s.rows.length true)) [flB (rF s.rows.length (y4 s E))]:=by
 have m1:(a0c n E.F).length=n:=p7 _ _
 have hnn:s.n.toNat=n:=by omega
 have z0:∀H:Hp,H.length=0->N1 Tryz.prog 173 [a7 .i64 s.rows.length] H (.c (.own 0 0 s.rows.length true)) [flB (rF s.rows.length fun _=>0)]:=fun H hH=>Y7 hH hR
 have eB:B<=50000:=by
  have:(n+2)*(B+2)=n*(B+2)+2*(B+2):=by rw [N4]
  omega
 obtain ⟨f,hf⟩:∃f:Nat->Nat->Rat,f=fun j=>chg s (E.F j) (-(E.G j)):=⟨_,rfl⟩
 have e9:y4 s E=yK (fun _=>0) f n:=by
  funext i;unfold y4 yK;rw [hf,hnn];grind
 rw [e9]
 (refine ac Tryz.func141 ?_;(conv=>whnf);repeat ((first|refine b0x ?_|refine zy ?_);conv=>whnf))
 repeat' (first|refine zx ?_|refine .inl ⟨_,_,z0 _ rfl,?_⟩|refine zd ?_ ?_<;>intro h<;>try omega|fail)<;>conv=>whnf
 refine i3 c9 (fun k=>([dT (c6 s).length n (c6 s) E,J,J,J,J,S.c (C.own 0 0 s.rows.length true),J,J,J,J,J,J,J,a6k n E.F,a7 .i64 n,a7 .i64 k]++Jn 29,[flB (rF s.rows.length (yK (fun _=>0) f k))])) n (fun _=>True) [some 0] trivial
  ⟨rfl,rfl,⟨b8 (rows:=(rF s.rows.length (fun _=>0)).map j0) rfl rfl rfl rfl ?_,trivial⟩,⟨i8 rfl,⟨rfl,rfl,rfl,fun h=>h⟩,i8 rfl,c7 (by omega),c7 rfl,trivial⟩⟩ ?_
 ·rw [A9 (g:=yK (fun _=>0) f 0) (h:=fun _=>0) fun j hj=>by unfold yK;simp only [f8,S8];grind]
 intro k hk _
 by_cases hlt:k<n
 ·have ng:=a6f (E.G k) (by have:=hB k hlt;omega)
  by_cases ho:E.F k<n
  ·have e:yK (fun _=>0) f (k+1)=yK (fun _=>0) f k:=by
    rw [a4L,hf];funext i
    have e0:chg s (E.F k) (-(E.G k)) i=0:=by rw [a9y (by omega)]
    show _+chg s (E.F k) (-(E.G k)) i=_
    rw [e0];grind
   conv=>whnf
   repeat' (first|refine zx ?_|refine B9 rfl hlt ?_|refine zd ?_ ?_<;>intro h<;>try omega|fail)<;>conv=>whnf
   all_goals first
    |omega
    |exact ⟨hlt,trivial,[some 0],rfl,rfl,⟨b8 (rows:=(rF s.rows.length (yK (fun _=>0) f k)).map j0) rfl rfl rfl rfl (by rw [e]),trivial⟩,⟨rfl,⟨rfl,rfl,rfl,fun h=>h⟩,rfl,rfl,c7 (by omega),trivial⟩⟩
  ·have hfb:=hP.fb k hlt
   obtain ⟨q,hq⟩:∃q,E.F k=n+q:=⟨E.F k - n,by omega⟩
   obtain ⟨⟨row,b⟩,hfr⟩:∃x,(c6 s)[q]? =some x:=⟨_,lbf (by omega)⟩
   have hrow:row<s.rows.length:=a6L hfr
   have by1:rl (yK (fun _=>0) f k row)<=50000:=by
    have h1:=a4Q (f:=fun j=>f j row) (B:=B) k fun j hj=>by rw [hf];exact aI8 (by rw [M9];exact hB j (by omega)) hB1
    have e:yK (fun _=>0) f k row=f8 (fun j=>f j row) k:=by unfold yK;grind
    rw [e]
    have:k*(B+1)<=n*(B+1):=lbU _ (by omega)
    have:(n+2)*(B+2)=n*(B+1)+n+2*(B+2):=by rw [N4,show n*(B+2)=n*(B+1)+n by rw [Nat.mul_add,Nat.mul_add];omega]
    omega
   have ch:=a6p (c6 s).length n (c6 s) E s.rows.length (yK (fun _=>0) f k) q row b (-(E.G k)) hfr hrow (by rw [M9];have:=hB k hlt;omega) by1
   have e:a7b (yK (fun _=>0) f k) row (-(O6 b (-(E.G k))))=yK (fun _=>0) f (k+1):=by rw [aE7 (s:=s) (w:=E.F k) (by omega) hfr,a4L,hf]
   rw [e,show ((q:Nat):Int)=(E.F k:Int) - n by omega] at ch
   conv=>whnf
   repeat' (first|refine zx ?_|refine qp ng ?_|refine B9 rfl hlt ?_|refine a3c rfl hlt ?_|refine .inr ⟨_,_,ch,?_⟩|refine zd ?_ ?_<;>intro h<;>try omega|fail)<;>conv=>whnf
   all_goals first
    |omega
    |exact ⟨hlt,trivial,[some 0],rfl,rfl,⟨g8 (f5 _),trivial⟩,⟨rfl,⟨rfl,rfl,rfl,fun h=>h⟩,rfl,rfl,c7 (by omega),trivial⟩⟩
 ·have hke:k=n:=by omega
  subst hke
  conv=>whnf
  repeat' (first|refine zx ?_|refine zd ?_ ?_<;>intro h<;>try omega|fail)<;>conv=>whnf
  all_goals first
   |omega
   |exact ⟨[some 0],rfl,rfl,⟨g8 (f5 _),trivial⟩,⟨rfl,rfl,rfl,fun h=>h⟩⟩
set_option maxHeartbeats 2000000 in
theorem aB2 (s:d7) (n r:Nat) (hn:s.n=n) (E:Fd) (hP:Q1 (c6 s).length n E) (hr:r<(c6 s).length) (B:Nat) (hB:∀j,j<n->rl (E.A r j)<=B) (hB1:1<=B) (hBn:(n+3)*(B+2)<=50000) (hm:(c6 s).length<=100000) (hR:s.rows.length<=1000) (hn1:n<=1000):
 a8 Tryz.prog 140 [dT (c6 s).length n (c6 s) E,a7 .i64 s.rows.length,a7 .i64 r] [] (.c (.own 0 0 s.rows.length true)) [flB (rF s.rows.length (a8J s E r))]:=by
 have m1:(a0c n E.F).length=n:=p7 _ _
 have hnn:s.n.toNat=n:=by omega
 have z0:∀H:Hp,H.length=0->N1 Tryz.prog 173 [a7 .i64 s.rows.length] H (.c (.own 0 0 s.rows.length true)) [flB (rF s.rows.length fun _=>0)]:=fun H hH=>Y7 hH hR
 have i1:=B3 1 (by decide) (by decide)
 have eBn:(n+3)*(B+2)=n*(B+1)+n+3*(B+2):=by rw [N4,show n*(B+2)=n*(B+1)+n by rw [Nat.mul_add,Nat.mul_add];omega]
 have eB:B<=50000:=by omega
 obtain ⟨f,hf⟩:∃f:Nat->Nat->Rat,f=fun j=>chg s (E.F j) (E.A r j):=⟨_,rfl⟩
 obtain ⟨z,hz⟩:∃z:Nat->Rat,z=chg s (E.O r) 1:=⟨_,rfl⟩
 have zb:∀i,rl (z i)<=B:=fun i=>by rw [hz];exact aI8 (by have:=rl1;omega) hB1
 have e9:a8J s E r=yK z f n:=by
  funext i;unfold a8J yK;rw [hf,hnn,hz]
 rw [e9]
 have hob:=hP.ob r hr
 by_cases ho:E.O r<n
 ·have ez:z=fun _=>0:=by rw [hz,a9y (by omega)]
  (refine ac Tryz.func140 ?_;(conv=>whnf);repeat ((first|refine b0x ?_|refine zy ?_);conv=>whnf))
  repeat' (first|refine zx ?_|refine .inl ⟨_,_,z0 _ rfl,?_⟩|refine B9 rfl hr ?_|refine zd ?_ ?_<;>intro h<;>try omega|fail)<;>conv=>whnf
  all_goals try omega
  refine i3 c9 (fun k=>([dT (c6 s).length n (c6 s) E,J,a7 .i64 r,J,J,J,J,S.c (C.own 0 0 s.rows.length true)]++Jn 31++[a6k n E.F,a7 .i64 n,a7 .i64 k]++Jn 32,[flB (rF s.rows.length (yK z f k))])) n (fun _=>True) [some 0] trivial
   ⟨rfl,rfl,⟨b8 (rows:=(rF s.rows.length z).map j0) rfl rfl rfl (by rw [ez]) ?_,trivial⟩,⟨i8 rfl,c7 rfl,⟨rfl,rfl,rfl,fun h=>h⟩,i8 rfl,c7 (by omega),c7 rfl,trivial⟩⟩ ?_
  ·rw [A9 (g:=yK z f 0) (h:=z) fun j hj=>by unfold yK;simp only [f8,S8];grind]
  intro k hk _
  by_cases hlt:k<n
  ·have ba:=hB k hlt
   by_cases ho2:E.F k<n
   ·have e:yK z f (k+1)=yK z f k:=by
     rw [a4L,hf];funext i
     have e0:chg s (E.F k) (E.A r k) i=0:=by rw [a9y (by omega)]
     show _+chg s (E.F k) (E.A r k) i=_
     rw [e0];grind
    conv=>whnf
    repeat' (first|refine zx ?_|refine B9 rfl hlt ?_|refine zd ?_ ?_<;>intro h<;>try omega|fail)<;>conv=>whnf
    all_goals first
     |omega
     |exact ⟨hlt,trivial,[some 0],rfl,rfl,⟨b8 (rows:=(rF s.rows.length (yK z f k)).map j0) rfl rfl rfl rfl (by rw [e]),trivial⟩,⟨rfl,rfl,⟨rfl,rfl,rfl,fun h=>h⟩,rfl,rfl,c7 (by omega),trivial⟩⟩
   ·have hfb:=hP.fb k hlt
    obtain ⟨q2,hq2⟩:∃q2,E.F k=n+q2:=⟨E.F k - n,by omega⟩
    obtain ⟨⟨row2,b2⟩,hfr2⟩:∃x,(c6 s)[q2]? =some x:=⟨_,lbf (by omega)⟩
    have hrow2:row2<s.rows.length:=a6L hfr2
    have by1:rl (yK z f k row2)<=50000:=by
     have h1:=a4Q (f:=fun j=>f j row2) (B:=B) k fun j hj=>by rw [hf];exact aI8 (hB j (by omega)) hB1
     have h2:=Y6 (z row2) (f8 (fun j=>f j row2) k)
     have h3:=zb row2
     have:k*(B+1)<=n*(B+1):=lbU _ (by omega)
     unfold yK
     omega
    have ch2:=a6p (c6 s).length n (c6 s) E s.rows.length (yK z f k) q2 row2 b2 (E.A r k) hfr2 hrow2 (by omega) by1
    have e:a7b (yK z f k) row2 (-(O6 b2 (E.A r k)))=yK z f (k+1):=by rw [aE7 (s:=s) (w:=E.F k) (by omega) hfr2,a4L,hf]
    rw [e,show ((q2:Nat):Int)=(E.F k:Int) - n by omega] at ch2
    conv=>whnf
    repeat' (first|refine zx ?_|refine B9 rfl hlt ?_|refine a09 rfl hr ?_|refine a3c rfl hlt ?_|refine .inr ⟨_,_,ch2,?_⟩|refine zd ?_ ?_<;>intro h<;>try omega|fail)<;>conv=>whnf
    all_goals first
     |omega
     |exact ⟨hlt,trivial,[some 0],rfl,rfl,⟨g8 (f5 _),trivial⟩,⟨rfl,rfl,⟨rfl,rfl,rfl,fun h=>h⟩,rfl,rfl,c7 (by omega),trivial⟩⟩
  ·have hke:k=n:=by omega
   subst hke
   conv=>whnf
   repeat' (first|refine zx ?_|refine zd ?_ ?_<;>intro h<;>try omega|fail)<;>conv=>whnf
   all_goals first
    |omega
    |exact ⟨[some 0],rfl,rfl,⟨g8 (f5 _),trivial⟩,⟨rfl,rfl,rfl,fun h=>h⟩⟩
 ·obtain ⟨q,hq⟩:∃q,E.O r=n+q:=⟨E.O r - n,by omega⟩
  obtain ⟨⟨row,b⟩,hfr⟩:∃x,(c6 s)[q]? =some x:=⟨_,lbf (by omega)⟩
  have hrow:row<s.rows.length:=a6L hfr
  have ch:=a6p (c6 s).length n (c6 s) E s.rows.length (fun _=>0) q row b 1 hfr hrow (by have:=rl1;omega) (by have:=rl0;omega)
  have e:rF s.rows.length (a7b (fun _=>0) row (-(O6 b 1)))=rF s.rows.length z:=A9 fun j hj=>by
   rw [aE7 (s:=s) (w:=E.O r) (by omega) hfr,hz];grind
  rw [e,show ((q:Nat):Int)=(E.O r:Int) - n by omega] at ch
  have ch:a8 Tryz.prog 182 [dT (c6 s).length n (c6 s) E,.c (.own 0 0 s.rows.length true),a7 .i64 ((E.O r:Int) - n),frS (fz ((1:Int):Rat))] [flB (rF s.rows.length fun _=>0)] (.tup []) [flB (rF s.rows.length z)]:=ch
  (refine ac Tryz.func140 ?_;(conv=>whnf);repeat ((first|refine b0x ?_|refine zy ?_);conv=>whnf))
  repeat' (first|refine zx ?_|refine qp i1 ?_|refine .inl ⟨_,_,z0 _ rfl,?_⟩|refine B9 rfl hr ?_|refine .inr ⟨_,_,ch,?_⟩|refine zd ?_ ?_<;>intro h<;>try omega|fail)<;>conv=>whnf
  all_goals try omega
  refine i3 c9 (fun k=>([dT (c6 s).length n (c6 s) E,J,a7 .i64 r,J,J,J,J,S.c (C.own 0 0 s.rows.length true)]++Jn 31++[a6k n E.F,a7 .i64 n,a7 .i64 k]++Jn 32,[flB (rF s.rows.length (yK z f k))])) n (fun _=>True) [some 0] trivial
   ⟨rfl,rfl,⟨b8 (rows:=(rF s.rows.length z).map j0) rfl rfl rfl (rfl) ?_,trivial⟩,⟨i8 rfl,c7 rfl,⟨rfl,rfl,rfl,fun h=>h⟩,i8 rfl,c7 (by omega),c7 rfl,trivial⟩⟩ ?_
  ·rw [A9 (g:=yK z f 0) (h:=z) fun j hj=>by unfold yK;simp only [f8,S8];grind]
  intro k hk _
  by_cases hlt:k<n
  ·have ba:=hB k hlt
   by_cases ho2:E.F k<n
   ·have e:yK z f (k+1)=yK z f k:=by
     rw [a4L,hf];funext i
     have e0:chg s (E.F k) (E.A r k) i=0:=by rw [a9y (by omega)]
     show _+chg s (E.F k) (E.A r k) i=_
     rw [e0];grind
    conv=>whnf
    repeat' (first|refine zx ?_|refine B9 rfl hlt ?_|refine zd ?_ ?_<;>intro h<;>try omega|fail)<;>conv=>whnf
    all_goals first
     |omega
     |exact ⟨hlt,trivial,[some 0],rfl,rfl,⟨b8 (rows:=(rF s.rows.length (yK z f k)).map j0) rfl rfl rfl rfl (by rw [e]),trivial⟩,⟨rfl,rfl,⟨rfl,rfl,rfl,fun h=>h⟩,rfl,rfl,c7 (by omega),trivial⟩⟩
   ·have hfb:=hP.fb k hlt
    obtain ⟨q2,hq2⟩:∃q2,E.F k=n+q2:=⟨E.F k - n,by omega⟩
    obtain ⟨⟨row2,b2⟩,hfr2⟩:∃x,(c6 s)[q2]? =some x:=⟨_,lbf (by omega)⟩
    have hrow2:row2<s.rows.length:=a6L hfr2
    have by1:rl (yK z f k row2)<=50000:=by
     have h1:=a4Q (f:=fun j=>f j row2) (B:=B) k fun j hj=>by rw [hf];exact aI8 (hB j (by omega)) hB1
     have h2:=Y6 (z row2) (f8 (fun j=>f j row2) k)
     have h3:=zb row2
     have:k*(B+1)<=n*(B+1):=lbU _ (by omega)
     unfold yK
     omega
    have ch2:=a6p (c6 s).length n (c6 s) E s.rows.length (yK z f k) q2 row2 b2 (E.A r k) hfr2 hrow2 (by omega) by1
    have e:a7b (yK z f k) row2 (-(O6 b2 (E.A r k)))=yK z f (k+1):=by rw [aE7 (s:=s) (w:=E.F k) (by omega) hfr2,a4L,hf]
    rw [e,show ((q2:Nat):Int)=(E.F k:Int) - n by omega] at ch2
    conv=>whnf
    repeat' (first|refine zx ?_|refine B9 rfl hlt ?_|refine a09 rfl hr ?_|refine a3c rfl hlt ?_|refine .inr ⟨_,_,ch2,?_⟩|refine zd ?_ ?_<;>intro h<;>try omega|fail)<;>conv=>whnf
    all_goals first
     |omega
     |exact ⟨hlt,trivial,[some 0],rfl,rfl,⟨g8 (f5 _),trivial⟩,⟨rfl,rfl,⟨rfl,rfl,rfl,fun h=>h⟩,rfl,rfl,c7 (by omega),trivial⟩⟩
  ·have hke:k=n:=by omega
   subst hke
   conv=>whnf
   repeat' (first|refine zx ?_|refine zd ?_ ?_<;>intro h<;>try omega|fail)<;>conv=>whnf
   all_goals first
    |omega
    |exact ⟨[some 0],rfl,rfl,⟨g8 (f5 _),trivial⟩,⟨rfl,rfl,rfl,fun h=>h⟩⟩
def a6W (ρ:List (Option Nat)) (H:Hp):Env->Env->Prop
 |[],[]=>True
 |s::r,s'::r'=>match s' with
  |.junk=>a6W ρ H r r'
  |s'=>(a5Z ρ H s s'∨VYS H (fun id=>N2 ρ id=true) s s')∧a6W ρ H r r'
 |_,_=>False
theorem a6W.rel {ρ:List (Option Nat)} {H:Hp}:∀{env env':Env},a6W ρ H env env'->env.length=env'.length∧∀(t:Nat) (s':S),env'[t]? =some s'->∃s,env[t]? =some s∧(a5Z ρ H s s'∨VYS H (fun id=>N2 ρ id=true) s s')
 |[],[],_=>⟨rfl,by simp⟩
 |s::r,s'::r',h=>by
  have h':(a5Z ρ H s s'∨VYS H (fun id=>N2 ρ id=true) s s')∧a6W ρ H r r':=by
   cases s' with
   |junk=>exact ⟨.inl trivial,h⟩
   |_=>exact h
  obtain ⟨h1,h2⟩:=a6W.rel h'.2
  refine ⟨by simp [h1],fun t s'' ht=>?_⟩
  cases t with
  |zero=>simp at ht;subst ht;exact ⟨s,rfl,h'.1⟩
  |succ t=>simpa using h2 t s'' (by simpa using ht)
 |[],_::_,h=>h.elim
 |_::_,[],h=>h.elim
structure b8i (n0:Nat) (ρ:List (Option Nat)) (env:Env) (H:Hp) (env':Env) (H':Hp):Prop where
 k:a13 ρ n0=true
 n:O8 ρ H'=true
 h:a30 ρ H ρ H'
 e:a6W ρ H env env'
theorem b8i.sim {n0:Nat} {ρ:List (Option Nat)} {env env':Env} {H H':Hp} (h:b8i n0 ρ env H env' H') {w0:World} {ι0:Io} {M0:Ms} {H0:Hp} {a:Act} {w:World} (hn:H0.length=n0) (hM0:MB w0 M0)
 (hs:Sim w0 ι0 M0 H0 a w env H):Sim w0 ι0 M0 H0 a w env' H':=by
 obtain ⟨h1,h2,h3,h4⟩:=h
 obtain ⟨ι,M,hd,hsz,he,hH,hM,hF,hst⟩:=hs
 obtain ⟨hel,heg⟩:=a6W.rel h4
 obtain ⟨q1,q2,q3⟩:=a30.all h1 h2 h3 hn hM0 hH hst
 refine ⟨K8 ρ ι,_,hd,by omega,fun t s' ht=>?_,q1,fun b hb=>hM b hb.1,q2,q3⟩
 obtain ⟨s,r1,r2⟩:=heg t s' ht
 rcases r2 with r2|r2
 ·exact r2.rs hH (he t s r1)
 ·refine r2.rs hH (fun b hb=>hb.1) ?_ (he t s r1)
  intro id k b cap size hp hk hd hi hb
  exact hb.2 ⟨id,k,cap,size,hp,hk,hd,hi⟩
theorem a6M {P:Program} {τ:Tab} (hτ:v6 P τ) {n0:Nat} {x y:Code} {env:Env} {H:Hp} {Q:AX->Env->Hp->Prop} (E2:Env) (H2:Hp)
 (h:a4d P τ n0 x env H fun a env' H'=>match a with
   |.normal=>∃ρ,b8i n0 ρ env' H' E2 H2
   |a=>Q a env' H') (h2:Awp P n0 y E2 H2 Q):Awp P n0 (.seq x y) env H Q:=by
 refine ⟨fun w0 ι0 M0 H0 a w hn hM hs=>?_⟩
 refine wp_seq (wp_mono ((m9 hτ x h).out w0 ι0 M0 H0 a w hn hM hs) ?_)
 rintro e a' w' ⟨x,env',H',rfl,hq,hs'⟩
 cases x with
 |normal=>obtain ⟨ρ,he⟩:=hq;exact h2.out w0 ι0 M0 H0 a' w' hn hM (he.sim hn hM hs')
 |exit id=>exact ⟨_,env',H',rfl,hq,hs'⟩
 |ret=>exact ⟨_,env',H',rfl,hq,hs'⟩
theorem b3A {P:Program} {n0:Nat} {c:Operand} {t e:Code} {env:Env} {H:Hp} {Q:AX->Env->Hp->Prop} {b:Bool} (hb:B2 env c=d9 b) (h:Awp P n0 (cond b t e) env H Q):Awp P n0 (.cond c t e) env H Q:=by
 refine ⟨fun w0 ι0 M0 H0 a w hn hM hs=>?_⟩
 have hs0:=hs
 obtain ⟨ι,M,hd,hsz,he,hH,hMB,hF,hst⟩:=hs
 have hv:=(he.ev.to hb).inv_atm
 refine wp_cond hv ?_
 cases b with
 |true=>exact h.out w0 ι0 M0 H0 a w hn hM hs0
 |false=>exact h.out w0 ι0 M0 H0 a w hn hM hs0
theorem b79 {m n:Nat} {fr:List (Nat × Bool)} {D:Fd} {X:Hp} {p:Nat->Prop} (hp:∀i,i<m+6->p i):VY (G4 m n fr D.V D.G D.O D.F D.A X) p (.own 1 0 m true) (.sl 5 .any (a8G m n D)):=by
 refine b5N (k:=a00 6 m n D.V) (hp _ (by omega)) rfl (fun h=>h) rfl (a4U m n D) ?_ ?_
 ·intro r hr
  obtain ⟨i,_,rfl⟩:=lby.1 hr
  rfl
 ·intro i r hi
  have him:i<m:=by have:=(lbe.1 hi).1;rwa [a4U] at this
  rw [a8g him] at hi
  injection hi with hi
  subst hi
  refine ⟨_,a2e him,?_⟩
  show VYL _ _ ((j0 (fz (D.V i))).map C.t++[C.own (i+6) 0 n true]) _
  have hv:VY (G4 m n fr D.V D.G D.O D.F D.A X) p (C.own (i+6) 0 n true) (T.sl 4 .any ((rF n (D.A i)).map j0)):=
   .vc (y0 (k:=flB (rF n (D.A i))) (hp _ (by omega)) (H6 (M6 him)) (fun h=>h) rfl rfl (by simp [L4]))
  exact aB8 (ys:=[C.own (i+6) 0 n true]) (us:=[T.sl 4 .any ((rF n (D.A i)).map j0)]) (show _∧True from ⟨hv,trivial⟩)
theorem a9w {m n:Nat} {fr:List (Nat × Bool)} {D:Fd} {X:Hp} {p:Nat->Prop} (hp:∀i,i<m+6->p i):VY (G4 m n fr D.V D.G D.O D.F D.A X) p (.ptr 0 0 0) (.ptr (b98 m n fr D)):=by
 refine ai7 (k:=b1q m n fr.length) (hp _ (by omega)) rfl (fun h=>h) rfl ⟨b7b,b79 hp,?_,?_,?_,?_,trivial⟩
 ·exact .vc (y0 (k:=flB (rF n D.G)) (hp _ (by omega)) rfl (fun h=>h) rfl rfl (by simp [L4]))
 ·exact .vc (y0 (k:=U8 m D.O) (hp _ (by omega)) rfl (fun h=>h) rfl rfl (by simp [p7]))
 ·exact .vc (y0 (k:=U8 n D.F) (hp _ (by omega)) rfl (fun h=>h) rfl rfl (by simp [p7]))
 ·exact .vc (y0 (k:=a0H fr) (hp _ (by omega)) rfl (fun h=>h) rfl rfl (by simp [X5]))
abbrev bg7 (m n k:Nat):Blk:={ mode:=.live,elem:=291,size:=6,rows:=[[C.t (ti n),.own 2 0 m true,.own 3 0 n true,.own 4 0 m true,.own 5 0 n true,.own 6 0 k true]],box:=true }
abbrev b9N (m n:Nat) (fr:List (Nat × Bool)) (D:Fd) (b:Blk):Hp:=
 b::bg7 m n fr.length::a00 7 m n D.V::flB (rF n D.G)::U8 m D.O::U8 n D.F::a0H fr::(mF m n D.A).map flB
theorem b8T {N i:Nat} (h:i<N):(a38 [] 1 N).getD i 0=i+1:=by
 unfold a38
 rw [a8T,lbl,lba,lbh h]
 show 1+i=i+1
 omega
theorem b9W {σ:List Nat} (ts:List T) (l:List C):a0i σ (ts.map C.t++l)=ts.map C.t++a0i σ l:=by
 rw [G3,G3,lbD,a4b]
 congr 1
theorem a9z {s:d7} {g:List (Int × Rat)} {n:Nat} (b:Blk) (h:a8 Tryz.prog 136 [K3 s,j4 g] [] (.c (.ptr 0 0 0)) (W7 (c6 s).length n (c6 s) (f7 s g))):
 a8 Tryz.prog 136 [K3 s,j4 g] [b] (.c (.ptr 1 0 0)) (b9N (c6 s).length n (c6 s) (f7 s g) b):=by
 have hlen:(W7 (c6 s).length n (c6 s) (f7 s g)).length=(c6 s).length+6:=a2n
 have hl:∀k ∈ W7 (c6 s).length n (c6 s) (f7 s g),k.mode=.live:=by
  intro k hk
  simp only [lbB] at hk
  rcases hk with rfl|rfl|rfl|rfl|rfl|rfl|hk
  ·rfl
  ·rfl
  ·rfl
  ·rfl
  ·rfl
  ·rfl
  ·obtain ⟨l,_,rfl⟩:=lby.1 hk;rfl
 have hsub:(W7 (c6 s).length n (c6 s) (f7 s g)).length - ([]:Hp).length=(c6 s).length+6:=by rw [hlen];simp
 have g1:∀i,i<(c6 s).length+6->(a38 [] ([b]:Hp).length ((W7 (c6 s).length n (c6 s) (f7 s g)).length - ([]:Hp).length)).getD i 0=i+1:=fun i hi=>by
  rw [hsub];exact b8T hi
 refine O0 [] h rfl rfl rfl List.nodup_nil (by simp) (fun k hk=>by rw [hl k hk];intro h;cases h) (by simp) rfl ?_ (by rw [hsub];simp [b7];omega) ?_ ?_
 ·show S.c (.ptr 1 0 0)=S.c (.ptr _ 0 0)
  rw [g1 0 (by omega)]
 ·intro i k hk
  have hi:i<(c6 s).length+6:=by rw [← hlen];exact (lbe.1 hk).1
  rw [g1 i hi]
  rcases i with _|_|_|_|_|_|i
  ·injection hk with hk;subst hk
   refine ⟨_,rfl,rfl,rfl,rfl,rfl,?_⟩
   simp only [a5Y,a3q,List.map_nil,a0i,Q5]
   rw [g1 1 (by omega),g1 2 (by omega),g1 3 (by omega),g1 4 (by omega),g1 5 (by omega)]
  ·injection hk with hk;subst hk
   refine ⟨_,rfl,rfl,rfl,rfl,rfl,?_⟩
   unfold a5Y
   show O5 7 _ _ _=(O5 6 _ _ _).map _
   unfold O5
   rw [a4b]
   refine lbp fun j hj=>?_
   have hj:=lbC.1 hj
   show _=a0i _ ((j0 (fz ((f7 s g).V j))).map C.t++[C.own (j+6) 0 n true])
   rw [b9W]
   simp only [a0i,Q5]
   rw [g1 (j+6) (by omega)]
   rfl
  ·injection hk with hk;subst hk;exact ⟨_,rfl,C4 rfl⟩
  ·injection hk with hk;subst hk;exact ⟨_,rfl,C4 rfl⟩
  ·injection hk with hk;subst hk;exact ⟨_,rfl,C4 rfl⟩
  ·injection hk with hk;subst hk;exact ⟨_,rfl,C4 rfl⟩
  ·have hk:((mF (c6 s).length n (f7 s g).A).map flB)[i]? =some k:=hk
   refine ⟨k,hk,?_⟩
   obtain ⟨l,_,rfl⟩:=lby.1 (lbm hk)
   exact C4 rfl
 ·intro j hj _
  have:j=0:=by simpa using hj
  subst this;rfl
def fS (m:Nat):Nat->Nat:=fun i=>if i<m+6 then i+1 else 0
theorem a72 {m n:Nat} {fr:List (Nat × Bool)} {D:Fd} {b:Blk} {env env':Env} {H:Hp} (hb:H4 b.rows) (hH:H=b9N m n fr D b) (hE:a0g (fR (m+7) (fS m)) H env env'):
 Ent 0 (fR (m+7) (fS m)) env H env' (G4 m n fr D.V D.G D.O D.F D.A [b]):=by
 subst hH
 have fa:∀i,i<m+6->fS m i=i+1:=fun i hi=>by unfold fS;rw [if_pos hi]
 refine b0m (by simp [b7]) (by omega) (fun i hi=>by omega) (fun i j hi hj h=>by unfold fS at h;(repeat' split at h)<;>omega) ?_ hE
 intro i k' hk
 rcases i with _|_|_|_|_|_|i
 ·injection hk with hk;subst hk
  rw [fa 0 (by omega)]
  exact ⟨_,rfl,rfl,rfl,rfl,.inr ⟨⟨rfl,⟨by rw [w5 (by omega),fa _ (by omega)],rfl,rfl,fun h=>h⟩,⟨by rw [w5 (by omega),fa _ (by omega)],rfl,rfl,fun h=>h⟩,⟨by rw [w5 (by omega),fa _ (by omega)],rfl,rfl,fun h=>h⟩,⟨by rw [w5 (by omega),fa _ (by omega)],rfl,rfl,fun h=>h⟩,⟨by rw [w5 (by omega),fa _ (by omega)],rfl,rfl,fun h=>h⟩,trivial⟩,trivial⟩⟩
 ·injection hk with hk;subst hk
  rw [fa 1 (by omega)]
  refine ⟨_,rfl,a1b (h:=fun i=>i+7) (h':=fun i=>i+6) fun j hj=>?_⟩
  rw [w5 (by omega),fa _ (by omega)]
 ·injection hk with hk;subst hk;rw [fa 2 (by omega)];exact ⟨_,rfl,g8 (f5 _)⟩
 ·injection hk with hk;subst hk;rw [fa 3 (by omega)];exact ⟨_,rfl,g8 (f5 _)⟩
 ·injection hk with hk;subst hk;rw [fa 4 (by omega)];exact ⟨_,rfl,g8 (f5 _)⟩
 ·injection hk with hk;subst hk;rw [fa 5 (by omega)];exact ⟨_,rfl,g8 (f5 _)⟩
 ·have hk:((mF m n D.A).map flB++[b])[i]? =some k':=hk
  by_cases hi:i<m
  ·rw [H6 (M6 hi)] at hk
   injection hk with hk;subst hk
   rw [fa _ (by omega)]
   refine ⟨flB (rF n (D.A i)),?_,g8 (f5 _)⟩
   show ((mF m n D.A).map flB)[i]? =_
   rw [lba,M6 hi];rfl
  ·obtain ⟨t,rfl⟩:∃t,i=m+t:=⟨i - m,by omega⟩
   rw [a0M (b7 _ _ _)] at hk
   rcases t with _|t
   ·injection hk with hk;subst hk
    have:fS m (m+0+6)=0:=by unfold fS;rw [if_neg (by omega)]
    rw [this]
    exact ⟨_,rfl,g8 hb⟩
   ·simp at hk
theorem a54 {m n:Nat} {fr:List (Nat × Bool)} {D E:Fd} {r:S} (X:Hp) (hr:av5 r=true) (hr':r.isT=true) (h:a8 Tryz.prog 137 [.c (.ptr 0 0 0)] (W7 m n fr D) r (W7 m n fr E)):
 a8 Tryz.prog 137 [.c (.ptr 0 0 0)] (G4 m n fr D.V D.G D.O D.F D.A X) r (G4 m n fr E.V E.G E.O E.F E.A X):=by
 have hl:∀{D:Fd},∀k ∈ W7 m n fr D,k.mode=.live∧k.app=false:=by
  intro D k hk
  simp only [lbB] at hk
  rcases hk with rfl|rfl|rfl|rfl|rfl|rfl|hk
  ·exact ⟨rfl,rfl⟩
  ·exact ⟨rfl,rfl⟩
  ·exact ⟨rfl,rfl⟩
  ·exact ⟨rfl,rfl⟩
  ·exact ⟨rfl,rfl⟩
  ·exact ⟨rfl,rfl⟩
  ·obtain ⟨l,_,rfl⟩:=lby.1 hk
   exact ⟨rfl,rfl⟩
 exact a8U (n:=m+6) X h a2n a2n (by simp [okS,okC,K5]) (fun k hk=>⟨(hl k hk).1,(hl k hk).2,a74 k hk⟩) (fun k hk=>⟨(by rw [(hl k hk).1];intro h;cases h),a74 k hk⟩) hr hr'
theorem aS6 (l:List (Int × Rat)) (z:List Rat) (hl:l.length<=1000000) (h1:∀t ∈ l,rl t.2<=20000) (h2:∀v ∈ z,rl v<=40000) (hS:∀k,rl (i9 (l.take k) z)<=60000) (hz:z.length<=1000000) (hr:d8 (-1) z.length l=true):
 a8 Tryz.prog 112 [j4 l,k8 (z.map fz)] [] (frS (fz (i9 l z))) []:=by
 have m1:(l.map u6).length=l.length:=by simp
 have m2:((z.map fz).map j0).length=z.length:=by simp
 have i0:=B3 0 (by decide) (by decide)
 (refine ac Tryz.func112 ?_;(conv=>whnf);repeat ((first|refine b0x ?_|refine zy ?_);conv=>whnf))
 repeat' (first|refine zx ?_|refine qp i0 ?_|refine zd ?_ ?_<;>intro h<;>try omega|fail)<;>conv=>whnf
 refine i3 c9 (fun k=>([J,k8 (z.map fz),J,J,S.c (C.ptr 0 0 0),S.c (C.ptr 1 0 0),J,J,J,J,J,j4 l,a7 .i64 l.length,a7 .i64 k]++Jn 22,[frB J3,frB (fz (i9 (l.take k) z))])) l.length (fun _=>True) [some 0,some 1] trivial
  ⟨rfl,rfl,⟨⟨rfl,rfl,rfl,.inr ⟨⟨rfl,rfl,rfl,rfl,trivial⟩,trivial⟩⟩,⟨rfl,rfl,rfl,.inl ⟨rfl,A8 _⟩⟩,trivial⟩,⟨rfl,⟨rfl,rfl,rfl⟩,⟨rfl,rfl,rfl⟩,rfl,c7 (by simp),rfl,trivial⟩⟩ ?_
 intro k hk _
 by_cases hlt:k<l.length
 ·obtain ⟨t,ht⟩:∃t,l[k]? =some t:=⟨_,lbf hlt⟩
  obtain ⟨v,c⟩:=t
  have hv:=at8 hr _ (lbm ht)
  simp only at hv
  have bc:=h1 _ (lbm ht)
  simp only at bc
  obtain ⟨x,hx⟩:∃x,z[v.toNat]? =some x:=⟨_,lbf (by omega)⟩
  have hxd:z.getD v.toNat 0=x:=by rw [lbl,hx];rfl
  have bx:=h2 x (lbm hx)
  have b3:=a4x c x
  have bs:=hS k
  have mu:=aF7 c x (by omega) (by omega)
  have ad:=a3j (i9 (l.take k) z) (c*x) (by omega) (by omega)
  have e:i9 (l.take k) z+c*x=i9 (l.take (k+1)) z:=by
   have:l.take (k+1)=l.take k++[(v,c)]:=by rw [lbH,ht];rfl
   rw [this,Q6,←hxd]
  rw [e] at ad
  have xz:(z.map fz)[v.toNat]? =some (fz x):=by rw [lba,hx];rfl
  conv=>whnf
  repeat' (first|refine zx ?_|refine qp mu ?_|refine qp ad ?_|refine qp 10 ?_|refine qp 5 ?_|refine d6 ht ?_|refine N3 (by omega) xz ?_|refine bl0 [10] ?_|refine bl0 [5] ?_|refine zd ?_ ?_<;>intro h<;>try omega|fail)<;>conv=>whnf
  all_goals first
   |omega
   |exact ⟨hlt,trivial,[some 0,some 1],rfl,rfl,⟨⟨rfl,rfl,rfl,.inl ⟨rfl,A8 _⟩⟩,⟨rfl,rfl,rfl,.inl ⟨rfl,A8 _⟩⟩,trivial⟩,⟨rfl,⟨rfl,rfl,rfl⟩,⟨rfl,rfl,rfl⟩,rfl,rfl,rfl,trivial⟩⟩
 ·have hke:k=l.length:=by omega
  subst hke
  rw [lbn (lbS _)]
  conv=>whnf
  repeat' (first|refine zx ?_|refine zd ?_ ?_<;>intro h<;>try omega|fail)<;>conv=>whnf
  all_goals first
   |omega
   |exact b9o rfl
theorem a0D (z:List Rat):(z.map fz).all o6=true:=by
 rw [lbw];intro f hf
 obtain ⟨x,_,rfl⟩:=lby.1 hf
 exact a9V x
theorem a4n (l:List (Int × Rat)) (z:List Rat) (hl:l.length<=1000000) (h1:∀t ∈ l,rl t.2<=200) (h2:∀v ∈ z,rl v<=40000) (hS:∀k,rl (i9 (l.take k) z)<=60000) (hz:z.length<=1000000) (hr:d8 (-1) z.length l=true):
 a8 Tryz.prog 68 [j4 l,k8 (z.map fz)] [] (.tup [frS (fz (i9 l z)),d9 true]) []:=by
 have m2:((z.map fz).map j0).length=z.length:=by simp
 have rt:=I0 l z.length hl h1
 rw [lbI (by omega),hr] at rt
 have pt:=a9x (z.map fz) (by simpa using hz) (fun f hf=>by
  obtain ⟨x,hx,rfl⟩:=lby.1 hf
  have:=h2 x hx
  have a:=O2 x
  have b:=P1 x
  exact ⟨by show bl x.num<=_;omega,by show bl x.den<=_;omega⟩)
 rw [a0D] at pt
 have va:=aS6 l z hl (fun t ht=>by have:=h1 t ht;omega) h2 hS hz hr
 have rt2:a8 Tryz.prog 72 [j4 l,a7 .i64 (((z.map fz).map j0).length:Nat)] [] (d9 (true && true)) []:=by rw [m2];exact rt
 (refine ac Tryz.func68 ?_;(conv=>whnf);repeat ((first|refine b0x ?_|refine zy ?_);conv=>whnf))
 repeat' (first|refine zx ?_|refine qp rt2 ?_|refine qp pt ?_|refine qp va ?_|refine zd ?_ ?_<;>intro h<;>try omega|fail)<;>conv=>whnf
 all_goals first
  |(exfalso;simp_all;done)
  |exact l9 ⟨⟨rfl,rfl,rfl,rfl,trivial⟩,rfl,trivial⟩
structure A0 (s:d7) (g:List (Int × Rat)) (n B:Nat):Prop where
 o:b9e s g n
 sb:a0K s
 gb:∀t ∈ g,rl t.2<=200
 bd:∀D,W4 (c6 s).length n (f7 s g) D->BdD (c6 s).length n B D
 b1:1<=B
 bn:(n+3)*(B+2)<=50000
 r:s.rows.length<=1000
theorem A0.nn {s:d7} {g:List (Int × Rat)} {n B:Nat} (h:A0 s g n B):s.n.toNat=n:=by have:=h.o.en;omega
theorem A0.bb {s:d7} {g:List (Int × Rat)} {n B:Nat} (h:A0 s g n B):B<=17000:=by
 have h1:=h.bn
 have:(n+3)*(B+2)=n*(B+2)+3*(B+2):=by rw [N4]
 omega
theorem A0.m {s:d7} {g:List (Int × Rat)} {n B:Nat} (h:A0 s g n B):(c6 s).length<=2000:=by
 have:=a5c (s:=s) s.rows.length
 have:=h.r
 show (H8 s s.rows.length).length<=_
 omega
abbrev bO (cells:List C):Blk:={ mode:=.live,elem:=189,size:=8,rows:=[cells],box:=true }
abbrev z8:List C:=[.t (ti 0),.t (ti 0),.t (.sl 0 .nil []),.t (ti 0),.t (.sl 0 .nil []),.t (.sl 0 .nil []),.t (.sl 0 .nil []),.t (.sl 0 .nil [])]
theorem aM6:H4 (bO z8).rows:=f5 [[ti 0,ti 0,.sl 0 .nil [],ti 0,.sl 0 .nil [],.sl 0 .nil [],.sl 0 .nil [],.sl 0 .nil []]]
theorem a0r {s:d7} {g:List (Int × Rat)} {n B:Nat} (h:A0 s g n B):
 a8 Tryz.prog 137 [.c (.ptr 0 0 0)] (W7 (c6 s).length n (c6 s) (f7 s g)) (.tup [a7 .i64 (b1g (J5 s g)).1,a7 .i64 (b1g (J5 s g)).2]) (W7 (c6 s).length n (c6 s) (j8 s g)):=by
 have hn:=h.nn
 subst hn
 have hm:=h.m
 exact b5J _ _ (c6 s) (f7 s g) _ (by omega) h.o.n1 a2v (fun D hD=>by
  have hb:=h.bd D hD
  have hB:=h.bb
  exact ⟨fun i hi=>by have:=hb.v i hi;omega,fun i hi j hj=>by have:=hb.a i hi j hj;omega,fun j hj=>by have:=hb.g j hj;omega⟩)
theorem ag5 {s:d7} {g:List (Int × Rat)} {n B:Nat} (h:A0 s g n B):(i4 s g).length=n:=by unfold i4;rw [G2];exact h.nn
theorem a8V {s:d7} {g:List (Int × Rat)} {n B:Nat} (h:A0 s g n B):a8 Tryz.prog 138 [dT (c6 s).length n (c6 s) (j8 s g)] [] (k8 ((i4 s g).map fz)) []:=by
 have hn:=h.nn
 subst hn
 exact b75 _ _ _ _ I5.p (by have:=h.m;omega) h.o.n1
theorem a8q {s:d7} {g:List (Int × Rat)} {n B:Nat} (h:A0 s g n B):BdD (c6 s).length n B (j8 s g):=by
 have hn:=h.nn
 subst hn
 exact h.bd _ (a4E a2v).1
theorem az9 {s:d7} {g:List (Int × Rat)} {n B:Nat} (h:A0 s g n B) (H:Hp):N1 Tryz.prog 141 [dT (c6 s).length n (c6 s) (j8 s g),a7 .i64 s.rows.length] H (.c (.own H.length 0 s.rows.length true)) [flB (rF s.rows.length (y4 s (j8 s g)))]:=by
 have hb:=a8q h
 have hp:Q1 (c6 s).length n (j8 s g):=by have hn:=h.nn;subst hn;exact I5.p
 refine a2l (b4q s n h.o.en (j8 s g) hp B hb.g h.b1 ?_ (by have:=h.m;omega) h.r h.o.n1) rfl rfl (f5 _)
 have:=h.bn
 have:(n+3)*(B+2)=(n+2)*(B+2)+(B+2):=by rw [show n+3=(n+2)+1 by omega,lbV]
 omega
theorem a50 {i m:Nat} (h:i<m):N2 [some m] i=true:=by
 unfold N2
 have:Nat.beq m i=false:=by
  cases hb:Nat.beq m i with
  |false=>rfl
  |true=>have:=n7 hb;omega
 rw [this];rfl
theorem ay4 {m n:Nat} {fr:List (Nat × Bool)} {D:Fd} {env env':Env} (b:Blk) (hb:H4 b.rows) (hE:a6W [some (m+6)] (G4 m n fr D.V D.G D.O D.F D.A [b]) env env'):b8i 0 [some (m+6)] env (G4 m n fr D.V D.G D.O D.F D.A [b]) env' [b]:=by
 refine ⟨rfl,?_,a56 rfl fun i k' hk=>?_,hE⟩
 ·simp only [O8,a4v];cases b.mode<;>rfl
 ·rcases i with _|i
  ·injection hk with hk;subst hk
   exact ⟨m+6,_,rfl,a0M (t:=0) (b7 _ _ _),g8 hb⟩
  ·simp at hk
set_option maxHeartbeats 4000000 in
theorem a2U (s:d7) (g:List (Int × Rat)) (n B:Nat) (h:A0 s g n B) (hout:J5 s g=.best) (hS:∀k,rl (i9 (g.take k) (i4 s g))<=60000) (hpt:∀v ∈ i4 s g,rl v<=40000):
 a8 Tryz.prog 91 [K3 s,j4 g] [] (.tup [.agg (C.t (ti 0)::frC (fz (i9 g (i4 s g)))++[.t (M8 ((i4 s g).map fz)),.own 0 0 s.rows.length true,.t (.sl 0 .nil [])]),a7 .i64 0]) [flB (rF s.rows.length (y4 s (j8 s g)))]:=by
 have hn:=h.nn
 have hm:=h.m
 have hr1:=h.r
 have hgl:=s6 h.o.tg
 have hn1:=h.o.n1
 have lr:=a2p s h.sb
 rw [h.o.r] at lr
 have rt:=I0 g s.n (by have:=h.o.n1;omega) h.gb
 rw [h.o.en,lbI (by omega),h.o.tg,←h.o.en] at rt
 have op:=a9z (bO z8) (aB5 s g n h.o)
 have se:=a0r h
 rw [hout] at se
 have m1:(s.rows.map u0).length=s.rows.length:=by simp
 have pt:=a8V h
 have va:=a4n g (i4 s g) (by omega) h.gb hpt hS (by rw [ag5 h];omega) (by rw [ag5 h];exact h.o.tg)
 have pr:∀H:Hp,N1 Tryz.prog 141 [dT (c6 s).length n (c6 s) (j8 s g),a7 .i64 ((s.rows.map u0).length:Nat)] H (.c (.own H.length 0 s.rows.length true)) [flB (rF s.rows.length (y4 s (j8 s g)))]:=by rw [m1];exact az9 h
 (refine a8n c9 Tryz.func91 rfl (by decide) ?_;refine H5 c9 ?_;(conv=>whnf);repeat ((first|refine b0x ?_|refine zy ?_);conv=>whnf))
 repeat' (first|refine zz ?_|refine b0x ?_|refine zd ?_ ?_<;>intro h<;>try omega|refine zy ?_|fail)<;>conv=>whnf
 (refine H5 c9 ?_;conv=>whnf)
 repeat' (first|refine zx ?_|refine qp lr ?_|refine qp rt ?_|refine zd ?_ ?_<;>intro h<;>try omega|fail)<;>conv=>whnf
 all_goals try (exfalso;simp_all;done)
 refine a6J c9 ([J,j4 g,S.c (C.t (T.ptr (a96 s))),J,S.c (C.ptr ((c6 s).length+6) 0 0),a7 .i64 0,S.c (C.ptr 0 0 0)]++Jn 71) (G4 (c6 s).length n (c6 s) (f7 s g).V (f7 s g).G (f7 s g).O (f7 s g).F (f7 s g).A [bO z8]) ?_ ?_
 ·conv=>whnf
  repeat' (first|refine zx ?_|refine .inr ⟨_,_,op,?_⟩|refine D3 ?_|refine zd ?_ ?_<;>intro h<;>try omega|fail)<;>conv=>whnf
  exact ⟨_,a72 aM6 rfl ⟨rfl,i8 rfl,⟨by rw [w5 (by omega)];simp [fS],rfl,rfl⟩,rfl,⟨by rw [w5 (by omega)];simp [fS],rfl,rfl⟩,trivial⟩⟩
 refine a6M c9 ([J,j4 g,S.c (C.t (T.ptr (a96 s))),J,S.c (C.ptr 0 0 0),a7 .i64 0,dT (c6 s).length n (c6 s) (j8 s g),a7 .i64 (-1),a7 .i64 (-1)]++Jn 69) [bO z8] ?_ ?_
 ·have si:=a54 [bO z8] rfl rfl se
  conv=>whnf
  repeat' (first|refine zx ?_|refine qp 4 ?_|refine .inr ⟨_,_,si,?_⟩|refine i7 ?_|refine bl0 [4] ?_|refine zd ?_ ?_<;>intro h<;>try omega|fail)<;>conv=>whnf
  exact ⟨_,ay4 (bO z8) aM6 ⟨.inl (i8 rfl),.inl (i8 rfl),.inl ⟨rfl,rfl,rfl⟩,.inl rfl,.inr (a9w fun i hi=>a50 hi),.inl rfl,.inl rfl,trivial⟩⟩
 (refine H5 c9 ?_;conv=>whnf)
 repeat' (first|refine zx ?_|refine zd ?_ ?_<;>intro h<;>try omega|fail)<;>conv=>whnf
 all_goals try omega
 (refine H5 c9 ?_;conv=>whnf)
 repeat' (first|refine zx ?_|refine zd ?_ ?_<;>intro h<;>try omega|fail)<;>conv=>whnf
 all_goals try omega
 (refine H5 c9 ?_;conv=>whnf)
 repeat' (first|refine zx ?_|refine qp pt ?_|refine zd ?_ ?_<;>intro h<;>try omega|fail)<;>conv=>whnf
 (refine H5 c9 ?_;conv=>whnf)
 repeat' (first|refine zx ?_|refine qp va ?_|refine qp 4 ?_|refine qp 5 ?_|refine bl0 [4] ?_|refine bl0 [5] ?_|refine zd ?_ ?_<;>intro h<;>try omega|fail)<;>conv=>whnf
 (refine H5 c9 ?_;conv=>whnf)
 repeat' (first|refine zx ?_|refine .inl ⟨_,_,pr _,?_⟩|refine zd ?_ ?_<;>intro h<;>try omega|fail)<;>conv=>whnf
 refine m9 c9 _ ?_
 conv=>whnf
 repeat' (first|refine zx ?_|refine zd ?_ ?_<;>intro h<;>try omega|fail)<;>conv=>whnf
 exact ⟨[some 2],rfl,rfl,⟨g8 (f5 _),trivial⟩,⟨⟨rfl,rfl,rfl,rfl,rfl,rfl,⟨rfl,rfl,rfl,fun h=>h⟩,rfl,trivial⟩,rfl,trivial⟩⟩
theorem a5v {P:Program} {g:FuncId} {args args':List S} {H H':Hp} {r:S} (h:a8 P g args' H r H') (hl:args.length=args'.length)
 (hw:∀(w:World) (ι:Io) (M:Ms) (j:Nat) (s s':S) (v:Value),args[j]? =some s->args'[j]? =some s'->RS w ι M s v->RS w ι M s' v):a8 P g args H r H':=by
 refine ⟨h.1,fun w ι M vals hl2 hv hH hM hf=>h.2 w ι M vals (by omega) (fun j s' hj=>?_) hH hM hf⟩
 have hlt:=(lbe.1 hj).1
 exact hw w ι M j _ s' _ (lbf (by omega)) hj (hv j _ (lbf (by omega)))
theorem b5o {s:d7} {n:Nat} (b:Blk) (h:a8 Tryz.prog 136 [K3 s,j4 []] [] (.c (.ptr 0 0 0)) (W7 (c6 s).length n (c6 s) (f7 s []))):
 a8 Tryz.prog 136 [K3 s,.c (.t (.sl 0 .nil []))] [b] (.c (.ptr 1 0 0)) (b9N (c6 s).length n (c6 s) (f7 s []) b):=by
 refine a5v (a9z b h) rfl fun w ι M j x y v hx hy hr=>?_
 rcases j with _|_|j
 ·injection hx with hx;injection hy with hy;subst hx hy;exact hr
 ·injection hx with hx;injection hy with hy;subst hx hy
  cases hr with
  |c hr=>cases hr with
   |t hr=>exact .c (.t (hr.weak rfl))
 ·simp at hx
theorem a89 {s:d7} {g:List (Int × Rat)} {n B r:Nat} (h:A0 s g n B) (hr:r<(c6 s).length) (H:Hp):N1 Tryz.prog 140 [dT (c6 s).length n (c6 s) (j8 s g),a7 .i64 s.rows.length,a7 .i64 r] H (.c (.own H.length 0 s.rows.length true)) [flB (rF s.rows.length (a8J s (j8 s g) r))]:=by
 have hb:=a8q h
 have hp:Q1 (c6 s).length n (j8 s g):=by have hn:=h.nn;subst hn;exact I5.p
 exact a2l (aB2 s n r h.o.en (j8 s g) hp hr B (hb.a r hr) h.b1 h.bn (by have:=h.m;omega) h.r h.o.n1) rfl rfl (f5 _)
theorem b49 {s:d7} {g:List (Int × Rat)} {n B c:Nat} (h:A0 s g n B) (hc:c<n):a8 Tryz.prog 139 [dT (c6 s).length n (c6 s) (j8 s g),a7 .i64 c] [] (k8 ((a6S s g c).map fz)) []:=by
 have hb:=a8q h
 have hB:=h.bb
 have hn:=h.nn
 subst hn
 exact ba4 _ _ _ _ c hc I5.p (by have:=h.m;omega) h.o.n1 (fun i hi=>by have:=hb.a i hi c hc;omega)
abbrev bd4:List C:=frC J3
set_option maxHeartbeats 4000000 in
theorem aM9 (s:d7) (g:List (Int × Rat)) (n B r:Nat) (h:A0 s g n B) (hout:J5 s g=.row r):
 a8 Tryz.prog 91 [K3 s,j4 g] [] (.tup [.agg (C.t (ti 1)::bd4++[.t (.sl 0 .nil []),.own 0 0 s.rows.length true,.t (.sl 0 .nil [])]),a7 .i64 0]) [flB (rF s.rows.length (a8J s (j8 s g) r))]:=by
 have hn:=h.nn
 have hm:=h.m
 have hr1:=h.r
 have hgl:=s6 h.o.tg
 have hn1:=h.o.n1
 have hrm:r<(c6 s).length:=by have:=(aW5 hout).1;exact this
 have lr:=a2p s h.sb
 rw [h.o.r] at lr
 have rt:=I0 g s.n (by have:=h.o.n1;omega) h.gb
 rw [h.o.en,lbI (by omega),h.o.tg,←h.o.en] at rt
 have op:=a9z (bO z8) (aB5 s g n h.o)
 have se:=a0r h
 rw [hout] at se
 have m1:(s.rows.map u0).length=s.rows.length:=by simp
 have rf:∀H:Hp,N1 Tryz.prog 140 [dT (c6 s).length n (c6 s) (j8 s g),a7 .i64 ((s.rows.map u0).length:Nat),a7 .i64 r] H (.c (.own H.length 0 s.rows.length true)) [flB (rF s.rows.length (a8J s (j8 s g) r))]:=by rw [m1];exact a89 h hrm
 (refine a8n c9 Tryz.func91 rfl (by decide) ?_;refine H5 c9 ?_;(conv=>whnf);repeat ((first|refine b0x ?_|refine zy ?_);conv=>whnf))
 repeat' (first|refine zz ?_|refine b0x ?_|refine zd ?_ ?_<;>intro h<;>try omega|refine zy ?_|fail)<;>conv=>whnf
 (refine H5 c9 ?_;conv=>whnf)
 repeat' (first|refine zx ?_|refine qp lr ?_|refine qp rt ?_|refine zd ?_ ?_<;>intro h<;>try omega|fail)<;>conv=>whnf
 all_goals try (exfalso;simp_all;done)
 refine a6J c9 ([J,j4 g,S.c (C.t (T.ptr (a96 s))),J,S.c (C.ptr ((c6 s).length+6) 0 0),a7 .i64 0,S.c (C.ptr 0 0 0)]++Jn 71) (G4 (c6 s).length n (c6 s) (f7 s g).V (f7 s g).G (f7 s g).O (f7 s g).F (f7 s g).A [bO z8]) ?_ ?_
 ·conv=>whnf
  repeat' (first|refine zx ?_|refine .inr ⟨_,_,op,?_⟩|refine D3 ?_|refine zd ?_ ?_<;>intro h<;>try omega|fail)<;>conv=>whnf
  exact ⟨_,a72 aM6 rfl ⟨rfl,i8 rfl,⟨by rw [w5 (by omega)];simp [fS],rfl,rfl⟩,rfl,⟨by rw [w5 (by omega)];simp [fS],rfl,rfl⟩,trivial⟩⟩
 refine a6M c9 ([J,j4 g,S.c (C.t (T.ptr (a96 s))),J,S.c (C.ptr 0 0 0),a7 .i64 0,dT (c6 s).length n (c6 s) (j8 s g),a7 .i64 r,a7 .i64 (-1)]++Jn 69) [bO z8] ?_ ?_
 ·have si:=a54 [bO z8] rfl rfl se
  conv=>whnf
  repeat' (first|refine zx ?_|refine qp 4 ?_|refine .inr ⟨_,_,si,?_⟩|refine i7 ?_|refine bl0 [4] ?_|refine zd ?_ ?_<;>intro h<;>try omega|fail)<;>conv=>whnf
  exact ⟨_,ay4 (bO z8) aM6 ⟨.inl (i8 rfl),.inl (i8 rfl),.inl ⟨rfl,rfl,rfl⟩,.inl rfl,.inr (a9w fun i hi=>a50 hi),.inl rfl,.inl rfl,trivial⟩⟩
 (refine H5 c9 ?_;conv=>whnf)
 repeat' (first|refine zx ?_|refine zd ?_ ?_<;>intro h<;>try omega|fail)<;>conv=>whnf
 all_goals try omega
 (refine H5 c9 ?_;conv=>whnf)
 repeat' (first|refine zx ?_|refine .inl ⟨_,_,rf _,?_⟩|refine zd ?_ ?_<;>intro h<;>try omega|fail)<;>conv=>whnf
 all_goals first
  |omega
  |exact ⟨[some 1],rfl,rfl,⟨g8 (f5 _),trivial⟩,⟨⟨rfl,rfl,rfl,rfl,rfl,rfl,⟨rfl,rfl,rfl,fun h=>h⟩,rfl,trivial⟩,rfl,trivial⟩⟩
theorem b32 {P:Program} {n0:Nat} {c:Operand} {t e:Code} {env:Env} {H:Hp} {Q:AX->Env->Hp->Prop} (hb:B2 env c=d9 true) (h:Awp P n0 t env H Q):Awp P n0 (.cond c t e) env H Q:=b3A hb h
set_option maxHeartbeats 4000000 in
theorem aB3 (s:d7) (g:List (Int × Rat)) (n B B0 c:Nat) (h:A0 s g n B) (h0:A0 s [] n B0) (hout:J5 s g=.col c) (hout0:J5 s []=.best):
 a8 Tryz.prog 91 [K3 s,j4 g] [] (.tup [.agg (C.t (ti 2)::bd4++[.t (M8 ((i4 s []).map fz)),.t (.sl 0 .nil []),.t (M8 ((a6S s g c).map fz))]),a7 .i64 0]) []:=by
 have hn:=h.nn
 have hm:=h.m
 have hr1:=h.r
 have hgl:=s6 h.o.tg
 have hn1:=h.o.n1
 have hcn:c<n:=by have:=(a7q hout).1;omega
 have lr:=a2p s h.sb
 rw [h.o.r] at lr
 have rt:=I0 g s.n (by have:=h.o.n1;omega) h.gb
 rw [h.o.en,lbI (by omega),h.o.tg,←h.o.en] at rt
 have op:=a9z (bO z8) (aB5 s g n h.o)
 have se:=a0r h
 rw [hout] at se
 have op0:=b5o (bO z8) (aB5 s [] n h0.o)
 have se0:=a0r h0
 rw [hout0] at se0
 have m1:(s.rows.map u0).length=s.rows.length:=by simp
 have pt:=a8V h0
 have ra:=b49 h hcn
 (refine a8n c9 Tryz.func91 rfl (by decide) ?_;refine H5 c9 ?_;(conv=>whnf);repeat ((first|refine b0x ?_|refine zy ?_);conv=>whnf))
 repeat' (first|refine zz ?_|refine b0x ?_|refine zd ?_ ?_<;>intro h<;>try omega|refine zy ?_|fail)<;>conv=>whnf
 (refine H5 c9 ?_;conv=>whnf)
 repeat' (first|refine zx ?_|refine qp lr ?_|refine qp rt ?_|refine zd ?_ ?_<;>intro h<;>try omega|fail)<;>conv=>whnf
 all_goals try (exfalso;simp_all;done)
 refine a6J c9 ([J,j4 g,S.c (C.t (T.ptr (a96 s))),J,S.c (C.ptr ((c6 s).length+6) 0 0),a7 .i64 0,S.c (C.ptr 0 0 0)]++Jn 71) (G4 (c6 s).length n (c6 s) (f7 s g).V (f7 s g).G (f7 s g).O (f7 s g).F (f7 s g).A [bO z8]) ?_ ?_
 ·conv=>whnf
  repeat' (first|refine zx ?_|refine .inr ⟨_,_,op,?_⟩|refine D3 ?_|refine zd ?_ ?_<;>intro h<;>try omega|fail)<;>conv=>whnf
  exact ⟨_,a72 aM6 rfl ⟨rfl,i8 rfl,⟨by rw [w5 (by omega)];simp [fS],rfl,rfl⟩,rfl,⟨by rw [w5 (by omega)];simp [fS],rfl,rfl⟩,trivial⟩⟩
 refine a6M c9 ([J,j4 g,S.c (C.t (T.ptr (a96 s))),J,S.c (C.ptr 0 0 0),a7 .i64 0,dT (c6 s).length n (c6 s) (j8 s g),a7 .i64 (-1),a7 .i64 c]++Jn 69) [bO z8] ?_ ?_
 ·have si:=a54 [bO z8] rfl rfl se
  conv=>whnf
  repeat' (first|refine zx ?_|refine qp 4 ?_|refine .inr ⟨_,_,si,?_⟩|refine i7 ?_|refine bl0 [4] ?_|refine zd ?_ ?_<;>intro h<;>try omega|fail)<;>conv=>whnf
  exact ⟨_,ay4 (bO z8) aM6 ⟨.inl (i8 rfl),.inl (i8 rfl),.inl ⟨rfl,rfl,rfl⟩,.inl rfl,.inr (a9w fun i hi=>a50 hi),.inl rfl,.inl rfl,trivial⟩⟩
 refine a4f ?_
 refine H5 c9 ?_
 conv=>whnf
 repeat' (first|refine zx ?_|refine zd ?_ ?_<;>intro h<;>try omega|fail)<;>conv=>whnf
 all_goals try omega
 refine b32 rfl ?_
 refine a6J c9 ([J,j4 g,S.c (C.t (T.ptr (a96 s))),J,S.c (C.ptr ((c6 s).length+6) 0 0),a7 .i64 0,dT (c6 s).length n (c6 s) (j8 s g),a7 .i64 (-1),a7 .i64 c,S.c (C.ptr 0 0 0)]++Jn 68) (G4 (c6 s).length n (c6 s) (f7 s []).V (f7 s []).G (f7 s []).O (f7 s []).F (f7 s []).A [bO z8]) ?_ ?_
 ·conv=>whnf
  repeat' (first|refine zx ?_|refine .inr ⟨_,_,op0,?_⟩|refine D3 ?_|refine zd ?_ ?_<;>intro h<;>try omega|fail)<;>conv=>whnf
  exact ⟨_,a72 aM6 rfl ⟨rfl,i8 rfl,⟨by rw [w5 (by omega)];simp [fS],rfl,rfl⟩,rfl,i8 rfl,rfl,rfl,⟨by rw [w5 (by omega)];simp [fS],rfl,rfl⟩,trivial⟩⟩
 refine a6M c9 ([J,j4 g,S.c (C.t (T.ptr (a96 s))),J,S.c (C.ptr 0 0 0),a7 .i64 0,dT (c6 s).length n (c6 s) (j8 s g),a7 .i64 (-1),a7 .i64 c,dT (c6 s).length n (c6 s) (j8 s []),a7 .i64 (-1),a7 .i64 (-1)]++Jn 66) [bO z8] ?_ ?_
 ·have si:=a54 [bO z8] rfl rfl se0
  conv=>whnf
  repeat' (first|refine zx ?_|refine qp 4 ?_|refine .inr ⟨_,_,si,?_⟩|refine i7 ?_|refine bl0 [4] ?_|refine zd ?_ ?_<;>intro h<;>try omega|fail)<;>conv=>whnf
  exact ⟨_,ay4 (bO z8) aM6 ⟨.inl (i8 rfl),.inl (i8 rfl),.inl ⟨rfl,rfl,rfl⟩,.inl rfl,.inl (i8 rfl),.inl rfl,.inl rfl,.inr (a9w fun i hi=>a50 hi),.inl rfl,.inl rfl,trivial⟩⟩
 refine m9 c9 _ ?_
 conv=>whnf
 repeat' (first|refine zx ?_|refine qp pt ?_|refine qp ra ?_|refine zd ?_ ?_<;>intro h<;>try omega|fail)<;>conv=>whnf
 all_goals first
  |omega
  |exact ⟨[],rfl,rfl,trivial,⟨⟨rfl,rfl,rfl,rfl,rfl,rfl,rfl,rfl,trivial⟩,rfl,trivial⟩⟩
theorem b8x (e:Ev) (hs:e.Sized) (n:Int) (g:FuncId) (caps:List T) (q:t7->Bool) (hg:∀(k:Nat) (m:t7),e.moves[k]? =some m->J4 e=0->a8 Tryz.prog g (b2R m::caps.map fun x=>.c (.t x)) [] (d9 (q m)) []):
 a8 Tryz.prog 88 [evS e,a7 .i64 n,.c (.t (.fn (.func g) caps))] [] (j1 (if J4 e=0 then o5 (fun k m=>decide ((k:Int)<n) && q m) 0 e.moves else [])) []:=by
 have l1:=hs.s2
 have l2:(e.moves.map t7.row).length=e.moves.length:=by simp
 (refine ac Tryz.func88 ?_;(conv=>whnf);repeat (refine zy ?_;conv=>whnf))
 repeat' (first|refine zx ?_|refine qp (b2w _ hs) ?_|refine zd ?_ ?_<;>intro h<;>try omega|fail)<;>conv=>whnf
 ·refine l9 ?_
  rw [if_neg h]
  exact rfl
 have h0:J4 e=0:=by omega
 rw [if_pos h0]
 let P:Nat->t7->Bool:=fun k m=>decide ((k:Int)<n) && q m
 refine i3 c9 (fun k=>([J,a7 .i64 n,S.c (C.t (T.fn (.func g) caps)),S.c (C.ptr 0 0 0),J,J,J,a3z 1 (T4 P e.moves k),J,J,J,J,J,J,S.c (C.t (a2Z e.moves)),a7 .i64 e.moves.length,a7 .i64 k]++Jn 18,[evB e,D4 (T4 P e.moves k)])) e.moves.length (fun k=>True) [some 0,none] trivial
  ⟨rfl,rfl,⟨⟨rfl,rfl,rfl,.inl ⟨rfl,j6 e⟩⟩,⟨rfl,rfl⟩,trivial⟩,⟨rfl,rfl,⟨rfl,rfl,rfl⟩,⟨rfl,rfl,rfl⟩,i8 rfl,c7 (by simp),c7 rfl,trivial⟩⟩ ?_
 intro k hk hI
 conv=>whnf
 repeat' (first|refine zx ?_|refine zd ?_ ?_<;>intro h<;>try omega|fail)<;>conv=>whnf
 ·have hlt:k<e.moves.length:=by omega
  obtain ⟨x,hx⟩:∃x,e.moves[k]? =some x:=⟨_,lbf hlt⟩
  refine d6 hx ?_
  conv=>whnf
  have hpl:=al8 P e.moves k
  have ha:(b2R x::caps.map fun x=>S.c (C.t x)).all S.isT=true:=by simp [S.isT,C.isT,t7.cs,t7.row]
  repeat' (first|refine zx ?_|refine qp toC ?_|refine qp toC ?_|refine .inl ⟨_,_,F9 (hg k x hx h0) ha rfl,?_⟩|refine zz ?_|refine D7 (by simp [toC]) (by simp [toC];omega) ?_|refine zd ?_ ?_<;>intro h<;>try omega|fail)<;>conv=>whnf
  ·have hP:P k x=true:=by simp [P,h];omega
   refine ⟨hlt,trivial,[some 0,some 3],rfl,rfl,⟨⟨rfl,rfl,rfl,.inl ⟨rfl,j6 e⟩⟩,b8 rfl rfl rfl ?_ rfl,trivial⟩,⟨rfl,rfl,⟨rfl,rfl,rfl⟩,o4 rfl ?_,rfl,rfl,rfl,trivial⟩⟩
   ·rw [ah4 P hx hP,lbD]
    exact (congrArg (fun n=>List.take n (toC ((T4 P e.moves k).map i5))++toC [[ti k]]) (by simp)).trans b5W
   ·rw [ah4 P hx hP];simp [toC]
  all_goals
   have hP:P k x=false:=by simp [P];first|(intro hq;omega)|(intro _;assumption)
   refine ⟨hlt,trivial,[some 0,some 1],rfl,rfl,⟨⟨rfl,rfl,rfl,.inl ⟨rfl,j6 e⟩⟩,b8 rfl rfl rfl ?_ rfl,trivial⟩,⟨rfl,rfl,⟨rfl,rfl,rfl⟩,o4 rfl ?_,rfl,rfl,rfl,trivial⟩⟩
   ·rw [av1 P hx hP]
   ·rw [av1 P hx hP]
 ·have hk':o5 P 0 e.moves=T4 P e.moves k:=(b0g P (by omega)).symm
  show Fin 0 _ _ (j1 (o5 P 0 e.moves)) []
  rw [hk']
  exact V5 rfl (by intro h;cases h) rfl rfl (by simp)
abbrev a4h (n:Int):T:=.ptr [ti n]
theorem b36 (e:Ev) (hs:e.Sized) (h0:J4 e=0) (m:t7) (hm:m ∈ e.moves) (hh mat lo hi:Int):
 a8 Tryz.prog 89 (b2R m::[T.ptr (evT e),a4h hh,a4h mat,a4h lo,a4h hi].map fun x=>.c (.t x)) [] (d9 (ai6 e hh mat lo hi m)) []:=by
 have l1:=hs.s1
 have l2:(e.places.map Place.row).length=e.places.length:=by simp
 have hmk:=Y3 h0 hm
 have h1:=a2I hmk
 obtain ⟨x,hx⟩:∃x,e.places[m.src.toNat]? =some x:=⟨_,lbf (by omega)⟩
 (refine ac Tryz.func89 ?_;(conv=>whnf);repeat (refine zy ?_;conv=>whnf))
 repeat' (first|refine zx ?_|refine qp (a2u _ _ _) ?_|refine N3 h1.1 hx ?_|refine zd ?_ ?_<;>intro h<;>try omega|fail)<;>conv=>whnf
 all_goals (refine b9 ?_;unfold ai6;rw [hx];simp_all;done)
theorem ay1 (e:Ev) (hs:e.Sized) (hh mat lo hi:Int):a8 Tryz.prog 42 [evS e,a7 .i64 hh,a7 .i64 mat,a7 .i64 lo,a7 .i64 hi] [] (j1 (E6 e hh mat lo hi)) []:=by
 have l1:=hs.s2
 have l2:(e.moves.map t7.row).length=e.moves.length:=by simp
 (refine ac Tryz.func42 ?_;(conv=>whnf);repeat (refine zy ?_;conv=>whnf))
 refine .inr ⟨_,_,C6 [0,1,2,3,4] (b8x e hs (e.moves.map t7.row).length 89 [T.ptr (evT e),a4h hh,a4h mat,a4h lo,a4h hi] (ai6 e hh mat lo hi) fun k m hm h0=>b36 e hs h0 m (lbm hm) hh mat lo hi)
  ⟨bk4 e,b1o,a5U (bj8 ?_),trivial⟩ rfl,?_⟩
 ·refine a1v (ab5 (by simp) rfl (by intro h;cases h) rfl rfl) (a1v (ab5 (by simp) rfl (by intro h;cases h) rfl rfl) (a1v (ab5 (by simp) rfl (by intro h;cases h) rfl rfl) (a1v (ab5 (by simp) rfl (by intro h;cases h) rfl rfl) (a1v (ab5 (by simp) rfl (by intro h;cases h) rfl rfl) b1p))))
 conv=>whnf
 repeat' (first|refine zx ?_|refine zd ?_ ?_<;>intro h<;>try omega|fail)<;>conv=>whnf
 refine l9 ?_
 have:(if J4 e=0 then o5 (fun k m=>decide ((k:Int)<(e.moves.map t7.row).length) && ai6 e hh mat lo hi m) 0 e.moves else [])=E6 e hh mat lo hi:=by
  unfold E6
  split
  ·refine ab0 _ e.moves.length (fun k m hk=>?_) 0 (by omega)
   simp;intro _;omega
  ·rfl
 rw [← this]
 exact rfl
def aT4 (A:Nat->List T) (g:Nat->List Int) (B:Nat->List T) (id:Nat) (i:Nat):List C:=(A i).map .t++.own id 0 (g i).length true::(B i).map .t
def a2s (n:Nat) (A:Nat->List T) (g:Nat->List Int) (B:Nat->List T):List (List C):=(List.range n).map fun i=>aT4 A g B (i+1) i
def b9V (el:TypeId) (size n:Nat) (A:Nat->List T) (g:Nat->List Int) (B:Nat->List T):Blk:={ mode:=.live,elem:=el,size:=size,rows:=a2s n A g B,box:=false }
def U9 (el:TypeId) (size n:Nat) (A:Nat->List T) (g:Nat->List Int) (B:Nat->List T):Hp:=b9V el size n A g B::(List.range n).map fun i=>D4 (g i)
theorem Z5 {n:Nat} {A:Nat->List T} {g:Nat->List Int} {B:Nat->List T}:(a2s n A g B).length=n:=by simp [a2s]
theorem a2D {n i:Nat} {A:Nat->List T} {g:Nat->List Int} {B:Nat->List T} (h:i<n):(a2s n A g B)[i]? =some (aT4 A g B (i+1) i):=by simp [a2s,h]
theorem a7y {el:TypeId} {size n:Nat} {A:Nat->List T} {g:Nat->List Int} {B:Nat->List T}:(U9 el size n A g B).length=n+1:=by simp [U9]
def a8X (n j N:Nat):List (Option Nat):=(List.range (n+1)).map fun i=>some (if i=j+1 then N else i)
theorem U7 {n j N i:Nat} (h:i<n+1):(a8X n j N)[i]? =some (some (if i=j+1 then N else i)):=by simp [a8X,h]
theorem ax7 {n j N:Nat}:(a8X n j N).length=n+1:=by simp [a8X]
theorem M4 {ρ:List (Option Nat)} {H:Hp}:∀l:List T,a1U ρ H (l.map C.t) (l.map C.t)
 |[]=>trivial
 |x::r=>⟨U4 x,M4 r⟩
theorem a3L {ρ:List (Option Nat)} {H:Hp}:∀{a b c d:List C},a1U ρ H a b->a1U ρ H c d->a1U ρ H (a++c) (b++d)
 |[],[],_,_,_,h=>h
 |x::a,y::b,_,_,h1,h2=>⟨h1.1,a3L h1.2 h2⟩
 |[],_::_,_,_,h,_=>h.elim
 |_::_,[],_,_,h,_=>h.elim
theorem a4I {ρ:List (Option Nat)} {H:Hp}:∀{xs ys:List (List C)},xs.length=ys.length->(∀ (i:Nat) (x y:List C),xs[i]? =some x->ys[i]? =some y->a1U ρ H x y)->a3N ρ H xs ys
 |[],[],_,_=>trivial
 |[],_::_,h,_=>by simp at h
 |_::_,[],h,_=>by simp at h
 |x::xs,y::ys,h,hh=>⟨hh 0 x y rfl rfl,a4I (by simpa using h) fun i a b ha hb=>hh (i+1) a b (by simpa using ha) (by simpa using hb)⟩
def a3W (g:Nat->List Int) (j:Nat) (l:List Int):Nat->List Int:=fun i=>if i=j then l else g i
theorem b5z {el:TypeId} {size n j N:Nat} {A:Nat->List T} {g:Nat->List Int} {B:Nat->List T} {l:List Int} {env env':Env} {H:Hp} {k0:Blk} (hj:j<n) (hnN:n<N)
 (h0:H[0]? =some k0) (hk0:k0.mode=.live∧k0.app=false∧(k0.elem,k0.mp)=(el,false)∧k0.size=size) (hr:k0.rows=(a2s n A g B).set j ((A j).map .t++.own N 0 l.length true::(B j).map .t))
 (hm:∀m,m<n->m≠j->H[m+1]? =some (D4 (g m))) (hN:H[N]? =some (D4 l)) (hE:a0g (a8X n j N) H env env'):Ent 0 (a8X n j N) env H env' (U9 el size n A (a3W g j l) B):=by
 refine ⟨rfl,a0A fun a b m h1 h2=>?_,a56 (by rw [ax7,a7y]) fun i k' hk=>?_,hE⟩
 ·have ha:=(lbe.1 h1).1
  have hb:=(lbe.1 h2).1
  rw [ax7] at ha hb
  rw [U7 ha] at h1
  rw [U7 hb] at h2
  simp only [lb4] at h1 h2
  split at h1<;>split at h2<;>omega
 ·have hi:=(lbe.1 hk).1
  rw [a7y] at hi
  refine ⟨if i=j+1 then N else i,?_⟩
  cases i with
  |zero=>
   refine ⟨k0,U7 hi,by simpa using h0,?_⟩
   simp [U9] at hk
   subst hk
   obtain ⟨q1,q2,q3,q4⟩:=hk0
   refine ⟨by unfold a1V;rw [q1,q2];rfl,q3,q4,.inr ?_⟩
   rw [hr]
   refine a4I (by rw [List.length_set,Z5];exact Z5.symm) fun a x y hx hy=>?_
   have han:a<n:=by have:=(lbe.1 hy).1;rw [show (b9V el size n A (a3W g j l) B).rows=a2s n A (a3W g j l) B from rfl,Z5] at this;exact this
   have hy:(a2s n A (a3W g j l) B)[a]? =some y:=hy
   rw [a2D han] at hy
   injection hy with hy
   subst hy
   rw [lbg,Z5] at hx
   by_cases haj:j=a
   ·subst haj
    rw [if_pos rfl,if_pos hj] at hx
    injection hx with hx
    subst hx
    unfold aT4
    have e1:a3W g j l j=l:=by simp [a3W]
    rw [e1]
    refine a3L (M4 _) ⟨⟨?_,rfl,rfl,fun h=>h⟩,M4 _⟩
    rw [U7 (by omega),if_pos rfl]
   ·rw [if_neg haj,a2D han] at hx
    injection hx with hx
    subst hx
    unfold aT4
    have e1:a3W g j l a=g a:=by unfold a3W;rw [if_neg (fun h=>haj h.symm)]
    rw [e1]
    refine a3L (M4 _) ⟨⟨?_,rfl,rfl,fun h=>h⟩,M4 _⟩
    rw [U7 (by omega),if_neg (by omega)]
  |succ i=>
   have hin:i<n:=by omega
   have hk:((List.range n).map fun i=>D4 (a3W g j l i))[i]? =some k':=hk
   rw [lba,lbh hin] at hk
   injection hk with hk
   subst hk
   by_cases hij:i=j
   ·subst hij
    refine ⟨D4 l,U7 hi,by rw [if_pos rfl];exact hN,?_⟩
    have e1:a3W g i l i=l:=by simp [a3W]
    show a6d _ _ _ (D4 (a3W g i l i))
    rw [e1]
    exact ⟨rfl,rfl,rfl,.inl ⟨rfl,f5 _⟩⟩
   ·refine ⟨D4 (g i),U7 hi,by rw [if_neg (by omega)];exact hm i hin hij,?_⟩
    have e1:a3W g j l i=g i:=by unfold a3W;rw [if_neg hij]
    show a6d _ _ _ (D4 (a3W g j l i))
    rw [e1]
    exact ⟨rfl,rfl,rfl,.inl ⟨rfl,f5 _⟩⟩
def b0L (id n:Nat):List (Option Nat):=some id::List.replicate n none
theorem aS2 {ρ:List (Option Nat)} {H:Hp}:∀{n:Nat} {R:List Blk},R.length=n->(∀ k ∈ R,k.rows=[]∧k.mode=.live)->a30 ρ H (List.replicate n none) R
 |0,[],_,_=>trivial
 |n+1,k::R,h,hh=>⟨hh k (by simp),aS2 (by simpa using h) fun k hk=>hh k (by simp [hk])⟩
 |0,_::_,h,_=>by simp at h
 |n+1,[],h,_=>by simp at h
theorem ad8 {H:Hp}:∀{n:Nat},O8 (List.replicate n none) H=true
 |0=>by cases H<;>rfl
 |n+1=>by
  rw [ad6]
  cases H with
  |nil=>rfl
  |cons k H=>exact ad8 (H:=H)
theorem ar8 {m:Nat}:∀{n:Nat} {H:Hp},a4v m (List.replicate n none) H=false
 |0,H=>by cases H<;>rfl
 |n+1,[]=>rfl
 |n+1,k::H=>by
  rw [ad6]
  unfold a4v
  rw [ar8]
  cases k.mode<;>rfl
theorem b8p {el:TypeId} {size n id:Nat} {A B:Nat->List T} {env env':Env} {H:Hp} {k0:Blk} {s:Nat}
 (h0:H[id]? =some k0) (hk0:k0.mode=.live∧k0.app=false∧(k0.elem,k0.mp)=(el,false)∧k0.size=size) (hr:k0.rows=(List.range n).map fun i=>(A i).map .t++.t (.sl s .nil [])::(B i).map .t)
 (hE:a0g (b0L id n) H env env'):Ent 0 (b0L id n) env H env' (U9 el size n A (fun _=>[]) B):=by
 obtain ⟨q1,q2,q3,q4⟩:=hk0
 refine ⟨rfl,?_,⟨?_,?_⟩,hE⟩
 ·unfold b0L U9 O8
  rw [ar8,ad8]
  rfl
 ·simp only [h0]
  refine ⟨by unfold a1V;rw [q1,q2];rfl,q3,q4,.inr ?_⟩
  rw [hr]
  refine a4I (by rw [show (b9V el size n A (fun _=>[]) B).rows=a2s n A (fun _=>[]) B from rfl,Z5];simp) fun a x y hx hy=>?_
  have han:a<n:=by have:=(lbe.1 hx).1;simpa using this
  have hy:(a2s n A (fun _=>[]) B)[a]? =some y:=hy
  rw [a2D han] at hy
  injection hy with hy
  subst hy
  rw [lba,lbh han] at hx
  injection hx with hx
  subst hx
  unfold aT4
  refine a3L (M4 _) ⟨⟨?_,rfl,rfl⟩,M4 _⟩
  show (b0L id n)[a+1]? =some none
  unfold b0L
  rw [List.getElem?_cons_succ,lbk,if_pos han]
 ·refine aS2 (by simp) fun k hk=>?_
  obtain ⟨i,_,rfl⟩:=lby.1 hk
  exact ⟨rfl,rfl⟩
theorem b6d {el:TypeId} {size n:Nat} {A:Nat->List T} {g:Nat->List Int} {B:Nat->List T} {env env':Env}
 (hE:a0g [some 0] (U9 el size n A g B) env env'):Ent 0 [some 0] env (U9 el size n A g B) env' [{ mode:=.live,elem:=el,size:=size,rows:=toC ((List.range n).map fun i=>A i++I3 (g i)::B i),box:=false }]:=by
 refine ⟨rfl,rfl,⟨⟨rfl,rfl,rfl,.inr ?_⟩,trivial⟩,hE⟩
 show a3N _ _ (a2s n A g B) (toC _)
 refine a4I (by rw [Z5];simp [toC]) fun a x y hx hy=>?_
 have han:a<n:=by have:=(lbe.1 hx).1;rw [Z5] at this;exact this
 rw [a2D han] at hx
 injection hx with hx
 subst hx
 have hy:(((List.range n).map fun i=>A i++I3 (g i)::B i).map (·.map C.t))[a]? =some y:=hy
 rw [lba,lba,lbh han] at hy
 injection hy with hy
 subst hy
 show a1U _ _ _ ((A a++I3 (g a)::B a).map C.t)
 rw [lbD,a3q]
 unfold aT4
 refine a3L (M4 _) ⟨?_,M4 _⟩
 have hk:(U9 el size n A g B)[a+1]? =some (D4 (g a)):=by simp [U9,han]
 exact show VC _ _ _ _ from y0 (by simp [N2];rfl) hk (by intro h;cases h) rfl rfl (by simp)
theorem b5p {el:TypeId} {size n:Nat} {A:Nat->List T} {g:Nat->List Int} {B:Nat->List T}:∀k ∈ U9 el size n A g B,okB (n+1) k:=by
 intro k hk
 rcases lbB.1 hk with rfl|hk
 ·intro r hr c hc
  obtain ⟨i,hi,rfl⟩:=lby.1 hr
  have hi:=lbC.1 hi
  unfold aT4 at hc
  rcases lbA.1 hc with hc|hc
  ·obtain ⟨x,_,rfl⟩:=lby.1 hc;trivial
  ·rcases lbB.1 hc with rfl|hc
   ·show i+1<n+1;omega
   ·obtain ⟨x,_,rfl⟩:=lby.1 hc;trivial
 ·obtain ⟨i,_,rfl⟩:=lby.1 hk
  exact D8 rfl
theorem b3l {el:TypeId} {size n:Nat} {A:Nat->List T} {g:Nat->List Int} {B:Nat->List T} {env env':Env} {R:Hp} (hE:a0g (idR (n+1)) (U9 el size n A g B++R) env env'):Ent 0 (idR (n+1)) env (U9 el size n A g B++R) env' (U9 el size n A g B):=
 b0h a7y (D5 _) b5p hE
def aY1 (h:Fr) (b:Bool) (gs:List Int) (n:Int):List T:=[ti h.p.sg,I3 h.p.dl,ti h.q.sg,I3 h.q.dl,tb b,I3 gs,ti n]
abbrev bc3 (h:Fr) (b:Bool) (gs:List Int) (n:Int):S:=.agg ((aY1 h b gs n).map .t)
def hiF (o:Option (Rat × Rat)):Fr:=match o with
 |some (_,hi)=>fz hi
 |none=>J3
def X3 (e:Ev) (i:Nat):Option (Rat × Rat):=match e.moves[i]? with
 |some x=>K9 e x
 |none=>none
theorem a6G {e:Ev} {i:Nat} {x:t7} (h:e.moves[i]? =some x):X3 e i=K9 e x:=by unfold X3;rw [h]
def Q4 (t:j9) (kind:Int) (i:Nat):List T:=aY1 (hiF (X3 t.ev i)) (X3 t.ev i).isSome (g9 t.finds kind i) (j7 t.cleans kind i)
abbrev a0P (t:j9) (kind:Int):T:=.sl 7 .any ((List.range t.ev.moves.length).map (Q4 t kind))
def a5I (b:Bool) (hi:Rat) (gs:List Int) (n:Int) (z:Rat):Int:=if b=true∧hi<z then 20 else if gs.any (fun g=>decide (z<(g:Rat))) then 24 else if 0<n∧z≠0 then 13 else 0
set_option maxHeartbeats 2000000 in
theorem b3G (H:Fr) (b:Bool) (hi:Rat) (gs:List Int) (n:Int) (z:Rat) (hH:b=true->H=fz hi∧rl hi<=200) (hz:rl z<=200) (hg:∀g ∈ gs,1<=g∧g<=1099511627776) (hl:gs.length<=1000000):
 a8 Tryz.prog 39 [bc3 H b gs n,frS (fz z)] [] (a7 .i64 (a5I b hi gs n z)) []:=by
 have m1:(gs.map i5).length=gs.length:=by simp
 have c:b=true->a8 Tryz.prog 37 [frS (fz z),frS H] [] (a7 .i64 (X4 z hi)) []:=fun hb=>by
  rw [(hH hb).1];have:=(hH hb).2;exact J2 z hi (by omega) (by omega)
 have cg:=a04 (x:=z) (y:=hi)
 have sg:=D9 z (by omega)
 have sz:=a16 (x:=z)
 by_cases hcap:b=true∧hi<z
 ·have e1:a5I b hi gs n z=20:=by unfold a5I;rw [if_pos hcap]
  have c1:=c hcap.1
  rw [e1]
  have h1:X4 z hi > 0:=cg.2 hcap.2
  clear c
  obtain ⟨rfl,_⟩:=hcap
  (refine ac Tryz.func39 ?_;(conv=>whnf);repeat ((first|refine b0x ?_|refine zy ?_);conv=>whnf))
  repeat' (first|refine zx ?_|refine qp c1 ?_|refine zd ?_ ?_<;>intro h<;>try omega|fail)<;>conv=>whnf
  all_goals first
   |omega
   |exact n6 rfl
 have e1:a5I b hi gs n z=if gs.any (fun g=>decide (z<(g:Rat))) then 24 else if 0<n∧z≠0 then 13 else 0:=by unfold a5I;rw [if_neg hcap]
 rw [e1]
 clear e1
 have h1:b=true->¬X4 z hi > 0:=fun hb h=>hcap ⟨hb,cg.1 h⟩
 clear cg hcap
 cases b
 case' true=>
  have c1:=c rfl
  have h2:=h1 rfl
 case' false=>
  have c1:=sg
  have h2:=True.intro
 all_goals
  clear c h1
  (refine ac Tryz.func39 ?_;(conv=>whnf);repeat ((first|refine b0x ?_|refine zy ?_);conv=>whnf))
  repeat' (first|refine zx ?_|refine qp c1 ?_|refine zd ?_ ?_<;>intro h<;>try omega|fail)<;>conv=>whnf
  all_goals try omega
  refine i3 c9 (fun k=>([J,J,S.c (C.t (T.ptr (aY1 H _ gs n))),S.c (C.t (T.ptr (j0 (fz z))))]++Jn 13++[S.c (C.t (I3 gs)),a7 .i64 gs.length,a7 .i64 k]++Jn 17,[])) gs.length (fun k=>(gs.take k).any (fun g=>decide (z<(g:Rat)))=false) [] rfl
   ⟨rfl,rfl,trivial,⟨rfl,rfl,rfl,c7 (by simp),rfl,trivial⟩⟩ ?_
  intro k hk hI
  by_cases hlt:k<gs.length
  ·obtain ⟨g,hgk⟩:∃g,gs[k]? =some g:=⟨_,lbf hlt⟩
   have bg:=hg g (lbm hgk)
   have fi:=B3 g (by omega) (by omega)
   have rg:rl (g:Rat)<=4:=by rw [V4];have:=a0f (x:=g) (by omega) (by omega);omega
   have cm:=J2 z (g:Rat) (by omega) (by omega)
   have cl:=a6X (x:=z) (y:=(g:Rat))
   by_cases hzg:z<(g:Rat)
   ·have h2:=cl.2 hzg
    rw [ae3 hgk (by simpa using hzg),if_pos rfl]
    conv=>whnf
    repeat' (first|refine zx ?_|refine qp fi ?_|refine qp cm ?_|refine d6 hgk ?_|refine zd ?_ ?_<;>intro h<;>try omega|fail)<;>conv=>whnf
    all_goals first
     |omega
     |exact n6 rfl
   ·have h2:¬X4 z (g:Rat)<0:=fun h=>hzg (cl.1 h)
    conv=>whnf
    repeat' (first|refine zx ?_|refine qp fi ?_|refine qp cm ?_|refine d6 hgk ?_|refine zd ?_ ?_<;>intro h<;>try omega|fail)<;>conv=>whnf
    all_goals first
     |omega
     |exact ⟨hlt,by rw [a5p hgk,hI];simpa using hzg,[],rfl,rfl,trivial,⟨rfl,rfl,rfl,rfl,rfl,trivial⟩⟩
  ·rw [lbn (by omega)] at hI
   rw [hI,if_neg (by simp)]
   by_cases h3:0<n∧z≠0
   ·rw [if_pos h3]
    have h4:sgR z≠0:=fun h=>h3.2 (sz.1 h)
    obtain ⟨h5,_⟩:=h3
    conv=>whnf
    repeat' (first|refine zx ?_|refine qp sg ?_|refine zd ?_ ?_<;>intro h<;>try omega|fail)<;>conv=>whnf
    all_goals first
     |omega
     |exact n6 rfl
   ·rw [if_neg h3]
    have h4:n<=0∨sgR z=0:=by
     by_cases h5:0<n
     ·refine .inr (sz.2 ?_)
      by_cases h6:z=0
      ·exact h6
      ·exact absurd ⟨h5,h6⟩ h3
     ·exact .inl (by omega)
    conv=>whnf
    repeat' (first|refine zx ?_|refine qp sg ?_|refine zd ?_ ?_<;>intro h<;>try omega|fail)<;>conv=>whnf
    all_goals first
     |omega
     |exact n6 rfl
theorem b5u {t:j9} {kind:Int} {i:Nat} {x:t7} (hx:t.ev.moves[i]? =some x) {z hi:Rat} (hh:∀lo hi',X3 t.ev i=some (lo,hi')->hi'=hi):
 a5I (X3 t.ev i).isSome hi (g9 t.finds kind i) (j7 t.cleans kind i) z=Z7 t kind i x z:=by
 unfold a5I Z7
 rw [a6G hx] at hh ⊢
 cases hiv:K9 t.ev x with
 |none=>
  simp only [b5n,a8N,false_and,if_false,aQ2,reduceCtorEq]
  have:(0<(j7 t.cleans kind i:Int))↔0<j7 t.cleans kind i:=by omega
  simp only [this]
 |some p=>
  obtain ⟨lo,hi'⟩:=p
  have:=hh lo hi' hiv
  subst this
  have e1:(aQ2 (some (lo,hi')) z=false)↔hi'<z:=by
   unfold aQ2
   rw [lbL];exact a5w
  have e2:(0<(j7 t.cleans kind i:Int))↔0<j7 t.cleans kind i:=by omega
  simp only [Option.isSome_some,true_and,e1,e2]
end Go.Proofs.YtpjgpclheebhkaaGreat
