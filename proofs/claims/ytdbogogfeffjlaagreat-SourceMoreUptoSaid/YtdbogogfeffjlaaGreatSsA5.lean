/- Part 5. -/
import Derived.Test.YtdbogogfeffjlaaGreatSsA4
namespace Go.Proofs.YtdbogogfeffjlaaGreat
set_option linter.unusedVariables false
set_option linter.unusedSimpArgs false
set_option maxRecDepth 100000
open St1 St2 St3 St4 St5 St6
section
def zOf (n:Nat) (y:Nat→Rat):List Rat:=(List.range n).map y
theorem H8 {n:Nat} {y:Nat→Rat}:(zOf n y).length=n:=by simp [zOf]
theorem a5o {n:Nat} {y:Nat→Rat} {j:Nat} (h:j<n):(zOf n y).getD j 0=y j:=by simp [zOf,lg3,h]
theorem a5d {n:Nat} {y:Nat→Rat} {v:Rat} (h:v ∈ zOf n y):∃j,j<n∧v=y j:=by
 obtain ⟨j,hj,rfl⟩:=List.mem_map.1 h
 exact ⟨j,List.mem_range.1 hj,rfl⟩
theorem ar3 {n:Nat} {l:List (Int × Rat)} (h:j1 (-1) (n:Int) l=true) (y:Nat→Rat):k7 l (zOf n y)=g7 (fun j=>y6 l j*y j) n:=by
 rw [a1K h];exact g4 fun j hj=>by rw [a5o hj]
theorem ah3 {s:i8} (hr:j8 s=true):((s.n.toNat:Nat):Int)=s.n:=by
 unfold j8 at hr
 simp only [Bool.and_eq_true,decide_eq_true_eq] at hr
 omega
theorem a3R {s:i8} (hr:j8 s=true) {i:Nat} {w:B2} (hw:s.rows[i]? =some w):j1 (-1) ((s.n.toNat:Nat):Int) w.terms=true∧0≤w.kind∧w.kind<3:=by
 rw [ah3 hr]
 unfold j8 at hr
 simp only [Bool.and_eq_true,List.all_eq_true] at hr
 have:=hr.2 w (lg2 hw)
 unfold w9 at this
 simp only [Bool.and_eq_true,decide_eq_true_eq] at this
 exact ⟨this.1.1,this.1.2,this.2⟩
theorem b3C {s:i8} {g:List (Int × Rat)} (hr:j8 s=true) {y:Nat→Rat} {c:Rat} (hy:Ids (e6 s).length s.n.toNat (g8 s g) y c) {i k:Nat} {b:Bool} {w:B2}
 (hf:(e6 s)[i]? =some (k,b)) (hw:s.rows[k]? =some w):y (s.n.toNat+i)=O5 b (c*w.value - k7 w.terms (zOf s.n.toNat y)):=by
 have hi:i<(e6 s).length:=(lg1 hf).1
 have h1:y (s.n.toNat+i)=c*(g8 s g).V i - g7 (fun j=>(g8 s g).A i j*y j) s.n.toNat:=hy i hi
 have hd:(e6 s).getD i (0,false)=(k,b):=by rw [lg3,hf];rfl
 have hV:(g8 s g).V i=O5 b w.value:=by show a2G s ((e6 s).getD i (0,false))=_;rw [hd];unfold a2G;simp only [hw]
 have hA:∀j,(g8 s g).A i j=O5 b (y6 w.terms j):=fun j=>by show a1l s ((e6 s).getD i (0,false)) j=_;rw [hd];unfold a1l;simp only [hw]
 rw [h1,hV,ar3 (a3R hr hw).1]
 cases b with
 |false=>rw [g4 (g:=fun j=>y6 w.terms j*y j) fun j hj=>by rw [hA j];rfl];rfl
 |true=>
  rw [g4 (g:=fun j=>(-1:Rat)*(y6 w.terms j*y j)) fun j hj=>by rw [hA j];show -(y6 w.terms j)*_=_;grind,K4]
  show c*-w.value - _=-(c*w.value - _)
  grind
noncomputable def m9 (s:i8) (g:List (Int × Rat)):Fd:=a9v (e6 s).length s.n.toNat (g8 s g)
noncomputable def I6 (s:i8) (g:List (Int × Rat)):b2c:=B9 (e6 s).length s.n.toNat (m9 s g)
theorem a1U {s:i8} {g:List (Int × Rat)}:a6G (e6 s).length s.n.toNat (g8 s g) (fun j=>-(y6 g j)) (g8 s g):=⟨aM4,fun _ _=>Iff.rfl,0,aL7⟩
theorem J2 {s:i8} {g:List (Int × Rat)}:a6G (e6 s).length s.n.toNat (g8 s g) (fun j=>-(y6 g j)) (m9 s g):=b2A a1U
theorem a6k (s:i8) (g:List (Int × Rat)):I6 s g=.best∨(∃ r,I6 s g=.row r)∨∃c,I6 s g=.col c:=b2h (a38 a1U).2
noncomputable def j2 (s:i8) (g:List (Int × Rat)):List Rat:=zOf s.n.toNat (G0 (e6 s).length s.n.toNat (m9 s g) 1 (fun _=>0))
noncomputable def a61 (s:i8) (g:List (Int × Rat)) (c:Nat):List Rat:=zOf s.n.toNat (G0 (e6 s).length s.n.toNat (m9 s g) 0 (fun j=>if j=c then 1 else 0))
theorem aI0 {s:i8} {g:List (Int × Rat)} {y:Nat→Rat} (hy:Ids (e6 s).length s.n.toNat (g8 s g) y 1):∀w,w<s.n.toNat+(e6 s).length→a4w s g (zOf s.n.toNat y) w=y w:=by
 intro w hw
 unfold a4w
 split
 ·rename_i h;exact a5o h
 ·have h1:y (s.n.toNat+(w - s.n.toNat))=1*(g8 s g).V (w - s.n.toNat) - g7 (fun j=>(g8 s g).A (w - s.n.toNat) j*y j) s.n.toNat:=hy (w - s.n.toNat) (by omega)
  rw [show s.n.toNat+(w - s.n.toNat)=w by omega] at h1
  rw [h1,g4 (g:=fun j=>(g8 s g).A (w - s.n.toNat) j*y j) fun j hj=>by rw [a5o hj]]
  grind
theorem aU3 {s:i8} {g:List (Int × Rat)} (hr:j8 s=true) {y:Nat→Rat} (hy:Ids (e6 s).length s.n.toNat (g8 s g) y 1) (hp:aX8 (e6 s).length s.n.toNat y):j4 s (zOf s.n.toNat y)=true:=by
 refine (first_holds (g:=g) hr (by rw [H8];exact ah3 hr)).2 fun w hw=>?_
 rw [aI0 hy w hw];exact hp w hw
theorem T8 {s:i8} {z:List Rat} (h:j4 s z=true):j8 s=true∧(z.length:Int)=s.n:=by
 unfold j4 at h
 simp only [Bool.and_eq_true,decide_eq_true_eq] at h
 exact ⟨h.1.1.1,h.1.1.2⟩
theorem a8C {s:i8} {g:List (Int × Rat)} (hg:j1 (-1) ((s.n.toNat:Nat):Int) g=true) (z:List Rat):g7 (fun j=>-(y6 g j)*a4w s g z j) s.n.toNat=-(k7 g z):=by
 rw [a1K hg z,g4 (g:=fun j=>(-1:Rat)*(y6 g j*z.getD j 0)) fun j hj=>by
  have:a4w s g z j=z.getD j 0:=by unfold a4w;rw [if_pos hj]
  rw [this];grind,K4]
 grind
theorem a0E {s:i8} {g:List (Int × Rat)} (hr:j8 s=true) (hg:j1 (-1) ((s.n.toNat:Nat):Int) g=true) (h:I6 s g=.best):
 j4 s (j2 s g)=true∧∀z,j4 s z=true→k7 g (j2 s g)≤k7 g z:=by
 obtain ⟨hv,hgj⟩:=ab8 h
 have hi:=J2 (s:=s) (g:=g)
 obtain ⟨v,hv'⟩:=hi.g
 obtain ⟨⟨y,h1,h2,h3,h4⟩,h5⟩:=ar6 hi.p hv' hv hgj
 have h1':=(hi.i y 1).2 h1
 have e:j2 s g=zOf s.n.toNat y:=by unfold j2;rw [h4]
 rw [e]
 refine ⟨aU3 hr h1' h2,fun z hz=>?_⟩
 have hx:=h5 (a4w s g z) ((hi.i _ 1).1 (aU0 z)) ((first_holds hr (T8 hz).2).1 hz)
 rw [a8C hg z] at hx
 have h6:g7 (fun j=>-(y6 g j)*y j) s.n.toNat=-(k7 g (zOf s.n.toNat y)):=by
  rw [← a8C hg]
  exact g4 fun j hj=>by rw [aI0 h1' j (by omega)]
 rw [h6] at h3
 grind
theorem a7H {s:i8} {g:List (Int × Rat)} {r:Nat} (h:I6 s g=.row r):∀z,j4 s z=false:=by
 intro z
 cases hz:j4 s z with
 |false=>rfl
 |true=>
  obtain ⟨hr1,hv,ha⟩:=aB0 h
  have hi:=J2 (s:=s) (g:=g)
  exact absurd ((first_holds (T8 hz).1 (T8 hz).2).1 hz) (b3T hi.p hr1 hv ha (a4w s g z) ((hi.i _ 1).1 (aU0 z)))
structure b7I (s:i8) (d:List Rat):Prop where
 len:d.length=s.n.toNat
 pos:∀v ∈ d,0≤v
 up:∀(k:Nat) (w:B2),s.rows[k]? =some w→w.kind≠0→k7 w.terms d≤0
 down:∀(k:Nat) (w:B2),s.rows[k]? =some w→w.kind≠1→0≤k7 w.terms d
theorem ak0 {s:i8} {g:List (Int × Rat)} {c:Nat} (hr:j8 s=true) (hg:j1 (-1) ((s.n.toNat:Nat):Int) g=true) (h:I6 s g=.col c):b7I s (a61 s g c)∧k7 g (a61 s g c)<0:=by
 obtain ⟨hc,hgc,ha⟩:=a5b h
 have hi:=J2 (s:=s) (g:=g)
 obtain ⟨v,hv⟩:=hi.g
 obtain ⟨y,h1,h2,h3,h4⟩:=b2N hi.p hv hc hgc ha
 have h1':=(hi.i y 0).2 h1
 have e:a61 s g c=zOf s.n.toNat y:=by unfold a61;rw [h4]
 rw [e]
 have side:∀(k:Nat) (w:B2) (b:Bool),s.rows[k]? =some w→(b=false→w.kind≠0)→(b=true→w.kind≠1)→0≤O5 b (-(k7 w.terms (zOf s.n.toNat y))):=by
  intro k w b hw hb1 hb2
  have hm:((k,b):Nat × Bool) ∈ e6 s:=X9.2 ⟨w,hw,hb1,hb2⟩
  obtain ⟨i,hil,hif⟩:=List.getElem_of_mem hm
  have hf:(e6 s)[i]? =some (k,b):=by rw [lg0 hil,hif]
  have:=b3C hr h1' hf hw
  have hp:=h2 (s.n.toNat+i) (by omega)
  rw [this] at hp
  have e2:(0:Rat)*w.value - k7 w.terms (zOf s.n.toNat y)=-(k7 w.terms (zOf s.n.toNat y)):=by grind
  rw [e2] at hp;exact hp
 refine ⟨⟨H8,fun v hv=>?_,fun k w hw hk=>?_,fun k w hw hk=>?_⟩,?_⟩
 ·obtain ⟨j,hj,rfl⟩:=a5d hv
  exact h2 j (by omega)
 ·have:0≤-(k7 w.terms (zOf s.n.toNat y)):=side k w false hw (fun _=>hk) (fun h=>by cases h)
  grind
 ·have:0≤-(-(k7 w.terms (zOf s.n.toNat y))):=side k w true hw (fun h=>by cases h) (fun _=>hk)
  grind
 ·rw [ar3 hg,g4 (g:=fun j=>(-1:Rat)*(-(y6 g j)*y j)) fun j hj=>by grind,K4]
  grind
def a7z (x d:List Rat):List Rat:=List.zipWith (·+·) x d
theorem at7 {x d:List Rat} {n:Nat} (hx:x.length=n) (hd:d.length=n):(a7z x d).length=n:=by simp [a7z,hx,hd]
theorem aY4 {x d:List Rat} {n j:Nat} (hx:x.length=n) (hd:d.length=n) (hj:j<n):(a7z x d).getD j 0=x.getD j 0+d.getD j 0:=by
 simp only [a7z,lg3,List.getElem?_zipWith]
 rw [lg0 (show j<x.length by omega),lg0 (show j<d.length by omega)]
 rfl
theorem ad6 {x d:List Rat} {n:Nat} {l:List (Int × Rat)} (hx:x.length=n) (hd:d.length=n) (h:j1 (-1) (n:Int) l=true):k7 l (a7z x d)=k7 l x+k7 l d:=by
 rw [a1K h,a1K h,a1K h,←a3E]
 exact g4 fun j hj=>by rw [aY4 hx hd hj];grind
theorem Y3 {s:i8} {z:List Rat} (h:j4 s z=true):∀v ∈ z,0≤v:=by
 unfold j4 at h
 simp only [Bool.and_eq_true,decide_eq_true_eq,List.all_eq_true] at h
 exact h.1.2
theorem b1Q {w:B2} {z:List Rat}:R6 w z=true↔(w.kind≠1→w.value≤k7 w.terms z)∧(w.kind≠0→k7 w.terms z≤w.value):=by
 unfold R6
 simp only [Bool.not_eq_true',Bool.or_eq_false_iff,Bool.and_eq_false_iff,decide_eq_false_iff_not,Rat.not_lt]
 constructor
 ·rintro ⟨h1,h2⟩
  exact ⟨fun h=>h1.elim id fun h'=>absurd h h',fun h=>h2.elim id fun h'=>absurd h h'⟩
 ·rintro ⟨h1,h2⟩
  refine ⟨?_,?_⟩
  ·by_cases h:w.kind≠1
   ·exact .inl (h1 h)
   ·exact .inr h
  ·by_cases h:w.kind≠0
   ·exact .inl (h2 h)
   ·exact .inr h
theorem a3Z {s:i8} {z:List Rat}:j4 s z=true↔j8 s=true∧(z.length:Int)=s.n∧(∀ v ∈ z,0≤v)∧∀w ∈ s.rows,(w.kind≠1→w.value≤k7 w.terms z)∧(w.kind≠0→k7 w.terms z≤w.value):=by
 unfold j4
 simp only [Bool.and_eq_true,decide_eq_true_eq,List.all_eq_true,b1Q]
 constructor
 ·rintro ⟨⟨⟨h1,h2⟩,h3⟩,h4⟩;exact ⟨h1,h2,h3,h4⟩
 ·rintro ⟨h1,h2,h3,h4⟩;exact ⟨⟨⟨h1,h2⟩,h3⟩,h4⟩
theorem aU4 {s:i8} {x d:List Rat} (hx:j4 s x=true) (hd:b7I s d):j4 s (a7z x d)=true:=by
 obtain ⟨h1,h2,h3,h4⟩:=a3Z.1 hx
 have hn:=ah3 h1
 have hxl:x.length=s.n.toNat:=by omega
 refine a3Z.2 ⟨h1,by rw [at7 hxl hd.len];exact hn,fun v hv=>?_,fun w hw=>?_⟩
 ·obtain ⟨j,hj,rfl⟩:=List.getElem_of_mem hv
  rw [at7 hxl hd.len] at hj
  have h5:0≤x[j]:=h3 _ (List.getElem_mem _)
  have h6:0≤d[j]'(by rw [hd.len];exact hj):=hd.pos _ (List.getElem_mem _)
  simp only [a7z,List.getElem_zipWith]
  grind
 ·obtain ⟨k,hk,hkw⟩:=List.getElem_of_mem hw
  have hkw':s.rows[k]? =some w:=by rw [lg0 hk,hkw]
  have h7:=ad6 hxl hd.len (a3R h1 hkw').1
  obtain ⟨h8,h9⟩:=h4 w hw
  rw [h7]
  exact ⟨fun h=>by have:=h8 h;have:=hd.down k w hkw' h;grind,fun h=>by have:=h9 h;have:=hd.up k w hkw' h;grind⟩
end
section
theorem aB2 {f:Nat→Nat→Rat} (m:Nat):∀n:Nat,g7 (fun i=>g7 (f i) m) n=g7 (fun j=>g7 (fun i=>f i j) n) m
 |0=>by
  show g7 _ 0=_
  rw [w6 (f:=fun j=>g7 (fun i=>f i j) 0) (n:=m) fun j hj=>by simp only [g7,O4]]
  simp only [g7,O4]
 |n+1=>by
  simp only [g7]
  rw [aB2 m n,←a3E]
theorem a37 {n a:Nat} (ha:a<n) (v:Rat) (c:Nat→Rat):g7 (fun i=>(if a=i then v else 0)*c i) n=v*c a:=by
 rw [D8 ha,w6 fun j hj=>by
  by_cases h:j=a
  ·rw [if_pos h]
  ·rw [if_neg h,if_neg (fun e=>h e.symm)];grind]
 rw [if_pos rfl];grind
def E6 (s:i8) (i:Nat):B2:=s.rows.getD i ⟨[],2,0⟩
theorem T4 {s:i8} {i:Nat} {w:B2} (h:s.rows[i]? =some w):E6 s i=w:=by unfold E6;rw [lg3,h];rfl
def C3 (s:i8) (k:Nat):Nat × Bool:=(e6 s).getD k (0,false)
def chg (s:i8) (w:Nat) (p:Rat) (i:Nat):Rat:=if s.n.toNat≤w∧(C3 s (w - s.n.toNat)).1=i then -(O5 (C3 s (w - s.n.toNat)).2 p) else 0
def slV (s:i8) (w:Nat):Rat:=if s.n.toNat≤w then (g8 s []).V (w - s.n.toNat) else 0
def slA (s:i8) (l w:Nat):Rat:=if s.n.toNat≤w then (g8 s []).A (w - s.n.toNat) l else 0
theorem a45 {s:i8} {k:Nat} (hk:k<(e6 s).length):∃w,s.rows[(C3 s k).1]? =some w∧((C3 s k).2=false→w.kind≠0)∧((C3 s k).2=true→w.kind≠1):=by
 have:C3 s k ∈ e6 s:=by
  unfold C3
  rw [lg3,lg0 hk]
  exact List.getElem_mem _
 exact X9.1 this
theorem az5 {s:i8} {w:Nat} (hw:w<s.n.toNat+(e6 s).length) (p:Rat) (c:B2→Rat):
 g7 (fun i=>chg s w p i*c (E6 s i)) s.rows.length=if s.n.toNat≤w then -p*O5 (C3 s (w - s.n.toNat)).2 (c (E6 s (C3 s (w - s.n.toNat)).1)) else 0:=by
 by_cases h:s.n.toNat≤w
 ·rw [if_pos h]
  obtain ⟨x,hx,_⟩:=a45 (s:=s) (k:=w - s.n.toNat) (by omega)
  have hl:=(lg1 hx).1
  rw [g4 (g:=fun i=>(if (C3 s (w - s.n.toNat)).1=i then -(O5 (C3 s (w - s.n.toNat)).2 p) else 0)*c (E6 s i)) fun i hi=>by
   unfold chg
   by_cases h2:(C3 s (w - s.n.toNat)).1=i
   ·rw [if_pos ⟨h,h2⟩,if_pos h2]
   ·rw [if_neg (fun e=>h2 e.2),if_neg h2]]
  rw [a37 hl]
  cases (C3 s (w - s.n.toNat)).2 with
  |false=>rfl
  |true=>show -(-p)*_=-p*-_;grind
 ·rw [if_neg h]
  exact w6 fun i hi=>by unfold chg;rw [if_neg (fun e=>h e.1)];grind
theorem b2T {s:i8} {w:Nat} (hw:w<s.n.toNat+(e6 s).length) (p:Rat):g7 (fun i=>chg s w p i*(E6 s i).value) s.rows.length=-p*slV s w:=by
 rw [az5 hw p B2.value]
 unfold slV
 split
 ·rename_i h
  obtain ⟨x,hx,_⟩:=a45 (s:=s) (k:=w - s.n.toNat) (by omega)
  rw [T4 hx]
  have:(g8 s []).V (w - s.n.toNat)=O5 (C3 s (w - s.n.toNat)).2 x.value:=by show a2G s (C3 s (w - s.n.toNat))=_;unfold a2G;simp only [hx]
  rw [this]
 ·grind
theorem b3m {s:i8} {w:Nat} (hw:w<s.n.toNat+(e6 s).length) (p:Rat) (l:Nat):g7 (fun i=>chg s w p i*y6 (E6 s i).terms l) s.rows.length=-p*slA s l w:=by
 rw [az5 hw p (fun r=>y6 r.terms l)]
 unfold slA
 split
 ·rename_i h
  obtain ⟨x,hx,_⟩:=a45 (s:=s) (k:=w - s.n.toNat) (by omega)
  rw [T4 hx]
  have:(g8 s []).A (w - s.n.toNat) l=O5 (C3 s (w - s.n.toNat)).2 (y6 x.terms l):=by show a1l s (C3 s (w - s.n.toNat)) l=_;unfold a1l;simp only [hx]
  rw [this]
 ·grind
def yv (s:i8) (c:Rat) (t:Nat→Rat) (w:Nat):Rat:=if w<s.n.toNat then t w else c*(g8 s []).V (w - s.n.toNat) - g7 (fun l=>(g8 s []).A (w - s.n.toNat) l*t l) s.n.toNat
theorem b0P {s:i8} {g:List (Int × Rat)} (c:Rat) (t:Nat→Rat):Ids (e6 s).length s.n.toNat (g8 s g) (yv s c t) c:=by
 intro i hi
 show yv s c t (s.n.toNat+i)=_
 unfold yv
 rw [if_neg (by omega),show s.n.toNat+i - s.n.toNat=i by omega]
 show c*(g8 s g).V i - _=c*(g8 s g).V i - _
 congr 1
 refine g4 fun j hj=>?_
 show _=(g8 s g).A i j*(if j<s.n.toNat then t j else _)
 rw [if_pos hj];rfl
theorem b0Y {s:i8} (w:Nat):yv s 1 (fun _=>0) w=slV s w:=by
 unfold yv slV
 by_cases h:w<s.n.toNat
 ·rw [if_pos h,if_neg (by omega)]
 ·rw [if_neg h,if_pos (by omega),w6 fun l hl=>by grind];grind
theorem b55 {s:i8} {l:Nat} (hl:l<s.n.toNat) (w:Nat):yv s 0 (fun j=>if l=j then 1 else 0) w=(if l=w then 1 else 0) - slA s l w:=by
 unfold yv slA
 by_cases h:w<s.n.toNat
 ·rw [if_pos h,if_neg (show ¬s.n.toNat≤w by omega)];grind
 ·rw [if_neg h,if_pos (show s.n.toNat≤w by omega),if_neg (show ¬l=w by omega),g4 (g:=fun j=>(if l=j then (1:Rat) else 0)*(g8 s []).A (w - s.n.toNat) j) fun j hj=>by grind,a37 hl]
  grind
def Q8 (s:i8) (y:Nat→Rat) (l:Nat):Rat:=g7 (fun i=>y i*y6 (E6 s i).terms l) s.rows.length
def W9 (s:i8) (y:Nat→Rat):Rat:=g7 (fun i=>y i*(E6 s i).value) s.rows.length
def ay7 (s:i8) (y:Nat→Rat):Prop:=∀(i:Nat) (w:B2),s.rows[i]? =some w→(w.kind=0→0≤y i)∧(w.kind=1→y i≤0)
theorem b0Z {s:i8} {w:Nat} (hw:w<s.n.toNat+(e6 s).length) {p:Rat} (hp:0≤p):ay7 s (chg s w p):=by
 intro i x hx
 unfold chg
 by_cases h:s.n.toNat≤w∧(C3 s (w - s.n.toNat)).1=i
 ·rw [if_pos h]
  obtain ⟨x',hx',h1,h2⟩:=a45 (s:=s) (k:=w - s.n.toNat) (by omega)
  rw [h.2,hx] at hx'
  injection hx' with hx'
  subst hx'
  cases hb:(C3 s (w - s.n.toNat)).2 with
  |false=>exact ⟨fun e=>absurd e (h1 hb),fun _=>by show -p≤0;grind⟩
  |true=>exact ⟨fun _=>by show 0≤-(-p);grind,fun e=>absurd e (h2 hb)⟩
 ·rw [if_neg h];exact ⟨fun _=>by grind,fun _=>by grind⟩
theorem ar7 {s:i8} {f:Nat→Nat→Rat}:∀n:Nat,(∀ j,j<n→ay7 s (f j))→ay7 s (fun i=>g7 (fun j=>f j i) n)
 |0,_=>fun i w hw=>⟨fun _=>by simp only [g7,O4];grind,fun _=>by simp only [g7,O4];grind⟩
 |n+1,h=>fun i w hw=>by
  have h1:=ar7 n (fun j hj=>h j (by omega)) i w hw
  have h2:=h n (by omega) i w hw
  simp only [g7]
  exact ⟨fun e=>by have:=h1.1 e;have:=h2.1 e;grind,fun e=>by have:=h1.2 e;have:=h2.2 e;grind⟩
def A0 (s:i8) (E:Fd) (i:Nat):Rat:=g7 (fun j=>chg s (E.F j) (-(E.G j)) i) s.n.toNat
def a6Z (s:i8) (E:Fd) (r i:Nat):Rat:=chg s (E.O r) 1 i+g7 (fun j=>chg s (E.F j) (E.A r j) i) s.n.toNat
theorem a8M {s:i8} {f:Nat→Nat→Rat} {c:Nat→Rat} {n R:Nat}:g7 (fun i=>g7 (fun j=>f j i) n*c i) R=g7 (fun j=>g7 (fun i=>f j i*c i) R) n:=by
 rw [← aB2]
 refine g4 fun i hi=>?_
 rw [g4 (f:=fun j=>f j i*c i) (g:=fun j=>c i*f j i) fun j hj=>by grind,K4];grind
structure b4S (s:i8) (g:Nat→Rat) (y:Nat→Rat) (v:Rat):Prop where
 sign:ay7 s y
 mix:∀l,l<s.n.toNat→Q8 s y l≤g l
 val:W9 s y=v
theorem aw8 {s:i8} {g:List (Int × Rat)} (hr:j8 s=true) (hg:j1 (-1) ((s.n.toNat:Nat):Int) g=true) (h:I6 s g=.best):b4S s (y6 g) (A0 s (m9 s g)) (k7 g (j2 s g)):=by
 obtain ⟨hv,hgj⟩:=ab8 h
 have hi:=J2 (s:=s) (g:=g)
 obtain ⟨z,hz⟩:=hi.g
 have hF:∀j,j<s.n.toNat→(m9 s g).F j<s.n.toNat+(e6 s).length:=fun j hj=>hi.p.fb j hj
 refine ⟨ar7 _ fun j hj=>b0Z (hF j hj) (by have:=hgj j hj;grind),fun l hl=>?_,?_⟩
 ·have h1:=hz _ _ ((hi.i _ 0).1 (b0P (s:=s) (g:=g) 0 (fun j=>if l=j then 1 else 0)))
  rw [g4 (g:=fun j=>(if l=j then (1:Rat) else 0)*-(y6 g j)) fun j hj=>by unfold yv;rw [if_pos hj];grind,a37 hl] at h1
  unfold Q8 A0
  rw [a8M (s:=s),g4 (g:=fun j=>(m9 s g).G j*slA s l ((m9 s g).F j)) fun j hj=>by rw [b3m (hF j hj)];grind]
  rw [g4 (g:=fun j=>(m9 s g).G j*(if l=(m9 s g).F j then 1 else 0)+(-1:Rat)*((m9 s g).G j*slA s l ((m9 s g).F j))) fun j hj=>by rw [b55 hl];grind,a3E,K4] at h1
  have h2:g7 (fun j=>(m9 s g).G j*(if l=(m9 s g).F j then (1:Rat) else 0)) s.n.toNat≤0:=a5U fun j hj=>by
   have:=hgj j hj
   split<;>grind
  grind
 ·have h1:=hz _ _ ((hi.i _ 1).1 (b0P (s:=s) (g:=g) 1 (fun _=>0)))
  rw [w6 fun j hj=>by unfold yv;rw [if_pos hj];grind] at h1
  unfold W9 A0
  rw [a8M (s:=s),g4 (g:=fun j=>(m9 s g).G j*slV s ((m9 s g).F j)) fun j hj=>by rw [b2T (hF j hj)];grind]
  rw [g4 (g:=fun j=>(m9 s g).G j*slV s ((m9 s g).F j)) fun j hj=>by rw [b0Y]] at h1
  obtain ⟨⟨y,k1,k2,k3,k4⟩,_⟩:=ar6 hi.p hz hv hgj
  have k1':=(hi.i y 1).2 k1
  have e:j2 s g=zOf s.n.toNat y:=by unfold j2;rw [k4]
  have h6:g7 (fun j=>-(y6 g j)*y j) s.n.toNat=-(k7 g (zOf s.n.toNat y)):=by
   rw [← a8C hg]
   exact g4 fun j hj=>by rw [aI0 k1' j (by omega)]
  rw [e];rw [h6] at k3
  grind
end
section
open Go.RowKit
def rF (n:Nat) (g:Nat→Rat):List Fr:=(List.range n).map fun j=>fz (g j)
def mF (m n:Nat) (A:Nat→Nat→Rat):List (List Fr):=(List.range m).map fun i=>rF n (A i)
theorem L9 (n:Nat) (g:Nat→Rat):(rF n g).length=n:=by simp [rF]
theorem d7 (m n:Nat) (A:Nat→Nat→Rat):(mF m n A).length=m:=by simp [mF]
theorem I4 {n:Nat} {g:Nat→Rat} {j:Nat} (h:j<n):(rF n g)[j]? =some (fz (g j)):=by simp [rF,h]
theorem N9 {m n:Nat} {A:Nat→Nat→Rat} {i:Nat} (h:i<m):(mF m n A)[i]? =some (rF n (A i)):=by simp [mF,h]
theorem W4 {n:Nat} {g:Nat→Rat} {s:Nat} {v:Rat} (h:s<n):(rF n g).set s (fz v)=rF n (fun j=>if j=s then v else g j):=by
 apply List.ext_getElem?
 intro j
 by_cases hj:j<n
 ·rw [I4 hj,List.getElem?_set,L9]
  by_cases hjm:s=j
  ·subst hjm;simp [h]
  ·rw [if_neg hjm,I4 hj,if_neg (by omega)]
 ·rw [List.getElem?_eq_none (by simp [L9];omega),List.getElem?_eq_none (by simp [L9];omega)]
theorem C5 {n:Nat} {g h:Nat→Rat} (e:∀j,j<n→g j=h j):rF n g=rF n h:=List.map_congr_left fun j hj=>by rw [e j (List.mem_range.1 hj)]
theorem aB6 {m n:Nat} {A B:Nat→Nat→Rat} (e:∀i,i<m→∀j,j<n→A i j=B i j):mF m n A=mF m n B:=List.map_congr_left fun i hi=>C5 (e i (List.mem_range.1 hi))
theorem b1i {m n:Nat} {A:Nat→Nat→Rat} {r:Nat} {g:Nat→Rat} (h:r<m):(mF m n A).set r (rF n g)=mF m n (fun i=>if i=r then g else A i):=by
 apply List.ext_getElem?
 intro j
 by_cases hj:j<m
 ·rw [N9 hj,List.getElem?_set,d7]
  by_cases hjm:r=j
  ·subst hjm;simp [h]
  ·rw [if_neg hjm,N9 hj,if_neg (by omega)]
 ·rw [List.getElem?_eq_none (by simp [d7];omega),List.getElem?_eq_none (by simp [d7];omega)]
abbrev flB (l:List Fr):Blk:={ mode:=.live,elem:=83,size:=4,rows:=toC (l.map m6),box:=false }
theorem M8 {row:List Fr} {i n:Nat} {y:Fr} (h:n=i):z9 (flB row) ((toC (row.map m6)).set n (frC y))=flB (row.set i y):=by
 subst h
 unfold z9
 simp [toC,List.map_set,m6]
def P2 (b m n:Nat) (V:Nat→Rat):List (List C):=(List.range m).map fun i=>frC (fz (V i))++[C.own (i+b) 0 n true]
def a0b (m:Nat) (O:Nat→Nat):List (List T):=(List.range m).map fun i=>[ti (O i)]
def X5 (l:List (Nat × Bool)):List (List T):=l.map fun f=>[ti f.1,tb f.2]
theorem B4 (b m n:Nat) (V:Nat→Rat):(P2 b m n V).length=m:=by simp [P2]
theorem v6 (m:Nat) (O:Nat→Nat):(a0b m O).length=m:=by simp [a0b]
theorem a1z {b m n:Nat} {V:Nat→Rat} {i:Nat} (h:i<m):(P2 b m n V)[i]? =some (frC (fz (V i))++[C.own (i+b) 0 n true]):=by simp [P2,h]
theorem a5K {m:Nat} {O:Nat→Nat} {i:Nat} (h:i<m):(a0b m O)[i]? =some [ti (O i)]:=by simp [a0b,h]
theorem b05 {b m n:Nat} {V:Nat→Rat} {r:Nat} {v:Rat} (h:r<m):(P2 b m n V).set r (frC (fz v)++[C.own (r+b) 0 n true])=P2 b m n (fun i=>if i=r then v else V i):=by
 apply List.ext_getElem?
 intro j
 by_cases hj:j<m
 ·rw [a1z hj,List.getElem?_set,B4]
  by_cases hjm:r=j
  ·subst hjm;simp [h]
  ·rw [if_neg hjm,a1z hj,if_neg (by omega)]
 ·rw [List.getElem?_eq_none (by simp [B4];omega),List.getElem?_eq_none (by simp [B4];omega)]
theorem b1b {m:Nat} {O:Nat→Nat} {r v:Nat} (h:r<m):(a0b m O).set r [ti v]=a0b m (fun i=>if i=r then v else O i):=by
 apply List.ext_getElem?
 intro j
 by_cases hj:j<m
 ·rw [a5K hj,List.getElem?_set,v6]
  by_cases hjm:r=j
  ·subst hjm;simp [h]
  ·rw [if_neg hjm,a5K hj,if_neg (by omega)]
 ·rw [List.getElem?_eq_none (by simp [v6];omega),List.getElem?_eq_none (by simp [v6];omega)]
abbrev aK7 (m n k:Nat):Blk:={ mode:=.live,elem:=256,size:=6,rows:=[[C.t (ti n),.own 1 0 m true,.own 2 0 n true,.own 3 0 m true,.own 4 0 n true,.own 5 0 k true]],box:=true }
abbrev a05 (b m n:Nat) (V:Nat→Rat):Blk:={ mode:=.live,elem:=259,size:=5,rows:=P2 b m n V,box:=false }
abbrev U7 (m:Nat) (O:Nat→Nat):Blk:={ mode:=.live,elem:=3,size:=1,rows:=toC (a0b m O),box:=false }
abbrev a0V (l:List (Nat × Bool)):Blk:={ mode:=.live,elem:=284,size:=2,rows:=toC (X5 l),box:=false }
abbrev W1 (m n:Nat) (fr:List (Nat × Bool)) (D:Fd):Hp:=
 aK7 m n fr.length::a05 6 m n D.V::flB (rF n D.G)::U7 m D.O::U7 n D.F::a0V fr::(mF m n D.A).map flB
theorem a1H {m n:Nat} {fr:List (Nat × Bool)} {D:Fd}:(W1 m n fr D).length=m+6:=by simp [d7]
theorem a8k {b m n N:Nat} {V:Nat→Rat} (h:m+b≤N):okB N (a05 b m n V):=by
 intro r hr c hc
 obtain ⟨i,hi,rfl⟩:=List.mem_map.1 hr
 have:=List.mem_range.1 hi
 simp [frC] at hc
 rcases hc with rfl|rfl|rfl|rfl|rfl<;>first|trivial|(simp only;omega)
theorem aT8 {m n k N:Nat} (h:6≤N):okB N (aK7 m n k):=by
 intro r hr c hc
 simp at hr
 subst hr
 simp at hc
 rcases hc with rfl|rfl|rfl|rfl|rfl|rfl<;>first|trivial|(simp only;omega)
theorem a5g {m n:Nat} {fr:List (Nat × Bool)} {D:Fd}:∀k ∈ W1 m n fr D,okB (m+6) k:=by
 intro k hk
 simp only [List.mem_cons] at hk
 rcases hk with rfl|rfl|rfl|rfl|rfl|rfl|hk
 ·exact aT8 (by omega)
 ·exact a8k (Nat.le_refl _)
 ·exact F3 rfl
 ·exact F3 rfl
 ·exact F3 rfl
 ·exact F3 rfl
 ·obtain ⟨l,_,rfl⟩:=List.mem_map.1 hk
  exact F3 rfl
end
section
open Go.RowKit
theorem aN1 (x:Rat):(fz x).p.sg=0↔x=0:=by
 show x.num.sign=0↔_
 rw [Int.sign_eq_zero_iff_zero,Rat.num_eq_zero]
theorem rl0:rl 0≤1:=by
 have h0:=s6 (x:=0) (by decide) (by decide)
 have h1:=s6 (x:=1) (by decide) (by decide)
 show max (bl 0) (bl 1)≤1
 omega
theorem rl1:rl 1≤1:=by
 have h1:=s6 (x:=1) (by decide) (by decide)
 show max (bl 1) (bl 1)≤1
 omega
theorem b4C (x y:Rat) (hy:y≠0) (lx:rl x≤60000) (ly:rl y≤60000):b9 Tryz.prog 301 [frS (fz x),frS (fz y)] [] (.tup [frS (fz (x / y)),a9 .i64 0]) []:=by
 have r1:=G7 x (by omega)
 have r2:=G7 y (by omega)
 have x1:=E5 x
 have x2:=F4 x
 have y1:=E5 y
 have y2:=F4 y
 have hn:y.num≠0:=fun h=>hy (Rat.num_eq_zero.1 h)
 have hs:y.num.sign≠0:=fun h=>hn (Int.sign_eq_zero_iff_zero.1 h)
 have hsg:=aN1 y
 have l1:=D9 x.num y.den
 have l3:=D9 x.den y.num
 have t1:=a0o x.num y.den (by omega) (by omega)
 have t3:=a0o x.den y.num (by omega) (by omega)
 have n:=aj0 (x.num*y.den) (x.den*y.num) (Int.mul_ne_zero (aC6 x) hn) (by omega) (by omega)
 rw [← b2v] at n
 (refine a8 a7 Tryz.func301 rfl (by decide) ?_;(conv=>whnf);repeat (refine zy ?_;conv=>whnf))
 repeat' first|(refine zd ?_ ?_<;>intro h<;>first|exact zc h|(exfalso;omega)|conv=>whnf)|((first|refine zz ?_|refine qp r1 ?_|refine qp r2 ?_|refine qp t1 ?_|refine qp t3 ?_|refine qp n ?_|refine zy ?_);conv=>whnf)
 all_goals first
  |(exfalso;simp_all;done)
  |exact T5 rfl
theorem a4x (x:Rat) (lx:rl x≤60000):b9 Tryz.prog 256 [frS (fz x)] [] (frS (fz (-x))) []:=by
 have r1:=G7 x (by omega)
 have x1:=E5 x
 have x2:=F4 x
 have n:=a6Y x.num (by omega)
 have s:=a85 x.den (by omega)
 have e:fz (-x)=⟨bz (-x.num),bz x.den⟩:=rfl
 rw [e]
 (refine a8 a7 Tryz.func256 rfl (by decide) ?_;(conv=>whnf);repeat (refine zy ?_;conv=>whnf))
 repeat' first|(refine zd ?_ ?_<;>intro h<;>first|exact zc h|(exfalso;omega)|conv=>whnf)|((first|refine zz ?_|refine qp r1 ?_|refine qp n ?_|refine qp s ?_|refine zy ?_);conv=>whnf)
 all_goals first
  |(exfalso;simp_all;done)
  |exact k8 ⟨rfl,rfl,rfl,rfl,trivial⟩
theorem a8E (x:Rat):b9 Tryz.prog 294 [frS (fz x)] [] (f7 (decide (x=0))) []:=by
 have h:=aN1 x
 (refine a8 a7 Tryz.func294 rfl (by decide) ?_;(conv=>whnf);repeat (refine zy ?_;conv=>whnf))
 repeat' first|(refine zd ?_ ?_<;>intro h<;>first|exact zc h|(exfalso;omega)|conv=>whnf)|((first|refine zz ?_|refine zy ?_);conv=>whnf)
 all_goals (refine d8 ?_;simp_all)
theorem aD5 (a b c:Rat) (la:rl a≤60000) (lb:rl b≤30000) (lc:rl c≤30000):b9 Tryz.prog 295 [frS (fz a),frS (fz b),frS (fz c)] [] (frS (fz (a - b*c))) []:=by
 have z1:=a8E b
 have z2:=a8E c
 have m:=aD0 b c (by omega) (by omega)
 have lm:=a4O b c
 have s:=aK6 a (b*c) la (by omega)
 by_cases hb:b=0
 ·have e:a - b*c=a:=by rw [hb];grind
  rw [e]
  (refine a8 a7 Tryz.func295 rfl (by decide) ?_;(conv=>whnf);repeat (refine zy ?_;conv=>whnf))
  repeat' first|(refine zd ?_ ?_<;>intro h<;>first|exact zc h|(exfalso;omega)|conv=>whnf)|((first|refine zz ?_|refine qp z1 ?_|refine qp z2 ?_|refine qp m ?_|refine qp s ?_|refine zy ?_);conv=>whnf)
  all_goals first
   |(exfalso;simp_all;done)
   |exact k8 ⟨rfl,rfl,rfl,rfl,trivial⟩
 ·by_cases hc:c=0
  ·have e:a - b*c=a:=by rw [hc];grind
   rw [e]
   (refine a8 a7 Tryz.func295 rfl (by decide) ?_;(conv=>whnf);repeat (refine zy ?_;conv=>whnf))
   repeat' first|(refine zd ?_ ?_<;>intro h<;>first|exact zc h|(exfalso;omega)|conv=>whnf)|((first|refine zz ?_|refine qp z1 ?_|refine qp z2 ?_|refine qp m ?_|refine qp s ?_|refine zy ?_);conv=>whnf)
   all_goals first
    |(exfalso;simp_all;done)
    |exact k8 ⟨rfl,rfl,rfl,rfl,trivial⟩
  ·(refine a8 a7 Tryz.func295 rfl (by decide) ?_;(conv=>whnf);repeat (refine zy ?_;conv=>whnf))
   repeat' first|(refine zd ?_ ?_<;>intro h<;>first|exact zc h|(exfalso;omega)|conv=>whnf)|((first|refine zz ?_|refine qp z1 ?_|refine qp z2 ?_|refine qp m ?_|refine qp s ?_|refine zy ?_);conv=>whnf)
   all_goals first
    |(exfalso;simp_all;done)
    |exact k8 ⟨rfl,rfl,rfl,rfl,trivial⟩
theorem aK3 (a b:Rat) (hb:b≠0) (la:rl a≤60000) (lb:rl b≤60000):b9 Tryz.prog 293 [frS (fz a),frS (fz b)] [] (frS (fz (a / b))) []:=by
 have d:=b4C a b hb la lb
 (refine a8 a7 Tryz.func293 rfl (by decide) ?_;(conv=>whnf);repeat (refine zy ?_;conv=>whnf))
 repeat' first|(refine zd ?_ ?_<;>intro h<;>first|exact zc h|(exfalso;omega)|conv=>whnf)|((first|refine zz ?_|refine qp d ?_|refine zy ?_);conv=>whnf)
 all_goals exact k8 ⟨rfl,rfl,rfl,rfl,trivial⟩
def tkF (a row:Nat→Rat) (s k:Nat):Nat→Rat:=fun j=>if j<k∧j≠s then a j - a s*row j else a j
def tkA (a row:Nat→Rat) (s:Nat):Nat→Rat:=fun j=>if j=s then 0 - a s*row s else a j - a s*row j
def pZ (k n:Nat):List Fr:=(List.range n).map fun j=>if j<k then fz 0 else E7
theorem an5 (k n:Nat):(pZ k n).length=n:=by simp [pZ]
theorem ai1 {k n j:Nat} (h:j<n):(pZ k n)[j]? =some (if j<k then fz 0 else E7):=by simp [pZ,h]
theorem b59 {k n:Nat} (h:k<n):(pZ k n).set k (fz 0)=pZ (k+1) n:=by
 apply List.ext_getElem?
 intro j
 by_cases hj:j<n
 ·rw [ai1 hj,List.getElem?_set,an5]
  by_cases hjk:k=j
  ·subst hjk;simp [h]
  ·rw [if_neg hjk,ai1 hj]
   have:(j<k+1)↔(j<k):=by omega
   simp only [this]
 ·rw [List.getElem?_eq_none (by simp [an5];omega),List.getElem?_eq_none (by simp [an5];omega)]
theorem b5r (n:Nat):pZ n n=rF n (fun _=>0):=List.map_congr_left fun j hj=>by rw [if_pos (List.mem_range.1 hj)]
theorem b2s (n:Nat) (hn:n≤1000):b9 Tryz.prog 254 [a9 .i64 n] [] (.c (.own 0 0 n true)) [flB (rF n fun _=>0)]:=by
 have i0:=G9 0 (by decide) (by decide)
 have hnn:(n:Int).toNat=n:=by omega
 (refine a8 a7 Tryz.func254 rfl (by decide) ?_;(conv=>whnf);repeat (refine zy ?_;conv=>whnf))
 repeat' first|(refine zd ?_ ?_<;>intro h<;>first|exact zc h|(exfalso;omega)|conv=>whnf)|((first|refine zz ?_|refine a3s (by omega) (by omega) (by omega) (by decide) ?_|refine zy ?_);conv=>whnf)
 refine f8 a7 (fun k=>([a9 .i64 n,J,J,S.c (C.own 0 0 n true),J,J,J,J,a9 .i64 n,a9 .i64 k,J,J,J,J,J,J,J,J],[flB (pZ k n)])) n (fun _=>True) [some 0] trivial
  ⟨rfl,rfl,⟨⟨rfl,rfl,rfl,.inr (a8X ?_ ?_)⟩,trivial⟩,⟨j3 rfl,⟨rfl,rfl,by omega,fun h=>h⟩,e7 (by omega),e7 rfl,trivial⟩⟩ ?_
 ·simp [C4,toC,an5]
 ·intro i x y hx hy
  simp only [C4,List.getElem?_replicate] at hx
  split at hx
  ·rename_i hi
   injection hx with hx
   subst hx
   have hy:(toC ((pZ 0 n).map m6))[i]? =some y:=hy
   rw [toC,List.getElem?_map,List.getElem?_map,ai1 (by omega),if_neg (by omega)] at hy
   injection hy with hy
   subst hy
   exact ⟨rfl,rfl,rfl,rfl,trivial⟩
  ·cases hx
 intro k hk _
 by_cases hlt:k<n
 ·obtain ⟨pf,hpf⟩:∃pf,(pZ k n)[k]? =some pf:=⟨_,ai1 hlt⟩
  have gp:(pZ k n)[0+(k:Int).toNat]? =some pf:=by rw [Nat.zero_add,show (k:Int).toNat=k by omega];exact hpf
  have eM:0+(k:Int).toNat=k:=by omega
  conv=>whnf
  repeat' first|(refine zd ?_ ?_<;>intro h<;>first|exact zc h|(exfalso;omega)|conv=>whnf)|((first|refine zz ?_|refine qp i0 ?_|refine o8 gp ?_|refine zy ?_);conv=>whnf)
  all_goals first
   |(exfalso;omega)
   |(refine ⟨hlt,trivial,[some 0],rfl,rfl,⟨b8 (rows:=(pZ (k+1) n).map m6) rfl rfl rfl ?_ rfl,trivial⟩,⟨rfl,⟨rfl,rfl,rfl,fun h=>h⟩,rfl,e7 (by omega),trivial⟩⟩
     have e:=M8 (row:=pZ k n) (y:=fz 0) eM
     rw [b59 hlt] at e
     exact congrArg Blk.rows e)
 ·have hke:k=n:=by omega
  subst hke
  conv=>whnf
  repeat' first|(refine zd ?_ ?_<;>intro h<;>first|exact zc h|(exfalso;omega)|conv=>whnf)|((first|refine zz ?_|refine zy ?_);conv=>whnf)
  all_goals first
   |(exfalso;omega)
   |exact ⟨[some 0],rfl,rfl,⟨b8 (rows:=(rF k fun _=>0).map m6) rfl rfl rfl (by rw [← b5r]) rfl,trivial⟩,⟨rfl,rfl,rfl,fun h=>h⟩⟩
theorem b0c (a row:Nat→Rat) (s:Nat):tkF a row s 0=a:=by funext j;unfold tkF;rw [if_neg (by omega)]
theorem b5c (a row:Nat→Rat) (s k:Nat):tkF a row s k k=a k:=by unfold tkF;rw [if_neg (by omega)]
theorem b7M (a row:Nat→Rat) (s k:Nat):tkF a row s k s=a s:=by unfold tkF;rw [if_neg (by omega)]
theorem b0X {a row:Nat→Rat} {s k:Nat} (h:k≠s):(fun j=>if j=k then a k - a s*row k else tkF a row s k j)=tkF a row s (k+1):=by
 funext j
 by_cases hj:j=k
 ·subst hj;rw [if_pos rfl];unfold tkF;rw [if_pos ⟨by omega,h⟩]
 ·rw [if_neg hj];unfold tkF
  have:(j<k∧j≠s)↔(j<k+1∧j≠s):=by omega
  simp only [this]
theorem b1X {a row:Nat→Rat} {s:Nat}:tkF a row s s=tkF a row s (s+1):=by
 funext j;unfold tkF
 have:(j<s∧j≠s)↔(j<s+1∧j≠s):=by omega
 simp only [this]
theorem b3i {a row:Nat→Rat} {s n:Nat}:rF n (fun j=>if j=s then 0 - a s*row s else tkF a row s n j)=rF n (tkA a row s):=C5 fun j hj=>by
 unfold tkA tkF
 by_cases h:j=s
 ·rw [if_pos h,if_pos h]
 ·rw [if_neg h,if_neg h,if_pos ⟨hj,h⟩]
abbrev frX (x:Rat):Blk:={ mode:=.live,elem:=83,size:=4,rows:=[frC (fz x)],box:=true }
theorem b4u {ρ:List (Option Nat)} {H:Hp} (x:Rat):a3w ρ H (frX x) (frX x):=⟨rfl,rfl,rfl,.inl ⟨rfl,i7 [m6 (fz x)]⟩⟩
theorem b4G (n s:Nat) (a row:Nat→Rat) (hn:n≤1000) (hs:s<n) (ha:∀j,j<n→rl (a j)≤30000) (hr:∀j,j<n→rl (row j)≤30000):
 b9 Tryz.prog 296 [.c (.own 0 0 n true),.c (.own 1 0 n true),a9 .i64 s] [flB (rF n a),flB (rF n row)] (.tup []) [flB (rF n (tkA a row s)),flB (rF n row)]:=by
 have i0:=G9 0 (by decide) (by decide)
 have ls:=ha s hs
 have eS:0+(s:Int).toNat=s:=by omega
 have gs:(rF n a)[0+(s:Int).toNat]? =some (fz (a s)):=by rw [eS,I4 hs]
 (refine a8 a7 Tryz.func296 rfl (by decide) ?_;(conv=>whnf);repeat (refine zy ?_;conv=>whnf))
 repeat' first|(refine zd ?_ ?_<;>intro h<;>first|exact zc h|(exfalso;omega)|conv=>whnf)|((first|refine zz ?_|refine o8 gs ?_|refine zy ?_);conv=>whnf)
 refine f8 a7 (fun k=>([S.c (C.own 0 0 n true),S.c (C.own 1 0 n true),a9 .i64 s,J,J,J,S.c (C.ptr 2 0 0),J,J,J,J,J,J,a9 .i64 n,a9 .i64 k,J,J,J,J,J,J,J,J,J,J,J,J,J,J,J,J,J,J,J,J,J,J,J,J,J,J,J,J,J],[flB (rF n (tkF a row s k)),flB (rF n row),frX (a s)])) n (fun _=>True) [some 0,some 1,some 2] trivial
  ⟨rfl,rfl,⟨b8 (rows:=(rF n a).map m6) rfl rfl rfl rfl (by rw [b0c]),b8 rfl rfl rfl rfl rfl,b4u _,trivial⟩,⟨⟨rfl,rfl,rfl,fun h=>h⟩,⟨rfl,rfl,rfl,fun h=>h⟩,rfl,⟨rfl,rfl,rfl⟩,e7 rfl,e7 rfl,trivial⟩⟩ ?_
 intro k hk _
 by_cases hlt:k<n
 ·have eM:0+(k:Int).toNat=k:=by omega
  have lk:=ha k hlt
  have lr:=hr k hlt
  have g1:(rF n (tkF a row s k))[0+(k:Int).toNat]? =some (fz (a k)):=by rw [eM,I4 hlt,b5c]
  have g2:(rF n row)[0+(k:Int).toNat]? =some (fz (row k)):=by rw [eM,I4 hlt]
  have le:=aD5 (a k) (a s) (row k) (by omega) (by omega) (by omega)
  by_cases hks:k=s
  ·subst hks
   conv=>whnf
   repeat' first|(refine zd ?_ ?_<;>intro h<;>first|exact zc h|(exfalso;omega)|conv=>whnf)|((first|refine zz ?_|refine qp le ?_|refine o8 g1 ?_|refine o8 g2 ?_|refine zy ?_);conv=>whnf)
   all_goals first
    |(exfalso;omega)
    |exact ⟨hlt,trivial,[some 0,some 1,some 2],rfl,rfl,⟨b8 (rows:=(rF n (tkF a row k k)).map m6) rfl rfl rfl rfl (by rw [b1X]),b8 rfl rfl rfl rfl rfl,b4u _,trivial⟩,⟨⟨rfl,rfl,rfl,fun h=>h⟩,⟨rfl,rfl,rfl,fun h=>h⟩,rfl,⟨rfl,rfl,rfl⟩,e7 rfl,e7 rfl,trivial⟩⟩
  ·conv=>whnf
   repeat' first|(refine zd ?_ ?_<;>intro h<;>first|exact zc h|(exfalso;omega)|conv=>whnf)|((first|refine zz ?_|refine qp le ?_|refine o8 g1 ?_|refine o8 g2 ?_|refine zy ?_);conv=>whnf)
   all_goals first
    |(exfalso;omega)
    |(refine ⟨hlt,trivial,[some 0,some 1,some 2],rfl,rfl,⟨b8 (rows:=(rF n (tkF a row s (k+1))).map m6) rfl rfl rfl ?_ rfl,b8 rfl rfl rfl rfl rfl,b4u _,trivial⟩,⟨⟨rfl,rfl,rfl,fun h=>h⟩,⟨rfl,rfl,rfl,fun h=>h⟩,rfl,⟨rfl,rfl,rfl⟩,e7 rfl,e7 rfl,trivial⟩⟩
      have e:=M8 (row:=rF n (tkF a row s k)) (y:=fz (a k - a s*row k)) eM
      rw [W4 hlt,b0X hks] at e
      exact congrArg Blk.rows e)
 ·have hke:k=n:=by omega
  subst hke
  have g2:(rF k row)[0+(s:Int).toNat]? =some (fz (row s)):=by rw [eS,I4 hs]
  have lr:=hr s hs
  have le:=aD5 0 (a s) (row s) (by have:=rl0;omega) (by omega) (by omega)
  have le:b9 Tryz.prog 295 [frS (fz ((0:Int):Rat)),frS (fz (a s)),frS (fz (row s))] [] (frS (fz (0 - a s*row s))) []:=le
  conv=>whnf
  have g1:(rF k (tkF a row s k))[0+(s:Int).toNat]? =some (fz (a s)):=by rw [eS,I4 hs,b7M]
  repeat' first|(refine zd ?_ ?_<;>intro h<;>first|exact zc h|(exfalso;omega)|conv=>whnf)|((first|refine zz ?_|refine qp i0 ?_|refine qp le ?_|refine o8 g2 ?_|refine o8 g1 ?_|refine zy ?_);conv=>whnf)
  all_goals first
   |(exfalso;omega)
   |(refine ⟨[some 0,some 1],rfl,rfl,⟨b8 (rows:=(rF k (tkA a row s)).map m6) rfl rfl rfl ?_ rfl,b8 rfl rfl rfl rfl rfl,trivial⟩,trivial⟩
     have e:=M8 (row:=rF k (tkF a row s k)) (y:=fz (0 - a s*row s)) eS
     rw [W4 hs,b3i] at e
     exact congrArg Blk.rows e)
end
section
open Go.RowKit
def leI:Option Nat→Int
 |none=>-1
 |some a=>a
theorem a3H (f:Nat→Nat) (p:Nat→Bool) (k:Nat):R7 f p (k+1)=match R7 f p k with
 |none=>if p k then some k else none
 |some a=>if p k && decide (f k<f a) then some k else some a:=rfl
theorem D4 {m:Nat} {f:Nat→Nat} {n:Int} {i:Nat} {K:List T→Prop} (e:n=i) (h:i<m) (k:K [ti (f i)]):∃row,0≤n∧(a0b m f)[n.toNat]? =some row∧K row:=by
 subst e;exact ⟨_,by omega,by rw [show (i:Int).toNat=i by omega,a5K h],k⟩
abbrev a4A (m:Nat) (f:Nat→Nat):S:=.c (.t (.sl 1 .any (a0b m f)))
set_option maxHeartbeats 1000000 in
theorem a3X (m:Nat) (hm:m≤100000) (f:Nat→Nat) (p:Nat→Bool) (g:FuncId) (caps:List T) (hg:∀i:Nat,i<m→b9 Tryz.prog g (a9 .i64 i::caps.map fun x=>.c (.t x)) [] (f7 (p i)) []):
 b9 Tryz.prog 257 [a4A m f,.c (.t (.fn (.func g) caps))] [] (a9 .i64 (leI (R7 f p m))) []:=by
 have m1:(a0b m f).length=m:=v6 m f
 (refine a8 a7 Tryz.func257 rfl (by decide) ?_;(conv=>whnf);repeat (refine zy ?_;conv=>whnf))
 repeat' first|(refine zd ?_ ?_<;>intro h<;>first|exact zc h|(exfalso;omega)|conv=>whnf)|((first|refine zz ?_|refine zy ?_);conv=>whnf)
 refine f8 a7 (fun k=>([a4A m f,S.c (C.t (T.fn (.func g) caps)),J,J,J,a9 .i64 (leI (R7 f p k)),J,J,a4A m f,a9 .i64 m,a9 .i64 k,J,J,J,J,J,J,J,J,J,J,J,J,J,J,J,J,J,J,J,J,J,J],[])) m (fun _=>True) [] trivial
  ⟨rfl,rfl,trivial,⟨j3 rfl,j3 rfl,e7 rfl,j3 rfl,e7 (by omega),e7 rfl,trivial⟩⟩ ?_
 intro k hk _
 by_cases hlt:k<m
 ·have hgr:=hg k hlt
  have ha:(a9 .i64 (k:Int)::caps.map fun x=>S.c (C.t x)).all S.isT=true:=by simp [S.isT,C.isT,a9]
  cases hp:p k with
  |false=>
   rw [hp] at hgr
   have e1:leI (R7 f p k)=leI (R7 f p (k+1)):=by
    rw [a3H,hp];cases R7 f p k<;>rfl
   conv=>whnf
   repeat' first|(refine zd ?_ ?_<;>intro h<;>first|exact zc h|(exfalso;omega)|conv=>whnf)|((first|refine zz ?_|refine .inl ⟨_,_,H5 hgr ha rfl,?_⟩|refine D4 rfl hlt ?_|refine zy ?_);conv=>whnf)
   all_goals first
    |(exfalso;omega)
    |exact ⟨hlt,trivial,[],rfl,rfl,trivial,⟨rfl,rfl,e7 e1,rfl,rfl,e7 rfl,trivial⟩⟩
  |true=>
   rw [hp] at hgr
   cases hl:R7 f p k with
   |none=>
    have hle:leI none=-1:=rfl
    have e1:(k:Int)=leI (R7 f p (k+1)):=by rw [a3H,hl,hp];rfl
    conv=>whnf
    repeat' first|(refine zd ?_ ?_<;>intro h<;>first|exact zc h|(exfalso;omega)|conv=>whnf)|((first|refine zz ?_|refine .inl ⟨_,_,H5 hgr ha rfl,?_⟩|refine D4 rfl hlt ?_|refine zy ?_);conv=>whnf)
    all_goals first
     |(exfalso;omega)
     |exact ⟨hlt,trivial,[],rfl,rfl,trivial,⟨rfl,rfl,e7 e1,rfl,rfl,e7 rfl,trivial⟩⟩
   |some b=>
    have hb:=(F8 hl).1
    have hle:leI (some b)=b:=rfl
    by_cases hc:f k<f b
    ·have e1:(k:Int)=leI (R7 f p (k+1)):=by rw [a3H,hl,hp];simp [hc,leI]
     conv=>whnf
     repeat' first|(refine zd ?_ ?_<;>intro h<;>first|exact zc h|(exfalso;omega)|conv=>whnf)|((first|refine zz ?_|refine .inl ⟨_,_,H5 hgr ha rfl,?_⟩|refine D4 rfl hlt ?_|refine D4 (i:=b) hle (by omega) ?_|refine zy ?_);conv=>whnf)
     all_goals first
      |(exfalso;omega)
      |exact ⟨hlt,trivial,[],rfl,rfl,trivial,⟨rfl,rfl,e7 e1,rfl,rfl,e7 rfl,trivial⟩⟩
    ·have e1:leI (some b)=leI (R7 f p (k+1)):=by rw [a3H,hl,hp];simp [hc,leI]
     conv=>whnf
     repeat' first|(refine zd ?_ ?_<;>intro h<;>first|exact zc h|(exfalso;omega)|conv=>whnf)|((first|refine zz ?_|refine .inl ⟨_,_,H5 hgr ha rfl,?_⟩|refine D4 rfl hlt ?_|refine D4 (i:=b) hle (by omega) ?_|refine zy ?_);conv=>whnf)
     all_goals first
      |(exfalso;omega)
      |exact ⟨hlt,trivial,[],rfl,rfl,trivial,⟨rfl,rfl,e7 e1,rfl,rfl,e7 rfl,trivial⟩⟩
 ·have hke:k=m:=by omega
  subst hke
  conv=>whnf
  repeat' first|(refine zd ?_ ?_<;>intro h<;>first|exact zc h|(exfalso;omega)|conv=>whnf)|((first|refine zz ?_|refine zy ?_);conv=>whnf)
  all_goals first
   |(exfalso;omega)
   |exact j5 rfl
def a7m (m n:Nat) (D:Fd):List (List T):=(List.range m).map fun i=>m6 (fz (D.V i))++[T.sl 4 .any ((rF n (D.A i)).map m6)]
def b3y (m n:Nat) (fr:List (Nat × Bool)) (D:Fd):List T:=[ti n,.sl 5 .any (a7m m n D),.sl 4 .any ((rF n D.G).map m6),.sl 1 .any (a0b m D.O),.sl 1 .any (a0b n D.F),.sl 2 .any (X5 fr)]
theorem a6l {m n:Nat} {D:Fd} {i:Nat} (h:i<m):(a7m m n D)[i]? =some (m6 (fz (D.V i))++[T.sl 4 .any ((rF n (D.A i)).map m6)]):=by simp [a7m,h]
theorem a3Q (m n:Nat) (D:Fd):(a7m m n D).length=m:=by simp [a7m]
theorem a04 {m n:Nat} {D:Fd} {x:Int} {i:Nat} {K:List T→Prop} (e:x=i) (h:i<m) (k:K (m6 (fz (D.V i))++[T.sl 4 .any ((rF n (D.A i)).map m6)])):∃row,0≤x∧(a7m m n D)[x.toNat]? =some row∧K row:=by
 subst e;exact ⟨_,by omega,by rw [show (i:Int).toNat=i by omega,a6l h],k⟩
theorem a2a {n:Nat} {g:Nat→Rat} {x:Int} {j:Nat} {K:List T→Prop} (e:x=j) (h:j<n) (k:K (m6 (fz (g j)))):∃row,0≤x∧((rF n g).map m6)[x.toNat]? =some row∧K row:=by
 subst e;exact ⟨_,by omega,by rw [show (j:Int).toNat=j by omega,List.getElem?_map,I4 h];rfl,k⟩
theorem b0d (x:Rat):(fz x).p.sg<0↔x<0:=by
 show x.num.sign<0↔_
 rw [a5w];unfold sgR;split<;>(try split)<;>simp_all
theorem am9 (x:Rat):(fz x).p.sg > 0↔0<x:=by
 show x.num.sign > 0↔_
 rw [a5w];unfold sgR
 split
 ·constructor
  ·intro h;omega
  ·intro h;grind
 ·split<;>simp_all
abbrev a4D (m n:Nat) (fr:List (Nat × Bool)) (D:Fd):T:=.ptr [.ptr (b3y m n fr D)]
theorem aX3 (m n:Nat) (fr:List (Nat × Bool)) (D:Fd) (i:Nat) (hi:i<m):
 b9 Tryz.prog 258 (a9 .i64 i::[a4D m n fr D].map fun x=>.c (.t x)) [] (f7 (decide (D.V i<0))) []:=by
 have h:=b0d (D.V i)
 (refine a8 a7 Tryz.func258 rfl (by decide) ?_;(conv=>whnf);repeat (refine zy ?_;conv=>whnf))
 repeat' first|(refine zd ?_ ?_<;>intro h<;>first|exact zc h|(exfalso;omega)|conv=>whnf)|((first|refine zz ?_|refine a04 rfl hi ?_|refine zy ?_);conv=>whnf)
 all_goals (refine d8 ?_;simp_all)
theorem aZ7 (m n:Nat) (fr:List (Nat × Bool)) (D:Fd) (j:Nat) (hj:j<n):
 b9 Tryz.prog 259 (a9 .i64 j::[a4D m n fr D].map fun x=>.c (.t x)) [] (f7 (decide (0<D.G j))) []:=by
 have h:=am9 (D.G j)
 (refine a8 a7 Tryz.func259 rfl (by decide) ?_;(conv=>whnf);repeat (refine zy ?_;conv=>whnf))
 repeat' first|(refine zd ?_ ?_<;>intro h<;>first|exact zc h|(exfalso;omega)|conv=>whnf)|((first|refine zz ?_|refine a2a rfl hj ?_|refine zy ?_);conv=>whnf)
 all_goals (refine d8 ?_;simp_all)
theorem ag0 (m n:Nat) (fr:List (Nat × Bool)) (D:Fd) (r j:Nat) (hr:r<m) (hj:j<n):
 b9 Tryz.prog 260 (a9 .i64 j::[a4D m n fr D,T.ptr [ti r]].map fun x=>.c (.t x)) [] (f7 (decide (D.A r j<0))) []:=by
 have h:=b0d (D.A r j)
 (refine a8 a7 Tryz.func260 rfl (by decide) ?_;(conv=>whnf);repeat (refine zy ?_;conv=>whnf))
 repeat' first|(refine zd ?_ ?_<;>intro h<;>first|exact zc h|(exfalso;omega)|conv=>whnf)|((first|refine zz ?_|refine a04 rfl hr ?_|refine a2a rfl hj ?_|refine zy ?_);conv=>whnf)
 all_goals (refine d8 ?_;simp_all)
theorem ah1 (m n:Nat) (fr:List (Nat × Bool)) (D:Fd) (i s:Nat) (hi:i<m) (hs:s<n):
 b9 Tryz.prog 261 (a9 .i64 i::[a4D m n fr D,T.ptr [ti s]].map fun x=>.c (.t x)) [] (f7 (decide (0<D.A i s))) []:=by
 have h:=am9 (D.A i s)
 (refine a8 a7 Tryz.func261 rfl (by decide) ?_;(conv=>whnf);repeat (refine zy ?_;conv=>whnf))
 repeat' first|(refine zd ?_ ?_<;>intro h<;>first|exact zc h|(exfalso;omega)|conv=>whnf)|((first|refine zz ?_|refine a04 rfl hi ?_|refine a2a rfl hs ?_|refine zy ?_);conv=>whnf)
 all_goals (refine d8 ?_;simp_all)
end
section
open Go.RowKit
theorem aR2 {H:Hp} {ia ir n s:Nat} {a row:Nat→Rat} (hne:ia≠ir) (ga:H[ia]? =some (flB (rF n a))) (gr:H[ir]? =some (flB (rF n row))) (hn:n≤1000) (hs:s<n) (ha:∀j,j<n→rl (a j)≤30000) (hr:∀j,j<n→rl (row j)≤30000):
 b9 Tryz.prog 296 [.c (.own ia 0 n true),.c (.own ir 0 n true),a9 .i64 s] H (.tup []) (H.set ia (flB (rF n (tkA a row s)))):=by
 have la:ia<H.length:=(lg1 ga).1
 refine P3 [ia,ir] (b4G n s a row hn hs ha hr) rfl rfl rfl (by simp;exact hne) ?_ ?_ (by simp) rfl rfl (by simp) ?_ ?_
 ·intro i k hk
  match i,hk with
  |0,hk=>injection hk with hk;subst hk;exact ⟨rfl,rfl,a29 _,_,ga,E0 rfl⟩
  |1,hk=>injection hk with hk;subst hk;exact ⟨rfl,rfl,a29 _,_,gr,E0 rfl⟩
 ·intro k hk
  simp at hk
  rcases hk with rfl|rfl<;>(intro h;cases h)
 ·intro i k hk
  match i,hk with
  |0,hk=>
   injection hk with hk;subst hk
   refine ⟨_,?_,E0 rfl⟩
   show (H.set ia _)[ia]? =_
   rw [List.getElem?_set,if_pos rfl,if_pos la]
  |1,hk=>
   injection hk with hk;subst hk
   refine ⟨_,?_,E0 rfl⟩
   show (H.set ia _)[ir]? =_
   rw [List.getElem?_set,if_neg hne];exact gr
 ·intro j hj hjn
  simp at hjn
  rw [List.getElem?_set,if_neg (fun h=>hjn.1 h.symm)]
theorem a1u {b m n i r:Nat} {V:Nat→Rat} {K:List C→Prop} (e:i=r) (h:r<m) (k:K (frC (fz (V r))++[C.own (r+b) 0 n true])):∃row,(P2 b m n V)[i]? =some row∧K row:=by
 subst e;exact ⟨_,a1z h,k⟩
theorem aT6 {rows:List (List C)} {i:Nat} {x:List C} {K:List C→Prop} (h:i<rows.length) (k:K x):∃row,(rows.set i x)[i]? =some row∧K row:=⟨x,List.getElem?_set_self h,k⟩
theorem b3e {rows:List (List C)} {i j:Nat} {x:List C} {K:List C→Prop} (h:i≠j) (k:∃row,rows[j]? =some row∧K row):∃row,(rows.set i x)[j]? =some row∧K row:=by
 rw [List.getElem?_set_ne h];exact k
def a3x (a:Nat→Rat) (p:Rat) (s k:Nat):Nat→Rat:=fun j=>if j<k∧j≠s then a j / p else a j
def A1 (D:Fd) (r s k:Nat):Nat→Nat→Rat:=fun i=>if i=r then a3x (D.A r) (D.A r s) s k else D.A i
theorem b6p {D:Fd} {r s k:Nat}:A1 D r s k r k=D.A r k:=by unfold A1 a3x;rw [if_pos rfl,if_neg (by omega)]
theorem bc2 {D:Fd} {r s k:Nat}:A1 D r s k r s=D.A r s:=by unfold A1 a3x;rw [if_pos rfl,if_neg (by omega)]
theorem b3K {D:Fd} {r s k:Nat} (h:k≠s):(fun i=>if i=r then (fun j=>if j=k then D.A r k / D.A r s else A1 D r s k r j) else A1 D r s k i)=A1 D r s (k+1):=by
 funext i j
 by_cases hi:i=r
 ·subst hi
  simp only [if_true]
  unfold A1 a3x
  simp only [if_true]
  by_cases hj:j=k
  ·subst hj;rw [if_pos rfl,if_pos ⟨by omega,h⟩]
  ·rw [if_neg hj]
   have:(j<k∧j≠s)↔(j<k+1∧j≠s):=by omega
   simp only [this]
 ·rw [if_neg hi];unfold A1;rw [if_neg hi,if_neg hi]
theorem b2V {D:Fd} {r s:Nat}:A1 D r s s=A1 D r s (s+1):=by
 funext i j;unfold A1 a3x
 have:(j<s∧j≠s)↔(j<s+1∧j≠s):=by omega
 split
 ·simp only [this]
 ·rfl
theorem b2R {D:Fd} {r s k:Nat} (h:D.A r k=0):A1 D r s k=A1 D r s (k+1):=by
 funext i j;unfold A1 a3x
 split
 ·show (if j<k∧j≠s then D.A r j / D.A r s else D.A r j)=if j<k+1∧j≠s then D.A r j / D.A r s else D.A r j
  by_cases hj:j=k
  ·subst hj
   rw [if_neg (show ¬(j<j∧j≠s) by omega)]
   split
   ·rw [h];grind
   ·rfl
  ·have:(j<k∧j≠s)↔(j<k+1∧j≠s):=by omega
   simp only [this]
 ·rfl
theorem aT9 {m n r:Nat} {A B:Nat→Nat→Rat} {g:Nat→Rat} (h:r<m) (e:(fun i=>if i=r then g else A i)=B):(mF m n A).set r (rF n g)=mF m n B:=by rw [b1i h,e]
def V1 (D:Fd) (r s:Nat):Nat→Rat:=fun i=>if i=r then D.V r / D.A r s else D.V i
def V2 (D:Fd) (r s k:Nat):Nat→Rat:=fun i=>if i=r then D.V r / D.A r s else if i<k then D.V i - D.A i s*(D.V r / D.A r s) else D.V i
def A2 (D:Fd) (r s k:Nat):Nat→Nat→Rat:=fun i=>if i=r then D.pRow r s else if i<k then tkA (D.A i) (D.pRow r s) s else D.A i
theorem az0 {a row:Nat→Rat} {s:Nat} (h:a s=0):tkA a row s=a:=by
 funext j;unfold tkA
 by_cases hj:j=s
 ·rw [if_pos hj,hj,h];grind
 ·rw [if_neg hj,h];grind
theorem a0d {m i r:Nat} {f:Nat→Nat} {K:List C→Prop} (e:i=r) (h:r<m) (k:K [C.t (ti (f r))]):∃row,(toC (a0b m f))[i]? =some row∧K row:=by
 subst e;exact ⟨_,by simp [toC,a5K h],k⟩
theorem I9 {α β:Type} {f:β→α} {M:List β} {T:List α} {i:Nat} {x:β} (h:M[i]? =some x):(M.map f++T)[i]? =some (f x):=by
 rw [List.getElem?_append_left (by simpa using (lg1 h).1),List.getElem?_map,h];rfl
theorem b2i {α β:Type} {f:β→α} {M:List β} {T:List α} {i:Nat} {x:β} (h:i<M.length):(M.map f++T).set i (f x)=(M.set i x).map f++T:=by
 rw [List.set_append_left _ _ (by simpa using h),←List.map_set]
theorem b31 {m n:Nat} {D:Fd} {r s:Nat} (hr:r<m) (hs:s<n):(mF m n (A1 D r s n)).set r ((rF n (A1 D r s n r)).set s (fz (((1:Int):Rat) / D.A r s)))=mF m n (A2 D r s 0):=by
 rw [W4 hs,b1i hr]
 refine aB6 fun i hi j hj=>?_
 unfold A2
 by_cases hir:i=r
 ·rw [if_pos hir,if_pos hir]
  unfold Fd.pRow A1 a3x
  rw [if_pos rfl]
  by_cases hjs:j=s
  ·rw [if_pos hjs,if_pos hjs];rfl
  ·rw [if_neg hjs,if_neg hjs,if_pos ⟨hj,hjs⟩]
 ·rw [if_neg hir,if_neg hir,if_neg (by omega)];unfold A1;rw [if_neg hir]
theorem b32 {D:Fd} {r s:Nat}:V2 D r s 0=V1 D r s:=by
 funext i;unfold V2 V1;split
 ·rfl
 ·rw [if_neg (by omega)]
theorem b8c {D:Fd} {r s k:Nat}:V2 D r s k r=D.V r / D.A r s:=by unfold V2;rw [if_pos rfl]
theorem b0V {D:Fd} {r s k:Nat} (h:k≠r):V2 D r s k k=D.V k:=by unfold V2;rw [if_neg h,if_neg (by omega)]
theorem bb5 {D:Fd} {r s k:Nat}:A2 D r s k r=D.pRow r s:=by unfold A2;rw [if_pos rfl]
theorem b47 {D:Fd} {r s k:Nat} (h:k≠r):A2 D r s k k=D.A k:=by unfold A2;rw [if_neg h,if_neg (by omega)]
theorem aT3 {D:Fd} {r s k:Nat} (h:k≠r):(fun i=>if i=k then D.V k - D.A k s*(D.V r / D.A r s) else V2 D r s k i)=V2 D r s (k+1):=by
 funext i
 by_cases hi:i=k
 ·subst hi;rw [if_pos rfl];unfold V2;rw [if_neg h,if_pos (by omega)]
 ·rw [if_neg hi];unfold V2
  have:(i<k)↔(i<k+1):=by omega
  simp only [this]
theorem aT7 {D:Fd} {r s k:Nat} (h:k≠r):(fun i=>if i=k then tkA (D.A k) (D.pRow r s) s else A2 D r s k i)=A2 D r s (k+1):=by
 funext i
 by_cases hi:i=k
 ·subst hi;rw [if_pos rfl];unfold A2;rw [if_neg h,if_pos (by omega)]
 ·rw [if_neg hi];unfold A2
  have:(i<k)↔(i<k+1):=by omega
  simp only [this]
theorem b2H {D:Fd} {r s:Nat}:V2 D r s r=V2 D r s (r+1):=by
 funext i;unfold V2
 by_cases h:i=r
 ·rw [if_pos h,if_pos h]
 ·have:(i<r)↔(i<r+1):=by omega
  simp only [this]
theorem b2y {D:Fd} {r s:Nat}:A2 D r s r=A2 D r s (r+1):=by
 funext i;unfold A2
 by_cases h:i=r
 ·rw [if_pos h,if_pos h]
 ·have:(i<r)↔(i<r+1):=by omega
  simp only [this]
theorem b2t {D:Fd} {r s k:Nat} (h:k≠r) (hz:D.A k s=0):V2 D r s k=V2 D r s (k+1):=by
 rw [← aT3 h,hz];funext i
 by_cases hi:i=k
 ·subst hi;rw [if_pos rfl,b0V h];grind
 ·rw [if_neg hi]
theorem b3X {D:Fd} {r s k:Nat} (h:k≠r) (hz:D.A k s=0):A2 D r s k=A2 D r s (k+1):=by
 rw [← aT7 h,az0 hz];funext i
 by_cases hi:i=k
 ·subst hi;rw [if_pos rfl,b47 h]
 ·rw [if_neg hi]
theorem b4Y {D:Fd} {r s m i:Nat} (h:i<m):V2 D r s m i=(D.exch r s).V i:=by
 unfold V2 Fd.exch;simp only
 split
 ·rfl
 ·first|rfl|rw [if_pos h]
theorem b5u {D:Fd} {r s m i j:Nat} (h:i<m):A2 D r s m i j=(D.exch r s).A i j:=by
 unfold A2 Fd.exch;simp only
 split
 ·rfl
 ·first|rfl|(rw [if_pos h];rfl)
abbrev I5 (m n:Nat) (fr:List (Nat × Bool)) (V:Nat→Rat) (G:Nat→Rat) (O F:Nat→Nat) (A:Nat→Nat→Rat) (T:Hp):Hp:=
 aK7 m n fr.length::a05 6 m n V::flB (rF n G)::U7 m O::U7 n F::a0V fr::((mF m n A).map flB++T)
structure BdD (m n B:Nat) (D:Fd):Prop where
 v:∀i,i<m→rl (D.V i)≤B
 a:∀i,i<m→∀j,j<n→rl (D.A i j)≤B
 g:∀j,j<n→rl (D.G j)≤B
theorem aL0 {b m n r i:Nat} {V:Nat→Rat} {x:List C} {v:Rat} (e:i=r) (h:r<m) (hx:x=frC (fz v)++[C.own (r+b) 0 n true]):(P2 b m n V).set i x=P2 b m n (fun i=>if i=r then v else V i):=by
 subst e hx;exact b05 h
theorem az4 {m n:Nat} {fr:List (Nat × Bool)} {V G:Nat→Rat} {O F:Nat→Nat} {A:Nat→Nat→Rat} {T T':Hp}:I5 m n fr V G O F A (T++T')=I5 m n fr V G O F A T++T':=by
 show aK7 m n fr.length::a05 6 m n V::flB (rF n G)::U7 m O::U7 n F::a0V fr::((mF m n A).map flB++(T++T'))=aK7 m n fr.length::a05 6 m n V::flB (rF n G)::U7 m O::U7 n F::a0V fr::(((mF m n A).map flB++T)++T')
 rw [List.append_assoc]
theorem a53 {m n:Nat} {fr:List (Nat × Bool)} {V G:Nat→Rat} {O F:Nat→Nat} {A:Nat→Nat→Rat} {T:Hp}:(I5 m n fr V G O F A T).length=m+6+T.length:=by simp [d7];omega
theorem aP5 {m n N:Nat} {fr:List (Nat × Bool)} {V G:Nat→Rat} {O F:Nat→Nat} {A:Nat→Nat→Rat} {T:Hp} (h:m+6≤N) (hT:∀k ∈ T,okB N k):∀k ∈ I5 m n fr V G O F A T,okB N k:=by
 intro k hk
 simp only [List.mem_cons,List.mem_append] at hk
 rcases hk with rfl|rfl|rfl|rfl|rfl|rfl|hk|hk
 ·exact aT8 (by omega)
 ·exact a8k h
 ·exact F3 rfl
 ·exact F3 rfl
 ·exact F3 rfl
 ·exact F3 rfl
 ·obtain ⟨l,_,rfl⟩:=List.mem_map.1 hk
  exact F3 rfl
 ·exact hT k hk
theorem S0 {n0 N m n:Nat} {fr:List (Nat × Bool)} {V G:Nat→Rat} {O F:Nat→Nat} {A:Nat→Nat→Rat} {T T' H:Hp} {env env':Env} (hH:H=I5 m n fr V G O F A (T++T')) (hN:m+6+T.length=N) (h0:n0≤N) (hT:∀k ∈ T,okB N k)
 (hE:a06 (idR N) H env env'):Ent n0 (idR N) env H env' (I5 m n fr V G O F A T):=by
 refine a6g (by rw [a53];exact hN) h0 (aP5 (by omega) hT) (fun i hi=>?_) hE
 rw [hH,az4,List.getElem?_append_left (by rw [a53];omega)]
theorem a8t {n0 N m n:Nat} {fr:List (Nat × Bool)} {V G:Nat→Rat} {O F:Nat→Nat} {A:Nat→Nat→Rat} {T H:Hp} {r s:S} (hH:H=I5 m n fr V G O F A T) (hN:m+6=N) (h0:n0≤N) (hE:a7n (idR N) H r s):
 Fin n0 r H s (I5 m n fr V G O F A []):=by
 refine ae2 (by rw [a53];exact hN) h0 (aP5 (by omega) (by simp)) (fun i hi=>?_) hE
 have e:I5 m n fr V G O F A T=I5 m n fr V G O F A []++T:=az4 (T:=[]) (T':=T)
 rw [hH,e,List.getElem?_append_left (by rw [a53];simp;omega)]
theorem a0e {b0 b1 b2 b3 b4 b5 c0 c1 c2 c3 c4 c5:Blk} {L L':Hp} (h0:b0=c0) (h1:b1=c1) (h2:b2=c2) (h3:b3=c3) (h4:b4=c4) (h5:b5=c5) (h6:L=L'):b0::b1::b2::b3::b4::b5::L=c0::c1::c2::c3::c4::c5::L':=by
 subst h0 h1 h2 h3 h4 h5 h6;rfl
theorem ab1 {b m n r i:Nat} {V V':Nat→Rat} {x:List C} {v:Rat} (e:i=r) (h:r<m) (hx:x=frC (fz v)++[C.own (r+b) 0 n true]) (hV:(fun i=>if i=r then v else V i)=V'):z9 (a05 b m n V) ((a05 b m n V).rows.set i x)=a05 b m n V':=by
 have:=aL0 (V:=V) e h hx
 subst hV
 unfold z9
 simp only [this]
theorem a60 {m r i v:Nat} {O:Nat→Nat} (e:i=r) (h:r<m):z9 (U7 m O) ((U7 m O).rows.set i [C.t (ti v)])=U7 m (fun i=>if i=r then v else O i):=by
 subst e
 have:(toC (a0b m O)).set i [C.t (ti v)]=toC (a0b m (fun j=>if j=i then v else O j)):=by
  rw [← b1b h];simp [toC,List.map_set]
 unfold z9
 simp only [this]
theorem aj4 {N:Nat} {x:Rat}:okB N (frX x):=F3 (rows:=[m6 (fz x)]) rfl
set_option maxHeartbeats 4000000 in
theorem aH7 (m n:Nat) (fr:List (Nat × Bool)) (D:Fd) (r s:Nat) (hm:m≤100000) (hn:n≤1000) (hr:r<m) (hs:s<n) (hp:D.A r s≠0) (hB:BdD m n 30000 D) (hB':BdD m n 30000 (D.exch r s)):
 b9 Tryz.prog 262 [.c (.ptr 0 0 0),a9 .i64 r,a9 .i64 s] (W1 m n fr D) (.tup []) (W1 m n fr (D.exch r s)):=by
 have eR:0+(r:Int).toNat=r:=by omega
 have eS:0+(s:Int).toNat=s:=by omega
 have gA:(mF m n D.A)[r]? =some (rF n (D.A r)):=N9 hr
 have gs:(rF n (D.A r))[0+(s:Int).toNat]? =some (fz (D.A r s)):=by rw [eS,I4 hs]
 have bp:=hB.a r hr s hs
 have ov:=aK3 (D.V r) (D.A r s) hp (by have:=hB.v r hr;omega) (by omega)
 (refine a8 a7 Tryz.func262 rfl (by decide) ?_;(conv=>whnf);repeat (refine zy ?_;conv=>whnf))
 repeat' first|(refine zd ?_ ?_<;>intro h<;>first|exact zc h|(exfalso;omega)|conv=>whnf)|((first|refine zz ?_|refine qp ov ?_|refine qp B4 ?_|refine a32 (d7 _ _ _) ?_|refine E4 ?_|refine a2D ?_|refine a1u eR hr ?_|refine au0 gA ?_|refine U3 gA ?_|refine C9 (d7 _ _ _) ?_|refine a6e (d7 _ _ _) ?_|refine o8 gs ?_|refine aT6 (by show _<(P2 _ _ _ _).length;rw [B4];omega) ?_|refine zy ?_);conv=>whnf)
 refine f8 a7 (fun k=>([S.c (C.ptr 0 0 0),a9 .i64 r,a9 .i64 s,J,J,J,S.c (C.ptr 1 r 0),S.c (C.ptr (m+6) 0 0),J,J,J,J,J,J,J,J,J,J,J,J,J,J,J,J,J,J,J,J,J,J,J,J,J,J,J,J,J,a9 .i64 n,a9 .i64 k,J,J,J,J,J,J,J,J,J,J,J,J,J,J,J,J,J,J,J,J,J,J,J,J,J,J,J,J,J,J,J,J,J,J,J,J,J,J,J,J,J,J,J,J,J,J,J,J,J,J,J,J,J,J,J,J,J,J,J,J,J,J,J,J,J,J,J,J,J,J,J,J,J,J,J,J,J,J,J,J,J,J,J,J,J,J,J,J,J,J,J,J,J,J,J,J,J,J,J,J,J,J,J,J,J,J,J,J,J,J,J,J,J,J,J,J,J,J,J,J,J,J,J,J,J,J,J,J,J,J,J,J,J,J,J,J,J,J,J,J,J,J,J,J],I5 m n fr (V1 D r s) D.G D.O D.F (A1 D r s k) [frX (D.A r s)])) n (fun _=>True) (idR (m+7)) trivial ?_ ?_
 ·refine S0 (T':=[]) ?_ rfl (by simp [d7]) (by intro k hk;simp at hk;subst hk;exact aj4) ?_
  ·refine a0e rfl (ab1 eR hr rfl rfl) rfl rfl rfl rfl ?_
   have:A1 D r s 0=D.A:=by funext i j;unfold A1 a3x;split<;>simp_all
   rw [this];rfl
  ·exact ⟨⟨o4 (by omega),rfl,rfl⟩,rfl,rfl,⟨o4 (by omega),eR,rfl⟩,⟨o4 (by omega),rfl,rfl⟩,e7 (by omega),e7 rfl,trivial⟩
 intro k hk _
 have gA1:(mF m n (A1 D r s k))[r]? =some (rF n (A1 D r s k r)):=N9 hr
 have lA:r<(mF m n (A1 D r s k)).length:=by rw [d7];exact hr
 by_cases hlt:k<n
 ·have eK:0+(k:Int).toNat=k:=by omega
  have gk:(rF n (A1 D r s k r))[0+(k:Int).toNat]? =some (fz (D.A r k)):=by rw [eK,I4 hlt,b6p]
  have bk:=hB.a r hr k hlt
  have ze:=a8E (D.A r k)
  have ovk:=aK3 (D.A r k) (D.A r s) hp (by omega) (by omega)
  by_cases hks:k=s
  ·subst hks
   conv=>whnf
   repeat' first|(refine zd ?_ ?_<;>intro h<;>first|exact zc h|(exfalso;omega)|conv=>whnf)|((first|refine zz ?_|refine qp ze ?_|refine qp ovk ?_|refine l9 (d7 _ _ _) ?_|refine E4 ?_|refine k5 ?_|refine a1u rfl hr ?_|refine U3 gA1 ?_|refine C9 (d7 _ _ _) ?_|refine o8 gk ?_|refine zy ?_);conv=>whnf)
   all_goals first
    |(exfalso;omega)
    |exact ⟨hlt,trivial,idR (m+7),S0 (T':=[]) (a0e rfl rfl rfl rfl rfl rfl (by rw [← b2V];rfl)) rfl (by simp [d7]) (by intro k hk;simp at hk;subst hk;exact aj4) ⟨⟨o4 (by omega),rfl,rfl⟩,rfl,rfl,⟨o4 (by omega),rfl,rfl⟩,⟨o4 (by omega),rfl,rfl⟩,rfl,e7 (by omega),trivial⟩⟩
  ·by_cases hz:D.A r k=0
   ·rw [decide_eq_true hz] at ze
    conv=>whnf
    repeat' first|(refine zd ?_ ?_<;>intro h<;>first|exact zc h|(exfalso;omega)|conv=>whnf)|((first|refine zz ?_|refine qp ze ?_|refine qp ovk ?_|refine l9 (d7 _ _ _) ?_|refine E4 ?_|refine k5 ?_|refine a1u rfl hr ?_|refine U3 gA1 ?_|refine C9 (d7 _ _ _) ?_|refine o8 gk ?_|refine zy ?_);conv=>whnf)
    all_goals first
     |(exfalso;omega)
     |exact ⟨hlt,trivial,idR (m+7),S0 (T':=[]) (a0e rfl rfl rfl rfl rfl rfl (by rw [← b2R hz];rfl)) rfl (by simp [d7]) (by intro k hk;simp at hk;subst hk;exact aj4) ⟨⟨o4 (by omega),rfl,rfl⟩,rfl,rfl,⟨o4 (by omega),rfl,rfl⟩,⟨o4 (by omega),rfl,rfl⟩,rfl,e7 (by omega),trivial⟩⟩
   ·rw [decide_eq_false hz] at ze
    conv=>whnf
    repeat' first|(refine zd ?_ ?_<;>intro h<;>first|exact zc h|(exfalso;omega)|conv=>whnf)|((first|refine zz ?_|refine qp ze ?_|refine qp ovk ?_|refine l9 (d7 _ _ _) ?_|refine E4 ?_|refine k5 ?_|refine a1u rfl hr ?_|refine U3 gA1 ?_|refine C9 (d7 _ _ _) ?_|refine o8 gk ?_|refine aa5 lA (M8 (y:=fz (D.A r k / D.A r s)) eK) ?_|refine zy ?_);conv=>whnf)
    all_goals first
     |(exfalso;omega)
     |exact ⟨hlt,trivial,idR (m+7),S0 (T':=[]) (a0e rfl rfl rfl rfl rfl rfl (by rw [W4 hlt,aT9 hr (b3K hks)];rfl)) rfl (by simp [d7]) (by intro k hk;simp at hk;subst hk;exact aj4) ⟨⟨o4 (by omega),rfl,rfl⟩,rfl,rfl,⟨o4 (by omega),rfl,rfl⟩,⟨o4 (by omega),rfl,rfl⟩,rfl,e7 (by omega),trivial⟩⟩
 ·have hke:k=n:=by omega
  subst hke
  have gs1:(rF k (A1 D r s k r))[0+(s:Int).toNat]? =some (fz (D.A r s)):=by rw [eS,I4 hs,bc2]
  have i1:=G9 1 (by decide) (by decide)
  have ov1:=aK3 ((1:Int):Rat) (D.A r s) hp (by have:=rl1;show rl 1≤_;omega) (by omega)
  conv=>whnf
  repeat' first|(refine zd ?_ ?_<;>intro h<;>first|exact zc h|(exfalso;omega)|conv=>whnf)|((first|refine zz ?_|refine qp i1 ?_|refine qp ov1 ?_|refine l9 (d7 _ _ _) ?_|refine E4 ?_|refine k5 ?_|refine a1u rfl hr ?_|refine U3 gA1 ?_|refine C9 (d7 _ _ _) ?_|refine o8 gs1 ?_|refine aa5 lA (M8 (y:=fz (((1:Int):Rat) / D.A r s)) eS) ?_|refine zy ?_);conv=>whnf)
  all_goals try (exfalso;omega)
  refine f8 a7 (fun q=>([S.c (C.ptr 0 0 0),a9 .i64 r,a9 .i64 s,J,J,J,S.c (C.ptr 1 r 0),J,J,J,J,J,J,J,J,J,J,J,J,J,J,J,J,J,J,J,J,J,J,J,J,J,J,J,J,J,J,J,J,J,J,J,J,J,J,J,J,J,J,J,J,J,J,J,J,J,J,J,J,J,J,J,J,J,J,J,J,J,J,J,J,J,J,J,J,J,J,J,J,J,J,J,J,J,a9 .i64 m,a9 .i64 q,J,J,J,J,J,J,J,J,J,J,J,J,J,J,J,J,J,J,J,J,J,J,J,J,J,J,J,J,J,J,J,J,J,J,J,J,J,J,J,J,J,J,J,J,J,J,J,J,J,J,J,J,J,J,J,J,J,J,J,J,J,J,J,J,J,J,J,J,J,J,J,J,J,J,J,J,J,J,J,J,J,J,J,J,J,J,J,J,J,J,J,J,J,J,J,J,J],I5 m k fr (V2 D r s q) D.G D.O D.F (A2 D r s q) [])) m (fun _=>True) (idR (m+6)) trivial ?_ ?_
  ·refine S0 (T:=[]) (T':=[frX (D.A r s)]) (a0e rfl (by rw [b32]) rfl rfl rfl rfl (by rw [b31 hr hs];rfl)) rfl (by simp [d7]) (by simp) ⟨⟨o4 (by omega),rfl,rfl⟩,rfl,rfl,⟨o4 (by omega),rfl,rfl⟩,e7 (by omega),e7 rfl,trivial⟩
  have eP:∀j,(D.exch r s).A r j=D.pRow r s j:=fun j=>by show (if r=r then _ else _)=_;rw [if_pos rfl]
  have har:∀j,j<k→rl (D.pRow r s j)≤30000:=fun j hj=>by rw [← eP];exact hB'.a r hr j hj
  intro q hq _
  have gAr:(mF m k (A2 D r s q))[r]? =some (rF k (D.pRow r s)):=by rw [N9 hr,bb5]
  by_cases hqm:q<m
  ·have eQ:0+(q:Int).toNat=q:=by omega
   have lQ:q<(mF m k (A2 D r s q)).length:=by rw [d7];exact hqm
   have ze:=a8E (D.A q s)
   by_cases hqr:q=r
   ·subst hqr
    conv=>whnf
    repeat' first|(refine zd ?_ ?_<;>intro h<;>first|exact zc h|(exfalso;omega)|conv=>whnf)|((first|refine zz ?_|refine l9 (d7 _ _ _) ?_|refine E4 ?_|refine k5 ?_|refine zy ?_);conv=>whnf)
    all_goals first
     |(exfalso;omega)
     |exact ⟨hqm,trivial,idR (m+6),S0 (T:=[]) (T':=[]) (a0e rfl (by rw [← b2H]) rfl rfl rfl rfl (by rw [← b2y];rfl)) rfl (by simp [d7]) (by simp) ⟨⟨o4 (by omega),rfl,rfl⟩,rfl,rfl,⟨o4 (by omega),rfl,rfl⟩,rfl,e7 (by omega),trivial⟩⟩
   ·have gAq:(mF m k (A2 D r s q))[q]? =some (rF k (D.A q)):=by rw [N9 hqm,b47 hqr]
    have gqs:(rF k (D.A q))[0+(s:Int).toNat]? =some (fz (D.A q s)):=by rw [eS,I4 hs]
    by_cases hz:D.A q s=0
    ·rw [decide_eq_true hz] at ze
     conv=>whnf
     repeat' first|(refine zd ?_ ?_<;>intro h<;>first|exact zc h|(exfalso;omega)|conv=>whnf)|((first|refine zz ?_|refine qp ze ?_|refine l9 (d7 _ _ _) ?_|refine E4 ?_|refine k5 ?_|refine a1u eQ hqm ?_|refine U3 gAq ?_|refine o8 gqs ?_|refine zy ?_);conv=>whnf)
     all_goals first
      |(exfalso;omega)
      |exact ⟨hqm,trivial,idR (m+6),S0 (T:=[]) (T':=[]) (a0e rfl (by rw [← b2t hqr hz]) rfl rfl rfl rfl (by rw [← b3X hqr hz];rfl)) rfl (by simp [d7]) (by simp) ⟨⟨o4 (by omega),rfl,rfl⟩,rfl,rfl,⟨o4 (by omega),rfl,rfl⟩,rfl,e7 (by omega),trivial⟩⟩
    ·rw [decide_eq_false hz] at ze
     have b1:=hB.v q hqm
     have b2:=hB.a q hqm s hs
     have b3:=hB'.v r hr
     have haq:∀j,j<k→rl (D.A q j)≤30000:=hB.a q hqm
     have le:=aD5 (V2 D r s q q) (D.A q s) (V2 D r s q r) (by rw [b0V hqr];omega) (by omega) (by rw [b8c];have e:(D.exch r s).V r=D.V r / D.A r s:=(by show (if r=r then _ else _)=_;rw [if_pos rfl]);rw [← e];omega)
     conv=>whnf
     repeat' first|(refine zd ?_ ?_<;>intro h<;>first|exact zc h|(exfalso;omega)|conv=>whnf)|((first|refine zz ?_|refine qp ze ?_|refine qp le ?_|refine qp B4 ?_|refine l9 (d7 _ _ _) ?_|refine E4 ?_|refine k5 ?_|refine a1u eQ hqm ?_|refine a1u rfl hr ?_|refine U3 gAq ?_|refine o8 gqs ?_|refine aT6 (by show _<(P2 _ _ _ _).length;rw [B4];omega) ?_|refine b3e (by omega) (a1u rfl hr ?_)|refine .inr ⟨_,_,aR2 (ia:=q+6) (ir:=r+6) (by omega) (I9 gAq) (I9 gAr) hn hs haq har,?_⟩|refine zy ?_);conv=>whnf)
     all_goals first
      |(exfalso;omega)
      |exact ⟨hqm,trivial,idR (m+6),S0 (T:=[]) (T':=[]) (a0e rfl (ab1 (v:=V2 D r s q q - D.A q s*V2 D r s q r) eQ hqm rfl (by rw [b0V hqr,b8c];exact aT3 hqr)) rfl rfl rfl rfl (by rw [b2i lQ,aT9 hqm (aT7 hqr)];rfl)) rfl (by simp [d7]) (by simp) ⟨⟨o4 (by omega),rfl,rfl⟩,rfl,rfl,⟨o4 (by omega),rfl,rfl⟩,rfl,e7 (by omega),trivial⟩⟩
  ·have hqe:q=m:=by omega
   subst hqe
   have ggs:(rF k D.G)[0+(s:Int).toNat]? =some (fz (D.G s)):=by rw [eS,I4 hs]
   have ze:=a8E (D.G s)
   have eL:a05 6 q k (V2 D r s q)=a05 6 q k (D.exch r s).V:=by
    have:P2 6 q k (V2 D r s q)=P2 6 q k (D.exch r s).V:=List.map_congr_left fun i hi=>by rw [b4Y (List.mem_range.1 hi)]
    unfold a05;rw [this]
   have eA:mF q k (A2 D r s q)=mF q k (D.exch r s).A:=aB6 fun i hi j _=>b5u hi
   have eO:a0b q (fun i=>if i=r then D.F s else D.O i)=a0b q (D.exch r s).O:=rfl
   have eF:a0b k (fun j=>if j=s then D.O r else D.F j)=a0b k (D.exch r s).F:=rfl
   have e0:W1 q k fr (D.exch r s)=I5 q k fr (D.exch r s).V (D.exch r s).G (D.exch r s).O (D.exch r s).F (D.exch r s).A []:=by
    show _::_::_::_::_::_::_=_::_::_::_::_::_::(_++[])
    rw [List.append_nil]
   by_cases hz:D.G s=0
   ·have eG:(D.exch r s).G=D.G:=by have:=az0 (row:=D.pRow r s) hz;exact this
    rw [decide_eq_true hz] at ze
    conv=>whnf
    repeat' first|(refine zd ?_ ?_<;>intro h<;>first|exact zc h|(exfalso;omega)|conv=>whnf)|((first|refine zz ?_|refine qp ze ?_|refine qp 9 ?_|refine l9 (d7 _ _ _) ?_|refine E4 ?_|refine k5 ?_|refine o8 ggs ?_|refine a0d eR hr ?_|refine a0d eS hs ?_|refine bl0 [9] ?_|refine zy ?_);conv=>whnf)
    all_goals first
     |(exfalso;omega)
     |(rw [e0];exact a8t (T:=[]) (a0e rfl eL (by rw [eG]) (a60 eR hr) (a60 eS hs) rfl (by rw [eA])) rfl (by simp [d7]) trivial)
   ·have eG:(D.exch r s).G=tkA D.G (D.pRow r s) s:=rfl
    rw [decide_eq_false hz] at ze
    conv=>whnf
    repeat' first|(refine zd ?_ ?_<;>intro h<;>first|exact zc h|(exfalso;omega)|conv=>whnf)|((first|refine zz ?_|refine qp ze ?_|refine qp 9 ?_|refine l9 (d7 _ _ _) ?_|refine E4 ?_|refine k5 ?_|refine o8 ggs ?_|refine a1u rfl hr ?_|refine a0d eR hr ?_|refine a0d eS hs ?_|refine bl0 [9] ?_|refine .inr ⟨_,_,aR2 (ia:=2) (ir:=r+6) (by omega) rfl (I9 gAr) hn hs hB.g har,?_⟩|refine zy ?_);conv=>whnf)
    all_goals first
     |(exfalso;omega)
     |(rw [e0];exact a8t (T:=[]) (a0e rfl eL (by rw [eG]) (a60 eR hr) (a60 eS hs) rfl (by rw [eA])) rfl (by simp [d7]) trivial)
end
section
open Go.RowKit
theorem aj1 {H:Hp} {p:Nat→Prop} {ys:List C} {us:List T} (h2:VYL H p ys us):∀{ts:List T},VYL H p (ts.map C.t++ys) (ts++us)
 |[]=>h2
 |t::r=>⟨b3E,aj1 h2⟩
theorem b3c {m n:Nat} {fr:List (Nat × Bool)} {D:Fd} {X:Hp}:VY (I5 m n fr D.V D.G D.O D.F D.A X) (fun _=>True) (.own 1 0 m true) (.sl 5 .any (a7m m n D)):=by
 refine b1S (k:=a05 6 m n D.V) trivial rfl (fun h=>h) rfl (a3Q m n D) ?_ ?_
 ·intro r hr
  obtain ⟨i,_,rfl⟩:=List.mem_map.1 hr
  rfl
 ·intro i r hi
  have him:i<m:=by have:=(lg1 hi).1;rwa [a3Q] at this
  rw [a6l him] at hi
  injection hi with hi
  subst hi
  refine ⟨_,a1z him,?_⟩
  show VYL _ _ ((m6 (fz (D.V i))).map C.t++[C.own (i+6) 0 n true]) _
  have hv:VY (I5 m n fr D.V D.G D.O D.F D.A X) (fun _=>True) (C.own (i+6) 0 n true) (T.sl 4 .any ((rF n (D.A i)).map m6)):=
   .vc (v5 (k:=flB (rF n (D.A i))) trivial (I9 (N9 him)) (fun h=>h) rfl rfl (by simp [L9]))
  exact aj1 (ys:=[C.own (i+6) 0 n true]) (us:=[T.sl 4 .any ((rF n (D.A i)).map m6)]) (show _∧True from ⟨hv,trivial⟩)
theorem b50 {m n:Nat} {fr:List (Nat × Bool)} {D:Fd} {X:Hp}:VY (I5 m n fr D.V D.G D.O D.F D.A X) (fun _=>True) (.ptr 0 0 0) (.ptr (b3y m n fr D)):=by
 refine aq6 (k:=aK7 m n fr.length) trivial rfl (fun h=>h) rfl ⟨b3E,b3c,?_,?_,?_,?_,trivial⟩
 ·exact .vc (v5 (k:=flB (rF n D.G)) trivial rfl (fun h=>h) rfl rfl (by simp [L9]))
 ·exact .vc (v5 (k:=U7 m D.O) trivial rfl (fun h=>h) rfl rfl (by simp [v6]))
 ·exact .vc (v5 (k:=U7 n D.F) trivial rfl (fun h=>h) rfl rfl (by simp [v6]))
 ·exact .vc (v5 (k:=a0V fr) trivial rfl (fun h=>h) rfl rfl (by simp [X5]))
abbrev bxD:Blk:={ mode:=.live,elem:=217,size:=1,rows:=[[.ptr 0 0 0]],box:=true }
abbrev bxI (i:Int):Blk:={ mode:=.live,elem:=3,size:=1,rows:=[[.t (ti i)]],box:=true }
theorem aq0 {m n:Nat} {fr:List (Nat × Bool)} {D:Fd} {X:Hp}:VY (I5 m n fr D.V D.G D.O D.F D.A (bxD::X)) (fun _=>True) (.ptr (m+6) 0 0) (a4D m n fr D):=by
 refine aq6 (k:=bxD) trivial ?_ (fun h=>h) rfl ⟨b50,trivial⟩
 show (((mF m n D.A).map flB)++bxD::X)[m]? =_
 rw [List.getElem?_append_right (by simp [d7])]
 simp [d7]
theorem b0R {m n t:Nat} {fr:List (Nat × Bool)} {D:Fd} {X:Hp} {i:Int} (h:X[t]? =some (bxI i)):VY (I5 m n fr D.V D.G D.O D.F D.A X) (fun _=>True) (.ptr (m+6+t) 0 0) (.ptr [ti i]):=by
 refine aq6 (k:=bxI i) trivial ?_ (fun h=>h) rfl ⟨b3E,trivial⟩
 show (I5 m n fr D.V D.G D.O D.F D.A X)[m+6+t]? =_
 rw [show m+6+t=m+t+6 by omega]
 show (((mF m n D.A).map flB)++X)[m+t]? =_
 rw [List.getElem?_append_right (by simp [d7])]
 simpa [d7] using h
theorem b8w {m n:Nat} {fr:List (Nat × Bool)} {D:Fd} {X:Hp}:VYS (I5 m n fr D.V D.G D.O D.F D.A X) (fun _=>True) (.c (.own 3 0 m true)) (a4A m D.O):=.vc (v5 (k:=U7 m D.O) trivial rfl (fun h=>h) rfl rfl (by simp [v6]))
theorem b9u {m n:Nat} {fr:List (Nat × Bool)} {D:Fd} {X:Hp}:VYS (I5 m n fr D.V D.G D.O D.F D.A X) (fun _=>True) (.c (.own 4 0 n true)) (a4A n D.F):=.vc (v5 (k:=U7 n D.F) trivial rfl (fun h=>h) rfl rfl (by simp [v6]))
theorem a7Y {m n:Nat} {fr:List (Nat × Bool)} {D:Fd} {r s:Nat} (X:Hp) (h:b9 Tryz.prog 262 [.c (.ptr 0 0 0),a9 .i64 r,a9 .i64 s] (W1 m n fr D) (.tup []) (W1 m n fr (D.exch r s))):
 b9 Tryz.prog 262 [.c (.ptr 0 0 0),a9 .i64 r,a9 .i64 s] (I5 m n fr D.V D.G D.O D.F D.A X) (.tup []) (I5 m n fr (D.exch r s).V (D.exch r s).G (D.exch r s).O (D.exch r s).F (D.exch r s).A X):=by
 have hl:∀{D:Fd},∀k ∈ W1 m n fr D,k.mode=.live∧k.app=false:=by
  intro D k hk
  simp only [List.mem_cons] at hk
  rcases hk with rfl|rfl|rfl|rfl|rfl|rfl|hk
  ·exact ⟨rfl,rfl⟩
  ·exact ⟨rfl,rfl⟩
  ·exact ⟨rfl,rfl⟩
  ·exact ⟨rfl,rfl⟩
  ·exact ⟨rfl,rfl⟩
  ·exact ⟨rfl,rfl⟩
  ·obtain ⟨l,_,rfl⟩:=List.mem_map.1 hk
   exact ⟨rfl,rfl⟩
 exact a76 (n:=m+6) X h a1H a1H (by simp [okS,okC,a9,Nat.blt_eq]) (fun k hk=>⟨(hl k hk).1,(hl k hk).2,a5g k hk⟩) (fun k hk=>⟨(by rw [(hl k hk).1];intro h;cases h),a5g k hk⟩) rfl rfl
def aG1:b2c→Int × Int
 |.best=>(-1,-1)
 |.row r=>(r,-1)
 |.col s=>(-1,s)
 |.next r s=>(r,s)
theorem b1P {N:Nat} (h:0<N):okB N bxD:=by
 intro r hr c hc
 simp at hr;subst hr
 simp at hc;subst hc
 exact h
set_option maxHeartbeats 4000000 in
theorem b0U (m n:Nat) (fr:List (Nat × Bool)) (D0:Fd) (g0:Nat→Rat) (hm:m≤100000) (hn:n≤1000) (h0:a6G m n D0 g0 D0) (hB:∀D,V5 m n D0 D→BdD m n 30000 D):
 b9 Tryz.prog 200 [.c (.ptr 0 0 0)] (W1 m n fr D0) (.tup [a9 .i64 (aG1 (B9 m n (a9v m n D0))).1,a9 .i64 (aG1 (B9 m n (a9v m n D0))).2]) (W1 m n fr (a9v m n D0)):=by
 (refine a8 a7 Tryz.func200 rfl (by decide) ?_;(conv=>whnf);repeat (refine zy ?_;conv=>whnf))
 repeat' first|(refine zd ?_ ?_<;>intro h<;>first|exact zc h|(exfalso;omega)|conv=>whnf)|((first|refine zz ?_|refine a32 (d7 _ _ _) ?_|refine a2D ?_|refine zy ?_);conv=>whnf)
 refine o6 a7 (σ:=Fd) (fun D=>([J,S.c (C.ptr (m+6) 0 0),J,J,J,J,J,J,J,J,J,J,J,J,J,J,J,J,J,J,J,J,J,J,J,J,J,J,J,J,J,J,J,J,J,J,J,J,J,J,J,J,J,J,J,J,J,J,J,J,J,J,J,J,J,J,J,J,J,J,J,J,J,J,J,J,J,J,J,J,J],I5 m n fr D.V D.G D.O D.F D.A [bxD])) (fun D=>V5 m n D0 D) (fun D=>a7b m n D) D0 (idR (m+7)) aJ3 ?_ ?_
 ·refine S0 (T':=[]) (a0e rfl rfl rfl rfl rfl rfl (by rw [List.append_nil,List.append_nil];rfl)) rfl (by simp [d7]) (by intro k hk;simp at hk;subst hk;exact b1P (by omega)) ⟨⟨o4 (by omega),rfl,rfl⟩,trivial⟩
 intro D hD
 have bd:=hB D hD
 have inv:a6G m n D0 g0 D:=by obtain ⟨k,hk⟩:=hD;exact a3P h0 hk
 have l1:=a3X m hm D.O (fun i=>decide (D.V i<0)) 258 [a4D m n fr D] (fun i hi=>aX3 m n fr D i hi)
 have l2:=a3X n (by omega) D.F (fun j=>decide (0<D.G j)) 259 [a4D m n fr D] (fun j hj=>aZ7 m n fr D j hj)
 have va1:∀X,a1n (I5 m n fr D.V D.G D.O D.F D.A (bxD::X)) (fun _=>True) [.c (.own 3 0 m true),.c (.fn (.func 258) [.ptr (m+6) 0 0])] [a4A m D.O,.c (.t (.fn (.func 258) [a4D m n fr D]))]:=
  fun X=>⟨b8w,aR0 (show _∧True from ⟨aq0,trivial⟩),trivial⟩
 have va2:∀X,a1n (I5 m n fr D.V D.G D.O D.F D.A (bxD::X)) (fun _=>True) [.c (.own 4 0 n true),.c (.fn (.func 259) [.ptr (m+6) 0 0])] [a4A n D.F,.c (.t (.fn (.func 259) [a4D m n fr D]))]:=
  fun X=>⟨b9u,aR0 (show _∧True from ⟨aq0,trivial⟩),trivial⟩
 have va3:∀X (r:Nat),a1n (I5 m n fr D.V D.G D.O D.F D.A (bxD::bxI r::X)) (fun _=>True) [.c (.own 4 0 n true),.c (.fn (.func 260) [.ptr (m+6) 0 0,.ptr (m+7) 0 0])] [a4A n D.F,.c (.t (.fn (.func 260) [a4D m n fr D,.ptr [ti r]]))]:=
  fun X r=>⟨b9u,aR0 (show _∧_∧True from ⟨aq0,b0R (t:=1) rfl,trivial⟩),trivial⟩
 have va4:∀X (x:Int) (s:Nat),a1n (I5 m n fr D.V D.G D.O D.F D.A (bxD::bxI x::bxI s::X)) (fun _=>True) [.c (.own 3 0 m true),.c (.fn (.func 261) [.ptr (m+6) 0 0,.ptr (m+8) 0 0])] [a4A m D.O,.c (.t (.fn (.func 261) [a4D m n fr D,.ptr [ti s]]))]:=
  fun X x s=>⟨b8w,aR0 (show _∧_∧True from ⟨aq0,b0R (t:=2) rfl,trivial⟩),trivial⟩
 have fin0:∀(X:Hp) (r c:Int),F0 m n D=none→(r,c)=aG1 (B9 m n D)→Fin (W1 m n fr D0).length (.tup [a9 .i64 r,a9 .i64 c]) (I5 m n fr D.V D.G D.O D.F D.A X) (.tup [a9 .i64 (aG1 (B9 m n (a9v m n D0))).1,a9 .i64 (aG1 (B9 m n (a9v m n D0))).2]) (W1 m n fr (a9v m n D0)):=by
  intro X r c hn ho
  have e:=b5C h0 hD hn
  rw [← e,←ho]
  have e0:W1 m n fr D=I5 m n fr D.V D.G D.O D.F D.A []:=by
   show _::_::_::_::_::_::_=_::_::_::_::_::_::(_++[])
   rw [List.append_nil]
  rw [e0]
  exact a8t (N:=m+6) rfl rfl (by simp [d7]) ⟨rfl,rfl,trivial⟩
 have go:∀(X:Hp) (env:Env) (r s:Nat),B9 m n D=.next r s→a06 (idR (m+7)) (I5 m n fr (D.exch r s).V (D.exch r s).G (D.exch r s).O (D.exch r s).F (D.exch r s).A (bxD::X)) env ([J,S.c (C.ptr (m+6) 0 0),J,J,J,J,J,J,J,J,J,J,J,J,J,J,J,J,J,J,J,J,J,J,J,J,J,J,J,J,J,J,J,J,J,J,J,J,J,J,J,J,J,J,J,J,J,J,J,J,J,J,J,J,J,J,J,J,J,J,J,J,J,J,J,J,J,J,J,J,J])→
  ∃ρ x',Ent (W1 m n fr D0).length ρ env (I5 m n fr (D.exch r s).V (D.exch r s).G (D.exch r s).O (D.exch r s).F (D.exch r s).A (bxD::X)) ([J,S.c (C.ptr (m+6) 0 0),J,J,J,J,J,J,J,J,J,J,J,J,J,J,J,J,J,J,J,J,J,J,J,J,J,J,J,J,J,J,J,J,J,J,J,J,J,J,J,J,J,J,J,J,J,J,J,J,J,J,J,J,J,J,J,J,J,J,J,J,J,J,J,J,J,J,J,J,J]) (I5 m n fr x'.V x'.G x'.O x'.F x'.A [bxD])∧V5 m n D0 x'∧a7b m n x'<a7b m n D:=by
  intro X env r s hs hE
  have hnx:F0 m n D=some (D.exch r s):=by unfold F0;rw [hs]
  exact ⟨idR (m+7),D.exch r s,S0 (T:=[bxD]) (T':=X) rfl rfl (by simp [d7]) (by intro k hk;simp at hk;subst hk;exact b1P (by omega)) hE,a9I hD hnx,aE5 (b4a inv.p inv.g) hnx⟩
 have exc:∀r s:Nat,B9 m n D=.next r s→b9 Tryz.prog 262 [.c (.ptr 0 0 0),a9 .i64 r,a9 .i64 s] (W1 m n fr D) (.tup []) (W1 m n fr (D.exch r s)):=fun r s hs=>by
  obtain ⟨q1,q2,q3⟩:=a6t hs
  exact aH7 m n fr D r s hm hn q1 q2 (a7S q3) bd (hB _ (a9I hD (by unfold F0;rw [hs])))
 cases hR:R7 D.O (fun i=>decide (D.V i<0)) m with
 |none=>
  rw [hR,show leI none=-1 from rfl] at l1
  cases hS:R7 D.F (fun j=>decide (0<D.G j)) n with
  |none=>
   rw [hS,show leI none=-1 from rfl] at l2
   have hst:B9 m n D=.best:=by unfold B9;rw [hR,hS]
   conv=>whnf
   repeat' first|(refine zd ?_ ?_<;>intro h<;>first|exact zc h|(exfalso;omega)|conv=>whnf)|((first|refine zz ?_|refine .inl ⟨_,_,n8 l1 (va1 _) rfl,?_⟩|refine .inl ⟨_,_,n8 l2 (va2 _) rfl,?_⟩|refine l9 (d7 _ _ _) ?_|refine k5 ?_|refine C9 (d7 _ _ _) ?_|refine i9 (t:=1) (d7 _ _ _) ?_|refine i9 (t:=2) (d7 _ _ _) ?_|refine j0 (t:=1) (d7 _ _ _) ?_|refine j0 (t:=2) (d7 _ _ _) ?_|refine zy ?_);conv=>whnf)
   all_goals first
    |(exfalso;omega)
    |exact fin0 _ _ _ (by unfold F0;rw [hst]) (by rw [hst];rfl)
  |some ss=>
   rw [hS,show leI (some ss)=ss from rfl] at l2
   have hss:=(F8 hS).1
   have l4:=a3X m hm D.O (fun i=>decide (0<D.A i ss)) 261 [a4D m n fr D,T.ptr [ti ss]] (fun i hi=>ah1 m n fr D i ss hi hss)
   cases hC:R7 D.O (fun i=>decide (0<D.A i ss)) m with
   |none=>
    rw [hC,show leI none=-1 from rfl] at l4
    have hst:B9 m n D=.col ss:=by unfold B9;rw [hR,hS];show a0j m D ss=_;unfold a0j;rw [hC]
    conv=>whnf
    repeat' first|(refine zd ?_ ?_<;>intro h<;>first|exact zc h|(exfalso;omega)|conv=>whnf)|((first|refine zz ?_|refine .inl ⟨_,_,n8 l1 (va1 _) rfl,?_⟩|refine .inl ⟨_,_,n8 l2 (va2 _) rfl,?_⟩|refine .inl ⟨_,_,n8 l4 (va4 _ _ ss) rfl,?_⟩|refine l9 (d7 _ _ _) ?_|refine k5 ?_|refine C9 (d7 _ _ _) ?_|refine i9 (t:=1) (d7 _ _ _) ?_|refine i9 (t:=2) (d7 _ _ _) ?_|refine j0 (t:=1) (d7 _ _ _) ?_|refine j0 (t:=2) (d7 _ _ _) ?_|refine zy ?_);conv=>whnf)
    all_goals first
     |(exfalso;omega)
     |exact fin0 _ _ _ (by unfold F0;rw [hst]) (by rw [hst];rfl)
   |some rq=>
    rw [hC,show leI (some rq)=rq from rfl] at l4
    have hst:B9 m n D=.next rq ss:=by unfold B9;rw [hR,hS];show a0j m D ss=_;unfold a0j;rw [hC]
    have exr:=exc _ _ hst
    conv=>whnf
    repeat' first|(refine zd ?_ ?_<;>intro h<;>first|exact zc h|(exfalso;omega)|conv=>whnf)|((first|refine zz ?_|refine .inl ⟨_,_,n8 l1 (va1 _) rfl,?_⟩|refine .inl ⟨_,_,n8 l2 (va2 _) rfl,?_⟩|refine .inl ⟨_,_,n8 l4 (va4 _ _ ss) rfl,?_⟩|refine .inr ⟨_,_,a7Y _ exr,?_⟩|refine l9 (d7 _ _ _) ?_|refine k5 ?_|refine C9 (d7 _ _ _) ?_|refine i9 (t:=1) (d7 _ _ _) ?_|refine i9 (t:=2) (d7 _ _ _) ?_|refine j0 (t:=1) (d7 _ _ _) ?_|refine j0 (t:=2) (d7 _ _ _) ?_|refine zy ?_);conv=>whnf)
    all_goals first
     |(exfalso;omega)
     |exact go _ _ _ _ hst ⟨⟨o4 (by omega),rfl,rfl⟩,trivial⟩
 |some rr=>
  rw [hR,show leI (some rr)=rr from rfl] at l1
  cases hS:R7 D.F (fun j=>decide (0<D.G j)) n with
  |none=>
   rw [hS,show leI none=-1 from rfl] at l2
   have hrr:=(F8 hR).1
   have l3:=a3X n (by omega) D.F (fun j=>decide (D.A rr j<0)) 260 [a4D m n fr D,T.ptr [ti rr]] (fun j hj=>ag0 m n fr D rr j hrr hj)
   cases hC:R7 D.F (fun j=>decide (D.A rr j<0)) n with
   |none=>
    rw [hC,show leI none=-1 from rfl] at l3
    have hst:B9 m n D=.row rr:=by unfold B9;rw [hR,hS];show a0g n D rr=_;unfold a0g;rw [hC]
    conv=>whnf
    repeat' first|(refine zd ?_ ?_<;>intro h<;>first|exact zc h|(exfalso;omega)|conv=>whnf)|((first|refine zz ?_|refine .inl ⟨_,_,n8 l1 (va1 _) rfl,?_⟩|refine .inl ⟨_,_,n8 l2 (va2 _) rfl,?_⟩|refine .inl ⟨_,_,n8 l3 (va3 _ rr) rfl,?_⟩|refine l9 (d7 _ _ _) ?_|refine k5 ?_|refine C9 (d7 _ _ _) ?_|refine i9 (t:=1) (d7 _ _ _) ?_|refine i9 (t:=2) (d7 _ _ _) ?_|refine j0 (t:=1) (d7 _ _ _) ?_|refine j0 (t:=2) (d7 _ _ _) ?_|refine zy ?_);conv=>whnf)
    all_goals first
     |(exfalso;omega)
     |exact fin0 _ _ _ (by unfold F0;rw [hst]) (by rw [hst];rfl)
   |some sq=>
    rw [hC,show leI (some sq)=sq from rfl] at l3
    have hst:B9 m n D=.next rr sq:=by unfold B9;rw [hR,hS];show a0g n D rr=_;unfold a0g;rw [hC]
    have exr:=exc _ _ hst
    conv=>whnf
    repeat' first|(refine zd ?_ ?_<;>intro h<;>first|exact zc h|(exfalso;omega)|conv=>whnf)|((first|refine zz ?_|refine .inl ⟨_,_,n8 l1 (va1 _) rfl,?_⟩|refine .inl ⟨_,_,n8 l2 (va2 _) rfl,?_⟩|refine .inl ⟨_,_,n8 l3 (va3 _ rr) rfl,?_⟩|refine .inr ⟨_,_,a7Y _ exr,?_⟩|refine l9 (d7 _ _ _) ?_|refine k5 ?_|refine C9 (d7 _ _ _) ?_|refine i9 (t:=1) (d7 _ _ _) ?_|refine i9 (t:=2) (d7 _ _ _) ?_|refine j0 (t:=1) (d7 _ _ _) ?_|refine j0 (t:=2) (d7 _ _ _) ?_|refine zy ?_);conv=>whnf)
    all_goals first
     |(exfalso;omega)
     |exact go _ _ _ _ hst ⟨⟨o4 (by omega),rfl,rfl⟩,trivial⟩
  |some ss=>
   rw [hS,show leI (some ss)=ss from rfl] at l2
   have hrr:=(F8 hR).1
   have hss:=(F8 hS).1
   by_cases hlt:D.O rr<D.F ss
   ·skip
    have l3:=a3X n (by omega) D.F (fun j=>decide (D.A rr j<0)) 260 [a4D m n fr D,T.ptr [ti rr]] (fun j hj=>ag0 m n fr D rr j hrr hj)
    cases hC:R7 D.F (fun j=>decide (D.A rr j<0)) n with
    |none=>
     rw [hC,show leI none=-1 from rfl] at l3
     have hst:B9 m n D=.row rr:=by unfold B9 a0g;rw [hR,hS];simp only [if_pos hlt];rw [hC]
     conv=>whnf
     repeat' first|(refine zd ?_ ?_<;>intro h<;>first|exact zc h|(exfalso;omega)|conv=>whnf)|((first|refine zz ?_|refine .inl ⟨_,_,n8 l1 (va1 _) rfl,?_⟩|refine .inl ⟨_,_,n8 l2 (va2 _) rfl,?_⟩|refine .inl ⟨_,_,n8 l3 (va3 _ rr) rfl,?_⟩|refine l9 (d7 _ _ _) ?_|refine k5 ?_|refine C9 (d7 _ _ _) ?_|refine i9 (t:=1) (d7 _ _ _) ?_|refine i9 (t:=2) (d7 _ _ _) ?_|refine j0 (t:=1) (d7 _ _ _) ?_|refine j0 (t:=2) (d7 _ _ _) ?_|refine a0d (r:=rr) (by omega) hrr ?_|refine a0d (r:=ss) (by omega) hss ?_|refine zy ?_);conv=>whnf)
     all_goals first
      |(exfalso;omega)
      |exact fin0 _ _ _ (by unfold F0;rw [hst]) (by rw [hst];rfl)
    |some sq=>
     rw [hC,show leI (some sq)=sq from rfl] at l3
     have hst:B9 m n D=.next rr sq:=by unfold B9 a0g;rw [hR,hS];simp only [if_pos hlt];rw [hC]
     have exr:=exc _ _ hst
     conv=>whnf
     repeat' first|(refine zd ?_ ?_<;>intro h<;>first|exact zc h|(exfalso;omega)|conv=>whnf)|((first|refine zz ?_|refine .inl ⟨_,_,n8 l1 (va1 _) rfl,?_⟩|refine .inl ⟨_,_,n8 l2 (va2 _) rfl,?_⟩|refine .inl ⟨_,_,n8 l3 (va3 _ rr) rfl,?_⟩|refine .inr ⟨_,_,a7Y _ exr,?_⟩|refine l9 (d7 _ _ _) ?_|refine k5 ?_|refine C9 (d7 _ _ _) ?_|refine i9 (t:=1) (d7 _ _ _) ?_|refine i9 (t:=2) (d7 _ _ _) ?_|refine j0 (t:=1) (d7 _ _ _) ?_|refine j0 (t:=2) (d7 _ _ _) ?_|refine a0d (r:=rr) (by omega) hrr ?_|refine a0d (r:=ss) (by omega) hss ?_|refine zy ?_);conv=>whnf)
     all_goals first
      |(exfalso;omega)
      |exact go _ _ _ _ hst ⟨⟨o4 (by omega),rfl,rfl⟩,trivial⟩
   ·skip
    have l4:=a3X m hm D.O (fun i=>decide (0<D.A i ss)) 261 [a4D m n fr D,T.ptr [ti ss]] (fun i hi=>ah1 m n fr D i ss hi hss)
    cases hC:R7 D.O (fun i=>decide (0<D.A i ss)) m with
    |none=>
     rw [hC,show leI none=-1 from rfl] at l4
     have hst:B9 m n D=.col ss:=by unfold B9 a0j;rw [hR,hS];simp only [if_neg hlt];rw [hC]
     conv=>whnf
     repeat' first|(refine zd ?_ ?_<;>intro h<;>first|exact zc h|(exfalso;omega)|conv=>whnf)|((first|refine zz ?_|refine .inl ⟨_,_,n8 l1 (va1 _) rfl,?_⟩|refine .inl ⟨_,_,n8 l2 (va2 _) rfl,?_⟩|refine .inl ⟨_,_,n8 l4 (va4 _ _ ss) rfl,?_⟩|refine l9 (d7 _ _ _) ?_|refine k5 ?_|refine C9 (d7 _ _ _) ?_|refine i9 (t:=1) (d7 _ _ _) ?_|refine i9 (t:=2) (d7 _ _ _) ?_|refine j0 (t:=1) (d7 _ _ _) ?_|refine j0 (t:=2) (d7 _ _ _) ?_|refine a0d (r:=rr) (by omega) hrr ?_|refine a0d (r:=ss) (by omega) hss ?_|refine zy ?_);conv=>whnf)
     all_goals first
      |(exfalso;omega)
      |exact fin0 _ _ _ (by unfold F0;rw [hst]) (by rw [hst];rfl)
    |some rq=>
     rw [hC,show leI (some rq)=rq from rfl] at l4
     have hst:B9 m n D=.next rq ss:=by unfold B9 a0j;rw [hR,hS];simp only [if_neg hlt];rw [hC]
     have exr:=exc _ _ hst
     conv=>whnf
     repeat' first|(refine zd ?_ ?_<;>intro h<;>first|exact zc h|(exfalso;omega)|conv=>whnf)|((first|refine zz ?_|refine .inl ⟨_,_,n8 l1 (va1 _) rfl,?_⟩|refine .inl ⟨_,_,n8 l2 (va2 _) rfl,?_⟩|refine .inl ⟨_,_,n8 l4 (va4 _ _ ss) rfl,?_⟩|refine .inr ⟨_,_,a7Y _ exr,?_⟩|refine l9 (d7 _ _ _) ?_|refine k5 ?_|refine C9 (d7 _ _ _) ?_|refine i9 (t:=1) (d7 _ _ _) ?_|refine i9 (t:=2) (d7 _ _ _) ?_|refine j0 (t:=1) (d7 _ _ _) ?_|refine j0 (t:=2) (d7 _ _ _) ?_|refine a0d (r:=rr) (by omega) hrr ?_|refine a0d (r:=ss) (by omega) hss ?_|refine zy ?_);conv=>whnf)
     all_goals first
      |(exfalso;omega)
      |exact go _ _ _ _ hst ⟨⟨o4 (by omega),rfl,rfl⟩,trivial⟩
end
section
open Go.RowKit
theorem a6W {P:Program} {g:FuncId} {args:List S} {H:Hp} {b:Blk} {n:Nat} {app:Bool} (h:b9 P g args [] (.c (.own 0 0 n app)) [b]) (ha:args.all S.isT=true) (hm:b.mode=.live) (hb:G8 b.rows):
 U4 P g args H (.c (.own H.length 0 n app)) [b]:=by
 refine ⟨h.1,fun w ι M vals hl hv hH hM hf=>?_⟩
 have:=h.2 w (fun _=>none) M vals hl (fun j s hj=>(hv j s hj).tree (List.all_eq_true.1 ha s (lg2 hj)))
  ⟨by simp,by simp,by simp,by simp,by simp⟩ hM (fun _ _=>rfl)
 refine Calls.mono this ?_
 rintro e w' ⟨v,rfl,ι',M',h1,h2,h3,h4,h5⟩
 have hnl:∀x,¬a2w (fun _=>none) ([]:Hp) x:=by rintro x ⟨id,k,_,_,hk,_⟩;simp at hk
 obtain ⟨l,hl0⟩:∃l,ι' 0=some l:=by
  cases h1 with
  |c h1=>cases h1 with
   |own hi=>exact ⟨_,hi⟩
   |nil hi=>exact ⟨_,hi⟩
 have hnew:x8 ι H.length [b].length (fun _=>l) H.length=some l:=by unfold x8;simp
 have hMM:∀x,a3m M [b].length (fun _=>l) x→M' x:=by
  intro x hx
  rcases hx with hx|⟨k,hk,cap,size,he⟩
  ·rcases h5.mold x hx with h|h
   ·exact h
   ·exact absurd h (hnl x)
  ·have he:l=.blk x cap size:=he
   subst he
   exact h2.liv 0 b rfl hm x cap size hl0
 refine ⟨v,rfl,fun _=>l,?_,⟨h5.os,h5.tape,h5.output,h5.size,fun x hx=>h5.keep x hx (hnl x)⟩,?_,?_,?_⟩
 ·cases h1 with
  |c h1=>cases h1 with
   |own hi q1 q2 q3 q4 q5=>
    rw [hl0] at hi;injection hi with hi
    subst hi
    exact .c (.own hnew q1 q2 q3 q4 q5)
   |nil hi=>
    rw [hl0] at hi;injection hi with hi
    subst hi
    exact .c (.nil hnew)
 ·intro k blk hk
  cases k with
  |succ k=>simp at hk
  |zero=>
   simp at hk
   subst hk
   refine ⟨hm,?_⟩
   have hbr:=h2.blk 0 b rfl (by rw [hm];intro h;cases h) l hl0
   cases l with
   |nil=>exact hbr
   |blk x cap size=>
    obtain ⟨r1,r2,r3,r4,r5,cur,r6,r7,r8⟩:=hbr
    refine ⟨r1,r2,r3,r4,r5,cur,r6,r7,fun i j c hc=>?_⟩
    obtain ⟨u,u1,u2⟩:=r8 i j c hc
    exact ⟨u,u1,a93 hMM hb hc u2⟩
 ·intro k x cap size hk he
  have he:l=.blk x cap size:=he
  subst he
  refine ⟨?_,h3 x (h2.liv 0 b rfl hm x cap size hl0)⟩
  rcases h5.live x ⟨0,b,cap,size,rfl,hm,hl0⟩ with h|h
  ·exact absurd h (hnl x)
  ·exact h
 ·intro k k' x cap size cap' size' hk hk' _ _
  simp at hk hk'
  omega
theorem aY2 (H:Hp) (n:Nat) (hn:n≤1000):U4 Tryz.prog 254 [a9 .i64 n] H (.c (.own H.length 0 n true)) [flB (rF n fun _=>0)]:=
 a6W (b2s n hn) rfl rfl (i7 _)
def a3y (l:List (Int × Rat)):Nat→Nat→Rat
 |0=>y6 l
 |k+1=>match l[k]? with
  |none=>a3y l k
  |some t=>fun j=>if j=t.1.toNat then -t.2 else a3y l k j
theorem ab2 {l:List (Int × Rat)} {k:Nat} {t:Int × Rat} (h:l[k]? =some t):a3y l (k+1)=fun j=>if j=t.1.toNat then -t.2 else a3y l k j:=by rw [a3y,h]
theorem aS7 (l:List (Int × Rat)) (j:Nat):∀k,k≤l.length→a3y l k j=-(M7 l k j)∨(M7 l k j=0∧a3y l k j=y6 l j)
 |0,_=>.inr ⟨rfl,rfl⟩
 |k+1,hk=>by
  obtain ⟨t,ht⟩:∃t,l[k]? =some t:=⟨_,lg0 (by omega)⟩
  rw [ab2 ht,T9 ht]
  simp only
  by_cases hj:j=t.1.toNat
  ·rw [if_pos hj,if_pos hj];exact .inl rfl
  ·rw [if_neg hj,if_neg hj];exact aS7 l j k (by omega)
theorem b1R (l:List (Int × Rat)):a3y l l.length=fun j=>-(y6 l j):=by
 funext j
 rcases aS7 l j l.length (Nat.le_refl _) with h|⟨h1,h2⟩
 ·exact h
 ·rw [h2]
  have:y6 l j=0:=h1
  rw [this];decide
def sgF (b:Bool) (l:List (Int × Rat)):Nat→Rat:=fun j=>O5 b (y6 l j)
end
section
open Go.RowKit
theorem Z3 {H:Hp} {N n:Nat} (hN:H.length=N) (hn:n≤1000):U4 Tryz.prog 254 [a9 .i64 n] H (.c (.own N 0 n true)) [flB (rF n fun _=>0)]:=by subst hN;exact aY2 H n hn
abbrev pB (n k l i f:Nat):Blk:={ mode:=.live,elem:=256,size:=6,rows:=[[C.t (ti n),.own l 0 k true,.own 2 0 n true,.own i 0 k true,.t (.sl 0 .nil []),.own f 0 k true]],box:=true }
abbrev a90 (t:TypeId) (s:Nat):Blk:=⟨.dead,t,s,[],false,false⟩
abbrev a4I (n k:Nat) (V G:Nat→Rat) (O:Nat→Nat) (fr:List (Nat × Bool)) (A:Nat→Nat→Rat) (X:Hp):Hp:=
 pB n k 1 3 4::a05 5 k n V::flB (rF n G)::U7 k O::a0V fr::((mF k n A).map flB++X)
abbrev lnX (k n:Nat) (v:Rat):Blk:={ mode:=.live,elem:=259,size:=5,rows:=[frC (fz v)++[C.own (k+6) 0 n true]],box:=true }
abbrev b00 (n k:Nat) (v:Rat) (a V G:Nat→Rat) (O:Nat→Nat) (fr:List (Nat × Bool)) (f:Nat × Bool) (A:Nat→Nat→Rat) (bx:Blk):Hp:=
 pB n (k+1) (k+8) (k+7) (k+9)::a90 259 5::flB (rF n G)::a90 3 1::a90 284 2::((mF k n A).map flB++
  [bx,flB (rF n a),U7 (k+1) O,{ mode:=.live,elem:=259,size:=5,rows:=P2 5 k n V++[frC (fz v)++[C.own (k+6) 0 n true]],box:=false },a0V (fr++[f])])
theorem ai3 {k n N:Nat} {v:Rat} (h:k+6<N):okB N (lnX k n v):=by
 intro r hr c hc
 simp at hr;subst hr
 simp [frC] at hc
 rcases hc with rfl|rfl|rfl|rfl|rfl<;>first|trivial|exact h
theorem b7Z {n k N l i f:Nat} (h1:l<N) (h2:i<N) (h3:f<N) (h4:2<N):okB N (pB n k l i f):=by
 intro r hr c hc
 simp at hr;subst hr
 simp at hc
 rcases hc with rfl|rfl|rfl|rfl|rfl|rfl<;>first|trivial|assumption
theorem at3 {n k:Nat} {V G:Nat→Rat} {O:Nat→Nat} {fr:List (Nat × Bool)} {A:Nat→Nat→Rat} {X:Hp}:(a4I n k V G O fr A X).length=k+5+X.length:=by simp [d7];omega
theorem b3j {n k N:Nat} {V G:Nat→Rat} {O:Nat→Nat} {fr:List (Nat × Bool)} {A:Nat→Nat→Rat} {X:Hp} (h:k+5≤N) (hX:∀b ∈ X,okB N b):∀b ∈ a4I n k V G O fr A X,okB N b:=by
 intro b hb
 simp only [List.mem_cons,List.mem_append] at hb
 rcases hb with rfl|rfl|rfl|rfl|rfl|hb|hb
 ·exact b7Z (by omega) (by omega) (by omega) (by omega)
 ·exact a8k h
 ·exact F3 rfl
 ·exact F3 rfl
 ·exact F3 rfl
 ·obtain ⟨l,_,rfl⟩:=List.mem_map.1 hb
  exact F3 rfl
 ·exact hX b hb
theorem b2k {n k:Nat} {V G:Nat→Rat} {O:Nat→Nat} {fr:List (Nat × Bool)} {A:Nat→Nat→Rat} {X X':Hp}:a4I n k V G O fr A (X++X')=a4I n k V G O fr A X++X':=by
 show _::_::_::_::_::(_++(X++X'))=_::_::_::_::_::((_++X)++X')
 rw [List.append_assoc]
theorem V8 {n0 N n k:Nat} {V G:Nat→Rat} {O:Nat→Nat} {fr:List (Nat × Bool)} {A:Nat→Nat→Rat} {X X' H:Hp} {env env':Env} (hH:H=a4I n k V G O fr A (X++X')) (hN:k+5+X.length=N) (h0:n0≤N) (hX:∀b ∈ X,okB N b)
 (hE:a06 (idR N) H env env'):Ent n0 (idR N) env H env' (a4I n k V G O fr A X):=by
 refine a6g (by rw [at3];exact hN) h0 (b3j (by omega) hX) (fun i hi=>?_) hE
 rw [hH,b2k,List.getElem?_append_left (by rw [at3];omega)]
theorem a0M {b0 b1 b2 b3 b4 c0 c1 c2 c3 c4:Blk} {L L':Hp} (h0:b0=c0) (h1:b1=c1) (h2:b2=c2) (h3:b3=c3) (h4:b4=c4) (h6:L=L'):b0::b1::b2::b3::b4::L=c0::c1::c2::c3::c4::L':=by
 subst h0 h1 h2 h3 h4 h6;rfl
def fR (N:Nat) (f:Nat→Nat):List (Option Nat):=(List.range N).map fun i=>some (f i)
theorem x7 {N i:Nat} {f:Nat→Nat} (h:i<N):(fR N f)[i]? =some (some (f i)):=by simp [fR,h]
theorem b5o (N:Nat) (f:Nat→Nat):(fR N f).length=N:=by simp [fR]
theorem b2e {N i j:Nat} {f:Nat→Nat} (h:(fR N f)[i]? =some (some j)):i<N∧f i=j:=by
 obtain ⟨h1,h2⟩:=lg1 h
 simp [fR] at h1 h2
 exact ⟨h1,h2⟩
theorem a8T {ρ:List (Option Nat)}:∀{m:Nat},(∀ i:Nat,i<m→ρ[i]? =some (some i))→a0A ρ m=true
 |0,_=>rfl
 |m+1,h=>by
  unfold a0A
  rw [h m (by omega),a8T fun i hi=>h i (by omega)]
  simp
theorem aS4 {N:Nat} {f:Nat→Nat} {H H':Hp} (hn:H'.length=N) (hB:∀(i:Nat) (k':Blk),H'[i]? =some k'→∃k:Blk,H[f i]? =some k∧a3w (fR N f) H k k'):a2L (fR N f) H (fR N f) H':=
 a48 (by rw [b5o,hn]) fun i k' hk=>by
  have hi:i<N:=by rw [← hn];exact (lg1 hk).1
  obtain ⟨k,h1,h2⟩:=hB i k' hk
  exact ⟨f i,k,x7 hi,h1,h2⟩
theorem ay3 {N:Nat} {f:Nat→Nat} {H:Hp} (hinj:∀i j,i<N→j<N→f i=f j→i=j):P4 (fR N f) H=true:=X7 fun i j n h1 h2=>by
 obtain ⟨a1,a2⟩:=b2e h1
 obtain ⟨b1,b2⟩:=b2e h2
 exact hinj i j a1 b1 (by omega)
theorem aG7 {n0 N:Nat} {f:Nat→Nat} {env env':Env} {H H':Hp} (hn:H'.length=N) (h0:n0≤N) (hk:∀i,i<n0→f i=i) (hinj:∀i j,i<N→j<N→f i=f j→i=j)
 (hB:∀(i:Nat) (k':Blk),H'[i]? =some k'→∃k:Blk,H[f i]? =some k∧a3w (fR N f) H k k') (hE:a06 (fR N f) H env env'):Ent n0 (fR N f) env H env' H':=
 ⟨a8T fun i hi=>by rw [x7 (by omega),hk i hi],ay3 hinj,aS4 hn hB,hE⟩
theorem b5E {n0 N:Nat} {f:Nat→Nat} {r s:S} {H H':Hp} (hn:H'.length=N) (h0:n0≤N) (hk:∀i,i<n0→f i=i) (hinj:∀i j,i<N→j<N→f i=f j→i=j)
 (hB:∀(i:Nat) (k':Blk),H'[i]? =some k'→∃k:Blk,H[f i]? =some k∧a3w (fR N f) H k k') (hE:a7n (fR N f) H r s):Fin n0 r H s H':=
 ⟨fR N f,a8T fun i hi=>by rw [x7 (by omega),hk i hi],ay3 hinj,aS4 hn hB,hE⟩
theorem b36 (k:Blk):a1w k k=true:=by unfold a1w;cases k.mode<;>simp
theorem j7 {ρ:List (Option Nat)} {H:Hp} {k:Blk} (h:G8 k.rows):a3w ρ H k k:=⟨b36 k,rfl,rfl,.inl ⟨rfl,h⟩⟩
theorem aO9 {ρ:List (Option Nat)} {H:Hp} {l l':List C} (h:a2z ρ H l l'):∀ts:List T,a2z ρ H (ts.map C.t++l) (ts.map C.t++l')
 |[]=>h
 |t::r=>⟨X6 t,aO9 h r⟩
theorem a0H {ρ:List (Option Nat)} {H:Hp} {m n:Nat} {V:Nat→Rat} {h h':Nat→Nat} (hh:∀i,i<m→ρ[h' i]? =some (some (h i))):
 a3w ρ H { mode:=.live,elem:=259,size:=5,rows:=(List.range m).map fun i=>frC (fz (V i))++[C.own (h i) 0 n true],box:=false } { mode:=.live,elem:=259,size:=5,rows:=(List.range m).map fun i=>frC (fz (V i))++[C.own (h' i) 0 n true],box:=false }:=by
 refine ⟨rfl,rfl,rfl,.inr (a8X (by simp) fun i x y hx hy=>?_)⟩
 have hi:i<m:=by have:=(lg1 hx).1;simpa using this
 simp [hi] at hx hy
 subst hx hy
 exact aO9 (ts:=m6 (fz (V i))) (l:=[C.own (h i) 0 n true]) (l':=[C.own (h' i) 0 n true]) ⟨⟨hh i hi,rfl,rfl,fun h=>h⟩,trivial⟩
theorem aQ4 {a b:Nat} {K:Prop} (h:a≤b) (k:K):a≤b∧K:=⟨h,k⟩
theorem a3p {N:Nat} {b:Blk} (h:G8 b.rows):okB N b:=by
 intro r hr c hc
 have:=h r hr c hc
 cases c<;>first|trivial|cases this
def aA6 (k n:Nat) (v:Rat) (V:Nat→Rat):Nat→Rat:=fun i=>if i=k then v else V i
def hnd (k:Nat):Nat→Nat:=fun i=>if i=k then k+6 else i+5
theorem a8V {k n:Nat} {v:Rat} {V:Nat→Rat}:P2 5 k n V++[frC (fz v)++[C.own (k+6) 0 n true]]=(List.range (k+1)).map fun i=>frC (fz (aA6 k n v V i))++[C.own (hnd k i) 0 n true]:=by
 rw [List.range_succ,List.map_append]
 congr 1
 ·refine List.map_congr_left fun i hi=>?_
  have:=List.mem_range.1 hi
  unfold aA6 hnd
  rw [if_neg (by omega),if_neg (by omega)]
 ·unfold aA6 hnd;simp
abbrev b9n (n k:Nat) (v:Rat) (a V G:Nat→Rat) (O:Nat→Nat) (fr:List (Nat × Bool)) (f:Nat × Bool) (A:Nat→Nat→Rat) (bx lx lit:Blk):Hp:=
 pB n (k+1) (k+10) (k+8) (k+11)::a90 259 5::flB (rF n G)::a90 3 1::a90 284 2::((mF k n A).map flB++
  [bx,flB (rF n a),lx,U7 (k+1) O,lit,{ mode:=.live,elem:=259,size:=5,rows:=P2 5 k n V++[frC (fz v)++[C.own (k+6) 0 n true]],box:=false },a0V (fr++[f])])
def a9B (k:Nat):Nat→Nat:=fun i=>if i<k+7 then i else if i=k+7 then k+8 else if i=k+8 then k+10 else k+11
theorem a0Z {α β:Type} {f:β→α} {M:List β} {X:List α} {N t:Nat} (h:M.length=N):(M.map f++X)[N+t]? =X[t]?:=by
 rw [List.getElem?_append_right (by simp [h])];simp [h]
theorem b4q {n0 n:Nat} {r s:S} {H H':Hp} (e:n0=n) (h:Fin n r H s H'):Fin n0 r H s H':=by subst e;exact h
theorem aQ2 {n k:Nat} {v:Rat} {a V G:Nat→Rat} {O:Nat→Nat} {fr:List (Nat × Bool)} {f:Nat × Bool} {A:Nat→Nat→Rat} {bx lx lit:Blk} {H:Hp} (hbx:G8 bx.rows) (hH:H=b9n n k v a V G O fr f A bx lx lit):
 Fin (k+6) (.tup []) H (.tup []) (b00 n k v a V G O fr f A bx):=by
 subst hH
 refine b5E (N:=k+10) (f:=a9B k) (by simp [d7]) (by omega) (fun i hi=>by unfold a9B;rw [if_pos (by omega)]) (fun i j hi hj h=>by unfold a9B at h;(repeat' split at h)<;>omega) ?_ trivial
 have r7:a9B k (k+7)=k+8:=by unfold a9B;rw [if_neg (by omega),if_pos rfl]
 have r8:a9B k (k+8)=k+10:=by unfold a9B;rw [if_neg (by omega),if_neg (by omega),if_pos rfl]
 have r9:a9B k (k+9)=k+11:=by unfold a9B;rw [if_neg (by omega),if_neg (by omega),if_neg (by omega)]
 have rl:∀i,i<k+7→a9B k i=i:=fun i hi=>by unfold a9B;rw [if_pos hi]
 intro i k' hk
 rcases i with _|_|_|_|_|i
 ·injection hk with hk;subst hk
  rw [rl 0 (by omega)]
  exact ⟨_,rfl,rfl,rfl,rfl,.inr ⟨⟨rfl,⟨by rw [x7 (by omega),r8],rfl,rfl,fun h=>h⟩,⟨by rw [x7 (by omega),rl 2 (by omega)],rfl,rfl,fun h=>h⟩,⟨by rw [x7 (by omega),r7],rfl,rfl,fun h=>h⟩,rfl,⟨by rw [x7 (by omega),r9],rfl,rfl,fun h=>h⟩,trivial⟩,trivial⟩⟩
 ·injection hk with hk;subst hk;rw [rl 1 (by omega)];exact ⟨_,rfl,j7 (by simp [G8])⟩
 ·injection hk with hk;subst hk;rw [rl 2 (by omega)];exact ⟨_,rfl,j7 (i7 _)⟩
 ·injection hk with hk;subst hk;rw [rl 3 (by omega)];exact ⟨_,rfl,j7 (by simp [G8])⟩
 ·injection hk with hk;subst hk;rw [rl 4 (by omega)];exact ⟨_,rfl,j7 (by simp [G8])⟩
 ·have hk:((mF k n A).map flB++[bx,flB (rF n a),U7 (k+1) O,{ mode:=.live,elem:=259,size:=5,rows:=P2 5 k n V++[frC (fz v)++[C.own (k+6) 0 n true]],box:=false },a0V (fr++[f])])[i]? =some k':=hk
  by_cases hi:i<k
  ·rw [I9 (N9 hi)] at hk
   injection hk with hk;subst hk
   rw [rl (i+5) (by omega)]
   exact ⟨_,I9 (N9 hi),j7 (i7 _)⟩
  ·obtain ⟨t,rfl⟩:∃t,i=k+t:=⟨i - k,by omega⟩
   rw [a0Z (d7 _ _ _)] at hk
   have lk:∀j,(b9n n k v a V G O fr f A bx lx lit)[k+j+5]? =([bx,flB (rF n a),lx,U7 (k+1) O,lit,{ mode:=.live,elem:=259,size:=5,rows:=P2 5 k n V++[frC (fz v)++[C.own (k+6) 0 n true]],box:=false },a0V (fr++[f])]:Hp)[j]?:=fun j=>a0Z (d7 _ _ _)
   rcases t with _|_|_|_|_|t
   ·injection hk with hk;subst hk
    rw [rl (k+0+5) (by omega)]
    exact ⟨_,lk 0,j7 hbx⟩
   ·injection hk with hk;subst hk
    rw [rl (k+1+5) (by omega)]
    exact ⟨_,lk 1,j7 (i7 _)⟩
   ·injection hk with hk;subst hk
    rw [show k+2+5=k+7 by omega,r7]
    exact ⟨_,lk 3,j7 (i7 _)⟩
   ·injection hk with hk;subst hk
    rw [show k+3+5=k+8 by omega,r8]
    refine ⟨_,lk 5,?_⟩
    rw [a8V]
    refine a0H fun j hj=>?_
    have:hnd k j<k+7:=by unfold hnd;split<;>omega
    rw [x7 (by omega),rl _ this]
   ·injection hk with hk;subst hk
    rw [show k+4+5=k+9 by omega,r9]
    exact ⟨_,lk 6,j7 (i7 _)⟩
   ·simp at hk
theorem l7 {a0 a1 a2 a3 a4 a5 a6 b0 b1 b2 b3 b4 b5 b6:Blk} (h0:a0=b0) (h1:a1=b1) (h2:a2=b2) (h3:a3=b3) (h4:a4=b4) (h5:a5=b5) (h6:a6=b6):([a0,a1,a2,a3,a4,a5,a6]:Hp)=[b0,b1,b2,b3,b4,b5,b6]:=by
 subst h0 h1 h2 h3 h4 h5 h6;rfl
theorem a6H {k:Nat} {O:Nat→Nat} {x:Int} (h:x=O k):(toC (a0b k O)).take k++toC [[ti x]]=toC (a0b (k+1) O):=by
 rw [lg4 (by simp [toC,v6])]
 unfold a0b
 rw [List.range_succ,List.map_append,h]
 simp [toC]
theorem a88 {fr:List (Nat × Bool)} {k:Nat} (h:fr.length=k) (f:Nat × Bool):(toC (X5 fr)).take k++toC [[ti f.1,tb f.2]]=toC (X5 (fr++[f])):=by
 rw [lg4 (by simp [toC,X5,h])]
 unfold X5
 simp [toC]
set_option maxHeartbeats 4000000 in
theorem b9o (n k row:Nat) (w:B2) (b:Bool) (V G:Nat→Rat) (fr:List (Nat × Bool)) (hfr:fr.length=k) (A:Nat→Nat→Rat) (bx:Blk) (hbx:G8 bx.rows) (hn:n≤1000) (hk:k≤10000) (hrow:row≤100000)
 (hr:j1 (-1) n w.terms=true) (hl:w.terms.length≤1000) (hb:∀t ∈ w.terms,rl t.2≤60000) (hv:rl w.value≤60000):
 b9 Tryz.prog 255 [.c (.ptr 0 0 0),a9 .i64 row,az8 w,f7 b] (a4I n k V G (fun i=>n+i) fr A [bx]) (.tup []) (b00 n k (O5 b w.value) (sgF b w.terms) V G (fun i=>n+i) fr (row,b) A bx):=by
 have m1:(w.terms.map o7).length=w.terms.length:=by simp
 (refine a8 a7 Tryz.func255 rfl (by decide) ?_;(conv=>whnf);repeat ((first|refine b0x ?_|refine zy ?_);conv=>whnf))
 repeat' first|(refine zd ?_ ?_<;>intro h<;>first|exact zc h|(exfalso;omega)|conv=>whnf)|((first|refine zz ?_|refine qp d7 ?_|refine b0x ?_|refine .inl ⟨_,_,Z3 (N:=k+6) (by simp [d7]) hn,?_⟩|refine l9 (d7 _ _ _) ?_|refine k5 ?_|refine i9 (t:=1) (d7 _ _ _) ?_|refine i9 (t:=2) (d7 _ _ _) ?_|refine i9 (t:=3) (d7 _ _ _) ?_|refine j0 (t:=1) (d7 _ _ _) ?_|refine j0 (t:=2) (d7 _ _ _) ?_|refine j0 (t:=3) (d7 _ _ _) ?_|refine zy ?_);conv=>whnf)
 refine f8 a7 (fun q=>([S.c (C.ptr 0 0 0),a9 .i64 row,J,f7 b,J,J,S.c (C.t (T.ptr (y4 w))),J,S.c (C.ptr (k+7) 0 0),J,J,J,J,J,J,J,J,J,J,J,J,J,m7 w.terms,a9 .i64 w.terms.length,a9 .i64 q,J,J,J,J,J,J,J,J,J,J,J,J,J,J,J,J,J,J,J,J,J,J,J,J,J,J,J,J,J,J,J,J,J,J,J,J,J,J,J,J,J,J,J,J,J,J,J,J,J,J,J,J,J,J,J,J,J,J,J,J,J,J,J,J,J,J,J,J,J,J,J,J,J],a4I n k V G (fun i=>n+i) fr A [bx,flB (rF n (M7 w.terms q)),lnX k n w.value])) w.terms.length (fun _=>True) (idR (k+8)) trivial ?_ ?_
 ·refine V8 (X':=[]) (a0M rfl rfl rfl rfl rfl ?_) rfl (by simp [d7]) ?_ ?_
  ·rfl
  ·intro b hb;simp at hb;rcases hb with rfl|rfl|rfl
   ·exact a3p hbx
   ·exact F3 rfl
   ·exact ai3 (by omega)
  ·exact ⟨⟨o4 (by omega),rfl,rfl⟩,rfl,rfl,j3 rfl,⟨o4 (by omega),rfl,rfl⟩,j3 rfl,e7 (by omega),e7 rfl,trivial⟩
 intro q hq _
 by_cases hlt:q<w.terms.length
 ·obtain ⟨t,ht⟩:∃t,w.terms[q]? =some t:=⟨_,lg0 hlt⟩
  obtain ⟨t0,t1,t2⟩:=M4 hr t (lg2 ht)
  have gp:(rF n (M7 w.terms q))[0+t.1.toNat]? =some (fz (M7 w.terms q t.1.toNat)):=by rw [Nat.zero_add,I4 (by omega)]
  have eV:0+t.1.toNat=t.1.toNat:=by omega
  have e:z9 (flB (rF n (M7 w.terms q))) ((flB (rF n (M7 w.terms q))).rows.set (0+t.1.toNat) (frC (fz t.2)))=flB (rF n (M7 w.terms (q+1))):=by
   have e1:=M8 (row:=rF n (M7 w.terms q)) (y:=fz t.2) eV
   rw [W4 (by omega),←T9 ht] at e1
   exact e1
  conv=>whnf
  repeat' first|(refine zd ?_ ?_<;>intro h<;>first|exact zc h|(exfalso;omega)|conv=>whnf)|((first|refine zz ?_|refine d9 ht ?_|refine o8 gp ?_|refine l9 (d7 _ _ _) ?_|refine k5 ?_|refine i9 (t:=1) (d7 _ _ _) ?_|refine i9 (t:=2) (d7 _ _ _) ?_|refine i9 (t:=3) (d7 _ _ _) ?_|refine j0 (t:=1) (d7 _ _ _) ?_|refine j0 (t:=2) (d7 _ _ _) ?_|refine j0 (t:=3) (d7 _ _ _) ?_|refine zy ?_);conv=>whnf)
  all_goals first
   |(exfalso;omega)
   |(refine ⟨hlt,trivial,idR (k+8),V8 (X:=[bx,flB (rF n (M7 w.terms (q+1))),lnX k n w.value]) (a0M rfl rfl rfl rfl rfl (congrArg (fun z=>(mF k n A).map flB++(bx::z::lnX k n w.value::[_])) e)) rfl (by simp [d7]) ?_ ⟨⟨o4 (by omega),rfl,rfl⟩,rfl,rfl,rfl,⟨o4 (by omega),rfl,rfl⟩,rfl,rfl,e7 (by omega),trivial⟩⟩
     intro b hb;simp at hb;rcases hb with rfl|rfl|rfl
     ·exact a3p hbx
     ·exact F3 rfl
     ·exact ai3 (by omega))
 ·have hqe:q=w.terms.length:=by omega
  subst hqe
  cases b with
  |false=>
   conv=>whnf
   repeat' first|(refine zd ?_ ?_<;>intro h<;>first|exact zc h|(exfalso;omega)|conv=>whnf)|((first|refine a8h [0,1,2,3,4,5,6,7,9,10,11,12,13,14,15,16,8,17,18,19,20,21,22,23] (by decide +kernel) (by decide +kernel) ?_|refine zz ?_|refine zz ?_|refine zz ?_|refine zz ?_|refine zz ?_|refine zz ?_|refine qp (0,1,2,3,4,5,6,7,9,10,11,12,13,14,15,16,8,17,18,19,20,21,22,23) ?_|refine qp (toC,v6,B4,X5,hfr) ?_|refine qp (toC,v6,B4,X5) ?_|refine qp 0 ?_|refine qp (0,1,8,9,10,11,12,13,14,15) ?_|refine qp (0,1) ?_|refine qp 1 ?_|refine v7 (by simp [toC,v6,B4,X5,hfr]) (by simp [toC,v6,B4,X5];omega) ?_|refine bl0 [0] ?_|refine bl0 [0,1,8,9,10,11,12,13,14,15] ?_|refine bl0 [0,1] ?_|refine bl0 [1] ?_|refine l9 (d7 _ _ _) ?_|refine k5 ?_|refine i9 (t:=1) (d7 _ _ _) ?_|refine i9 (t:=2) (d7 _ _ _) ?_|refine i9 (t:=3) (d7 _ _ _) ?_|refine j0 (t:=1) (d7 _ _ _) ?_|refine j0 (t:=2) (d7 _ _ _) ?_|refine j0 (t:=3) (d7 _ _ _) ?_|refine i9 (t:=4) (d7 _ _ _) ?_|refine aQ4 (Nat.le_refl 1) ?_|refine zy ?_);conv=>whnf)
   all_goals try (exfalso;omega)
   all_goals refine b4q (n:=k+6) (by simp [d7]) (aQ2 (lit:=_) hbx (a0M rfl rfl rfl rfl rfl (congrArg (fun z=>(mF k n A).map flB++z) (l7 rfl rfl rfl ?_ rfl ?_ ?_))))
   ·exact congrArg (fun z=>({ mode:=.live,elem:=3,size:=1,rows:=z,box:=false }:Blk)) (a6H (x:=(n:Int)+k) (by simp))
   ·exact congrArg (fun z=>({ mode:=.live,elem:=259,size:=5,rows:=z,box:=false }:Blk)) (congrArg (fun z=>z++[frC (fz w.value)++[C.own (k+6) 0 n true]]) (lg4 (by simp [B4])))
   ·exact congrArg (fun z=>({ mode:=.live,elem:=284,size:=2,rows:=z,box:=false }:Blk)) (a88 hfr (row,false))
  |true=>
   have nv:=a4x w.value hv
   conv=>whnf
   repeat' first|(refine zd ?_ ?_<;>intro h<;>first|exact zc h|(exfalso;omega)|conv=>whnf)|((first|refine zz ?_|refine qp nv ?_|refine l9 (d7 _ _ _) ?_|refine k5 ?_|refine i9 (t:=1) (d7 _ _ _) ?_|refine i9 (t:=2) (d7 _ _ _) ?_|refine i9 (t:=3) (d7 _ _ _) ?_|refine j0 (t:=1) (d7 _ _ _) ?_|refine j0 (t:=2) (d7 _ _ _) ?_|refine j0 (t:=3) (d7 _ _ _) ?_|refine zy ?_);conv=>whnf)
   all_goals try (exfalso;omega)
   refine f8 a7 (fun q=>([S.c (C.ptr 0 0 0),a9 .i64 row,J,f7 true,J,J,J,J,S.c (C.ptr (k+7) 0 0),J,J,J,J,J,J,J,J,J,J,J,J,J,J,J,J,J,J,J,J,J,J,J,J,J,J,J,J,J,J,J,J,J,m7 w.terms,a9 .i64 w.terms.length,a9 .i64 q,J,J,J,J,J,J,J,J,J,J,J,J,J,J,J,J,J,J,J,J,J,J,J,J,J,J,J,J,J,J,J,J,J,J,J,J,J,J,J,J,J,J,J,J,J,J,J,J,J,J,J,J,J],a4I n k V G (fun i=>n+i) fr A [bx,flB (rF n (a3y w.terms q)),lnX k n (-w.value)])) w.terms.length (fun _=>True) (idR (k+8)) trivial ?_ ?_
   ·refine V8 (X':=[]) (a0M rfl rfl rfl rfl rfl rfl) rfl (by simp [d7]) ?_ ?_
    ·intro b hb;simp at hb;rcases hb with rfl|rfl|rfl
     ·exact a3p hbx
     ·exact F3 rfl
     ·exact ai3 (by omega)
    ·exact ⟨⟨o4 (by omega),rfl,rfl⟩,rfl,rfl,⟨o4 (by omega),rfl,rfl⟩,j3 rfl,e7 (by omega),e7 rfl,trivial⟩
   intro q hq _
   by_cases hlt:q<w.terms.length
   ·obtain ⟨t,ht⟩:∃t,w.terms[q]? =some t:=⟨_,lg0 hlt⟩
    obtain ⟨t0,t1,t2⟩:=M4 hr t (lg2 ht)
    have nt:=a4x t.2 (hb t (lg2 ht))
    have gp:(rF n (a3y w.terms q))[0+t.1.toNat]? =some (fz (a3y w.terms q t.1.toNat)):=by rw [Nat.zero_add,I4 (by omega)]
    have eV:0+t.1.toNat=t.1.toNat:=by omega
    have e:z9 (flB (rF n (a3y w.terms q))) ((flB (rF n (a3y w.terms q))).rows.set (0+t.1.toNat) (frC (fz (-t.2))))=flB (rF n (a3y w.terms (q+1))):=by
     have e1:=M8 (row:=rF n (a3y w.terms q)) (y:=fz (-t.2)) eV
     rw [W4 (by omega),←ab2 ht] at e1
     exact e1
    conv=>whnf
    repeat' first|(refine zd ?_ ?_<;>intro h<;>first|exact zc h|(exfalso;omega)|conv=>whnf)|((first|refine zz ?_|refine qp nt ?_|refine d9 ht ?_|refine o8 gp ?_|refine l9 (d7 _ _ _) ?_|refine k5 ?_|refine i9 (t:=1) (d7 _ _ _) ?_|refine i9 (t:=2) (d7 _ _ _) ?_|refine i9 (t:=3) (d7 _ _ _) ?_|refine j0 (t:=1) (d7 _ _ _) ?_|refine j0 (t:=2) (d7 _ _ _) ?_|refine j0 (t:=3) (d7 _ _ _) ?_|refine zy ?_);conv=>whnf)
    all_goals first
     |(exfalso;omega)
     |(refine ⟨hlt,trivial,idR (k+8),V8 (X:=[bx,flB (rF n (a3y w.terms (q+1))),lnX k n (-w.value)]) (a0M rfl rfl rfl rfl rfl (congrArg (fun z=>(mF k n A).map flB++(bx::z::lnX k n (-w.value)::[_])) e)) rfl (by simp [d7]) ?_ ⟨⟨o4 (by omega),rfl,rfl⟩,rfl,rfl,⟨o4 (by omega),rfl,rfl⟩,rfl,rfl,e7 (by omega),trivial⟩⟩
       intro b hb;simp at hb;rcases hb with rfl|rfl|rfl
       ·exact a3p hbx
       ·exact F3 rfl
       ·exact ai3 (by omega))
   ·have hqe:q=w.terms.length:=by omega
    subst hqe
    have ea:a3y w.terms w.terms.length=sgF true w.terms:=b1R w.terms
    conv=>whnf
    repeat' first|(refine zd ?_ ?_<;>intro h<;>first|exact zc h|(exfalso;omega)|conv=>whnf)|((first|refine a8h [0,1,2,3,4,5,6,7,9,10,11,12,13,14,15,16,8,17,18,19,20,21,22,23] (by decide +kernel) (by decide +kernel) ?_|refine zz ?_|refine zz ?_|refine zz ?_|refine zz ?_|refine zz ?_|refine zz ?_|refine qp (0,1,2,3,4,5,6,7,9,10,11,12,13,14,15,16,8,17,18,19,20,21,22,23) ?_|refine qp (toC,v6,B4,X5,hfr) ?_|refine qp (toC,v6,B4,X5) ?_|refine qp 0 ?_|refine qp (0,1,8,9,10,11,12,13,14,15) ?_|refine qp (0,1) ?_|refine qp 1 ?_|refine v7 (by simp [toC,v6,B4,X5,hfr]) (by simp [toC,v6,B4,X5];omega) ?_|refine bl0 [0] ?_|refine bl0 [0,1,8,9,10,11,12,13,14,15] ?_|refine bl0 [0,1] ?_|refine bl0 [1] ?_|refine l9 (d7 _ _ _) ?_|refine k5 ?_|refine i9 (t:=1) (d7 _ _ _) ?_|refine i9 (t:=2) (d7 _ _ _) ?_|refine i9 (t:=3) (d7 _ _ _) ?_|refine j0 (t:=1) (d7 _ _ _) ?_|refine j0 (t:=2) (d7 _ _ _) ?_|refine j0 (t:=3) (d7 _ _ _) ?_|refine i9 (t:=4) (d7 _ _ _) ?_|refine aQ4 (Nat.le_refl 1) ?_|refine zy ?_);conv=>whnf)
    all_goals try (exfalso;omega)
    all_goals refine b4q (n:=k+6) (by simp [d7]) (aQ2 (lit:=_) hbx (a0M rfl rfl rfl rfl rfl (congrArg (fun z=>(mF k n A).map flB++z) (l7 rfl (by rw [ea]) rfl ?_ rfl ?_ ?_))))
    ·exact congrArg (fun z=>({ mode:=.live,elem:=3,size:=1,rows:=z,box:=false }:Blk)) (a6H (x:=(n:Int)+k) (by simp))
    ·exact congrArg (fun z=>({ mode:=.live,elem:=259,size:=5,rows:=z,box:=false }:Blk)) (congrArg (fun z=>z++[frC (fz (-w.value))++[C.own (k+6) 0 n true]]) (lg4 (by simp [B4])))
    ·exact congrArg (fun z=>({ mode:=.live,elem:=284,size:=2,rows:=z,box:=false }:Blk)) (a88 hfr (row,true))
end
section
open Go.RowKit
def gR (N:Nat) (f:Nat→Option Nat):List (Option Nat):=(List.range N).map f
theorem a2d {N i:Nat} {f:Nat→Option Nat} (h:i<N):(gR N f)[i]? =some (f i):=by simp [gR,h]
theorem b1g {N i:Nat} {x:Option Nat} {f:Nat→Option Nat} (h:(gR N f)[i]? =some x):i<N∧f i=x:=by
 obtain ⟨h1,h2⟩:=lg1 h
 simp [gR] at h1 h2
 exact ⟨h1,h2⟩
theorem aB1 {ρ:List (Option Nat)} {H:Hp}:∀{r:List (Option Nat)} {H':Hp},r.length=H'.length→(∀ (i:Nat) (k':Blk),H'[i]? =some k'→(r[i]? =some none∧k'.rows=[]∧k'.mode=.live)∨∃(j:Nat) (k:Blk),r[i]? =some (some j)∧H[j]? =some k∧a3w ρ H k k')→a2L ρ H r H'
 |[],[],_,_=>trivial
 |[],_::_,h,_=>by simp at h
 |_::_,[],h,_=>by simp at h
 |x::r,k'::H',hl,h=>by
  refine ⟨?_,aB1 (by simpa using hl) fun i k1 hk=>by simpa using h (i+1) k1 (by simpa using hk)⟩
  rcases h 0 k' rfl with ⟨h1,h2,h3⟩|⟨j,k,h1,h2,h3⟩
  ·simp at h1;subst h1;exact ⟨h2,h3⟩
  ·simp at h1;subst h1
   simp only [h2]
   exact h3
theorem b0w {N:Nat} {f:Nat→Option Nat} {env env':Env} {H H':Hp} (hn:H'.length=N) (hinj:∀i j x,i<N→j<N→f i=some x→f j=some x→i=j)
 (hB:∀(i:Nat) (k':Blk),H'[i]? =some k'→(f i=none∧k'.rows=[]∧k'.mode=.live)∨∃(j:Nat) (k:Blk),f i=some j∧H[j]? =some k∧a3w (gR N f) H k k') (hE:a06 (gR N f) H env env'):Ent 0 (gR N f) env H env' H':=
 ⟨rfl,X7 fun i j n h1 h2=>by
   obtain ⟨a1,a2⟩:=b1g h1
   obtain ⟨b1,b2⟩:=b1g h2
   exact hinj i j n a1 b1 a2 b2,aB1 (by simp [gR,hn]) fun i k' hk=>by
   have hi:i<N:=by rw [← hn];exact (lg1 hk).1
   rcases hB i k' hk with ⟨h1,h2⟩|⟨j,k,h1,h2⟩
   ·exact .inl ⟨by rw [a2d hi,h1],h2⟩
   ·exact .inr ⟨j,k,by rw [a2d hi,h1],h2⟩,hE⟩
theorem a4N {s:i8} (k:Nat):J7 s (k+1)=match s.rows[k]? with
 |none=>J7 s k
 |some w=>J7 s k++(if w.kind≠0 then [(k,false)] else [])++(if w.kind≠1 then [(k,true)] else []):=rfl
theorem ae8 {s:i8} {i:Nat}:∀d,∃rest,J7 s (i+d)=J7 s i++rest
 |0=>⟨[],by simp⟩
 |d+1=>by
  obtain ⟨r,hr⟩:=ae8 (s:=s) (i:=i) d
  rw [show i+(d+1)=(i+d)+1 by omega,a4N]
  cases s.rows[i+d]? with
  |none=>exact ⟨r,hr⟩
  |some w=>exact ⟨r++((if w.kind≠0 then [(i+d,false)] else [])++(if w.kind≠1 then [(i+d,true)] else [])),by simp only;rw [hr,List.append_assoc,List.append_assoc]⟩
theorem ab5 {s:i8} {i k:Nat} {f:Nat × Bool} (hi:i≤s.rows.length) (h:(J7 s i)[k]? =some f):(e6 s).getD k (0,false)=f:=by
 obtain ⟨r,hr⟩:=ae8 (s:=s) (i:=i) (s.rows.length - i)
 rw [show i+(s.rows.length - i)=s.rows.length by omega] at hr
 unfold e6
 rw [hr,lg3,List.getElem?_append_left (lg1 h).1,h];rfl
theorem a3T {s:i8}:∀i,(J7 s i).length≤2*i
 |0=>by simp [J7]
 |i+1=>by
  have ih:=a3T (s:=s) i
  rw [a4N]
  cases s.rows[i]? with
  |none=>simp only;omega
  |some w=>
   simp only [List.length_append]
   split<;>split<;>simp<;>omega
theorem a8a {s:i8} {i:Nat} {w:B2} (h:s.rows[i]? =some w):J7 s (i+1)=(J7 s i++if w.kind≠0 then [(i,false)] else [])++if w.kind≠1 then [(i,true)] else []:=by
 rw [a4N,h]
def S1 (k:Nat):Nat→Nat:=fun i=>if i=0 then 0 else if i=1 then k+8 else if i=2 then 2 else if i=3 then k+7 else if i=4 then k+9 else if i<k+5 then i else if i=k+5 then k+6 else k+5
theorem a9c {k:Nat} (i:Nat) (hi:i<k+7):(i=0∧S1 k i=0)∨(i=1∧S1 k i=k+8)∨(i=2∧S1 k i=2)∨(i=3∧S1 k i=k+7)∨(i=4∧S1 k i=k+9)∨(5≤i∧i<k+5∧S1 k i=i)∨(5≤i∧i=k+5∧S1 k i=k+6)∨(5≤i∧i=k+6∧S1 k i=k+5):=by
 unfold S1
 by_cases h0:i=0
 ·rw [if_pos h0];omega
 ·rw [if_neg h0]
  by_cases h1:i=1
  ·rw [if_pos h1];omega
  ·rw [if_neg h1]
   by_cases h2:i=2
   ·rw [if_pos h2];omega
   ·rw [if_neg h2]
    by_cases h3:i=3
    ·rw [if_pos h3];omega
    ·rw [if_neg h3]
     by_cases h4:i=4
     ·rw [if_pos h4];omega
     ·rw [if_neg h4]
      by_cases h5:i<k+5
      ·rw [if_pos h5];omega
      ·rw [if_neg h5]
       by_cases h6:i=k+5
       ·rw [if_pos h6];omega
       ·rw [if_neg h6];omega
theorem b2L {k:Nat}:S1 k (k+6)=k+5:=by
 have:=a9c (k:=k) (k+6) (by omega)
 omega
theorem aT2 {n k:Nat} {a V G:Nat→Rat} {v:Rat} {O:Nat→Nat} {fr:List (Nat × Bool)} {f:Nat × Bool} {A:Nat→Nat→Rat} {bx:Blk} {env env':Env} (hbx:G8 bx.rows) (hv:v=V k) (ha:a=A k)
 (hE:a06 (fR (k+7) (S1 k)) (b00 n k v a V G O fr f A bx) env env'):Ent 0 (fR (k+7) (S1 k)) env (b00 n k v a V G O fr f A bx) env' (a4I n (k+1) V G O (fr++[f]) A [bx]):=by
 subst hv ha
 have r1:S1 k 1=k+8:=rfl
 have r3:S1 k 3=k+7:=rfl
 have r4:S1 k 4=k+9:=rfl
 have ra:∀i,i<k→S1 k (i+5)=i+5:=fun i hi=>by
  unfold S1
  rw [if_neg (by omega),if_neg (by omega),if_neg (by omega),if_neg (by omega),if_neg (by omega),if_pos (by omega)]
 have rk:S1 k (k+5)=k+6:=by
  unfold S1
  rw [if_neg (by omega),if_neg (by omega),if_neg (by omega),if_neg (by omega),if_neg (by omega),if_neg (by omega),if_pos rfl]
 have rb:S1 k (k+6)=k+5:=by
  unfold S1
  rw [if_neg (by omega),if_neg (by omega),if_neg (by omega),if_neg (by omega),if_neg (by omega),if_neg (by omega),if_neg (by omega)]
 have lk:∀j,(b00 n k (V k) (A k) V G O fr f A bx)[k+j+5]? =([bx,flB (rF n (A k)),U7 (k+1) O,{ mode:=.live,elem:=259,size:=5,rows:=P2 5 k n V++[frC (fz (V k))++[C.own (k+6) 0 n true]],box:=false },a0V (fr++[f])]:Hp)[j]?:=fun j=>a0Z (d7 _ _ _)
 have eV:aA6 k n (V k) V=V:=by funext i;unfold aA6;split<;>simp_all
 refine aG7 (by simp [d7]) (by omega) (fun i hi=>by omega) (fun i j hi hj h=>by have:=a9c i hi;have:=a9c j hj;omega) ?_ hE
 intro i k' hk
 rcases i with _|_|_|_|_|i
 ·injection hk with hk;subst hk
  exact ⟨_,rfl,rfl,rfl,rfl,.inr ⟨⟨rfl,⟨by rw [x7 (by omega),r1],rfl,rfl,fun h=>h⟩,⟨by rw [x7 (by omega)];rfl,rfl,rfl,fun h=>h⟩,⟨by rw [x7 (by omega),r3],rfl,rfl,fun h=>h⟩,rfl,⟨by rw [x7 (by omega),r4],rfl,rfl,fun h=>h⟩,trivial⟩,trivial⟩⟩
 ·injection hk with hk;subst hk
  refine ⟨_,lk 3,?_⟩
  rw [a8V,eV]
  refine a0H (h':=fun i=>i+5) fun j hj=>?_
  rw [x7 (by omega)]
  unfold hnd
  by_cases hjk:j=k
  ·subst hjk;rw [if_pos rfl,rk]
  ·rw [if_neg hjk,ra j (by omega)]
 ·injection hk with hk;subst hk;exact ⟨_,rfl,j7 (i7 _)⟩
 ·injection hk with hk;subst hk;exact ⟨_,lk 2,j7 (i7 _)⟩
 ·injection hk with hk;subst hk;exact ⟨_,lk 4,j7 (i7 _)⟩
 ·have hk:((mF (k+1) n A).map flB++[bx])[i]? =some k':=hk
  by_cases hi:i<k+1
  ·rw [I9 (N9 hi)] at hk
   injection hk with hk;subst hk
   by_cases hik:i=k
   ·subst hik;rw [rk];exact ⟨_,lk 1,j7 (i7 _)⟩
   ·rw [ra i (by omega)]
    exact ⟨_,I9 (N9 (by omega)),j7 (i7 _)⟩
  ·obtain ⟨t,rfl⟩:∃t,i=(k+1)+t:=⟨i - (k+1),by omega⟩
   rw [a0Z (d7 _ _ _)] at hk
   rcases t with _|t
   ·injection hk with hk;subst hk
    rw [show k+1+0+5=k+6 by omega,rb]
    exact ⟨_,lk 0,j7 hbx⟩
   ·simp at hk
end
section
open Go.RowKit
theorem b2Q {b0 b1 b2 b3 b4 b5 c0 c1 c2 c3 c4 c5:Blk} {L L':Hp} (h0:b0=c0) (h1:b1=c1) (h2:b2=c2) (h3:b3=c3) (h4:b4=c4) (h5:b5=c5) (h6:L=L'):b0::b1::b2::b3::b4::b5::L=c0::c1::c2::c3::c4::c5::L':=a0e h0 h1 h2 h3 h4 h5 h6
theorem C8:∀{last n:Int} {l:List (Int × Rat)},j1 last n l=true→l.length=0∨(l.length:Int)≤n - last - 1
 |_,_,[],_=>.inl rfl
 |last,n,a::r,h=>by
  unfold j1 at h
  simp only [Bool.and_eq_true,decide_eq_true_eq] at h
  have ih:=C8 h.2
  have h1:=h.1.1.1
  have h2:=h.1.1.2
  right
  rw [List.length_cons]
  rcases ih with h0|h0
  ·rw [h0];omega
  ·omega
structure b4d (s:i8) (g:List (Int × Rat)) (n:Nat):Prop where
 r:j8 s=true
 tg:j1 (-1) n g=true
 en:s.n=n
 n1:n≤1000
 b:∀w ∈ s.rows,rl w.value≤60000∧∀t ∈ w.terms,rl t.2≤60000
 bg:∀t ∈ g,rl t.2≤60000
 l:s.rows.length≤4000
abbrev rbx (w:B2):Blk:={ mode:=.live,elem:=143,size:=6,rows:=[(y4 w).map C.t],box:=true }
theorem ax5 (w:B2):G8 (rbx w).rows:=i7 [y4 w]
def a7w (s:i8):List T:=[ti s.n,M5 s.rows]
def pF1:Nat→Option Nat:=fun i=>if i=0 then some 1 else if i=2 then some 0 else none
theorem aO3 {s:i8} {g:List (Int × Rat)} {k:Nat} {b:Bool} {i:Nat} {w:B2} (h:(e6 s).getD k (0,false)=(i,b)) (hw:s.rows[i]? =some w):O5 b w.value=(g8 s g).V k:=by
 show _=a2G s ((e6 s).getD k (0,false))
 rw [h];unfold a2G;simp only [hw]
theorem aR5 {s:i8} {g:List (Int × Rat)} {k:Nat} {b:Bool} {i:Nat} {w:B2} (h:(e6 s).getD k (0,false)=(i,b)) (hw:s.rows[i]? =some w):sgF b w.terms=(g8 s g).A k:=by
 funext j
 show _=a1l s ((e6 s).getD k (0,false)) j
 rw [h];unfold a1l;simp only [hw];rfl
abbrev dF (m n j q:Nat):Blk:={ mode:=.live,elem:=256,size:=6,rows:=[[C.t (ti n),.own 1 0 m true,.own 2 0 n true,.own 3 0 m true,.own 4 0 j true,.own 5 0 q true]],box:=true }
abbrev b3q (m n j:Nat) (V G:Nat→Rat) (O:Nat→Nat) (fr:List (Nat × Bool)) (A:Nat→Nat→Rat) (X:Hp):Hp:=
 dF m n j fr.length::a05 6 m n V::flB (rF n G)::U7 m O::U7 j (fun j=>j)::a0V fr::((mF m n A).map flB++X)
def fF1:Nat→Option Nat:=fun i=>if i=4 then none else if i<4 then some i else some (i - 1)
theorem b0g {m n:Nat} {V G:Nat→Rat} {O:Nat→Nat} {fr:List (Nat × Bool)} {A:Nat→Nat→Rat} {env env':Env} {H:Hp} (hm:fr.length=m) (hH:H=a4I n m V G O fr A []) (hE:a06 (gR (m+6) fF1) H env env'):
 Ent 0 (gR (m+6) fF1) env H env' (b3q m n 0 V G O fr A []):=by
 subst hH
 refine b0w (by simp [d7]) (fun i j x hi hj h1 h2=>by unfold fF1 at h1 h2;(repeat' split at h1)<;>(repeat' split at h2)<;>first|(cases h1;done)|(cases h2;done)|(injection h1 with h1;injection h2 with h2;omega)) ?_ hE
 intro i k' hk
 have fa:∀i,fF1 (i+6)=some (i+5):=fun i=>by unfold fF1;rw [if_neg (by omega),if_neg (by omega)];rfl
 rcases i with _|_|_|_|_|_|i
 ·injection hk with hk;subst hk
  exact .inr ⟨0,_,rfl,rfl,rfl,rfl,rfl,.inr ⟨⟨rfl,⟨by rw [a2d (by omega)];rfl,rfl,rfl,fun h=>h⟩,⟨by rw [a2d (by omega)];rfl,rfl,rfl,fun h=>h⟩,⟨by rw [a2d (by omega)];rfl,rfl,rfl,fun h=>h⟩,⟨by rw [a2d (by omega)];rfl,rfl,rfl⟩,⟨by rw [a2d (by omega)];rfl,rfl,hm.symm,fun h=>h⟩,trivial⟩,trivial⟩⟩
 ·injection hk with hk;subst hk
  refine .inr ⟨1,_,rfl,rfl,a0H (h:=fun i=>i+5) (h':=fun i=>i+6) fun j hj=>?_⟩
  rw [a2d (by omega),fa]
 ·injection hk with hk;subst hk;exact .inr ⟨2,_,rfl,rfl,j7 (i7 _)⟩
 ·injection hk with hk;subst hk;exact .inr ⟨3,_,rfl,rfl,j7 (i7 _)⟩
 ·injection hk with hk;subst hk;exact .inl ⟨rfl,rfl,rfl⟩
 ·injection hk with hk;subst hk;exact .inr ⟨4,_,rfl,rfl,j7 (i7 _)⟩
 ·have hk:((mF m n A).map flB++[])[i]? =some k':=hk
  have hi:i<m:=by have:=(lg1 hk).1;simpa [d7] using this
  rw [I9 (N9 hi)] at hk
  injection hk with hk;subst hk
  exact .inr ⟨i+5,_,fa i,I9 (N9 hi),j7 (i7 _)⟩
abbrev ba3 (m n j:Nat) (V G:Nat→Rat) (O:Nat→Nat) (fr:List (Nat × Bool)) (A:Nat→Nat→Rat):Hp:=
 { mode:=.live,elem:=256,size:=6,rows:=[[C.t (ti n),.own 1 0 m true,.own 2 0 n true,.own 3 0 m true,.own (m+6) 0 (j+1) true,.own 5 0 fr.length true]],box:=true }::
   a05 6 m n V::flB (rF n G)::U7 m O::a90 3 1::a0V fr::((mF m n A).map flB++[U7 (j+1) (fun j=>j)])
def fF2 (m:Nat):Nat→Nat:=fun i=>if i=4 then m+6 else i
theorem b3M {m n j:Nat} {V G:Nat→Rat} {O:Nat→Nat} {fr:List (Nat × Bool)} {A:Nat→Nat→Rat} {env env':Env} {H:Hp} (hH:H=ba3 m n j V G O fr A) (hE:a06 (fR (m+6) (fF2 m)) H env env'):
 Ent 0 (fR (m+6) (fF2 m)) env H env' (b3q m n (j+1) V G O fr A []):=by
 subst hH
 have fa:∀i,i≠4→fF2 m i=i:=fun i hi=>by unfold fF2;rw [if_neg hi]
 refine aG7 (by simp [d7]) (by omega) (fun i hi=>by omega) (fun i j hi hj h=>by unfold fF2 at h;(repeat' split at h)<;>omega) ?_ hE
 intro i k' hk
 rcases i with _|_|_|_|_|_|i
 ·injection hk with hk;subst hk
  exact ⟨_,rfl,rfl,rfl,rfl,.inr ⟨⟨rfl,⟨by rw [x7 (by omega)];rfl,rfl,rfl,fun h=>h⟩,⟨by rw [x7 (by omega)];rfl,rfl,rfl,fun h=>h⟩,⟨by rw [x7 (by omega)];rfl,rfl,rfl,fun h=>h⟩,⟨by rw [x7 (by omega)];rfl,rfl,rfl,fun h=>h⟩,⟨by rw [x7 (by omega)];rfl,rfl,rfl,fun h=>h⟩,trivial⟩,trivial⟩⟩
 ·injection hk with hk;subst hk
  refine ⟨_,rfl,a0H (h:=fun i=>i+6) (h':=fun i=>i+6) fun j hj=>?_⟩
  rw [x7 (by omega),fa _ (by omega)]
 ·injection hk with hk;subst hk;exact ⟨_,rfl,j7 (i7 _)⟩
 ·injection hk with hk;subst hk;exact ⟨_,rfl,j7 (i7 _)⟩
 ·injection hk with hk;subst hk
  refine ⟨_,a0Z (t:=0) (d7 _ _ _),j7 (i7 _)⟩
 ·injection hk with hk;subst hk;exact ⟨_,rfl,j7 (i7 _)⟩
 ·have hk:((mF m n A).map flB++[])[i]? =some k':=hk
  have hi:i<m:=by have:=(lg1 hk).1;simpa [d7] using this
  rw [I9 (N9 hi)] at hk
  injection hk with hk;subst hk
  rw [fa _ (by omega)]
  exact ⟨_,I9 (N9 hi),j7 (i7 _)⟩
set_option maxHeartbeats 4000000 in
theorem ap8 (s:i8) (g:List (Int × Rat)) (n:Nat) (h:b4d s g n):
 b9 Tryz.prog 199 [U9 s,m7 g] [] (.c (.ptr 0 0 0)) (W1 (e6 s).length n (e6 s) (g8 s g)):=by
 have m1:(s.rows.map y4).length=s.rows.length:=by simp
 have m2:(g.map o7).length=g.length:=by simp
 have z0:∀H:Hp,H.length=0→U4 Tryz.prog 254 [a9 .i64 s.n] H (.c (.own 0 0 n true)) [flB (rF n fun _=>0)]:=fun H hH=>by rw [h.en];exact Z3 hH h.n1
 have hsl:=h.l
 have htg:=h.tg
 have hbg:=h.bg
 have hgl:=C8 htg
 have hn1:=h.n1
 have hen:=h.en
 have put0:∀(K i:Nat) (w:B2) (b:Bool) (F:List (Nat × Bool)) (bx:Blk),s.rows[i]? =some w→F.length=K→G8 bx.rows→K≤10000→i≤100000→
  b9 Tryz.prog 255 [.c (.ptr 0 0 0),a9 .i64 i,az8 w,f7 b] (a4I n K (g8 s g).V (fun _=>0) (fun i=>n+i) F (g8 s g).A [bx]) (.tup []) (b00 n K (O5 b w.value) (sgF b w.terms) (g8 s g).V (fun _=>0) (fun i=>n+i) F (i,b) (g8 s g).A bx):=by
  intro K i w b F bx hw hF hbx hK hi
  have hn:=ah3 h.r
  have hrw:=(a3R h.r hw).1
  rw [hn,h.en] at hrw
  have hl:=C8 hrw
  have hb:=h.b w (lg2 hw)
  exact b9o n K i w b _ _ F hF _ bx hbx h.n1 hK hi hrw (by have:=h.n1;omega) hb.2 hb.1
 (refine a8 a7 Tryz.func199 rfl (by decide) ?_;(conv=>whnf);repeat ((first|refine b0x ?_|refine zy ?_);conv=>whnf))
 repeat' first|(refine zd ?_ ?_<;>intro h<;>first|exact zc h|(exfalso;omega)|conv=>whnf)|((first|refine zz ?_|refine b0x ?_|refine .inl ⟨_,_,z0 _ rfl,?_⟩|refine zy ?_);conv=>whnf)
 refine at8 (fun i=>([J,m7 g,S.c (C.t (T.ptr (a7w s))),J,J,S.c (C.ptr 0 0 0),J,J,J,J,J,J,J,J,J,J,J,J,J,S.c (C.t (M5 s.rows)),a9 .i64 s.rows.length,a9 .i64 i,J,J,J,J,J,J,J,J,J,J,J,J,J,J,J,J,J,J,J,J,J,J,J,J,J,J,J,J,J,J,J,J,J,J,J,J,J,J,J,J,J,J,J,J,J,J,J,J,J,J,J,J,J],a4I n (J7 s i).length (g8 s g).V (fun _=>0) (fun i=>n+i) (J7 s i) (g8 s g).A [])) s.rows.length (fun _=>True) (gR 5 pF1) trivial ?_ ?_
 ·refine b0w rfl (fun i j x hi hj h1 h2=>by unfold pF1 at h1 h2;(repeat' split at h1)<;>(repeat' split at h2)<;>first|(cases h1;done)|(cases h2;done)|(injection h1 with h1;injection h2 with h2;omega)) ?_ ?_
  ·intro i k' hk
   rcases i with _|_|_|_|_|i
   ·injection hk with hk;subst hk
    exact .inr ⟨1,_,rfl,rfl,rfl,rfl,rfl,.inr ⟨⟨a7J (by rw [h.en]),⟨rfl,rfl,rfl⟩,⟨rfl,rfl,rfl,fun h=>h⟩,⟨rfl,rfl,rfl⟩,rfl,⟨rfl,rfl,rfl⟩,trivial⟩,trivial⟩⟩
   ·injection hk with hk;subst hk;exact .inl ⟨rfl,rfl,rfl⟩
   ·injection hk with hk;subst hk;exact .inr ⟨0,_,rfl,rfl,j7 (i7 _)⟩
   ·injection hk with hk;subst hk;exact .inl ⟨rfl,rfl,rfl⟩
   ·injection hk with hk;subst hk;exact .inl ⟨rfl,rfl,rfl⟩
   ·simp [mF,J7] at hk
  ·exact ⟨rfl,j3 rfl,⟨rfl,rfl,rfl⟩,j3 rfl,e7 (by omega),e7 rfl,trivial⟩
 intro i hi _
 refine E3 a7 ?_
 conv=>whnf
 repeat' first|(refine zd ?_ ?_<;>intro h<;>first|exact zc h|(exfalso;omega)|conv=>whnf)|((first|refine zz ?_|refine k5 ?_|refine zy ?_);conv=>whnf)
 ·have hlt:i<s.rows.length:=by omega
  obtain ⟨w,hw⟩:∃w,s.rows[i]? =some w:=⟨_,lg0 hlt⟩
  obtain ⟨K,hK⟩:∃K,K=(J7 s i).length:=⟨_,rfl⟩
  rw [← hK]
  obtain ⟨K1,hK1⟩:∃K1,K1=(J7 s i++if w.kind≠0 then [(i,false)] else []).length:=⟨_,rfl⟩
  obtain ⟨F1,hF1⟩:∃F1,F1=(J7 s i++if w.kind≠0 then [(i,false)] else []):=⟨_,rfl⟩
  have hKb:K≤10000:=by have:=a3T (s:=s) i;omega
  refine E3 a7 ?_
  conv=>whnf
  refine a9q (a8S ?_)
  refine E3 a7 ?_
  conv=>whnf
  repeat' first|(refine zd ?_ ?_<;>intro h<;>first|exact zc h|(exfalso;omega)|conv=>whnf)|((first|refine zz ?_|refine d9 hw ?_|refine l9 (d7 _ _ _) ?_|refine k5 ?_|refine i9 (t:=0) (d7 _ _ _) ?_|refine j0 (t:=0) (d7 _ _ _) ?_|refine zy ?_);conv=>whnf)
  refine Z7 a7 ([J,m7 g,S.c (C.t (T.ptr (a7w s))),J,J,S.c (C.ptr 0 0 0),a9 .i64 i,S.c (C.ptr (K1+5) 0 0),J,J,J,J,J,J,J,J,J,J,J,S.c (C.t (M5 s.rows)),a9 .i64 s.rows.length,a9 .i64 i,J,J,J,J,J,J,J,J,J,J,J,J,J,J,J,J,J,J,J,J,J,J,J,J,J,J,J,J,J,J,J,J,J,J,J,J,J,J,J,J,J,J,J,J,J,J,J,J,J,J,J,J,J]) (a4I n K1 (g8 s g).V (fun _=>0) (fun i=>n+i) F1 (g8 s g).A [rbx w]) ?_ ?_
  ·by_cases hk:w.kind=0
   ·have e1:F1=J7 s i:=by rw [hF1,if_neg (by simp [hk]),List.append_nil]
    have e2:K1=K:=by rw [hK1,if_neg (by simp [hk]),List.append_nil,hK]
    subst e1 e2
    conv=>whnf
    repeat' first|(refine zd ?_ ?_<;>intro h<;>first|exact zc h|(exfalso;omega)|conv=>whnf)|((first|refine zz ?_|refine l9 (d7 _ _ _) ?_|refine k5 ?_|refine i9 (t:=0) (d7 _ _ _) ?_|refine j0 (t:=0) (d7 _ _ _) ?_|refine zy ?_);conv=>whnf)
    all_goals first
     |(exfalso;omega)
     |exact ⟨idR (K1+6),V8 (X:=[rbx w]) (X':=[]) (a0M rfl rfl rfl rfl rfl rfl) rfl (Nat.zero_le _) (by intro b hb;simp at hb;subst hb;exact a3p (ax5 w)) ⟨rfl,rfl,⟨o4 (by omega),rfl,rfl⟩,rfl,⟨o4 (by omega),rfl,rfl⟩,rfl,rfl,rfl,trivial⟩⟩
   ·have e1:F1=J7 s i++[(i,false)]:=by rw [hF1,if_pos hk]
    have e2:K1=K+1:=by rw [hK1,if_pos hk,List.length_append,←hK];rfl
    have hg:(e6 s).getD K (0,false)=(i,false):=by
     refine ab5 (i:=i+1) (by omega) ?_
     rw [a8a hw,if_pos hk,List.append_assoc,List.getElem?_append_right (by omega),hK];simp
    subst e1 e2
    have pu:=put0 K i w false (J7 s i) (rbx w) hw hK.symm (ax5 w) hKb (by omega)
    conv=>whnf
    repeat' first|(refine zd ?_ ?_<;>intro h<;>first|exact zc h|(exfalso;omega)|conv=>whnf)|((first|refine zz ?_|refine .inr ⟨_,_,pu,?_⟩|refine l9 (d7 _ _ _) ?_|refine k5 ?_|refine i9 (t:=0) (d7 _ _ _) ?_|refine j0 (t:=0) (d7 _ _ _) ?_|refine zy ?_);conv=>whnf)
    all_goals first
     |(exfalso;omega)
     |exact ⟨_,aT2 (ax5 w) (aO3 hg hw) (aR5 hg hw) ⟨rfl,rfl,⟨by rw [x7 (by omega)];rfl,rfl,rfl⟩,rfl,⟨by rw [x7 (by omega),b2L],rfl,rfl⟩,rfl,rfl,rfl,trivial⟩⟩
  ·have hl1:F1.length=K1:=by rw [hF1,hK1]
   have eF:J7 s (i+1)=F1++if w.kind≠1 then [(i,true)] else []:=by rw [a8a hw,hF1]
   have hK1b:K1≤10000:=by
    have:=a3T (s:=s) i
    rw [hK1,List.length_append]
    split<;>simp<;>omega
   by_cases hk:w.kind=1
   ·have e1:J7 s (i+1)=F1:=by rw [eF,if_neg (by simp [hk]),List.append_nil]
    refine x6 a7 _ ?_
    conv=>whnf
    repeat' first|(refine zd ?_ ?_<;>intro h<;>first|exact zc h|(exfalso;omega)|conv=>whnf)|((first|refine zz ?_|refine l9 (d7 _ _ _) ?_|refine k5 ?_|refine i9 (t:=0) (d7 _ _ _) ?_|refine j0 (t:=0) (d7 _ _ _) ?_|refine zy ?_);conv=>whnf)
    all_goals try (exfalso;omega)
    refine x6 a7 _ ?_
    conv=>whnf
    repeat' first|(refine zd ?_ ?_<;>intro h<;>first|exact zc h|(exfalso;omega)|conv=>whnf)|((first|refine zz ?_|refine l9 (d7 _ _ _) ?_|refine k5 ?_|refine i9 (t:=0) (d7 _ _ _) ?_|refine j0 (t:=0) (d7 _ _ _) ?_|refine zy ?_);conv=>whnf)
    refine ⟨hlt,trivial,idR (K1+5),?_⟩
    rw [e1,hl1]
    exact V8 (X:=[]) (X':=[rbx w]) (a0M rfl rfl rfl rfl rfl rfl) rfl (Nat.zero_le _) (by simp) ⟨rfl,rfl,⟨o4 (by omega),rfl,rfl⟩,rfl,rfl,e7 (by omega),trivial⟩
   ·have e1:J7 s (i+1)=F1++[(i,true)]:=by rw [eF,if_pos hk]
    have hg:(e6 s).getD K1 (0,false)=(i,true):=by
     refine ab5 (i:=i+1) (by omega) ?_
     rw [e1,List.getElem?_append_right (by omega),hl1];simp
    have pu:=put0 K1 i w true F1 (rbx w) hw hl1 (ax5 w) hK1b (by omega)
    refine x6 a7 _ ?_
    conv=>whnf
    repeat' first|(refine zd ?_ ?_<;>intro h<;>first|exact zc h|(exfalso;omega)|conv=>whnf)|((first|refine zz ?_|refine .inr ⟨_,_,pu,?_⟩|refine l9 (d7 _ _ _) ?_|refine k5 ?_|refine i9 (t:=0) (d7 _ _ _) ?_|refine j0 (t:=0) (d7 _ _ _) ?_|refine zy ?_);conv=>whnf)
    all_goals try (exfalso;omega)
    refine b3b (env':=[J,m7 g,S.c (C.t (T.ptr (a7w s))),J,J,S.c (C.ptr 0 0 0),J,J,J,J,J,J,J,J,J,J,J,J,J,S.c (C.t (M5 s.rows)),a9 .i64 s.rows.length,a9 .i64 i,J,J,J,J,J,J,J,J,J,J,J,J,J,J,J,J,J,J,J,J,J,J,J,J,J,J,J,J,J,J,J,J,J,J,J,J,J,J,J,J,J,J,J,J,J,J,J,J,J,J,J,J,J]) _ (aT2 (ax5 w) (aO3 hg hw) (aR5 hg hw) ⟨rfl,rfl,⟨by rw [x7 (by omega)];rfl,rfl,rfl⟩,rfl,rfl,rfl,trivial⟩) ?_
    refine x6 a7 _ ?_
    conv=>whnf
    repeat' first|(refine zd ?_ ?_<;>intro h<;>first|exact zc h|(exfalso;omega)|conv=>whnf)|((first|refine zz ?_|refine l9 (d7 _ _ _) ?_|refine k5 ?_|refine i9 (t:=0) (d7 _ _ _) ?_|refine j0 (t:=0) (d7 _ _ _) ?_|refine zy ?_);conv=>whnf)
    refine ⟨hlt,trivial,idR (K1+1+5),?_⟩
    rw [e1,show (F1++[(i,true)]).length=K1+1 by simp [hl1]]
    exact V8 (X:=[]) (X':=[rbx w]) (a0M rfl rfl rfl rfl rfl rfl) rfl (Nat.zero_le _) (by simp) ⟨rfl,rfl,⟨o4 (by omega),rfl,rfl⟩,rfl,rfl,e7 (by omega),trivial⟩
 ·have hie:i=s.rows.length:=by omega
  subst hie
  refine x6 a7 _ ?_
  conv=>whnf
  repeat' first|(refine zd ?_ ?_<;>intro h<;>first|exact zc h|(exfalso;omega)|conv=>whnf)|((first|refine zz ?_|refine l9 (d7 _ _ _) ?_|refine k5 ?_|refine i9 (t:=0) (d7 _ _ _) ?_|refine j0 (t:=0) (d7 _ _ _) ?_|refine zy ?_);conv=>whnf)
  all_goals try (exfalso;omega)
  refine f8 a7 (fun q=>([J,J,S.c (C.t (T.ptr (a7w s))),J,J,S.c (C.ptr 0 0 0),J,J,J,J,J,J,J,J,J,J,J,J,J,J,J,J,J,J,J,J,J,J,J,J,J,J,J,J,J,J,J,J,J,J,J,m7 g,a9 .i64 g.length,a9 .i64 q,J,J,J,J,J,J,J,J,J,J,J,J,J,J,J,J,J,J,J,J,J,J,J,J,J,J,J,J,J,J,J],a4I n (e6 s).length (g8 s g).V (fun j=>-(M7 g q j)) (fun i=>n+i) (e6 s) (g8 s g).A [])) g.length (fun _=>True) (idR ((e6 s).length+5)) trivial ?_ ?_
  ·refine V8 (X:=[]) (X':=[]) (a0M rfl rfl ?_ rfl rfl rfl) rfl (Nat.zero_le _) (by simp) ⟨j3 rfl,⟨o4 (by omega),rfl,rfl⟩,j3 rfl,e7 (by omega),e7 rfl,trivial⟩
   rw [C5 (g:=fun _=>0) (h:=fun j=>-(M7 g 0 j)) fun j hj=>by show (0:Rat)=-0;decide]
  intro q hq _
  by_cases hlt:q<g.length
  ·obtain ⟨t,ht⟩:∃t,g[q]? =some t:=⟨_,lg0 hlt⟩
   obtain ⟨t0,t1,t2⟩:=M4 htg t (lg2 ht)
   have nt:=a4x t.2 (hbg t (lg2 ht))
   have gp:(rF n (fun j=>-(M7 g q j)))[0+t.1.toNat]? =some (fz (-(M7 g q t.1.toNat))):=by rw [Nat.zero_add,I4 (by omega)]
   have eV:0+t.1.toNat=t.1.toNat:=by omega
   have e:z9 (flB (rF n (fun j=>-(M7 g q j)))) ((flB (rF n (fun j=>-(M7 g q j)))).rows.set (0+t.1.toNat) (frC (fz (-t.2))))=flB (rF n (fun j=>-(M7 g (q+1) j))):=by
    have e1:=M8 (row:=rF n (fun j=>-(M7 g q j))) (y:=fz (-t.2)) eV
    rw [W4 (by omega)] at e1
    refine e1.trans ?_
    rw [T9 ht]
    refine congrArg flB ?_
    exact C5 fun j hj=>by show (if j=t.1.toNat then -t.2 else -(M7 g q j))=-(if j=t.1.toNat then t.2 else M7 g q j);split<;>rfl
   conv=>whnf
   repeat' first|(refine zd ?_ ?_<;>intro h<;>first|exact zc h|(exfalso;omega)|conv=>whnf)|((first|refine zz ?_|refine qp nt ?_|refine d9 ht ?_|refine o8 gp ?_|refine l9 (d7 _ _ _) ?_|refine k5 ?_|refine i9 (t:=0) (d7 _ _ _) ?_|refine j0 (t:=0) (d7 _ _ _) ?_|refine zy ?_);conv=>whnf)
   all_goals first
    |(exfalso;omega)
    |exact ⟨hlt,trivial,idR ((e6 s).length+5),V8 (X:=[]) (X':=[_]) (a0M rfl rfl e rfl rfl rfl) rfl (Nat.zero_le _) (by simp) ⟨rfl,⟨o4 (by omega),rfl,rfl⟩,rfl,rfl,e7 (by omega),trivial⟩⟩
  ·have hqe:q=g.length:=by omega
   subst hqe
   conv=>whnf
   repeat' first|(refine zd ?_ ?_<;>intro h<;>first|exact zc h|(exfalso;omega)|conv=>whnf)|((first|refine zz ?_|refine l9 (d7 _ _ _) ?_|refine k5 ?_|refine i9 (t:=0) (d7 _ _ _) ?_|refine j0 (t:=0) (d7 _ _ _) ?_|refine zy ?_);conv=>whnf)
   all_goals try (exfalso;omega)
   refine f8 a7 (fun q=>([J,J,J,J,J,S.c (C.ptr 0 0 0),J,J,J,J,J,J,J,J,J,J,J,J,J,J,J,J,J,J,J,J,J,J,J,J,J,J,J,J,J,J,J,J,J,J,J,J,J,J,J,J,J,J,J,J,J,J,J,J,J,J,J,J,J,a9 .i64 n,a9 .i64 q,J,J,J,J,J,J,J,J,J,J,J,J,J,J],b3q (e6 s).length n q (g8 s g).V (g8 s g).G (fun i=>n+i) (e6 s) (g8 s g).A [])) n (fun _=>True) (gR ((e6 s).length+6) fF1) trivial ?_ ?_
   ·exact b0g rfl rfl ⟨⟨by rw [a2d (by omega)];rfl,rfl,rfl⟩,e7 hen,e7 rfl,trivial⟩
   intro q hq _
   by_cases hlt:q<n
   ·conv=>whnf
    repeat' first|(refine zd ?_ ?_<;>intro h<;>first|exact zc h|(exfalso;omega)|conv=>whnf)|((first|refine zz ?_|refine qp (toC,v6) ?_|refine qp (toC,v6) ?_|refine qp 0 ?_|refine v7 (by simp [toC,v6]) (by simp [toC,v6];omega) ?_|refine bl0 [0] ?_|refine l9 (d7 _ _ _) ?_|refine k5 ?_|refine i9 (t:=0) (d7 _ _ _) ?_|refine j0 (t:=0) (d7 _ _ _) ?_|refine zy ?_);conv=>whnf)
    all_goals first
     |(exfalso;omega)
     |(refine ⟨hlt,trivial,fR ((e6 s).length+6) (fF2 (e6 s).length),b3M (b2Q rfl rfl rfl rfl rfl rfl (congrArg (fun z=>(mF (e6 s).length n (g8 s g).A).map flB++[z]) ?_)) ⟨⟨by rw [x7 (by omega)];rfl,rfl,rfl⟩,rfl,e7 (by omega),trivial⟩⟩
       exact congrArg (fun z=>({ mode:=.live,elem:=3,size:=1,rows:=z,box:=false }:Blk)) (a6H (O:=fun j=>j) (x:=(q:Int)) rfl))
   ·have hqe:q=n:=by omega
    subst hqe
    conv=>whnf
    repeat' first|(refine zd ?_ ?_<;>intro h<;>first|exact zc h|(exfalso;omega)|conv=>whnf)|((first|refine zz ?_|refine l9 (d7 _ _ _) ?_|refine k5 ?_|refine i9 (t:=0) (d7 _ _ _) ?_|refine j0 (t:=0) (d7 _ _ _) ?_|refine zy ?_);conv=>whnf)
    all_goals try (exfalso;omega)
    refine ae2 (n:=(e6 s).length+6) a1H (Nat.zero_le _) a5g (fun i _=>?_) ⟨o4 (by omega),rfl,rfl⟩
    have e0:W1 (e6 s).length q (e6 s) (g8 s g)=b3q (e6 s).length q q (g8 s g).V (g8 s g).G (fun i=>q+i) (e6 s) (g8 s g).A []:=by
     have eO:(g8 s g).O=fun i=>q+i:=by funext i;show s.n.toNat+i=_;rw [hen];rfl
     show _::_::_::U7 _ (g8 s g).O::_::_::_=_::_::_::_::_::_::(_++[])
     rw [List.append_nil,eO];rfl
    rw [e0]
end
section
open Go.RowKit
def ptK (n:Nat) (O:Nat→Nat) (v x0:Nat→Rat):Nat→Nat→Rat
 |0=>x0
 |k+1=>fun j=>if O k<n∧j=O k then v k else ptK n O v x0 k j
theorem N1 {n:Nat} {O:Nat→Nat} {v x0:Nat→Rat} {k:Nat}:ptK n O v x0 (k+1)=fun j=>if O k<n∧j=O k then v k else ptK n O v x0 k j:=rfl
theorem a8r {n:Nat} {O:Nat→Nat} {v x0:Nat→Rat} {j:Nat}:∀{k:Nat},(∀ i,i<k→O i≠j)→ptK n O v x0 k j=x0 j
 |0,_=>rfl
 |k+1,h=>by rw [N1];simp only;rw [if_neg (fun e=>h k (by omega) e.2.symm),a8r fun i hi=>h i (by omega)]
theorem a8N {n:Nat} {O:Nat→Nat} {v x0:Nat→Rat} {i:Nat}:∀{k:Nat},i<k→O i<n→(∀ a,a<k→O a=O i→a=i)→ptK n O v x0 k (O i)=v i
 |0,h,_,_=>by omega
 |k+1,h,hn,hu=>by
  rw [N1];simp only
  by_cases he:O k=O i
  ·have:=hu k (by omega) he
   subst this
   rw [if_pos ⟨hn,rfl⟩]
  ·rw [if_neg (fun e=>he e.2.symm)]
   have:i≠k:=fun e=>he (by rw [e])
   exact a8N (by omega) hn fun a ha=>hu a (by omega)
theorem aL8 {m n:Nat} {D:Fd} (hP:Q5 m n D) {j:Nat} (hj:j<n):ptK n D.O D.V (fun _=>0) m j=G0 m n D 1 (fun _=>0) j:=by
 rcases hP.all j (by omega) with ⟨i,hi,rfl⟩|⟨q,hq,rfl⟩
 ·rw [a8N hi hj fun a ha he=>hP.oi a i ha hi he,a2I hP hi,w6 fun j _=>by grind];grind
 ·rw [a8r fun i hi=>hP.of i q hi hq,X4 hP hq]
theorem aj5 {m n c:Nat} {D:Fd} (hP:Q5 m n D) (hc:c<n) {j:Nat} (hj:j<n):ptK n D.O (fun i=>-(D.A i c)) (fun j=>if D.F c<n∧j=D.F c then 1 else 0) m j=G0 m n D 0 (fun q=>if q=c then 1 else 0) j:=by
 rcases hP.all j (by omega) with ⟨i,hi,rfl⟩|⟨q,hq,rfl⟩
 ·rw [a8N hi hj fun a ha he=>hP.oi a i ha hi he,a2I hP hi,g4 (g:=fun q=>(if c=q then (1:Rat) else 0)*D.A i q) fun q _=>by
   by_cases h:q=c
   ·subst h;simp only [if_true];grind
   ·rw [if_neg h,if_neg (fun e=>h e.symm)];grind,a37 hc]
  grind
 ·rw [a8r fun i hi=>hP.of i q hi hq,X4 hP hq]
  by_cases h:q=c
  ·subst h;rw [if_pos rfl,if_pos ⟨hj,rfl⟩]
  ·rw [if_neg h,if_neg (fun e=>h (hP.fi q c hq hc e.2))]
theorem a4W (n:Nat) (y:Nat→Rat):(zOf n y).map fz=rF n y:=by unfold zOf rF;rw [List.map_map];rfl
abbrev dT (m n:Nat) (fr:List (Nat × Bool)) (D:Fd):S:=.c (.t (.ptr (b3y m n fr D)))
set_option maxHeartbeats 2000000 in
theorem b0B (m n:Nat) (fr:List (Nat × Bool)) (D:Fd) (hP:Q5 m n D) (hm:m≤100000) (hn:n≤1000):b9 Tryz.prog 201 [dT m n fr D] [] (p8 ((zOf n (G0 m n D 1 (fun _=>0))).map fz)) []:=by
 have m1:(a0b m D.O).length=m:=v6 _ _
 have z0:∀H:Hp,H.length=0→U4 Tryz.prog 254 [a9 .i64 n] H (.c (.own 0 0 n true)) [flB (rF n fun _=>0)]:=fun H hH=>Z3 hH hn
 rw [a4W,←C5 (g:=ptK n D.O D.V (fun _=>0) m) fun j hj=>aL8 hP hj]
 (refine a8 a7 Tryz.func201 rfl (by decide) ?_;(conv=>whnf);repeat ((first|refine b0x ?_|refine zy ?_);conv=>whnf))
 repeat' first|(refine zd ?_ ?_<;>intro h<;>first|exact zc h|(exfalso;omega)|conv=>whnf)|((first|refine zz ?_|refine .inl ⟨_,_,z0 _ rfl,?_⟩|refine zy ?_);conv=>whnf)
 refine f8 a7 (fun k=>([dT m n fr D,J,J,S.c (C.own 0 0 n true),J,J,J,J,J,J,J,J,J,J,a4A m D.O,a9 .i64 m,a9 .i64 k,J,J,J,J,J,J,J,J,J,J,J,J,J,J,J,J,J,J,J,J,J,J,J],[flB (rF n (ptK n D.O D.V (fun _=>0) k))])) m (fun _=>True) [some 0] trivial
  ⟨rfl,rfl,⟨j7 (i7 _),trivial⟩,⟨j3 rfl,⟨rfl,rfl,rfl,fun h=>h⟩,j3 rfl,e7 (by omega),e7 rfl,trivial⟩⟩ ?_
 intro k hk _
 by_cases hlt:k<m
 ·by_cases ho:D.O k<n
  ·have gp:(rF n (ptK n D.O D.V (fun _=>0) k))[0+((D.O k:Nat):Int).toNat]? =some (fz (ptK n D.O D.V (fun _=>0) k (D.O k))):=by rw [show 0+((D.O k:Nat):Int).toNat=D.O k by omega,I4 ho]
   have e:z9 (flB (rF n (ptK n D.O D.V (fun _=>0) k))) ((flB (rF n (ptK n D.O D.V (fun _=>0) k))).rows.set (0+((D.O k:Nat):Int).toNat) (frC (fz (D.V k))))=flB (rF n (ptK n D.O D.V (fun _=>0) (k+1))):=by
    rw [M8 (show 0+((D.O k:Nat):Int).toNat=D.O k by omega),W4 ho,N1]
    refine congrArg flB (C5 fun j hj=>?_)
    simp only [ho,true_and]
   conv=>whnf
   repeat' first|(refine zd ?_ ?_<;>intro h<;>first|exact zc h|(exfalso;omega)|conv=>whnf)|((first|refine zz ?_|refine D4 rfl hlt ?_|refine a04 rfl hlt ?_|refine o8 gp ?_|refine zy ?_);conv=>whnf)
   all_goals first
    |(exfalso;omega)
    |exact ⟨hlt,trivial,[some 0],rfl,rfl,⟨⟨rfl,rfl,rfl,.inl ⟨congrArg Blk.rows e,(congrArg Blk.rows e) ▸ i7 _⟩⟩,trivial⟩,⟨rfl,⟨rfl,rfl,rfl,fun h=>h⟩,rfl,rfl,e7 (by omega),trivial⟩⟩
  ·have e:ptK n D.O D.V (fun _=>0) (k+1)=ptK n D.O D.V (fun _=>0) k:=by rw [N1];funext j;rw [if_neg (fun h=>ho h.1)]
   conv=>whnf
   repeat' first|(refine zd ?_ ?_<;>intro h<;>first|exact zc h|(exfalso;omega)|conv=>whnf)|((first|refine zz ?_|refine D4 rfl hlt ?_|refine zy ?_);conv=>whnf)
   all_goals first
    |(exfalso;omega)
    |exact ⟨hlt,trivial,[some 0],rfl,rfl,⟨b8 (rows:=(rF n (ptK n D.O D.V (fun _=>0) k)).map m6) rfl rfl rfl rfl (by rw [e]),trivial⟩,⟨rfl,⟨rfl,rfl,rfl,fun h=>h⟩,rfl,rfl,e7 (by omega),trivial⟩⟩
 ·have hke:k=m:=by omega
  subst hke
  conv=>whnf
  repeat' first|(refine zd ?_ ?_<;>intro h<;>first|exact zc h|(exfalso;omega)|conv=>whnf)|((first|refine zz ?_|refine zy ?_);conv=>whnf)
  all_goals first
   |(exfalso;omega)
   |exact O2 rfl (fun h=>h) rfl rfl (by simp [L9])
set_option maxHeartbeats 2000000 in
theorem b4x (m n:Nat) (fr:List (Nat × Bool)) (D:Fd) (c:Nat) (hc:c<n) (hP:Q5 m n D) (hm:m≤100000) (hn:n≤1000) (hB:∀i,i<m→rl (D.A i c)≤60000):
 b9 Tryz.prog 202 [dT m n fr D,a9 .i64 c] [] (p8 ((zOf n (G0 m n D 0 (fun q=>if q=c then 1 else 0))).map fz)) []:=by
 have m1:(a0b m D.O).length=m:=v6 _ _
 have z0:∀H:Hp,H.length=0→U4 Tryz.prog 254 [a9 .i64 n] H (.c (.own 0 0 n true)) [flB (rF n fun _=>0)]:=fun H hH=>Z3 hH hn
 have i1:=G9 1 (by decide) (by decide)
 obtain ⟨x0,hx0⟩:∃x0:Nat→Rat,x0=fun j=>if D.F c<n∧j=D.F c then 1 else 0:=⟨_,rfl⟩
 rw [a4W,←C5 (g:=ptK n D.O (fun i=>-(D.A i c)) x0 m) fun j hj=>by rw [hx0];exact aj5 hP hc hj]
 by_cases hf:D.F c<n
 ·have gp0:(rF n (fun _=>(0:Rat)))[0+((D.F c:Nat):Int).toNat]? =some (fz 0):=by rw [show 0+((D.F c:Nat):Int).toNat=D.F c by omega,I4 hf]
  have e0:z9 (flB (rF n (fun _=>(0:Rat)))) ((flB (rF n (fun _=>(0:Rat)))).rows.set (0+((D.F c:Nat):Int).toNat) (frC (fz ((1:Int):Rat))))=flB (rF n x0):=by
   rw [M8 (show 0+((D.F c:Nat):Int).toNat=D.F c by omega),W4 hf,hx0]
   refine congrArg flB (C5 fun j hj=>?_)
   simp only [hf,true_and];rfl
  (refine a8 a7 Tryz.func202 rfl (by decide) ?_;(conv=>whnf);repeat ((first|refine b0x ?_|refine zy ?_);conv=>whnf))
  repeat' first|(refine zd ?_ ?_<;>intro h<;>first|exact zc h|(exfalso;omega)|conv=>whnf)|((first|refine zz ?_|refine qp i1 ?_|refine .inl ⟨_,_,z0 _ rfl,?_⟩|refine D4 rfl hc ?_|refine o8 gp0 ?_|refine zy ?_);conv=>whnf)
  all_goals try (exfalso;omega)
  refine f8 a7 (fun k=>([dT m n fr D,a9 .i64 c,J,J,J,S.c (C.own 0 0 n true),J,J,J,J,J,J,J,J,J,J,J,J,J,J,J,J,J,J,J,J,J,J,J,J,J,J,J,J,a4A m D.O,a9 .i64 m,a9 .i64 k,J,J,J,J,J,J,J,J,J,J,J,J,J,J,J,J,J,J,J,J,J,J,J,J,J,J,J],[flB (rF n (ptK n D.O (fun i=>-(D.A i c)) x0 k))])) m (fun _=>True) [some 0] trivial
   ⟨rfl,rfl,⟨⟨rfl,rfl,rfl,.inl ⟨congrArg Blk.rows e0,(congrArg Blk.rows e0) ▸ i7 _⟩⟩,trivial⟩,⟨j3 rfl,e7 rfl,⟨rfl,rfl,rfl,fun h=>h⟩,j3 rfl,e7 (by omega),e7 rfl,trivial⟩⟩ ?_
  intro k hk _
  by_cases hlt:k<m
  ·have ng:=a4x (D.A k c) (hB k hlt)
   by_cases ho:D.O k<n
   ·have gp:(rF n (ptK n D.O (fun i=>-(D.A i c)) x0 k))[0+((D.O k:Nat):Int).toNat]? =some (fz (ptK n D.O (fun i=>-(D.A i c)) x0 k (D.O k))):=by rw [show 0+((D.O k:Nat):Int).toNat=D.O k by omega,I4 ho]
    have e:z9 (flB (rF n (ptK n D.O (fun i=>-(D.A i c)) x0 k))) ((flB (rF n (ptK n D.O (fun i=>-(D.A i c)) x0 k))).rows.set (0+((D.O k:Nat):Int).toNat) (frC (fz (-(D.A k c)))))=flB (rF n (ptK n D.O (fun i=>-(D.A i c)) x0 (k+1))):=by
     rw [M8 (show 0+((D.O k:Nat):Int).toNat=D.O k by omega),W4 ho,N1]
     refine congrArg flB (C5 fun j hj=>?_)
     simp only [ho,true_and]
    conv=>whnf
    repeat' first|(refine zd ?_ ?_<;>intro h<;>first|exact zc h|(exfalso;omega)|conv=>whnf)|((first|refine zz ?_|refine qp ng ?_|refine D4 rfl hlt ?_|refine a04 rfl hlt ?_|refine a2a rfl hc ?_|refine o8 gp ?_|refine zy ?_);conv=>whnf)
    all_goals first
     |(exfalso;omega)
     |exact ⟨hlt,trivial,[some 0],rfl,rfl,⟨⟨rfl,rfl,rfl,.inl ⟨congrArg Blk.rows e,(congrArg Blk.rows e) ▸ i7 _⟩⟩,trivial⟩,⟨rfl,rfl,⟨rfl,rfl,rfl,fun h=>h⟩,rfl,rfl,e7 (by omega),trivial⟩⟩
   ·have e:ptK n D.O (fun i=>-(D.A i c)) x0 (k+1)=ptK n D.O (fun i=>-(D.A i c)) x0 k:=by rw [N1];funext j;rw [if_neg (fun h=>ho h.1)]
    conv=>whnf
    repeat' first|(refine zd ?_ ?_<;>intro h<;>first|exact zc h|(exfalso;omega)|conv=>whnf)|((first|refine zz ?_|refine D4 rfl hlt ?_|refine zy ?_);conv=>whnf)
    all_goals first
     |(exfalso;omega)
     |exact ⟨hlt,trivial,[some 0],rfl,rfl,⟨b8 (rows:=(rF n (ptK n D.O (fun i=>-(D.A i c)) x0 k)).map m6) rfl rfl rfl rfl (by rw [e]),trivial⟩,⟨rfl,rfl,⟨rfl,rfl,rfl,fun h=>h⟩,rfl,rfl,e7 (by omega),trivial⟩⟩
  ·have hke:k=m:=by omega
   subst hke
   conv=>whnf
   repeat' first|(refine zd ?_ ?_<;>intro h<;>first|exact zc h|(exfalso;omega)|conv=>whnf)|((first|refine zz ?_|refine zy ?_);conv=>whnf)
   all_goals first
    |(exfalso;omega)
    |exact O2 rfl (fun h=>h) rfl rfl (by simp [L9])
 ·have e0:x0=fun _=>0:=by rw [hx0];funext j;rw [if_neg (fun h=>hf h.1)]
  (refine a8 a7 Tryz.func202 rfl (by decide) ?_;(conv=>whnf);repeat ((first|refine b0x ?_|refine zy ?_);conv=>whnf))
  repeat' first|(refine zd ?_ ?_<;>intro h<;>first|exact zc h|(exfalso;omega)|conv=>whnf)|((first|refine zz ?_|refine qp i1 ?_|refine .inl ⟨_,_,z0 _ rfl,?_⟩|refine D4 rfl hc ?_|refine zy ?_);conv=>whnf)
  all_goals try (exfalso;omega)
  refine f8 a7 (fun k=>([dT m n fr D,a9 .i64 c,J,J,J,S.c (C.own 0 0 n true),J,J,J,J,J,J,J,J,J,J,J,J,J,J,J,J,J,J,J,J,J,J,J,J,J,J,J,J,a4A m D.O,a9 .i64 m,a9 .i64 k,J,J,J,J,J,J,J,J,J,J,J,J,J,J,J,J,J,J,J,J,J,J,J,J,J,J,J],[flB (rF n (ptK n D.O (fun i=>-(D.A i c)) x0 k))])) m (fun _=>True) [some 0] trivial
   ⟨rfl,rfl,⟨b8 (rows:=(rF n (fun _=>0)).map m6) rfl rfl rfl rfl (by rw [e0];rfl),trivial⟩,⟨j3 rfl,e7 rfl,⟨rfl,rfl,rfl,fun h=>h⟩,j3 rfl,e7 (by omega),e7 rfl,trivial⟩⟩ ?_
  intro k hk _
  by_cases hlt:k<m
  ·have ng:=a4x (D.A k c) (hB k hlt)
   by_cases ho:D.O k<n
   ·have gp:(rF n (ptK n D.O (fun i=>-(D.A i c)) x0 k))[0+((D.O k:Nat):Int).toNat]? =some (fz (ptK n D.O (fun i=>-(D.A i c)) x0 k (D.O k))):=by rw [show 0+((D.O k:Nat):Int).toNat=D.O k by omega,I4 ho]
    have e:z9 (flB (rF n (ptK n D.O (fun i=>-(D.A i c)) x0 k))) ((flB (rF n (ptK n D.O (fun i=>-(D.A i c)) x0 k))).rows.set (0+((D.O k:Nat):Int).toNat) (frC (fz (-(D.A k c)))))=flB (rF n (ptK n D.O (fun i=>-(D.A i c)) x0 (k+1))):=by
     rw [M8 (show 0+((D.O k:Nat):Int).toNat=D.O k by omega),W4 ho,N1]
     refine congrArg flB (C5 fun j hj=>?_)
     simp only [ho,true_and]
    conv=>whnf
    repeat' first|(refine zd ?_ ?_<;>intro h<;>first|exact zc h|(exfalso;omega)|conv=>whnf)|((first|refine zz ?_|refine qp ng ?_|refine D4 rfl hlt ?_|refine a04 rfl hlt ?_|refine a2a rfl hc ?_|refine o8 gp ?_|refine zy ?_);conv=>whnf)
    all_goals first
     |(exfalso;omega)
     |exact ⟨hlt,trivial,[some 0],rfl,rfl,⟨⟨rfl,rfl,rfl,.inl ⟨congrArg Blk.rows e,(congrArg Blk.rows e) ▸ i7 _⟩⟩,trivial⟩,⟨rfl,rfl,⟨rfl,rfl,rfl,fun h=>h⟩,rfl,rfl,e7 (by omega),trivial⟩⟩
   ·have e:ptK n D.O (fun i=>-(D.A i c)) x0 (k+1)=ptK n D.O (fun i=>-(D.A i c)) x0 k:=by rw [N1];funext j;rw [if_neg (fun h=>ho h.1)]
    conv=>whnf
    repeat' first|(refine zd ?_ ?_<;>intro h<;>first|exact zc h|(exfalso;omega)|conv=>whnf)|((first|refine zz ?_|refine D4 rfl hlt ?_|refine zy ?_);conv=>whnf)
    all_goals first
     |(exfalso;omega)
     |exact ⟨hlt,trivial,[some 0],rfl,rfl,⟨b8 (rows:=(rF n (ptK n D.O (fun i=>-(D.A i c)) x0 k)).map m6) rfl rfl rfl rfl (by rw [e]),trivial⟩,⟨rfl,rfl,⟨rfl,rfl,rfl,fun h=>h⟩,rfl,rfl,e7 (by omega),trivial⟩⟩
  ·have hke:k=m:=by omega
   subst hke
   conv=>whnf
   repeat' first|(refine zd ?_ ?_<;>intro h<;>first|exact zc h|(exfalso;omega)|conv=>whnf)|((first|refine zz ?_|refine zy ?_);conv=>whnf)
   all_goals first
    |(exfalso;omega)
    |exact O2 rfl (fun h=>h) rfl rfl (by simp [L9])
end
section
open Go.RowKit
def a62 (y:Nat→Rat) (r:Nat) (p:Rat):Nat→Rat:=fun i=>if i=r then y i+p else y i
theorem b5J (b:Bool) (p:Rat):rl (O5 b p)=rl p:=by cases b;rfl;exact O1 p
set_option maxHeartbeats 2000000 in
theorem a5l (m n:Nat) (fr:List (Nat × Bool)) (D:Fd) (R:Nat) (y:Nat→Rat) (k row:Nat) (b:Bool) (p:Rat) (hk:fr[k]? =some (row,b)) (hr:row<R) (hp:rl p≤50000) (hy:rl (y row)≤50000):
 b9 Tryz.prog 263 [dT m n fr D,.c (.own 0 0 R true),a9 .i64 k,frS (fz p)] [flB (rF R y)] (.tup []) [flB (rF R (a62 y row (-(O5 b p))))]:=by
 have m1:(X5 fr).length=fr.length:=by simp [X5]
 have eR:0+(row:Int).toNat=row:=by omega
 have gp:(rF R y)[0+(row:Int).toNat]? =some (fz (y row)):=by rw [eR,I4 hr]
 have ng:=a4x p (by omega)
 cases b with
 |true=>
  have ad:=a2P (y row) p (by omega) (by omega)
  have e:z9 (flB (rF R y)) ((flB (rF R y)).rows.set (0+(row:Int).toNat) (frC (fz (y row+p))))=flB (rF R (a62 y row (-(O5 true p)))):=by
   rw [M8 eR,W4 hr]
   refine congrArg flB (C5 fun j hj=>?_)
   show (if j=row then y row+p else y j)=if j=row then y j+- -p else y j
   by_cases h:j=row
   ·subst h;rw [if_pos rfl,if_pos rfl,Rat.neg_neg]
   ·rw [if_neg h,if_neg h]
  (refine a8 a7 Tryz.func263 rfl (by decide) ?_;(conv=>whnf);repeat (refine zy ?_;conv=>whnf))
  repeat' first|(refine zd ?_ ?_<;>intro h<;>first|exact zc h|(exfalso;omega)|conv=>whnf)|((first|refine zz ?_|refine qp ng ?_|refine qp ad ?_|refine qp 12 ?_|refine d9 hk ?_|refine o8 gp ?_|refine bl0 [12] ?_|refine zy ?_);conv=>whnf)
  all_goals first
   |(exfalso;omega)
   |(exfalso;simp_all;done)
   |exact ⟨[some 0],rfl,rfl,⟨⟨rfl,rfl,rfl,.inl ⟨congrArg Blk.rows e,(congrArg Blk.rows e) ▸ i7 _⟩⟩,trivial⟩,trivial⟩
 |false=>
  have ad:=a2P (y row) (-p) (by omega) (by rw [O1];omega)
  have e:z9 (flB (rF R y)) ((flB (rF R y)).rows.set (0+(row:Int).toNat) (frC (fz (y row+-p))))=flB (rF R (a62 y row (-(O5 false p)))):=by
   rw [M8 eR,W4 hr]
   refine congrArg flB (C5 fun j hj=>?_)
   show (if j=row then y row+-p else y j)=if j=row then y j+-p else y j
   by_cases h:j=row
   ·subst h;rfl
   ·rw [if_neg h,if_neg h]
  (refine a8 a7 Tryz.func263 rfl (by decide) ?_;(conv=>whnf);repeat (refine zy ?_;conv=>whnf))
  repeat' first|(refine zd ?_ ?_<;>intro h<;>first|exact zc h|(exfalso;omega)|conv=>whnf)|((first|refine zz ?_|refine qp ng ?_|refine qp ad ?_|refine qp 12 ?_|refine d9 hk ?_|refine o8 gp ?_|refine bl0 [12] ?_|refine zy ?_);conv=>whnf)
  all_goals first
   |(exfalso;omega)
   |(exfalso;simp_all;done)
   |exact ⟨[some 0],rfl,rfl,⟨⟨rfl,rfl,rfl,.inl ⟨congrArg Blk.rows e,(congrArg Blk.rows e) ▸ i7 _⟩⟩,trivial⟩,trivial⟩
def yK (z:Nat→Rat) (f:Nat→Nat→Rat) (k:Nat):Nat→Rat:=fun i=>z i+g7 (fun j=>f j i) k
theorem a3J {z:Nat→Rat} {f:Nat→Nat→Rat} {k:Nat}:yK z f (k+1)=fun i=>yK z f k i+f k i:=by
 funext i;unfold yK;simp only [g7];grind
theorem a7Q {f:Nat→Rat} {B:Nat}:∀k:Nat,(∀ j,j<k→rl (f j)≤B)→rl (g7 f k)≤k*(B+1)+1
 |0,_=>by
  have h0:=rl0
  have e:g7 f 0=0:=by simp only [g7,O4]
  rw [e];omega
 |k+1,h=>by
  have h1:=a7Q k fun j hj=>h j (by omega)
  have h2:=h k (by omega)
  have h3:=Y0 (g7 f k) (f k)
  simp only [g7]
  rw [Nat.succ_mul]
  omega
theorem an9 {s:i8} {w i B:Nat} {p:Rat} (h:rl p≤B) (hB:1≤B):rl (chg s w p i)≤B:=by
 unfold chg
 split
 ·rw [O1,b5J];exact h
 ·have:=rl0;omega
theorem a7I {s:i8} {w:Nat} {p:Rat} (h:w<s.n.toNat):chg s w p=fun _=>0:=by
 funext i;unfold chg;rw [if_neg (fun e=>by omega)]
theorem aq3 {s:i8} {w k row:Nat} {b:Bool} {p:Rat} (hw:w=s.n.toNat+k) (hf:(e6 s)[k]? =some (row,b)) (y:Nat→Rat):a62 y row (-(O5 b p))=fun i=>y i+chg s w p i:=by
 funext i
 have e:C3 s (w - s.n.toNat)=(row,b):=by unfold C3;rw [show w - s.n.toNat=k by omega,lg3,hf];rfl
 unfold a62 chg
 rw [e]
 by_cases h:i=row
 ·subst h;rw [if_pos rfl,if_pos ⟨by omega,rfl⟩]
 ·rw [if_neg h,if_neg (fun e=>h e.2.symm)];grind
theorem a5T {s:i8} {k:Nat} {f:Nat × Bool} (h:(e6 s)[k]? =some f):f.1<s.rows.length:=by
 obtain ⟨w,hw,_⟩:=X9.1 (lg2 h)
 exact (lg1 hw).1
set_option maxHeartbeats 2000000 in
theorem b1n (s:i8) (n:Nat) (hn:s.n=n) (E:Fd) (hP:Q5 (e6 s).length n E) (B:Nat) (hB:∀j,j<n→rl (E.G j)≤B) (hB1:1≤B) (hBn:(n+2)*(B+2)≤50000) (hm:(e6 s).length≤100000) (hR:s.rows.length≤1000) (hn1:n≤1000):
 b9 Tryz.prog 204 [dT (e6 s).length n (e6 s) E,a9 .i64 s.rows.length] [] (.c (.own 0 0 s.rows.length true)) [flB (rF s.rows.length (A0 s E))]:=by
 have m1:(a0b n E.F).length=n:=v6 _ _
 have hnn:s.n.toNat=n:=by omega
 have z0:∀H:Hp,H.length=0→U4 Tryz.prog 254 [a9 .i64 s.rows.length] H (.c (.own 0 0 s.rows.length true)) [flB (rF s.rows.length fun _=>0)]:=fun H hH=>Z3 hH hR
 have eB:B≤50000:=by
  have:(n+2)*(B+2)=n*(B+2)+2*(B+2):=by rw [Nat.add_mul]
  omega
 obtain ⟨f,hf⟩:∃f:Nat→Nat→Rat,f=fun j=>chg s (E.F j) (-(E.G j)):=⟨_,rfl⟩
 have e9:A0 s E=yK (fun _=>0) f n:=by
  funext i;unfold A0 yK;rw [hf,hnn];grind
 rw [e9]
 (refine a8 a7 Tryz.func204 rfl (by decide) ?_;(conv=>whnf);repeat ((first|refine b0x ?_|refine zy ?_);conv=>whnf))
 repeat' first|(refine zd ?_ ?_<;>intro h<;>first|exact zc h|(exfalso;omega)|conv=>whnf)|((first|refine zz ?_|refine .inl ⟨_,_,z0 _ rfl,?_⟩|refine zy ?_);conv=>whnf)
 refine f8 a7 (fun k=>([dT (e6 s).length n (e6 s) E,J,J,J,J,S.c (C.own 0 0 s.rows.length true),J,J,J,J,J,J,J,a4A n E.F,a9 .i64 n,a9 .i64 k,J,J,J,J,J,J,J,J,J,J,J,J,J,J,J,J,J,J,J,J,J,J,J,J,J,J,J,J,J],[flB (rF s.rows.length (yK (fun _=>0) f k))])) n (fun _=>True) [some 0] trivial
  ⟨rfl,rfl,⟨b8 (rows:=(rF s.rows.length (fun _=>0)).map m6) rfl rfl rfl rfl ?_,trivial⟩,⟨j3 rfl,⟨rfl,rfl,rfl,fun h=>h⟩,j3 rfl,e7 (by omega),e7 rfl,trivial⟩⟩ ?_
 ·rw [C5 (g:=yK (fun _=>0) f 0) (h:=fun _=>0) fun j hj=>by unfold yK;simp only [g7,O4];grind]
 intro k hk _
 by_cases hlt:k<n
 ·have ng:=a4x (E.G k) (by have:=hB k hlt;omega)
  by_cases ho:E.F k<n
  ·have e:yK (fun _=>0) f (k+1)=yK (fun _=>0) f k:=by
    rw [a3J,hf];funext i
    have e0:chg s (E.F k) (-(E.G k)) i=0:=by rw [a7I (by omega)]
    show _+chg s (E.F k) (-(E.G k)) i=_
    rw [e0];grind
   conv=>whnf
   repeat' first|(refine zd ?_ ?_<;>intro h<;>first|exact zc h|(exfalso;omega)|conv=>whnf)|((first|refine zz ?_|refine D4 rfl hlt ?_|refine zy ?_);conv=>whnf)
   all_goals first
    |(exfalso;omega)
    |exact ⟨hlt,trivial,[some 0],rfl,rfl,⟨b8 (rows:=(rF s.rows.length (yK (fun _=>0) f k)).map m6) rfl rfl rfl rfl (by rw [e]),trivial⟩,⟨rfl,⟨rfl,rfl,rfl,fun h=>h⟩,rfl,rfl,e7 (by omega),trivial⟩⟩
  ·have hfb:=hP.fb k hlt
   obtain ⟨q,hq⟩:∃q,E.F k=n+q:=⟨E.F k - n,by omega⟩
   obtain ⟨⟨row,b⟩,hfr⟩:∃x,(e6 s)[q]? =some x:=⟨_,lg0 (by omega)⟩
   have hrow:row<s.rows.length:=a5T hfr
   have by1:rl (yK (fun _=>0) f k row)≤50000:=by
    have h1:=a7Q (f:=fun j=>f j row) (B:=B) k fun j hj=>by rw [hf];exact an9 (by rw [O1];exact hB j (by omega)) hB1
    have e:yK (fun _=>0) f k row=g7 (fun j=>f j row) k:=by unfold yK;grind
    rw [e]
    have:k*(B+1)≤n*(B+1):=Nat.mul_le_mul_right _ (by omega)
    have:(n+2)*(B+2)=n*(B+1)+n+2*(B+2):=by rw [Nat.add_mul,show n*(B+2)=n*(B+1)+n by rw [Nat.mul_add,Nat.mul_add];omega]
    omega
   have ch:=a5l (e6 s).length n (e6 s) E s.rows.length (yK (fun _=>0) f k) q row b (-(E.G k)) hfr hrow (by rw [O1];have:=hB k hlt;omega) by1
   have e:a62 (yK (fun _=>0) f k) row (-(O5 b (-(E.G k))))=yK (fun _=>0) f (k+1):=by rw [aq3 (s:=s) (w:=E.F k) (by omega) hfr,a3J,hf]
   rw [e,show ((q:Nat):Int)=(E.F k:Int) - n by omega] at ch
   conv=>whnf
   repeat' first|(refine zd ?_ ?_<;>intro h<;>first|exact zc h|(exfalso;omega)|conv=>whnf)|((first|refine zz ?_|refine qp ng ?_|refine D4 rfl hlt ?_|refine a2a rfl hlt ?_|refine .inr ⟨_,_,ch,?_⟩|refine zy ?_);conv=>whnf)
   all_goals first
    |(exfalso;omega)
    |exact ⟨hlt,trivial,[some 0],rfl,rfl,⟨j7 (i7 _),trivial⟩,⟨rfl,⟨rfl,rfl,rfl,fun h=>h⟩,rfl,rfl,e7 (by omega),trivial⟩⟩
 ·have hke:k=n:=by omega
  subst hke
  conv=>whnf
  repeat' first|(refine zd ?_ ?_<;>intro h<;>first|exact zc h|(exfalso;omega)|conv=>whnf)|((first|refine zz ?_|refine zy ?_);conv=>whnf)
  all_goals first
   |(exfalso;omega)
   |exact ⟨[some 0],rfl,rfl,⟨j7 (i7 _),trivial⟩,⟨rfl,rfl,rfl,fun h=>h⟩⟩
set_option maxHeartbeats 2000000 in
theorem an3 (s:i8) (n r:Nat) (hn:s.n=n) (E:Fd) (hP:Q5 (e6 s).length n E) (hr:r<(e6 s).length) (B:Nat) (hB:∀j,j<n→rl (E.A r j)≤B) (hB1:1≤B) (hBn:(n+3)*(B+2)≤50000) (hm:(e6 s).length≤100000) (hR:s.rows.length≤1000) (hn1:n≤1000):
 b9 Tryz.prog 203 [dT (e6 s).length n (e6 s) E,a9 .i64 s.rows.length,a9 .i64 r] [] (.c (.own 0 0 s.rows.length true)) [flB (rF s.rows.length (a6Z s E r))]:=by
 have m1:(a0b n E.F).length=n:=v6 _ _
 have hnn:s.n.toNat=n:=by omega
 have z0:∀H:Hp,H.length=0→U4 Tryz.prog 254 [a9 .i64 s.rows.length] H (.c (.own 0 0 s.rows.length true)) [flB (rF s.rows.length fun _=>0)]:=fun H hH=>Z3 hH hR
 have i1:=G9 1 (by decide) (by decide)
 have eBn:(n+3)*(B+2)=n*(B+1)+n+3*(B+2):=by rw [Nat.add_mul,show n*(B+2)=n*(B+1)+n by rw [Nat.mul_add,Nat.mul_add];omega]
 have eB:B≤50000:=by omega
 obtain ⟨f,hf⟩:∃f:Nat→Nat→Rat,f=fun j=>chg s (E.F j) (E.A r j):=⟨_,rfl⟩
 obtain ⟨z,hz⟩:∃z:Nat→Rat,z=chg s (E.O r) 1:=⟨_,rfl⟩
 have zb:∀i,rl (z i)≤B:=fun i=>by rw [hz];exact an9 (by have:=rl1;omega) hB1
 have e9:a6Z s E r=yK z f n:=by
  funext i;unfold a6Z yK;rw [hf,hnn,hz]
 rw [e9]
 have hob:=hP.ob r hr
 by_cases ho:E.O r<n
 ·have ez:z=fun _=>0:=by rw [hz,a7I (by omega)]
  (refine a8 a7 Tryz.func203 rfl (by decide) ?_;(conv=>whnf);repeat ((first|refine b0x ?_|refine zy ?_);conv=>whnf))
  repeat' first|(refine zd ?_ ?_<;>intro h<;>first|exact zc h|(exfalso;omega)|conv=>whnf)|((first|refine zz ?_|refine .inl ⟨_,_,z0 _ rfl,?_⟩|refine D4 rfl hr ?_|refine zy ?_);conv=>whnf)
  all_goals try (exfalso;omega)
  refine f8 a7 (fun k=>([dT (e6 s).length n (e6 s) E,J,a9 .i64 r,J,J,J,J,S.c (C.own 0 0 s.rows.length true),J,J,J,J,J,J,J,J,J,J,J,J,J,J,J,J,J,J,J,J,J,J,J,J,J,J,J,J,J,J,J,a4A n E.F,a9 .i64 n,a9 .i64 k,J,J,J,J,J,J,J,J,J,J,J,J,J,J,J,J,J,J,J,J,J,J,J,J,J,J,J,J,J,J,J,J],[flB (rF s.rows.length (yK z f k))])) n (fun _=>True) [some 0] trivial
   ⟨rfl,rfl,⟨b8 (rows:=(rF s.rows.length z).map m6) rfl rfl rfl (by rw [ez]) ?_,trivial⟩,⟨j3 rfl,e7 rfl,⟨rfl,rfl,rfl,fun h=>h⟩,j3 rfl,e7 (by omega),e7 rfl,trivial⟩⟩ ?_
  ·rw [C5 (g:=yK z f 0) (h:=z) fun j hj=>by unfold yK;simp only [g7,O4];grind]
  intro k hk _
  by_cases hlt:k<n
  ·have ba:=hB k hlt
   by_cases ho2:E.F k<n
   ·have e:yK z f (k+1)=yK z f k:=by
     rw [a3J,hf];funext i
     have e0:chg s (E.F k) (E.A r k) i=0:=by rw [a7I (by omega)]
     show _+chg s (E.F k) (E.A r k) i=_
     rw [e0];grind
    conv=>whnf
    repeat' first|(refine zd ?_ ?_<;>intro h<;>first|exact zc h|(exfalso;omega)|conv=>whnf)|((first|refine zz ?_|refine D4 rfl hlt ?_|refine zy ?_);conv=>whnf)
    all_goals first
     |(exfalso;omega)
     |exact ⟨hlt,trivial,[some 0],rfl,rfl,⟨b8 (rows:=(rF s.rows.length (yK z f k)).map m6) rfl rfl rfl rfl (by rw [e]),trivial⟩,⟨rfl,rfl,⟨rfl,rfl,rfl,fun h=>h⟩,rfl,rfl,e7 (by omega),trivial⟩⟩
   ·have hfb:=hP.fb k hlt
    obtain ⟨q2,hq2⟩:∃q2,E.F k=n+q2:=⟨E.F k - n,by omega⟩
    obtain ⟨⟨row2,b2⟩,hfr2⟩:∃x,(e6 s)[q2]? =some x:=⟨_,lg0 (by omega)⟩
    have hrow2:row2<s.rows.length:=a5T hfr2
    have by1:rl (yK z f k row2)≤50000:=by
     have h1:=a7Q (f:=fun j=>f j row2) (B:=B) k fun j hj=>by rw [hf];exact an9 (hB j (by omega)) hB1
     have h2:=Y0 (z row2) (g7 (fun j=>f j row2) k)
     have h3:=zb row2
     have:k*(B+1)≤n*(B+1):=Nat.mul_le_mul_right _ (by omega)
     unfold yK
     omega
    have ch2:=a5l (e6 s).length n (e6 s) E s.rows.length (yK z f k) q2 row2 b2 (E.A r k) hfr2 hrow2 (by omega) by1
    have e:a62 (yK z f k) row2 (-(O5 b2 (E.A r k)))=yK z f (k+1):=by rw [aq3 (s:=s) (w:=E.F k) (by omega) hfr2,a3J,hf]
    rw [e,show ((q2:Nat):Int)=(E.F k:Int) - n by omega] at ch2
    conv=>whnf
    repeat' first|(refine zd ?_ ?_<;>intro h<;>first|exact zc h|(exfalso;omega)|conv=>whnf)|((first|refine zz ?_|refine D4 rfl hlt ?_|refine a04 rfl hr ?_|refine a2a rfl hlt ?_|refine .inr ⟨_,_,ch2,?_⟩|refine zy ?_);conv=>whnf)
    all_goals first
     |(exfalso;omega)
     |exact ⟨hlt,trivial,[some 0],rfl,rfl,⟨j7 (i7 _),trivial⟩,⟨rfl,rfl,⟨rfl,rfl,rfl,fun h=>h⟩,rfl,rfl,e7 (by omega),trivial⟩⟩
  ·have hke:k=n:=by omega
   subst hke
   conv=>whnf
   repeat' first|(refine zd ?_ ?_<;>intro h<;>first|exact zc h|(exfalso;omega)|conv=>whnf)|((first|refine zz ?_|refine zy ?_);conv=>whnf)
   all_goals first
    |(exfalso;omega)
    |exact ⟨[some 0],rfl,rfl,⟨j7 (i7 _),trivial⟩,⟨rfl,rfl,rfl,fun h=>h⟩⟩
 ·obtain ⟨q,hq⟩:∃q,E.O r=n+q:=⟨E.O r - n,by omega⟩
  obtain ⟨⟨row,b⟩,hfr⟩:∃x,(e6 s)[q]? =some x:=⟨_,lg0 (by omega)⟩
  have hrow:row<s.rows.length:=a5T hfr
  have ch:=a5l (e6 s).length n (e6 s) E s.rows.length (fun _=>0) q row b 1 hfr hrow (by have:=rl1;omega) (by have:=rl0;omega)
  have e:rF s.rows.length (a62 (fun _=>0) row (-(O5 b 1)))=rF s.rows.length z:=C5 fun j hj=>by
   rw [aq3 (s:=s) (w:=E.O r) (by omega) hfr,hz];grind
  rw [e,show ((q:Nat):Int)=(E.O r:Int) - n by omega] at ch
  have ch:b9 Tryz.prog 263 [dT (e6 s).length n (e6 s) E,.c (.own 0 0 s.rows.length true),a9 .i64 ((E.O r:Int) - n),frS (fz ((1:Int):Rat))] [flB (rF s.rows.length fun _=>0)] (.tup []) [flB (rF s.rows.length z)]:=ch
  (refine a8 a7 Tryz.func203 rfl (by decide) ?_;(conv=>whnf);repeat ((first|refine b0x ?_|refine zy ?_);conv=>whnf))
  repeat' first|(refine zd ?_ ?_<;>intro h<;>first|exact zc h|(exfalso;omega)|conv=>whnf)|((first|refine zz ?_|refine qp i1 ?_|refine .inl ⟨_,_,z0 _ rfl,?_⟩|refine D4 rfl hr ?_|refine .inr ⟨_,_,ch,?_⟩|refine zy ?_);conv=>whnf)
  all_goals try (exfalso;omega)
  refine f8 a7 (fun k=>([dT (e6 s).length n (e6 s) E,J,a9 .i64 r,J,J,J,J,S.c (C.own 0 0 s.rows.length true),J,J,J,J,J,J,J,J,J,J,J,J,J,J,J,J,J,J,J,J,J,J,J,J,J,J,J,J,J,J,J,a4A n E.F,a9 .i64 n,a9 .i64 k,J,J,J,J,J,J,J,J,J,J,J,J,J,J,J,J,J,J,J,J,J,J,J,J,J,J,J,J,J,J,J,J],[flB (rF s.rows.length (yK z f k))])) n (fun _=>True) [some 0] trivial
   ⟨rfl,rfl,⟨b8 (rows:=(rF s.rows.length z).map m6) rfl rfl rfl (rfl) ?_,trivial⟩,⟨j3 rfl,e7 rfl,⟨rfl,rfl,rfl,fun h=>h⟩,j3 rfl,e7 (by omega),e7 rfl,trivial⟩⟩ ?_
  ·rw [C5 (g:=yK z f 0) (h:=z) fun j hj=>by unfold yK;simp only [g7,O4];grind]
  intro k hk _
  by_cases hlt:k<n
  ·have ba:=hB k hlt
   by_cases ho2:E.F k<n
   ·have e:yK z f (k+1)=yK z f k:=by
     rw [a3J,hf];funext i
     have e0:chg s (E.F k) (E.A r k) i=0:=by rw [a7I (by omega)]
     show _+chg s (E.F k) (E.A r k) i=_
     rw [e0];grind
    conv=>whnf
    repeat' first|(refine zd ?_ ?_<;>intro h<;>first|exact zc h|(exfalso;omega)|conv=>whnf)|((first|refine zz ?_|refine D4 rfl hlt ?_|refine zy ?_);conv=>whnf)
    all_goals first
     |(exfalso;omega)
     |exact ⟨hlt,trivial,[some 0],rfl,rfl,⟨b8 (rows:=(rF s.rows.length (yK z f k)).map m6) rfl rfl rfl rfl (by rw [e]),trivial⟩,⟨rfl,rfl,⟨rfl,rfl,rfl,fun h=>h⟩,rfl,rfl,e7 (by omega),trivial⟩⟩
   ·have hfb:=hP.fb k hlt
    obtain ⟨q2,hq2⟩:∃q2,E.F k=n+q2:=⟨E.F k - n,by omega⟩
    obtain ⟨⟨row2,b2⟩,hfr2⟩:∃x,(e6 s)[q2]? =some x:=⟨_,lg0 (by omega)⟩
    have hrow2:row2<s.rows.length:=a5T hfr2
    have by1:rl (yK z f k row2)≤50000:=by
     have h1:=a7Q (f:=fun j=>f j row2) (B:=B) k fun j hj=>by rw [hf];exact an9 (hB j (by omega)) hB1
     have h2:=Y0 (z row2) (g7 (fun j=>f j row2) k)
     have h3:=zb row2
     have:k*(B+1)≤n*(B+1):=Nat.mul_le_mul_right _ (by omega)
     unfold yK
     omega
    have ch2:=a5l (e6 s).length n (e6 s) E s.rows.length (yK z f k) q2 row2 b2 (E.A r k) hfr2 hrow2 (by omega) by1
    have e:a62 (yK z f k) row2 (-(O5 b2 (E.A r k)))=yK z f (k+1):=by rw [aq3 (s:=s) (w:=E.F k) (by omega) hfr2,a3J,hf]
    rw [e,show ((q2:Nat):Int)=(E.F k:Int) - n by omega] at ch2
    conv=>whnf
    repeat' first|(refine zd ?_ ?_<;>intro h<;>first|exact zc h|(exfalso;omega)|conv=>whnf)|((first|refine zz ?_|refine D4 rfl hlt ?_|refine a04 rfl hr ?_|refine a2a rfl hlt ?_|refine .inr ⟨_,_,ch2,?_⟩|refine zy ?_);conv=>whnf)
    all_goals first
     |(exfalso;omega)
     |exact ⟨hlt,trivial,[some 0],rfl,rfl,⟨j7 (i7 _),trivial⟩,⟨rfl,rfl,⟨rfl,rfl,rfl,fun h=>h⟩,rfl,rfl,e7 (by omega),trivial⟩⟩
  ·have hke:k=n:=by omega
   subst hke
   conv=>whnf
   repeat' first|(refine zd ?_ ?_<;>intro h<;>first|exact zc h|(exfalso;omega)|conv=>whnf)|((first|refine zz ?_|refine zy ?_);conv=>whnf)
   all_goals first
    |(exfalso;omega)
    |exact ⟨[some 0],rfl,rfl,⟨j7 (i7 _),trivial⟩,⟨rfl,rfl,rfl,fun h=>h⟩⟩
end
section
open Go.RowKit
def a57 (ρ:List (Option Nat)) (H:Hp):Env→Env→Prop
 |[],[]=>True
 |s::r,s'::r'=>match s' with
  |.junk=>a57 ρ H r r'
  |s'=>(a49 ρ H s s'∨VYS H (fun id=>K3 ρ id=true) s s')∧a57 ρ H r r'
 |_,_=>False
theorem a57.rel {ρ:List (Option Nat)} {H:Hp}:∀{env env':Env},a57 ρ H env env'→env.length=env'.length∧∀(t:Nat) (s':S),env'[t]? =some s'→∃s,env[t]? =some s∧(a49 ρ H s s'∨VYS H (fun id=>K3 ρ id=true) s s')
 |[],[],_=>⟨rfl,by simp⟩
 |s::r,s'::r',h=>by
  have h':(a49 ρ H s s'∨VYS H (fun id=>K3 ρ id=true) s s')∧a57 ρ H r r':=by
   cases s' with
   |junk=>exact ⟨.inl trivial,h⟩
   |_=>exact h
  obtain ⟨h1,h2⟩:=a57.rel h'.2
  refine ⟨by simp [h1],fun t s'' ht=>?_⟩
  cases t with
  |zero=>simp at ht;subst ht;exact ⟨s,rfl,h'.1⟩
  |succ t=>simpa using h2 t s'' (by simpa using ht)
 |[],_::_,h=>h.elim
 |_::_,[],h=>h.elim
structure b3S (n0:Nat) (ρ:List (Option Nat)) (env:Env) (H:Hp) (env':Env) (H':Hp):Prop where
 k:a0A ρ n0=true
 n:P4 ρ H'=true
 h:a2L ρ H ρ H'
 e:a57 ρ H env env'
theorem b3S.sim {n0:Nat} {ρ:List (Option Nat)} {env env':Env} {H H':Hp} (h:b3S n0 ρ env H env' H') {w0:World} {ι0:Io} {M0:Ms} {H0:Hp} {a:Act} {w:World} (hn:H0.length=n0) (hM0:MB w0 M0)
 (hs:Sim w0 ι0 M0 H0 a w env H):Sim w0 ι0 M0 H0 a w env' H':=by
 obtain ⟨h1,h2,h3,h4⟩:=h
 obtain ⟨ι,M,hd,hsz,he,hH,hM,hF,hst⟩:=hs
 obtain ⟨hel,heg⟩:=a57.rel h4
 obtain ⟨q1,q2,q3⟩:=a2L.all h1 h2 h3 hn hM0 hH hst
 refine ⟨O3 ρ ι,_,hd,by omega,fun t s' ht=>?_,q1,fun b hb=>hM b hb.1,q2,q3⟩
 obtain ⟨s,r1,r2⟩:=heg t s' ht
 rcases r2 with r2|r2
 ·exact r2.rs hH (he t s r1)
 ·refine r2.rs hH (fun b hb=>hb.1) ?_ (he t s r1)
  intro id k b cap size hp hk hd hi hb
  exact hb.2 ⟨id,k,cap,size,hp,hk,hd,hi⟩
theorem a56 {P:Program} {τ:Tab} (hτ:z7 P τ) {n0:Nat} {x y:Code} {env:Env} {H:Hp} {Q:AX→Env→Hp→Prop} (E2:Env) (H2:Hp)
 (h:a5I P τ n0 x env H fun a env' H'=>match a with
   |.normal=>∃ρ,b3S n0 ρ env' H' E2 H2
   |a=>Q a env' H') (h2:Awp P n0 y E2 H2 Q):Awp P n0 (.seq x y) env H Q:=by
 refine ⟨fun w0 ι0 M0 H0 a w hn hM hs=>?_⟩
 refine wp_seq (wp_mono ((x6 hτ x h).out w0 ι0 M0 H0 a w hn hM hs) ?_)
 rintro e a' w' ⟨x,env',H',rfl,hq,hs'⟩
 cases x with
 |normal=>obtain ⟨ρ,he⟩:=hq;exact h2.out w0 ι0 M0 H0 a' w' hn hM (he.sim hn hM hs')
 |exit id=>exact ⟨_,env',H',rfl,hq,hs'⟩
 |ret=>exact ⟨_,env',H',rfl,hq,hs'⟩
theorem aX7 {P:Program} {n0:Nat} {c:Operand} {t e:Code} {env:Env} {H:Hp} {Q:AX→Env→Hp→Prop} {b:Bool} (hb:E8 env c=f7 b) (h:Awp P n0 (cond b t e) env H Q):Awp P n0 (.cond c t e) env H Q:=by
 refine ⟨fun w0 ι0 M0 H0 a w hn hM hs=>?_⟩
 have hs0:=hs
 obtain ⟨ι,M,hd,hsz,he,hH,hMB,hF,hst⟩:=hs
 have hv:=(he.ev.to hb).inv_atm
 refine wp_cond hv ?_
 cases b with
 |true=>exact h.out w0 ι0 M0 H0 a w hn hM hs0
 |false=>exact h.out w0 ι0 M0 H0 a w hn hM hs0
theorem b2n {m n:Nat} {fr:List (Nat × Bool)} {D:Fd} {X:Hp} {p:Nat→Prop} (hp:∀i,i<m+6→p i):VY (I5 m n fr D.V D.G D.O D.F D.A X) p (.own 1 0 m true) (.sl 5 .any (a7m m n D)):=by
 refine b1S (k:=a05 6 m n D.V) (hp _ (by omega)) rfl (fun h=>h) rfl (a3Q m n D) ?_ ?_
 ·intro r hr
  obtain ⟨i,_,rfl⟩:=List.mem_map.1 hr
  rfl
 ·intro i r hi
  have him:i<m:=by have:=(lg1 hi).1;rwa [a3Q] at this
  rw [a6l him] at hi
  injection hi with hi
  subst hi
  refine ⟨_,a1z him,?_⟩
  show VYL _ _ ((m6 (fz (D.V i))).map C.t++[C.own (i+6) 0 n true]) _
  have hv:VY (I5 m n fr D.V D.G D.O D.F D.A X) p (C.own (i+6) 0 n true) (T.sl 4 .any ((rF n (D.A i)).map m6)):=
   .vc (v5 (k:=flB (rF n (D.A i))) (hp _ (by omega)) (I9 (N9 him)) (fun h=>h) rfl rfl (by simp [L9]))
  exact aj1 (ys:=[C.own (i+6) 0 n true]) (us:=[T.sl 4 .any ((rF n (D.A i)).map m6)]) (show _∧True from ⟨hv,trivial⟩)
theorem a7R {m n:Nat} {fr:List (Nat × Bool)} {D:Fd} {X:Hp} {p:Nat→Prop} (hp:∀i,i<m+6→p i):VY (I5 m n fr D.V D.G D.O D.F D.A X) p (.ptr 0 0 0) (.ptr (b3y m n fr D)):=by
 refine aq6 (k:=aK7 m n fr.length) (hp _ (by omega)) rfl (fun h=>h) rfl ⟨b3E,b2n hp,?_,?_,?_,?_,trivial⟩
 ·exact .vc (v5 (k:=flB (rF n D.G)) (hp _ (by omega)) rfl (fun h=>h) rfl rfl (by simp [L9]))
 ·exact .vc (v5 (k:=U7 m D.O) (hp _ (by omega)) rfl (fun h=>h) rfl rfl (by simp [v6]))
 ·exact .vc (v5 (k:=U7 n D.F) (hp _ (by omega)) rfl (fun h=>h) rfl rfl (by simp [v6]))
 ·exact .vc (v5 (k:=a0V fr) (hp _ (by omega)) rfl (fun h=>h) rfl rfl (by simp [X5]))
abbrev b6f (m n k:Nat):Blk:={ mode:=.live,elem:=256,size:=6,rows:=[[C.t (ti n),.own 2 0 m true,.own 3 0 n true,.own 4 0 m true,.own 5 0 n true,.own 6 0 k true]],box:=true }
abbrev b4y (m n:Nat) (fr:List (Nat × Bool)) (D:Fd) (b:Blk):Hp:=
 b::b6f m n fr.length::a05 7 m n D.V::flB (rF n D.G)::U7 m D.O::U7 n D.F::a0V fr::(mF m n D.A).map flB
theorem b2K {N i:Nat} (h:i<N):(a2h [] 1 N).getD i 0=i+1:=by
 unfold a2h
 rw [List.nil_append,lg3,List.getElem?_map,List.getElem?_range h]
 show 1+i=i+1
 omega
theorem b4W {σ:List Nat} (ts:List T) (l:List C):a0G σ (ts.map C.t++l)=ts.map C.t++a0G σ l:=by
 rw [K7,K7,List.map_append,List.map_map]
 congr 1
theorem a7P {s:i8} {g:List (Int × Rat)} {n:Nat} (b:Blk) (h:b9 Tryz.prog 199 [U9 s,m7 g] [] (.c (.ptr 0 0 0)) (W1 (e6 s).length n (e6 s) (g8 s g))):
 b9 Tryz.prog 199 [U9 s,m7 g] [b] (.c (.ptr 1 0 0)) (b4y (e6 s).length n (e6 s) (g8 s g) b):=by
 have hlen:(W1 (e6 s).length n (e6 s) (g8 s g)).length=(e6 s).length+6:=a1H
 have hl:∀k ∈ W1 (e6 s).length n (e6 s) (g8 s g),k.mode=.live:=by
  intro k hk
  simp only [List.mem_cons] at hk
  rcases hk with rfl|rfl|rfl|rfl|rfl|rfl|hk
  ·rfl
  ·rfl
  ·rfl
  ·rfl
  ·rfl
  ·rfl
  ·obtain ⟨l,_,rfl⟩:=List.mem_map.1 hk;rfl
 have hsub:(W1 (e6 s).length n (e6 s) (g8 s g)).length - ([]:Hp).length=(e6 s).length+6:=by rw [hlen];simp
 have g1:∀i,i<(e6 s).length+6→(a2h [] ([b]:Hp).length ((W1 (e6 s).length n (e6 s) (g8 s g)).length - ([]:Hp).length)).getD i 0=i+1:=fun i hi=>by
  rw [hsub];exact b2K hi
 refine P3 [] h rfl rfl rfl List.nodup_nil (by simp) (fun k hk=>by rw [hl k hk];intro h;cases h) (by simp) rfl ?_ (by rw [hsub];simp [d7];omega) ?_ ?_
 ·show S.c (.ptr 1 0 0)=S.c (.ptr _ 0 0)
  rw [g1 0 (by omega)]
 ·intro i k hk
  have hi:i<(e6 s).length+6:=by rw [← hlen];exact (lg1 hk).1
  rw [g1 i hi]
  rcases i with _|_|_|_|_|_|i
  ·injection hk with hk;subst hk
   refine ⟨_,rfl,rfl,rfl,rfl,rfl,?_⟩
   simp only [a6r,List.map_cons,List.map_nil,a0G,U8]
   rw [g1 1 (by omega),g1 2 (by omega),g1 3 (by omega),g1 4 (by omega),g1 5 (by omega)]
  ·injection hk with hk;subst hk
   refine ⟨_,rfl,rfl,rfl,rfl,rfl,?_⟩
   unfold a6r
   show P2 7 _ _ _=(P2 6 _ _ _).map _
   unfold P2
   rw [List.map_map]
   refine List.map_congr_left fun j hj=>?_
   have hj:=List.mem_range.1 hj
   show _=a0G _ ((m6 (fz ((g8 s g).V j))).map C.t++[C.own (j+6) 0 n true])
   rw [b4W]
   simp only [a0G,U8]
   rw [g1 (j+6) (by omega)]
   rfl
  ·injection hk with hk;subst hk;exact ⟨_,rfl,E0 rfl⟩
  ·injection hk with hk;subst hk;exact ⟨_,rfl,E0 rfl⟩
  ·injection hk with hk;subst hk;exact ⟨_,rfl,E0 rfl⟩
  ·injection hk with hk;subst hk;exact ⟨_,rfl,E0 rfl⟩
  ·have hk:((mF (e6 s).length n (g8 s g).A).map flB)[i]? =some k:=hk
   refine ⟨k,hk,?_⟩
   obtain ⟨l,_,rfl⟩:=List.mem_map.1 (lg2 hk)
   exact E0 rfl
 ·intro j hj _
  have:j=0:=by simpa using hj
  subst this;rfl
def fS (m:Nat):Nat→Nat:=fun i=>if i<m+6 then i+1 else 0
theorem a5u {m n:Nat} {fr:List (Nat × Bool)} {D:Fd} {b:Blk} {env env':Env} {H:Hp} (hb:G8 b.rows) (hH:H=b4y m n fr D b) (hE:a06 (fR (m+7) (fS m)) H env env'):
 Ent 0 (fR (m+7) (fS m)) env H env' (I5 m n fr D.V D.G D.O D.F D.A [b]):=by
 subst hH
 have fa:∀i,i<m+6→fS m i=i+1:=fun i hi=>by unfold fS;rw [if_pos hi]
 refine aG7 (by simp [d7]) (by omega) (fun i hi=>by omega) (fun i j hi hj h=>by unfold fS at h;(repeat' split at h)<;>omega) ?_ hE
 intro i k' hk
 rcases i with _|_|_|_|_|_|i
 ·injection hk with hk;subst hk
  rw [fa 0 (by omega)]
  exact ⟨_,rfl,rfl,rfl,rfl,.inr ⟨⟨rfl,⟨by rw [x7 (by omega),fa _ (by omega)],rfl,rfl,fun h=>h⟩,⟨by rw [x7 (by omega),fa _ (by omega)],rfl,rfl,fun h=>h⟩,⟨by rw [x7 (by omega),fa _ (by omega)],rfl,rfl,fun h=>h⟩,⟨by rw [x7 (by omega),fa _ (by omega)],rfl,rfl,fun h=>h⟩,⟨by rw [x7 (by omega),fa _ (by omega)],rfl,rfl,fun h=>h⟩,trivial⟩,trivial⟩⟩
 ·injection hk with hk;subst hk
  rw [fa 1 (by omega)]
  refine ⟨_,rfl,a0H (h:=fun i=>i+7) (h':=fun i=>i+6) fun j hj=>?_⟩
  rw [x7 (by omega),fa _ (by omega)]
 ·injection hk with hk;subst hk;rw [fa 2 (by omega)];exact ⟨_,rfl,j7 (i7 _)⟩
 ·injection hk with hk;subst hk;rw [fa 3 (by omega)];exact ⟨_,rfl,j7 (i7 _)⟩
 ·injection hk with hk;subst hk;rw [fa 4 (by omega)];exact ⟨_,rfl,j7 (i7 _)⟩
 ·injection hk with hk;subst hk;rw [fa 5 (by omega)];exact ⟨_,rfl,j7 (i7 _)⟩
 ·have hk:((mF m n D.A).map flB++[b])[i]? =some k':=hk
  by_cases hi:i<m
  ·rw [I9 (N9 hi)] at hk
   injection hk with hk;subst hk
   rw [fa _ (by omega)]
   refine ⟨flB (rF n (D.A i)),?_,j7 (i7 _)⟩
   show ((mF m n D.A).map flB)[i]? =_
   rw [List.getElem?_map,N9 hi];rfl
  ·obtain ⟨t,rfl⟩:∃t,i=m+t:=⟨i - m,by omega⟩
   rw [a0Z (d7 _ _ _)] at hk
   rcases t with _|t
   ·injection hk with hk;subst hk
    have:fS m (m+0+6)=0:=by unfold fS;rw [if_neg (by omega)]
    rw [this]
    exact ⟨_,rfl,j7 hb⟩
   ·simp at hk
theorem a3W {m n:Nat} {fr:List (Nat × Bool)} {D E:Fd} {r:S} (X:Hp) (hr:ae6 r=true) (hr':r.isT=true) (h:b9 Tryz.prog 200 [.c (.ptr 0 0 0)] (W1 m n fr D) r (W1 m n fr E)):
 b9 Tryz.prog 200 [.c (.ptr 0 0 0)] (I5 m n fr D.V D.G D.O D.F D.A X) r (I5 m n fr E.V E.G E.O E.F E.A X):=by
 have hl:∀{D:Fd},∀k ∈ W1 m n fr D,k.mode=.live∧k.app=false:=by
  intro D k hk
  simp only [List.mem_cons] at hk
  rcases hk with rfl|rfl|rfl|rfl|rfl|rfl|hk
  ·exact ⟨rfl,rfl⟩
  ·exact ⟨rfl,rfl⟩
  ·exact ⟨rfl,rfl⟩
  ·exact ⟨rfl,rfl⟩
  ·exact ⟨rfl,rfl⟩
  ·exact ⟨rfl,rfl⟩
  ·obtain ⟨l,_,rfl⟩:=List.mem_map.1 hk
   exact ⟨rfl,rfl⟩
 exact a76 (n:=m+6) X h a1H a1H (by simp [okS,okC,Nat.blt_eq]) (fun k hk=>⟨(hl k hk).1,(hl k hk).2,a5g k hk⟩) (fun k hk=>⟨(by rw [(hl k hk).1];intro h;cases h),a5g k hk⟩) hr hr'
end
section
open Go.RowKit
theorem b1u (l:List (Int × Rat)) (z:List Rat) (hl:l.length≤1000000) (h1:∀t ∈ l,rl t.2≤20000) (h2:∀v ∈ z,rl v≤40000) (hS:∀k,rl (k7 (l.take k) z)≤60000) (hz:z.length≤1000000) (hr:j1 (-1) z.length l=true):
 b9 Tryz.prog 110 [m7 l,p8 (z.map fz)] [] (frS (fz (k7 l z))) []:=by
 have m1:(l.map o7).length=l.length:=by simp
 have m2:((z.map fz).map m6).length=z.length:=by simp
 have i0:=G9 0 (by decide) (by decide)
 (refine a8 a7 Tryz.func110 rfl (by decide) ?_;(conv=>whnf);repeat ((first|refine b0x ?_|refine zy ?_);conv=>whnf))
 repeat' first|(refine zd ?_ ?_<;>intro h<;>first|exact zc h|(exfalso;omega)|conv=>whnf)|((first|refine zz ?_|refine qp i0 ?_|refine zy ?_);conv=>whnf)
 refine f8 a7 (fun k=>([J,p8 (z.map fz),J,J,S.c (C.ptr 0 0 0),S.c (C.ptr 1 0 0),J,J,J,J,J,m7 l,a9 .i64 l.length,a9 .i64 k,J,J,J,J,J,J,J,J,J,J,J,J,J,J,J,J,J,J,J,J,J,J],[frB E7,frB (fz (k7 (l.take k) z))])) l.length (fun _=>True) [some 0,some 1] trivial
  ⟨rfl,rfl,⟨⟨rfl,rfl,rfl,.inr ⟨⟨rfl,rfl,rfl,rfl,trivial⟩,trivial⟩⟩,⟨rfl,rfl,rfl,.inl ⟨rfl,L6 _⟩⟩,trivial⟩,⟨rfl,⟨rfl,rfl,rfl⟩,⟨rfl,rfl,rfl⟩,rfl,e7 (by simp),rfl,trivial⟩⟩ ?_
 intro k hk _
 by_cases hlt:k<l.length
 ·obtain ⟨t,ht⟩:∃t,l[k]? =some t:=⟨_,lg0 hlt⟩
  obtain ⟨v,c⟩:=t
  have hv:=a64 hr _ (lg2 ht)
  simp only at hv
  have bc:=h1 _ (lg2 ht)
  simp only at bc
  obtain ⟨x,hx⟩:∃x,z[v.toNat]? =some x:=⟨_,lg0 (by omega)⟩
  have hxd:z.getD v.toNat 0=x:=by rw [lg3,hx];rfl
  have bx:=h2 x (lg2 hx)
  have b3:=a4O c x
  have bs:=hS k
  have mu:=aD0 c x (by omega) (by omega)
  have ad:=a2P (k7 (l.take k) z) (c*x) (by omega) (by omega)
  have e:k7 (l.take k) z+c*x=k7 (l.take (k+1)) z:=by
   have:l.take (k+1)=l.take k++[(v,c)]:=by rw [List.take_add_one,ht];rfl
   rw [this,L4,←hxd]
  rw [e] at ad
  have xz:(z.map fz)[v.toNat]? =some (fz x):=by rw [List.getElem?_map,hx];rfl
  conv=>whnf
  repeat' first|(refine zd ?_ ?_<;>intro h<;>first|exact zc h|(exfalso;omega)|conv=>whnf)|((first|refine zz ?_|refine qp mu ?_|refine qp ad ?_|refine qp 10 ?_|refine qp 5 ?_|refine d9 ht ?_|refine C1 (by omega) xz ?_|refine bl0 [10] ?_|refine bl0 [5] ?_|refine zy ?_);conv=>whnf)
  all_goals first
   |(exfalso;omega)
   |exact ⟨hlt,trivial,[some 0,some 1],rfl,rfl,⟨⟨rfl,rfl,rfl,.inl ⟨rfl,L6 _⟩⟩,⟨rfl,rfl,rfl,.inl ⟨rfl,L6 _⟩⟩,trivial⟩,⟨rfl,⟨rfl,rfl,rfl⟩,⟨rfl,rfl,rfl⟩,rfl,rfl,rfl,trivial⟩⟩
 ·have hke:k=l.length:=by omega
  subst hke
  rw [lg4 (Nat.le_refl _)]
  conv=>whnf
  repeat' first|(refine zd ?_ ?_<;>intro h<;>first|exact zc h|(exfalso;omega)|conv=>whnf)|((first|refine zz ?_|refine zy ?_);conv=>whnf)
  all_goals first
   |(exfalso;omega)
   |exact aQ1 rfl
theorem ah8 (z:List Rat):(z.map fz).all D2=true:=by
 rw [List.all_eq_true];intro f hf
 obtain ⟨x,_,rfl⟩:=List.mem_map.1 hf
 exact a5H x
theorem b0k (l:List (Int × Rat)) (z:List Rat) (hl:l.length≤1000000) (h1:∀t ∈ l,rl t.2≤200) (h2:∀v ∈ z,rl v≤40000) (hS:∀k,rl (k7 (l.take k) z)≤60000) (hz:z.length≤1000000) (hr:j1 (-1) z.length l=true):
 b9 Tryz.prog 158 [m7 l,p8 (z.map fz)] [] (.tup [frS (fz (k7 l z)),f7 true]) []:=by
 have m2:((z.map fz).map m6).length=z.length:=by simp
 have rt:=P9 l z.length hl h1
 rw [decide_eq_true (by omega),hr] at rt
 have pt:=b35 (z.map fz) (by simpa using hz) (fun f hf=>by
  obtain ⟨x,hx,rfl⟩:=List.mem_map.1 hf
  have:=h2 x hx
  have a:=E5 x
  have b:=F4 x
  exact ⟨by show bl x.num≤_;omega,by show bl x.den≤_;omega⟩)
 rw [ah8] at pt
 have va:=b1u l z hl (fun t ht=>by have:=h1 t ht;omega) h2 hS hz hr
 have rt2:b9 Tryz.prog 161 [m7 l,a9 .i64 (((z.map fz).map m6).length:Nat)] [] (f7 (true && true)) []:=by rw [m2];exact rt
 (refine a8 a7 Tryz.func158 rfl (by decide) ?_;(conv=>whnf);repeat ((first|refine b0x ?_|refine zy ?_);conv=>whnf))
 repeat' first|(refine zd ?_ ?_<;>intro h<;>first|exact zc h|(exfalso;omega)|conv=>whnf)|((first|refine zz ?_|refine qp rt2 ?_|refine qp pt ?_|refine qp va ?_|refine zy ?_);conv=>whnf)
 all_goals first
  |(exfalso;simp_all;done)
  |exact k8 ⟨⟨rfl,rfl,rfl,rfl,trivial⟩,rfl,trivial⟩
end
section
open Go.RowKit
structure C2 (s:i8) (g:List (Int × Rat)) (n B:Nat):Prop where
 o:b4d s g n
 sb:a6I s
 gb:∀t ∈ g,rl t.2≤200
 bd:∀D,V5 (e6 s).length n (g8 s g) D→BdD (e6 s).length n B D
 b1:1≤B
 bn:(n+3)*(B+2)≤50000
 r:s.rows.length≤1000
theorem C2.nn {s:i8} {g:List (Int × Rat)} {n B:Nat} (h:C2 s g n B):s.n.toNat=n:=by have:=h.o.en;omega
theorem C2.bb {s:i8} {g:List (Int × Rat)} {n B:Nat} (h:C2 s g n B):B≤17000:=by
 have h1:=h.bn
 have:(n+3)*(B+2)=n*(B+2)+3*(B+2):=by rw [Nat.add_mul]
 omega
theorem C2.m {s:i8} {g:List (Int × Rat)} {n B:Nat} (h:C2 s g n B):(e6 s).length≤2000:=by
 have:=a3T (s:=s) s.rows.length
 have:=h.r
 show (J7 s s.rows.length).length≤_
 omega
abbrev bO (cells:List C):Blk:={ mode:=.live,elem:=168,size:=8,rows:=[cells],box:=true }
abbrev z8:List C:=[.t (ti 0),.t (ti 0),.t (.sl 0 .nil []),.t (ti 0),.t (.sl 0 .nil []),.t (.sl 0 .nil []),.t (.sl 0 .nil []),.t (.sl 0 .nil [])]
theorem au1:G8 (bO z8).rows:=i7 [[ti 0,ti 0,.sl 0 .nil [],ti 0,.sl 0 .nil [],.sl 0 .nil [],.sl 0 .nil [],.sl 0 .nil []]]
theorem a0q {s:i8} {g:List (Int × Rat)} {n B:Nat} (h:C2 s g n B):
 b9 Tryz.prog 200 [.c (.ptr 0 0 0)] (W1 (e6 s).length n (e6 s) (g8 s g)) (.tup [a9 .i64 (aG1 (I6 s g)).1,a9 .i64 (aG1 (I6 s g)).2]) (W1 (e6 s).length n (e6 s) (m9 s g)):=by
 have hn:=h.nn
 subst hn
 have hm:=h.m
 exact b0U _ _ (e6 s) (g8 s g) _ (by omega) h.o.n1 a1U (fun D hD=>by
  have hb:=h.bd D hD
  have hB:=h.bb
  exact ⟨fun i hi=>by have:=hb.v i hi;omega,fun i hi j hj=>by have:=hb.a i hi j hj;omega,fun j hj=>by have:=hb.g j hj;omega⟩)
theorem a96 {s:i8} {g:List (Int × Rat)} {n B:Nat} (h:C2 s g n B):(j2 s g).length=n:=by unfold j2;rw [H8];exact h.nn
theorem a72 {s:i8} {g:List (Int × Rat)} {n B:Nat} (h:C2 s g n B):b9 Tryz.prog 201 [dT (e6 s).length n (e6 s) (m9 s g)] [] (p8 ((j2 s g).map fz)) []:=by
 have hn:=h.nn
 subst hn
 exact b0B _ _ _ _ J2.p (by have:=h.m;omega) h.o.n1
theorem a6s {s:i8} {g:List (Int × Rat)} {n B:Nat} (h:C2 s g n B):BdD (e6 s).length n B (m9 s g):=by
 have hn:=h.nn
 subst hn
 exact h.bd _ (a38 a1U).1
theorem ap9 {s:i8} {g:List (Int × Rat)} {n B:Nat} (h:C2 s g n B) (H:Hp):U4 Tryz.prog 204 [dT (e6 s).length n (e6 s) (m9 s g),a9 .i64 s.rows.length] H (.c (.own H.length 0 s.rows.length true)) [flB (rF s.rows.length (A0 s (m9 s g)))]:=by
 have hb:=a6s h
 have hp:Q5 (e6 s).length n (m9 s g):=by have hn:=h.nn;subst hn;exact J2.p
 refine a6W (b1n s n h.o.en (m9 s g) hp B hb.g h.b1 ?_ (by have:=h.m;omega) h.r h.o.n1) rfl rfl (i7 _)
 have:=h.bn
 have:(n+3)*(B+2)=(n+2)*(B+2)+(B+2):=by rw [show n+3=(n+2)+1 by omega,Nat.succ_mul]
 omega
theorem a43 {i m:Nat} (h:i<m):K3 [some m] i=true:=by
 unfold K3
 have:Nat.beq m i=false:=by
  cases hb:Nat.beq m i with
  |false=>rfl
  |true=>have:=Nat.eq_of_beq_eq_true hb;omega
 rw [this];rfl
theorem aj8 {m n:Nat} {fr:List (Nat × Bool)} {D:Fd} {env env':Env} (b:Blk) (hb:G8 b.rows) (hE:a57 [some (m+6)] (I5 m n fr D.V D.G D.O D.F D.A [b]) env env'):b3S 0 [some (m+6)] env (I5 m n fr D.V D.G D.O D.F D.A [b]) env' [b]:=by
 refine ⟨rfl,?_,a48 rfl fun i k' hk=>?_,hE⟩
 ·simp only [P4,a3t];cases b.mode<;>rfl
 ·rcases i with _|i
  ·injection hk with hk;subst hk
   exact ⟨m+6,_,rfl,a0Z (t:=0) (d7 _ _ _),j7 hb⟩
  ·simp at hk
set_option maxHeartbeats 4000000 in
theorem a2p (s:i8) (g:List (Int × Rat)) (n B:Nat) (h:C2 s g n B) (hout:I6 s g=.best) (hS:∀k,rl (k7 (g.take k) (j2 s g))≤60000) (hpt:∀v ∈ j2 s g,rl v≤40000):
 b9 Tryz.prog 130 [U9 s,m7 g] [] (.tup [.agg (C.t (ti 0)::frC (fz (k7 g (j2 s g)))++[.t (T7 ((j2 s g).map fz)),.own 0 0 s.rows.length true,.t (.sl 0 .nil [])]),a9 .i64 0]) [flB (rF s.rows.length (A0 s (m9 s g)))]:=by
 have hn:=h.nn
 have hm:=h.m
 have hr1:=h.r
 have hgl:=C8 h.o.tg
 have hn1:=h.o.n1
 have lr:=a8R s h.sb
 rw [h.o.r] at lr
 have rt:=P9 g s.n (by have:=h.o.n1;omega) h.gb
 rw [h.o.en,decide_eq_true (by omega),h.o.tg,←h.o.en] at rt
 have op:=a7P (bO z8) (ap8 s g n h.o)
 have se:=a0q h
 rw [hout] at se
 have m1:(s.rows.map y4).length=s.rows.length:=by simp
 have pt:=a72 h
 have va:=b0k g (j2 s g) (by omega) h.gb hpt hS (by rw [a96 h];omega) (by rw [a96 h];exact h.o.tg)
 have pr:∀H:Hp,U4 Tryz.prog 204 [dT (e6 s).length n (e6 s) (m9 s g),a9 .i64 ((s.rows.map y4).length:Nat)] H (.c (.own H.length 0 s.rows.length true)) [flB (rF s.rows.length (A0 s (m9 s g)))]:=by rw [m1];exact ap9 h
 (refine a3K a7 Tryz.func130 rfl (by decide) ?_;refine E3 a7 ?_;(conv=>whnf);repeat ((first|refine b0x ?_|refine zy ?_);conv=>whnf))
 repeat' first|(refine zd ?_ ?_<;>intro h<;>first|exact zc h|(exfalso;omega)|conv=>whnf)|((first|refine zz ?_|refine b0x ?_|refine zy ?_);conv=>whnf)
 (refine E3 a7 ?_;conv=>whnf)
 repeat' first|(refine zd ?_ ?_<;>intro h<;>first|exact zc h|(exfalso;omega)|conv=>whnf)|((first|refine zz ?_|refine qp lr ?_|refine qp rt ?_|refine zy ?_);conv=>whnf)
 all_goals try (exfalso;simp_all;done)
 refine Z7 a7 ([J,m7 g,S.c (C.t (T.ptr (a7w s))),J,S.c (C.ptr ((e6 s).length+6) 0 0),a9 .i64 0,S.c (C.ptr 0 0 0),J,J,J,J,J,J,J,J,J,J,J,J,J,J,J,J,J,J,J,J,J,J,J,J,J,J,J,J,J,J,J,J,J,J,J,J,J,J,J,J,J,J,J,J,J,J,J,J,J,J,J,J,J,J,J,J,J,J,J,J,J,J,J,J,J,J,J,J,J,J,J]) (I5 (e6 s).length n (e6 s) (g8 s g).V (g8 s g).G (g8 s g).O (g8 s g).F (g8 s g).A [bO z8]) ?_ ?_
 ·conv=>whnf
  repeat' first|(refine zd ?_ ?_<;>intro h<;>first|exact zc h|(exfalso;omega)|conv=>whnf)|((first|refine zz ?_|refine .inr ⟨_,_,op,?_⟩|refine E4 ?_|refine zy ?_);conv=>whnf)
  exact ⟨_,a5u au1 rfl ⟨rfl,j3 rfl,⟨by rw [x7 (by omega)];simp [fS],rfl,rfl⟩,rfl,⟨by rw [x7 (by omega)];simp [fS],rfl,rfl⟩,trivial⟩⟩
 refine a56 a7 ([J,m7 g,S.c (C.t (T.ptr (a7w s))),J,S.c (C.ptr 0 0 0),a9 .i64 0,dT (e6 s).length n (e6 s) (m9 s g),a9 .i64 (-1),a9 .i64 (-1),J,J,J,J,J,J,J,J,J,J,J,J,J,J,J,J,J,J,J,J,J,J,J,J,J,J,J,J,J,J,J,J,J,J,J,J,J,J,J,J,J,J,J,J,J,J,J,J,J,J,J,J,J,J,J,J,J,J,J,J,J,J,J,J,J,J,J,J,J]) [bO z8] ?_ ?_
 ·have si:=a3W [bO z8] rfl rfl se
  conv=>whnf
  repeat' first|(refine zd ?_ ?_<;>intro h<;>first|exact zc h|(exfalso;omega)|conv=>whnf)|((first|refine zz ?_|refine qp 4 ?_|refine .inr ⟨_,_,si,?_⟩|refine k5 ?_|refine bl0 [4] ?_|refine zy ?_);conv=>whnf)
  exact ⟨_,aj8 (bO z8) au1 ⟨.inl (j3 rfl),.inl (j3 rfl),.inl ⟨rfl,rfl,rfl⟩,.inl rfl,.inr (a7R fun i hi=>a43 hi),.inl rfl,.inl rfl,trivial⟩⟩
 (refine E3 a7 ?_;conv=>whnf)
 repeat' first|(refine zd ?_ ?_<;>intro h<;>first|exact zc h|(exfalso;omega)|conv=>whnf)|((first|refine zz ?_|refine zy ?_);conv=>whnf)
 all_goals try (exfalso;omega)
 (refine E3 a7 ?_;conv=>whnf)
 repeat' first|(refine zd ?_ ?_<;>intro h<;>first|exact zc h|(exfalso;omega)|conv=>whnf)|((first|refine zz ?_|refine zy ?_);conv=>whnf)
 all_goals try (exfalso;omega)
 (refine E3 a7 ?_;conv=>whnf)
 repeat' first|(refine zd ?_ ?_<;>intro h<;>first|exact zc h|(exfalso;omega)|conv=>whnf)|((first|refine zz ?_|refine qp pt ?_|refine zy ?_);conv=>whnf)
 (refine E3 a7 ?_;conv=>whnf)
 repeat' first|(refine zd ?_ ?_<;>intro h<;>first|exact zc h|(exfalso;omega)|conv=>whnf)|((first|refine zz ?_|refine qp va ?_|refine qp 4 ?_|refine qp 5 ?_|refine bl0 [4] ?_|refine bl0 [5] ?_|refine zy ?_);conv=>whnf)
 (refine E3 a7 ?_;conv=>whnf)
 repeat' first|(refine zd ?_ ?_<;>intro h<;>first|exact zc h|(exfalso;omega)|conv=>whnf)|((first|refine zz ?_|refine .inl ⟨_,_,pr _,?_⟩|refine zy ?_);conv=>whnf)
 refine x6 a7 _ ?_
 conv=>whnf
 repeat' first|(refine zd ?_ ?_<;>intro h<;>first|exact zc h|(exfalso;omega)|conv=>whnf)|((first|refine zz ?_|refine zy ?_);conv=>whnf)
 exact ⟨[some 2],rfl,rfl,⟨j7 (i7 _),trivial⟩,⟨⟨rfl,rfl,rfl,rfl,rfl,rfl,⟨rfl,rfl,rfl,fun h=>h⟩,rfl,trivial⟩,rfl,trivial⟩⟩
end
section
open Go.RowKit
theorem a4T {P:Program} {g:FuncId} {args args':List S} {H H':Hp} {r:S} (h:b9 P g args' H r H') (hl:args.length=args'.length)
 (hw:∀(w:World) (ι:Io) (M:Ms) (j:Nat) (s s':S) (v:Value),args[j]? =some s→args'[j]? =some s'→RS w ι M s v→RS w ι M s' v):b9 P g args H r H':=by
 refine ⟨h.1,fun w ι M vals hl2 hv hH hM hf=>h.2 w ι M vals (by omega) (fun j s' hj=>?_) hH hM hf⟩
 have hlt:=(lg1 hj).1
 exact hw w ι M j _ s' _ (lg0 (by omega)) hj (hv j _ (lg0 (by omega)))
theorem b1D {s:i8} {n:Nat} (b:Blk) (h:b9 Tryz.prog 199 [U9 s,m7 []] [] (.c (.ptr 0 0 0)) (W1 (e6 s).length n (e6 s) (g8 s []))):
 b9 Tryz.prog 199 [U9 s,.c (.t (.sl 0 .nil []))] [b] (.c (.ptr 1 0 0)) (b4y (e6 s).length n (e6 s) (g8 s []) b):=by
 refine a4T (a7P b h) rfl fun w ι M j x y v hx hy hr=>?_
 rcases j with _|_|j
 ·injection hx with hx;injection hy with hy;subst hx hy;exact hr
 ·injection hx with hx;injection hy with hy;subst hx hy
  cases hr with
  |c hr=>cases hr with
   |t hr=>exact .c (.t (hr.weak rfl))
 ·simp at hx
theorem a6h {s:i8} {g:List (Int × Rat)} {n B r:Nat} (h:C2 s g n B) (hr:r<(e6 s).length) (H:Hp):U4 Tryz.prog 203 [dT (e6 s).length n (e6 s) (m9 s g),a9 .i64 s.rows.length,a9 .i64 r] H (.c (.own H.length 0 s.rows.length true)) [flB (rF s.rows.length (a6Z s (m9 s g) r))]:=by
 have hb:=a6s h
 have hp:Q5 (e6 s).length n (m9 s g):=by have hn:=h.nn;subst hn;exact J2.p
 exact a6W (an3 s n r h.o.en (m9 s g) hp hr B (hb.a r hr) h.b1 h.bn (by have:=h.m;omega) h.r h.o.n1) rfl rfl (i7 _)
theorem aV5 {s:i8} {g:List (Int × Rat)} {n B c:Nat} (h:C2 s g n B) (hc:c<n):b9 Tryz.prog 202 [dT (e6 s).length n (e6 s) (m9 s g),a9 .i64 c] [] (p8 ((a61 s g c).map fz)) []:=by
 have hb:=a6s h
 have hB:=h.bb
 have hn:=h.nn
 subst hn
 exact b4x _ _ _ _ c hc J2.p (by have:=h.m;omega) h.o.n1 (fun i hi=>by have:=hb.a i hi c hc;omega)
abbrev b5w:List C:=frC E7
set_option maxHeartbeats 4000000 in
theorem aw1 (s:i8) (g:List (Int × Rat)) (n B r:Nat) (h:C2 s g n B) (hout:I6 s g=.row r):
 b9 Tryz.prog 130 [U9 s,m7 g] [] (.tup [.agg (C.t (ti 1)::b5w++[.t (.sl 0 .nil []),.own 0 0 s.rows.length true,.t (.sl 0 .nil [])]),a9 .i64 0]) [flB (rF s.rows.length (a6Z s (m9 s g) r))]:=by
 have hn:=h.nn
 have hm:=h.m
 have hr1:=h.r
 have hgl:=C8 h.o.tg
 have hn1:=h.o.n1
 have hrm:r<(e6 s).length:=by have:=(aB0 hout).1;exact this
 have lr:=a8R s h.sb
 rw [h.o.r] at lr
 have rt:=P9 g s.n (by have:=h.o.n1;omega) h.gb
 rw [h.o.en,decide_eq_true (by omega),h.o.tg,←h.o.en] at rt
 have op:=a7P (bO z8) (ap8 s g n h.o)
 have se:=a0q h
 rw [hout] at se
 have m1:(s.rows.map y4).length=s.rows.length:=by simp
 have rf:∀H:Hp,U4 Tryz.prog 203 [dT (e6 s).length n (e6 s) (m9 s g),a9 .i64 ((s.rows.map y4).length:Nat),a9 .i64 r] H (.c (.own H.length 0 s.rows.length true)) [flB (rF s.rows.length (a6Z s (m9 s g) r))]:=by rw [m1];exact a6h h hrm
 (refine a3K a7 Tryz.func130 rfl (by decide) ?_;refine E3 a7 ?_;(conv=>whnf);repeat ((first|refine b0x ?_|refine zy ?_);conv=>whnf))
 repeat' first|(refine zd ?_ ?_<;>intro h<;>first|exact zc h|(exfalso;omega)|conv=>whnf)|((first|refine zz ?_|refine b0x ?_|refine zy ?_);conv=>whnf)
 (refine E3 a7 ?_;conv=>whnf)
 repeat' first|(refine zd ?_ ?_<;>intro h<;>first|exact zc h|(exfalso;omega)|conv=>whnf)|((first|refine zz ?_|refine qp lr ?_|refine qp rt ?_|refine zy ?_);conv=>whnf)
 all_goals try (exfalso;simp_all;done)
 refine Z7 a7 ([J,m7 g,S.c (C.t (T.ptr (a7w s))),J,S.c (C.ptr ((e6 s).length+6) 0 0),a9 .i64 0,S.c (C.ptr 0 0 0),J,J,J,J,J,J,J,J,J,J,J,J,J,J,J,J,J,J,J,J,J,J,J,J,J,J,J,J,J,J,J,J,J,J,J,J,J,J,J,J,J,J,J,J,J,J,J,J,J,J,J,J,J,J,J,J,J,J,J,J,J,J,J,J,J,J,J,J,J,J,J]) (I5 (e6 s).length n (e6 s) (g8 s g).V (g8 s g).G (g8 s g).O (g8 s g).F (g8 s g).A [bO z8]) ?_ ?_
 ·conv=>whnf
  repeat' first|(refine zd ?_ ?_<;>intro h<;>first|exact zc h|(exfalso;omega)|conv=>whnf)|((first|refine zz ?_|refine .inr ⟨_,_,op,?_⟩|refine E4 ?_|refine zy ?_);conv=>whnf)
  exact ⟨_,a5u au1 rfl ⟨rfl,j3 rfl,⟨by rw [x7 (by omega)];simp [fS],rfl,rfl⟩,rfl,⟨by rw [x7 (by omega)];simp [fS],rfl,rfl⟩,trivial⟩⟩
 refine a56 a7 ([J,m7 g,S.c (C.t (T.ptr (a7w s))),J,S.c (C.ptr 0 0 0),a9 .i64 0,dT (e6 s).length n (e6 s) (m9 s g),a9 .i64 r,a9 .i64 (-1),J,J,J,J,J,J,J,J,J,J,J,J,J,J,J,J,J,J,J,J,J,J,J,J,J,J,J,J,J,J,J,J,J,J,J,J,J,J,J,J,J,J,J,J,J,J,J,J,J,J,J,J,J,J,J,J,J,J,J,J,J,J,J,J,J,J,J,J,J]) [bO z8] ?_ ?_
 ·have si:=a3W [bO z8] rfl rfl se
  conv=>whnf
  repeat' first|(refine zd ?_ ?_<;>intro h<;>first|exact zc h|(exfalso;omega)|conv=>whnf)|((first|refine zz ?_|refine qp 4 ?_|refine .inr ⟨_,_,si,?_⟩|refine k5 ?_|refine bl0 [4] ?_|refine zy ?_);conv=>whnf)
  exact ⟨_,aj8 (bO z8) au1 ⟨.inl (j3 rfl),.inl (j3 rfl),.inl ⟨rfl,rfl,rfl⟩,.inl rfl,.inr (a7R fun i hi=>a43 hi),.inl rfl,.inl rfl,trivial⟩⟩
 (refine E3 a7 ?_;conv=>whnf)
 repeat' first|(refine zd ?_ ?_<;>intro h<;>first|exact zc h|(exfalso;omega)|conv=>whnf)|((first|refine zz ?_|refine zy ?_);conv=>whnf)
 all_goals try (exfalso;omega)
 (refine E3 a7 ?_;conv=>whnf)
 repeat' first|(refine zd ?_ ?_<;>intro h<;>first|exact zc h|(exfalso;omega)|conv=>whnf)|((first|refine zz ?_|refine .inl ⟨_,_,rf _,?_⟩|refine zy ?_);conv=>whnf)
 all_goals first
  |(exfalso;omega)
  |exact ⟨[some 1],rfl,rfl,⟨j7 (i7 _),trivial⟩,⟨⟨rfl,rfl,rfl,rfl,rfl,rfl,⟨rfl,rfl,rfl,fun h=>h⟩,rfl,trivial⟩,rfl,trivial⟩⟩
theorem aV7 {P:Program} {n0:Nat} {c:Operand} {t e:Code} {env:Env} {H:Hp} {Q:AX→Env→Hp→Prop} (hb:E8 env c=f7 true) (h:Awp P n0 t env H Q):Awp P n0 (.cond c t e) env H Q:=aX7 hb h
set_option maxHeartbeats 4000000 in
theorem ak6 (s:i8) (g:List (Int × Rat)) (n B B0 c:Nat) (h:C2 s g n B) (h0:C2 s [] n B0) (hout:I6 s g=.col c) (hout0:I6 s []=.best):
 b9 Tryz.prog 130 [U9 s,m7 g] [] (.tup [.agg (C.t (ti 2)::b5w++[.t (T7 ((j2 s []).map fz)),.t (.sl 0 .nil []),.t (T7 ((a61 s g c).map fz))]),a9 .i64 0]) []:=by
 have hn:=h.nn
 have hm:=h.m
 have hr1:=h.r
 have hgl:=C8 h.o.tg
 have hn1:=h.o.n1
 have hcn:c<n:=by have:=(a5b hout).1;omega
 have lr:=a8R s h.sb
 rw [h.o.r] at lr
 have rt:=P9 g s.n (by have:=h.o.n1;omega) h.gb
 rw [h.o.en,decide_eq_true (by omega),h.o.tg,←h.o.en] at rt
 have op:=a7P (bO z8) (ap8 s g n h.o)
 have se:=a0q h
 rw [hout] at se
 have op0:=b1D (bO z8) (ap8 s [] n h0.o)
 have se0:=a0q h0
 rw [hout0] at se0
 have m1:(s.rows.map y4).length=s.rows.length:=by simp
 have pt:=a72 h0
 have ra:=aV5 h hcn
 (refine a3K a7 Tryz.func130 rfl (by decide) ?_;refine E3 a7 ?_;(conv=>whnf);repeat ((first|refine b0x ?_|refine zy ?_);conv=>whnf))
 repeat' first|(refine zd ?_ ?_<;>intro h<;>first|exact zc h|(exfalso;omega)|conv=>whnf)|((first|refine zz ?_|refine b0x ?_|refine zy ?_);conv=>whnf)
 (refine E3 a7 ?_;conv=>whnf)
 repeat' first|(refine zd ?_ ?_<;>intro h<;>first|exact zc h|(exfalso;omega)|conv=>whnf)|((first|refine zz ?_|refine qp lr ?_|refine qp rt ?_|refine zy ?_);conv=>whnf)
 all_goals try (exfalso;simp_all;done)
 refine Z7 a7 ([J,m7 g,S.c (C.t (T.ptr (a7w s))),J,S.c (C.ptr ((e6 s).length+6) 0 0),a9 .i64 0,S.c (C.ptr 0 0 0),J,J,J,J,J,J,J,J,J,J,J,J,J,J,J,J,J,J,J,J,J,J,J,J,J,J,J,J,J,J,J,J,J,J,J,J,J,J,J,J,J,J,J,J,J,J,J,J,J,J,J,J,J,J,J,J,J,J,J,J,J,J,J,J,J,J,J,J,J,J,J]) (I5 (e6 s).length n (e6 s) (g8 s g).V (g8 s g).G (g8 s g).O (g8 s g).F (g8 s g).A [bO z8]) ?_ ?_
 ·conv=>whnf
  repeat' first|(refine zd ?_ ?_<;>intro h<;>first|exact zc h|(exfalso;omega)|conv=>whnf)|((first|refine zz ?_|refine .inr ⟨_,_,op,?_⟩|refine E4 ?_|refine zy ?_);conv=>whnf)
  exact ⟨_,a5u au1 rfl ⟨rfl,j3 rfl,⟨by rw [x7 (by omega)];simp [fS],rfl,rfl⟩,rfl,⟨by rw [x7 (by omega)];simp [fS],rfl,rfl⟩,trivial⟩⟩
 refine a56 a7 ([J,m7 g,S.c (C.t (T.ptr (a7w s))),J,S.c (C.ptr 0 0 0),a9 .i64 0,dT (e6 s).length n (e6 s) (m9 s g),a9 .i64 (-1),a9 .i64 c,J,J,J,J,J,J,J,J,J,J,J,J,J,J,J,J,J,J,J,J,J,J,J,J,J,J,J,J,J,J,J,J,J,J,J,J,J,J,J,J,J,J,J,J,J,J,J,J,J,J,J,J,J,J,J,J,J,J,J,J,J,J,J,J,J,J,J,J,J]) [bO z8] ?_ ?_
 ·have si:=a3W [bO z8] rfl rfl se
  conv=>whnf
  repeat' first|(refine zd ?_ ?_<;>intro h<;>first|exact zc h|(exfalso;omega)|conv=>whnf)|((first|refine zz ?_|refine qp 4 ?_|refine .inr ⟨_,_,si,?_⟩|refine k5 ?_|refine bl0 [4] ?_|refine zy ?_);conv=>whnf)
  exact ⟨_,aj8 (bO z8) au1 ⟨.inl (j3 rfl),.inl (j3 rfl),.inl ⟨rfl,rfl,rfl⟩,.inl rfl,.inr (a7R fun i hi=>a43 hi),.inl rfl,.inl rfl,trivial⟩⟩
 refine a9q ?_
 refine E3 a7 ?_
 conv=>whnf
 repeat' first|(refine zd ?_ ?_<;>intro h<;>first|exact zc h|(exfalso;omega)|conv=>whnf)|((first|refine zz ?_|refine zy ?_);conv=>whnf)
 all_goals try (exfalso;omega)
 refine aV7 rfl ?_
 refine Z7 a7 ([J,m7 g,S.c (C.t (T.ptr (a7w s))),J,S.c (C.ptr ((e6 s).length+6) 0 0),a9 .i64 0,dT (e6 s).length n (e6 s) (m9 s g),a9 .i64 (-1),a9 .i64 c,S.c (C.ptr 0 0 0),J,J,J,J,J,J,J,J,J,J,J,J,J,J,J,J,J,J,J,J,J,J,J,J,J,J,J,J,J,J,J,J,J,J,J,J,J,J,J,J,J,J,J,J,J,J,J,J,J,J,J,J,J,J,J,J,J,J,J,J,J,J,J,J,J,J,J,J]) (I5 (e6 s).length n (e6 s) (g8 s []).V (g8 s []).G (g8 s []).O (g8 s []).F (g8 s []).A [bO z8]) ?_ ?_
 ·conv=>whnf
  repeat' first|(refine zd ?_ ?_<;>intro h<;>first|exact zc h|(exfalso;omega)|conv=>whnf)|((first|refine zz ?_|refine .inr ⟨_,_,op0,?_⟩|refine E4 ?_|refine zy ?_);conv=>whnf)
  exact ⟨_,a5u au1 rfl ⟨rfl,j3 rfl,⟨by rw [x7 (by omega)];simp [fS],rfl,rfl⟩,rfl,j3 rfl,rfl,rfl,⟨by rw [x7 (by omega)];simp [fS],rfl,rfl⟩,trivial⟩⟩
 refine a56 a7 ([J,m7 g,S.c (C.t (T.ptr (a7w s))),J,S.c (C.ptr 0 0 0),a9 .i64 0,dT (e6 s).length n (e6 s) (m9 s g),a9 .i64 (-1),a9 .i64 c,dT (e6 s).length n (e6 s) (m9 s []),a9 .i64 (-1),a9 .i64 (-1),J,J,J,J,J,J,J,J,J,J,J,J,J,J,J,J,J,J,J,J,J,J,J,J,J,J,J,J,J,J,J,J,J,J,J,J,J,J,J,J,J,J,J,J,J,J,J,J,J,J,J,J,J,J,J,J,J,J,J,J,J,J,J,J,J,J]) [bO z8] ?_ ?_
 ·have si:=a3W [bO z8] rfl rfl se0
  conv=>whnf
  repeat' first|(refine zd ?_ ?_<;>intro h<;>first|exact zc h|(exfalso;omega)|conv=>whnf)|((first|refine zz ?_|refine qp 4 ?_|refine .inr ⟨_,_,si,?_⟩|refine k5 ?_|refine bl0 [4] ?_|refine zy ?_);conv=>whnf)
  exact ⟨_,aj8 (bO z8) au1 ⟨.inl (j3 rfl),.inl (j3 rfl),.inl ⟨rfl,rfl,rfl⟩,.inl rfl,.inl (j3 rfl),.inl rfl,.inl rfl,.inr (a7R fun i hi=>a43 hi),.inl rfl,.inl rfl,trivial⟩⟩
 refine x6 a7 _ ?_
 conv=>whnf
 repeat' first|(refine zd ?_ ?_<;>intro h<;>first|exact zc h|(exfalso;omega)|conv=>whnf)|((first|refine zz ?_|refine qp pt ?_|refine qp ra ?_|refine zy ?_);conv=>whnf)
 all_goals first
  |(exfalso;omega)
  |exact ⟨[],rfl,rfl,trivial,⟨⟨rfl,rfl,rfl,rfl,rfl,rfl,rfl,rfl,trivial⟩,rfl,trivial⟩⟩
end
section
open Go.RowKit
theorem b3u (e:Ev) (hs:e.Sized) (n:Int) (g:FuncId) (caps:List T) (q:n6→Bool) (hg:∀(k:Nat) (m:n6),e.moves[k]? =some m→y5 e=0→b9 Tryz.prog g (aQ0 m::caps.map fun x=>.c (.t x)) [] (f7 (q m)) []):
 b9 Tryz.prog 132 [evS e,a9 .i64 n,.c (.t (.fn (.func g) caps))] [] (g6 (if y5 e=0 then q9 (fun k m=>decide ((k:Int)<n) && q m) 0 e.moves else [])) []:=by
 have l1:=hs.s2
 have l2:(e.moves.map n6.row).length=e.moves.length:=by simp
 (refine a8 a7 Tryz.func132 rfl (by decide) ?_;(conv=>whnf);repeat (refine zy ?_;conv=>whnf))
 repeat' first|(refine zd ?_ ?_<;>intro h<;>first|exact zc h|(exfalso;omega)|conv=>whnf)|((first|refine zz ?_|refine qp (aQ3 _ hs) ?_|refine zy ?_);conv=>whnf)
 ·refine k8 ?_
  rw [if_neg h]
  exact rfl
 have h0:y5 e=0:=by omega
 rw [if_pos h0]
 let P:Nat→n6→Bool:=fun k m=>decide ((k:Int)<n) && q m
 refine f8 a7 (fun k=>([J,a9 .i64 n,S.c (C.t (T.fn (.func g) caps)),S.c (C.ptr 0 0 0),J,J,J,Y8 1 (L8 P e.moves k),J,J,J,J,J,J,S.c (C.t (a2k e.moves)),a9 .i64 e.moves.length,a9 .i64 k,J,J,J,J,J,J,J,J,J,J,J,J,J,J,J,J,J,J],[evB e,z5 (L8 P e.moves k)])) e.moves.length (fun k=>True) [some 0,none] trivial
  ⟨rfl,rfl,⟨⟨rfl,rfl,rfl,.inl ⟨rfl,k6 e⟩⟩,⟨rfl,rfl⟩,trivial⟩,⟨rfl,rfl,⟨rfl,rfl,rfl⟩,⟨rfl,rfl,rfl⟩,j3 rfl,e7 (by simp),e7 rfl,trivial⟩⟩ ?_
 intro k hk hI
 conv=>whnf
 repeat' first|(refine zd ?_ ?_<;>intro h<;>first|exact zc h|(exfalso;omega)|conv=>whnf)|((first|refine zz ?_|refine zy ?_);conv=>whnf)
 ·have hlt:k<e.moves.length:=by omega
  obtain ⟨x,hx⟩:∃x,e.moves[k]? =some x:=⟨_,lg0 hlt⟩
  refine d9 hx ?_
  conv=>whnf
  have hpl:=a4n P e.moves k
  have ha:(aQ0 x::caps.map fun x=>S.c (C.t x)).all S.isT=true:=by simp [S.isT,C.isT,n6.cs,n6.row]
  repeat' first|(refine zd ?_ ?_<;>intro h<;>first|exact zc h|(exfalso;omega)|conv=>whnf)|((first|refine zz ?_|refine qp toC ?_|refine qp toC ?_|refine .inl ⟨_,_,H5 (hg k x hx h0) ha rfl,?_⟩|refine zz ?_|refine v7 (by simp [toC]) (by simp [toC];omega) ?_|refine zy ?_);conv=>whnf)
  ·have hP:P k x=true:=by simp [P,h];omega
   refine ⟨hlt,trivial,[some 0,some 3],rfl,rfl,⟨⟨rfl,rfl,rfl,.inl ⟨rfl,k6 e⟩⟩,b8 rfl rfl rfl ?_ rfl,trivial⟩,⟨rfl,rfl,⟨rfl,rfl,rfl⟩,k9 rfl ?_,rfl,rfl,rfl,trivial⟩⟩
   ·rw [a25 P hx hP,List.map_append]
    exact (congrArg (fun n=>List.take n (toC ((L8 P e.moves k).map i5))++toC [[ti k]]) (by simp)).trans ax1
   ·rw [a25 P hx hP];simp [toC]
  all_goals
   have hP:P k x=false:=by simp [P];first|(intro hq;omega)|(intro _;assumption)
   refine ⟨hlt,trivial,[some 0,some 1],rfl,rfl,⟨⟨rfl,rfl,rfl,.inl ⟨rfl,k6 e⟩⟩,b8 rfl rfl rfl ?_ rfl,trivial⟩,⟨rfl,rfl,⟨rfl,rfl,rfl⟩,k9 rfl ?_,rfl,rfl,rfl,trivial⟩⟩
   ·rw [a0w P hx hP]
   ·rw [a0w P hx hP]
 ·have hk':q9 P 0 e.moves=L8 P e.moves k:=(a8j P (by omega)).symm
  show Fin 0 _ _ (g6 (q9 P 0 e.moves)) []
  rw [hk']
  exact O2 rfl (by intro h;cases h) rfl rfl (by simp)
end
section
open Go.RowKit
abbrev a3n (n:Int):T:=.ptr [ti n]
theorem aU5 (e:Ev) (hs:e.Sized) (h0:y5 e=0) (m:n6) (hm:m ∈ e.moves) (hh mat lo hi:Int):
 b9 Tryz.prog 133 (aQ0 m::[T.ptr (evT e),a3n hh,a3n mat,a3n lo,a3n hi].map fun x=>.c (.t x)) [] (f7 (a0R e hh mat lo hi m)) []:=by
 have l1:=hs.s1
 have l2:(e.places.map I3.row).length=e.places.length:=by simp
 have hmk:=F6 h0 hm
 have h1:=M3 hmk
 obtain ⟨x,hx⟩:∃x,e.places[m.src.toNat]? =some x:=⟨_,lg0 (by omega)⟩
 (refine a8 a7 Tryz.func133 rfl (by decide) ?_;(conv=>whnf);repeat (refine zy ?_;conv=>whnf))
 repeat' first|(refine zd ?_ ?_<;>intro h<;>first|exact zc h|(exfalso;omega)|conv=>whnf)|((first|refine zz ?_|refine qp (a1D _ _ _) ?_|refine C1 h1.1 hx ?_|refine zy ?_);conv=>whnf)
 all_goals (refine d8 ?_;unfold a0R;rw [hx];simp_all;done)
theorem am4 (e:Ev) (hs:e.Sized) (hh mat lo hi:Int):b9 Tryz.prog 63 [evS e,a9 .i64 hh,a9 .i64 mat,a9 .i64 lo,a9 .i64 hi] [] (g6 (y0 e hh mat lo hi)) []:=by
 have l1:=hs.s2
 have l2:(e.moves.map n6.row).length=e.moves.length:=by simp
 (refine a8 a7 Tryz.func63 rfl (by decide) ?_;(conv=>whnf);repeat (refine zy ?_;conv=>whnf))
 refine .inr ⟨_,_,t8 [0,1,2,3,4] (b3u e hs (e.moves.map n6.row).length 133 [T.ptr (evT e),a3n hh,a3n mat,a3n lo,a3n hi] (a0R e hh mat lo hi) fun k m hm h0=>aU5 e hs h0 m (lg2 hm) hh mat lo hi)
  ⟨b6S e,aj3,a0k (b9d ?_),trivial⟩ rfl,?_⟩
 ·refine a40 (a9n (by simp) rfl (by intro h;cases h) rfl rfl) (a40 (a9n (by simp) rfl (by intro h;cases h) rfl rfl) (a40 (a9n (by simp) rfl (by intro h;cases h) rfl rfl) (a40 (a9n (by simp) rfl (by intro h;cases h) rfl rfl) (a40 (a9n (by simp) rfl (by intro h;cases h) rfl rfl) b2g))))
 conv=>whnf
 repeat' first|(refine zd ?_ ?_<;>intro h<;>first|exact zc h|(exfalso;omega)|conv=>whnf)|((first|refine zz ?_|refine zy ?_);conv=>whnf)
 refine k8 ?_
 have:(if y5 e=0 then q9 (fun k m=>decide ((k:Int)<(e.moves.map n6.row).length) && a0R e hh mat lo hi m) 0 e.moves else [])=y0 e hh mat lo hi:=by
  unfold y0
  split
  ·refine a8F _ e.moves.length (fun k m hk=>?_) 0 (by omega)
   simp;intro _;omega
  ·rfl
 rw [← this]
 exact rfl
end
end Go.Proofs.YtdbogogfeffjlaaGreat
