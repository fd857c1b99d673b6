/- Part 8. -/
import Derived.Test.YtikokmdpigploaaGreatQk7
namespace Go.Proofs.YtikokmdpigploaaGreat
set_option linter.all false
set_option maxRecDepth 100000
set_option maxHeartbeats 8000000
open Go.RowKit
open St1 St2 St3 St4 St5 St6 St7 St8 StA StB StC
def zOf (n:Nat) (y:Nat->Rat):List Rat:=(List.range n).map y
def S8 {n:Nat} {y:Nat->Rat}:(zOf n y).length=n:=by simp [zOf]
def a8e {n:Nat} {y:Nat->Rat} {j:Nat} (h:j<n):(zOf n y).getD j 0=y j:=by simp [zOf,lbl,h]
def a3h {n:Nat} {y:Nat->Rat} {v:Rat} (h:v ∈ zOf n y):∃j,j<n∧v=y j:=by
 obtain ⟨j,hj,rfl⟩:=lby.1 h;exact ⟨j,lbC.1 hj,rfl⟩
def b0R {n:Nat} {l:List (Int × Rat)} (h:j9 (-1) (n:Int) l=true) (y:Nat->Rat):n8 l (zOf n y)=k7 (fun j=>A7 l j*y j) n:=by
 rw [P9 h];exact j7 fun j hj=>by rw [a8e hj]
def L3 {s:j2} (hr:n7 s=true):((s.n.toNat:Nat):Int)=s.n:=by
 unfold n7 at hr;simp only [lbO,lbJ] at hr;omega
def Y4 {s:j2} (hr:n7 s=true) {i:Nat} {w:z7} (hw:s.rows[i]? =some w):j9 (-1) ((s.n.toNat:Nat):Int) w.terms=true∧0<=w.kind∧w.kind<3:=by
 rw [L3 hr];unfold n7 at hr;simp only [lbO,lbw] at hr;have:=hr.2 w (lbm hw);unfold v6 at this;simp only [lbO,lbJ] at this;exact ⟨this.1.1,this.1.2,this.2⟩
def ba3 {s:j2} {g:List (Int × Rat)} (hr:n7 s=true) {y:Nat->Rat} {c:Rat} (hy:Ids (i8 s).length s.n.toNat (j5 s g) y c) {i k:Nat} {b:Bool} {w:z7}
 (hf:(i8 s)[i]? =some (k,b)) (hw:s.rows[k]? =some w):y (s.n.toNat+i)=S0 b (c*w.value - n8 w.terms (zOf s.n.toNat y)):=by
 have hi:i<(i8 s).length:=(lbe.1 hf).1;have h1:y (s.n.toNat+i)=c*(j5 s g).V i - k7 (fun j=>(j5 s g).A i j*y j) s.n.toNat:=hy i hi;have hd:(i8 s).getD i (0,false)=(k,b):=by rw [lbl,hf];rfl
 have hV:(j5 s g).V i=S0 b w.value:=by show a3k s ((i8 s).getD i (0,false))=_;rw [hd];unfold a3k;simp only [hw]
 have hA:∀j,(j5 s g).A i j=S0 b (A7 w.terms j):=fun j=>by show a23 s ((i8 s).getD i (0,false)) j=_;rw [hd];unfold a23;simp only [hw]
 rw [h1,hV,b0R (Y4 hr hw).1];cases b with
 |false=>rw [j7 (g:=fun j=>A7 w.terms j*y j) fun j hj=>by rw [hA j];rfl];rfl
 |true=>
  rw [j7 (g:=fun j=>(-1:Rat)*(A7 w.terms j*y j)) fun j hj=>by rw [hA j];show -(A7 w.terms j)*_=_;grind,G1];show c*-w.value - _=-(c*w.value - _);grind
noncomputable def y8 (s:j2) (g:List (Int × Rat)):Fd:=a4a (i8 s).length s.n.toNat (j5 s g)
noncomputable def X7 (s:j2) (g:List (Int × Rat)):b7A:=u7 (i8 s).length s.n.toNat (y8 s g)
def U0 {s:j2} {g:List (Int × Rat)}:a4J (i8 s).length s.n.toNat (j5 s g) (fun j=>-(A7 g j)) (j5 s g):=⟨b1K,fun _ _=>Iff.rfl,0,b0Y⟩
def O3 {s:j2} {g:List (Int × Rat)}:a4J (i8 s).length s.n.toNat (j5 s g) (fun j=>-(A7 g j)) (y8 s g):=bi8 U0
def a6P (s:j2) (g:List (Int × Rat)):X7 s g=.best∨(∃ r,X7 s g=.row r)∨∃c,X7 s g=.col c:=b6T (a34 U0).2
noncomputable def u9 (s:j2) (g:List (Int × Rat)):List Rat:=zOf s.n.toNat (a0j (i8 s).length s.n.toNat (y8 s g) 1 (fun _=>0))
noncomputable def a1W (s:j2) (g:List (Int × Rat)) (c:Nat):List Rat:=zOf s.n.toNat (a0j (i8 s).length s.n.toNat (y8 s g) 0 (fun j=>if j=c then 1 else 0))
def b1m {s:j2} {g:List (Int × Rat)} {y:Nat->Rat} (hy:Ids (i8 s).length s.n.toNat (j5 s g) y 1):∀w,w<s.n.toNat+(i8 s).length->a7w s g (zOf s.n.toNat y) w=y w:=by
 intro w hw;unfold a7w;split
 ·rename_i h;exact a8e h
 ·have h1:y (s.n.toNat+(w - s.n.toNat))=1*(j5 s g).V (w - s.n.toNat) - k7 (fun j=>(j5 s g).A (w - s.n.toNat) j*y j) s.n.toNat:=hy (w - s.n.toNat) om;rw [show s.n.toNat+(w - s.n.toNat)=w by omega] at h1;rw [h1,j7 (g:=fun j=>(j5 s g).A (w - s.n.toNat) j*y j) fun j hj=>by rw [a8e hj]];grind
def b4u {s:j2} {g:List (Int × Rat)} (hr:n7 s=true) {y:Nat->Rat} (hy:Ids (i8 s).length s.n.toNat (j5 s g) y 1) (hp:b5a (i8 s).length s.n.toNat y):m9 s (zOf s.n.toNat y)=true:=by
 refine (first_holds (g:=g) hr (by rw [S8];exact L3 hr)).2 fun w hw=>?_
 rw [b1m hy w hw];exact hp w hw
def S1 {s:j2} {z:List Rat} (h:m9 s z=true):n7 s=true∧(z.length:Int)=s.n:=by
 unfold m9 at h;simp only [lbO,lbJ] at h;exact ⟨h.1.1.1,h.1.1.2⟩
def ak8 {s:j2} {g:List (Int × Rat)} (hg:j9 (-1) ((s.n.toNat:Nat):Int) g=true) (z:List Rat):k7 (fun j=>-(A7 g j)*a7w s g z j) s.n.toNat=-(n8 g z):=by
 rw [P9 hg z,j7 (g:=fun j=>(-1:Rat)*(A7 g j*z.getD j 0)) fun j hj=>by
  have:a7w s g z j=z.getD j 0:=by unfold a7w;rw [if_pos hj]
  rw [this];grind,G1]
 grind
def a1A {s:j2} {g:List (Int × Rat)} (hr:n7 s=true) (hg:j9 (-1) ((s.n.toNat:Nat):Int) g=true) (h:X7 s g=.best):
 m9 s (u9 s g)=true∧∀z,m9 s z=true->n8 g (u9 s g)<=n8 g z:=by
 obtain ⟨hv,hgj⟩:=aA8 h;have hi:=O3 (s:=s) (g:=g);obtain ⟨v,hv'⟩:=hi.g;obtain ⟨⟨y,h1,h2,h3,h4⟩,h5⟩:=aT8 hi.p hv' hv hgj;have h1':=(hi.i y 1).2 h1;have e:u9 s g=zOf s.n.toNat y:=by unfold u9;rw [h4]
 rw [e];refine ⟨b4u hr h1' h2,fun z hz=>?_⟩;have hx:=h5 (a7w s g z) ((hi.i _ 1).1 (b47 z)) ((first_holds hr (S1 hz).2).1 hz);rw [ak8 hg z] at hx;have h6:k7 (fun j=>-(A7 g j)*y j) s.n.toNat=-(n8 g (zOf s.n.toNat y)):=by
  rw [← ak8 hg];exact j7 fun j hj=>by rw [b1m h1' j om]
 rw [h6] at h3;grind
def aM2 {s:j2} {g:List (Int × Rat)} {r:Nat} (h:X7 s g=.row r):∀z,m9 s z=false:=by
 intro z;cases hz:m9 s z with
 |false=>rfl
 |true=>
  obtain ⟨hr1,hv,ha⟩:=b8S h;have hi:=O3 (s:=s) (g:=g);exact absurd ((first_holds (S1 hz).1 (S1 hz).2).1 hz) (b9S hi.p hr1 hv ha (a7w s g z) ((hi.i _ 1).1 (b47 z)))
structure b5f (s:j2) (d:List Rat):Prop where
 len:d.length=s.n.toNat
 pos:∀v ∈ d,0<=v
 up:∀(k:Nat) (w:z7),s.rows[k]? =some w->w.kind≠0->n8 w.terms d<=0
 down:∀(k:Nat) (w:z7),s.rows[k]? =some w->w.kind≠1->0<=n8 w.terms d
def ah1 {s:j2} {g:List (Int × Rat)} {c:Nat} (hr:n7 s=true) (hg:j9 (-1) ((s.n.toNat:Nat):Int) g=true) (h:X7 s g=.col c):b5f s (a1W s g c)∧n8 g (a1W s g c)<0:=by
 obtain ⟨hc,hgc,ha⟩:=a4c h;have hi:=O3 (s:=s) (g:=g);obtain ⟨v,hv⟩:=hi.g;obtain ⟨y,h1,h2,h3,h4⟩:=ba0 hi.p hv hc hgc ha;have h1':=(hi.i y 0).2 h1;have e:a1W s g c=zOf s.n.toNat y:=by unfold a1W;rw [h4]
 rw [e];have side:∀(k:Nat) (w:z7) (b:Bool),s.rows[k]? =some w->(b=false->w.kind≠0)->(b=true->w.kind≠1)->0<=S0 b (-(n8 w.terms (zOf s.n.toNat y))):=by
  intro k w b hw hb1 hb2;have hm:((k,b):Nat × Bool) ∈ i8 s:=Q1.2 ⟨w,hw,hb1,hb2⟩;obtain ⟨i,hil,hif⟩:=X4 hm;have hf:(i8 s)[i]? =some (k,b):=by rw [lbf hil,hif]
  have:=ba3 hr h1' hf hw;have hp:=h2 (s.n.toNat+i) om;rw [this] at hp;have e2:(0:Rat)*w.value - n8 w.terms (zOf s.n.toNat y)=-(n8 w.terms (zOf s.n.toNat y)):=zg;rw [e2] at hp;exact hp
 refine ⟨⟨S8,fun v hv=>?_,fun k w hw hk=>?_,fun k w hw hk=>?_⟩,?_⟩
 ·obtain ⟨j,hj,rfl⟩:=a3h hv;exact h2 j om
 ·have:0<=-(n8 w.terms (zOf s.n.toNat y)):=side k w false hw (fun _=>hk) (fun h=>by cases h);grind
 ·have:0<=-(-(n8 w.terms (zOf s.n.toNat y))):=side k w true hw (fun h=>by cases h) (fun _=>hk);grind
 ·rw [b0R hg,j7 (g:=fun j=>(-1:Rat)*(-(A7 g j)*y j)) fun j hj=>by grind,G1];grind
def Z3 (x d:List Rat):List Rat:=List.zipWith (·+·) x d
def a1G {x d:List Rat} {n:Nat} (hx:x.length=n) (hd:d.length=n):(Z3 x d).length=n:=by simp [Z3,hx,hd]
def a4e {x d:List Rat} {n j:Nat} (hx:x.length=n) (hd:d.length=n) (hj:j<n):(Z3 x d).getD j 0=x.getD j 0+d.getD j 0:=by
 simp only [Z3,lbl,List.getElem?_zipWith];rw [lbf (show j<x.length by omega),lbf (show j<d.length by omega)]
 rfl
def a2k {x d:List Rat} {n:Nat} {l:List (Int × Rat)} (hx:x.length=n) (hd:d.length=n) (h:j9 (-1) (n:Int) l=true):n8 l (Z3 x d)=n8 l x+n8 l d:=by
 rw [P9 h,P9 h,P9 h,←a1s];exact j7 fun j hj=>by rw [a4e hx hd hj];grind
def b89 {w:z7} {z:List Rat}:Y9 w z=true↔(w.kind≠1->w.value<=n8 w.terms z)∧(w.kind≠0->n8 w.terms z<=w.value):=by
 unfold Y9;simp only [a9W,a1h,lbQ,lbL,lb5];constructor
 ·rintro ⟨h1,h2⟩;exact ⟨fun h=>h1.elim id fun h'=>absurd h h',fun h=>h2.elim id fun h'=>absurd h h'⟩
 ·rintro ⟨h1,h2⟩;refine ⟨?_,?_⟩
  ·by_cases h:w.kind≠1
   ·exact .inl (h1 h)
   ·exact .inr h
  ·by_cases h:w.kind≠0
   ·exact .inl (h2 h)
   ·exact .inr h
def Y3 {s:j2} {z:List Rat}:m9 s z=true↔n7 s=true∧(z.length:Int)=s.n∧(∀ v ∈ z,0<=v)∧∀w ∈ s.rows,(w.kind≠1->w.value<=n8 w.terms z)∧(w.kind≠0->n8 w.terms z<=w.value):=by
 unfold m9;simp only [lbO,lbJ,lbw,b89];constructor
 ·rintro ⟨⟨⟨h1,h2⟩,h3⟩,h4⟩;exact ⟨h1,h2,h3,h4⟩
 ·rintro ⟨h1,h2,h3,h4⟩;exact ⟨⟨⟨h1,h2⟩,h3⟩,h4⟩
def aD6 {s:j2} {x d:List Rat} (hx:m9 s x=true) (hd:b5f s d):m9 s (Z3 x d)=true:=by
 obtain ⟨h1,h2,h3,h4⟩:=Y3.1 hx;have hn:=L3 h1;have hxl:x.length=s.n.toNat:=om;refine Y3.2 ⟨h1,by rw [a1G hxl hd.len];exact hn,fun v hv=>?_,fun w hw=>?_⟩
 ·obtain ⟨j,hj,rfl⟩:=X4 hv;rw [a1G hxl hd.len] at hj;have h5:0<=x[j]:=h3 _ (lbF _);have h6:0<=d[j]'(by rw [hd.len];exact hj):=hd.pos _ (lbF _);simp only [Z3,List.getElem_zipWith];grind
 ·obtain ⟨k,hk,hkw⟩:=X4 hw;have hkw':s.rows[k]? =some w:=by rw [lbf hk,hkw]
  have h7:=a2k hxl hd.len (Y4 h1 hkw').1;obtain ⟨h8,h9⟩:=h4 w hw;rw [h7];exact ⟨fun h=>by have:=h8 h;have:=hd.down k w hkw' h;grind,fun h=>by have:=h9 h;have:=hd.up k w hkw' h;grind⟩
theorem zk {p:Prop} (h:p:=by decide +kernel):p:=h
def b3q {s:j2} (hr:n7 s=true) {c:Nat}:X7 s []≠.col c:=fun h=>by
 have:=(ah1 hr rfl h).2;have h2:n8 [] (a1W s [] c)=((0:Int):Rat):=rfl;rw [h2] at this;exact absurd this zk
def aR4 {s:j2} (hr:n7 s=true):X7 s []=.best↔∃z,m9 s z=true:=by
 constructor
 ·intro h;exact ⟨_,(a1A hr rfl h).1⟩
 ·rintro ⟨z,hz⟩;rcases a6P s [] with h|⟨r,h⟩|⟨c,h⟩
  ·exact h
  ·rw [aM2 h z] at hz;cases hz
  ·exact absurd h (b3q hr)
section
def uV (n:Nat) (D0:Fd) (w:Nat):Nat->Rat
 |0=>if w<n then 0 else D0.V (w - n)
 |l+1=>if w<n then (if w=l then 1 else 0) else -(D0.A (w - n) l)
def uG (g0:Nat->Rat):Nat->Rat
 |0=>0
 |l+1=>g0 l
structure W0 (m n:Nat) (D:Fd):Prop where
 o:∀i,i<m->D.O i=n+i
 f:∀j,j<n->D.F j=j
def muF (n:Nat) (D0 D:Fd):Nat->Nat->Rat
 |0=>a5w 0
 |j+1=>uV n D0 (D.F j)
def b7Z {m n:Nat} {D0:Fd} (h0:W0 m n D0) (l:Nat) (hl:l<n+1):Ids m n D0 (fun w=>uV n D0 w l) (a5w 0 l):=by
 intro i hi;rw [h0.o i hi];rw [j7 (g:=fun j=>D0.A i j*uV n D0 j l) fun j hj=>by rw [h0.f j hj]];cases l with
 |zero=>
  rw [x4 fun j hj=>by show D0.A i j*(if j<n then (0:Rat) else _)=0;rw [if_pos hj];grind];show (if n+i<n then (0:Rat) else D0.V (n+i - n))=a5w 0 0*D0.V i - 0;rw [if_neg om,show n+i - n=i by omega];have:a5w 0 0=1:=rfl;rw [this];grind
 |succ l=>
  rw [j7 (g:=fun j=>if j=l then D0.A i l else 0) fun j hj=>by
   show D0.A i j*(if j<n then (if j=l then (1:Rat) else 0) else _)=_;rw [if_pos hj];by_cases h:j=l
   ·subst h;rw [if_pos rfl,if_pos rfl];grind
   ·rw [if_neg h,if_neg h];grind]
  rw [E1 (s:=l) om,if_pos rfl,x4 fun j hj=>by
   by_cases h:j=l
   ·rw [if_pos h]
   ·rw [if_neg h,if_neg h]]
  show (if n+i<n then _ else -(D0.A (n+i - n) l))=a5w 0 (l+1)*D0.V i - _;rw [if_neg om,show n+i - n=i by omega];have:a5w 0 (l+1)=0:=rfl;rw [this];grind
section
variable {m n:Nat} {D0 D:Fd}
def coV (D:Fd) (i:Nat):Nat->Rat
 |0=>D.V i
 |j+1=>-(D.A i j)
def coG (z:Rat) (D:Fd):Nat->Rat
 |0=>z
 |j+1=>D.G j
def b4a (h0:W0 m n D0) (hI:∀y c,Ids m n D0 y c↔Ids m n D y c) {i:Nat} (hi:i<m):∀l,l<n+1->uV n D0 (D.O i) l=k7 (fun k=>coV D i k*muF n D0 D k l) (n+1):=by
 intro l hl;have h:=(hI _ _).1 (b7Z h0 l hl) i hi;rw [h,a33];show _=D.V i*a5w 0 l+k7 (fun j=>-(D.A i j)*uV n D0 (D.F j) l) n;rw [j7 (f:=fun j=>-(D.A i j)*uV n D0 (D.F j) l) (g:=fun j=>(-1:Rat)*(D.A i j*uV n D0 (D.F j) l)) fun j hj=>by grind,G1];grind
def b9o (h0:W0 m n D0) (hI:∀y c,Ids m n D0 y c↔Ids m n D y c) {g0:Nat->Rat} {z:Rat} (hg:a0g n D g0 m z):∀l,l<n+1->uG g0 l=k7 (fun k=>coG z D k*muF n D0 D k l) (n+1):=by
 intro l hl;have h:=hg _ _ ((hI _ _).1 (b7Z h0 l hl));rw [a33];show _=z*a5w 0 l+k7 (fun j=>D.G j*uV n D0 (D.F j) l) n;have e:k7 (fun j=>g0 j*uV n D0 j l) n=uG g0 l:=by
  cases l with
  |zero=>rw [x4 fun j hj=>by show g0 j*(if j<n then (0:Rat) else _)=0;rw [if_pos hj];grind];rfl
  |succ l=>
   rw [j7 (g:=fun j=>if j=l then g0 l else 0) fun j hj=>by
    show g0 j*(if j<n then (if j=l then (1:Rat) else 0) else _)=_;rw [if_pos hj];by_cases h:j=l
    ·subst h;rw [if_pos rfl,if_pos rfl];grind
    ·rw [if_neg h,if_neg h];grind]
   rw [E1 (s:=l) om,if_pos rfl,x4 fun j hj=>by
    by_cases h:j=l
    ·rw [if_pos h]
    ·rw [if_neg h,if_neg h]]
   show _=g0 l;grind
 rw [← e,h];grind
def b6O (h0:W0 m n D0) (hI:∀y c,Ids m n D0 y c↔Ids m n D y c) {i:Nat} (hi:i<m):J5 (n+1) (F9 (muF n D0 D) 0 (uV n D0 (D.O i)))=D.V i*J5 (n+1) (muF n D0 D):=ar2 (b4a h0 hI hi) (j:=0) om
def b2Z (h0:W0 m n D0) (hI:∀y c,Ids m n D0 y c↔Ids m n D y c) {i j:Nat} (hi:i<m) (hj:j<n):J5 (n+1) (F9 (muF n D0 D) (j+1) (uV n D0 (D.O i)))=-(D.A i j)*J5 (n+1) (muF n D0 D):=ar2 (b4a h0 hI hi) (j:=j+1) om
def b6o (h0:W0 m n D0) (hI:∀y c,Ids m n D0 y c↔Ids m n D y c) {g0:Nat->Rat} {z:Rat} (hg:a0g n D g0 m z) {j:Nat} (hj:j<n):J5 (n+1) (F9 (muF n D0 D) (j+1) (uG g0))=D.G j*J5 (n+1) (muF n D0 D):=ar2 (b9o h0 hI hg) (j:=j+1) om
def aB5 (h0:W0 m n D0):J5 (n+1) (muF n D0 D0)=1:=by
 rw [← b3G (n+1)];refine a2Z fun i j hi hj=>?_
 cases i with
 |zero=>rfl
 |succ i=>
  show uV n D0 (D0.F i) j=_;rw [h0.f i om];cases j with
  |zero=>show (if i<n then (0:Rat) else _)=_;rw [if_pos om];rfl
  |succ j=>
   show (if i<n then (if i=j then (1:Rat) else 0) else _)=_;rw [if_pos om];unfold a5w;by_cases h:i=j
   ·rw [if_pos h,if_pos om]
   ·rw [if_neg h,if_neg om]
def aS8 (h0:W0 m n D0) (hI:∀y c,Ids m n D0 y c↔Ids m n D y c) {r s:Nat} (hr:r<m) (hs:s<n):J5 (n+1) (muF n D0 (D.exch r s))=-(D.A r s)*J5 (n+1) (muF n D0 D):=by
 rw [← b2Z h0 hI hr hs];refine a2Z fun i j hi hj=>?_
 cases i with
 |zero=>rfl
 |succ i=>
  show uV n D0 ((D.exch r s).F i) j=F9 (muF n D0 D) (s+1) (uV n D0 (D.O r)) (i+1) j;rw [a2H];by_cases h:i=s
  ·subst h;rw [if_pos rfl,a1q]
  ·rw [if_neg h,a0G om];rfl
end
def b27 {m n:Nat} {D0:Fd} {g0:Nat->Rat} (h0:W0 m n D0) (hv:a4J m n D0 g0 D0):∀{k:Nat} {D:Fd},itS m n k D0=some D->J5 (n+1) (muF n D0 D)≠0
 |0,D,h=>by injection h with h;subst h;rw [aB5 h0];decide
 |k+1,D,h=>by
  rw [a0X] at h;cases hk:itS m n k D0 with
  |none=>rw [hk] at h;cases h
  |some D1=>
   rw [hk] at h;have h:C9 m n D1=some D:=h;obtain ⟨r,s,hs,rfl⟩:=a7L h;obtain ⟨h1,h2,h3⟩:=a40 hs;have hp:=a4F h3;rw [aS8 h0 (a0t hv hk).i h1 h2];intro e;rcases as0.1 e with e|e
   ·exact hp zg
   ·exact b27 h0 hv hk e
def b9D (K:Rat) (M:Nat->Nat->Rat):Nat->Nat->Rat:=fun i j=>if j=0 then K*M i 0 else M i j
def bh8 (n:Nat) (K:Rat) (M:Nat->Nat->Rat):J5 (n+1) (b9D K M)=K*J5 (n+1) M:=by
 rw [Q6,Q6,←G1];refine j7 fun i hi=>?_
 have e:B7 i (b9D K M)=B7 i M:=by
  funext a c;unfold B7 b9D;rw [if_neg om]
 rw [e];show af1 i*(if (0:Nat)=0 then K*M i 0 else _)*_=_;rw [if_pos rfl];grind
def aJ3 {n:Nat} {M:Nat->Nat->Rat} {r:Nat} (hr:r<n) (h:∀c,c<n->M r c=0):J5 n M=0:=by
 have e:J5 n M=J5 n (F9 M r fun c=>(0:Rat)*0+0*0):=a2Z fun i j hi hj=>by
  unfold F9;by_cases hir:i=r
  ·subst hir;rw [if_pos rfl,h j hj];grind
  ·rw [if_neg hir]
 rw [e,a6G (v:=fun _=>0) (w:=fun _=>0) hr];grind
def b3h {n:Nat} {M:Nat->Nat->Rat} (h1:M 0 0=1) (h0:∀c,c<n->M 0 (c+1)=0):J5 (n+1) M=J5 n (B7 0 M):=by
 rw [Q6,a33 (f:=fun i=>af1 i*M i 0*J5 n (B7 i M)),x4 fun i hi=>?_]
 ·have:af1 0=1:=rfl;rw [this,h1];grind
 ·rw [aJ3 (n:=n) (M:=B7 (i+1) M) (r:=0) om fun c hc=>by
   unfold B7;rw [if_pos om];exact h0 c hc]
  grind
structure ax9 (m n K BV BA BG:Nat) (D0:Fd) (g0:Nat->Rat):Prop where
 k:0<K
 v:∀i,i<m->∃z:Int,(K:Rat)*D0.V i=((z:Int):Rat)∧z.natAbs<=BV
 a:∀i j,i<m->j<n->∃z:Int,D0.A i j=((z:Int):Rat)∧z.natAbs<=BA
 g:∀j,j<n->∃z:Int,g0 j=((z:Int):Rat)∧z.natAbs<=BG
 a1:1<=BA
 ag:BA<=BG
def a9D {m n K BV BA BG:Nat} {D0:Fd} {g0:Nat->Rat} (h:ax9 m n K BV BA BG D0 g0) {w l:Nat} (hw:w<n+m) (hl:l<n):∃z:Int,uV n D0 w (l+1)=((z:Int):Rat)∧z.natAbs<=BA:=by
 have:=h.a1;show ∃z:Int,(if w<n then (if w=l then (1:Rat) else 0) else -(D0.A (w - n) l))=_∧_;by_cases h1:w<n
 ·rw [if_pos h1];by_cases h2:w=l
  ·rw [if_pos h2];exact ⟨1,rfl,by simpa using this⟩
  ·rw [if_neg h2];exact ⟨0,rfl,zq⟩
 ·rw [if_neg h1];obtain ⟨z,hz,hb⟩:=h.a (w - n) l om hl;exact ⟨-z,by rw [hz];push_cast;rfl,by rw [a1T];exact hb⟩
def bd8 {m n K BV BA BG:Nat} {D0:Fd} {g0:Nat->Rat} (h:ax9 m n K BV BA BG D0 g0) {w:Nat} (hw:w<n+m):∃z:Int,(K:Rat)*uV n D0 w 0=((z:Int):Rat)∧z.natAbs<=BV:=by
 show ∃z:Int,(K:Rat)*(if w<n then (0:Rat) else D0.V (w - n))=_∧_;by_cases h1:w<n
 ·rw [if_pos h1];exact ⟨0,by show _=(0:Rat);grind,zq⟩
 ·rw [if_neg h1];exact h.v _ om
def aJ9 {m n K BV BA BG:Nat} {D0 D:Fd} {g0:Nat->Rat} (h:ax9 m n K BV BA BG D0 g0) (hf:∀j,j<n->D.F j<n+m):∃z:Int,J5 (n+1) (muF n D0 D)=((z:Int):Rat)∧z.natAbs<=a4t n fun _=>BA:=by
 rw [b3h (M:=muF n D0 D) rfl fun c hc=>rfl];refine a6H fun i j hi hj=>?_
 unfold B7;rw [if_neg om];exact a9D h (hf i hi) hj
def a3S {m n K BV BA BG:Nat} {D0 D:Fd} {g0:Nat->Rat} (h:ax9 m n K BV BA BG D0 g0) (hf:∀j,j<n->D.F j<n+m) {B:Nat} {u:Nat->Rat} (hB:BA<=B) (hu:∀l,l<n->∃z:Int,u (l+1)=((z:Int):Rat)∧z.natAbs<=B) (j:Nat):∃z:Int,J5 (n+1) (F9 (muF n D0 D) (j+1) u)=((z:Int):Rat)∧z.natAbs<=a4t n fun _=>B:=by
 rw [b3h (M:=F9 (muF n D0 D) (j+1) u) (by rw [a0G om];rfl) fun c hc=>by rw [a0G om];rfl];refine a6H fun i k hi hk=>?_
 have em:B7 0 (F9 (muF n D0 D) (j+1) u) i k=F9 (muF n D0 D) (j+1) u (i+1) (k+1):=by unfold B7;rw [if_neg om]
 rw [em];by_cases e:i+1=j+1
 ·rw [e,a1q];exact hu k hk
 ·rw [a0G e];obtain ⟨z,hz,hb⟩:=a9D h (hf i hi) hk;exact ⟨z,hz,om⟩
def al0 {m n K BV BA BG:Nat} {D0 D:Fd} {g0:Nat->Rat} (h:ax9 m n K BV BA BG D0 g0) (hf:∀j,j<n->D.F j<n+m) {w:Nat} (hw:w<n+m):∃z:Int,(K:Rat)*J5 (n+1) (F9 (muF n D0 D) 0 (uV n D0 w))=((z:Int):Rat)∧z.natAbs<=a4t (n+1) fun c=>if c=0 then BV else BA:=by
 rw [← bh8];refine a6H fun i j hi hj=>?_
 have key:∀w,w<n+m->∃z:Int,(if j=0 then (K:Rat)*uV n D0 w 0 else uV n D0 w j)=((z:Int):Rat)∧z.natAbs<=if j=0 then BV else BA:=fun w hw=>by
  by_cases h1:j=0
  ·rw [if_pos h1,if_pos h1];exact bd8 h hw
  ·rw [if_neg h1,if_neg h1];obtain ⟨l,rfl⟩:∃l,j=l+1:=⟨j - 1,om⟩;exact a9D h hw om
 unfold b9D F9;cases i with
 |zero=>simp only [if_true];exact key w hw
 |succ i=>
  simp only [if_neg (show i+1≠0 by omega)];exact key (D.F i) (hf i om)
def ai4 {x:Rat} {p q:Int} (hq:q≠0) (h:((q:Int):Rat)*x=((p:Int):Rat)):rl x<=max (bl p) (bl q):=by
 have hqn:((q:Int):Rat)≠0:=by intro e;exact hq (by exact_mod_cast e)
 have e:x=Rat.divInt p q:=by
  rw [a5D,←h];rw [ak6,a6b,a67,b1M _ hqn];grind
 rw [e];exact N1 hq
def a2q {z:Int} {X k:Nat} (h:z.natAbs<=X) (hX:(X:Int)<pw k):bl z<=k:=N2 om
def av0 {m n K BV BA BG b:Nat} {D0 D:Fd} {g0:Nat->Rat} (h0:W0 m n D0) (h:ax9 m n K BV BA BG D0 g0) (hv:a4J m n D0 g0 D0) (hD:N0 m n D0 D)
 (b1:((a4t (n+1) fun c=>if c=0 then BV else BA:Nat):Int)<pw b) (b2:((a4t n fun _=>BG:Nat):Int)<pw b) (b3:((K*a4t n fun _=>BA:Nat):Int)<pw b) (b4:((a4t n fun _=>BA:Nat):Int)<pw b):
 (∀ i,i<m->rl (D.V i)<=b)∧(∀ i j,i<m->j<n->rl (D.A i j)<=b)∧∀j,j<n->rl (D.G j)<=b:=by
 obtain ⟨k,hk⟩:=hD;have hi:=a0t hv hk;have hn:=b27 h0 hv hk;obtain ⟨d,hd,hdb⟩:=aJ9 h (D:=D) hi.p.fb;rw [hd] at hn;have hd0:d≠0:=fun e=>hn (by rw [e];rfl)
 refine ⟨fun i him=>?_,fun i j him hj=>?_,fun j hj=>?_⟩
 ·obtain ⟨p,hp,hpb⟩:=al0 h (D:=D) hi.p.fb (hi.p.ob i him);rw [b6O h0 hi.i him,hd] at hp;have hK:=h.k;have e:=ai4 (x:=D.V i) (p:=p) (q:=(K:Int)*d) (by
   intro e;rcases Int.mul_eq_zero.1 e with e|e
   ·omega
   ·exact hd0 e) (by rw [← hp];push_cast;grind)
  have q1:=a2q hpb b1;have q2:bl ((K:Int)*d)<=b:=a2q (X:=K*a4t n fun _=>BA) (by rw [a2F];exact lbU zq hdb) b3;omega
 ·obtain ⟨p,hp,hpb⟩:=a3S h (D:=D) hi.p.fb (lbS _) (u:=uV n D0 (D.O i)) (fun l hl=>a9D h (hi.p.ob i him) hl) j;rw [b2Z h0 hi.i him hj,hd] at hp;have e:=ai4 (x:=-(D.A i j)) (p:=p) (q:=d) hd0 (by rw [← hp];grind);rw [U6] at e;have q1:=a2q hpb b4;have q2:=a2q hdb b4;omega
 ·obtain ⟨z,hz⟩:=hi.g;obtain ⟨p,hp,hpb⟩:=a3S h (D:=D) hi.p.fb h.ag (u:=uG g0) (fun l hl=>h.g l hl) j;rw [b6o h0 hi.i hz hj,hd] at hp;have e:=ai4 (x:=D.G j) (p:=p) (q:=d) hd0 (by rw [← hp];grind);have q1:=a2q hpb b2;have q2:=a2q hdb b4;omega
end
section
def Whole (x:Rat):Prop:=∃z:Int,x=((z:Int):Rat)
structure a8z (m n:Nat) (D0 D:Fd) (q:Int):Prop where
 pos:0<q
 det:J5 (n+1) (muF n D0 D)=((q:Int):Rat)∨J5 (n+1) (muF n D0 D)=-((q:Int):Rat)
 v:∀i,i<m->Whole ((q:Rat)*D.V i)
 a:∀i j,i<m->j<n->Whole ((q:Rat)*D.A i j)
 g:∀j,j<n->Whole ((q:Rat)*D.G j)
def aG5 {x:Rat} (h:Whole x):Whole (-x):=by
 obtain ⟨z,rfl⟩:=h;exact ⟨-z,by push_cast;rfl⟩
def a4G {d q:Int} {x:Rat} (hq:q=d∨q=-d) (h:Whole (x*((d:Int):Rat))):Whole ((q:Rat)*x):=by
 rcases hq with e|e
 ·subst e;rwa [ak6] at h
 ·subst e;have:=aG5 h;have e2:(((-d:Int):Int):Rat)*x=-(x*((d:Int):Rat)):=by push_cast;grind
  rw [e2];exact this
def bw4 {m n BV BA BG:Nat} {D0 D:Fd} {g0:Nat->Rat} (h0:W0 m n D0) (h:ax9 m n 1 BV BA BG D0 g0) (hv:a4J m n D0 g0 D0) (hD:N0 m n D0 D):∃q:Int,a8z m n D0 D q:=by
 obtain ⟨k,hk⟩:=hD;have hi:=a0t hv hk;have hn:=b27 h0 hv hk;obtain ⟨d,hd,hdb⟩:=aJ9 h (D:=D) hi.p.fb;have hn2:=hn;rw [hd] at hn2;have hd0:d≠0:=fun e=>hn2 (by rw [e];rfl)
 have key:∀q:Int,(q=d∨q=-d)->(∀ i,i<m->Whole ((q:Rat)*D.V i))∧(∀ i j,i<m->j<n->Whole ((q:Rat)*D.A i j))∧(∀ j,j<n->Whole ((q:Rat)*D.G j)):=by
  intro q hq;refine ⟨fun i him=>a4G hq ?_,fun i j him hj=>a4G hq ?_,fun j hj=>a4G hq ?_⟩
  ·obtain ⟨p,hp,_⟩:=al0 h (D:=D) hi.p.fb (hi.p.ob i him);rw [b6O h0 hi.i him,hd] at hp;exact ⟨p,by rw [← hp];push_cast;grind⟩
  ·obtain ⟨p,hp,_⟩:=a3S h (D:=D) hi.p.fb (lbS _) (u:=uV n D0 (D.O i)) (fun l hl=>a9D h (hi.p.ob i him) hl) j;rw [b2Z h0 hi.i him hj,hd] at hp;have:=aG5 (x:=-(D.A i j)*((d:Int):Rat)) ⟨p,hp⟩;have e:D.A i j*((d:Int):Rat)=-(-(D.A i j)*((d:Int):Rat)):=zg;rw [e];exact this
  ·obtain ⟨z,hz⟩:=hi.g;obtain ⟨p,hp,_⟩:=a3S h (D:=D) hi.p.fb h.ag (u:=uG g0) (fun l hl=>h.g l hl) j;rw [b6o h0 hi.i hz hj,hd] at hp;exact ⟨p,hp⟩
 rcases b1h hd0 with hneg|hpos
 ·obtain ⟨k1,k2,k3⟩:=key (-d) (.inr rfl);exact ⟨-d,om,.inr (by rw [hd];push_cast;grind),k1,k2,k3⟩
 ·obtain ⟨k1,k2,k3⟩:=key d (.inl rfl);exact ⟨d,hpos,.inl hd,k1,k2,k3⟩
section
variable {D:Fd} {r s:Nat} {q:Rat}
def ab8 {a b:Rat} (h:b≠0):a / b*b=a:=by rw [a6b,a67,b1o _ h];grind
def bv2 (h:D.A r s≠0):(q*D.A r s)*(D.exch r s).V r=q*D.V r:=by
 show (q*D.A r s)*(if r=r then D.V r / D.A r s else _)=_;rw [if_pos rfl];have:=ab8 (a:=D.V r) h;grind
def bz6 (h:D.A r s≠0) {i:Nat} (hi:i≠r):(q*D.V i)*(q*D.A r s) - (q*D.A i s)*(q*D.V r)=q*((q*D.A r s)*(D.exch r s).V i):=by
 show _=q*((q*D.A r s)*(if i=r then _ else D.V i - D.A i s*(D.V r / D.A r s)));rw [if_neg hi];have:=ab8 (a:=D.V r) h;generalize D.V r / D.A r s=c at this;rw [← this];grind
def b9j (h:D.A r s≠0):(q*D.A r s)*(D.exch r s).A r s=q:=by
 show (q*D.A r s)*(if r=r then (if s=s then 1 / D.A r s else _) else _)=_;rw [if_pos rfl,if_pos rfl];have:=ab8 (a:=1) h;grind
def bc8 (h:D.A r s≠0) {j:Nat} (hj:j≠s):(q*D.A r s)*(D.exch r s).A r j=q*D.A r j:=by
 show (q*D.A r s)*(if r=r then (if j=s then _ else D.A r j / D.A r s) else _)=_;rw [if_pos rfl,if_neg hj];have:=ab8 (a:=D.A r j) h;grind
def b94 (h:D.A r s≠0) {i:Nat} (hi:i≠r):(q*D.A r s)*(D.exch r s).A i s=-(q*D.A i s):=by
 show (q*D.A r s)*(if i=r then _ else if s=s then 0 - D.A i s*(if s=s then 1 / D.A r s else _) else _)=_;rw [if_neg hi,if_pos rfl,if_pos rfl];have:=ab8 (a:=1) h;generalize 1 / D.A r s=c at this;have e:q*D.A r s*(0 - D.A i s*c)=-(q*D.A i s*(c*D.A r s)):=zg;rw [e,this];grind
def bD4 (h:D.A r s≠0) {i j:Nat} (hi:i≠r) (hj:j≠s):(q*D.A i j)*(q*D.A r s) - (q*D.A i s)*(q*D.A r j)=q*((q*D.A r s)*(D.exch r s).A i j):=by
 show _=q*((q*D.A r s)*(if i=r then _ else if j=s then _ else D.A i j - D.A i s*(if j=s then _ else D.A r j / D.A r s)));rw [if_neg hi,if_neg hj,if_neg hj];have:=ab8 (a:=D.A r j) h;generalize D.A r j / D.A r s=c at this;rw [← this];grind
def bo4 (h:D.A r s≠0):(q*D.A r s)*(D.exch r s).G s=-(q*D.G s):=by
 show (q*D.A r s)*(if s=s then 0 - D.G s*(if s=s then 1 / D.A r s else _) else _)=_;rw [if_pos rfl,if_pos rfl];have:=ab8 (a:=1) h;generalize 1 / D.A r s=c at this;have e:q*D.A r s*(0 - D.G s*c)=-(q*D.G s*(c*D.A r s)):=zg;rw [e,this];grind
def bE9 (h:D.A r s≠0) {j:Nat} (hj:j≠s):(q*D.G j)*(q*D.A r s) - (q*D.G s)*(q*D.A r j)=q*((q*D.A r s)*(D.exch r s).G j):=by
 show _=q*((q*D.A r s)*(if j=s then _ else D.G j - D.G s*(if j=s then _ else D.A r j / D.A r s)));rw [if_neg hj,if_neg hj];have:=ab8 (a:=D.A r j) h;generalize D.A r j / D.A r s=c at this;rw [← this];grind
end
def b85 {m n:Nat} {D0 D:Fd} {q q':Int} {r s:Nat} (h0:W0 m n D0) (hI:∀y c,Ids m n D0 y c↔Ids m n D y c) (hr:r<m) (hs:s<n) (h:a8z m n D0 D q) (h':a8z m n D0 (D.exch r s) q'):
 ((q:Int):Rat)*D.A r s=((q':Int):Rat)∨((q:Int):Rat)*D.A r s=-((q':Int):Rat):=by
 have e:=aS8 h0 hI hr hs;rcases h.det with a|a<;>rcases h'.det with b|b<;>rw [a,b] at e
 ·right;grind
 ·left;grind
 ·left;grind
 ·right;grind
end
section
structure Zd where
 V:Nat->Int
 A:Nat->Nat->Int
 C:Nat->Int
 D:Int
 O:Nat->Nat
 F:Nat->Nat
namespace Zd
set_option linter.all false
def nx (Z:Zd) (a p b c:Int):Int:=(a*p - b*c) / Z.D
def exV (Z:Zd) (r s:Nat):Nat->Int:=fun i=>if i=r then Z.V r else Z.nx (Z.V i) (Z.A r s) (Z.A i s) (Z.V r)
def exA (Z:Zd) (r s:Nat):Nat->Nat->Int:=fun i j=>if i=r then (if j=s then Z.D else Z.A r j) else if j=s then -(Z.A i s) else Z.nx (Z.A i j) (Z.A r s) (Z.A i s) (Z.A r j)
def exC (Z:Zd) (r s:Nat):Nat->Int:=fun j=>if j=s then -(Z.C s) else Z.nx (Z.C j) (Z.A r s) (Z.C s) (Z.A r j)
def exch (Z:Zd) (r s:Nat):Zd where
 V:=fun i=>if Z.A r s<0 then -(Z.exV r s i) else Z.exV r s i
 A:=fun i j=>if Z.A r s<0 then -(Z.exA r s i j) else Z.exA r s i j
 C:=fun j=>if Z.A r s<0 then -(Z.exC r s j) else Z.exC r s j
 D:=if Z.A r s<0 then -(Z.A r s) else Z.A r s
 O:=fun i=>if i=r then Z.F s else Z.O i
 F:=fun j=>if j=s then Z.O r else Z.F j
end Zd
structure aH1 (m n:Nat) (Z:Zd) (D:Fd):Prop where
 d:0<Z.D
 v:∀i,i<m->((Z.V i:Int):Rat)=((Z.D:Int):Rat)*D.V i
 a:∀i,i<m->∀j,j<n->((Z.A i j:Int):Rat)=((Z.D:Int):Rat)*D.A i j
 c:∀j,j<n->((Z.C j:Int):Rat)=((Z.D:Int):Rat)*D.G j
 o:Z.O=D.O
 f:Z.F=D.F
structure bt0 (m n:Nat) (Z:Zd) (r s:Nat):Prop where
 v:∀i,i<m->i≠r->Z.D ∣ Z.V i*Z.A r s - Z.A i s*Z.V r
 a:∀i,i<m->i≠r->∀j,j<n->j≠s->Z.D ∣ Z.A i j*Z.A r s - Z.A i s*Z.A r j
 c:∀j,j<n->j≠s->Z.D ∣ Z.C j*Z.A r s - Z.C s*Z.A r j
def bh0 {x d e y:Int} (hd:0<d) (h:x=d*(e*y)):d ∣ x∧x / d=e*y:=by
 subst h;exact ⟨⟨_,rfl⟩,aK5 _ om⟩
def b5Z {m n r s:Nat} {Z:Zd} {D0 D:Fd} {q:Int} (h0:W0 m n D0) (hI:∀y c,Ids m n D0 y c↔Ids m n D y c) (hr:r<m) (hs:s<n) (hp:D.A r s≠0)
 (h:aH1 m n Z D) (hd:a8z m n D0 D Z.D) (hd':a8z m n D0 (D.exch r s) q):bt0 m n Z r s∧aH1 m n (Z.exch r s) (D.exch r s)∧(Z.exch r s).D=q:=by
 have hz0:=h.d
 have hars:=h.a r hr s hs
 have hq:=hd'.pos
 obtain ⟨e,he,hA⟩:∃e:Int,(e=1∨e=-1)∧Z.A r s=e*q:=by
  rcases b85 h0 hI hr hs hd hd' with k|k
  ·rw [← hars] at k
   exact ⟨1,.inl rfl,by have:Z.A r s=q:=by exact_mod_cast k
                        omega⟩
  ·rw [← hars] at k
   exact ⟨-1,.inr rfl,by have e2:((Z.A r s:Int):Rat)=(((-q:Int):Int):Rat):=by rw [k];push_cast;rfl
                         have:Z.A r s=-q:=by exact_mod_cast e2
                         omega⟩
 have hAq:((Z.D:Int):Rat)*D.A r s=((e:Int):Rat)*((q:Int):Rat):=by rw [← hars,hA];push_cast;rfl
 have he2:e*e=1:=by rcases he with rfl|rfl<;>rfl
 have hsg:∀x:Int,(if Z.A r s<0 then -(e*x) else e*x)=x:=by
  intro x
  rcases he with rfl|rfl
  ·rw [if_neg (by rw [hA];omega)];omega
  ·rw [if_pos (by rw [hA];omega)];omega
 have hsg2:∀x y:Int,x=e*y->(if Z.A r s<0 then -x else x)=y:=fun x y hx=>by rw [hx];exact hsg y
 have hD:(if Z.A r s<0 then -(Z.A r s) else Z.A r s)=q:=hsg2 _ _ hA
 have ent:∀(a b c:Int) (x:Rat),(Whole (((q:Int):Rat)*x))->((a:Int):Rat)*(((Z.D:Int):Rat)*D.A r s) - ((b:Int):Rat)*((c:Int):Rat)=((Z.D:Int):Rat)*((((Z.D:Int):Rat)*D.A r s)*x)->
  Z.D ∣ a*Z.A r s - b*c∧(((if Z.A r s<0 then -(Z.nx a (Z.A r s) b c) else Z.nx a (Z.A r s) b c):Int):Rat)=((q:Int):Rat)*x:=by
  intro a b c x hw hx
  obtain ⟨z,hz⟩:=hw
  have e1:a*Z.A r s - b*c=Z.D*(e*z):=by
   have:(((a*Z.A r s - b*c:Int):Int):Rat)=((Z.D*(e*z):Int):Rat):=by
    push_cast
    rw [← hz,hars,hx,hAq];grind
   exact_mod_cast this
  obtain ⟨d1,d2⟩:=bh0 hz0 e1
  refine ⟨d1,?_⟩
  rw [hsg2 (Z.nx a (Z.A r s) b c) z d2,hz]
 have sam:∀(a:Int) (x:Rat),((a:Int):Rat)=(((Z.D:Int):Rat)*D.A r s)*x->(((if Z.A r s<0 then -a else a):Int):Rat)=((q:Int):Rat)*x:=by
  intro a x hx
  have:(((e*(if Z.A r s<0 then -a else a):Int)):Rat)=((e:Int):Rat)*(((q:Int):Rat)*x):=by
   have e1:e*(if Z.A r s<0 then -a else a)=a:=by
    rcases he with rfl|rfl
    ·rw [if_neg (by rw [hA];omega)];omega
    ·rw [if_pos (by rw [hA];omega)];omega
   rw [e1,hx,hAq];grind
  rcases he with rfl|rfl
  ·push_cast at this;simpa using this
  ·push_cast at this;grind
 have kv:∀i,i<m->i≠r->_:=fun i hi hir=>ent (Z.V i) (Z.A i s) (Z.V r) ((D.exch r s).V i) (hd'.v i hi) (by rw [h.v i hi,h.a i hi s hs,h.v r hr];exact bz6 hp hir)
 have ka:∀i,i<m->i≠r->∀j,j<n->j≠s->_:=fun i hi hir j hj hjs=>ent (Z.A i j) (Z.A i s) (Z.A r j) ((D.exch r s).A i j) (hd'.a i j hi hj) (by rw [h.a i hi j hj,h.a i hi s hs,h.a r hr j hj];exact bD4 hp hir hjs)
 have kc:∀j,j<n->j≠s->_:=fun j hj hjs=>ent (Z.C j) (Z.C s) (Z.A r j) ((D.exch r s).G j) (hd'.g j hj) (by rw [h.c j hj,h.c s hs,h.a r hr j hj];exact bE9 hp hjs)
 refine ⟨⟨fun i hi hir=>(kv i hi hir).1,fun i hi hir j hj hjs=>(ka i hi hir j hj hjs).1,fun j hj hjs=>(kc j hj hjs).1⟩,⟨?_,?_,?_,?_,?_,?_⟩,hD⟩
 ·show 0<(if Z.A r s<0 then -(Z.A r s) else Z.A r s);omega
 ·intro i hi
  show (((if Z.A r s<0 then -(Z.exV r s i) else Z.exV r s i):Int):Rat)=(((if Z.A r s<0 then -(Z.A r s) else Z.A r s):Int):Rat)*_
  rw [hD]
  by_cases hir:i=r
  ·subst hir
   unfold Zd.exV
   rw [if_pos rfl]
   exact sam _ _ (by rw [h.v i hi];exact (bv2 hp).symm)
  ·unfold Zd.exV
   rw [if_neg hir]
   exact (kv i hi hir).2
 ·intro i hi j hj
  show (((if Z.A r s<0 then -(Z.exA r s i j) else Z.exA r s i j):Int):Rat)=(((if Z.A r s<0 then -(Z.A r s) else Z.A r s):Int):Rat)*_
  rw [hD]
  unfold Zd.exA
  by_cases hir:i=r
  ·subst hir
   rw [if_pos rfl]
   by_cases hjs:j=s
   ·subst hjs;rw [if_pos rfl];exact sam _ _ (b9j hp).symm
   ·rw [if_neg hjs];exact sam _ _ (by rw [h.a i hi j hj];exact (bc8 hp hjs).symm)
  ·rw [if_neg hir]
   by_cases hjs:j=s
   ·subst hjs;rw [if_pos rfl];exact sam _ _ (by push_cast;rw [h.a i hi j hj];exact (b94 hp hir).symm)
   ·rw [if_neg hjs];exact (ka i hi hir j hj hjs).2
 ·intro j hj
  show (((if Z.A r s<0 then -(Z.exC r s j) else Z.exC r s j):Int):Rat)=(((if Z.A r s<0 then -(Z.A r s) else Z.A r s):Int):Rat)*_
  rw [hD]
  unfold Zd.exC
  by_cases hjs:j=s
  ·subst hjs;rw [if_pos rfl];exact sam _ _ (by push_cast;rw [h.c j hj];exact (bo4 hp).symm)
  ·rw [if_neg hjs];exact (kc j hj hjs).2
 ·funext i;show (if i=r then Z.F s else Z.O i)=(if i=r then D.F s else D.O i);rw [h.o,h.f]
 ·funext j;show (if j=s then Z.O r else Z.F j)=(if j=s then D.O r else D.F j);rw [h.o,h.f]
noncomputable def b2h (m n:Nat) (D0 D:Fd):Int:=Classical.epsilon fun q=>a8z m n D0 D q
noncomputable def Y2 (m n:Nat) (D0 D:Fd):Zd where
 V:=fun i=>(((b2h m n D0 D:Int):Rat)*D.V i).num
 A:=fun i j=>(((b2h m n D0 D:Int):Rat)*D.A i j).num
 C:=fun j=>(((b2h m n D0 D:Int):Rat)*D.G j).num
 D:=b2h m n D0 D
 O:=D.O
 F:=D.F
def aa2 {x:Rat} (h:Whole x):((x.num:Int):Rat)=x:=by
 obtain ⟨z,rfl⟩:=h;rw [a7M]
def a6V {m n:Nat} {D0 D:Fd} (h:∃q,a8z m n D0 D q):a8z m n D0 D (Y2 m n D0 D).D∧aH1 m n (Y2 m n D0 D) D:=by
 have hd:a8z m n D0 D (b2h m n D0 D):=aq6 h
 exact ⟨hd,hd.pos,fun i hi=>aa2 (hd.v i hi),fun i hi j hj=>aa2 (hd.a i j hi hj),fun j hj=>aa2 (hd.g j hj),rfl,rfl⟩
structure b86 (m n:Nat) (Z Z':Zd):Prop where
 v:∀i,i<m->Z.V i=Z'.V i
 a:∀i,i<m->∀j,j<n->Z.A i j=Z'.A i j
 c:∀j,j<n->Z.C j=Z'.C j
 d:Z.D=Z'.D
 o:Z.O=Z'.O
 f:Z.F=Z'.F
def b6k {m n:Nat} {Z Z':Zd} {D:Fd} (h:aH1 m n Z D) (h':aH1 m n Z' D) (hd:Z.D=Z'.D):b86 m n Z Z':=
 ⟨fun i hi=>by have a:=h.v i hi;have b:=h'.v i hi;rw [hd,←b] at a;exact_mod_cast a,
  fun i hi j hj=>by have a:=h.a i hi j hj;have b:=h'.a i hi j hj;rw [hd,←b] at a;exact_mod_cast a,
  fun j hj=>by have a:=h.c j hj;have b:=h'.c j hj;rw [hd,←b] at a;exact_mod_cast a,hd,h.o.trans h'.o.symm,h.f.trans h'.f.symm⟩
def b5O {m n r s:Nat} {D0 D:Fd} (h0:W0 m n D0) (hI:∀y c,Ids m n D0 y c↔Ids m n D y c) (hr:r<m) (hs:s<n) (hp:D.A r s≠0) (h:∃q,a8z m n D0 D q) (h':∃q,a8z m n D0 (D.exch r s) q):
 bt0 m n (Y2 m n D0 D) r s∧b86 m n ((Y2 m n D0 D).exch r s) (Y2 m n D0 (D.exch r s)):=by
 obtain ⟨a1,a2⟩:=a6V h;obtain ⟨b1,b2⟩:=a6V h';obtain ⟨c1,c2,c3⟩:=b5Z h0 hI hr hs hp a2 a1 b1;exact ⟨c1,b6k c2 b2 c3⟩
def ag0 {q:Int} {z:Int} {x:Rat} (hq:0<q) (h:((z:Int):Rat)=((q:Int):Rat)*x):(z<0↔x<0)∧(0<z↔0<x):=by
 have hq':(0:Rat)<((q:Int):Rat):=by exact_mod_cast hq
 have k1:x<0->z<0:=fun hx=>by
  have:((q:Int):Rat)*(-x) > 0:=lb3 hq' zg;have:((z:Int):Rat)<((0:Int):Rat):=by rw [h];show _<(0:Rat);grind
  exact_mod_cast this
 have k2:0<x->0<z:=fun hx=>by
  have:((q:Int):Rat)*x > 0:=lb3 hq' hx;have:((0:Int):Rat)<((z:Int):Rat):=by rw [h];show (0:Rat)<_;grind
  exact_mod_cast this
 have k3:x=0->z=0:=fun hx=>by
  have:((z:Int):Rat)=((0:Int):Rat):=by rw [h,hx];show _=(0:Rat);grind
  exact_mod_cast this
 have tri:x<0∨x=0∨0<x:=zg;rcases tri with hx|hx|hx
 ·have:=k1 hx;constructor<;>constructor<;>intro _<;>first|assumption|omega|grind
 ·have:=k3 hx;constructor<;>constructor<;>intro _<;>first|omega|grind
 ·have:=k2 hx;constructor<;>constructor<;>intro _<;>first|assumption|omega|grind
end
section
open Go.RowKit
section
variable {α β:Type}
def ag3 {l:List α}:∀{i:Nat} {x:α} {k:α->Prop},l[i]? =some x->k x->a47 i l k:=by
 induction l with
 |nil=>intro i x k h;simp at h
 |cons a r ih=>
  intro i x k h hk;cases i with
  |zero=>simp at h;subst h;exact hk
  |succ i=>exact ih (by simpa using h) hk
def aN7 {v:α} {l:List α} {i:Nat} {k:List α->Prop} (h:k (l.set i v)):a71 i v l k:=N9.2 h
def a4u {r l:List α} {k:List α->Prop} (h:k (l++r)):ao9 l r k:=a3Z.2 h
def G2 {l:List α} {k:List α->Prop} (h:k l):ao9 l [] k:=a4u (by rw [Y7];exact h)
def b2X {l:List α} {n:Nat} {k:Nat->Prop} (h:k (l.length+n)):af7 l n k:=a1C.2 (by rw [aG4];exact h)
def a6g {f:β->α} {M:List β} {N n:Nat} {k:Nat->Prop} (h:M.length=N) (hk:k (N+n)):af7 (M.map f) n k:=b2X (by simpa [h] using hk)
def g8 {f:β->α} {M:List β} {T:List α} {N n:Nat} {k:Nat->Prop} (h:M.length=N) (hk:af7 T n fun m=>k (N+m)):af7 (M.map f++T) n k:=by
 refine b2X ?_;have:=(a1C (k:=fun m=>k (N+m))).1 hk;simpa [h,a2G,aG4 n] using this
def f8 {f:β->α} {M:List β} {T r:List α} {k:List α->Prop} (h:ao9 T r fun q=>k (M.map f++q)):ao9 (M.map f++T) r k:=by
 refine a4u ?_;rw [lbE];exact (a3Z (k:=fun q=>k (M.map f++q))).1 h
def aX1 {f:β->α} {M:List β} {i:Nat} {x:β} {k:α->Prop} (h:M[i]? =some x) (hk:k (f x)):a47 i (M.map f) k:=ag3 (by rw [lba,h];rfl) hk
def G6 {f:β->α} {M:List β} {T:List α} {i:Nat} {x:β} {k:α->Prop} (h:M[i]? =some x) (hk:k (f x)):a47 i (M.map f++T) k:=
 ag3 (by rw [lbb (by simpa using (lbe.1 h).1),lba,h];rfl) hk
def i5 {f:β->α} {M:List β} {T:List α} {N t:Nat} {k:α->Prop} (h:M.length=N) (hk:a47 t T k):a47 (N+t) (M.map f++T) k:=by
 obtain ⟨x,h1,h2⟩:=R4 hk;exact ag3 (by rw [lbc (by simp [h])];simpa [h] using h1) h2
def o5 {f:β->α} {M:List β} {T:List α} {N:Nat} {k:α->Prop} (h:M.length=N) (hk:a47 0 T k):a47 N (M.map f++T) k:=i5 (t:=0) h hk
def a2f {f:β->α} {M:List β} {T:List α} {i:Nat} {v:α} {x:β} {k:List α->Prop} (hi:i<M.length) (hv:v=f x) (h:k ((M.set i x).map f++T)):a71 i v (M.map f++T) k:=
 aN7 (by rw [b3y _ _ (by simpa using hi),hv,←a1R];exact h)
def i9 {f:β->α} {M:List β} {T:List α} {N t:Nat} {v:α} {k:List α->Prop} (h:M.length=N) (hk:a71 t v T fun q=>k (M.map f++q)):a71 (N+t) v (M.map f++T) k:=by
 refine aN7 ?_;rw [List.set_append_right _ _ (by simp [h])];simpa [h] using (N9 (k:=fun q=>k (M.map f++q))).1 hk
def x7 {f:β->α} {M:List β} {T:List α} {N:Nat} {v:α} {k:List α->Prop} (h:M.length=N) (hk:a71 0 v T fun q=>k (M.map f++q)):a71 N v (M.map f++T) k:=i9 (t:=0) h hk
end
def idR (n:Nat):List (Option Nat):=(List.range n).map some
def aR8 (n:Nat):(idR n).length=n:=by simp [idR]
def i6 {n i:Nat} (h:i<n):(idR n)[i]? =some (some i):=by simp [idR,h]
def b48 {n i j:Nat} (h:(idR n)[i]? =some (some j)):i=j:=by
 obtain ⟨h1,h2⟩:=lbe.1 h;simp [idR] at h2;exact h2
def a70 {n:Nat}:∀{m:Nat},m<=n->a2L (idR n) m=true
 |0,_=>rfl
 |m+1,h=>by
  unfold a2L;rw [i6 om,a70 om];simp
def aU0:∀{r:List (Option Nat)} {H:Hp} {n:Nat},(∀ j:Nat,r[j]?≠some (some n))->a5p n r H=false
 |[],H,n,_=>by cases H<;>rfl
 |x::r,[],n,_=>by cases x<;>rfl
 |x::r,k::H,n,h=>by
  unfold a5p;rw [aU0 (r:=r) (H:=H) (n:=n) (fun j=>by simpa using h (j+1)),ao2];split
  ·rfl
  ·rename_i m _;have:m≠n:=by rintro rfl;exact h 0 rfl
   cases hb:Nat.beq m n with
   |false=>rfl
   |true=>exact absurd (a1a hb) this
  ·rfl
def a1c:∀{r:List (Option Nat)} {H:Hp},(∀ i j n:Nat,r[i]? =some (some n)->r[j]? =some (some n)->i=j)->U4 r H=true
 |[],H,_=>by cases H<;>rfl
 |x::r,[],_=>by cases x<;>rfl
 |none::r,k::H,h=>a1c (r:=r) fun i j n h1 h2=>by have:=h (i+1) (j+1) n (by simpa using h1) (by simpa using h2);omega
 |some n::r,k::H,h=>by
  unfold U4;rw [a1c (r:=r) (H:=H) fun i j n h1 h2=>by have:=h (i+1) (j+1) n (by simpa using h1) (by simpa using h2);omega];rw [aU0 (r:=r) (n:=n) (fun j hj=>by have:=h 0 (j+1) n rfl (by simpa using hj);omega)];cases k.mode<;>rfl
def a94 {n:Nat} {H:Hp}:U4 (idR n) H=true:=a1c fun i j n h1 h2=>by rw [b48 h1,b48 h2]
def a3m {ρ:List (Option Nat)} {H:Hp}:∀{r:List (Option Nat)} {H':Hp},r.length=H'.length->(∀ (i:Nat) (k':Blk),H'[i]? =some k'->∃(j:Nat) (k:Blk),r[i]? =some (some j)∧H[j]? =some k∧a30 ρ H k k')->a4S ρ H r H'
 |[],[],_,_=>trivial
 |[],_::_,h,_=>by simp at h
 |_::_,[],h,_=>by simp at h
 |x::r,k'::H',hl,h=>by
  obtain ⟨j,k,h1,h2,h3⟩:=h 0 k' rfl;simp at h1;subst h1;refine ⟨?_,a3m (by simpa using hl) fun i k1 hk=>by simpa using h (i+1) k1 (by simpa using hk)⟩;simp only [h2];exact h3
def az2 {n:Nat} {H:Hp}:∀{l:List C},(∀ c ∈ l,match c with|.t _=>True|.ptr id _ _=>id<n|.own id _ _ _=>id<n|.fn _ _=>False)->a4E (idR n) H l l
 |[],_=>trivial
 |c::r,h=>by
  refine ⟨?_,az2 fun c hc=>h c (by simp [hc])⟩;have h0:=h c zq;cases c with
  |t x=>exact a2g x
  |ptr id r o=>exact ⟨i6 h0,rz⟩
  |own id lo len app=>exact ⟨i6 h0,rfl,rfl,fun h=>h⟩
  |fn f caps=>exact h0.elim
def okB (n:Nat) (k:Blk):Prop:=∀r ∈ k.rows,∀c ∈ r,match c with|.t _=>True|.ptr id _ _=>id<n|.own id _ _ _=>id<n|.fn _ _=>False
def t7 {n:Nat} {k:Blk} {rows:List (List T)} (h:k.rows=toC rows):okB n k:=by
 intro r hr c hc;rw [h] at hr;obtain ⟨r0,_,rfl⟩:=lby.1 hr;obtain ⟨t,_,rfl⟩:=lby.1 hc;trivial
def aE1 {n:Nat} {H:Hp}:∀{l:List (List C)},(∀ r ∈ l,∀c ∈ r,match c with|.t _=>True|.ptr id _ _=>id<n|.own id _ _ _=>id<n|.fn _ _=>False)->a4o (idR n) H l l
 |[],_=>trivial
 |r::l,h=>⟨az2 (h r zq),aE1 fun r hr=>h r (by simp [hr])⟩
def a98 {n:Nat} {H:Hp} {k:Blk} (h:okB n k):a30 (idR n) H k k:=⟨by unfold a3w;cases k.mode<;>simp,rfl,rfl,.inr (aE1 h)⟩
def bf3 {n0 n:Nat} {env env':Env} {H H':Hp} (hn:H'.length=n) (h0:n0<=n) (hB:∀(i:Nat) (k':Blk),H'[i]? =some k'->∃k:Blk,H[i]? =some k∧a30 (idR n) H k k') (hE:Z1 (idR n) H env env'):Ent n0 (idR n) env H env' H':=
 ⟨a70 h0,a94,a3m (by rw [aR8,hn]) fun i k' hk=>by
   have hi:i<n:=by rw [← hn];exact (lbe.1 hk).1
   obtain ⟨k,h1,h2⟩:=hB i k' hk;exact ⟨i,k,i6 hi,h1,h2⟩,hE⟩
def a1O {ρ:List (Option Nat)} {H:Hp}:∀{xs ys:List (List C)},xs.length=ys.length->(∀ (i:Nat) (x y:List C),xs[i]? =some x->ys[i]? =some y->a4E ρ H x y)->a4o ρ H xs ys
 |[],[],_,_=>trivial
 |[],_::_,h,_=>by simp at h
 |_::_,[],h,_=>by simp at h
 |x::xs,y::ys,h,hh=>⟨hh 0 x y rfl rfl,a1O (by simpa using h) fun i a b ha hb=>hh (i+1) a b (by simpa using ha) (by simpa using hb)⟩
def a6E {n0 n:Nat} {env env':Env} {H H':Hp} (hn:H'.length=n) (h0:n0<=n) (hok:∀k ∈ H',okB n k) (hH:∀i,i<n->H[i]? =H'[i]?) (hE:Z1 (idR n) H env env'):Ent n0 (idR n) env H env' H':=
 ⟨a70 h0,a94,a3m (by rw [aR8,hn]) fun i k' hk=>by
   have hi:i<n:=by rw [← hn];exact (lbe.1 hk).1
   exact ⟨i,k',i6 hi,by rw [hH i hi];exact hk,a98 (hok k' (lbm hk))⟩,hE⟩
def b1Q {n0 n:Nat} {env env':Env} {H' T:Hp} (hn:H'.length=n) (h0:n0<=n) (hok:∀k ∈ H',okB n k) (hE:Z1 (idR n) (H'++T) env env'):Ent n0 (idR n) env (H'++T) env' H':=
 a6E hn h0 hok (fun i hi=>by rw [lbb om]) hE
def a6Z {n0 n:Nat} {r s:S} {H H':Hp} (hn:H'.length=n) (h0:n0<=n) (hok:∀k ∈ H',okB n k) (hH:∀i,i<n->H[i]? =H'[i]?) (hE:a9K (idR n) H r s):Fin n0 r H s H':=
 ⟨idR n,a70 h0,a94,a3m (by rw [aR8,hn]) fun i k' hk=>by
   have hi:i<n:=by rw [← hn];exact (lbe.1 hk).1
   exact ⟨i,k',i6 hi,by rw [hH i hi];exact hk,a98 (hok k' (lbm hk))⟩,hE⟩
def a53 {n i:Nat} (h:i<n):(List.range n).getD i 0=i:=by simp [h]
mutual
def aj7 {n:Nat}:∀c:C,okC n c=true->Z4 (List.range n) c=c
 |.t x,_=>by simp [Z4]
 |.ptr id r o,h=>by simp only [Z4];rw [a53 (by simpa [okC] using h)]
 |.own id lo len app,h=>by simp only [Z4];rw [a53 (by simpa [okC] using h)]
 |.fn f caps,h=>by simp only [Z4];rw [a4h caps (by simpa [okC] using h)]
def a4h {n:Nat}:∀l:List C,okL n l=true->a1m (List.range n) l=l
 |[],_=>by simp [a1m]
 |c::r,h=>by
  simp only [okL,lbO] at h;simp only [a1m];rw [aj7 c h.1,a4h r h.2]
end
def b2w {n:Nat} {s:S} (h:okS n s=true):a73 (List.range n) s=s:=by
 cases s with
 |junk=>rfl
 |c x=>simp only [a73];rw [aj7 x h]
 |agg cs=>simp only [a73];rw [a4h cs h]
 |tup ss=>simp [okS] at h
def b1z {n:Nat}:∀{l:List C},(∀ c ∈ l,match c with|.t _=>True|.ptr id _ _=>id<n|.own id _ _ _=>id<n|.fn _ _=>False)->okL n l=true
 |[],_=>by simp [okL]
 |c::r,h=>by
  simp only [okL,lbO];refine ⟨?_,b1z fun c hc=>h c (by simp [hc])⟩;have h0:=h c zq;cases c with
  |t x=>simp [okC]
  |ptr id r o=>simp only [okC];exact a0T ▸ h0
  |own id lo len app=>simp only [okC];exact a0T ▸ h0
  |fn f caps=>exact h0.elim
def aj8 {n:Nat} {k:Blk} (h:okB n k):aK7 (List.range n) k k:=by
 refine ⟨rfl,rfl,rfl,rfl,?_⟩;unfold a7H;rw [lbp (g:=id) fun r hr=>a4h r (b1z (h r hr))];simp
def aS5 {σ:List Nat} {l:List C} (h:l.all C.isT=true):a1m σ l=l:=by
 rw [P7];conv=>rhs;rw [← List.map_id l]
 exact lbp fun c hc=>ap5 (lbw.1 h c hc)
def a3i {P:Program} {g:FuncId} {args:List S} {Hs Hs':Hp} {r:S} {n:Nat} (T:Hp) (h:d6 P g args Hs r Hs') (hn:Hs.length=n) (hn':Hs'.length=n) (hok:args.all (okS n)=true)
 (hin:∀k ∈ Hs,k.mode=.live∧k.app=false∧okB n k) (hout:∀k ∈ Hs',k.mode≠.old∧okB n k) (hr:aE5 r=true) (hr':r.isT=true):d6 P g args (Hs++T) r (Hs'++T):=by
 have e0:Hs'.length - Hs.length=0:=om;have ex:∀m,a4Z (List.range n) m (Hs'.length - Hs.length)=List.range n:=fun m=>by rw [e0];simp [a4Z]
 have hargs:args=args.map (a73 (List.range n)):=by
  conv=>lhs;rw [← List.map_id args]
  exact lbp fun s hs=>(b2w (lbw.1 hok s hs)).symm
 refine W4 (List.range n) h hargs (by simpa using hok) (by simp [hn]) List.nodup_range ?_ (fun k hk=>(hout k hk).1) om hr ?_ zo ?_ ?_
 ·intro i k hk;have hi:i<n:=by rw [← hn];exact (lbe.1 hk).1
  obtain ⟨h1,h2,h3⟩:=hin k (lbm hk);refine ⟨h1,h2,fun r hr=>by rw [lbv];exact b1z (h3 r hr),k,?_,aj8 h3⟩;rw [a53 hi,lbb om,hk]
 ·rw [ex];cases r with
  |junk=>rfl
  |c x=>simp only [a73];rw [ap5 hr']
  |agg cs=>
   simp only [a73];rw [aS5 hr']
  |tup ss=>
   simp only [a73]
   congr 1
   conv=>lhs;rw [← List.map_id ss]
   refine lbp fun s hs=>?_
   have h1:=lbw.1 hr' s hs;cases s with
   |junk=>rfl
   |c x=>simp only [id];rw [ap5 h1]
   |agg cs=>
    simp only [id];rw [aS5 h1]
   |tup ss=>rfl
 ·intro i k hk;have hi:i<n:=by rw [← hn'];exact (lbe.1 hk).1
  obtain ⟨h1,h3⟩:=hout k (lbm hk);rw [ex];exact ⟨k,by rw [a53 hi,lbb om,hk],aj8 h3⟩
 ·intro j hj hnj;have:n<=j:=by
   rcases F8 j n with h|h
   ·exact absurd (lbC.2 h) hnj
   ·exact h
  rw [lbc om,lbc om,hn,hn']
end
def U1 {P : Program} {τ : Tab} (hτ : E0 P τ) {f : FuncId} {fn : Func} {c : Code} {args : List S} {H : Hp} {s : S} {H' : Hp} (hf : P.funcs[f]? = some fn) (hb : fn.body = some c) (hn : fn.name ≠ "runtime.NumGoroutine")
    (h:Awp P H.length c (args++List.replicate (fn.ntmps - args.length) .junk) H fun x env' H1=>match x with
      |.exit _=>False
      |_=>a8M τ fn env' H1 fun r=>Fin H.length r H1 s H'):d6 P f args H s H':=by
  refine ⟨⟨fn,hf,by rw [hb];rfl,hn⟩,fun w ι M vals hl hr hH hM hF=>?_⟩;refine calls_of_wp hf hb ?_;have hi:=Sim.init hl hr hH hM hF (fn.ntmps - args.length);have:=h.out w ι M H _ w rfl hM hi;have e:vals.toArray.size=args.length:=by simpa using hl
  rw [e];refine wp_mono this ?_;rintro e a' w' ⟨x,env',H1,rfl,hq,ι',M',hd,hsz,he,hH',hM',hF',hst⟩;have key:(a8M τ fn env' H1 fun r=>Fin H.length r H1 s H')->a'.defers=[]∧∃v,(results fn a'.tmps).run P w'=.ok v w'∧∃v',Ending.returned v=.returned v'∧I2 w ι M H s H' v' w':=by
   intro hq;refine ⟨hd,?_⟩;obtain ⟨l,hk,vs,h1,h2,h3⟩:=a84 hτ he hH' fn.results.toList hq;have hrun:∃v,(results fn a'.tmps).run P w'=.ok v w'∧v=(if h:vs.length=1 then vs[0] else .tuple vs.toArray):=by
    refine ⟨_,?_,rfl⟩;unfold results;rw [Array.mapM_eq_mapM_toList,Sem.run_bind,Sem.run_map];refine (congrArg (fun r=>Result.andThen (Result.andThen r _) _) h1).trans ?_;simp
   obtain ⟨v,hv1,rfl⟩:=hrun;refine ⟨_,hv1,_,rfl,?_⟩;have hsr:∃r,RS w' ι' M' r (if h:vs.length=1 then vs[0] else .tuple vs.toArray)∧Fin H.length r H1 s H':=by
    match l,hk,h2,h3 with
    |[s1],hk,h2,h3=>
     refine ⟨s1,?_,hk⟩;rw [dif_pos (by simpa using h2)];have:=h3 0 s1 rfl;rw [lbl,lbf (by simp at h2;omega)] at this;exact this
    |[],hk,h2,h3=>
     refine ⟨_,?_,hk⟩;rw [dif_neg (by simp at h2;simp [h2])];exact .tup vs h2 h3
    |s1::s2::r,hk,h2,h3=>
     refine ⟨_,?_,hk⟩;rw [dif_neg (by simp at h2;omega)];exact .tup vs h2 h3
   obtain ⟨r,h4,ρ,f1,f2,f3,f4⟩:=hsr;obtain ⟨g1,g2,g3⟩:=a4S.all f1 f2 f3 rfl hM hH' hst;exact ⟨T6 ρ ι',_,f4.rs hH' h4,g1,fun b hb=>hM' b hb.1,g2,g3⟩
  cases x with
  |normal=>exact key hq
  |ret=>exact key hq
  |exit id=>exact hq.elim
def y4 {P:Program} {τ:Tab} (hτ:E0 P τ) {n0:Nat} {x y:Code} {env:Env} {H:Hp} {Q:AX->Env->Hp->Prop}
 (h:a3g P τ n0 x env H fun a env' H'=>match a with
   |.normal=>Awp P n0 y env' H' Q
   |a=>Q a env' H'):Awp P n0 (.seq x y) env H Q:=by
 refine ⟨fun w0 ι0 M0 H0 a w hn hM hs=>?_⟩;refine wp_seq (wp_mono ((p6 hτ x h).out w0 ι0 M0 H0 a w hn hM hs) ?_);rintro e a' w' ⟨x,env',H',rfl,hq,hs'⟩;cases x with
 |normal=>exact hq.out w0 ι0 M0 H0 a' w' hn hM hs'
 |exit id=>exact ⟨_,env',H',rfl,hq,hs'⟩
 |ret=>exact ⟨_,env',H',rfl,hq,hs'⟩
def a8u {P:Program} {n0:Nat} {x y:Code} {env:Env} {H:Hp} {Q:AX->Env->Hp->Prop}
 (h:Awp P n0 x env H fun a env' H'=>match a with
   |.normal=>Awp P n0 y env' H' Q
   |a=>Q a env' H'):Awp P n0 (.seq x y) env H Q:=by
 refine ⟨fun w0 ι0 M0 H0 a w hn hM hs=>?_⟩;refine wp_seq (wp_mono (h.out w0 ι0 M0 H0 a w hn hM hs) ?_);rintro e a' w' ⟨x,env',H',rfl,hq,hs'⟩;cases x with
 |normal=>exact hq.out w0 ι0 M0 H0 a' w' hn hM hs'
 |exit id=>exact ⟨_,env',H',rfl,hq,hs'⟩
 |ret=>exact ⟨_,env',H',rfl,hq,hs'⟩
def a7U {P:Program} {n0 id:Nat} {c:Code} {env:Env} {H:Hp} {Q:AX->Env->Hp->Prop} (h:Awp P n0 c env H (by4 id Q)):Awp P n0 (.block id c) env H Q:=by
 refine ⟨fun w0 ι0 M0 H0 a w hn hM hs=>?_⟩;refine wp_block (wp_mono (h.out w0 ι0 M0 H0 a w hn hM hs) ?_);rintro e a' w' ⟨x,env',H',rfl,hq,hs'⟩;cases x with
 |normal=>exact ⟨_,env',H',rfl,hq,hs'⟩
 |exit j=>
  have hq:cond (Nat.beq j id) (Q .normal env' H') (Q (.exit j) env' H'):=hq;show if j=id then _ else _
  by_cases hj:j=id
  ·subst hj;rw [if_pos rfl];simp only [aj4,cond_true] at hq;exact ⟨_,env',H',rfl,hq,hs'⟩
  ·rw [if_neg hj];have:Nat.beq j id=false:=by
    cases hb:Nat.beq j id with
    |false=>rfl
    |true=>exact absurd (a1a hb) hj
   simp only [this,cond_false] at hq;exact ⟨_,env',H',rfl,hq,hs'⟩
 |ret=>exact ⟨_,env',H',rfl,hq,hs'⟩
def b34 {P:Program} {n0:Nat} {c:Code} {env env':Env} {H H':Hp} {Q:AX->Env->Hp->Prop} (ρ:List (Option Nat)) (he:Ent n0 ρ env H env' H') (h:Awp P n0 c env' H' Q):Awp P n0 c env H Q:=
 ⟨fun w0 ι0 M0 H0 a w hn hM hs=>h.out w0 ι0 M0 H0 a w hn hM (he.sim hn hM hs)⟩
def x9 {P:Program} {τ:Tab} (hτ:E0 P τ) {n0:Nat} {x y:Code} {env:Env} {H:Hp} {Q:AX->Env->Hp->Prop} (E2:Env) (H2:Hp)
 (h:a3g P τ n0 x env H fun a env' H'=>match a with
   |.normal=>∃ρ,Ent n0 ρ env' H' E2 H2
   |a=>Q a env' H') (h2:Awp P n0 y E2 H2 Q):Awp P n0 (.seq x y) env H Q:=by
 refine ⟨fun w0 ι0 M0 H0 a w hn hM hs=>?_⟩;refine wp_seq (wp_mono ((p6 hτ x h).out w0 ι0 M0 H0 a w hn hM hs) ?_);rintro e a' w' ⟨x,env',H',rfl,hq,hs'⟩;cases x with
 |normal=>obtain ⟨ρ,he⟩:=hq;exact h2.out w0 ι0 M0 H0 a' w' hn hM (he.sim hn hM hs')
 |exit id=>exact ⟨_,env',H',rfl,hq,hs'⟩
 |ret=>exact ⟨_,env',H',rfl,hq,hs'⟩
def an0 {P:Program} {n0:Nat} {c:Code} {env:Env} {H:Hp} {Q:AX->Env->Hp->Prop} (E:Nat->Env × Hp) (n:Nat) (I:Nat->Prop) (ρ0:List (Option Nat))
 (hI:I 0) (h0:Ent n0 ρ0 env H (E 0).1 (E 0).2)
 (round:∀k,k<=n->I k->Awp P n0 c (E k).1 (E k).2 fun a env' H'=>match a with
   |.normal=>k<n∧I (k+1)∧∃ρ,Ent n0 ρ env' H' (E (k+1)).1 (E (k+1)).2
   |a=>Q a env' H'):Awp P n0 (.loop c) env H Q:=by
 refine a92 (σ:={ k:Nat // k<=n∧I k }) (fun k=>E k.1) (fun k=>n - k.1) ⟨0,J0 _,hI⟩ ρ0 h0 ?_;rintro ⟨k,hk,hi⟩;refine (round k hk hi).mono ?_;intro a env' H' h;cases a with
 |normal=>
  obtain ⟨h1,h2,ρ,h3⟩:=h;exact ⟨ρ,⟨k+1,h1,h2⟩,h3,by show n - (k+1)<n - k;omega⟩
 |exit id=>exact h
 |ret=>exact h
inductive VY (H:Hp) (p:Nat->Prop):C->T->Prop
 |vc {x:C} {y:T} (h:VC H p x y):VY H p x y
 |own {id lo len:Nat} {app:Bool} {size:Nat} {k:Blk} {rows:List (List T)} (hp:p id) (hk:H[id]? =some k) (hd:¬k.mode.gone) (hs:k.size=size) (hl:rows.length=len)
   (hw:∀r ∈ rows,r.length=size) (g:Nat->Nat->C) (hc:∀i j c,at2 rows i j=some c->at2 k.rows (lo+i) j=some (g i j))
   (hx:∀i j c,at2 rows i j=some c->VY H p (g i j) c):VY H p (.own id lo len app) (.sl size .any rows)
 |ptr {id r o:Nat} {k:Blk} {row:List C} {cells:List T} (hp:p id) (hk:H[id]? =some k) (hd:¬k.mode.gone) (hr:k.rows[r]? =some row)
   (g:Nat->C) (hc:∀j c,cells[j]? =some c->row[o+j]? =some (g j)) (hx:∀j c,cells[j]? =some c->VY H p (g j) c):VY H p (.ptr id r o) (.ptr cells)
 |fn {f:Fn} {caps:List C} {caps':List T} (hl:caps.length=caps'.length) (g:Nat->C) (hc:∀j c,caps'[j]? =some c->caps[j]? =some (g j))
   (hx:∀j c,caps'[j]? =some c->VY H p (g j) c):VY H p (.fn f caps) (.fn f caps')
def VYL (H:Hp) (p:Nat->Prop):List C->List T->Prop
 |[],[]=>True
 |x::r,y::r'=>VY H p x y∧VYL H p r r'
 |_,_=>False
def VYL.get {H:Hp} {p:Nat->Prop}:∀{xs:List C} {ys:List T},VYL H p xs ys->xs.length=ys.length∧∀(j:Nat) (c:T),ys[j]? =some c->∃x,xs[j]? =some x∧VY H p x c
 |[],[],_=>⟨rfl,zq⟩
 |x::xs,y::ys,h=>by
  obtain ⟨h1,h2⟩:=VYL.get h.2;refine ⟨by simp [h1],fun j c hc=>?_⟩;cases j with
  |zero=>simp at hc;subst hc;exact ⟨x,rfl,h.1⟩
  |succ j=>simpa using h2 j c (by simpa using hc)
 |[],_::_,h=>h.elim
 |_::_,[],h=>h.elim
def av8 {H:Hp} {p:Nat->Prop} {x:T}:VY H p (.t x) x:=.vc (aY4 (a2g x))
def b8K {H:Hp} {p:Nat->Prop}:∀ts:List T,VYL H p (ts.map C.t) ts
 |[]=>trivial
 |t::r=>⟨av8,b8K r⟩
def aa3 {H:Hp} {p:Nat->Prop} {id r o:Nat} {k:Blk} {row:List C} {cells:List T} (hp:p id) (hk:H[id]? =some k) (hd:¬k.mode.gone) (hr:k.rows[r]? =some row) (h:VYL H p (row.drop o) cells):VY H p (.ptr id r o) (.ptr cells):=by
 obtain ⟨h1,h2⟩:=h.get;refine .ptr hp hk hd hr (fun j=>(row.drop o).getD j (.t (.ptr []))) (fun j c hc=>?_) (fun j c hc=>?_)
 ·obtain ⟨x,hx,_⟩:=h2 j c hc;rw [lbj] at hx;rw [lbl,lbj,hx];rfl
 ·obtain ⟨x,hx,hv⟩:=h2 j c hc;rw [lbl,hx];exact hv
def aZ6 {H:Hp} {p:Nat->Prop} {f:Fn} {caps:List C} {caps':List T} (h:VYL H p caps caps'):VY H p (.fn f caps) (.fn f caps'):=by
 obtain ⟨h1,h2⟩:=h.get;refine .fn h1 (fun j=>caps.getD j (.t (.ptr []))) (fun j c hc=>?_) (fun j c hc=>?_)
 ·obtain ⟨x,hx,_⟩:=h2 j c hc;rw [lbl,hx];rfl
 ·obtain ⟨x,hx,hv⟩:=h2 j c hc;rw [lbl,hx];exact hv
def b21 {H:Hp} {p:Nat->Prop} {id len size:Nat} {app:Bool} {k:Blk} {rows:List (List T)} (hp:p id) (hk:H[id]? =some k) (hd:¬k.mode.gone) (hs:k.size=size) (hl:rows.length=len)
 (hw:∀r ∈ rows,r.length=size) (h:∀(i:Nat) (r:List T),rows[i]? =some r->∃row,k.rows[i]? =some row∧VYL H p row r):VY H p (.own id 0 len app) (.sl size .any rows):=by
 have key:∀i j c,at2 rows i j=some c->∃x,at2 k.rows i j=some x∧VY H p x c:=fun i j c hc=>by
  obtain ⟨r,h1,h2⟩:=G5 hc;obtain ⟨row,h3,h4⟩:=h i r h1;obtain ⟨x,h5,h6⟩:=h4.get.2 j c h2;exact ⟨x,C7 h3 h5,h6⟩
 refine .own hp hk hd hs hl hw (fun i j=>(at2 k.rows i j).getD (.t (.ptr []))) (fun i j c hc=>?_) (fun i j c hc=>?_)
 ·obtain ⟨x,hx,_⟩:=key i j c hc;rw [O5,hx];rfl
 ·obtain ⟨x,hx,hv⟩:=key i j c hc;rw [hx];exact hv
def VY.rt {H:Hp} {p:Nat->Prop} {w:World} {ι:Io} {M M':Ms} (hH:s7 w ι M H) (hM:∀b,M' b->M b) (hp:∀id k b cap size,p id->H[id]? =some k->¬k.mode.gone->ι id=some (.blk b cap size)->¬M' b)
 {x:C} {y:T} (h:VY H p x y):∀{v:Value},RC w ι M x v->RT w M' y v:=by
 induction h with
 |vc h=>intro v hr;exact VC.rt hH hM hp _ _ _ h hr
 |@own id lo len app size k rows hpi hk hd hs hl hw g hc hx ih=>
  intro v hr;cases hr with
  |@own _ _ _ _ b cap sz A cap' hi q1 q2 q3 q4 q5=>
   subst hl;have hbr:=hH.blk id k hk (fun e=>hd (by rw [e];trivial)) _ hi;obtain ⟨r1,r2,r3,r4,r5,cur,r6,r7,r8⟩:=hbr;have hnm:=hp id k b cap sz hpi hk hd hi;have hse:sz=size:=by rw [← hs,r1]
   subst hse;have hat:∀(i j:Nat) (c:T),at2 rows i j=some c->∃u,cur[(lo+i)*sz+j]? =some u∧RT w M' c u:=fun i j c hij=>by
    obtain ⟨u,t1,t2⟩:=r8 _ _ _ (hc i j c hij);exact ⟨u,t1,ih i j c hij t2⟩
   refine .sl (b:=b) (off:=lo*sz) (fun i j=>cur.getD ((lo+i)*sz+j) undef) hw q3 q4 zi zi (fun hne=>q2 (a7h.2 hne)) ?_ ?_
   ·intro i j c hc';obtain ⟨u,s1,s2⟩:=hat i j c hc';refine ⟨?_,hnm⟩;have e:lo*sz+(i*sz+j)=(lo+i)*sz+j:=by rw [T4,a2G]
    simp only [World.cell?];rw [r6,e];simp [s1]
   ·intro i j c hc';obtain ⟨u,s1,s2⟩:=hat i j c hc';have:cur.getD ((lo+i)*sz+j) undef=u:=by simp [s1]
    rw [this];exact s2
  |nil hi=>
   have hr0:rows=[]:=lbG hl;subst hr0;exact .sl (b:=0) (off:=0) (fun _ _=>undef) zq zq (by unfold maxLen;omega) zq zq zq (by simp [at2]) (by simp [at2])
 |@ptr id r o k row cells hpi hk hd hrow g hc hx ih=>
  intro v hr;cases hr with
  |@ptr _ _ _ b cap size hi=>
   have hb:=(hH.blk id k hk (fun e=>hd (by rw [e];trivial)) _ hi).row hrow;have hnm:=hp id k b cap size hpi hk hd hi;refine .ptr (fun j=>(w.cell? ⟨b,r*size+o+j,none⟩).getD undef) (fun j c hj=>?_) (fun j c hj=>?_)
   ·obtain ⟨u,h1,h2⟩:=hb _ _ (hc j c hj);rw [a2G,h1];exact ⟨rfl,hnm⟩
   ·obtain ⟨u,h1,h2⟩:=hb _ _ (hc j c hj);rw [a2G,h1];exact ih j c hj h2
 |@fn f caps caps' hl g hc hx ih=>
  intro v hr;cases hr with
  |fn vs hl' hr=>
   exact .fn vs om fun j c hj=>ih j c hj (hr j _ (hc j c hj))
def VYS (H:Hp) (p:Nat->Prop) (s s':S):Prop:=
 match s' with
 |.junk=>True
 |.c y=>match s,y with
  |.c x,.t y=>VY H p x y
  |_,_=>False
 |.agg ys=>match s with
  |.agg xs=>∃ts,ys=ts.map C.t∧VYL H p xs ts
  |_=>False
 |.tup _=>False
def VYS.rs {H:Hp} {p:Nat->Prop} {w:World} {ι ι':Io} {M M':Ms} (hH:s7 w ι M H) (hM:∀b,M' b->M b) (hp:∀id k b cap size,p id->H[id]? =some k->¬k.mode.gone->ι id=some (.blk b cap size)->¬M' b)
 {x y:S} {v:Value} (h:VYS H p x y) (hr:RS w ι M x v):RS w ι' M' y v:=by
 cases y with
 |junk=>exact .junk
 |c y=>
  cases x with
  |c x=>
   cases y with
   |t y=>
    cases hr with
    |c hr=>exact .c (.t (VY.rt hH hM hp h hr))
   |_=>exact False.elim h
  |_=>exact False.elim h
 |agg ys=>
  cases x with
  |agg xs=>
   obtain ⟨ts,rfl,h⟩:=h;obtain ⟨h1,h2⟩:=h.get;cases hr with
   |agg vs hl hr=>
    refine .agg vs zo fun j c hj=>?_
    rw [lba] at hj;cases hj':ts[j]? with
    |none=>rw [hj'] at hj;cases hj
    |some c'=>
     rw [hj'] at hj;injection hj with hj;subst hj;obtain ⟨x,hx,hv⟩:=h2 j c' hj';exact .t (VY.rt hH hM hp hv (hr j x hx))
  |_=>exact False.elim h
 |tup _=>exact False.elim h
def a1p (H:Hp) (p:Nat->Prop):List S->List S->Prop
 |[],[]=>True
 |s::r,s'::r'=>VYS H p s s'∧a1p H p r r'
 |_,_=>False
def a1p.get {H:Hp} {p:Nat->Prop}:∀{l l':List S},a1p H p l l'->l.length=l'.length∧∀(j:Nat) (s':S),l'[j]? =some s'->∃s,l[j]? =some s∧VYS H p s s'
 |[],[],_=>⟨rfl,zq⟩
 |s::r,s'::r',h=>by
  obtain ⟨h1,h2⟩:=a1p.get h.2;refine ⟨by simp [h1],fun j t ht=>?_⟩;cases j with
  |zero=>simp at ht;subst ht;exact ⟨s,rfl,h.1⟩
  |succ j=>simpa using h2 j t (by simpa using ht)
 |[],_::_,h=>h.elim
 |_::_,[],h=>h.elim
def j4 {P:Program} {g:FuncId} {args args':List S} {H:Hp} {r:S} (h:d6 P g args' [] r []) (ha:a1p H tT args args') (hr:r.flat=true):a02 P g args H r []:=by
 refine ⟨h.1,fun w ι M vals hl hv hH hM hf=>?_⟩;obtain ⟨hlen,hget⟩:=a1p.get ha;have:=h.2 w (fun _=>none) (fun _=>False) vals om (fun j s hj=>by
  obtain ⟨x,hx,hs⟩:=hget j s hj;exact hs.rs hH (fun _ h=>h.elim) (fun _ _ _ _ _ _ _ _ _ h=>h) (hv j x hx))
  .none (fun _ h=>h.elim) (fun _ _=>rfl)
 refine Calls.mono this ?_;rintro e w' ⟨v,rfl,ι',M',h1,h2,h3,h4,h5⟩;exact ⟨v,rfl,K7.of_none (h1.flat hr) ⟨h5.os,h5.tape,h5.output,h5.size,fun b hb=>h5.keep b hb zA⟩⟩
def a5b (i n:Int):ec 266 [eI i,eI n] [] (j8 (idx i n)) []:=by
 refine ac Tryz.func266 ?_;conv=>whnf
 repeat' (first|refine zx ?_|apply zD<;>intro<;>try omega)<;>conv=>whnf
 all_goals (refine g9 ?_;simp only [idx];simp;omega)
def a6K (n lo hi:Int):ec 146 [eI n,eI lo,eI hi] [] (j8 (btw n lo hi)) []:=by
 refine ac Tryz.func146 ?_;conv=>whnf
 repeat' (first|refine zx ?_|apply zD<;>intro<;>try omega)<;>conv=>whnf
 all_goals (refine g9 ?_;simp only [btw];simp;omega)
def b3N (p:Int × Int):List T:=[ti p.1,ti p.2]
def aA7 (e:Ev):List (Int × Int):=[(e.mats,6),(e.hhs,100),(e.scs,30),(e.places.length,100),(e.moves.length,200),(e.certs.length,100),(e.recalls.length,30),(e.purities.length,200)]
def az8 (e:Ev):a35 e=(aA7 e).any fun p=>decide (p.2<p.1):=by
 rw [aj3];simp [a35,aA7];omega
set_option maxRecDepth 100000 in
def bs9 (e:Ev) (hs:e.Sized):d6 Tryz.prog 192 [evS e] [] (j8 (a35 e)) []:=by
 (refine ac Tryz.func192 ?_;(conv=>whnf);repeat (refine zy ?_;conv=>whnf))
 have hl:(aA7 e).length=8:=rfl
 refine i7 d9 (fun k=>(Jn 34++[S.c (C.t (T.sl 2 .full ((aA7 e).map b3N))),c9 .i64 8,c9 .i64 k]++Jn 9,[])) 8 (fun k=>((aA7 e).take k).any (fun p=>decide (p.2<p.1))=false) [] rfl
  ⟨rfl,rfl,trivial,⟨k8 (by simp [aA7,b3N]),rfl,rfl,trivial⟩⟩ ?_
 intro k hk hI
 conv=>whnf
 repeat' (first|refine zx ?_|refine zd ?_ ?_<;>intro h<;>try omega|fail)<;>conv=>whnf
 ·have hlt:k<8:=by omega
  refine f7 (lbf (hl ▸ hlt)) ?_
  conv=>whnf
  repeat' (first|refine zx ?_|refine zd ?_ ?_<;>intro h<;>try omega|fail)<;>conv=>whnf
  ·refine g9 ?_
   rw [az8,a4L (lbf (hl ▸ hlt))]
   simpa using ‹_ > _›
  ·refine ⟨hlt,?_,[],rfl,rfl,trivial,⟨rfl,rfl,rfl,trivial⟩⟩
   rw [a1t (lbf (hl ▸ hlt)),hI]
   have h:=‹¬ _ > _›
   simp;omega
 ·refine g9 ?_
  rw [az8,←hI,lbn om]
def b5I (e:Ev) (hs:e.Sized):d6 Tryz.prog 193 [evS e] [] (j8 (e.places.all (a08 e))) []:=by
 have l1:=hs.s1
 have l2:(e.places.map K8.row).length=e.places.length:=zq
 (refine ac Tryz.func193 ?_;(conv=>whnf);repeat (refine zy ?_;conv=>whnf))
 refine i7 d9 (fun k=>([J,S.c (C.ptr 0 0 0),J,J,J,J,S.c (C.t (a2a e.places)),c9 .i64 e.places.length,c9 .i64 k]++Jn 36,[evB e])) e.places.length (fun k=>(e.places.take k).all (a08 e)=true) [some 0] rfl
  ⟨rfl,rfl,⟨⟨rfl,rfl,rfl,.inl ⟨rfl,y6 e⟩⟩,trivial⟩,⟨⟨rfl,rfl,rfl⟩,k8 rfl,d7 zq,d7 rfl,trivial⟩⟩ ?_
 intro k hk hI
 conv=>whnf
 repeat' (first|refine zx ?_|refine zd ?_ ?_<;>intro h<;>try omega|fail)<;>conv=>whnf
 ·have hlt:k<e.places.length:=by omega
  obtain ⟨x,hx⟩:∃x,e.places[k]? =some x:=⟨_,lbf hlt⟩
  refine f7 hx ?_
  conv=>whnf
  repeat' (first|refine zx ?_|refine qp (a5b _ _) ?_|refine zd ?_ ?_<;>intro h<;>try omega|fail)<;>conv=>whnf
  all_goals first
   |(refine ⟨hlt,?_,[some 0],rfl,rfl,⟨⟨rfl,rfl,rfl,.inl ⟨rfl,y6 e⟩⟩,trivial⟩,⟨⟨rfl,rfl,rfl⟩,rfl,rfl,rfl,trivial⟩⟩;rw [y9 hx,hI];simp_all [a08];done)
   |(refine g9 ?_;rw [C5 hx];simp_all [a08];done)
 ·refine g9 ?_
  rw [← hI,lbn om]
def a6T {e:Ev} {i:Int} (h:idx i e.places.length=true):0<=i∧∃x,e.places[i.toNat]? =some x∧w9 e i=x.kind:=by
 have h':=aJ1.1 h;have hlt:i.toNat<e.places.length:=om;refine ⟨h'.1,_,lbf hlt,?_⟩;unfold w9;rw [lbf hlt];rfl
def bn6 (e:Ev) (m:A8) (hs:e.Sized):ec 194 [evS e,bF3 m] [] (j8 (L2 e m)) []:=by
 have l1:=hs.s1;have l2:(e.places.map K8.row).length=e.places.length:=zq;by_cases h1:idx m.src e.places.length=true
 ·obtain ⟨hs0,x,hx,kx⟩:=a6T h1;by_cases h2:idx m.dst e.places.length=true
  ·obtain ⟨hd0,y,hy,ky⟩:=a6T h2;refine ac Tryz.func194 ?_;conv=>whnf
   rw [← l2] at h1 h2
   repeat' (first|refine zx ?_|refine qp (a5b _ _) ?_|refine qp (a6K _ _ _) ?_|refine x5 hs0 hx ?_|refine x5 hd0 hy ?_|apply zD<;>intro<;>try omega)<;>conv=>whnf
   all_goals (refine g9 ?_;simp_all [L2];done)
  ·refine ac Tryz.func194 ?_;conv=>whnf
   rw [← l2] at h1 h2
   repeat' (first|refine zx ?_|refine qp (a5b _ _) ?_|apply zD<;>intro<;>try omega)<;>conv=>whnf
   all_goals first|(exfalso;simp_all;done)|(refine g9 ?_;simp_all [L2];done)
 ·refine ac Tryz.func194 ?_;conv=>whnf
  rw [← l2] at h1
  repeat' (first|refine zx ?_|refine qp (a5b _ _) ?_|apply zD<;>intro<;>try omega)<;>conv=>whnf
  all_goals first|(exfalso;simp_all;done)|(refine g9 ?_;simp_all [L2];done)
def bw1 (e:Ev) (hs:e.Sized):d6 Tryz.prog 195 [evS e] [] (j8 (a0k e)) []:=by
 have l1:=hs.s3
 have l2:(e.certs.map M9.row).length=e.certs.length:=zq
 have l3:=hs.s4
 have l4:(e.recalls.map F6.row).length=e.recalls.length:=zq
 have l5:=hs.s5
 have l6:(e.purities.map a21.row).length=e.purities.length:=zq
 have l7:=hs.s2
 have l8:(e.moves.map A8.row).length=e.moves.length:=zq
 (refine ac Tryz.func195 ?_;(conv=>whnf);repeat (refine zy ?_;conv=>whnf))
 refine i7 d9 (fun k=>([J,S.c (C.ptr 0 0 0),J,J,J,J,J,J,J,J,J,S.c (C.t (a0O e.certs)),c9 .i64 e.certs.length,c9 .i64 k]++Jn 107,[evB e])) e.certs.length (fun k=>(e.certs.take k).all (a4y e)=true) [some 0] rfl
  ⟨rfl,rfl,⟨⟨rfl,rfl,rfl,.inl ⟨rfl,y6 e⟩⟩,trivial⟩,⟨⟨rfl,rfl,rfl⟩,k8 rfl,d7 zq,d7 rfl,trivial⟩⟩ ?_
 intro k hk hI
 conv=>whnf
 repeat' (first|refine zx ?_|refine zd ?_ ?_<;>intro h<;>try omega|fail)<;>conv=>whnf
 ·have hlt:k<e.certs.length:=by omega
  obtain ⟨x,hx⟩:∃x,e.certs[k]? =some x:=⟨_,lbf hlt⟩
  refine f7 hx ?_
  conv=>whnf
  repeat' (first|refine zx ?_|refine qp (a5b _ _) ?_|refine qp (a6K _ _ _) ?_|refine zd ?_ ?_<;>intro h<;>try omega|fail)<;>conv=>whnf
  all_goals first
   |(refine ⟨hlt,?_,[some 0],rfl,rfl,⟨⟨rfl,rfl,rfl,.inl ⟨rfl,y6 e⟩⟩,trivial⟩,⟨⟨rfl,rfl,rfl⟩,rfl,rfl,rfl,trivial⟩⟩;rw [y9 hx,hI];simp_all [a4y];done)
   |(refine g9 ?_;rw [a0k,C5 hx];rfl;simp_all [a4y];(try omega);done)
 ·have hc:e.certs.all (a4y e)=true:=by rw [← hI,lbn om]
  clear hI h hk
  refine i7 d9 (fun k=>([J,S.c (C.ptr 0 0 0)]++Jn 60++[S.c (C.t (L7 e.recalls)),c9 .i64 e.recalls.length,c9 .i64 k]++Jn 56,[evB e])) e.recalls.length (fun k=>(e.recalls.take k).all (a0S e)=true) [some 0] rfl
   ⟨rfl,rfl,⟨⟨rfl,rfl,rfl,.inl ⟨rfl,y6 e⟩⟩,trivial⟩,⟨⟨rfl,rfl,rfl⟩,k8 rfl,d7 zq,d7 rfl,trivial⟩⟩ ?_
  intro k hk hI
  conv=>whnf
  repeat' (first|refine zx ?_|refine zd ?_ ?_<;>intro h<;>try omega|fail)<;>conv=>whnf
  ·have hlt:k<e.recalls.length:=by omega
   obtain ⟨x,hx⟩:∃x,e.recalls[k]? =some x:=⟨_,lbf hlt⟩
   refine f7 hx ?_
   conv=>whnf
   repeat' (first|refine zx ?_|refine qp (a5b _ _) ?_|refine qp (a6K _ _ _) ?_|refine zd ?_ ?_<;>intro h<;>try omega|fail)<;>conv=>whnf
   all_goals first
    |(refine ⟨hlt,?_,[some 0],rfl,rfl,⟨⟨rfl,rfl,rfl,.inl ⟨rfl,y6 e⟩⟩,trivial⟩,⟨⟨rfl,rfl,rfl⟩,rfl,rfl,rfl,trivial⟩⟩;rw [y9 hx,hI];simp_all [a0S];done)
    |(refine g9 ?_;rw [a0k,hc,C5 hx];rfl;simp_all [a0S];done)
  ·have hr:e.recalls.all (a0S e)=true:=by rw [← hI,lbn om]
   clear hI h hk
   refine i7 d9 (fun k=>([J,S.c (C.ptr 0 0 0)]++Jn 80++[S.c (C.t (a1l e.purities)),c9 .i64 e.purities.length,c9 .i64 k]++Jn 36,[evB e])) e.purities.length (fun k=>(e.purities.take k).all (a0J e)=true) [some 0] rfl
    ⟨rfl,rfl,⟨⟨rfl,rfl,rfl,.inl ⟨rfl,y6 e⟩⟩,trivial⟩,⟨⟨rfl,rfl,rfl⟩,k8 rfl,d7 zq,d7 rfl,trivial⟩⟩ ?_
   intro k hk hI
   conv=>whnf
   repeat' (first|refine zx ?_|refine zd ?_ ?_<;>intro h<;>try omega|fail)<;>conv=>whnf
   ·have hlt:k<e.purities.length:=by omega
    obtain ⟨x,hx⟩:∃x,e.purities[k]? =some x:=⟨_,lbf hlt⟩
    refine f7 hx ?_
    conv=>whnf
    repeat' (first|refine zx ?_|refine qp (a5b _ _) ?_|refine qp (a6K _ _ _) ?_|refine zd ?_ ?_<;>intro h<;>try omega|fail)<;>conv=>whnf
    all_goals first
     |(refine ⟨hlt,?_,[some 0],rfl,rfl,⟨⟨rfl,rfl,rfl,.inl ⟨rfl,y6 e⟩⟩,trivial⟩,⟨⟨rfl,rfl,rfl⟩,rfl,rfl,rfl,trivial⟩⟩;rw [y9 hx,hI];simp_all [a0J];done)
     |(refine g9 ?_;rw [a0k,hc,hr,C5 hx];rfl;simp_all [a0J];(try omega);done)
   ·have hp:e.purities.all (a0J e)=true:=by rw [← hI,lbn om]
    refine g9 ?_
    rw [a0k,hc,hr,hp];rfl
def a3N (e:Ev):Nat->Int
 |0=>0
 |k+1=>((e.moves[k]?).map (·.day)).getD 0
def a2s {e:Ev} {k:Nat} {m:A8} (h:e.moves[k]? =some m):a3N e (k+1)=m.day:=by simp [a3N,h]
def a1y {α:Type} {l:List α} {k:Nat} {x:α} (h:l[k]? =some x):l.drop k=x::l.drop (k+1):=by
 obtain ⟨h1,h2⟩:=lbe.1 h;rw [a3y h1,h2]
def bf1 (e:Ev) (hs:e.Sized):d6 Tryz.prog 123 [evS e] [] (c9 .i64 (F3 e)) []:=by
 have l7:=hs.s2
 have l8:(e.moves.map A8.row).length=e.moves.length:=zq
 (refine ac Tryz.func123 ?_;(conv=>whnf);repeat (refine zy ?_;conv=>whnf))
 repeat' (first|refine zx ?_|refine qp (bs9 _ hs) ?_|refine qp (b5I _ hs) ?_|refine zd ?_ ?_<;>intro h<;>try omega|fail)<;>conv=>whnf
 case refine_2.refine_2.refine_2.refine_2.refine_1 hf h1 h2 h3=>
  have h4:=h
  clear h
  have hpre:¬(e.mats<1∨e.hhs<0∨e.scs<0∨e.places.all (a08 e)=false):=by
   rintro (h|h|h|h)
   ·omega
   ·omega
   ·omega
   ·rw [h4] at h;cases h
  have hck:F3 e=if A9 e 0 e.moves≠0 then A9 e 0 e.moves else if a0k e then 0 else 1:=by
   unfold F3;rw [if_neg (by simp [hf]),if_neg hpre]
  refine i7 d9 (fun k=>([J,S.c (C.ptr 0 0 0),J,c9 .i64 (a3N e k)]++Jn 25++[S.c (C.t (a2M e.moves)),c9 .i64 e.moves.length,c9 .i64 k]++Jn 22,[evB e])) e.moves.length (fun k=>A9 e 0 e.moves=A9 e (a3N e k) (e.moves.drop k)) [some 0] rfl
   ⟨rfl,rfl,⟨⟨rfl,rfl,rfl,.inl ⟨rfl,y6 e⟩⟩,trivial⟩,⟨⟨rfl,rfl,rfl⟩,d7 rfl,k8 rfl,d7 zq,d7 rfl,trivial⟩⟩ ?_
  intro k hk hI
  conv=>whnf
  repeat' (first|refine zx ?_|refine zd ?_ ?_<;>intro h<;>try omega|fail)<;>conv=>whnf
  ·have hlt:k<e.moves.length:=by omega
   obtain ⟨x,hx⟩:∃x,e.moves[k]? =some x:=⟨_,lbf hlt⟩
   rw [a1y hx,A9] at hI
   refine f7 hx ?_
   conv=>whnf
   repeat' (first|refine zx ?_|refine qp (bn6 _ x hs) ?_|refine zd ?_ ?_<;>intro h<;>try omega|fail)<;>conv=>whnf
   all_goals first
    |(refine ⟨hlt,?_,[some 0],rfl,rfl,⟨⟨rfl,rfl,rfl,.inl ⟨rfl,y6 e⟩⟩,trivial⟩,⟨⟨rfl,rfl,rfl⟩,?_,rfl,rfl,rfl,trivial⟩⟩
      ·rw [a2s hx,hI,if_neg om,if_pos (by assumption)]
      ·rw [a2s hx];exact rfl)
    |(have e1:A9 e 0 e.moves=17:=by rw [hI,if_pos om]
      refine o4 ?_;rw [hck,e1];rfl)
    |(have e1:A9 e 0 e.moves=1:=by rw [hI,if_neg om,if_neg (by simp_all)]
      refine o4 ?_;rw [hck,e1];rfl)
  ·rw [List.drop_eq_nil_of_le om,A9] at hI
   repeat' (first|refine zx ?_|refine qp (bw1 _ hs) ?_|refine zd ?_ ?_<;>intro h<;>try omega|fail)<;>conv=>whnf
   all_goals (refine o4 ?_;rw [hck,hI];simp_all)
 all_goals (refine o4 ?_;unfold F3;simp_all;try omega)
def aN1 {x y:Rat}:a5d x y<0↔x<y:=by unfold a5d;split<;>(try split)<;>simp_all
def b7S (x y:Rat):-1<=a5d x y∧a5d x y<=1:=by unfold a5d;split<;>(try split)<;>omega
def bm1 (x y:Rat) (lx:rl x<=60000) (ly:rl y<=60000):ec 258 [frS (fz x),frS (fz y)] [] (.tup [frS (fz (aH3 x y)),eI 0]) []:=by
 have e:ec 313 [frS (fz x),frS (fz y),eI 1] [] (.tup [frS (fz (aH3 x y)),eI 0]) []:=by
  have r1:=L5 x om;have r2:=L5 y om;have x1:=G9 x;have x2:=H6 x;have y1:=G9 y;have y2:=H6 y;have c:=b2S x y lx ly;have hr:=b7S x y;have s1:=ao4 x.num om;have s2:=ao4 x.den om;have s3:=ao4 y.num om;have s4:=ao4 y.den om;refine ac Tryz.func313 ?_;conv=>whnf
  repeat' (first|refine zx ?_|apply zD<;>intro h<;>try omega)<;>conv=>whnf
  ·have h:a5d x y<0:=by omega
   refine a0f (f:=fz y) ?_;unfold aH3;rw [if_pos (aN1.1 h)]
  ·have h:¬a5d x y<0:=by omega
   refine a0f (f:=fz x) ?_;unfold aH3;rw [if_neg (fun h'=>h (aN1.2 h'))]
 refine ac Tryz.func258 ?_;conv=>whnf
 repeat' (first|refine zx ?_|apply zD<;>intro h<;>try omega)<;>conv=>whnf
 all_goals exact a0f rfl
def a5U (n m:Int):ec 312 [eI n,eI m] [] (j8 (btw n 0 m)) []:=by
 refine ac Tryz.func312 ?_;conv=>whnf
 repeat' (first|refine zx ?_|apply zD<;>intro<;>try omega)<;>conv=>whnf
 all_goals (refine g9 ?_;unfold btw;simp;omega)
abbrev aV5 (c:M9):S:=.agg (c.row.map .t)
def aB9 (n:Int):btw n 0 29=idx n 30:=b3l n 30
def aY1 (c:M9):ec 331 [aV5 c] [] (j8 (R6 c)) []:=by
 have w1:=a5U c.scale 29;have w2:=a5U c.grams 1099511627776;have w3:=a5U c.permille 1000;have w4:=a5U c.drift 10000000;rw [aB9] at w1;unfold R6;cases h1:idx c.scale 30<;>cases h2:btw c.grams 0 1099511627776<;>cases h3:btw c.permille 0 1000<;>cases h4:btw c.drift 0 10000000<;>rw [h1] at w1<;>rw [h2] at w2<;>rw [h3] at w3<;>rw [h4] at w4<;>
 ·refine ac Tryz.func331 ?_;conv=>whnf
  repeat' (first|refine zx ?_|apply zD<;>intro<;>try omega)<;>conv=>whnf
  all_goals (refine g9 ?_;simp;try omega)
def aX6 (c:M9) (day:Int):ec 309 [aV5 c,eI day] [] (j8 (L8 c day)) []:=by
 have w1:=aY1 c;unfold L8;cases h1:R6 c<;>rw [h1] at w1<;>
 ·refine ac Tryz.func309 ?_;conv=>whnf
  repeat' (first|refine zx ?_|apply zD<;>intro<;>try omega)<;>conv=>whnf
  all_goals (refine g9 ?_;simp [btw];try omega)
def b0S {cs:List M9} {k:Nat} {c:M9} (h:cs[k]? =some c):aM4 cs k=c.since:=by unfold aM4;rw [h];rfl
abbrev b0t (n:Int):T:=.ptr [ti n]
def b3F {a b:Bool} {ρ:List (Option Nat)} {H:Hp} (h:a=b):a68 ρ H (j8 a) (j8 b):=by subst h;exact rfl
def a9x (o:Option Nat):Nat:=o.getD 0
def bm2 (cs:List M9) (scale day:Int) (hl:cs.length<=1000000):
 ec 255 [.c (.t (a0O cs)),eI scale,eI day] [] (.tup [eI (a9x (D8 cs scale day cs.length)),j8 (D8 cs scale day cs.length).isSome]) []:=by
 have l1:(cs.map M9.row).length=cs.length:=zq;refine ac Tryz.func255 ?_;conv=>whnf
 repeat' (first|refine zx ?_|apply zD<;>intro<;>try omega)<;>conv=>whnf
 refine i7 d9 (fun k=>([S.c (C.t (a0O cs)),eI scale,eI day,J,J,J,J,J,eI (a9x (D8 cs scale day k)),j8 (D8 cs scale day k).isSome,J,J,S.c (C.t (a0O cs)),eI cs.length,eI k]++Jn 31,[])) cs.length tT [] trivial
  ⟨rfl,rfl,trivial,⟨k8 rfl,rfl,rfl,rfl,rfl,k8 rfl,d7 zq,rz⟩⟩ ?_
 intro k hk _;by_cases hlt:k<cs.length
 ·obtain ⟨c,hc⟩:∃c,cs[k]? =some c:=⟨_,lbf hlt⟩;have cv:=aX6 c day;have hst:D8 cs scale day (k+1)=if decide (c.scale=scale) && L8 c day && a5j cs (D8 cs scale day k) c then some k else D8 cs scale day k:=by
   conv=>lhs;unfold D8
   rw [hc]
  cases hcv:L8 c day with
  |false=>
   rw [hcv] at cv hst;simp only [Bool.and_false,a1Z,a8t,if_false] at hst;rw [← hst];conv=>whnf
   repeat' (first|refine zx ?_|refine f7 hc ?_|apply zD<;>intro<;>try omega)<;>conv=>whnf
   all_goals first
    |omega
    |exact ⟨hlt,trivial,[],rz⟩
  |true=>
   rw [hcv] at cv hst;cases hf:D8 cs scale day k with
   |none=>
    rw [hf] at hst;conv=>whnf
    repeat' (first|refine zx ?_|refine f7 hc ?_|apply zD<;>intro<;>try omega)<;>conv=>whnf
    ·exact ⟨hlt,trivial,[],rfl,rfl,trivial,⟨rfl,rfl,rfl,d7 (by rw [hst];simp [*,a5j,a9x]),b3F (by rw [hst];simp [*,a5j]),rz⟩⟩
    ·exact ⟨hlt,trivial,[],rfl,rfl,trivial,⟨rfl,rfl,rfl,d7 (by rw [hst];simp [*,a5j,a9x]),b3F (by rw [hst];simp [*,a5j]),rz⟩⟩
   |some b=>
    rw [hf] at hst;obtain ⟨hb,cb,hcb,_⟩:=O0 hf;have hsb:=b0S hcb;conv=>whnf
    repeat' (first|refine zx ?_|refine f7 hc ?_|refine f7 hcb ?_|apply zD<;>intro<;>try omega)<;>conv=>whnf
    all_goals first|exact ⟨hlt,trivial,[],rfl,rfl,trivial,⟨rfl,rfl,rfl,d7 (by rw [hst];simp [*,a5j,a9x]),b3F (by rw [hst];simp [*,a5j]),rz⟩⟩|(exfalso;simp_all;done)
 ·have hke:k=cs.length:=by omega
  subst hke;conv=>whnf
  repeat' (first|refine zx ?_|apply zD<;>intro<;>try omega)<;>conv=>whnf
  all_goals first|omega|exact n9 rz
def aM5 (r:F6) (scale day:Int):ec 311 (.agg (r.row.map .t)::[b0t scale,b0t day].map fun x=>.c (.t x)) [] (j8 (decide (r.scale=scale) && decide (r.since<=day))) []:=by
 refine ac Tryz.func311 ?_;conv=>whnf
 repeat' (first|refine zx ?_|apply zD<;>intro<;>try omega)<;>conv=>whnf
 all_goals (refine g9 ?_;simp [*];try omega)
abbrev bq6 (r:F6):S:=.agg (r.row.map .t)
def H5 {α:Type} (q:α->Bool):List α->Nat->Int
 |[],_=>-1
 |x::r,k=>if q x then k else H5 q r (k+1)
def a56 {α:Type} (q:α->Bool):∀(l:List α) (k:Nat),decide (0<=H5 q l k)=l.any q
 |[],k=>by simp [H5]
 |x::r,k=>by
  unfold H5;rw [List.any_cons];cases h:q x with
  |true=>simp
  |false=>simpa using a56 q r (k+1)
def b1H (rs:List F6) (hl:rs.length<=1000000) (g:FuncId) (caps:List T) (q:F6->Bool) (hg:∀r ∈ rs,ec g (bq6 r::caps.map fun x=>.c (.t x)) [] (j8 (q r)) []):
 ec 332 [.c (.t (L7 rs)),.c (.t (.fn (.func g) caps))] [] (eI (H5 q rs 0)) []:=by
 have l1:(rs.map F6.row).length=rs.length:=zq;refine ac Tryz.func332 ?_;conv=>whnf
 repeat' (first|refine zx ?_|apply zD<;>intro<;>try omega)<;>conv=>whnf
 refine i7 d9 (fun k=>([S.c (C.t (L7 rs)),S.c (C.t (T.fn (.func g) caps)),J,J,J,J,J,eI rs.length,eI k]++Jn 10,[])) rs.length (fun k=>H5 q (rs.drop k) k=H5 q rs 0) [] rfl
  ⟨rfl,rfl,trivial,⟨k8 rfl,k8 rfl,d7 zq,rz⟩⟩ ?_
 intro k hk hI;by_cases hlt:k<rs.length
 ·obtain ⟨r,hr⟩:∃r,rs[k]? =some r:=⟨_,lbf hlt⟩;have hd:rs.drop k=r::rs.drop (k+1):=by
   rw [a3y hlt];rw [lbf hlt] at hr;injection hr with hr;rw [hr]
  have hgr:=hg r (lbm hr);have ha:(bq6 r::caps.map fun x=>S.c (C.t x)).all S.isT=true:=by simp [S.isT,C.isT,F6.row]
  rw [hd] at hI;have hI:(if q r then (k:Int) else H5 q (rs.drop (k+1)) (k+1))=H5 q rs 0:=hI;cases hq:q r with
  |true=>
   rw [hq] at hgr hI;conv=>whnf
   repeat' (first|refine zx ?_|refine .inl ⟨_,_,D7 hgr ha rfl,?_⟩|refine f7 hr ?_|apply zD<;>intro<;>try omega)<;>conv=>whnf
   all_goals first
    |omega
    |exact o4 hI
  |false=>
   rw [hq] at hgr hI;conv=>whnf
   repeat' (first|refine zx ?_|refine .inl ⟨_,_,D7 hgr ha rfl,?_⟩|refine f7 hr ?_|apply zD<;>intro<;>try omega)<;>conv=>whnf
   all_goals first|omega|exact ⟨hlt,by simpa using hI,[],rz⟩
 ·have hke:k=rs.length:=by omega
  subst hke;rw [lbo (lbS _)] at hI;conv=>whnf
  repeat' (first|refine zx ?_|apply zD<;>intro<;>try omega)<;>conv=>whnf
  all_goals first|omega|exact o4 hI
def ax4 (rs:List F6) (hl:rs.length<=1000000) (g:FuncId) (caps:List T) (q:F6->Bool) (hg:∀r ∈ rs,ec g (bq6 r::caps.map fun x=>.c (.t x)) [] (j8 (q r)) []):
 ec 310 [.c (.t (L7 rs)),.c (.t (.fn (.func g) caps))] [] (j8 (rs.any q)) []:=by
 have ix:=b1H rs hl g caps q hg;refine ac Tryz.func310 ?_;conv=>whnf
 repeat' (first|refine zx ?_|apply zD<;>intro<;>try omega)<;>conv=>whnf
 all_goals (refine g9 ?_;rw [← a56 q rs 0];simp;omega)
def b2a (rs:List F6) (hl:rs.length<=1000000) (scale day:Int):ec 256 [.c (.t (L7 rs)),eI scale,eI day] [] (j8 (a2n rs scale day)) []:=by
 have ct:=ax4 rs hl 311 [b0t scale,b0t day] _ (fun r _=>aM5 r scale day)
 (refine ac Tryz.func256 ?_;(conv=>whnf);repeat ((first|refine b0x ?_|refine zy ?_);conv=>whnf))
 repeat' (first|refine zx ?_|apply zD<;>intro<;>try omega)<;>conv=>whnf
 all_goals (refine g9 ?_;symm;assumption)
def a4q {c:M9} {day:Int} (h:L8 c day=true):0<=c.since∧c.since<=day∧day<=c.till∧c.till<=100000∧0<=c.grams∧c.grams<=1099511627776∧0<=c.permille∧c.permille<=1000∧0<=c.drift∧c.drift<=10000000:=by
 unfold L8 R6 btw at h;simp only [lbO,lbJ] at h;omega
abbrev M4:Fr:=⟨⟨0,[]⟩,⟨0,[]⟩⟩
def b73 {f f':Fr} {b b':Bool} {H1:Hp} (h:f=f') (h2:b=b'):Fin 0 (.tup [frS f,j8 b]) H1 (.tup [frS f',j8 b']) []:=by
 subst h h2;exact n9 rz
structure b8o (c:M9) (reading day:Int):Prop where
 p0:0<=c.permille*reading
 p1:c.permille*reading<=1000*1099511627776
 d0:0<=c.drift*(day - c.since)
 d1:c.drift*(day - c.since)<=10000000*100000
def b8o.of {c:M9} {reading day:Int} (h:L8 c day=true) (hr:btw reading 0 1099511627776=true):b8o c reading day:=by
 have hc:=a4q h;rw [a09] at hr;exact ⟨lb1 om om,a7I om om om om,lb1 om om,a7I om om om om⟩
def b1t {c:M9} {reading day:Int} (h:L8 c day=true) (hr:btw reading 0 1099511627776=true):rl (a3H c reading day)<=9:=by
 have i:=b8o.of h hr;have hc:=a4q h;obtain ⟨p0,p1,d0,d1⟩:=i;unfold a3H;have h1:=a3A (Rat.divInt (c.permille*reading) 1000) ((c.grams+c.drift*(day - c.since):Int):Rat);have h2:rl (Rat.divInt (c.permille*reading) 1000)<=4:=lbT (N1 de) (by have:=S2 (x:=c.permille*reading) om om;have:=S2 (x:=1000) de de;omega);have h3:rl ((c.grams+c.drift*(day - c.since):Int):Rat)<=4:=by rw [a18];have:=S2 (x:=c.grams+c.drift*(day - c.since)) om om;omega
 omega
def b9b (c:M9) (reading day:Int) (h:L8 c day=true):ec 257 [aV5 c,eI reading,eI day] []
 (.tup [frS (if btw reading 0 1099511627776 then fz (a3H c reading day) else M4),j8 (btw reading 0 1099511627776)]) []:=by
 have cv:=aX6 c day;have wi:=a5U reading 1099511627776;rw [h] at cv;have hc:=a4q h;cases hr:btw reading 0 1099511627776 with
 |false=>
  rw [hr] at wi;refine ac Tryz.func257 ?_;conv=>whnf
  repeat' (first|refine zx ?_|apply zD<;>intro h<;>try omega)<;>conv=>whnf
  all_goals first
   |(exfalso;simp_all;done)
   |exact n9 rz
 |true=>
  rw [hr] at wi;obtain ⟨p0,p1,d0,d1⟩:=b8o.of h hr;rw [a09] at hr;have fo:=b7N (c.permille*reading) 1000 de om om de de;have fi:=W9 (c.grams+c.drift*(day - c.since)) om om;have h2:rl (Rat.divInt (c.permille*reading) 1000)<=4:=lbT (N1 de) (by have:=S2 (x:=c.permille*reading) om om;have:=S2 (x:=1000) de de;omega);have h3:rl ((c.grams+c.drift*(day - c.since):Int):Rat)<=4:=by rw [a18];have:=S2 (x:=c.grams+c.drift*(day - c.since)) om om;omega
  have ad:=a5h (Rat.divInt (c.permille*reading) 1000) ((c.grams+c.drift*(day - c.since):Int):Rat) om om;refine ac Tryz.func257 ?_;conv=>whnf
  repeat' (first|refine zx ?_|refine bl0 [7] ?_|refine bl0 [15] ?_|apply zD<;>intro h<;>try omega)<;>conv=>whnf
  all_goals first|(exfalso;simp_all;done)|exact b73 rfl rfl
abbrev ivL (o:Option (Rat × Rat)):List S:=match o with
 |some (lo,hi)=>[frS (fz lo),frS (fz hi),j8 true]
 |none=>[frS M4,frS M4,j8 false]
def b9G {x y:Rat} {n:Nat} (h1:rl x<=n) (h2:rl y<=n):rl (aH3 x y)<=n:=by unfold aH3;split<;>assumption
def aV8 {cs:List M9} {rs:List F6} {scale reading day:Int} {lo hi:Rat} (h:L9 cs rs scale reading day=some (lo,hi)):rl lo<=20∧rl hi<=20:=by
 unfold L9 at h;split at h
 ·cases h
 ·rename_i i hi;obtain ⟨hb,c,hc,_,hcv⟩:=O0 hi;have e:a1V cs i=c:=by unfold a1V;rw [hc];rfl
  rw [e] at h;split at h
  ·cases h
  ·split at h
   ·rename_i hr;injection h with h;injection h with h1 h2;have l1:=b1t hcv hr;rw [a09] at hr;have l2:rl (reading:Rat)<=4:=by rw [a18];have:=S2 (x:=reading) om om;omega
    have l3:=a3A (reading:Rat) (a3H c reading day);have l4:=aM9 (reading:Rat) (a3H c reading day);refine ⟨?_,by rw [← h2];omega⟩;rw [← h1];exact b9G om (by rw [b38];omega)
   ·cases h
def b2r (cs:List M9) (rs:List F6) (hl:cs.length<=1000000) (hl2:rs.length<=1000000) (scale reading day:Int):
 ec 184 [.c (.t (a0O cs)),.c (.t (L7 rs)),eI scale,eI reading,eI day] [] (.tup (ivL (L9 cs rs scale reading day))) []:=by
 have f:=bm2 cs scale day hl;have r:=b2a rs hl2 scale day;unfold L9;cases hf:D8 cs scale day cs.length with
 |none=>
  rw [hf] at f;refine ac Tryz.func184 ?_;conv=>whnf
  repeat' (first|refine zx ?_|refine bl0 [1] ?_|refine bl0 [6] ?_|apply zD<;>intro<;>try omega)<;>conv=>whnf
  all_goals first
   |(exfalso;simp_all;done)
   |exact n9 rz
 |some i=>
  rw [hf] at f;obtain ⟨hb,c,hc,_,hcv⟩:=O0 hf;have e:a1V cs i=c:=by unfold a1V;rw [hc];rfl
  have er:=b9b c reading day hcv;simp only [e];cases hrec:a2n rs scale day with
  |true=>
   rw [hrec] at r;refine ac Tryz.func184 ?_;conv=>whnf
   repeat' (first|refine zx ?_|refine bl0 [1] ?_|refine bl0 [6] ?_|apply zD<;>intro<;>try omega)<;>conv=>whnf
   all_goals first
    |(exfalso;simp_all;done)
    |exact n9 rz
  |false=>
   rw [hrec] at r;cases hr:btw reading 0 1099511627776 with
   |false=>
    rw [hr] at er;refine ac Tryz.func184 ?_;conv=>whnf
    repeat' (first|refine zx ?_|refine f7 hc ?_|refine bl0 [1] ?_|refine bl0 [9] ?_|apply zD<;>intro<;>try omega)<;>conv=>whnf
    all_goals first
     |exact n9 rz
     |(exfalso;simp_all;done)
   |true=>
    have l1:=b1t hcv hr;rw [hr] at er;rw [a09] at hr;have l2:rl (reading:Rat)<=4:=by rw [a18];have:=S2 (x:=reading) om om;omega
    have fi:=W9 reading om om;have f0:=W9 0 om om;have sb:=b84 (reading:Rat) (a3H c reading day) om om;have ad:=a5h (reading:Rat) (a3H c reading day) om om;have l4:=aM9 (reading:Rat) (a3H c reading day);have mx:=bm1 ((reading:Rat) - a3H c reading day) ((0:Int):Rat) om (by rw [b38];omega);refine ac Tryz.func184 ?_;conv=>whnf
    repeat' (first|refine zx ?_|refine f7 hc ?_|refine bl0 [1] ?_|refine bl0 [9] ?_|refine bl0 [5] ?_|apply zD<;>intro<;>try omega)<;>conv=>whnf
    all_goals first|exact n9 rz|(exfalso;simp_all;done)
def t5 (f:Fr):List T:=[ti f.p.sg,w7 f.p.dl,ti f.q.sg,w7 f.q.dl]
abbrev z4 (l:List Fr):T:=.sl 4 .any (l.map t5)
abbrev p5 (l:List Fr):S:=.c (.t (z4 l))
def a2J (l:List Fr):List T:=[z4 l]
abbrev bx9 (h:List (List Fr)):T:=.sl 1 .any (h.map a2J)
abbrev b0o (h:List (List Fr)):S:=.c (.t (bx9 h))
def a3X (l:List Rat) {k:Nat} {x:Rat} (h:l[k]? =some x):(l.map fz)[k]? =some (fz x):=by rw [lba,h];rfl
def b05 {f f':Fr} {H1:Hp} (h:f=f'):Fin 0 (frS f) H1 (frS f') []:=by subst h;exact n9 rz
abbrev frB (f:Fr):Blk:={ mode:=.live,elem:=86,size:=4,rows:=[frC f],box:=true }
def Q0 (f:Fr):J9 [frC f]:=by
 intro r hr c hc;simp at hr;subst hr;simp [frC] at hc;rcases hc with rfl|rfl|rfl|rfl<;>rfl
def b9B {x:Rat}:sgR x<0↔x<0:=by unfold sgR;split<;>(try split)<;>simp_all
def bc5 {x y:Rat}:a5d x y<=0↔x<=y:=by
 unfold a5d;split
 ·simp;grind
 ·split
  ·simp;grind
  ·simp;grind
def b03 {x y:Rat}:a5d x y > 0↔y<x:=by
 have:=bc5 (x:=x) (y:=y);constructor
 ·intro h;have h2:¬x<=y:=fun h'=>by have:=this.2 h';omega
  grind
 ·intro h;have h2:¬a5d x y<=0:=fun h'=>by have:=this.1 h';grind
  omega
def P5.row (f:P5):List T:=[ti f.mv,ti f.kind,ti f.grams]
def Y8.row (c:Y8):List T:=[ti c.mv,ti c.kind]
abbrev aq9 (l:List P5):T:=.sl 3 .any (l.map P5.row)
abbrev a3j (l:List Y8):T:=.sl 2 .any (l.map Y8.row)
def trT (t:j6):List T:=[ti t.ev.mats,ti t.ev.hhs,ti t.ev.scs,a2a t.ev.places,a2M t.ev.moves,a0O t.ev.certs,L7 t.ev.recalls,a1l t.ev.purities,aq9 t.finds,a3j t.cleans]
def trC (t:j6):List C:=[.t (ti t.ev.mats),.t (ti t.ev.hhs),.t (ti t.ev.scs),.t (a2a t.ev.places),.t (a2M t.ev.moves),.t (a0O t.ev.certs),.t (L7 t.ev.recalls),.t (a1l t.ev.purities),.t (aq9 t.finds),.t (a3j t.cleans)]
abbrev trS (t:j6):S:=.agg (trC t)
structure j6.Sized (t:j6):Prop where
 ev:t.ev.Sized
 f:t.finds.length<=1000000
 c:t.cleans.length<=1000000
def a6f {x:Rat}:sgR x=0↔x=0:=by unfold sgR;split<;>(try split)<;>simp_all<;>grind
def b6c (e:Ev) (mv kind:Int):ec 124 [evS e,eI mv,eI kind] [] (eI (a25 e mv kind)) []:=by
 have l2:(e.moves.map A8.row).length=e.moves.length:=zq;refine ac Tryz.func124 ?_;conv=>whnf
 repeat' (first|refine zx ?_|apply zD<;>intro<;>try omega)<;>conv=>whnf
 all_goals (refine o4 ?_;unfold a25;(repeat' split)<;>first|rfl|omega)
def aV2 (t:j6) (hs:t.Sized):ec 58 [trS t] [] (eI (y7 t)) []:=by
 have l1:=hs.f;have l2:=hs.c;have ck:=bf1 t.ev hs.ev;have m1:(t.finds.map P5.row).length=t.finds.length:=zq;have m2:(t.cleans.map Y8.row).length=t.cleans.length:=zq;by_cases h0:F3 t.ev≠0
 ·have e1:y7 t=F3 t.ev:=by unfold y7;rw [if_pos h0]
  rw [e1]
  (refine ac Tryz.func58 ?_;(conv=>whnf);repeat ((first|refine b0x ?_|refine zy ?_);conv=>whnf))
  repeat' (first|refine zx ?_|apply zD<;>intro<;>try omega)<;>conv=>whnf
  all_goals first|omega|exact o4 rfl
 have h0:F3 t.ev=0:=om;rw [h0] at ck;by_cases h1:20<t.finds.length∨50<t.cleans.length
 ·have e1:y7 t=6:=by unfold y7;rw [if_neg om,if_pos h1]
  rw [e1]
  (refine ac Tryz.func58 ?_;(conv=>whnf);repeat ((first|refine b0x ?_|refine zy ?_);conv=>whnf))
  repeat' (first|refine zx ?_|apply zD<;>intro<;>try omega)<;>conv=>whnf
  all_goals first|omega|exact o4 rfl
 have e1:y7 t=if Q7 t.ev t.finds≠0 then Q7 t.ev t.finds else P8 t.ev t.cleans:=by unfold y7;rw [if_neg om,if_neg h1]
 rw [e1]
 (refine ac Tryz.func58 ?_;(conv=>whnf);repeat ((first|refine b0x ?_|refine zy ?_);conv=>whnf))
 repeat' (first|refine zx ?_|apply zD<;>intro<;>try omega)<;>conv=>whnf
 all_goals try omega
 refine i7 d9 (fun k=>([J,S.c (C.t (T.ptr (trT t)))]++Jn 25++[S.c (C.t (aq9 t.finds)),eI t.finds.length,eI k]++Jn 40,[])) t.finds.length (fun k=>Q7 t.ev t.finds=Q7 t.ev (t.finds.drop k)) [] rfl
  ⟨rfl,rfl,trivial,⟨rfl,rfl,d7 zq,rz⟩⟩ ?_
 intro k hk hI;by_cases hlt:k<t.finds.length
 ·obtain ⟨f,hf⟩:∃f,t.finds[k]? =some f:=⟨_,lbf hlt⟩;have mk:=b6c t.ev f.mv f.kind;rw [a1y hf,Q7] at hI;by_cases hm:a25 t.ev f.mv f.kind≠0
  ·rw [if_pos hm] at hI;rw [hI,if_pos hm];conv=>whnf
   repeat' (first|refine zx ?_|refine f7 hf ?_|apply zD<;>intro<;>try omega)<;>conv=>whnf
   all_goals first|omega|exact o4 rfl
  ·rw [if_neg hm] at hI;by_cases hg:f.grams<1∨1099511627776<f.grams
   ·rw [if_pos hg] at hI;rw [hI];conv=>whnf
    repeat' (first|refine zx ?_|refine f7 hf ?_|apply zD<;>intro<;>try omega)<;>conv=>whnf
    all_goals first|omega|exact o4 rfl
   ·rw [if_neg hg] at hI;conv=>whnf
    repeat' (first|refine zx ?_|refine f7 hf ?_|apply zD<;>intro<;>try omega)<;>conv=>whnf
    all_goals first|omega|exact ⟨hlt,hI,[],rz⟩
 ·rw [lbo om] at hI;have hI:Q7 t.ev t.finds=0:=hI;rw [hI,if_neg om];conv=>whnf
  repeat' (first|refine zx ?_|apply zD<;>intro<;>try omega)<;>conv=>whnf
  all_goals try omega
  refine i7 d9 (fun k=>([J,S.c (C.t (T.ptr (trT t)))]++Jn 51++[S.c (C.t (a3j t.cleans)),eI t.cleans.length,eI k]++Jn 14,[])) t.cleans.length (fun k=>P8 t.ev t.cleans=P8 t.ev (t.cleans.drop k)) [] rfl
   ⟨rfl,rfl,trivial,⟨rfl,rfl,d7 zq,rz⟩⟩ ?_
  intro j hj hJ;by_cases hjt:j<t.cleans.length
  ·obtain ⟨c,hc⟩:∃c,t.cleans[j]? =some c:=⟨_,lbf hjt⟩;have mk:=b6c t.ev c.mv c.kind;rw [a1y hc,P8] at hJ;by_cases hm:a25 t.ev c.mv c.kind≠0
   ·rw [if_pos hm] at hJ;rw [hJ];conv=>whnf
    repeat' (first|refine zx ?_|refine f7 hc ?_|apply zD<;>intro<;>try omega)<;>conv=>whnf
    all_goals first|omega|exact o4 rfl
   ·rw [if_neg hm] at hJ;conv=>whnf
    repeat' (first|refine zx ?_|refine f7 hc ?_|apply zD<;>intro<;>try omega)<;>conv=>whnf
    all_goals first|omega|exact ⟨hjt,hJ,[],rz⟩
  ·rw [lbo om] at hJ;have hJ:P8 t.ev t.cleans=0:=hJ;rw [hJ];conv=>whnf
   repeat' (first|refine zx ?_|apply zD<;>intro<;>try omega)<;>conv=>whnf
   all_goals first|omega|exact o4 rfl
def bF1 (e:Ev) {i:Nat} {x:A8} (h0:F3 e=0) (hx:e.moves[i]? =some x):ec 116 [evS e,eI i] [] (j8 (decide (w9 e x.src=0))) []:=by
 have hm:=O9 h0 (lbm hx);have ms:=a2t hm;obtain ⟨s,hsn⟩:∃s:Nat,x.src=s:=⟨x.src.toNat,om⟩;obtain ⟨pl,hpl⟩:∃pl,e.places[s]? =some pl:=⟨_,lbf om⟩;have hkd:w9 e x.src=pl.kind:=by rw [hsn];exact aG7 hpl
 rw [hkd];refine ac Tryz.func116 ?_;conv=>whnf
 repeat' (first|refine zx ?_|refine f7 hx ?_|refine D9 hsn hpl ?_|apply zD<;>intro<;>try omega)<;>conv=>whnf
 all_goals (refine g9 ?_;simp [*])
def k6 (x:Int × Rat):List T:=ti x.1::t5 (fz x.2)
abbrev Z5 (l:List (Int × Rat)):T:=.sl 5 .any (l.map k6)
def w5 (w:z7):List T:=Z5 w.terms::ti w.kind::t5 (fz w.value)
def bG5 (w:z7):List C:=.t (Z5 w.terms)::.t (ti w.kind)::frC (fz w.value)
abbrev aw9 (w:z7):S:=.agg (bG5 w)
abbrev J7 (l:List z7):T:=.sl 6 .any (l.map w5)
abbrev S9 (s:j2):S:=.agg [.t (ti s.n),.t (J7 s.rows)]
abbrev zR:Rat:=((0:Int):Rat)
def a0N {e:Ev} (h:F3 e=0):1<=e.mats∧e.mats<=6∧e.places.length<=100∧e.moves.length<=200:=by
 obtain ⟨h1,h2,_⟩:=aq2 h;unfold a35 at h1;simp only [a1h,lbL] at h1;omega
end Go.Proofs.YtikokmdpigploaaGreat
