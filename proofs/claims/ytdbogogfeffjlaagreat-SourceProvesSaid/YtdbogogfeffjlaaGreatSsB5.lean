/- Part 5. -/
import Derived.Test.YtdbogogfeffjlaaGreatSsB4
namespace Go.Proofs.YtdbogogfeffjlaaGreat
set_option linter.unusedVariables false
set_option linter.unusedSimpArgs false
set_option maxRecDepth 100000
open St1 St2 St3 St4 St5 St6
section
theorem at0 {f:Nat→Nat→Rat} (m:Nat):∀n:Nat,g8 (fun i=>g8 (f i) m) n=g8 (fun j=>g8 (fun i=>f i j) n) m
 |0=>by
  show g8 _ 0=_
  rw [u6 (f:=fun j=>g8 (fun i=>f i j) 0) (n:=m) fun j hj=>by simp only [g8,Q4]]
  simp only [g8,Q4]
 |n+1=>by
  simp only [g8]
  rw [at0 m n,←a0Y]
theorem a34 {n a:Nat} (ha:a<n) (v:Rat) (c:Nat→Rat):g8 (fun i=>(if a=i then v else 0)*c i) n=v*c a:=by
 rw [B8 ha,u6 fun j hj=>by
  by_cases h:j=a
  ·rw [if_pos h]
  ·rw [if_neg h,if_neg (fun e=>h e.symm)];grind]
 rw [if_pos rfl];grind
def o7 (s:f5) (i:Nat):x7:=s.rows.getD i ⟨[],2,0⟩
theorem F9 {s:f5} {i:Nat} {w:x7} (h:s.rows[i]? =some w):o7 s i=w:=by unfold o7;rw [lg3,h];rfl
def z5 (s:f5) (k:Nat):Nat × Bool:=(d6 s).getD k (0,false)
def chg (s:f5) (w:Nat) (p:Rat) (i:Nat):Rat:=if s.n.toNat≤w∧(z5 s (w - s.n.toNat)).1=i then -(O3 (z5 s (w - s.n.toNat)).2 p) else 0
def slV (s:f5) (w:Nat):Rat:=if s.n.toNat≤w then (g7 s []).V (w - s.n.toNat) else 0
def slA (s:f5) (l w:Nat):Rat:=if s.n.toNat≤w then (g7 s []).A (w - s.n.toNat) l else 0
theorem a3A {s:f5} {k:Nat} (hk:k<(d6 s).length):∃w,s.rows[(z5 s k).1]? =some w∧((z5 s k).2=false→w.kind≠0)∧((z5 s k).2=true→w.kind≠1):=by
 have:z5 s k ∈ d6 s:=by
  unfold z5
  rw [lg3,lg0 hk]
  exact List.getElem_mem _
 exact V8.1 this
theorem ap4 {s:f5} {w:Nat} (hw:w<s.n.toNat+(d6 s).length) (p:Rat) (c:x7→Rat):
 g8 (fun i=>chg s w p i*c (o7 s i)) s.rows.length=if s.n.toNat≤w then -p*O3 (z5 s (w - s.n.toNat)).2 (c (o7 s (z5 s (w - s.n.toNat)).1)) else 0:=by
 by_cases h:s.n.toNat≤w
 ·rw [if_pos h]
  obtain ⟨x,hx,_⟩:=a3A (s:=s) (k:=w - s.n.toNat) (by omega)
  have hl:=(lg1 hx).1
  rw [f7 (g:=fun i=>(if (z5 s (w - s.n.toNat)).1=i then -(O3 (z5 s (w - s.n.toNat)).2 p) else 0)*c (o7 s i)) fun i hi=>by
   unfold chg
   by_cases h2:(z5 s (w - s.n.toNat)).1=i
   ·rw [if_pos ⟨h,h2⟩,if_pos h2]
   ·rw [if_neg (fun e=>h2 e.2),if_neg h2]]
  rw [a34 hl]
  cases (z5 s (w - s.n.toNat)).2 with
  |false=>rfl
  |true=>show -(-p)*_=-p*-_;grind
 ·rw [if_neg h]
  exact u6 fun i hi=>by unfold chg;rw [if_neg (fun e=>h e.1)];grind
theorem b1J {s:f5} {w:Nat} (hw:w<s.n.toNat+(d6 s).length) (p:Rat):g8 (fun i=>chg s w p i*(o7 s i).value) s.rows.length=-p*slV s w:=by
 rw [ap4 hw p x7.value]
 unfold slV
 split
 ·rename_i h
  obtain ⟨x,hx,_⟩:=a3A (s:=s) (k:=w - s.n.toNat) (by omega)
  rw [F9 hx]
  have:(g7 s []).V (w - s.n.toNat)=O3 (z5 s (w - s.n.toNat)).2 x.value:=by show a2y s (z5 s (w - s.n.toNat))=_;unfold a2y;simp only [hx]
  rw [this]
 ·grind
theorem b2L {s:f5} {w:Nat} (hw:w<s.n.toNat+(d6 s).length) (p:Rat) (l:Nat):g8 (fun i=>chg s w p i*u3 (o7 s i).terms l) s.rows.length=-p*slA s l w:=by
 rw [ap4 hw p (fun r=>u3 r.terms l)]
 unfold slA
 split
 ·rename_i h
  obtain ⟨x,hx,_⟩:=a3A (s:=s) (k:=w - s.n.toNat) (by omega)
  rw [F9 hx]
  have:(g7 s []).A (w - s.n.toNat) l=O3 (z5 s (w - s.n.toNat)).2 (u3 x.terms l):=by show a16 s (z5 s (w - s.n.toNat)) l=_;unfold a16;simp only [hx]
  rw [this]
 ·grind
def yv (s:f5) (c:Rat) (t:Nat→Rat) (w:Nat):Rat:=if w<s.n.toNat then t w else c*(g7 s []).V (w - s.n.toNat) - g8 (fun l=>(g7 s []).A (w - s.n.toNat) l*t l) s.n.toNat
theorem aZ2 {s:f5} {g:List (Int × Rat)} (c:Rat) (t:Nat→Rat):Ids (d6 s).length s.n.toNat (g7 s g) (yv s c t) c:=by
 intro i hi
 show yv s c t (s.n.toNat+i)=_
 unfold yv
 rw [if_neg (by omega),show s.n.toNat+i - s.n.toNat=i by omega]
 show c*(g7 s g).V i - _=c*(g7 s g).V i - _
 congr 1
 refine f7 fun j hj=>?_
 show _=(g7 s g).A i j*(if j<s.n.toNat then t j else _)
 rw [if_pos hj];rfl
theorem aV5 {s:f5} (w:Nat):yv s 1 (fun _=>0) w=slV s w:=by
 unfold yv slV
 by_cases h:w<s.n.toNat
 ·rw [if_pos h,if_neg (by omega)]
 ·rw [if_neg h,if_pos (by omega),u6 fun l hl=>by grind];grind
theorem b4C {s:f5} {l:Nat} (hl:l<s.n.toNat) (w:Nat):yv s 0 (fun j=>if l=j then 1 else 0) w=(if l=w then 1 else 0) - slA s l w:=by
 unfold yv slA
 by_cases h:w<s.n.toNat
 ·rw [if_pos h,if_neg (show ¬s.n.toNat≤w by omega)];grind
 ·rw [if_neg h,if_pos (show s.n.toNat≤w by omega),if_neg (show ¬l=w by omega),f7 (g:=fun j=>(if l=j then (1:Rat) else 0)*(g7 s []).A (w - s.n.toNat) j) fun j hj=>by grind,a34 hl]
  grind
def C1 (s:f5) (y:Nat→Rat) (l:Nat):Rat:=g8 (fun i=>y i*u3 (o7 s i).terms l) s.rows.length
def J4 (s:f5) (y:Nat→Rat):Rat:=g8 (fun i=>y i*(o7 s i).value) s.rows.length
def an6 (s:f5) (y:Nat→Rat):Prop:=∀(i:Nat) (w:x7),s.rows[i]? =some w→(w.kind=0→0≤y i)∧(w.kind=1→y i≤0)
theorem b11 {s:f5} {w:Nat} (hw:w<s.n.toNat+(d6 s).length) {p:Rat} (hp:0≤p):an6 s (chg s w p):=by
 intro i x hx
 unfold chg
 by_cases h:s.n.toNat≤w∧(z5 s (w - s.n.toNat)).1=i
 ·rw [if_pos h]
  obtain ⟨x',hx',h1,h2⟩:=a3A (s:=s) (k:=w - s.n.toNat) (by omega)
  rw [h.2,hx] at hx'
  injection hx' with hx'
  subst hx'
  cases hb:(z5 s (w - s.n.toNat)).2 with
  |false=>exact ⟨fun e=>absurd e (h1 hb),fun _=>by show -p≤0;grind⟩
  |true=>exact ⟨fun _=>by show 0≤-(-p);grind,fun e=>absurd e (h2 hb)⟩
 ·rw [if_neg h];exact ⟨fun _=>by grind,fun _=>by grind⟩
theorem ar9 {s:f5} {f:Nat→Nat→Rat}:∀n:Nat,(∀ j,j<n→an6 s (f j))→an6 s (fun i=>g8 (fun j=>f j i) n)
 |0,_=>fun i w hw=>⟨fun _=>by simp only [g8,Q4];grind,fun _=>by simp only [g8,Q4];grind⟩
 |n+1,h=>fun i w hw=>by
  have h1:=ar9 n (fun j hj=>h j (by omega)) i w hw
  have h2:=h n (by omega) i w hw
  simp only [g8]
  exact ⟨fun e=>by have:=h1.1 e;have:=h2.1 e;grind,fun e=>by have:=h1.2 e;have:=h2.2 e;grind⟩
def y4 (s:f5) (E:Fd) (i:Nat):Rat:=g8 (fun j=>chg s (E.F j) (-(E.G j)) i) s.n.toNat
def a6I (s:f5) (E:Fd) (r i:Nat):Rat:=chg s (E.O r) 1 i+g8 (fun j=>chg s (E.F j) (E.A r j) i) s.n.toNat
theorem a5b {s:f5} {f:Nat→Nat→Rat} {c:Nat→Rat} {n R:Nat}:g8 (fun i=>g8 (fun j=>f j i) n*c i) R=g8 (fun j=>g8 (fun i=>f j i*c i) R) n:=by
 rw [← at0]
 refine f7 fun i hi=>?_
 rw [f7 (f:=fun j=>f j i*c i) (g:=fun j=>c i*f j i) fun j hj=>by grind,E1];grind
structure aV0 (s:f5) (g:Nat→Rat) (y:Nat→Rat) (v:Rat):Prop where
 sign:an6 s y
 mix:∀l,l<s.n.toNat→C1 s y l≤g l
 val:J4 s y=v
theorem ak7 {s:f5} {g:List (Int × Rat)} (hr:f9 s=true) (hg:e7 (-1) ((s.n.toNat:Nat):Int) g=true) (h:G5 s g=.best):aV0 s (u3 g) (y4 s (k9 s g)) (j3 g (j1 s g)):=by
 obtain ⟨hv,hgj⟩:=a9V h
 have hi:=G8 (s:=s) (g:=g)
 obtain ⟨z,hz⟩:=hi.g
 have hF:∀j,j<s.n.toNat→(k9 s g).F j<s.n.toNat+(d6 s).length:=fun j hj=>hi.p.fb j hj
 refine ⟨ar9 _ fun j hj=>b11 (hF j hj) (by have:=hgj j hj;grind),fun l hl=>?_,?_⟩
 ·have h1:=hz _ _ ((hi.i _ 0).1 (aZ2 (s:=s) (g:=g) 0 (fun j=>if l=j then 1 else 0)))
  rw [f7 (g:=fun j=>(if l=j then (1:Rat) else 0)*-(u3 g j)) fun j hj=>by unfold yv;rw [if_pos hj];grind,a34 hl] at h1
  unfold C1 y4
  rw [a5b (s:=s),f7 (g:=fun j=>(k9 s g).G j*slA s l ((k9 s g).F j)) fun j hj=>by rw [b2L (hF j hj)];grind]
  rw [f7 (g:=fun j=>(k9 s g).G j*(if l=(k9 s g).F j then 1 else 0)+(-1:Rat)*((k9 s g).G j*slA s l ((k9 s g).F j))) fun j hj=>by rw [b4C hl];grind,a0Y,E1] at h1
  have h2:g8 (fun j=>(k9 s g).G j*(if l=(k9 s g).F j then (1:Rat) else 0)) s.n.toNat≤0:=a5C fun j hj=>by
   have:=hgj j hj
   split<;>grind
  grind
 ·have h1:=hz _ _ ((hi.i _ 1).1 (aZ2 (s:=s) (g:=g) 1 (fun _=>0)))
  rw [u6 fun j hj=>by unfold yv;rw [if_pos hj];grind] at h1
  unfold J4 y4
  rw [a5b (s:=s),f7 (g:=fun j=>(k9 s g).G j*slV s ((k9 s g).F j)) fun j hj=>by rw [b1J (hF j hj)];grind]
  rw [f7 (g:=fun j=>(k9 s g).G j*slV s ((k9 s g).F j)) fun j hj=>by rw [aV5]] at h1
  obtain ⟨⟨y,k1,k2,k3,k4⟩,_⟩:=au0 hi.p hz hv hgj
  have k1':=(hi.i y 1).2 k1
  have e:j1 s g=zOf s.n.toNat y:=by unfold j1;rw [k4]
  have h6:g8 (fun j=>-(u3 g j)*y j) s.n.toNat=-(j3 g (zOf s.n.toNat y)):=by
   rw [← a84 hg]
   exact f7 fun j hj=>by rw [aD1 k1' j (by omega)]
  rw [e];rw [h6] at k3
  grind
theorem aa1 {s:f5} {g:List (Int × Rat)} {c y:Nat→Rat} {v:Rat} (h:aV0 s c y v) {z:List Rat} (hz:i7 s z=true):v≤g8 (fun l=>c l*z.getD l 0) s.n.toNat:=by
 obtain ⟨hr,hl,hp,hw⟩:=W9.1 hz
 have hn:=a2v hr
 have h0:∀l,l<s.n.toNat→0≤z.getD l 0:=fun l hl'=>by
  rw [lg3,lg0 (by omega)]
  exact hp _ (List.getElem_mem _)
 have h1:g8 (fun l=>C1 s y l*z.getD l 0) s.n.toNat≤g8 (fun l=>c l*z.getD l 0) s.n.toNat:=by
  have:=a2T (f:=fun l=>(c l - C1 s y l)*z.getD l 0) (n:=s.n.toNat) fun l hl'=>Rat.mul_nonneg (by have:=h.mix l hl';grind) (h0 l hl')
  rw [f7 (g:=fun l=>c l*z.getD l 0+(-1:Rat)*(C1 s y l*z.getD l 0)) fun l hl'=>by grind,a0Y,E1] at this
  grind
 have h2:g8 (fun l=>C1 s y l*z.getD l 0) s.n.toNat=g8 (fun i=>y i*j3 (o7 s i).terms z) s.rows.length:=by
  unfold C1
  rw [a5b (s:=s) (f:=fun i l=>y i*u3 (o7 s i).terms l)]
  refine f7 fun i hi=>?_
  have hx:s.rows[i]? =some (o7 s i):=by unfold o7;rw [lg3,lg0 hi];rfl
  rw [Y4 (a0e hr hx).1 z,←E1]
  exact f7 fun l hl=>by grind
 have h3:0≤g8 (fun i=>y i*(j3 (o7 s i).terms z - (o7 s i).value)) s.rows.length:=a2T fun i hi=>by
  have hx:s.rows[i]? =some (o7 s i):=by unfold o7;rw [lg3,lg0 hi];rfl
  obtain ⟨_,k1,k2⟩:=a0e hr hx
  obtain ⟨s1,s2⟩:=h.sign i _ hx
  obtain ⟨b1,b2⟩:=hw _ (lg2 hx)
  by_cases e0:(o7 s i).kind=0
  ·have:=b1 (by omega)
   exact Rat.mul_nonneg (s1 e0) (by grind)
  ·by_cases e1:(o7 s i).kind=1
   ·have:=b2 e0
    have:=Rat.mul_nonneg (show 0≤-(y i) by have:=s2 e1;grind) (show 0≤-(j3 (o7 s i).terms z - (o7 s i).value) by grind)
    grind
   ·have a1:=b1 e1
    have a2:=b2 e0
    have:j3 (o7 s i).terms z - (o7 s i).value=0:=by grind
    rw [this];grind
 rw [f7 (g:=fun i=>y i*j3 (o7 s i).terms z+(-1:Rat)*(y i*(o7 s i).value)) fun i hi=>by grind,a0Y,E1] at h3
 have h4:=h.val
 unfold J4 at h4
 grind
end
section
open Go.RowKit
def rF (n:Nat) (g:Nat→Rat):List Fr:=(List.range n).map fun j=>fz (g j)
def mF (m n:Nat) (A:Nat→Nat→Rat):List (List Fr):=(List.range m).map fun i=>rF n (A i)
theorem L0 (n:Nat) (g:Nat→Rat):(rF n g).length=n:=by simp [rF]
theorem c8 (m n:Nat) (A:Nat→Nat→Rat):(mF m n A).length=m:=by simp [mF]
theorem E3 {n:Nat} {g:Nat→Rat} {j:Nat} (h:j<n):(rF n g)[j]? =some (fz (g j)):=by simp [rF,h]
theorem N1 {m n:Nat} {A:Nat→Nat→Rat} {i:Nat} (h:i<m):(mF m n A)[i]? =some (rF n (A i)):=by simp [mF,h]
theorem R8 {n:Nat} {g:Nat→Rat} {s:Nat} {v:Rat} (h:s<n):(rF n g).set s (fz v)=rF n (fun j=>if j=s then v else g j):=by
 apply List.ext_getElem?
 intro j
 by_cases hj:j<n
 ·rw [E3 hj,List.getElem?_set,L0]
  by_cases hjm:s=j
  ·subst hjm;simp [h]
  ·rw [if_neg hjm,E3 hj,if_neg (by omega)]
 ·rw [List.getElem?_eq_none (by simp [L0];omega),List.getElem?_eq_none (by simp [L0];omega)]
theorem z7 {n:Nat} {g h:Nat→Rat} (e:∀j,j<n→g j=h j):rF n g=rF n h:=List.map_congr_left fun j hj=>by rw [e j (List.mem_range.1 hj)]
theorem an9 {m n:Nat} {A B:Nat→Nat→Rat} (e:∀i,i<m→∀j,j<n→A i j=B i j):mF m n A=mF m n B:=List.map_congr_left fun i hi=>z7 (e i (List.mem_range.1 hi))
theorem b0m {m n:Nat} {A:Nat→Nat→Rat} {r:Nat} {g:Nat→Rat} (h:r<m):(mF m n A).set r (rF n g)=mF m n (fun i=>if i=r then g else A i):=by
 apply List.ext_getElem?
 intro j
 by_cases hj:j<m
 ·rw [N1 hj,List.getElem?_set,c8]
  by_cases hjm:r=j
  ·subst hjm;simp [h]
  ·rw [if_neg hjm,N1 hj,if_neg (by omega)]
 ·rw [List.getElem?_eq_none (by simp [c8];omega),List.getElem?_eq_none (by simp [c8];omega)]
abbrev flB (l:List Fr):Blk:={ mode:=.live,elem:=83,size:=4,rows:=toC (l.map j7),box:=false }
theorem H5 {row:List Fr} {i n:Nat} {y:Fr} (h:n=i):z9 (flB row) ((toC (row.map j7)).set n (frC y))=flB (row.set i y):=by
 subst h
 unfold z9
 simp [toC,List.map_set,j7]
def N6 (b m n:Nat) (V:Nat→Rat):List (List C):=(List.range m).map fun i=>frC (fz (V i))++[C.own (i+b) 0 n true]
def Z0 (m:Nat) (O:Nat→Nat):List (List T):=(List.range m).map fun i=>[ti (O i)]
def V5 (l:List (Nat × Bool)):List (List T):=l.map fun f=>[ti f.1,tb f.2]
theorem y5 (b m n:Nat) (V:Nat→Rat):(N6 b m n V).length=m:=by simp [N6]
theorem v4 (m:Nat) (O:Nat→Nat):(Z0 m O).length=m:=by simp [Z0]
theorem a1I {b m n:Nat} {V:Nat→Rat} {i:Nat} (h:i<m):(N6 b m n V)[i]? =some (frC (fz (V i))++[C.own (i+b) 0 n true]):=by simp [N6,h]
theorem a5g {m:Nat} {O:Nat→Nat} {i:Nat} (h:i<m):(Z0 m O)[i]? =some [ti (O i)]:=by simp [Z0,h]
theorem aR5 {b m n:Nat} {V:Nat→Rat} {r:Nat} {v:Rat} (h:r<m):(N6 b m n V).set r (frC (fz v)++[C.own (r+b) 0 n true])=N6 b m n (fun i=>if i=r then v else V i):=by
 apply List.ext_getElem?
 intro j
 by_cases hj:j<m
 ·rw [a1I hj,List.getElem?_set,y5]
  by_cases hjm:r=j
  ·subst hjm;simp [h]
  ·rw [if_neg hjm,a1I hj,if_neg (by omega)]
 ·rw [List.getElem?_eq_none (by simp [y5];omega),List.getElem?_eq_none (by simp [y5];omega)]
theorem b0c {m:Nat} {O:Nat→Nat} {r v:Nat} (h:r<m):(Z0 m O).set r [ti v]=Z0 m (fun i=>if i=r then v else O i):=by
 apply List.ext_getElem?
 intro j
 by_cases hj:j<m
 ·rw [a5g hj,List.getElem?_set,v4]
  by_cases hjm:r=j
  ·subst hjm;simp [h]
  ·rw [if_neg hjm,a5g hj,if_neg (by omega)]
 ·rw [List.getElem?_eq_none (by simp [v4];omega),List.getElem?_eq_none (by simp [v4];omega)]
abbrev aE6 (m n k:Nat):Blk:={ mode:=.live,elem:=256,size:=6,rows:=[[C.t (ti n),.own 1 0 m true,.own 2 0 n true,.own 3 0 m true,.own 4 0 n true,.own 5 0 k true]],box:=true }
abbrev Y8 (b m n:Nat) (V:Nat→Rat):Blk:={ mode:=.live,elem:=259,size:=5,rows:=N6 b m n V,box:=false }
abbrev T0 (m:Nat) (O:Nat→Nat):Blk:={ mode:=.live,elem:=3,size:=1,rows:=toC (Z0 m O),box:=false }
abbrev a0s (l:List (Nat × Bool)):Blk:={ mode:=.live,elem:=284,size:=2,rows:=toC (V5 l),box:=false }
abbrev T8 (m n:Nat) (fr:List (Nat × Bool)) (D:Fd):Hp:=
 aE6 m n fr.length::Y8 6 m n D.V::flB (rF n D.G)::T0 m D.O::T0 n D.F::a0s fr::(mF m n D.A).map flB
theorem a1C {m n:Nat} {fr:List (Nat × Bool)} {D:Fd}:(T8 m n fr D).length=m+6:=by simp [c8]
theorem a8C {b m n N:Nat} {V:Nat→Rat} (h:m+b≤N):okB N (Y8 b m n V):=by
 intro r hr c hc
 obtain ⟨i,hi,rfl⟩:=List.mem_map.1 hr
 have:=List.mem_range.1 hi
 simp [frC] at hc
 rcases hc with rfl|rfl|rfl|rfl|rfl<;>first|trivial|(simp only;omega)
theorem aG7 {m n k N:Nat} (h:6≤N):okB N (aE6 m n k):=by
 intro r hr c hc
 simp at hr
 subst hr
 simp at hc
 rcases hc with rfl|rfl|rfl|rfl|rfl|rfl<;>first|trivial|(simp only;omega)
theorem a5D {m n:Nat} {fr:List (Nat × Bool)} {D:Fd}:∀k ∈ T8 m n fr D,okB (m+6) k:=by
 intro k hk
 simp only [List.mem_cons] at hk
 rcases hk with rfl|rfl|rfl|rfl|rfl|rfl|hk
 ·exact aG7 (by omega)
 ·exact a8C (Nat.le_refl _)
 ·exact C9 rfl
 ·exact C9 rfl
 ·exact C9 rfl
 ·exact C9 rfl
 ·obtain ⟨l,_,rfl⟩:=List.mem_map.1 hk
  exact C9 rfl
end
section
open Go.RowKit
theorem aM4 (x:Rat):(fz x).p.sg=0↔x=0:=by
 show x.num.sign=0↔_
 rw [Int.sign_eq_zero_iff_zero,Rat.num_eq_zero]
theorem rl0:rl 0≤1:=by
 have h0:=p8 (x:=0) (by decide) (by decide)
 have h1:=p8 (x:=1) (by decide) (by decide)
 show max (bl 0) (bl 1)≤1
 omega
theorem rl1:rl 1≤1:=by
 have h1:=p8 (x:=1) (by decide) (by decide)
 show max (bl 1) (bl 1)≤1
 omega
theorem b3p (x y:Rat) (hy:y≠0) (lx:rl x≤60000) (ly:rl y≤60000):b9 Tryz.prog 301 [frS (fz x),frS (fz y)] [] (.tup [frS (fz (x / y)),a9 .i64 0]) []:=by
 have r1:=F4 x (by omega)
 have r2:=F4 y (by omega)
 have x1:=B3 x
 have x2:=B9 x
 have y1:=B3 y
 have y2:=B9 y
 have hn:y.num≠0:=fun h=>hy (Rat.num_eq_zero.1 h)
 have hs:y.num.sign≠0:=fun h=>hn (Int.sign_eq_zero_iff_zero.1 h)
 have hsg:=aM4 y
 have l1:=B7 x.num y.den
 have l3:=B7 x.den y.num
 have t1:=a0c x.num y.den (by omega) (by omega)
 have t3:=a0c x.den y.num (by omega) (by omega)
 have n:=ag7 (x.num*y.den) (x.den*y.num) (Int.mul_ne_zero (az3 x) hn) (by omega) (by omega)
 rw [← b1q] at n
 (refine a8 a7 Tryz.func301 rfl (by decide) ?_;(conv=>whnf);repeat (refine zy ?_;conv=>whnf))
 repeat' first|(refine zd ?_ ?_<;>intro h<;>first|exact zc h|(exfalso;omega)|conv=>whnf)|((first|refine zz ?_|refine qp r1 ?_|refine qp r2 ?_|refine qp t1 ?_|refine qp t3 ?_|refine qp n ?_|refine zy ?_);conv=>whnf)
 all_goals first
  |(exfalso;simp_all;done)
  |exact R7 rfl
theorem a4p (x:Rat) (lx:rl x≤60000):b9 Tryz.prog 256 [frS (fz x)] [] (frS (fz (-x))) []:=by
 have r1:=F4 x (by omega)
 have x1:=B3 x
 have x2:=B9 x
 have n:=a5I x.num (by omega)
 have s:=a7Y x.den (by omega)
 have e:fz (-x)=⟨bz (-x.num),bz x.den⟩:=rfl
 rw [e]
 (refine a8 a7 Tryz.func256 rfl (by decide) ?_;(conv=>whnf);repeat (refine zy ?_;conv=>whnf))
 repeat' first|(refine zd ?_ ?_<;>intro h<;>first|exact zc h|(exfalso;omega)|conv=>whnf)|((first|refine zz ?_|refine qp r1 ?_|refine qp n ?_|refine qp s ?_|refine zy ?_);conv=>whnf)
 all_goals first
  |(exfalso;simp_all;done)
  |exact j5 ⟨rfl,rfl,rfl,rfl,trivial⟩
theorem a7D (x:Rat):b9 Tryz.prog 294 [frS (fz x)] [] (e6 (decide (x=0))) []:=by
 have h:=aM4 x
 (refine a8 a7 Tryz.func294 rfl (by decide) ?_;(conv=>whnf);repeat (refine zy ?_;conv=>whnf))
 repeat' first|(refine zd ?_ ?_<;>intro h<;>first|exact zc h|(exfalso;omega)|conv=>whnf)|((first|refine zz ?_|refine zy ?_);conv=>whnf)
 all_goals (refine c6 ?_;simp_all)
theorem aw6 (a b c:Rat) (la:rl a≤60000) (lb:rl b≤30000) (lc:rl c≤30000):b9 Tryz.prog 295 [frS (fz a),frS (fz b),frS (fz c)] [] (frS (fz (a - b*c))) []:=by
 have z1:=a7D b
 have z2:=a7D c
 have m:=ai5 b c (by omega) (by omega)
 have lm:=a1f b c
 have s:=aU2 a (b*c) la (by omega)
 by_cases hb:b=0
 ·have e:a - b*c=a:=by rw [hb];grind
  rw [e]
  (refine a8 a7 Tryz.func295 rfl (by decide) ?_;(conv=>whnf);repeat (refine zy ?_;conv=>whnf))
  repeat' first|(refine zd ?_ ?_<;>intro h<;>first|exact zc h|(exfalso;omega)|conv=>whnf)|((first|refine zz ?_|refine qp z1 ?_|refine qp z2 ?_|refine qp m ?_|refine qp s ?_|refine zy ?_);conv=>whnf)
  all_goals first
   |(exfalso;simp_all;done)
   |exact j5 ⟨rfl,rfl,rfl,rfl,trivial⟩
 ·by_cases hc:c=0
  ·have e:a - b*c=a:=by rw [hc];grind
   rw [e]
   (refine a8 a7 Tryz.func295 rfl (by decide) ?_;(conv=>whnf);repeat (refine zy ?_;conv=>whnf))
   repeat' first|(refine zd ?_ ?_<;>intro h<;>first|exact zc h|(exfalso;omega)|conv=>whnf)|((first|refine zz ?_|refine qp z1 ?_|refine qp z2 ?_|refine qp m ?_|refine qp s ?_|refine zy ?_);conv=>whnf)
   all_goals first
    |(exfalso;simp_all;done)
    |exact j5 ⟨rfl,rfl,rfl,rfl,trivial⟩
  ·(refine a8 a7 Tryz.func295 rfl (by decide) ?_;(conv=>whnf);repeat (refine zy ?_;conv=>whnf))
   repeat' first|(refine zd ?_ ?_<;>intro h<;>first|exact zc h|(exfalso;omega)|conv=>whnf)|((first|refine zz ?_|refine qp z1 ?_|refine qp z2 ?_|refine qp m ?_|refine qp s ?_|refine zy ?_);conv=>whnf)
   all_goals first
    |(exfalso;simp_all;done)
    |exact j5 ⟨rfl,rfl,rfl,rfl,trivial⟩
theorem aD8 (a b:Rat) (hb:b≠0) (la:rl a≤60000) (lb:rl b≤60000):b9 Tryz.prog 293 [frS (fz a),frS (fz b)] [] (frS (fz (a / b))) []:=by
 have d:=b3p a b hb la lb
 (refine a8 a7 Tryz.func293 rfl (by decide) ?_;(conv=>whnf);repeat (refine zy ?_;conv=>whnf))
 repeat' first|(refine zd ?_ ?_<;>intro h<;>first|exact zc h|(exfalso;omega)|conv=>whnf)|((first|refine zz ?_|refine qp d ?_|refine zy ?_);conv=>whnf)
 all_goals exact j5 ⟨rfl,rfl,rfl,rfl,trivial⟩
def tkF (a row:Nat→Rat) (s k:Nat):Nat→Rat:=fun j=>if j<k∧j≠s then a j - a s*row j else a j
def tkA (a row:Nat→Rat) (s:Nat):Nat→Rat:=fun j=>if j=s then 0 - a s*row s else a j - a s*row j
def pZ (k n:Nat):List Fr:=(List.range n).map fun j=>if j<k then fz 0 else C2
theorem a8f (k n:Nat):(pZ k n).length=n:=by simp [pZ]
theorem a62 {k n j:Nat} (h:j<n):(pZ k n)[j]? =some (if j<k then fz 0 else C2):=by simp [pZ,h]
theorem aY7 {k n:Nat} (h:k<n):(pZ k n).set k (fz 0)=pZ (k+1) n:=by
 apply List.ext_getElem?
 intro j
 by_cases hj:j<n
 ·rw [a62 hj,List.getElem?_set,a8f]
  by_cases hjk:k=j
  ·subst hjk;simp [h]
  ·rw [if_neg hjk,a62 hj]
   have:(j<k+1)↔(j<k):=by omega
   simp only [this]
 ·rw [List.getElem?_eq_none (by simp [a8f];omega),List.getElem?_eq_none (by simp [a8f];omega)]
theorem b0Y (n:Nat):pZ n n=rF n (fun _=>0):=List.map_congr_left fun j hj=>by rw [if_pos (List.mem_range.1 hj)]
theorem b1H (n:Nat) (hn:n≤1000):b9 Tryz.prog 254 [a9 .i64 n] [] (.c (.own 0 0 n true)) [flB (rF n fun _=>0)]:=by
 have i0:=E4 0 (by decide) (by decide)
 have hnn:(n:Int).toNat=n:=by omega
 (refine a8 a7 Tryz.func254 rfl (by decide) ?_;(conv=>whnf);repeat (refine zy ?_;conv=>whnf))
 repeat' first|(refine zd ?_ ?_<;>intro h<;>first|exact zc h|(exfalso;omega)|conv=>whnf)|((first|refine zz ?_|refine a3n (by omega) (by omega) (by omega) (by decide) ?_|refine zy ?_);conv=>whnf)
 refine f6 a7 (fun k=>([a9 .i64 n,J,J,S.c (C.own 0 0 n true),J,J,J,J,a9 .i64 n,a9 .i64 k,J,J,J,J,J,J,J,J],[flB (pZ k n)])) n (fun _=>True) [some 0] trivial
  ⟨rfl,rfl,⟨⟨rfl,rfl,rfl,.inr (a53 ?_ ?_)⟩,trivial⟩,⟨j0 rfl,⟨rfl,rfl,by omega,fun h=>h⟩,c9 (by omega),c9 rfl,trivial⟩⟩ ?_
 ·simp [C5,toC,a8f]
 ·intro i x y hx hy
  simp only [C5,List.getElem?_replicate] at hx
  split at hx
  ·rename_i hi
   injection hx with hx
   subst hx
   have hy:(toC ((pZ 0 n).map j7))[i]? =some y:=hy
   rw [toC,List.getElem?_map,List.getElem?_map,a62 (by omega),if_neg (by omega)] at hy
   injection hy with hy
   subst hy
   exact ⟨rfl,rfl,rfl,rfl,trivial⟩
  ·cases hx
 intro k hk _
 by_cases hlt:k<n
 ·obtain ⟨pf,hpf⟩:∃pf,(pZ k n)[k]? =some pf:=⟨_,a62 hlt⟩
  have gp:(pZ k n)[0+(k:Int).toNat]? =some pf:=by rw [Nat.zero_add,show (k:Int).toNat=k by omega];exact hpf
  have eM:0+(k:Int).toNat=k:=by omega
  conv=>whnf
  repeat' first|(refine zd ?_ ?_<;>intro h<;>first|exact zc h|(exfalso;omega)|conv=>whnf)|((first|refine zz ?_|refine qp i0 ?_|refine o6 gp ?_|refine zy ?_);conv=>whnf)
  all_goals first
   |(exfalso;omega)
   |(refine ⟨hlt,trivial,[some 0],rfl,rfl,⟨b8 (rows:=(pZ (k+1) n).map j7) rfl rfl rfl ?_ rfl,trivial⟩,⟨rfl,⟨rfl,rfl,rfl,fun h=>h⟩,rfl,c9 (by omega),trivial⟩⟩
     have e:=H5 (row:=pZ k n) (y:=fz 0) eM
     rw [aY7 hlt] at e
     exact congrArg Blk.rows e)
 ·have hke:k=n:=by omega
  subst hke
  conv=>whnf
  repeat' first|(refine zd ?_ ?_<;>intro h<;>first|exact zc h|(exfalso;omega)|conv=>whnf)|((first|refine zz ?_|refine zy ?_);conv=>whnf)
  all_goals first
   |(exfalso;omega)
   |exact ⟨[some 0],rfl,rfl,⟨b8 (rows:=(rF k fun _=>0).map j7) rfl rfl rfl (by rw [← b0Y]) rfl,trivial⟩,⟨rfl,rfl,rfl,fun h=>h⟩⟩
theorem b0E (a row:Nat→Rat) (s:Nat):tkF a row s 0=a:=by funext j;unfold tkF;rw [if_neg (by omega)]
theorem b4N (a row:Nat→Rat) (s k:Nat):tkF a row s k k=a k:=by unfold tkF;rw [if_neg (by omega)]
theorem b82 (a row:Nat→Rat) (s k:Nat):tkF a row s k s=a s:=by unfold tkF;rw [if_neg (by omega)]
theorem b0r {a row:Nat→Rat} {s k:Nat} (h:k≠s):(fun j=>if j=k then a k - a s*row k else tkF a row s k j)=tkF a row s (k+1):=by
 funext j
 by_cases hj:j=k
 ·subst hj;rw [if_pos rfl];unfold tkF;rw [if_pos ⟨by omega,h⟩]
 ·rw [if_neg hj];unfold tkF
  have:(j<k∧j≠s)↔(j<k+1∧j≠s):=by omega
  simp only [this]
theorem aW6 {a row:Nat→Rat} {s:Nat}:tkF a row s s=tkF a row s (s+1):=by
 funext j;unfold tkF
 have:(j<s∧j≠s)↔(j<s+1∧j≠s):=by omega
 simp only [this]
theorem b1E {a row:Nat→Rat} {s n:Nat}:rF n (fun j=>if j=s then 0 - a s*row s else tkF a row s n j)=rF n (tkA a row s):=z7 fun j hj=>by
 unfold tkA tkF
 by_cases h:j=s
 ·rw [if_pos h,if_pos h]
 ·rw [if_neg h,if_neg h,if_pos ⟨hj,h⟩]
abbrev frX (x:Rat):Blk:={ mode:=.live,elem:=83,size:=4,rows:=[frC (fz x)],box:=true }
theorem b3Y {ρ:List (Option Nat)} {H:Hp} (x:Rat):a3f ρ H (frX x) (frX x):=⟨rfl,rfl,rfl,.inl ⟨rfl,g4 [j7 (fz x)]⟩⟩
theorem b4h (n s:Nat) (a row:Nat→Rat) (hn:n≤1000) (hs:s<n) (ha:∀j,j<n→rl (a j)≤30000) (hr:∀j,j<n→rl (row j)≤30000):
 b9 Tryz.prog 296 [.c (.own 0 0 n true),.c (.own 1 0 n true),a9 .i64 s] [flB (rF n a),flB (rF n row)] (.tup []) [flB (rF n (tkA a row s)),flB (rF n row)]:=by
 have i0:=E4 0 (by decide) (by decide)
 have ls:=ha s hs
 have eS:0+(s:Int).toNat=s:=by omega
 have gs:(rF n a)[0+(s:Int).toNat]? =some (fz (a s)):=by rw [eS,E3 hs]
 (refine a8 a7 Tryz.func296 rfl (by decide) ?_;(conv=>whnf);repeat (refine zy ?_;conv=>whnf))
 repeat' first|(refine zd ?_ ?_<;>intro h<;>first|exact zc h|(exfalso;omega)|conv=>whnf)|((first|refine zz ?_|refine o6 gs ?_|refine zy ?_);conv=>whnf)
 refine f6 a7 (fun k=>([S.c (C.own 0 0 n true),S.c (C.own 1 0 n true),a9 .i64 s,J,J,J,S.c (C.ptr 2 0 0),J,J,J,J,J,J,a9 .i64 n,a9 .i64 k,J,J,J,J,J,J,J,J,J,J,J,J,J,J,J,J,J,J,J,J,J,J,J,J,J,J,J,J,J],[flB (rF n (tkF a row s k)),flB (rF n row),frX (a s)])) n (fun _=>True) [some 0,some 1,some 2] trivial
  ⟨rfl,rfl,⟨b8 (rows:=(rF n a).map j7) rfl rfl rfl rfl (by rw [b0E]),b8 rfl rfl rfl rfl rfl,b3Y _,trivial⟩,⟨⟨rfl,rfl,rfl,fun h=>h⟩,⟨rfl,rfl,rfl,fun h=>h⟩,rfl,⟨rfl,rfl,rfl⟩,c9 rfl,c9 rfl,trivial⟩⟩ ?_
 intro k hk _
 by_cases hlt:k<n
 ·have eM:0+(k:Int).toNat=k:=by omega
  have lk:=ha k hlt
  have lr:=hr k hlt
  have g1:(rF n (tkF a row s k))[0+(k:Int).toNat]? =some (fz (a k)):=by rw [eM,E3 hlt,b4N]
  have g2:(rF n row)[0+(k:Int).toNat]? =some (fz (row k)):=by rw [eM,E3 hlt]
  have le:=aw6 (a k) (a s) (row k) (by omega) (by omega) (by omega)
  by_cases hks:k=s
  ·subst hks
   conv=>whnf
   repeat' first|(refine zd ?_ ?_<;>intro h<;>first|exact zc h|(exfalso;omega)|conv=>whnf)|((first|refine zz ?_|refine qp le ?_|refine o6 g1 ?_|refine o6 g2 ?_|refine zy ?_);conv=>whnf)
   all_goals first
    |(exfalso;omega)
    |exact ⟨hlt,trivial,[some 0,some 1,some 2],rfl,rfl,⟨b8 (rows:=(rF n (tkF a row k k)).map j7) rfl rfl rfl rfl (by rw [aW6]),b8 rfl rfl rfl rfl rfl,b3Y _,trivial⟩,⟨⟨rfl,rfl,rfl,fun h=>h⟩,⟨rfl,rfl,rfl,fun h=>h⟩,rfl,⟨rfl,rfl,rfl⟩,c9 rfl,c9 rfl,trivial⟩⟩
  ·conv=>whnf
   repeat' first|(refine zd ?_ ?_<;>intro h<;>first|exact zc h|(exfalso;omega)|conv=>whnf)|((first|refine zz ?_|refine qp le ?_|refine o6 g1 ?_|refine o6 g2 ?_|refine zy ?_);conv=>whnf)
   all_goals first
    |(exfalso;omega)
    |(refine ⟨hlt,trivial,[some 0,some 1,some 2],rfl,rfl,⟨b8 (rows:=(rF n (tkF a row s (k+1))).map j7) rfl rfl rfl ?_ rfl,b8 rfl rfl rfl rfl rfl,b3Y _,trivial⟩,⟨⟨rfl,rfl,rfl,fun h=>h⟩,⟨rfl,rfl,rfl,fun h=>h⟩,rfl,⟨rfl,rfl,rfl⟩,c9 rfl,c9 rfl,trivial⟩⟩
      have e:=H5 (row:=rF n (tkF a row s k)) (y:=fz (a k - a s*row k)) eM
      rw [R8 hlt,b0r hks] at e
      exact congrArg Blk.rows e)
 ·have hke:k=n:=by omega
  subst hke
  have g2:(rF k row)[0+(s:Int).toNat]? =some (fz (row s)):=by rw [eS,E3 hs]
  have lr:=hr s hs
  have le:=aw6 0 (a s) (row s) (by have:=rl0;omega) (by omega) (by omega)
  have le:b9 Tryz.prog 295 [frS (fz ((0:Int):Rat)),frS (fz (a s)),frS (fz (row s))] [] (frS (fz (0 - a s*row s))) []:=le
  conv=>whnf
  have g1:(rF k (tkF a row s k))[0+(s:Int).toNat]? =some (fz (a s)):=by rw [eS,E3 hs,b82]
  repeat' first|(refine zd ?_ ?_<;>intro h<;>first|exact zc h|(exfalso;omega)|conv=>whnf)|((first|refine zz ?_|refine qp i0 ?_|refine qp le ?_|refine o6 g2 ?_|refine o6 g1 ?_|refine zy ?_);conv=>whnf)
  all_goals first
   |(exfalso;omega)
   |(refine ⟨[some 0,some 1],rfl,rfl,⟨b8 (rows:=(rF k (tkA a row s)).map j7) rfl rfl rfl ?_ rfl,b8 rfl rfl rfl rfl rfl,trivial⟩,trivial⟩
     have e:=H5 (row:=rF k (tkF a row s k)) (y:=fz (0 - a s*row s)) eS
     rw [R8 hs,b1E] at e
     exact congrArg Blk.rows e)
end
section
open Go.RowKit
def leI:Option Nat→Int
 |none=>-1
 |some a=>a
theorem a3G (f:Nat→Nat) (p:Nat→Bool) (k:Nat):P7 f p (k+1)=match P7 f p k with
 |none=>if p k then some k else none
 |some a=>if p k && decide (f k<f a) then some k else some a:=rfl
theorem B4 {m:Nat} {f:Nat→Nat} {n:Int} {i:Nat} {K:List T→Prop} (e:n=i) (h:i<m) (k:K [ti (f i)]):∃row,0≤n∧(Z0 m f)[n.toNat]? =some row∧K row:=by
 subst e;exact ⟨_,by omega,by rw [show (i:Int).toNat=i by omega,a5g h],k⟩
abbrev a4t (m:Nat) (f:Nat→Nat):S:=.c (.t (.sl 1 .any (Z0 m f)))
set_option maxHeartbeats 1000000 in
theorem a3M (m:Nat) (hm:m≤100000) (f:Nat→Nat) (p:Nat→Bool) (g:FuncId) (caps:List T) (hg:∀i:Nat,i<m→b9 Tryz.prog g (a9 .i64 i::caps.map fun x=>.c (.t x)) [] (e6 (p i)) []):
 b9 Tryz.prog 257 [a4t m f,.c (.t (.fn (.func g) caps))] [] (a9 .i64 (leI (P7 f p m))) []:=by
 have m1:(Z0 m f).length=m:=v4 m f
 (refine a8 a7 Tryz.func257 rfl (by decide) ?_;(conv=>whnf);repeat (refine zy ?_;conv=>whnf))
 repeat' first|(refine zd ?_ ?_<;>intro h<;>first|exact zc h|(exfalso;omega)|conv=>whnf)|((first|refine zz ?_|refine zy ?_);conv=>whnf)
 refine f6 a7 (fun k=>([a4t m f,S.c (C.t (T.fn (.func g) caps)),J,J,J,a9 .i64 (leI (P7 f p k)),J,J,a4t m f,a9 .i64 m,a9 .i64 k,J,J,J,J,J,J,J,J,J,J,J,J,J,J,J,J,J,J,J,J,J,J],[])) m (fun _=>True) [] trivial
  ⟨rfl,rfl,trivial,⟨j0 rfl,j0 rfl,c9 rfl,j0 rfl,c9 (by omega),c9 rfl,trivial⟩⟩ ?_
 intro k hk _
 by_cases hlt:k<m
 ·have hgr:=hg k hlt
  have ha:(a9 .i64 (k:Int)::caps.map fun x=>S.c (C.t x)).all S.isT=true:=by simp [S.isT,C.isT,a9]
  cases hp:p k with
  |false=>
   rw [hp] at hgr
   have e1:leI (P7 f p k)=leI (P7 f p (k+1)):=by
    rw [a3G,hp];cases P7 f p k<;>rfl
   conv=>whnf
   repeat' first|(refine zd ?_ ?_<;>intro h<;>first|exact zc h|(exfalso;omega)|conv=>whnf)|((first|refine zz ?_|refine .inl ⟨_,_,F8 hgr ha rfl,?_⟩|refine B4 rfl hlt ?_|refine zy ?_);conv=>whnf)
   all_goals first
    |(exfalso;omega)
    |exact ⟨hlt,trivial,[],rfl,rfl,trivial,⟨rfl,rfl,c9 e1,rfl,rfl,c9 rfl,trivial⟩⟩
  |true=>
   rw [hp] at hgr
   cases hl:P7 f p k with
   |none=>
    have hle:leI none=-1:=rfl
    have e1:(k:Int)=leI (P7 f p (k+1)):=by rw [a3G,hl,hp];rfl
    conv=>whnf
    repeat' first|(refine zd ?_ ?_<;>intro h<;>first|exact zc h|(exfalso;omega)|conv=>whnf)|((first|refine zz ?_|refine .inl ⟨_,_,F8 hgr ha rfl,?_⟩|refine B4 rfl hlt ?_|refine zy ?_);conv=>whnf)
    all_goals first
     |(exfalso;omega)
     |exact ⟨hlt,trivial,[],rfl,rfl,trivial,⟨rfl,rfl,c9 e1,rfl,rfl,c9 rfl,trivial⟩⟩
   |some b=>
    have hb:=(D5 hl).1
    have hle:leI (some b)=b:=rfl
    by_cases hc:f k<f b
    ·have e1:(k:Int)=leI (P7 f p (k+1)):=by rw [a3G,hl,hp];simp [hc,leI]
     conv=>whnf
     repeat' first|(refine zd ?_ ?_<;>intro h<;>first|exact zc h|(exfalso;omega)|conv=>whnf)|((first|refine zz ?_|refine .inl ⟨_,_,F8 hgr ha rfl,?_⟩|refine B4 rfl hlt ?_|refine B4 (i:=b) hle (by omega) ?_|refine zy ?_);conv=>whnf)
     all_goals first
      |(exfalso;omega)
      |exact ⟨hlt,trivial,[],rfl,rfl,trivial,⟨rfl,rfl,c9 e1,rfl,rfl,c9 rfl,trivial⟩⟩
    ·have e1:leI (some b)=leI (P7 f p (k+1)):=by rw [a3G,hl,hp];simp [hc,leI]
     conv=>whnf
     repeat' first|(refine zd ?_ ?_<;>intro h<;>first|exact zc h|(exfalso;omega)|conv=>whnf)|((first|refine zz ?_|refine .inl ⟨_,_,F8 hgr ha rfl,?_⟩|refine B4 rfl hlt ?_|refine B4 (i:=b) hle (by omega) ?_|refine zy ?_);conv=>whnf)
     all_goals first
      |(exfalso;omega)
      |exact ⟨hlt,trivial,[],rfl,rfl,trivial,⟨rfl,rfl,c9 e1,rfl,rfl,c9 rfl,trivial⟩⟩
 ·have hke:k=m:=by omega
  subst hke
  conv=>whnf
  repeat' first|(refine zd ?_ ?_<;>intro h<;>first|exact zc h|(exfalso;omega)|conv=>whnf)|((first|refine zz ?_|refine zy ?_);conv=>whnf)
  all_goals first
   |(exfalso;omega)
   |exact j8 rfl
def a6G (m n:Nat) (D:Fd):List (List T):=(List.range m).map fun i=>j7 (fz (D.V i))++[T.sl 4 .any ((rF n (D.A i)).map j7)]
def b1u (m n:Nat) (fr:List (Nat × Bool)) (D:Fd):List T:=[ti n,.sl 5 .any (a6G m n D),.sl 4 .any ((rF n D.G).map j7),.sl 1 .any (Z0 m D.O),.sl 1 .any (Z0 n D.F),.sl 2 .any (V5 fr)]
theorem a5Y {m n:Nat} {D:Fd} {i:Nat} (h:i<m):(a6G m n D)[i]? =some (j7 (fz (D.V i))++[T.sl 4 .any ((rF n (D.A i)).map j7)]):=by simp [a6G,h]
theorem a3t (m n:Nat) (D:Fd):(a6G m n D).length=m:=by simp [a6G]
theorem Y6 {m n:Nat} {D:Fd} {x:Int} {i:Nat} {K:List T→Prop} (e:x=i) (h:i<m) (k:K (j7 (fz (D.V i))++[T.sl 4 .any ((rF n (D.A i)).map j7)])):∃row,0≤x∧(a6G m n D)[x.toNat]? =some row∧K row:=by
 subst e;exact ⟨_,by omega,by rw [show (i:Int).toNat=i by omega,a5Y h],k⟩
theorem a1U {n:Nat} {g:Nat→Rat} {x:Int} {j:Nat} {K:List T→Prop} (e:x=j) (h:j<n) (k:K (j7 (fz (g j)))):∃row,0≤x∧((rF n g).map j7)[x.toNat]? =some row∧K row:=by
 subst e;exact ⟨_,by omega,by rw [show (j:Int).toNat=j by omega,List.getElem?_map,E3 h];rfl,k⟩
theorem b10 (x:Rat):(fz x).p.sg<0↔x<0:=by
 show x.num.sign<0↔_
 rw [a4Q];unfold sgR;split<;>(try split)<;>simp_all
theorem b0q (x:Rat):(fz x).p.sg > 0↔0<x:=by
 show x.num.sign > 0↔_
 rw [a4Q];unfold sgR
 split
 ·constructor
  ·intro h;omega
  ·intro h;grind
 ·split<;>simp_all
abbrev a4B (m n:Nat) (fr:List (Nat × Bool)) (D:Fd):T:=.ptr [.ptr (b1u m n fr D)]
theorem aQ4 (m n:Nat) (fr:List (Nat × Bool)) (D:Fd) (i:Nat) (hi:i<m):
 b9 Tryz.prog 258 (a9 .i64 i::[a4B m n fr D].map fun x=>.c (.t x)) [] (e6 (decide (D.V i<0))) []:=by
 have h:=b10 (D.V i)
 (refine a8 a7 Tryz.func258 rfl (by decide) ?_;(conv=>whnf);repeat (refine zy ?_;conv=>whnf))
 repeat' first|(refine zd ?_ ?_<;>intro h<;>first|exact zc h|(exfalso;omega)|conv=>whnf)|((first|refine zz ?_|refine Y6 rfl hi ?_|refine zy ?_);conv=>whnf)
 all_goals (refine c6 ?_;simp_all)
theorem aQ6 (m n:Nat) (fr:List (Nat × Bool)) (D:Fd) (j:Nat) (hj:j<n):
 b9 Tryz.prog 259 (a9 .i64 j::[a4B m n fr D].map fun x=>.c (.t x)) [] (e6 (decide (0<D.G j))) []:=by
 have h:=b0q (D.G j)
 (refine a8 a7 Tryz.func259 rfl (by decide) ?_;(conv=>whnf);repeat (refine zy ?_;conv=>whnf))
 repeat' first|(refine zd ?_ ?_<;>intro h<;>first|exact zc h|(exfalso;omega)|conv=>whnf)|((first|refine zz ?_|refine a1U rfl hj ?_|refine zy ?_);conv=>whnf)
 all_goals (refine c6 ?_;simp_all)
theorem a9R (m n:Nat) (fr:List (Nat × Bool)) (D:Fd) (r j:Nat) (hr:r<m) (hj:j<n):
 b9 Tryz.prog 260 (a9 .i64 j::[a4B m n fr D,T.ptr [ti r]].map fun x=>.c (.t x)) [] (e6 (decide (D.A r j<0))) []:=by
 have h:=b10 (D.A r j)
 (refine a8 a7 Tryz.func260 rfl (by decide) ?_;(conv=>whnf);repeat (refine zy ?_;conv=>whnf))
 repeat' first|(refine zd ?_ ?_<;>intro h<;>first|exact zc h|(exfalso;omega)|conv=>whnf)|((first|refine zz ?_|refine Y6 rfl hr ?_|refine a1U rfl hj ?_|refine zy ?_);conv=>whnf)
 all_goals (refine c6 ?_;simp_all)
theorem a9w (m n:Nat) (fr:List (Nat × Bool)) (D:Fd) (i s:Nat) (hi:i<m) (hs:s<n):
 b9 Tryz.prog 261 (a9 .i64 i::[a4B m n fr D,T.ptr [ti s]].map fun x=>.c (.t x)) [] (e6 (decide (0<D.A i s))) []:=by
 have h:=b0q (D.A i s)
 (refine a8 a7 Tryz.func261 rfl (by decide) ?_;(conv=>whnf);repeat (refine zy ?_;conv=>whnf))
 repeat' first|(refine zd ?_ ?_<;>intro h<;>first|exact zc h|(exfalso;omega)|conv=>whnf)|((first|refine zz ?_|refine Y6 rfl hi ?_|refine a1U rfl hs ?_|refine zy ?_);conv=>whnf)
 all_goals (refine c6 ?_;simp_all)
end
section
open Go.RowKit
theorem aE9 {H:Hp} {ia ir n s:Nat} {a row:Nat→Rat} (hne:ia≠ir) (ga:H[ia]? =some (flB (rF n a))) (gr:H[ir]? =some (flB (rF n row))) (hn:n≤1000) (hs:s<n) (ha:∀j,j<n→rl (a j)≤30000) (hr:∀j,j<n→rl (row j)≤30000):
 b9 Tryz.prog 296 [.c (.own ia 0 n true),.c (.own ir 0 n true),a9 .i64 s] H (.tup []) (H.set ia (flB (rF n (tkA a row s)))):=by
 have la:ia<H.length:=(lg1 ga).1
 refine N9 [ia,ir] (b4h n s a row hn hs ha hr) rfl rfl rfl (by simp;exact hne) ?_ ?_ (by simp) rfl rfl (by simp) ?_ ?_
 ·intro i k hk
  match i,hk with
  |0,hk=>injection hk with hk;subst hk;exact ⟨rfl,rfl,a27 _,_,ga,C0 rfl⟩
  |1,hk=>injection hk with hk;subst hk;exact ⟨rfl,rfl,a27 _,_,gr,C0 rfl⟩
 ·intro k hk
  simp at hk
  rcases hk with rfl|rfl<;>(intro h;cases h)
 ·intro i k hk
  match i,hk with
  |0,hk=>
   injection hk with hk;subst hk
   refine ⟨_,?_,C0 rfl⟩
   show (H.set ia _)[ia]? =_
   rw [List.getElem?_set,if_pos rfl,if_pos la]
  |1,hk=>
   injection hk with hk;subst hk
   refine ⟨_,?_,C0 rfl⟩
   show (H.set ia _)[ir]? =_
   rw [List.getElem?_set,if_neg hne];exact gr
 ·intro j hj hjn
  simp at hjn
  rw [List.getElem?_set,if_neg (fun h=>hjn.1 h.symm)]
theorem a1a {b m n i r:Nat} {V:Nat→Rat} {K:List C→Prop} (e:i=r) (h:r<m) (k:K (frC (fz (V r))++[C.own (r+b) 0 n true])):∃row,(N6 b m n V)[i]? =some row∧K row:=by
 subst e;exact ⟨_,a1I h,k⟩
theorem aI8 {rows:List (List C)} {i:Nat} {x:List C} {K:List C→Prop} (h:i<rows.length) (k:K x):∃row,(rows.set i x)[i]? =some row∧K row:=⟨x,List.getElem?_set_self h,k⟩
theorem b1g {rows:List (List C)} {i j:Nat} {x:List C} {K:List C→Prop} (h:i≠j) (k:∃row,rows[j]? =some row∧K row):∃row,(rows.set i x)[j]? =some row∧K row:=by
 rw [List.getElem?_set_ne h];exact k
def a2W (a:Nat→Rat) (p:Rat) (s k:Nat):Nat→Rat:=fun j=>if j<k∧j≠s then a j / p else a j
def A1 (D:Fd) (r s k:Nat):Nat→Nat→Rat:=fun i=>if i=r then a2W (D.A r) (D.A r s) s k else D.A i
theorem b8g {D:Fd} {r s k:Nat}:A1 D r s k r k=D.A r k:=by unfold A1 a2W;rw [if_pos rfl,if_neg (by omega)]
theorem b9C {D:Fd} {r s k:Nat}:A1 D r s k r s=D.A r s:=by unfold A1 a2W;rw [if_pos rfl,if_neg (by omega)]
theorem b2d {D:Fd} {r s k:Nat} (h:k≠s):(fun i=>if i=r then (fun j=>if j=k then D.A r k / D.A r s else A1 D r s k r j) else A1 D r s k i)=A1 D r s (k+1):=by
 funext i j
 by_cases hi:i=r
 ·subst hi
  simp only [if_true]
  unfold A1 a2W
  simp only [if_true]
  by_cases hj:j=k
  ·subst hj;rw [if_pos rfl,if_pos ⟨by omega,h⟩]
  ·rw [if_neg hj]
   have:(j<k∧j≠s)↔(j<k+1∧j≠s):=by omega
   simp only [this]
 ·rw [if_neg hi];unfold A1;rw [if_neg hi,if_neg hi]
theorem b1Q {D:Fd} {r s:Nat}:A1 D r s s=A1 D r s (s+1):=by
 funext i j;unfold A1 a2W
 have:(j<s∧j≠s)↔(j<s+1∧j≠s):=by omega
 split
 ·simp only [this]
 ·rfl
theorem b2D {D:Fd} {r s k:Nat} (h:D.A r k=0):A1 D r s k=A1 D r s (k+1):=by
 funext i j;unfold A1 a2W
 split
 ·show (if j<k∧j≠s then D.A r j / D.A r s else D.A r j)=if j<k+1∧j≠s then D.A r j / D.A r s else D.A r j
  by_cases hj:j=k
  ·subst hj
   rw [if_neg (show ¬(j<j∧j≠s) by omega)]
   split
   ·rw [h];grind
   ·rfl
  ·have:(j<k∧j≠s)↔(j<k+1∧j≠s):=by omega
   simp only [this]
 ·rfl
theorem aG3 {m n r:Nat} {A B:Nat→Nat→Rat} {g:Nat→Rat} (h:r<m) (e:(fun i=>if i=r then g else A i)=B):(mF m n A).set r (rF n g)=mF m n B:=by rw [b0m h,e]
def V1 (D:Fd) (r s:Nat):Nat→Rat:=fun i=>if i=r then D.V r / D.A r s else D.V i
def V2 (D:Fd) (r s k:Nat):Nat→Rat:=fun i=>if i=r then D.V r / D.A r s else if i<k then D.V i - D.A i s*(D.V r / D.A r s) else D.V i
def A2 (D:Fd) (r s k:Nat):Nat→Nat→Rat:=fun i=>if i=r then D.pRow r s else if i<k then tkA (D.A i) (D.pRow r s) s else D.A i
theorem ar6 {a row:Nat→Rat} {s:Nat} (h:a s=0):tkA a row s=a:=by
 funext j;unfold tkA
 by_cases hj:j=s
 ·rw [if_pos hj,hj,h];grind
 ·rw [if_neg hj,h];grind
theorem Z6 {m i r:Nat} {f:Nat→Nat} {K:List C→Prop} (e:i=r) (h:r<m) (k:K [C.t (ti (f r))]):∃row,(toC (Z0 m f))[i]? =some row∧K row:=by
 subst e;exact ⟨_,by simp [toC,a5g h],k⟩
theorem H4 {α β:Type} {f:β→α} {M:List β} {T:List α} {i:Nat} {x:β} (h:M[i]? =some x):(M.map f++T)[i]? =some (f x):=by
 rw [List.getElem?_append_left (by simpa using (lg1 h).1),List.getElem?_map,h];rfl
theorem b03 {α β:Type} {f:β→α} {M:List β} {T:List α} {i:Nat} {x:β} (h:i<M.length):(M.map f++T).set i (f x)=(M.set i x).map f++T:=by
 rw [List.set_append_left _ _ (by simpa using h),←List.map_set]
theorem b2G {m n:Nat} {D:Fd} {r s:Nat} (hr:r<m) (hs:s<n):(mF m n (A1 D r s n)).set r ((rF n (A1 D r s n r)).set s (fz (((1:Int):Rat) / D.A r s)))=mF m n (A2 D r s 0):=by
 rw [R8 hs,b0m hr]
 refine an9 fun i hi j hj=>?_
 unfold A2
 by_cases hir:i=r
 ·rw [if_pos hir,if_pos hir]
  unfold Fd.pRow A1 a2W
  rw [if_pos rfl]
  by_cases hjs:j=s
  ·rw [if_pos hjs,if_pos hjs];rfl
  ·rw [if_neg hjs,if_neg hjs,if_pos ⟨hj,hjs⟩]
 ·rw [if_neg hir,if_neg hir,if_neg (by omega)];unfold A1;rw [if_neg hir]
theorem b2r {D:Fd} {r s:Nat}:V2 D r s 0=V1 D r s:=by
 funext i;unfold V2 V1;split
 ·rfl
 ·rw [if_neg (by omega)]
theorem b7j {D:Fd} {r s k:Nat}:V2 D r s k r=D.V r / D.A r s:=by unfold V2;rw [if_pos rfl]
theorem aT1 {D:Fd} {r s k:Nat} (h:k≠r):V2 D r s k k=D.V k:=by unfold V2;rw [if_neg h,if_neg (by omega)]
theorem b8Q {D:Fd} {r s k:Nat}:A2 D r s k r=D.pRow r s:=by unfold A2;rw [if_pos rfl]
theorem b3d {D:Fd} {r s k:Nat} (h:k≠r):A2 D r s k k=D.A k:=by unfold A2;rw [if_neg h,if_neg (by omega)]
theorem aK2 {D:Fd} {r s k:Nat} (h:k≠r):(fun i=>if i=k then D.V k - D.A k s*(D.V r / D.A r s) else V2 D r s k i)=V2 D r s (k+1):=by
 funext i
 by_cases hi:i=k
 ·subst hi;rw [if_pos rfl];unfold V2;rw [if_neg h,if_pos (by omega)]
 ·rw [if_neg hi];unfold V2
  have:(i<k)↔(i<k+1):=by omega
  simp only [this]
theorem aH1 {D:Fd} {r s k:Nat} (h:k≠r):(fun i=>if i=k then tkA (D.A k) (D.pRow r s) s else A2 D r s k i)=A2 D r s (k+1):=by
 funext i
 by_cases hi:i=k
 ·subst hi;rw [if_pos rfl];unfold A2;rw [if_neg h,if_pos (by omega)]
 ·rw [if_neg hi];unfold A2
  have:(i<k)↔(i<k+1):=by omega
  simp only [this]
theorem b2F {D:Fd} {r s:Nat}:V2 D r s r=V2 D r s (r+1):=by
 funext i;unfold V2
 by_cases h:i=r
 ·rw [if_pos h,if_pos h]
 ·have:(i<r)↔(i<r+1):=by omega
  simp only [this]
theorem b2b {D:Fd} {r s:Nat}:A2 D r s r=A2 D r s (r+1):=by
 funext i;unfold A2
 by_cases h:i=r
 ·rw [if_pos h,if_pos h]
 ·have:(i<r)↔(i<r+1):=by omega
  simp only [this]
theorem b1O {D:Fd} {r s k:Nat} (h:k≠r) (hz:D.A k s=0):V2 D r s k=V2 D r s (k+1):=by
 rw [← aK2 h,hz];funext i
 by_cases hi:i=k
 ·subst hi;rw [if_pos rfl,aT1 h];grind
 ·rw [if_neg hi]
theorem b21 {D:Fd} {r s k:Nat} (h:k≠r) (hz:D.A k s=0):A2 D r s k=A2 D r s (k+1):=by
 rw [← aH1 h,ar6 hz];funext i
 by_cases hi:i=k
 ·subst hi;rw [if_pos rfl,b3d h]
 ·rw [if_neg hi]
theorem b4s {D:Fd} {r s m i:Nat} (h:i<m):V2 D r s m i=(D.exch r s).V i:=by
 unfold V2 Fd.exch;simp only
 split
 ·rfl
 ·first|rfl|rw [if_pos h]
theorem b4x {D:Fd} {r s m i j:Nat} (h:i<m):A2 D r s m i j=(D.exch r s).A i j:=by
 unfold A2 Fd.exch;simp only
 split
 ·rfl
 ·first|rfl|(rw [if_pos h];rfl)
abbrev G4 (m n:Nat) (fr:List (Nat × Bool)) (V:Nat→Rat) (G:Nat→Rat) (O F:Nat→Nat) (A:Nat→Nat→Rat) (T:Hp):Hp:=
 aE6 m n fr.length::Y8 6 m n V::flB (rF n G)::T0 m O::T0 n F::a0s fr::((mF m n A).map flB++T)
structure BdD (m n B:Nat) (D:Fd):Prop where
 v:∀i,i<m→rl (D.V i)≤B
 a:∀i,i<m→∀j,j<n→rl (D.A i j)≤B
 g:∀j,j<n→rl (D.G j)≤B
theorem ay4 {b m n r i:Nat} {V:Nat→Rat} {x:List C} {v:Rat} (e:i=r) (h:r<m) (hx:x=frC (fz v)++[C.own (r+b) 0 n true]):(N6 b m n V).set i x=N6 b m n (fun i=>if i=r then v else V i):=by
 subst e hx;exact aR5 h
theorem am3 {m n:Nat} {fr:List (Nat × Bool)} {V G:Nat→Rat} {O F:Nat→Nat} {A:Nat→Nat→Rat} {T T':Hp}:G4 m n fr V G O F A (T++T')=G4 m n fr V G O F A T++T':=by
 show aE6 m n fr.length::Y8 6 m n V::flB (rF n G)::T0 m O::T0 n F::a0s fr::((mF m n A).map flB++(T++T'))=aE6 m n fr.length::Y8 6 m n V::flB (rF n G)::T0 m O::T0 n F::a0s fr::(((mF m n A).map flB++T)++T')
 rw [List.append_assoc]
theorem a5t {m n:Nat} {fr:List (Nat × Bool)} {V G:Nat→Rat} {O F:Nat→Nat} {A:Nat→Nat→Rat} {T:Hp}:(G4 m n fr V G O F A T).length=m+6+T.length:=by simp [c8];omega
theorem aE8 {m n N:Nat} {fr:List (Nat × Bool)} {V G:Nat→Rat} {O F:Nat→Nat} {A:Nat→Nat→Rat} {T:Hp} (h:m+6≤N) (hT:∀k ∈ T,okB N k):∀k ∈ G4 m n fr V G O F A T,okB N k:=by
 intro k hk
 simp only [List.mem_cons,List.mem_append] at hk
 rcases hk with rfl|rfl|rfl|rfl|rfl|rfl|hk|hk
 ·exact aG7 (by omega)
 ·exact a8C h
 ·exact C9 rfl
 ·exact C9 rfl
 ·exact C9 rfl
 ·exact C9 rfl
 ·obtain ⟨l,_,rfl⟩:=List.mem_map.1 hk
  exact C9 rfl
 ·exact hT k hk
theorem Q2 {n0 N m n:Nat} {fr:List (Nat × Bool)} {V G:Nat→Rat} {O F:Nat→Nat} {A:Nat→Nat→Rat} {T T' H:Hp} {env env':Env} (hH:H=G4 m n fr V G O F A (T++T')) (hN:m+6+T.length=N) (h0:n0≤N) (hT:∀k ∈ T,okB N k)
 (hE:Z2 (idR N) H env env'):Ent n0 (idR N) env H env' (G4 m n fr V G O F A T):=by
 refine a6i (by rw [a5t];exact hN) h0 (aE8 (by omega) hT) (fun i hi=>?_) hE
 rw [hH,am3,List.getElem?_append_left (by rw [a5t];omega)]
theorem a7R {n0 N m n:Nat} {fr:List (Nat × Bool)} {V G:Nat→Rat} {O F:Nat→Nat} {A:Nat→Nat→Rat} {T H:Hp} {r s:S} (hH:H=G4 m n fr V G O F A T) (hN:m+6=N) (h0:n0≤N) (hE:a6Z (idR N) H r s):
 Fin n0 r H s (G4 m n fr V G O F A []):=by
 refine ab9 (by rw [a5t];exact hN) h0 (aE8 (by omega) (by simp)) (fun i hi=>?_) hE
 have e:G4 m n fr V G O F A T=G4 m n fr V G O F A []++T:=am3 (T:=[]) (T':=T)
 rw [hH,e,List.getElem?_append_left (by rw [a5t];simp;omega)]
theorem Z8 {b0 b1 b2 b3 b4 b5 c0 c1 c2 c3 c4 c5:Blk} {L L':Hp} (h0:b0=c0) (h1:b1=c1) (h2:b2=c2) (h3:b3=c3) (h4:b4=c4) (h5:b5=c5) (h6:L=L'):b0::b1::b2::b3::b4::b5::L=c0::c1::c2::c3::c4::c5::L':=by
 subst h0 h1 h2 h3 h4 h5 h6;rfl
theorem a9B {b m n r i:Nat} {V V':Nat→Rat} {x:List C} {v:Rat} (e:i=r) (h:r<m) (hx:x=frC (fz v)++[C.own (r+b) 0 n true]) (hV:(fun i=>if i=r then v else V i)=V'):z9 (Y8 b m n V) ((Y8 b m n V).rows.set i x)=Y8 b m n V':=by
 have:=ay4 (V:=V) e h hx
 subst hV
 unfold z9
 simp only [this]
theorem a56 {m r i v:Nat} {O:Nat→Nat} (e:i=r) (h:r<m):z9 (T0 m O) ((T0 m O).rows.set i [C.t (ti v)])=T0 m (fun i=>if i=r then v else O i):=by
 subst e
 have:(toC (Z0 m O)).set i [C.t (ti v)]=toC (Z0 m (fun j=>if j=i then v else O j)):=by
  rw [← b0c h];simp [toC,List.map_set]
 unfold z9
 simp only [this]
theorem ad3 {N:Nat} {x:Rat}:okB N (frX x):=C9 (rows:=[j7 (fz x)]) rfl
set_option maxHeartbeats 4000000 in
theorem az2 (m n:Nat) (fr:List (Nat × Bool)) (D:Fd) (r s:Nat) (hm:m≤100000) (hn:n≤1000) (hr:r<m) (hs:s<n) (hp:D.A r s≠0) (hB:BdD m n 30000 D) (hB':BdD m n 30000 (D.exch r s)):
 b9 Tryz.prog 262 [.c (.ptr 0 0 0),a9 .i64 r,a9 .i64 s] (T8 m n fr D) (.tup []) (T8 m n fr (D.exch r s)):=by
 have eR:0+(r:Int).toNat=r:=by omega
 have eS:0+(s:Int).toNat=s:=by omega
 have gA:(mF m n D.A)[r]? =some (rF n (D.A r)):=N1 hr
 have gs:(rF n (D.A r))[0+(s:Int).toNat]? =some (fz (D.A r s)):=by rw [eS,E3 hs]
 have bp:=hB.a r hr s hs
 have ov:=aD8 (D.V r) (D.A r s) hp (by have:=hB.v r hr;omega) (by omega)
 (refine a8 a7 Tryz.func262 rfl (by decide) ?_;(conv=>whnf);repeat (refine zy ?_;conv=>whnf))
 repeat' first|(refine zd ?_ ?_<;>intro h<;>first|exact zc h|(exfalso;omega)|conv=>whnf)|((first|refine zz ?_|refine qp ov ?_|refine qp y5 ?_|refine a3b (c8 _ _ _) ?_|refine C4 ?_|refine a2q ?_|refine a1a eR hr ?_|refine am9 gA ?_|refine S7 gA ?_|refine A7 (c8 _ _ _) ?_|refine a65 (c8 _ _ _) ?_|refine o6 gs ?_|refine aI8 (by show _<(N6 _ _ _ _).length;rw [y5];omega) ?_|refine zy ?_);conv=>whnf)
 refine f6 a7 (fun k=>([S.c (C.ptr 0 0 0),a9 .i64 r,a9 .i64 s,J,J,J,S.c (C.ptr 1 r 0),S.c (C.ptr (m+6) 0 0),J,J,J,J,J,J,J,J,J,J,J,J,J,J,J,J,J,J,J,J,J,J,J,J,J,J,J,J,J,a9 .i64 n,a9 .i64 k,J,J,J,J,J,J,J,J,J,J,J,J,J,J,J,J,J,J,J,J,J,J,J,J,J,J,J,J,J,J,J,J,J,J,J,J,J,J,J,J,J,J,J,J,J,J,J,J,J,J,J,J,J,J,J,J,J,J,J,J,J,J,J,J,J,J,J,J,J,J,J,J,J,J,J,J,J,J,J,J,J,J,J,J,J,J,J,J,J,J,J,J,J,J,J,J,J,J,J,J,J,J,J,J,J,J,J,J,J,J,J,J,J,J,J,J,J,J,J,J,J,J,J,J,J,J,J,J,J,J,J,J,J,J,J,J,J,J,J,J,J,J,J,J],G4 m n fr (V1 D r s) D.G D.O D.F (A1 D r s k) [frX (D.A r s)])) n (fun _=>True) (idR (m+7)) trivial ?_ ?_
 ·refine Q2 (T':=[]) ?_ rfl (by simp [c8]) (by intro k hk;simp at hk;subst hk;exact ad3) ?_
  ·refine Z8 rfl (a9B eR hr rfl rfl) rfl rfl rfl rfl ?_
   have:A1 D r s 0=D.A:=by funext i j;unfold A1 a2W;split<;>simp_all
   rw [this];rfl
  ·exact ⟨⟨n6 (by omega),rfl,rfl⟩,rfl,rfl,⟨n6 (by omega),eR,rfl⟩,⟨n6 (by omega),rfl,rfl⟩,c9 (by omega),c9 rfl,trivial⟩
 intro k hk _
 have gA1:(mF m n (A1 D r s k))[r]? =some (rF n (A1 D r s k r)):=N1 hr
 have lA:r<(mF m n (A1 D r s k)).length:=by rw [c8];exact hr
 by_cases hlt:k<n
 ·have eK:0+(k:Int).toNat=k:=by omega
  have gk:(rF n (A1 D r s k r))[0+(k:Int).toNat]? =some (fz (D.A r k)):=by rw [eK,E3 hlt,b8g]
  have bk:=hB.a r hr k hlt
  have ze:=a7D (D.A r k)
  have ovk:=aD8 (D.A r k) (D.A r s) hp (by omega) (by omega)
  by_cases hks:k=s
  ·subst hks
   conv=>whnf
   repeat' first|(refine zd ?_ ?_<;>intro h<;>first|exact zc h|(exfalso;omega)|conv=>whnf)|((first|refine zz ?_|refine qp ze ?_|refine qp ovk ?_|refine k5 (c8 _ _ _) ?_|refine C4 ?_|refine j6 ?_|refine a1a rfl hr ?_|refine S7 gA1 ?_|refine A7 (c8 _ _ _) ?_|refine o6 gk ?_|refine zy ?_);conv=>whnf)
   all_goals first
    |(exfalso;omega)
    |exact ⟨hlt,trivial,idR (m+7),Q2 (T':=[]) (Z8 rfl rfl rfl rfl rfl rfl (by rw [← b1Q];rfl)) rfl (by simp [c8]) (by intro k hk;simp at hk;subst hk;exact ad3) ⟨⟨n6 (by omega),rfl,rfl⟩,rfl,rfl,⟨n6 (by omega),rfl,rfl⟩,⟨n6 (by omega),rfl,rfl⟩,rfl,c9 (by omega),trivial⟩⟩
  ·by_cases hz:D.A r k=0
   ·rw [decide_eq_true hz] at ze
    conv=>whnf
    repeat' first|(refine zd ?_ ?_<;>intro h<;>first|exact zc h|(exfalso;omega)|conv=>whnf)|((first|refine zz ?_|refine qp ze ?_|refine qp ovk ?_|refine k5 (c8 _ _ _) ?_|refine C4 ?_|refine j6 ?_|refine a1a rfl hr ?_|refine S7 gA1 ?_|refine A7 (c8 _ _ _) ?_|refine o6 gk ?_|refine zy ?_);conv=>whnf)
    all_goals first
     |(exfalso;omega)
     |exact ⟨hlt,trivial,idR (m+7),Q2 (T':=[]) (Z8 rfl rfl rfl rfl rfl rfl (by rw [← b2D hz];rfl)) rfl (by simp [c8]) (by intro k hk;simp at hk;subst hk;exact ad3) ⟨⟨n6 (by omega),rfl,rfl⟩,rfl,rfl,⟨n6 (by omega),rfl,rfl⟩,⟨n6 (by omega),rfl,rfl⟩,rfl,c9 (by omega),trivial⟩⟩
   ·rw [decide_eq_false hz] at ze
    conv=>whnf
    repeat' first|(refine zd ?_ ?_<;>intro h<;>first|exact zc h|(exfalso;omega)|conv=>whnf)|((first|refine zz ?_|refine qp ze ?_|refine qp ovk ?_|refine k5 (c8 _ _ _) ?_|refine C4 ?_|refine j6 ?_|refine a1a rfl hr ?_|refine S7 gA1 ?_|refine A7 (c8 _ _ _) ?_|refine o6 gk ?_|refine aa2 lA (H5 (y:=fz (D.A r k / D.A r s)) eK) ?_|refine zy ?_);conv=>whnf)
    all_goals first
     |(exfalso;omega)
     |exact ⟨hlt,trivial,idR (m+7),Q2 (T':=[]) (Z8 rfl rfl rfl rfl rfl rfl (by rw [R8 hlt,aG3 hr (b2d hks)];rfl)) rfl (by simp [c8]) (by intro k hk;simp at hk;subst hk;exact ad3) ⟨⟨n6 (by omega),rfl,rfl⟩,rfl,rfl,⟨n6 (by omega),rfl,rfl⟩,⟨n6 (by omega),rfl,rfl⟩,rfl,c9 (by omega),trivial⟩⟩
 ·have hke:k=n:=by omega
  subst hke
  have gs1:(rF k (A1 D r s k r))[0+(s:Int).toNat]? =some (fz (D.A r s)):=by rw [eS,E3 hs,b9C]
  have i1:=E4 1 (by decide) (by decide)
  have ov1:=aD8 ((1:Int):Rat) (D.A r s) hp (by have:=rl1;show rl 1≤_;omega) (by omega)
  conv=>whnf
  repeat' first|(refine zd ?_ ?_<;>intro h<;>first|exact zc h|(exfalso;omega)|conv=>whnf)|((first|refine zz ?_|refine qp i1 ?_|refine qp ov1 ?_|refine k5 (c8 _ _ _) ?_|refine C4 ?_|refine j6 ?_|refine a1a rfl hr ?_|refine S7 gA1 ?_|refine A7 (c8 _ _ _) ?_|refine o6 gs1 ?_|refine aa2 lA (H5 (y:=fz (((1:Int):Rat) / D.A r s)) eS) ?_|refine zy ?_);conv=>whnf)
  all_goals try (exfalso;omega)
  refine f6 a7 (fun q=>([S.c (C.ptr 0 0 0),a9 .i64 r,a9 .i64 s,J,J,J,S.c (C.ptr 1 r 0),J,J,J,J,J,J,J,J,J,J,J,J,J,J,J,J,J,J,J,J,J,J,J,J,J,J,J,J,J,J,J,J,J,J,J,J,J,J,J,J,J,J,J,J,J,J,J,J,J,J,J,J,J,J,J,J,J,J,J,J,J,J,J,J,J,J,J,J,J,J,J,J,J,J,J,J,J,a9 .i64 m,a9 .i64 q,J,J,J,J,J,J,J,J,J,J,J,J,J,J,J,J,J,J,J,J,J,J,J,J,J,J,J,J,J,J,J,J,J,J,J,J,J,J,J,J,J,J,J,J,J,J,J,J,J,J,J,J,J,J,J,J,J,J,J,J,J,J,J,J,J,J,J,J,J,J,J,J,J,J,J,J,J,J,J,J,J,J,J,J,J,J,J,J,J,J,J,J,J,J,J,J,J],G4 m k fr (V2 D r s q) D.G D.O D.F (A2 D r s q) [])) m (fun _=>True) (idR (m+6)) trivial ?_ ?_
  ·refine Q2 (T:=[]) (T':=[frX (D.A r s)]) (Z8 rfl (by rw [b2r]) rfl rfl rfl rfl (by rw [b2G hr hs];rfl)) rfl (by simp [c8]) (by simp) ⟨⟨n6 (by omega),rfl,rfl⟩,rfl,rfl,⟨n6 (by omega),rfl,rfl⟩,c9 (by omega),c9 rfl,trivial⟩
  have eP:∀j,(D.exch r s).A r j=D.pRow r s j:=fun j=>by show (if r=r then _ else _)=_;rw [if_pos rfl]
  have har:∀j,j<k→rl (D.pRow r s j)≤30000:=fun j hj=>by rw [← eP];exact hB'.a r hr j hj
  intro q hq _
  have gAr:(mF m k (A2 D r s q))[r]? =some (rF k (D.pRow r s)):=by rw [N1 hr,b8Q]
  by_cases hqm:q<m
  ·have eQ:0+(q:Int).toNat=q:=by omega
   have lQ:q<(mF m k (A2 D r s q)).length:=by rw [c8];exact hqm
   have ze:=a7D (D.A q s)
   by_cases hqr:q=r
   ·subst hqr
    conv=>whnf
    repeat' first|(refine zd ?_ ?_<;>intro h<;>first|exact zc h|(exfalso;omega)|conv=>whnf)|((first|refine zz ?_|refine k5 (c8 _ _ _) ?_|refine C4 ?_|refine j6 ?_|refine zy ?_);conv=>whnf)
    all_goals first
     |(exfalso;omega)
     |exact ⟨hqm,trivial,idR (m+6),Q2 (T:=[]) (T':=[]) (Z8 rfl (by rw [← b2F]) rfl rfl rfl rfl (by rw [← b2b];rfl)) rfl (by simp [c8]) (by simp) ⟨⟨n6 (by omega),rfl,rfl⟩,rfl,rfl,⟨n6 (by omega),rfl,rfl⟩,rfl,c9 (by omega),trivial⟩⟩
   ·have gAq:(mF m k (A2 D r s q))[q]? =some (rF k (D.A q)):=by rw [N1 hqm,b3d hqr]
    have gqs:(rF k (D.A q))[0+(s:Int).toNat]? =some (fz (D.A q s)):=by rw [eS,E3 hs]
    by_cases hz:D.A q s=0
    ·rw [decide_eq_true hz] at ze
     conv=>whnf
     repeat' first|(refine zd ?_ ?_<;>intro h<;>first|exact zc h|(exfalso;omega)|conv=>whnf)|((first|refine zz ?_|refine qp ze ?_|refine k5 (c8 _ _ _) ?_|refine C4 ?_|refine j6 ?_|refine a1a eQ hqm ?_|refine S7 gAq ?_|refine o6 gqs ?_|refine zy ?_);conv=>whnf)
     all_goals first
      |(exfalso;omega)
      |exact ⟨hqm,trivial,idR (m+6),Q2 (T:=[]) (T':=[]) (Z8 rfl (by rw [← b1O hqr hz]) rfl rfl rfl rfl (by rw [← b21 hqr hz];rfl)) rfl (by simp [c8]) (by simp) ⟨⟨n6 (by omega),rfl,rfl⟩,rfl,rfl,⟨n6 (by omega),rfl,rfl⟩,rfl,c9 (by omega),trivial⟩⟩
    ·rw [decide_eq_false hz] at ze
     have b1:=hB.v q hqm
     have b2:=hB.a q hqm s hs
     have b3:=hB'.v r hr
     have haq:∀j,j<k→rl (D.A q j)≤30000:=hB.a q hqm
     have le:=aw6 (V2 D r s q q) (D.A q s) (V2 D r s q r) (by rw [aT1 hqr];omega) (by omega) (by rw [b7j];have e:(D.exch r s).V r=D.V r / D.A r s:=(by show (if r=r then _ else _)=_;rw [if_pos rfl]);rw [← e];omega)
     conv=>whnf
     repeat' first|(refine zd ?_ ?_<;>intro h<;>first|exact zc h|(exfalso;omega)|conv=>whnf)|((first|refine zz ?_|refine qp ze ?_|refine qp le ?_|refine qp y5 ?_|refine k5 (c8 _ _ _) ?_|refine C4 ?_|refine j6 ?_|refine a1a eQ hqm ?_|refine a1a rfl hr ?_|refine S7 gAq ?_|refine o6 gqs ?_|refine aI8 (by show _<(N6 _ _ _ _).length;rw [y5];omega) ?_|refine b1g (by omega) (a1a rfl hr ?_)|refine .inr ⟨_,_,aE9 (ia:=q+6) (ir:=r+6) (by omega) (H4 gAq) (H4 gAr) hn hs haq har,?_⟩|refine zy ?_);conv=>whnf)
     all_goals first
      |(exfalso;omega)
      |exact ⟨hqm,trivial,idR (m+6),Q2 (T:=[]) (T':=[]) (Z8 rfl (a9B (v:=V2 D r s q q - D.A q s*V2 D r s q r) eQ hqm rfl (by rw [aT1 hqr,b7j];exact aK2 hqr)) rfl rfl rfl rfl (by rw [b03 lQ,aG3 hqm (aH1 hqr)];rfl)) rfl (by simp [c8]) (by simp) ⟨⟨n6 (by omega),rfl,rfl⟩,rfl,rfl,⟨n6 (by omega),rfl,rfl⟩,rfl,c9 (by omega),trivial⟩⟩
  ·have hqe:q=m:=by omega
   subst hqe
   have ggs:(rF k D.G)[0+(s:Int).toNat]? =some (fz (D.G s)):=by rw [eS,E3 hs]
   have ze:=a7D (D.G s)
   have eL:Y8 6 q k (V2 D r s q)=Y8 6 q k (D.exch r s).V:=by
    have:N6 6 q k (V2 D r s q)=N6 6 q k (D.exch r s).V:=List.map_congr_left fun i hi=>by rw [b4s (List.mem_range.1 hi)]
    unfold Y8;rw [this]
   have eA:mF q k (A2 D r s q)=mF q k (D.exch r s).A:=an9 fun i hi j _=>b4x hi
   have eO:Z0 q (fun i=>if i=r then D.F s else D.O i)=Z0 q (D.exch r s).O:=rfl
   have eF:Z0 k (fun j=>if j=s then D.O r else D.F j)=Z0 k (D.exch r s).F:=rfl
   have e0:T8 q k fr (D.exch r s)=G4 q k fr (D.exch r s).V (D.exch r s).G (D.exch r s).O (D.exch r s).F (D.exch r s).A []:=by
    show _::_::_::_::_::_::_=_::_::_::_::_::_::(_++[])
    rw [List.append_nil]
   by_cases hz:D.G s=0
   ·have eG:(D.exch r s).G=D.G:=by have:=ar6 (row:=D.pRow r s) hz;exact this
    rw [decide_eq_true hz] at ze
    conv=>whnf
    repeat' first|(refine zd ?_ ?_<;>intro h<;>first|exact zc h|(exfalso;omega)|conv=>whnf)|((first|refine zz ?_|refine qp ze ?_|refine qp 9 ?_|refine k5 (c8 _ _ _) ?_|refine C4 ?_|refine j6 ?_|refine o6 ggs ?_|refine Z6 eR hr ?_|refine Z6 eS hs ?_|refine bl0 [9] ?_|refine zy ?_);conv=>whnf)
    all_goals first
     |(exfalso;omega)
     |(rw [e0];exact a7R (T:=[]) (Z8 rfl eL (by rw [eG]) (a56 eR hr) (a56 eS hs) rfl (by rw [eA])) rfl (by simp [c8]) trivial)
   ·have eG:(D.exch r s).G=tkA D.G (D.pRow r s) s:=rfl
    rw [decide_eq_false hz] at ze
    conv=>whnf
    repeat' first|(refine zd ?_ ?_<;>intro h<;>first|exact zc h|(exfalso;omega)|conv=>whnf)|((first|refine zz ?_|refine qp ze ?_|refine qp 9 ?_|refine k5 (c8 _ _ _) ?_|refine C4 ?_|refine j6 ?_|refine o6 ggs ?_|refine a1a rfl hr ?_|refine Z6 eR hr ?_|refine Z6 eS hs ?_|refine bl0 [9] ?_|refine .inr ⟨_,_,aE9 (ia:=2) (ir:=r+6) (by omega) rfl (H4 gAr) hn hs hB.g har,?_⟩|refine zy ?_);conv=>whnf)
    all_goals first
     |(exfalso;omega)
     |(rw [e0];exact a7R (T:=[]) (Z8 rfl eL (by rw [eG]) (a56 eR hr) (a56 eS hs) rfl (by rw [eA])) rfl (by simp [c8]) trivial)
end
section
open Go.RowKit
theorem ai9 {H:Hp} {p:Nat→Prop} {ys:List C} {us:List T} (h2:VYL H p ys us):∀{ts:List T},VYL H p (ts.map C.t++ys) (ts++us)
 |[]=>h2
 |t::r=>⟨b2i,ai9 h2⟩
theorem b2R {m n:Nat} {fr:List (Nat × Bool)} {D:Fd} {X:Hp}:VY (G4 m n fr D.V D.G D.O D.F D.A X) (fun _=>True) (.own 1 0 m true) (.sl 5 .any (a6G m n D)):=by
 refine b0n (k:=Y8 6 m n D.V) trivial rfl (fun h=>h) rfl (a3t m n D) ?_ ?_
 ·intro r hr
  obtain ⟨i,_,rfl⟩:=List.mem_map.1 hr
  rfl
 ·intro i r hi
  have him:i<m:=by have:=(lg1 hi).1;rwa [a3t] at this
  rw [a5Y him] at hi
  injection hi with hi
  subst hi
  refine ⟨_,a1I him,?_⟩
  show VYL _ _ ((j7 (fz (D.V i))).map C.t++[C.own (i+6) 0 n true]) _
  have hv:VY (G4 m n fr D.V D.G D.O D.F D.A X) (fun _=>True) (C.own (i+6) 0 n true) (T.sl 4 .any ((rF n (D.A i)).map j7)):=
   .vc (t8 (k:=flB (rF n (D.A i))) trivial (H4 (N1 him)) (fun h=>h) rfl rfl (by simp [L0]))
  exact ai9 (ys:=[C.own (i+6) 0 n true]) (us:=[T.sl 4 .any ((rF n (D.A i)).map j7)]) (show _∧True from ⟨hv,trivial⟩)
theorem b4J {m n:Nat} {fr:List (Nat × Bool)} {D:Fd} {X:Hp}:VY (G4 m n fr D.V D.G D.O D.F D.A X) (fun _=>True) (.ptr 0 0 0) (.ptr (b1u m n fr D)):=by
 refine ak3 (k:=aE6 m n fr.length) trivial rfl (fun h=>h) rfl ⟨b2i,b2R,?_,?_,?_,?_,trivial⟩
 ·exact .vc (t8 (k:=flB (rF n D.G)) trivial rfl (fun h=>h) rfl rfl (by simp [L0]))
 ·exact .vc (t8 (k:=T0 m D.O) trivial rfl (fun h=>h) rfl rfl (by simp [v4]))
 ·exact .vc (t8 (k:=T0 n D.F) trivial rfl (fun h=>h) rfl rfl (by simp [v4]))
 ·exact .vc (t8 (k:=a0s fr) trivial rfl (fun h=>h) rfl rfl (by simp [V5]))
abbrev bxD:Blk:={ mode:=.live,elem:=217,size:=1,rows:=[[.ptr 0 0 0]],box:=true }
abbrev bxI (i:Int):Blk:={ mode:=.live,elem:=3,size:=1,rows:=[[.t (ti i)]],box:=true }
theorem ai3 {m n:Nat} {fr:List (Nat × Bool)} {D:Fd} {X:Hp}:VY (G4 m n fr D.V D.G D.O D.F D.A (bxD::X)) (fun _=>True) (.ptr (m+6) 0 0) (a4B m n fr D):=by
 refine ak3 (k:=bxD) trivial ?_ (fun h=>h) rfl ⟨b4J,trivial⟩
 show (((mF m n D.A).map flB)++bxD::X)[m]? =_
 rw [List.getElem?_append_right (by simp [c8])]
 simp [c8]
theorem b0g {m n t:Nat} {fr:List (Nat × Bool)} {D:Fd} {X:Hp} {i:Int} (h:X[t]? =some (bxI i)):VY (G4 m n fr D.V D.G D.O D.F D.A X) (fun _=>True) (.ptr (m+6+t) 0 0) (.ptr [ti i]):=by
 refine ak3 (k:=bxI i) trivial ?_ (fun h=>h) rfl ⟨b2i,trivial⟩
 show (G4 m n fr D.V D.G D.O D.F D.A X)[m+6+t]? =_
 rw [show m+6+t=m+t+6 by omega]
 show (((mF m n D.A).map flB)++X)[m+t]? =_
 rw [List.getElem?_append_right (by simp [c8])]
 simpa [c8] using h
theorem b80 {m n:Nat} {fr:List (Nat × Bool)} {D:Fd} {X:Hp}:VYS (G4 m n fr D.V D.G D.O D.F D.A X) (fun _=>True) (.c (.own 3 0 m true)) (a4t m D.O):=.vc (t8 (k:=T0 m D.O) trivial rfl (fun h=>h) rfl rfl (by simp [v4]))
theorem b7s {m n:Nat} {fr:List (Nat × Bool)} {D:Fd} {X:Hp}:VYS (G4 m n fr D.V D.G D.O D.F D.A X) (fun _=>True) (.c (.own 4 0 n true)) (a4t n D.F):=.vc (t8 (k:=T0 n D.F) trivial rfl (fun h=>h) rfl rfl (by simp [v4]))
theorem a7x {m n:Nat} {fr:List (Nat × Bool)} {D:Fd} {r s:Nat} (X:Hp) (h:b9 Tryz.prog 262 [.c (.ptr 0 0 0),a9 .i64 r,a9 .i64 s] (T8 m n fr D) (.tup []) (T8 m n fr (D.exch r s))):
 b9 Tryz.prog 262 [.c (.ptr 0 0 0),a9 .i64 r,a9 .i64 s] (G4 m n fr D.V D.G D.O D.F D.A X) (.tup []) (G4 m n fr (D.exch r s).V (D.exch r s).G (D.exch r s).O (D.exch r s).F (D.exch r s).A X):=by
 have hl:∀{D:Fd},∀k ∈ T8 m n fr D,k.mode=.live∧k.app=false:=by
  intro D k hk
  simp only [List.mem_cons] at hk
  rcases hk with rfl|rfl|rfl|rfl|rfl|rfl|hk
  ·exact ⟨rfl,rfl⟩
  ·exact ⟨rfl,rfl⟩
  ·exact ⟨rfl,rfl⟩
  ·exact ⟨rfl,rfl⟩
  ·exact ⟨rfl,rfl⟩
  ·exact ⟨rfl,rfl⟩
  ·obtain ⟨l,_,rfl⟩:=List.mem_map.1 hk
   exact ⟨rfl,rfl⟩
 exact a6D (n:=m+6) X h a1C a1C (by simp [okS,okC,a9,Nat.blt_eq]) (fun k hk=>⟨(hl k hk).1,(hl k hk).2,a5D k hk⟩) (fun k hk=>⟨(by rw [(hl k hk).1];intro h;cases h),a5D k hk⟩) rfl rfl
def aE7:aY4→Int × Int
 |.best=>(-1,-1)
 |.row r=>(r,-1)
 |.col s=>(-1,s)
 |.next r s=>(r,s)
theorem b1d {N:Nat} (h:0<N):okB N bxD:=by
 intro r hr c hc
 simp at hr;subst hr
 simp at hc;subst hc
 exact h
set_option maxHeartbeats 4000000 in
theorem b09 (m n:Nat) (fr:List (Nat × Bool)) (D0:Fd) (g0:Nat→Rat) (hm:m≤100000) (hn:n≤1000) (h0:a60 m n D0 g0 D0) (hB:∀D,T9 m n D0 D→BdD m n 30000 D):
 b9 Tryz.prog 200 [.c (.ptr 0 0 0)] (T8 m n fr D0) (.tup [a9 .i64 (aE7 (y8 m n (a7J m n D0))).1,a9 .i64 (aE7 (y8 m n (a7J m n D0))).2]) (T8 m n fr (a7J m n D0)):=by
 (refine a8 a7 Tryz.func200 rfl (by decide) ?_;(conv=>whnf);repeat (refine zy ?_;conv=>whnf))
 repeat' first|(refine zd ?_ ?_<;>intro h<;>first|exact zc h|(exfalso;omega)|conv=>whnf)|((first|refine zz ?_|refine a3b (c8 _ _ _) ?_|refine a2q ?_|refine zy ?_);conv=>whnf)
 refine m9 a7 (σ:=Fd) (fun D=>([J,S.c (C.ptr (m+6) 0 0),J,J,J,J,J,J,J,J,J,J,J,J,J,J,J,J,J,J,J,J,J,J,J,J,J,J,J,J,J,J,J,J,J,J,J,J,J,J,J,J,J,J,J,J,J,J,J,J,J,J,J,J,J,J,J,J,J,J,J,J,J,J,J,J,J,J,J,J,J],G4 m n fr D.V D.G D.O D.F D.A [bxD])) (fun D=>T9 m n D0 D) (fun D=>a6M m n D) D0 (idR (m+7)) aw2 ?_ ?_
 ·refine Q2 (T':=[]) (Z8 rfl rfl rfl rfl rfl rfl (by rw [List.append_nil,List.append_nil];rfl)) rfl (by simp [c8]) (by intro k hk;simp at hk;subst hk;exact b1d (by omega)) ⟨⟨n6 (by omega),rfl,rfl⟩,trivial⟩
 intro D hD
 have bd:=hB D hD
 have inv:a60 m n D0 g0 D:=by obtain ⟨k,hk⟩:=hD;exact a3J h0 hk
 have l1:=a3M m hm D.O (fun i=>decide (D.V i<0)) 258 [a4B m n fr D] (fun i hi=>aQ4 m n fr D i hi)
 have l2:=a3M n (by omega) D.F (fun j=>decide (0<D.G j)) 259 [a4B m n fr D] (fun j hj=>aQ6 m n fr D j hj)
 have va1:∀X,a1i (G4 m n fr D.V D.G D.O D.F D.A (bxD::X)) (fun _=>True) [.c (.own 3 0 m true),.c (.fn (.func 258) [.ptr (m+6) 0 0])] [a4t m D.O,.c (.t (.fn (.func 258) [a4B m n fr D]))]:=
  fun X=>⟨b80,aK7 (show _∧True from ⟨ai3,trivial⟩),trivial⟩
 have va2:∀X,a1i (G4 m n fr D.V D.G D.O D.F D.A (bxD::X)) (fun _=>True) [.c (.own 4 0 n true),.c (.fn (.func 259) [.ptr (m+6) 0 0])] [a4t n D.F,.c (.t (.fn (.func 259) [a4B m n fr D]))]:=
  fun X=>⟨b7s,aK7 (show _∧True from ⟨ai3,trivial⟩),trivial⟩
 have va3:∀X (r:Nat),a1i (G4 m n fr D.V D.G D.O D.F D.A (bxD::bxI r::X)) (fun _=>True) [.c (.own 4 0 n true),.c (.fn (.func 260) [.ptr (m+6) 0 0,.ptr (m+7) 0 0])] [a4t n D.F,.c (.t (.fn (.func 260) [a4B m n fr D,.ptr [ti r]]))]:=
  fun X r=>⟨b7s,aK7 (show _∧_∧True from ⟨ai3,b0g (t:=1) rfl,trivial⟩),trivial⟩
 have va4:∀X (x:Int) (s:Nat),a1i (G4 m n fr D.V D.G D.O D.F D.A (bxD::bxI x::bxI s::X)) (fun _=>True) [.c (.own 3 0 m true),.c (.fn (.func 261) [.ptr (m+6) 0 0,.ptr (m+8) 0 0])] [a4t m D.O,.c (.t (.fn (.func 261) [a4B m n fr D,.ptr [ti s]]))]:=
  fun X x s=>⟨b80,aK7 (show _∧_∧True from ⟨ai3,b0g (t:=2) rfl,trivial⟩),trivial⟩
 have fin0:∀(X:Hp) (r c:Int),C6 m n D=none→(r,c)=aE7 (y8 m n D)→Fin (T8 m n fr D0).length (.tup [a9 .i64 r,a9 .i64 c]) (G4 m n fr D.V D.G D.O D.F D.A X) (.tup [a9 .i64 (aE7 (y8 m n (a7J m n D0))).1,a9 .i64 (aE7 (y8 m n (a7J m n D0))).2]) (T8 m n fr (a7J m n D0)):=by
  intro X r c hn ho
  have e:=b4p h0 hD hn
  rw [← e,←ho]
  have e0:T8 m n fr D=G4 m n fr D.V D.G D.O D.F D.A []:=by
   show _::_::_::_::_::_::_=_::_::_::_::_::_::(_++[])
   rw [List.append_nil]
  rw [e0]
  exact a7R (N:=m+6) rfl rfl (by simp [c8]) ⟨rfl,rfl,trivial⟩
 have go:∀(X:Hp) (env:Env) (r s:Nat),y8 m n D=.next r s→Z2 (idR (m+7)) (G4 m n fr (D.exch r s).V (D.exch r s).G (D.exch r s).O (D.exch r s).F (D.exch r s).A (bxD::X)) env ([J,S.c (C.ptr (m+6) 0 0),J,J,J,J,J,J,J,J,J,J,J,J,J,J,J,J,J,J,J,J,J,J,J,J,J,J,J,J,J,J,J,J,J,J,J,J,J,J,J,J,J,J,J,J,J,J,J,J,J,J,J,J,J,J,J,J,J,J,J,J,J,J,J,J,J,J,J,J,J])→
  ∃ρ x',Ent (T8 m n fr D0).length ρ env (G4 m n fr (D.exch r s).V (D.exch r s).G (D.exch r s).O (D.exch r s).F (D.exch r s).A (bxD::X)) ([J,S.c (C.ptr (m+6) 0 0),J,J,J,J,J,J,J,J,J,J,J,J,J,J,J,J,J,J,J,J,J,J,J,J,J,J,J,J,J,J,J,J,J,J,J,J,J,J,J,J,J,J,J,J,J,J,J,J,J,J,J,J,J,J,J,J,J,J,J,J,J,J,J,J,J,J,J,J,J]) (G4 m n fr x'.V x'.G x'.O x'.F x'.A [bxD])∧T9 m n D0 x'∧a6M m n x'<a6M m n D:=by
  intro X env r s hs hE
  have hnx:C6 m n D=some (D.exch r s):=by unfold C6;rw [hs]
  exact ⟨idR (m+7),D.exch r s,Q2 (T:=[bxD]) (T':=X) rfl rfl (by simp [c8]) (by intro k hk;simp at hk;subst hk;exact b1d (by omega)) hE,a7A hD hnx,ax3 (b3a inv.p inv.g) hnx⟩
 have exc:∀r s:Nat,y8 m n D=.next r s→b9 Tryz.prog 262 [.c (.ptr 0 0 0),a9 .i64 r,a9 .i64 s] (T8 m n fr D) (.tup []) (T8 m n fr (D.exch r s)):=fun r s hs=>by
  obtain ⟨q1,q2,q3⟩:=a6e hs
  exact az2 m n fr D r s hm hn q1 q2 (a7k q3) bd (hB _ (a7A hD (by unfold C6;rw [hs])))
 cases hR:P7 D.O (fun i=>decide (D.V i<0)) m with
 |none=>
  rw [hR,show leI none=-1 from rfl] at l1
  cases hS:P7 D.F (fun j=>decide (0<D.G j)) n with
  |none=>
   rw [hS,show leI none=-1 from rfl] at l2
   have hst:y8 m n D=.best:=by unfold y8;rw [hR,hS]
   conv=>whnf
   repeat' first|(refine zd ?_ ?_<;>intro h<;>first|exact zc h|(exfalso;omega)|conv=>whnf)|((first|refine zz ?_|refine .inl ⟨_,_,m7 l1 (va1 _) rfl,?_⟩|refine .inl ⟨_,_,m7 l2 (va2 _) rfl,?_⟩|refine k5 (c8 _ _ _) ?_|refine j6 ?_|refine A7 (c8 _ _ _) ?_|refine i5 (t:=1) (c8 _ _ _) ?_|refine i5 (t:=2) (c8 _ _ _) ?_|refine i6 (t:=1) (c8 _ _ _) ?_|refine i6 (t:=2) (c8 _ _ _) ?_|refine zy ?_);conv=>whnf)
   all_goals first
    |(exfalso;omega)
    |exact fin0 _ _ _ (by unfold C6;rw [hst]) (by rw [hst];rfl)
  |some ss=>
   rw [hS,show leI (some ss)=ss from rfl] at l2
   have hss:=(D5 hS).1
   have l4:=a3M m hm D.O (fun i=>decide (0<D.A i ss)) 261 [a4B m n fr D,T.ptr [ti ss]] (fun i hi=>a9w m n fr D i ss hi hss)
   cases hC:P7 D.O (fun i=>decide (0<D.A i ss)) m with
   |none=>
    rw [hC,show leI none=-1 from rfl] at l4
    have hst:y8 m n D=.col ss:=by unfold y8;rw [hR,hS];show a03 m D ss=_;unfold a03;rw [hC]
    conv=>whnf
    repeat' first|(refine zd ?_ ?_<;>intro h<;>first|exact zc h|(exfalso;omega)|conv=>whnf)|((first|refine zz ?_|refine .inl ⟨_,_,m7 l1 (va1 _) rfl,?_⟩|refine .inl ⟨_,_,m7 l2 (va2 _) rfl,?_⟩|refine .inl ⟨_,_,m7 l4 (va4 _ _ ss) rfl,?_⟩|refine k5 (c8 _ _ _) ?_|refine j6 ?_|refine A7 (c8 _ _ _) ?_|refine i5 (t:=1) (c8 _ _ _) ?_|refine i5 (t:=2) (c8 _ _ _) ?_|refine i6 (t:=1) (c8 _ _ _) ?_|refine i6 (t:=2) (c8 _ _ _) ?_|refine zy ?_);conv=>whnf)
    all_goals first
     |(exfalso;omega)
     |exact fin0 _ _ _ (by unfold C6;rw [hst]) (by rw [hst];rfl)
   |some rq=>
    rw [hC,show leI (some rq)=rq from rfl] at l4
    have hst:y8 m n D=.next rq ss:=by unfold y8;rw [hR,hS];show a03 m D ss=_;unfold a03;rw [hC]
    have exr:=exc _ _ hst
    conv=>whnf
    repeat' first|(refine zd ?_ ?_<;>intro h<;>first|exact zc h|(exfalso;omega)|conv=>whnf)|((first|refine zz ?_|refine .inl ⟨_,_,m7 l1 (va1 _) rfl,?_⟩|refine .inl ⟨_,_,m7 l2 (va2 _) rfl,?_⟩|refine .inl ⟨_,_,m7 l4 (va4 _ _ ss) rfl,?_⟩|refine .inr ⟨_,_,a7x _ exr,?_⟩|refine k5 (c8 _ _ _) ?_|refine j6 ?_|refine A7 (c8 _ _ _) ?_|refine i5 (t:=1) (c8 _ _ _) ?_|refine i5 (t:=2) (c8 _ _ _) ?_|refine i6 (t:=1) (c8 _ _ _) ?_|refine i6 (t:=2) (c8 _ _ _) ?_|refine zy ?_);conv=>whnf)
    all_goals first
     |(exfalso;omega)
     |exact go _ _ _ _ hst ⟨⟨n6 (by omega),rfl,rfl⟩,trivial⟩
 |some rr=>
  rw [hR,show leI (some rr)=rr from rfl] at l1
  cases hS:P7 D.F (fun j=>decide (0<D.G j)) n with
  |none=>
   rw [hS,show leI none=-1 from rfl] at l2
   have hrr:=(D5 hR).1
   have l3:=a3M n (by omega) D.F (fun j=>decide (D.A rr j<0)) 260 [a4B m n fr D,T.ptr [ti rr]] (fun j hj=>a9R m n fr D rr j hrr hj)
   cases hC:P7 D.F (fun j=>decide (D.A rr j<0)) n with
   |none=>
    rw [hC,show leI none=-1 from rfl] at l3
    have hst:y8 m n D=.row rr:=by unfold y8;rw [hR,hS];show a04 n D rr=_;unfold a04;rw [hC]
    conv=>whnf
    repeat' first|(refine zd ?_ ?_<;>intro h<;>first|exact zc h|(exfalso;omega)|conv=>whnf)|((first|refine zz ?_|refine .inl ⟨_,_,m7 l1 (va1 _) rfl,?_⟩|refine .inl ⟨_,_,m7 l2 (va2 _) rfl,?_⟩|refine .inl ⟨_,_,m7 l3 (va3 _ rr) rfl,?_⟩|refine k5 (c8 _ _ _) ?_|refine j6 ?_|refine A7 (c8 _ _ _) ?_|refine i5 (t:=1) (c8 _ _ _) ?_|refine i5 (t:=2) (c8 _ _ _) ?_|refine i6 (t:=1) (c8 _ _ _) ?_|refine i6 (t:=2) (c8 _ _ _) ?_|refine zy ?_);conv=>whnf)
    all_goals first
     |(exfalso;omega)
     |exact fin0 _ _ _ (by unfold C6;rw [hst]) (by rw [hst];rfl)
   |some sq=>
    rw [hC,show leI (some sq)=sq from rfl] at l3
    have hst:y8 m n D=.next rr sq:=by unfold y8;rw [hR,hS];show a04 n D rr=_;unfold a04;rw [hC]
    have exr:=exc _ _ hst
    conv=>whnf
    repeat' first|(refine zd ?_ ?_<;>intro h<;>first|exact zc h|(exfalso;omega)|conv=>whnf)|((first|refine zz ?_|refine .inl ⟨_,_,m7 l1 (va1 _) rfl,?_⟩|refine .inl ⟨_,_,m7 l2 (va2 _) rfl,?_⟩|refine .inl ⟨_,_,m7 l3 (va3 _ rr) rfl,?_⟩|refine .inr ⟨_,_,a7x _ exr,?_⟩|refine k5 (c8 _ _ _) ?_|refine j6 ?_|refine A7 (c8 _ _ _) ?_|refine i5 (t:=1) (c8 _ _ _) ?_|refine i5 (t:=2) (c8 _ _ _) ?_|refine i6 (t:=1) (c8 _ _ _) ?_|refine i6 (t:=2) (c8 _ _ _) ?_|refine zy ?_);conv=>whnf)
    all_goals first
     |(exfalso;omega)
     |exact go _ _ _ _ hst ⟨⟨n6 (by omega),rfl,rfl⟩,trivial⟩
  |some ss=>
   rw [hS,show leI (some ss)=ss from rfl] at l2
   have hrr:=(D5 hR).1
   have hss:=(D5 hS).1
   by_cases hlt:D.O rr<D.F ss
   ·skip
    have l3:=a3M n (by omega) D.F (fun j=>decide (D.A rr j<0)) 260 [a4B m n fr D,T.ptr [ti rr]] (fun j hj=>a9R m n fr D rr j hrr hj)
    cases hC:P7 D.F (fun j=>decide (D.A rr j<0)) n with
    |none=>
     rw [hC,show leI none=-1 from rfl] at l3
     have hst:y8 m n D=.row rr:=by unfold y8 a04;rw [hR,hS];simp only [if_pos hlt];rw [hC]
     conv=>whnf
     repeat' first|(refine zd ?_ ?_<;>intro h<;>first|exact zc h|(exfalso;omega)|conv=>whnf)|((first|refine zz ?_|refine .inl ⟨_,_,m7 l1 (va1 _) rfl,?_⟩|refine .inl ⟨_,_,m7 l2 (va2 _) rfl,?_⟩|refine .inl ⟨_,_,m7 l3 (va3 _ rr) rfl,?_⟩|refine k5 (c8 _ _ _) ?_|refine j6 ?_|refine A7 (c8 _ _ _) ?_|refine i5 (t:=1) (c8 _ _ _) ?_|refine i5 (t:=2) (c8 _ _ _) ?_|refine i6 (t:=1) (c8 _ _ _) ?_|refine i6 (t:=2) (c8 _ _ _) ?_|refine Z6 (r:=rr) (by omega) hrr ?_|refine Z6 (r:=ss) (by omega) hss ?_|refine zy ?_);conv=>whnf)
     all_goals first
      |(exfalso;omega)
      |exact fin0 _ _ _ (by unfold C6;rw [hst]) (by rw [hst];rfl)
    |some sq=>
     rw [hC,show leI (some sq)=sq from rfl] at l3
     have hst:y8 m n D=.next rr sq:=by unfold y8 a04;rw [hR,hS];simp only [if_pos hlt];rw [hC]
     have exr:=exc _ _ hst
     conv=>whnf
     repeat' first|(refine zd ?_ ?_<;>intro h<;>first|exact zc h|(exfalso;omega)|conv=>whnf)|((first|refine zz ?_|refine .inl ⟨_,_,m7 l1 (va1 _) rfl,?_⟩|refine .inl ⟨_,_,m7 l2 (va2 _) rfl,?_⟩|refine .inl ⟨_,_,m7 l3 (va3 _ rr) rfl,?_⟩|refine .inr ⟨_,_,a7x _ exr,?_⟩|refine k5 (c8 _ _ _) ?_|refine j6 ?_|refine A7 (c8 _ _ _) ?_|refine i5 (t:=1) (c8 _ _ _) ?_|refine i5 (t:=2) (c8 _ _ _) ?_|refine i6 (t:=1) (c8 _ _ _) ?_|refine i6 (t:=2) (c8 _ _ _) ?_|refine Z6 (r:=rr) (by omega) hrr ?_|refine Z6 (r:=ss) (by omega) hss ?_|refine zy ?_);conv=>whnf)
     all_goals first
      |(exfalso;omega)
      |exact go _ _ _ _ hst ⟨⟨n6 (by omega),rfl,rfl⟩,trivial⟩
   ·skip
    have l4:=a3M m hm D.O (fun i=>decide (0<D.A i ss)) 261 [a4B m n fr D,T.ptr [ti ss]] (fun i hi=>a9w m n fr D i ss hi hss)
    cases hC:P7 D.O (fun i=>decide (0<D.A i ss)) m with
    |none=>
     rw [hC,show leI none=-1 from rfl] at l4
     have hst:y8 m n D=.col ss:=by unfold y8 a03;rw [hR,hS];simp only [if_neg hlt];rw [hC]
     conv=>whnf
     repeat' first|(refine zd ?_ ?_<;>intro h<;>first|exact zc h|(exfalso;omega)|conv=>whnf)|((first|refine zz ?_|refine .inl ⟨_,_,m7 l1 (va1 _) rfl,?_⟩|refine .inl ⟨_,_,m7 l2 (va2 _) rfl,?_⟩|refine .inl ⟨_,_,m7 l4 (va4 _ _ ss) rfl,?_⟩|refine k5 (c8 _ _ _) ?_|refine j6 ?_|refine A7 (c8 _ _ _) ?_|refine i5 (t:=1) (c8 _ _ _) ?_|refine i5 (t:=2) (c8 _ _ _) ?_|refine i6 (t:=1) (c8 _ _ _) ?_|refine i6 (t:=2) (c8 _ _ _) ?_|refine Z6 (r:=rr) (by omega) hrr ?_|refine Z6 (r:=ss) (by omega) hss ?_|refine zy ?_);conv=>whnf)
     all_goals first
      |(exfalso;omega)
      |exact fin0 _ _ _ (by unfold C6;rw [hst]) (by rw [hst];rfl)
    |some rq=>
     rw [hC,show leI (some rq)=rq from rfl] at l4
     have hst:y8 m n D=.next rq ss:=by unfold y8 a03;rw [hR,hS];simp only [if_neg hlt];rw [hC]
     have exr:=exc _ _ hst
     conv=>whnf
     repeat' first|(refine zd ?_ ?_<;>intro h<;>first|exact zc h|(exfalso;omega)|conv=>whnf)|((first|refine zz ?_|refine .inl ⟨_,_,m7 l1 (va1 _) rfl,?_⟩|refine .inl ⟨_,_,m7 l2 (va2 _) rfl,?_⟩|refine .inl ⟨_,_,m7 l4 (va4 _ _ ss) rfl,?_⟩|refine .inr ⟨_,_,a7x _ exr,?_⟩|refine k5 (c8 _ _ _) ?_|refine j6 ?_|refine A7 (c8 _ _ _) ?_|refine i5 (t:=1) (c8 _ _ _) ?_|refine i5 (t:=2) (c8 _ _ _) ?_|refine i6 (t:=1) (c8 _ _ _) ?_|refine i6 (t:=2) (c8 _ _ _) ?_|refine Z6 (r:=rr) (by omega) hrr ?_|refine Z6 (r:=ss) (by omega) hss ?_|refine zy ?_);conv=>whnf)
     all_goals first
      |(exfalso;omega)
      |exact go _ _ _ _ hst ⟨⟨n6 (by omega),rfl,rfl⟩,trivial⟩
end
section
open Go.RowKit
theorem a3Q {P:Program} {g:FuncId} {args:List S} {H:Hp} {b:Blk} {n:Nat} {app:Bool} (h:b9 P g args [] (.c (.own 0 0 n app)) [b]) (ha:args.all S.isT=true) (hm:b.mode=.live) (hb:E8 b.rows):
 S4 P g args H (.c (.own H.length 0 n app)) [b]:=by
 refine ⟨h.1,fun w ι M vals hl hv hH hM hf=>?_⟩
 have:=h.2 w (fun _=>none) M vals hl (fun j s hj=>(hv j s hj).tree (List.all_eq_true.1 ha s (lg2 hj)))
  ⟨by simp,by simp,by simp,by simp,by simp⟩ hM (fun _ _=>rfl)
 refine Calls.mono this ?_
 rintro e w' ⟨v,rfl,ι',M',h1,h2,h3,h4,h5⟩
 have hnl:∀x,¬a2f (fun _=>none) ([]:Hp) x:=by rintro x ⟨id,k,_,_,hk,_⟩;simp at hk
 obtain ⟨l,hl0⟩:∃l,ι' 0=some l:=by
  cases h1 with
  |c h1=>cases h1 with
   |own hi=>exact ⟨_,hi⟩
   |nil hi=>exact ⟨_,hi⟩
 have hnew:w9 ι H.length [b].length (fun _=>l) H.length=some l:=by unfold w9;simp
 have hMM:∀x,a31 M [b].length (fun _=>l) x→M' x:=by
  intro x hx
  rcases hx with hx|⟨k,hk,cap,size,he⟩
  ·rcases h5.mold x hx with h|h
   ·exact h
   ·exact absurd h (hnl x)
  ·have he:l=.blk x cap size:=he
   subst he
   exact h2.liv 0 b rfl hm x cap size hl0
 refine ⟨v,rfl,fun _=>l,?_,⟨h5.os,h5.tape,h5.output,h5.size,fun x hx=>h5.keep x hx (hnl x)⟩,?_,?_,?_⟩
 ·cases h1 with
  |c h1=>cases h1 with
   |own hi q1 q2 q3 q4 q5=>
    rw [hl0] at hi;injection hi with hi
    subst hi
    exact .c (.own hnew q1 q2 q3 q4 q5)
   |nil hi=>
    rw [hl0] at hi;injection hi with hi
    subst hi
    exact .c (.nil hnew)
 ·intro k blk hk
  cases k with
  |succ k=>simp at hk
  |zero=>
   simp at hk
   subst hk
   refine ⟨hm,?_⟩
   have hbr:=h2.blk 0 b rfl (by rw [hm];intro h;cases h) l hl0
   cases l with
   |nil=>exact hbr
   |blk x cap size=>
    obtain ⟨r1,r2,r3,r4,r5,cur,r6,r7,r8⟩:=hbr
    refine ⟨r1,r2,r3,r4,r5,cur,r6,r7,fun i j c hc=>?_⟩
    obtain ⟨u,u1,u2⟩:=r8 i j c hc
    exact ⟨u,u1,a8q hMM hb hc u2⟩
 ·intro k x cap size hk he
  have he:l=.blk x cap size:=he
  subst he
  refine ⟨?_,h3 x (h2.liv 0 b rfl hm x cap size hl0)⟩
  rcases h5.live x ⟨0,b,cap,size,rfl,hm,hl0⟩ with h|h
  ·exact absurd h (hnl x)
  ·exact h
 ·intro k k' x cap size cap' size' hk hk' _ _
  simp at hk hk'
  omega
theorem aR4 (H:Hp) (n:Nat) (hn:n≤1000):S4 Tryz.prog 254 [a9 .i64 n] H (.c (.own H.length 0 n true)) [flB (rF n fun _=>0)]:=
 a3Q (b1H n hn) rfl rfl (g4 _)
def a2F (l:List (Int × Rat)):Nat→Nat→Rat
 |0=>u3 l
 |k+1=>match l[k]? with
  |none=>a2F l k
  |some t=>fun j=>if j=t.1.toNat then -t.2 else a2F l k j
theorem a9g {l:List (Int × Rat)} {k:Nat} {t:Int × Rat} (h:l[k]? =some t):a2F l (k+1)=fun j=>if j=t.1.toNat then -t.2 else a2F l k j:=by rw [a2F,h]
theorem aI0 (l:List (Int × Rat)) (j:Nat):∀k,k≤l.length→a2F l k j=-(G6 l k j)∨(G6 l k j=0∧a2F l k j=u3 l j)
 |0,_=>.inr ⟨rfl,rfl⟩
 |k+1,hk=>by
  obtain ⟨t,ht⟩:∃t,l[k]? =some t:=⟨_,lg0 (by omega)⟩
  rw [a9g ht,E5 ht]
  simp only
  by_cases hj:j=t.1.toNat
  ·rw [if_pos hj,if_pos hj];exact .inl rfl
  ·rw [if_neg hj,if_neg hj];exact aI0 l j k (by omega)
theorem aV7 (l:List (Int × Rat)):a2F l l.length=fun j=>-(u3 l j):=by
 funext j
 rcases aI0 l j l.length (Nat.le_refl _) with h|⟨h1,h2⟩
 ·exact h
 ·rw [h2]
  have:u3 l j=0:=h1
  rw [this];decide
def sgF (b:Bool) (l:List (Int × Rat)):Nat→Rat:=fun j=>O3 b (u3 l j)
end
section
open Go.RowKit
theorem W2 {H:Hp} {N n:Nat} (hN:H.length=N) (hn:n≤1000):S4 Tryz.prog 254 [a9 .i64 n] H (.c (.own N 0 n true)) [flB (rF n fun _=>0)]:=by subst hN;exact aR4 H n hn
abbrev pB (n k l i f:Nat):Blk:={ mode:=.live,elem:=256,size:=6,rows:=[[C.t (ti n),.own l 0 k true,.own 2 0 n true,.own i 0 k true,.t (.sl 0 .nil []),.own f 0 k true]],box:=true }
abbrev a8J (t:TypeId) (s:Nat):Blk:=⟨.dead,t,s,[],false,false⟩
abbrev a4K (n k:Nat) (V G:Nat→Rat) (O:Nat→Nat) (fr:List (Nat × Bool)) (A:Nat→Nat→Rat) (X:Hp):Hp:=
 pB n k 1 3 4::Y8 5 k n V::flB (rF n G)::T0 k O::a0s fr::((mF k n A).map flB++X)
abbrev lnX (k n:Nat) (v:Rat):Blk:={ mode:=.live,elem:=259,size:=5,rows:=[frC (fz v)++[C.own (k+6) 0 n true]],box:=true }
abbrev aN7 (n k:Nat) (v:Rat) (a V G:Nat→Rat) (O:Nat→Nat) (fr:List (Nat × Bool)) (f:Nat × Bool) (A:Nat→Nat→Rat) (bx:Blk):Hp:=
 pB n (k+1) (k+8) (k+7) (k+9)::a8J 259 5::flB (rF n G)::a8J 3 1::a8J 284 2::((mF k n A).map flB++
  [bx,flB (rF n a),T0 (k+1) O,{ mode:=.live,elem:=259,size:=5,rows:=N6 5 k n V++[frC (fz v)++[C.own (k+6) 0 n true]],box:=false },a0s (fr++[f])])
theorem ad2 {k n N:Nat} {v:Rat} (h:k+6<N):okB N (lnX k n v):=by
 intro r hr c hc
 simp at hr;subst hr
 simp [frC] at hc
 rcases hc with rfl|rfl|rfl|rfl|rfl<;>first|trivial|exact h
theorem b4W {n k N l i f:Nat} (h1:l<N) (h2:i<N) (h3:f<N) (h4:2<N):okB N (pB n k l i f):=by
 intro r hr c hc
 simp at hr;subst hr
 simp at hc
 rcases hc with rfl|rfl|rfl|rfl|rfl|rfl<;>first|trivial|assumption
theorem al4 {n k:Nat} {V G:Nat→Rat} {O:Nat→Nat} {fr:List (Nat × Bool)} {A:Nat→Nat→Rat} {X:Hp}:(a4K n k V G O fr A X).length=k+5+X.length:=by simp [c8];omega
theorem b2v {n k N:Nat} {V G:Nat→Rat} {O:Nat→Nat} {fr:List (Nat × Bool)} {A:Nat→Nat→Rat} {X:Hp} (h:k+5≤N) (hX:∀b ∈ X,okB N b):∀b ∈ a4K n k V G O fr A X,okB N b:=by
 intro b hb
 simp only [List.mem_cons,List.mem_append] at hb
 rcases hb with rfl|rfl|rfl|rfl|rfl|hb|hb
 ·exact b4W (by omega) (by omega) (by omega) (by omega)
 ·exact a8C h
 ·exact C9 rfl
 ·exact C9 rfl
 ·exact C9 rfl
 ·obtain ⟨l,_,rfl⟩:=List.mem_map.1 hb
  exact C9 rfl
 ·exact hX b hb
theorem aY8 {n k:Nat} {V G:Nat→Rat} {O:Nat→Nat} {fr:List (Nat × Bool)} {A:Nat→Nat→Rat} {X X':Hp}:a4K n k V G O fr A (X++X')=a4K n k V G O fr A X++X':=by
 show _::_::_::_::_::(_++(X++X'))=_::_::_::_::_::((_++X)++X')
 rw [List.append_assoc]
theorem U1 {n0 N n k:Nat} {V G:Nat→Rat} {O:Nat→Nat} {fr:List (Nat × Bool)} {A:Nat→Nat→Rat} {X X' H:Hp} {env env':Env} (hH:H=a4K n k V G O fr A (X++X')) (hN:k+5+X.length=N) (h0:n0≤N) (hX:∀b ∈ X,okB N b)
 (hE:Z2 (idR N) H env env'):Ent n0 (idR N) env H env' (a4K n k V G O fr A X):=by
 refine a6i (by rw [al4];exact hN) h0 (b2v (by omega) hX) (fun i hi=>?_) hE
 rw [hH,aY8,List.getElem?_append_left (by rw [al4];omega)]
theorem a0r {b0 b1 b2 b3 b4 c0 c1 c2 c3 c4:Blk} {L L':Hp} (h0:b0=c0) (h1:b1=c1) (h2:b2=c2) (h3:b3=c3) (h4:b4=c4) (h6:L=L'):b0::b1::b2::b3::b4::L=c0::c1::c2::c3::c4::L':=by
 subst h0 h1 h2 h3 h4 h6;rfl
def fR (N:Nat) (f:Nat→Nat):List (Option Nat):=(List.range N).map fun i=>some (f i)
theorem w7 {N i:Nat} {f:Nat→Nat} (h:i<N):(fR N f)[i]? =some (some (f i)):=by simp [fR,h]
theorem b3U (N:Nat) (f:Nat→Nat):(fR N f).length=N:=by simp [fR]
theorem b0k {N i j:Nat} {f:Nat→Nat} (h:(fR N f)[i]? =some (some j)):i<N∧f i=j:=by
 obtain ⟨h1,h2⟩:=lg1 h
 simp [fR] at h1 h2
 exact ⟨h1,h2⟩
theorem a7W {ρ:List (Option Nat)}:∀{m:Nat},(∀ i:Nat,i<m→ρ[i]? =some (some i))→a0Q ρ m=true
 |0,_=>rfl
 |m+1,h=>by
  unfold a0Q
  rw [h m (by omega),a7W fun i hi=>h i (by omega)]
  simp
theorem aF9 {N:Nat} {f:Nat→Nat} {H H':Hp} (hn:H'.length=N) (hB:∀(i:Nat) (k':Blk),H'[i]? =some k'→∃k:Blk,H[f i]? =some k∧a3f (fR N f) H k k'):a2C (fR N f) H (fR N f) H':=
 a3D (by rw [b3U,hn]) fun i k' hk=>by
  have hi:i<N:=by rw [← hn];exact (lg1 hk).1
  obtain ⟨k,h1,h2⟩:=hB i k' hk
  exact ⟨f i,k,w7 hi,h1,h2⟩
theorem ak9 {N:Nat} {f:Nat→Nat} {H:Hp} (hinj:∀i j,i<N→j<N→f i=f j→i=j):O6 (fR N f) H=true:=W0 fun i j n h1 h2=>by
 obtain ⟨a1,a2⟩:=b0k h1
 obtain ⟨b1,b2⟩:=b0k h2
 exact hinj i j a1 b1 (by omega)
theorem aw1 {n0 N:Nat} {f:Nat→Nat} {env env':Env} {H H':Hp} (hn:H'.length=N) (h0:n0≤N) (hk:∀i,i<n0→f i=i) (hinj:∀i j,i<N→j<N→f i=f j→i=j)
 (hB:∀(i:Nat) (k':Blk),H'[i]? =some k'→∃k:Blk,H[f i]? =some k∧a3f (fR N f) H k k') (hE:Z2 (fR N f) H env env'):Ent n0 (fR N f) env H env' H':=
 ⟨a7W fun i hi=>by rw [w7 (by omega),hk i hi],ak9 hinj,aF9 hn hB,hE⟩
theorem b3u {n0 N:Nat} {f:Nat→Nat} {r s:S} {H H':Hp} (hn:H'.length=N) (h0:n0≤N) (hk:∀i,i<n0→f i=i) (hinj:∀i j,i<N→j<N→f i=f j→i=j)
 (hB:∀(i:Nat) (k':Blk),H'[i]? =some k'→∃k:Blk,H[f i]? =some k∧a3f (fR N f) H k k') (hE:a6Z (fR N f) H r s):Fin n0 r H s H':=
 ⟨fR N f,a7W fun i hi=>by rw [w7 (by omega),hk i hi],ak9 hinj,aF9 hn hB,hE⟩
theorem b2C (k:Blk):a1h k k=true:=by unfold a1h;cases k.mode<;>simp
theorem i8 {ρ:List (Option Nat)} {H:Hp} {k:Blk} (h:E8 k.rows):a3f ρ H k k:=⟨b2C k,rfl,rfl,.inl ⟨rfl,h⟩⟩
theorem aK6 {ρ:List (Option Nat)} {H:Hp} {l l':List C} (h:a2g ρ H l l'):∀ts:List T,a2g ρ H (ts.map C.t++l) (ts.map C.t++l')
 |[]=>h
 |t::r=>⟨X0 t,aK6 h r⟩
theorem a0O {ρ:List (Option Nat)} {H:Hp} {m n:Nat} {V:Nat→Rat} {h h':Nat→Nat} (hh:∀i,i<m→ρ[h' i]? =some (some (h i))):
 a3f ρ H { mode:=.live,elem:=259,size:=5,rows:=(List.range m).map fun i=>frC (fz (V i))++[C.own (h i) 0 n true],box:=false } { mode:=.live,elem:=259,size:=5,rows:=(List.range m).map fun i=>frC (fz (V i))++[C.own (h' i) 0 n true],box:=false }:=by
 refine ⟨rfl,rfl,rfl,.inr (a53 (by simp) fun i x y hx hy=>?_)⟩
 have hi:i<m:=by have:=(lg1 hx).1;simpa using this
 simp [hi] at hx hy
 subst hx hy
 exact aK6 (ts:=j7 (fz (V i))) (l:=[C.own (h i) 0 n true]) (l':=[C.own (h' i) 0 n true]) ⟨⟨hh i hi,rfl,rfl,fun h=>h⟩,trivial⟩
theorem aG9 {a b:Nat} {K:Prop} (h:a≤b) (k:K):a≤b∧K:=⟨h,k⟩
theorem a2P {N:Nat} {b:Blk} (h:E8 b.rows):okB N b:=by
 intro r hr c hc
 have:=h r hr c hc
 cases c<;>first|trivial|cases this
def al6 (k n:Nat) (v:Rat) (V:Nat→Rat):Nat→Rat:=fun i=>if i=k then v else V i
def hnd (k:Nat):Nat→Nat:=fun i=>if i=k then k+6 else i+5
theorem a8n {k n:Nat} {v:Rat} {V:Nat→Rat}:N6 5 k n V++[frC (fz v)++[C.own (k+6) 0 n true]]=(List.range (k+1)).map fun i=>frC (fz (al6 k n v V i))++[C.own (hnd k i) 0 n true]:=by
 rw [List.range_succ,List.map_append]
 congr 1
 ·refine List.map_congr_left fun i hi=>?_
  have:=List.mem_range.1 hi
  unfold al6 hnd
  rw [if_neg (by omega),if_neg (by omega)]
 ·unfold al6 hnd;simp
abbrev b86 (n k:Nat) (v:Rat) (a V G:Nat→Rat) (O:Nat→Nat) (fr:List (Nat × Bool)) (f:Nat × Bool) (A:Nat→Nat→Rat) (bx lx lit:Blk):Hp:=
 pB n (k+1) (k+10) (k+8) (k+11)::a8J 259 5::flB (rF n G)::a8J 3 1::a8J 284 2::((mF k n A).map flB++
  [bx,flB (rF n a),lx,T0 (k+1) O,lit,{ mode:=.live,elem:=259,size:=5,rows:=N6 5 k n V++[frC (fz v)++[C.own (k+6) 0 n true]],box:=false },a0s (fr++[f])])
def a8u (k:Nat):Nat→Nat:=fun i=>if i<k+7 then i else if i=k+7 then k+8 else if i=k+8 then k+10 else k+11
theorem a0n {α β:Type} {f:β→α} {M:List β} {X:List α} {N t:Nat} (h:M.length=N):(M.map f++X)[N+t]? =X[t]?:=by
 rw [List.getElem?_append_right (by simp [h])];simp [h]
theorem b35 {n0 n:Nat} {r s:S} {H H':Hp} (e:n0=n) (h:Fin n r H s H'):Fin n0 r H s H':=by subst e;exact h
theorem aM3 {n k:Nat} {v:Rat} {a V G:Nat→Rat} {O:Nat→Nat} {fr:List (Nat × Bool)} {f:Nat × Bool} {A:Nat→Nat→Rat} {bx lx lit:Blk} {H:Hp} (hbx:E8 bx.rows) (hH:H=b86 n k v a V G O fr f A bx lx lit):
 Fin (k+6) (.tup []) H (.tup []) (aN7 n k v a V G O fr f A bx):=by
 subst hH
 refine b3u (N:=k+10) (f:=a8u k) (by simp [c8]) (by omega) (fun i hi=>by unfold a8u;rw [if_pos (by omega)]) (fun i j hi hj h=>by unfold a8u at h;(repeat' split at h)<;>omega) ?_ trivial
 have r7:a8u k (k+7)=k+8:=by unfold a8u;rw [if_neg (by omega),if_pos rfl]
 have r8:a8u k (k+8)=k+10:=by unfold a8u;rw [if_neg (by omega),if_neg (by omega),if_pos rfl]
 have r9:a8u k (k+9)=k+11:=by unfold a8u;rw [if_neg (by omega),if_neg (by omega),if_neg (by omega)]
 have rl:∀i,i<k+7→a8u k i=i:=fun i hi=>by unfold a8u;rw [if_pos hi]
 intro i k' hk
 rcases i with _|_|_|_|_|i
 ·injection hk with hk;subst hk
  rw [rl 0 (by omega)]
  exact ⟨_,rfl,rfl,rfl,rfl,.inr ⟨⟨rfl,⟨by rw [w7 (by omega),r8],rfl,rfl,fun h=>h⟩,⟨by rw [w7 (by omega),rl 2 (by omega)],rfl,rfl,fun h=>h⟩,⟨by rw [w7 (by omega),r7],rfl,rfl,fun h=>h⟩,rfl,⟨by rw [w7 (by omega),r9],rfl,rfl,fun h=>h⟩,trivial⟩,trivial⟩⟩
 ·injection hk with hk;subst hk;rw [rl 1 (by omega)];exact ⟨_,rfl,i8 (by simp [E8])⟩
 ·injection hk with hk;subst hk;rw [rl 2 (by omega)];exact ⟨_,rfl,i8 (g4 _)⟩
 ·injection hk with hk;subst hk;rw [rl 3 (by omega)];exact ⟨_,rfl,i8 (by simp [E8])⟩
 ·injection hk with hk;subst hk;rw [rl 4 (by omega)];exact ⟨_,rfl,i8 (by simp [E8])⟩
 ·have hk:((mF k n A).map flB++[bx,flB (rF n a),T0 (k+1) O,{ mode:=.live,elem:=259,size:=5,rows:=N6 5 k n V++[frC (fz v)++[C.own (k+6) 0 n true]],box:=false },a0s (fr++[f])])[i]? =some k':=hk
  by_cases hi:i<k
  ·rw [H4 (N1 hi)] at hk
   injection hk with hk;subst hk
   rw [rl (i+5) (by omega)]
   exact ⟨_,H4 (N1 hi),i8 (g4 _)⟩
  ·obtain ⟨t,rfl⟩:∃t,i=k+t:=⟨i - k,by omega⟩
   rw [a0n (c8 _ _ _)] at hk
   have lk:∀j,(b86 n k v a V G O fr f A bx lx lit)[k+j+5]? =([bx,flB (rF n a),lx,T0 (k+1) O,lit,{ mode:=.live,elem:=259,size:=5,rows:=N6 5 k n V++[frC (fz v)++[C.own (k+6) 0 n true]],box:=false },a0s (fr++[f])]:Hp)[j]?:=fun j=>a0n (c8 _ _ _)
   rcases t with _|_|_|_|_|t
   ·injection hk with hk;subst hk
    rw [rl (k+0+5) (by omega)]
    exact ⟨_,lk 0,i8 hbx⟩
   ·injection hk with hk;subst hk
    rw [rl (k+1+5) (by omega)]
    exact ⟨_,lk 1,i8 (g4 _)⟩
   ·injection hk with hk;subst hk
    rw [show k+2+5=k+7 by omega,r7]
    exact ⟨_,lk 3,i8 (g4 _)⟩
   ·injection hk with hk;subst hk
    rw [show k+3+5=k+8 by omega,r8]
    refine ⟨_,lk 5,?_⟩
    rw [a8n]
    refine a0O fun j hj=>?_
    have:hnd k j<k+7:=by unfold hnd;split<;>omega
    rw [w7 (by omega),rl _ this]
   ·injection hk with hk;subst hk
    rw [show k+4+5=k+9 by omega,r9]
    exact ⟨_,lk 6,i8 (g4 _)⟩
   ·simp at hk
theorem l7 {a0 a1 a2 a3 a4 a5 a6 b0 b1 b2 b3 b4 b5 b6:Blk} (h0:a0=b0) (h1:a1=b1) (h2:a2=b2) (h3:a3=b3) (h4:a4=b4) (h5:a5=b5) (h6:a6=b6):([a0,a1,a2,a3,a4,a5,a6]:Hp)=[b0,b1,b2,b3,b4,b5,b6]:=by
 subst h0 h1 h2 h3 h4 h5 h6;rfl
theorem a6m {k:Nat} {O:Nat→Nat} {x:Int} (h:x=O k):(toC (Z0 k O)).take k++toC [[ti x]]=toC (Z0 (k+1) O):=by
 rw [lg4 (by simp [toC,v4])]
 unfold Z0
 rw [List.range_succ,List.map_append,h]
 simp [toC]
theorem a7X {fr:List (Nat × Bool)} {k:Nat} (h:fr.length=k) (f:Nat × Bool):(toC (V5 fr)).take k++toC [[ti f.1,tb f.2]]=toC (V5 (fr++[f])):=by
 rw [lg4 (by simp [toC,V5,h])]
 unfold V5
 simp [toC]
set_option maxHeartbeats 4000000 in
theorem b6X (n k row:Nat) (w:x7) (b:Bool) (V G:Nat→Rat) (fr:List (Nat × Bool)) (hfr:fr.length=k) (A:Nat→Nat→Rat) (bx:Blk) (hbx:E8 bx.rows) (hn:n≤1000) (hk:k≤10000) (hrow:row≤100000)
 (hr:e7 (-1) n w.terms=true) (hl:w.terms.length≤1000) (hb:∀t ∈ w.terms,rl t.2≤60000) (hv:rl w.value≤60000):
 b9 Tryz.prog 255 [.c (.ptr 0 0 0),a9 .i64 row,as2 w,e6 b] (a4K n k V G (fun i=>n+i) fr A [bx]) (.tup []) (aN7 n k (O3 b w.value) (sgF b w.terms) V G (fun i=>n+i) fr (row,b) A bx):=by
 have m1:(w.terms.map k6).length=w.terms.length:=by simp
 (refine a8 a7 Tryz.func255 rfl (by decide) ?_;(conv=>whnf);repeat ((first|refine b0x ?_|refine zy ?_);conv=>whnf))
 repeat' first|(refine zd ?_ ?_<;>intro h<;>first|exact zc h|(exfalso;omega)|conv=>whnf)|((first|refine zz ?_|refine qp c8 ?_|refine b0x ?_|refine .inl ⟨_,_,W2 (N:=k+6) (by simp [c8]) hn,?_⟩|refine k5 (c8 _ _ _) ?_|refine j6 ?_|refine i5 (t:=1) (c8 _ _ _) ?_|refine i5 (t:=2) (c8 _ _ _) ?_|refine i5 (t:=3) (c8 _ _ _) ?_|refine i6 (t:=1) (c8 _ _ _) ?_|refine i6 (t:=2) (c8 _ _ _) ?_|refine i6 (t:=3) (c8 _ _ _) ?_|refine zy ?_);conv=>whnf)
 refine f6 a7 (fun q=>([S.c (C.ptr 0 0 0),a9 .i64 row,J,e6 b,J,J,S.c (C.t (T.ptr (s7 w))),J,S.c (C.ptr (k+7) 0 0),J,J,J,J,J,J,J,J,J,J,J,J,J,j2 w.terms,a9 .i64 w.terms.length,a9 .i64 q,J,J,J,J,J,J,J,J,J,J,J,J,J,J,J,J,J,J,J,J,J,J,J,J,J,J,J,J,J,J,J,J,J,J,J,J,J,J,J,J,J,J,J,J,J,J,J,J,J,J,J,J,J,J,J,J,J,J,J,J,J,J,J,J,J,J,J,J,J,J,J,J,J],a4K n k V G (fun i=>n+i) fr A [bx,flB (rF n (G6 w.terms q)),lnX k n w.value])) w.terms.length (fun _=>True) (idR (k+8)) trivial ?_ ?_
 ·refine U1 (X':=[]) (a0r rfl rfl rfl rfl rfl ?_) rfl (by simp [c8]) ?_ ?_
  ·rfl
  ·intro b hb;simp at hb;rcases hb with rfl|rfl|rfl
   ·exact a2P hbx
   ·exact C9 rfl
   ·exact ad2 (by omega)
  ·exact ⟨⟨n6 (by omega),rfl,rfl⟩,rfl,rfl,j0 rfl,⟨n6 (by omega),rfl,rfl⟩,j0 rfl,c9 (by omega),c9 rfl,trivial⟩
 intro q hq _
 by_cases hlt:q<w.terms.length
 ·obtain ⟨t,ht⟩:∃t,w.terms[q]? =some t:=⟨_,lg0 hlt⟩
  obtain ⟨t0,t1,t2⟩:=s9 hr t (lg2 ht)
  have gp:(rF n (G6 w.terms q))[0+t.1.toNat]? =some (fz (G6 w.terms q t.1.toNat)):=by rw [Nat.zero_add,E3 (by omega)]
  have eV:0+t.1.toNat=t.1.toNat:=by omega
  have e:z9 (flB (rF n (G6 w.terms q))) ((flB (rF n (G6 w.terms q))).rows.set (0+t.1.toNat) (frC (fz t.2)))=flB (rF n (G6 w.terms (q+1))):=by
   have e1:=H5 (row:=rF n (G6 w.terms q)) (y:=fz t.2) eV
   rw [R8 (by omega),←E5 ht] at e1
   exact e1
  conv=>whnf
  repeat' first|(refine zd ?_ ?_<;>intro h<;>first|exact zc h|(exfalso;omega)|conv=>whnf)|((first|refine zz ?_|refine d7 ht ?_|refine o6 gp ?_|refine k5 (c8 _ _ _) ?_|refine j6 ?_|refine i5 (t:=1) (c8 _ _ _) ?_|refine i5 (t:=2) (c8 _ _ _) ?_|refine i5 (t:=3) (c8 _ _ _) ?_|refine i6 (t:=1) (c8 _ _ _) ?_|refine i6 (t:=2) (c8 _ _ _) ?_|refine i6 (t:=3) (c8 _ _ _) ?_|refine zy ?_);conv=>whnf)
  all_goals first
   |(exfalso;omega)
   |(refine ⟨hlt,trivial,idR (k+8),U1 (X:=[bx,flB (rF n (G6 w.terms (q+1))),lnX k n w.value]) (a0r rfl rfl rfl rfl rfl (congrArg (fun z=>(mF k n A).map flB++(bx::z::lnX k n w.value::[_])) e)) rfl (by simp [c8]) ?_ ⟨⟨n6 (by omega),rfl,rfl⟩,rfl,rfl,rfl,⟨n6 (by omega),rfl,rfl⟩,rfl,rfl,c9 (by omega),trivial⟩⟩
     intro b hb;simp at hb;rcases hb with rfl|rfl|rfl
     ·exact a2P hbx
     ·exact C9 rfl
     ·exact ad2 (by omega))
 ·have hqe:q=w.terms.length:=by omega
  subst hqe
  cases b with
  |false=>
   conv=>whnf
   repeat' first|(refine zd ?_ ?_<;>intro h<;>first|exact zc h|(exfalso;omega)|conv=>whnf)|((first|refine a8x [0,1,2,3,4,5,6,7,9,10,11,12,13,14,15,16,8,17,18,19,20,21,22,23] (by decide +kernel) (by decide +kernel) ?_|refine zz ?_|refine zz ?_|refine zz ?_|refine zz ?_|refine zz ?_|refine zz ?_|refine qp (0,1,2,3,4,5,6,7,9,10,11,12,13,14,15,16,8,17,18,19,20,21,22,23) ?_|refine qp (toC,v4,y5,V5,hfr) ?_|refine qp (toC,v4,y5,V5) ?_|refine qp 0 ?_|refine qp (0,1,8,9,10,11,12,13,14,15) ?_|refine qp (0,1) ?_|refine qp 1 ?_|refine t9 (by simp [toC,v4,y5,V5,hfr]) (by simp [toC,v4,y5,V5];omega) ?_|refine bl0 [0] ?_|refine bl0 [0,1,8,9,10,11,12,13,14,15] ?_|refine bl0 [0,1] ?_|refine bl0 [1] ?_|refine k5 (c8 _ _ _) ?_|refine j6 ?_|refine i5 (t:=1) (c8 _ _ _) ?_|refine i5 (t:=2) (c8 _ _ _) ?_|refine i5 (t:=3) (c8 _ _ _) ?_|refine i6 (t:=1) (c8 _ _ _) ?_|refine i6 (t:=2) (c8 _ _ _) ?_|refine i6 (t:=3) (c8 _ _ _) ?_|refine i5 (t:=4) (c8 _ _ _) ?_|refine aG9 (Nat.le_refl 1) ?_|refine zy ?_);conv=>whnf)
   all_goals try (exfalso;omega)
   all_goals refine b35 (n:=k+6) (by simp [c8]) (aM3 (lit:=_) hbx (a0r rfl rfl rfl rfl rfl (congrArg (fun z=>(mF k n A).map flB++z) (l7 rfl rfl rfl ?_ rfl ?_ ?_))))
   ·exact congrArg (fun z=>({ mode:=.live,elem:=3,size:=1,rows:=z,box:=false }:Blk)) (a6m (x:=(n:Int)+k) (by simp))
   ·exact congrArg (fun z=>({ mode:=.live,elem:=259,size:=5,rows:=z,box:=false }:Blk)) (congrArg (fun z=>z++[frC (fz w.value)++[C.own (k+6) 0 n true]]) (lg4 (by simp [y5])))
   ·exact congrArg (fun z=>({ mode:=.live,elem:=284,size:=2,rows:=z,box:=false }:Blk)) (a7X hfr (row,false))
  |true=>
   have nv:=a4p w.value hv
   conv=>whnf
   repeat' first|(refine zd ?_ ?_<;>intro h<;>first|exact zc h|(exfalso;omega)|conv=>whnf)|((first|refine zz ?_|refine qp nv ?_|refine k5 (c8 _ _ _) ?_|refine j6 ?_|refine i5 (t:=1) (c8 _ _ _) ?_|refine i5 (t:=2) (c8 _ _ _) ?_|refine i5 (t:=3) (c8 _ _ _) ?_|refine i6 (t:=1) (c8 _ _ _) ?_|refine i6 (t:=2) (c8 _ _ _) ?_|refine i6 (t:=3) (c8 _ _ _) ?_|refine zy ?_);conv=>whnf)
   all_goals try (exfalso;omega)
   refine f6 a7 (fun q=>([S.c (C.ptr 0 0 0),a9 .i64 row,J,e6 true,J,J,J,J,S.c (C.ptr (k+7) 0 0),J,J,J,J,J,J,J,J,J,J,J,J,J,J,J,J,J,J,J,J,J,J,J,J,J,J,J,J,J,J,J,J,J,j2 w.terms,a9 .i64 w.terms.length,a9 .i64 q,J,J,J,J,J,J,J,J,J,J,J,J,J,J,J,J,J,J,J,J,J,J,J,J,J,J,J,J,J,J,J,J,J,J,J,J,J,J,J,J,J,J,J,J,J,J,J,J,J,J,J,J,J],a4K n k V G (fun i=>n+i) fr A [bx,flB (rF n (a2F w.terms q)),lnX k n (-w.value)])) w.terms.length (fun _=>True) (idR (k+8)) trivial ?_ ?_
   ·refine U1 (X':=[]) (a0r rfl rfl rfl rfl rfl rfl) rfl (by simp [c8]) ?_ ?_
    ·intro b hb;simp at hb;rcases hb with rfl|rfl|rfl
     ·exact a2P hbx
     ·exact C9 rfl
     ·exact ad2 (by omega)
    ·exact ⟨⟨n6 (by omega),rfl,rfl⟩,rfl,rfl,⟨n6 (by omega),rfl,rfl⟩,j0 rfl,c9 (by omega),c9 rfl,trivial⟩
   intro q hq _
   by_cases hlt:q<w.terms.length
   ·obtain ⟨t,ht⟩:∃t,w.terms[q]? =some t:=⟨_,lg0 hlt⟩
    obtain ⟨t0,t1,t2⟩:=s9 hr t (lg2 ht)
    have nt:=a4p t.2 (hb t (lg2 ht))
    have gp:(rF n (a2F w.terms q))[0+t.1.toNat]? =some (fz (a2F w.terms q t.1.toNat)):=by rw [Nat.zero_add,E3 (by omega)]
    have eV:0+t.1.toNat=t.1.toNat:=by omega
    have e:z9 (flB (rF n (a2F w.terms q))) ((flB (rF n (a2F w.terms q))).rows.set (0+t.1.toNat) (frC (fz (-t.2))))=flB (rF n (a2F w.terms (q+1))):=by
     have e1:=H5 (row:=rF n (a2F w.terms q)) (y:=fz (-t.2)) eV
     rw [R8 (by omega),←a9g ht] at e1
     exact e1
    conv=>whnf
    repeat' first|(refine zd ?_ ?_<;>intro h<;>first|exact zc h|(exfalso;omega)|conv=>whnf)|((first|refine zz ?_|refine qp nt ?_|refine d7 ht ?_|refine o6 gp ?_|refine k5 (c8 _ _ _) ?_|refine j6 ?_|refine i5 (t:=1) (c8 _ _ _) ?_|refine i5 (t:=2) (c8 _ _ _) ?_|refine i5 (t:=3) (c8 _ _ _) ?_|refine i6 (t:=1) (c8 _ _ _) ?_|refine i6 (t:=2) (c8 _ _ _) ?_|refine i6 (t:=3) (c8 _ _ _) ?_|refine zy ?_);conv=>whnf)
    all_goals first
     |(exfalso;omega)
     |(refine ⟨hlt,trivial,idR (k+8),U1 (X:=[bx,flB (rF n (a2F w.terms (q+1))),lnX k n (-w.value)]) (a0r rfl rfl rfl rfl rfl (congrArg (fun z=>(mF k n A).map flB++(bx::z::lnX k n (-w.value)::[_])) e)) rfl (by simp [c8]) ?_ ⟨⟨n6 (by omega),rfl,rfl⟩,rfl,rfl,⟨n6 (by omega),rfl,rfl⟩,rfl,rfl,c9 (by omega),trivial⟩⟩
       intro b hb;simp at hb;rcases hb with rfl|rfl|rfl
       ·exact a2P hbx
       ·exact C9 rfl
       ·exact ad2 (by omega))
   ·have hqe:q=w.terms.length:=by omega
    subst hqe
    have ea:a2F w.terms w.terms.length=sgF true w.terms:=aV7 w.terms
    conv=>whnf
    repeat' first|(refine zd ?_ ?_<;>intro h<;>first|exact zc h|(exfalso;omega)|conv=>whnf)|((first|refine a8x [0,1,2,3,4,5,6,7,9,10,11,12,13,14,15,16,8,17,18,19,20,21,22,23] (by decide +kernel) (by decide +kernel) ?_|refine zz ?_|refine zz ?_|refine zz ?_|refine zz ?_|refine zz ?_|refine zz ?_|refine qp (0,1,2,3,4,5,6,7,9,10,11,12,13,14,15,16,8,17,18,19,20,21,22,23) ?_|refine qp (toC,v4,y5,V5,hfr) ?_|refine qp (toC,v4,y5,V5) ?_|refine qp 0 ?_|refine qp (0,1,8,9,10,11,12,13,14,15) ?_|refine qp (0,1) ?_|refine qp 1 ?_|refine t9 (by simp [toC,v4,y5,V5,hfr]) (by simp [toC,v4,y5,V5];omega) ?_|refine bl0 [0] ?_|refine bl0 [0,1,8,9,10,11,12,13,14,15] ?_|refine bl0 [0,1] ?_|refine bl0 [1] ?_|refine k5 (c8 _ _ _) ?_|refine j6 ?_|refine i5 (t:=1) (c8 _ _ _) ?_|refine i5 (t:=2) (c8 _ _ _) ?_|refine i5 (t:=3) (c8 _ _ _) ?_|refine i6 (t:=1) (c8 _ _ _) ?_|refine i6 (t:=2) (c8 _ _ _) ?_|refine i6 (t:=3) (c8 _ _ _) ?_|refine i5 (t:=4) (c8 _ _ _) ?_|refine aG9 (Nat.le_refl 1) ?_|refine zy ?_);conv=>whnf)
    all_goals try (exfalso;omega)
    all_goals refine b35 (n:=k+6) (by simp [c8]) (aM3 (lit:=_) hbx (a0r rfl rfl rfl rfl rfl (congrArg (fun z=>(mF k n A).map flB++z) (l7 rfl (by rw [ea]) rfl ?_ rfl ?_ ?_))))
    ·exact congrArg (fun z=>({ mode:=.live,elem:=3,size:=1,rows:=z,box:=false }:Blk)) (a6m (x:=(n:Int)+k) (by simp))
    ·exact congrArg (fun z=>({ mode:=.live,elem:=259,size:=5,rows:=z,box:=false }:Blk)) (congrArg (fun z=>z++[frC (fz (-w.value))++[C.own (k+6) 0 n true]]) (lg4 (by simp [y5])))
    ·exact congrArg (fun z=>({ mode:=.live,elem:=284,size:=2,rows:=z,box:=false }:Blk)) (a7X hfr (row,true))
end
section
open Go.RowKit
def gR (N:Nat) (f:Nat→Option Nat):List (Option Nat):=(List.range N).map f
theorem a1S {N i:Nat} {f:Nat→Option Nat} (h:i<N):(gR N f)[i]? =some (f i):=by simp [gR,h]
theorem b0O {N i:Nat} {x:Option Nat} {f:Nat→Option Nat} (h:(gR N f)[i]? =some x):i<N∧f i=x:=by
 obtain ⟨h1,h2⟩:=lg1 h
 simp [gR] at h1 h2
 exact ⟨h1,h2⟩
theorem as4 {ρ:List (Option Nat)} {H:Hp}:∀{r:List (Option Nat)} {H':Hp},r.length=H'.length→(∀ (i:Nat) (k':Blk),H'[i]? =some k'→(r[i]? =some none∧k'.rows=[]∧k'.mode=.live)∨∃(j:Nat) (k:Blk),r[i]? =some (some j)∧H[j]? =some k∧a3f ρ H k k')→a2C ρ H r H'
 |[],[],_,_=>trivial
 |[],_::_,h,_=>by simp at h
 |_::_,[],h,_=>by simp at h
 |x::r,k'::H',hl,h=>by
  refine ⟨?_,as4 (by simpa using hl) fun i k1 hk=>by simpa using h (i+1) k1 (by simpa using hk)⟩
  rcases h 0 k' rfl with ⟨h1,h2,h3⟩|⟨j,k,h1,h2,h3⟩
  ·simp at h1;subst h1;exact ⟨h2,h3⟩
  ·simp at h1;subst h1
   simp only [h2]
   exact h3
theorem aT6 {N:Nat} {f:Nat→Option Nat} {env env':Env} {H H':Hp} (hn:H'.length=N) (hinj:∀i j x,i<N→j<N→f i=some x→f j=some x→i=j)
 (hB:∀(i:Nat) (k':Blk),H'[i]? =some k'→(f i=none∧k'.rows=[]∧k'.mode=.live)∨∃(j:Nat) (k:Blk),f i=some j∧H[j]? =some k∧a3f (gR N f) H k k') (hE:Z2 (gR N f) H env env'):Ent 0 (gR N f) env H env' H':=
 ⟨rfl,W0 fun i j n h1 h2=>by
   obtain ⟨a1,a2⟩:=b0O h1
   obtain ⟨b1,b2⟩:=b0O h2
   exact hinj i j n a1 b1 a2 b2,as4 (by simp [gR,hn]) fun i k' hk=>by
   have hi:i<N:=by rw [← hn];exact (lg1 hk).1
   rcases hB i k' hk with ⟨h1,h2⟩|⟨j,k,h1,h2⟩
   ·exact .inl ⟨by rw [a1S hi,h1],h2⟩
   ·exact .inr ⟨j,k,by rw [a1S hi,h1],h2⟩,hE⟩
theorem a4o {s:f5} (k:Nat):I3 s (k+1)=match s.rows[k]? with
 |none=>I3 s k
 |some w=>I3 s k++(if w.kind≠0 then [(k,false)] else [])++(if w.kind≠1 then [(k,true)] else []):=rfl
theorem a9G {s:f5} {i:Nat}:∀d,∃rest,I3 s (i+d)=I3 s i++rest
 |0=>⟨[],by simp⟩
 |d+1=>by
  obtain ⟨r,hr⟩:=a9G (s:=s) (i:=i) d
  rw [show i+(d+1)=(i+d)+1 by omega,a4o]
  cases s.rows[i+d]? with
  |none=>exact ⟨r,hr⟩
  |some w=>exact ⟨r++((if w.kind≠0 then [(i+d,false)] else [])++(if w.kind≠1 then [(i+d,true)] else [])),by simp only;rw [hr,List.append_assoc,List.append_assoc]⟩
theorem a9j {s:f5} {i k:Nat} {f:Nat × Bool} (hi:i≤s.rows.length) (h:(I3 s i)[k]? =some f):(d6 s).getD k (0,false)=f:=by
 obtain ⟨r,hr⟩:=a9G (s:=s) (i:=i) (s.rows.length - i)
 rw [show i+(s.rows.length - i)=s.rows.length by omega] at hr
 unfold d6
 rw [hr,lg3,List.getElem?_append_left (lg1 h).1,h];rfl
theorem a3z {s:f5}:∀i,(I3 s i).length≤2*i
 |0=>by simp [I3]
 |i+1=>by
  have ih:=a3z (s:=s) i
  rw [a4o]
  cases s.rows[i]? with
  |none=>simp only;omega
  |some w=>
   simp only [List.length_append]
   split<;>split<;>simp<;>omega
theorem a7T {s:f5} {i:Nat} {w:x7} (h:s.rows[i]? =some w):I3 s (i+1)=(I3 s i++if w.kind≠0 then [(i,false)] else [])++if w.kind≠1 then [(i,true)] else []:=by
 rw [a4o,h]
def Q0 (k:Nat):Nat→Nat:=fun i=>if i=0 then 0 else if i=1 then k+8 else if i=2 then 2 else if i=3 then k+7 else if i=4 then k+9 else if i<k+5 then i else if i=k+5 then k+6 else k+5
theorem a7y {k:Nat} (i:Nat) (hi:i<k+7):(i=0∧Q0 k i=0)∨(i=1∧Q0 k i=k+8)∨(i=2∧Q0 k i=2)∨(i=3∧Q0 k i=k+7)∨(i=4∧Q0 k i=k+9)∨(5≤i∧i<k+5∧Q0 k i=i)∨(5≤i∧i=k+5∧Q0 k i=k+6)∨(5≤i∧i=k+6∧Q0 k i=k+5):=by
 unfold Q0
 by_cases h0:i=0
 ·rw [if_pos h0];omega
 ·rw [if_neg h0]
  by_cases h1:i=1
  ·rw [if_pos h1];omega
  ·rw [if_neg h1]
   by_cases h2:i=2
   ·rw [if_pos h2];omega
   ·rw [if_neg h2]
    by_cases h3:i=3
    ·rw [if_pos h3];omega
    ·rw [if_neg h3]
     by_cases h4:i=4
     ·rw [if_pos h4];omega
     ·rw [if_neg h4]
      by_cases h5:i<k+5
      ·rw [if_pos h5];omega
      ·rw [if_neg h5]
       by_cases h6:i=k+5
       ·rw [if_pos h6];omega
       ·rw [if_neg h6];omega
theorem b2V {k:Nat}:Q0 k (k+6)=k+5:=by
 have:=a7y (k:=k) (k+6) (by omega)
 omega
theorem aF3 {n k:Nat} {a V G:Nat→Rat} {v:Rat} {O:Nat→Nat} {fr:List (Nat × Bool)} {f:Nat × Bool} {A:Nat→Nat→Rat} {bx:Blk} {env env':Env} (hbx:E8 bx.rows) (hv:v=V k) (ha:a=A k)
 (hE:Z2 (fR (k+7) (Q0 k)) (aN7 n k v a V G O fr f A bx) env env'):Ent 0 (fR (k+7) (Q0 k)) env (aN7 n k v a V G O fr f A bx) env' (a4K n (k+1) V G O (fr++[f]) A [bx]):=by
 subst hv ha
 have r1:Q0 k 1=k+8:=rfl
 have r3:Q0 k 3=k+7:=rfl
 have r4:Q0 k 4=k+9:=rfl
 have ra:∀i,i<k→Q0 k (i+5)=i+5:=fun i hi=>by
  unfold Q0
  rw [if_neg (by omega),if_neg (by omega),if_neg (by omega),if_neg (by omega),if_neg (by omega),if_pos (by omega)]
 have rk:Q0 k (k+5)=k+6:=by
  unfold Q0
  rw [if_neg (by omega),if_neg (by omega),if_neg (by omega),if_neg (by omega),if_neg (by omega),if_neg (by omega),if_pos rfl]
 have rb:Q0 k (k+6)=k+5:=by
  unfold Q0
  rw [if_neg (by omega),if_neg (by omega),if_neg (by omega),if_neg (by omega),if_neg (by omega),if_neg (by omega),if_neg (by omega)]
 have lk:∀j,(aN7 n k (V k) (A k) V G O fr f A bx)[k+j+5]? =([bx,flB (rF n (A k)),T0 (k+1) O,{ mode:=.live,elem:=259,size:=5,rows:=N6 5 k n V++[frC (fz (V k))++[C.own (k+6) 0 n true]],box:=false },a0s (fr++[f])]:Hp)[j]?:=fun j=>a0n (c8 _ _ _)
 have eV:al6 k n (V k) V=V:=by funext i;unfold al6;split<;>simp_all
 refine aw1 (by simp [c8]) (by omega) (fun i hi=>by omega) (fun i j hi hj h=>by have:=a7y i hi;have:=a7y j hj;omega) ?_ hE
 intro i k' hk
 rcases i with _|_|_|_|_|i
 ·injection hk with hk;subst hk
  exact ⟨_,rfl,rfl,rfl,rfl,.inr ⟨⟨rfl,⟨by rw [w7 (by omega),r1],rfl,rfl,fun h=>h⟩,⟨by rw [w7 (by omega)];rfl,rfl,rfl,fun h=>h⟩,⟨by rw [w7 (by omega),r3],rfl,rfl,fun h=>h⟩,rfl,⟨by rw [w7 (by omega),r4],rfl,rfl,fun h=>h⟩,trivial⟩,trivial⟩⟩
 ·injection hk with hk;subst hk
  refine ⟨_,lk 3,?_⟩
  rw [a8n,eV]
  refine a0O (h':=fun i=>i+5) fun j hj=>?_
  rw [w7 (by omega)]
  unfold hnd
  by_cases hjk:j=k
  ·subst hjk;rw [if_pos rfl,rk]
  ·rw [if_neg hjk,ra j (by omega)]
 ·injection hk with hk;subst hk;exact ⟨_,rfl,i8 (g4 _)⟩
 ·injection hk with hk;subst hk;exact ⟨_,lk 2,i8 (g4 _)⟩
 ·injection hk with hk;subst hk;exact ⟨_,lk 4,i8 (g4 _)⟩
 ·have hk:((mF (k+1) n A).map flB++[bx])[i]? =some k':=hk
  by_cases hi:i<k+1
  ·rw [H4 (N1 hi)] at hk
   injection hk with hk;subst hk
   by_cases hik:i=k
   ·subst hik;rw [rk];exact ⟨_,lk 1,i8 (g4 _)⟩
   ·rw [ra i (by omega)]
    exact ⟨_,H4 (N1 (by omega)),i8 (g4 _)⟩
  ·obtain ⟨t,rfl⟩:∃t,i=(k+1)+t:=⟨i - (k+1),by omega⟩
   rw [a0n (c8 _ _ _)] at hk
   rcases t with _|t
   ·injection hk with hk;subst hk
    rw [show k+1+0+5=k+6 by omega,rb]
    exact ⟨_,lk 0,i8 hbx⟩
   ·simp at hk
end
section
open Go.RowKit
theorem b25 {b0 b1 b2 b3 b4 b5 c0 c1 c2 c3 c4 c5:Blk} {L L':Hp} (h0:b0=c0) (h1:b1=c1) (h2:b2=c2) (h3:b3=c3) (h4:b4=c4) (h5:b5=c5) (h6:L=L'):b0::b1::b2::b3::b4::b5::L=c0::c1::c2::c3::c4::c5::L':=Z8 h0 h1 h2 h3 h4 h5 h6
theorem w6:∀{last n:Int} {l:List (Int × Rat)},e7 last n l=true→l.length=0∨(l.length:Int)≤n - last - 1
 |_,_,[],_=>.inl rfl
 |last,n,a::r,h=>by
  unfold e7 at h
  simp only [Bool.and_eq_true,decide_eq_true_eq] at h
  have ih:=w6 h.2
  have h1:=h.1.1.1
  have h2:=h.1.1.2
  right
  rw [List.length_cons]
  rcases ih with h0|h0
  ·rw [h0];omega
  ·omega
structure b39 (s:f5) (g:List (Int × Rat)) (n:Nat):Prop where
 r:f9 s=true
 tg:e7 (-1) n g=true
 en:s.n=n
 n1:n≤1000
 b:∀w ∈ s.rows,rl w.value≤60000∧∀t ∈ w.terms,rl t.2≤60000
 bg:∀t ∈ g,rl t.2≤60000
 l:s.rows.length≤4000
abbrev rbx (w:x7):Blk:={ mode:=.live,elem:=143,size:=6,rows:=[(s7 w).map C.t],box:=true }
theorem as9 (w:x7):E8 (rbx w).rows:=g4 [s7 w]
def a78 (s:f5):List T:=[ti s.n,B2 s.rows]
def pF1:Nat→Option Nat:=fun i=>if i=0 then some 1 else if i=2 then some 0 else none
theorem aF8 {s:f5} {g:List (Int × Rat)} {k:Nat} {b:Bool} {i:Nat} {w:x7} (h:(d6 s).getD k (0,false)=(i,b)) (hw:s.rows[i]? =some w):O3 b w.value=(g7 s g).V k:=by
 show _=a2y s ((d6 s).getD k (0,false))
 rw [h];unfold a2y;simp only [hw]
theorem aL8 {s:f5} {g:List (Int × Rat)} {k:Nat} {b:Bool} {i:Nat} {w:x7} (h:(d6 s).getD k (0,false)=(i,b)) (hw:s.rows[i]? =some w):sgF b w.terms=(g7 s g).A k:=by
 funext j
 show _=a16 s ((d6 s).getD k (0,false)) j
 rw [h];unfold a16;simp only [hw];rfl
abbrev dF (m n j q:Nat):Blk:={ mode:=.live,elem:=256,size:=6,rows:=[[C.t (ti n),.own 1 0 m true,.own 2 0 n true,.own 3 0 m true,.own 4 0 j true,.own 5 0 q true]],box:=true }
abbrev b2M (m n j:Nat) (V G:Nat→Rat) (O:Nat→Nat) (fr:List (Nat × Bool)) (A:Nat→Nat→Rat) (X:Hp):Hp:=
 dF m n j fr.length::Y8 6 m n V::flB (rF n G)::T0 m O::T0 j (fun j=>j)::a0s fr::((mF m n A).map flB++X)
def fF1:Nat→Option Nat:=fun i=>if i=4 then none else if i<4 then some i else some (i - 1)
theorem b0o {m n:Nat} {V G:Nat→Rat} {O:Nat→Nat} {fr:List (Nat × Bool)} {A:Nat→Nat→Rat} {env env':Env} {H:Hp} (hm:fr.length=m) (hH:H=a4K n m V G O fr A []) (hE:Z2 (gR (m+6) fF1) H env env'):
 Ent 0 (gR (m+6) fF1) env H env' (b2M m n 0 V G O fr A []):=by
 subst hH
 refine aT6 (by simp [c8]) (fun i j x hi hj h1 h2=>by unfold fF1 at h1 h2;(repeat' split at h1)<;>(repeat' split at h2)<;>first|(cases h1;done)|(cases h2;done)|(injection h1 with h1;injection h2 with h2;omega)) ?_ hE
 intro i k' hk
 have fa:∀i,fF1 (i+6)=some (i+5):=fun i=>by unfold fF1;rw [if_neg (by omega),if_neg (by omega)];rfl
 rcases i with _|_|_|_|_|_|i
 ·injection hk with hk;subst hk
  exact .inr ⟨0,_,rfl,rfl,rfl,rfl,rfl,.inr ⟨⟨rfl,⟨by rw [a1S (by omega)];rfl,rfl,rfl,fun h=>h⟩,⟨by rw [a1S (by omega)];rfl,rfl,rfl,fun h=>h⟩,⟨by rw [a1S (by omega)];rfl,rfl,rfl,fun h=>h⟩,⟨by rw [a1S (by omega)];rfl,rfl,rfl⟩,⟨by rw [a1S (by omega)];rfl,rfl,hm.symm,fun h=>h⟩,trivial⟩,trivial⟩⟩
 ·injection hk with hk;subst hk
  refine .inr ⟨1,_,rfl,rfl,a0O (h:=fun i=>i+5) (h':=fun i=>i+6) fun j hj=>?_⟩
  rw [a1S (by omega),fa]
 ·injection hk with hk;subst hk;exact .inr ⟨2,_,rfl,rfl,i8 (g4 _)⟩
 ·injection hk with hk;subst hk;exact .inr ⟨3,_,rfl,rfl,i8 (g4 _)⟩
 ·injection hk with hk;subst hk;exact .inl ⟨rfl,rfl,rfl⟩
 ·injection hk with hk;subst hk;exact .inr ⟨4,_,rfl,rfl,i8 (g4 _)⟩
 ·have hk:((mF m n A).map flB++[])[i]? =some k':=hk
  have hi:i<m:=by have:=(lg1 hk).1;simpa [c8] using this
  rw [H4 (N1 hi)] at hk
  injection hk with hk;subst hk
  exact .inr ⟨i+5,_,fa i,H4 (N1 hi),i8 (g4 _)⟩
abbrev b9E (m n j:Nat) (V G:Nat→Rat) (O:Nat→Nat) (fr:List (Nat × Bool)) (A:Nat→Nat→Rat):Hp:=
 { mode:=.live,elem:=256,size:=6,rows:=[[C.t (ti n),.own 1 0 m true,.own 2 0 n true,.own 3 0 m true,.own (m+6) 0 (j+1) true,.own 5 0 fr.length true]],box:=true }::
   Y8 6 m n V::flB (rF n G)::T0 m O::a8J 3 1::a0s fr::((mF m n A).map flB++[T0 (j+1) (fun j=>j)])
def fF2 (m:Nat):Nat→Nat:=fun i=>if i=4 then m+6 else i
theorem b27 {m n j:Nat} {V G:Nat→Rat} {O:Nat→Nat} {fr:List (Nat × Bool)} {A:Nat→Nat→Rat} {env env':Env} {H:Hp} (hH:H=b9E m n j V G O fr A) (hE:Z2 (fR (m+6) (fF2 m)) H env env'):
 Ent 0 (fR (m+6) (fF2 m)) env H env' (b2M m n (j+1) V G O fr A []):=by
 subst hH
 have fa:∀i,i≠4→fF2 m i=i:=fun i hi=>by unfold fF2;rw [if_neg hi]
 refine aw1 (by simp [c8]) (by omega) (fun i hi=>by omega) (fun i j hi hj h=>by unfold fF2 at h;(repeat' split at h)<;>omega) ?_ hE
 intro i k' hk
 rcases i with _|_|_|_|_|_|i
 ·injection hk with hk;subst hk
  exact ⟨_,rfl,rfl,rfl,rfl,.inr ⟨⟨rfl,⟨by rw [w7 (by omega)];rfl,rfl,rfl,fun h=>h⟩,⟨by rw [w7 (by omega)];rfl,rfl,rfl,fun h=>h⟩,⟨by rw [w7 (by omega)];rfl,rfl,rfl,fun h=>h⟩,⟨by rw [w7 (by omega)];rfl,rfl,rfl,fun h=>h⟩,⟨by rw [w7 (by omega)];rfl,rfl,rfl,fun h=>h⟩,trivial⟩,trivial⟩⟩
 ·injection hk with hk;subst hk
  refine ⟨_,rfl,a0O (h:=fun i=>i+6) (h':=fun i=>i+6) fun j hj=>?_⟩
  rw [w7 (by omega),fa _ (by omega)]
 ·injection hk with hk;subst hk;exact ⟨_,rfl,i8 (g4 _)⟩
 ·injection hk with hk;subst hk;exact ⟨_,rfl,i8 (g4 _)⟩
 ·injection hk with hk;subst hk
  refine ⟨_,a0n (t:=0) (c8 _ _ _),i8 (g4 _)⟩
 ·injection hk with hk;subst hk;exact ⟨_,rfl,i8 (g4 _)⟩
 ·have hk:((mF m n A).map flB++[])[i]? =some k':=hk
  have hi:i<m:=by have:=(lg1 hk).1;simpa [c8] using this
  rw [H4 (N1 hi)] at hk
  injection hk with hk;subst hk
  rw [fa _ (by omega)]
  exact ⟨_,H4 (N1 hi),i8 (g4 _)⟩
set_option maxHeartbeats 4000000 in
theorem ad5 (s:f5) (g:List (Int × Rat)) (n:Nat) (h:b39 s g n):
 b9 Tryz.prog 199 [F0 s,j2 g] [] (.c (.ptr 0 0 0)) (T8 (d6 s).length n (d6 s) (g7 s g)):=by
 have m1:(s.rows.map s7).length=s.rows.length:=by simp
 have m2:(g.map k6).length=g.length:=by simp
 have z0:∀H:Hp,H.length=0→S4 Tryz.prog 254 [a9 .i64 s.n] H (.c (.own 0 0 n true)) [flB (rF n fun _=>0)]:=fun H hH=>by rw [h.en];exact W2 hH h.n1
 have hsl:=h.l
 have htg:=h.tg
 have hbg:=h.bg
 have hgl:=w6 htg
 have hn1:=h.n1
 have hen:=h.en
 have put0:∀(K i:Nat) (w:x7) (b:Bool) (F:List (Nat × Bool)) (bx:Blk),s.rows[i]? =some w→F.length=K→E8 bx.rows→K≤10000→i≤100000→
  b9 Tryz.prog 255 [.c (.ptr 0 0 0),a9 .i64 i,as2 w,e6 b] (a4K n K (g7 s g).V (fun _=>0) (fun i=>n+i) F (g7 s g).A [bx]) (.tup []) (aN7 n K (O3 b w.value) (sgF b w.terms) (g7 s g).V (fun _=>0) (fun i=>n+i) F (i,b) (g7 s g).A bx):=by
  intro K i w b F bx hw hF hbx hK hi
  have hn:=a2v h.r
  have hrw:=(a0e h.r hw).1
  rw [hn,h.en] at hrw
  have hl:=w6 hrw
  have hb:=h.b w (lg2 hw)
  exact b6X n K i w b _ _ F hF _ bx hbx h.n1 hK hi hrw (by have:=h.n1;omega) hb.2 hb.1
 (refine a8 a7 Tryz.func199 rfl (by decide) ?_;(conv=>whnf);repeat ((first|refine b0x ?_|refine zy ?_);conv=>whnf))
 repeat' first|(refine zd ?_ ?_<;>intro h<;>first|exact zc h|(exfalso;omega)|conv=>whnf)|((first|refine zz ?_|refine b0x ?_|refine .inl ⟨_,_,z0 _ rfl,?_⟩|refine zy ?_);conv=>whnf)
 refine at7 (fun i=>([J,j2 g,S.c (C.t (T.ptr (a78 s))),J,J,S.c (C.ptr 0 0 0),J,J,J,J,J,J,J,J,J,J,J,J,J,S.c (C.t (B2 s.rows)),a9 .i64 s.rows.length,a9 .i64 i,J,J,J,J,J,J,J,J,J,J,J,J,J,J,J,J,J,J,J,J,J,J,J,J,J,J,J,J,J,J,J,J,J,J,J,J,J,J,J,J,J,J,J,J,J,J,J,J,J,J,J,J,J],a4K n (I3 s i).length (g7 s g).V (fun _=>0) (fun i=>n+i) (I3 s i) (g7 s g).A [])) s.rows.length (fun _=>True) (gR 5 pF1) trivial ?_ ?_
 ·refine aT6 rfl (fun i j x hi hj h1 h2=>by unfold pF1 at h1 h2;(repeat' split at h1)<;>(repeat' split at h2)<;>first|(cases h1;done)|(cases h2;done)|(injection h1 with h1;injection h2 with h2;omega)) ?_ ?_
  ·intro i k' hk
   rcases i with _|_|_|_|_|i
   ·injection hk with hk;subst hk
    exact .inr ⟨1,_,rfl,rfl,rfl,rfl,rfl,.inr ⟨⟨a7d (by rw [h.en]),⟨rfl,rfl,rfl⟩,⟨rfl,rfl,rfl,fun h=>h⟩,⟨rfl,rfl,rfl⟩,rfl,⟨rfl,rfl,rfl⟩,trivial⟩,trivial⟩⟩
   ·injection hk with hk;subst hk;exact .inl ⟨rfl,rfl,rfl⟩
   ·injection hk with hk;subst hk;exact .inr ⟨0,_,rfl,rfl,i8 (g4 _)⟩
   ·injection hk with hk;subst hk;exact .inl ⟨rfl,rfl,rfl⟩
   ·injection hk with hk;subst hk;exact .inl ⟨rfl,rfl,rfl⟩
   ·simp [mF,I3] at hk
  ·exact ⟨rfl,j0 rfl,⟨rfl,rfl,rfl⟩,j0 rfl,c9 (by omega),c9 rfl,trivial⟩
 intro i hi _
 refine G2 a7 ?_
 conv=>whnf
 repeat' first|(refine zd ?_ ?_<;>intro h<;>first|exact zc h|(exfalso;omega)|conv=>whnf)|((first|refine zz ?_|refine j6 ?_|refine zy ?_);conv=>whnf)
 ·have hlt:i<s.rows.length:=by omega
  obtain ⟨w,hw⟩:∃w,s.rows[i]? =some w:=⟨_,lg0 hlt⟩
  obtain ⟨K,hK⟩:∃K,K=(I3 s i).length:=⟨_,rfl⟩
  rw [← hK]
  obtain ⟨K1,hK1⟩:∃K1,K1=(I3 s i++if w.kind≠0 then [(i,false)] else []).length:=⟨_,rfl⟩
  obtain ⟨F1,hF1⟩:∃F1,F1=(I3 s i++if w.kind≠0 then [(i,false)] else []):=⟨_,rfl⟩
  have hKb:K≤10000:=by have:=a3z (s:=s) i;omega
  refine G2 a7 ?_
  conv=>whnf
  refine a81 (a85 ?_)
  refine G2 a7 ?_
  conv=>whnf
  repeat' first|(refine zd ?_ ?_<;>intro h<;>first|exact zc h|(exfalso;omega)|conv=>whnf)|((first|refine zz ?_|refine d7 hw ?_|refine k5 (c8 _ _ _) ?_|refine j6 ?_|refine i5 (t:=0) (c8 _ _ _) ?_|refine i6 (t:=0) (c8 _ _ _) ?_|refine zy ?_);conv=>whnf)
  refine a0b a7 ([J,j2 g,S.c (C.t (T.ptr (a78 s))),J,J,S.c (C.ptr 0 0 0),a9 .i64 i,S.c (C.ptr (K1+5) 0 0),J,J,J,J,J,J,J,J,J,J,J,S.c (C.t (B2 s.rows)),a9 .i64 s.rows.length,a9 .i64 i,J,J,J,J,J,J,J,J,J,J,J,J,J,J,J,J,J,J,J,J,J,J,J,J,J,J,J,J,J,J,J,J,J,J,J,J,J,J,J,J,J,J,J,J,J,J,J,J,J,J,J,J,J]) (a4K n K1 (g7 s g).V (fun _=>0) (fun i=>n+i) F1 (g7 s g).A [rbx w]) ?_ ?_
  ·by_cases hk:w.kind=0
   ·have e1:F1=I3 s i:=by rw [hF1,if_neg (by simp [hk]),List.append_nil]
    have e2:K1=K:=by rw [hK1,if_neg (by simp [hk]),List.append_nil,hK]
    subst e1 e2
    conv=>whnf
    repeat' first|(refine zd ?_ ?_<;>intro h<;>first|exact zc h|(exfalso;omega)|conv=>whnf)|((first|refine zz ?_|refine k5 (c8 _ _ _) ?_|refine j6 ?_|refine i5 (t:=0) (c8 _ _ _) ?_|refine i6 (t:=0) (c8 _ _ _) ?_|refine zy ?_);conv=>whnf)
    all_goals first
     |(exfalso;omega)
     |exact ⟨idR (K1+6),U1 (X:=[rbx w]) (X':=[]) (a0r rfl rfl rfl rfl rfl rfl) rfl (Nat.zero_le _) (by intro b hb;simp at hb;subst hb;exact a2P (as9 w)) ⟨rfl,rfl,⟨n6 (by omega),rfl,rfl⟩,rfl,⟨n6 (by omega),rfl,rfl⟩,rfl,rfl,rfl,trivial⟩⟩
   ·have e1:F1=I3 s i++[(i,false)]:=by rw [hF1,if_pos hk]
    have e2:K1=K+1:=by rw [hK1,if_pos hk,List.length_append,←hK];rfl
    have hg:(d6 s).getD K (0,false)=(i,false):=by
     refine a9j (i:=i+1) (by omega) ?_
     rw [a7T hw,if_pos hk,List.append_assoc,List.getElem?_append_right (by omega),hK];simp
    subst e1 e2
    have pu:=put0 K i w false (I3 s i) (rbx w) hw hK.symm (as9 w) hKb (by omega)
    conv=>whnf
    repeat' first|(refine zd ?_ ?_<;>intro h<;>first|exact zc h|(exfalso;omega)|conv=>whnf)|((first|refine zz ?_|refine .inr ⟨_,_,pu,?_⟩|refine k5 (c8 _ _ _) ?_|refine j6 ?_|refine i5 (t:=0) (c8 _ _ _) ?_|refine i6 (t:=0) (c8 _ _ _) ?_|refine zy ?_);conv=>whnf)
    all_goals first
     |(exfalso;omega)
     |exact ⟨_,aF3 (as9 w) (aF8 hg hw) (aL8 hg hw) ⟨rfl,rfl,⟨by rw [w7 (by omega)];rfl,rfl,rfl⟩,rfl,⟨by rw [w7 (by omega),b2V],rfl,rfl⟩,rfl,rfl,rfl,trivial⟩⟩
  ·have hl1:F1.length=K1:=by rw [hF1,hK1]
   have eF:I3 s (i+1)=F1++if w.kind≠1 then [(i,true)] else []:=by rw [a7T hw,hF1]
   have hK1b:K1≤10000:=by
    have:=a3z (s:=s) i
    rw [hK1,List.length_append]
    split<;>simp<;>omega
   by_cases hk:w.kind=1
   ·have e1:I3 s (i+1)=F1:=by rw [eF,if_neg (by simp [hk]),List.append_nil]
    refine x4 a7 _ ?_
    conv=>whnf
    repeat' first|(refine zd ?_ ?_<;>intro h<;>first|exact zc h|(exfalso;omega)|conv=>whnf)|((first|refine zz ?_|refine k5 (c8 _ _ _) ?_|refine j6 ?_|refine i5 (t:=0) (c8 _ _ _) ?_|refine i6 (t:=0) (c8 _ _ _) ?_|refine zy ?_);conv=>whnf)
    all_goals try (exfalso;omega)
    refine x4 a7 _ ?_
    conv=>whnf
    repeat' first|(refine zd ?_ ?_<;>intro h<;>first|exact zc h|(exfalso;omega)|conv=>whnf)|((first|refine zz ?_|refine k5 (c8 _ _ _) ?_|refine j6 ?_|refine i5 (t:=0) (c8 _ _ _) ?_|refine i6 (t:=0) (c8 _ _ _) ?_|refine zy ?_);conv=>whnf)
    refine ⟨hlt,trivial,idR (K1+5),?_⟩
    rw [e1,hl1]
    exact U1 (X:=[]) (X':=[rbx w]) (a0r rfl rfl rfl rfl rfl rfl) rfl (Nat.zero_le _) (by simp) ⟨rfl,rfl,⟨n6 (by omega),rfl,rfl⟩,rfl,rfl,c9 (by omega),trivial⟩
   ·have e1:I3 s (i+1)=F1++[(i,true)]:=by rw [eF,if_pos hk]
    have hg:(d6 s).getD K1 (0,false)=(i,true):=by
     refine a9j (i:=i+1) (by omega) ?_
     rw [e1,List.getElem?_append_right (by omega),hl1];simp
    have pu:=put0 K1 i w true F1 (rbx w) hw hl1 (as9 w) hK1b (by omega)
    refine x4 a7 _ ?_
    conv=>whnf
    repeat' first|(refine zd ?_ ?_<;>intro h<;>first|exact zc h|(exfalso;omega)|conv=>whnf)|((first|refine zz ?_|refine .inr ⟨_,_,pu,?_⟩|refine k5 (c8 _ _ _) ?_|refine j6 ?_|refine i5 (t:=0) (c8 _ _ _) ?_|refine i6 (t:=0) (c8 _ _ _) ?_|refine zy ?_);conv=>whnf)
    all_goals try (exfalso;omega)
    refine b1f (env':=[J,j2 g,S.c (C.t (T.ptr (a78 s))),J,J,S.c (C.ptr 0 0 0),J,J,J,J,J,J,J,J,J,J,J,J,J,S.c (C.t (B2 s.rows)),a9 .i64 s.rows.length,a9 .i64 i,J,J,J,J,J,J,J,J,J,J,J,J,J,J,J,J,J,J,J,J,J,J,J,J,J,J,J,J,J,J,J,J,J,J,J,J,J,J,J,J,J,J,J,J,J,J,J,J,J,J,J,J,J]) _ (aF3 (as9 w) (aF8 hg hw) (aL8 hg hw) ⟨rfl,rfl,⟨by rw [w7 (by omega)];rfl,rfl,rfl⟩,rfl,rfl,rfl,trivial⟩) ?_
    refine x4 a7 _ ?_
    conv=>whnf
    repeat' first|(refine zd ?_ ?_<;>intro h<;>first|exact zc h|(exfalso;omega)|conv=>whnf)|((first|refine zz ?_|refine k5 (c8 _ _ _) ?_|refine j6 ?_|refine i5 (t:=0) (c8 _ _ _) ?_|refine i6 (t:=0) (c8 _ _ _) ?_|refine zy ?_);conv=>whnf)
    refine ⟨hlt,trivial,idR (K1+1+5),?_⟩
    rw [e1,show (F1++[(i,true)]).length=K1+1 by simp [hl1]]
    exact U1 (X:=[]) (X':=[rbx w]) (a0r rfl rfl rfl rfl rfl rfl) rfl (Nat.zero_le _) (by simp) ⟨rfl,rfl,⟨n6 (by omega),rfl,rfl⟩,rfl,rfl,c9 (by omega),trivial⟩
 ·have hie:i=s.rows.length:=by omega
  subst hie
  refine x4 a7 _ ?_
  conv=>whnf
  repeat' first|(refine zd ?_ ?_<;>intro h<;>first|exact zc h|(exfalso;omega)|conv=>whnf)|((first|refine zz ?_|refine k5 (c8 _ _ _) ?_|refine j6 ?_|refine i5 (t:=0) (c8 _ _ _) ?_|refine i6 (t:=0) (c8 _ _ _) ?_|refine zy ?_);conv=>whnf)
  all_goals try (exfalso;omega)
  refine f6 a7 (fun q=>([J,J,S.c (C.t (T.ptr (a78 s))),J,J,S.c (C.ptr 0 0 0),J,J,J,J,J,J,J,J,J,J,J,J,J,J,J,J,J,J,J,J,J,J,J,J,J,J,J,J,J,J,J,J,J,J,J,j2 g,a9 .i64 g.length,a9 .i64 q,J,J,J,J,J,J,J,J,J,J,J,J,J,J,J,J,J,J,J,J,J,J,J,J,J,J,J,J,J,J,J],a4K n (d6 s).length (g7 s g).V (fun j=>-(G6 g q j)) (fun i=>n+i) (d6 s) (g7 s g).A [])) g.length (fun _=>True) (idR ((d6 s).length+5)) trivial ?_ ?_
  ·refine U1 (X:=[]) (X':=[]) (a0r rfl rfl ?_ rfl rfl rfl) rfl (Nat.zero_le _) (by simp) ⟨j0 rfl,⟨n6 (by omega),rfl,rfl⟩,j0 rfl,c9 (by omega),c9 rfl,trivial⟩
   rw [z7 (g:=fun _=>0) (h:=fun j=>-(G6 g 0 j)) fun j hj=>by show (0:Rat)=-0;decide]
  intro q hq _
  by_cases hlt:q<g.length
  ·obtain ⟨t,ht⟩:∃t,g[q]? =some t:=⟨_,lg0 hlt⟩
   obtain ⟨t0,t1,t2⟩:=s9 htg t (lg2 ht)
   have nt:=a4p t.2 (hbg t (lg2 ht))
   have gp:(rF n (fun j=>-(G6 g q j)))[0+t.1.toNat]? =some (fz (-(G6 g q t.1.toNat))):=by rw [Nat.zero_add,E3 (by omega)]
   have eV:0+t.1.toNat=t.1.toNat:=by omega
   have e:z9 (flB (rF n (fun j=>-(G6 g q j)))) ((flB (rF n (fun j=>-(G6 g q j)))).rows.set (0+t.1.toNat) (frC (fz (-t.2))))=flB (rF n (fun j=>-(G6 g (q+1) j))):=by
    have e1:=H5 (row:=rF n (fun j=>-(G6 g q j))) (y:=fz (-t.2)) eV
    rw [R8 (by omega)] at e1
    refine e1.trans ?_
    rw [E5 ht]
    refine congrArg flB ?_
    exact z7 fun j hj=>by show (if j=t.1.toNat then -t.2 else -(G6 g q j))=-(if j=t.1.toNat then t.2 else G6 g q j);split<;>rfl
   conv=>whnf
   repeat' first|(refine zd ?_ ?_<;>intro h<;>first|exact zc h|(exfalso;omega)|conv=>whnf)|((first|refine zz ?_|refine qp nt ?_|refine d7 ht ?_|refine o6 gp ?_|refine k5 (c8 _ _ _) ?_|refine j6 ?_|refine i5 (t:=0) (c8 _ _ _) ?_|refine i6 (t:=0) (c8 _ _ _) ?_|refine zy ?_);conv=>whnf)
   all_goals first
    |(exfalso;omega)
    |exact ⟨hlt,trivial,idR ((d6 s).length+5),U1 (X:=[]) (X':=[_]) (a0r rfl rfl e rfl rfl rfl) rfl (Nat.zero_le _) (by simp) ⟨rfl,⟨n6 (by omega),rfl,rfl⟩,rfl,rfl,c9 (by omega),trivial⟩⟩
  ·have hqe:q=g.length:=by omega
   subst hqe
   conv=>whnf
   repeat' first|(refine zd ?_ ?_<;>intro h<;>first|exact zc h|(exfalso;omega)|conv=>whnf)|((first|refine zz ?_|refine k5 (c8 _ _ _) ?_|refine j6 ?_|refine i5 (t:=0) (c8 _ _ _) ?_|refine i6 (t:=0) (c8 _ _ _) ?_|refine zy ?_);conv=>whnf)
   all_goals try (exfalso;omega)
   refine f6 a7 (fun q=>([J,J,J,J,J,S.c (C.ptr 0 0 0),J,J,J,J,J,J,J,J,J,J,J,J,J,J,J,J,J,J,J,J,J,J,J,J,J,J,J,J,J,J,J,J,J,J,J,J,J,J,J,J,J,J,J,J,J,J,J,J,J,J,J,J,J,a9 .i64 n,a9 .i64 q,J,J,J,J,J,J,J,J,J,J,J,J,J,J],b2M (d6 s).length n q (g7 s g).V (g7 s g).G (fun i=>n+i) (d6 s) (g7 s g).A [])) n (fun _=>True) (gR ((d6 s).length+6) fF1) trivial ?_ ?_
   ·exact b0o rfl rfl ⟨⟨by rw [a1S (by omega)];rfl,rfl,rfl⟩,c9 hen,c9 rfl,trivial⟩
   intro q hq _
   by_cases hlt:q<n
   ·conv=>whnf
    repeat' first|(refine zd ?_ ?_<;>intro h<;>first|exact zc h|(exfalso;omega)|conv=>whnf)|((first|refine zz ?_|refine qp (toC,v4) ?_|refine qp (toC,v4) ?_|refine qp 0 ?_|refine t9 (by simp [toC,v4]) (by simp [toC,v4];omega) ?_|refine bl0 [0] ?_|refine k5 (c8 _ _ _) ?_|refine j6 ?_|refine i5 (t:=0) (c8 _ _ _) ?_|refine i6 (t:=0) (c8 _ _ _) ?_|refine zy ?_);conv=>whnf)
    all_goals first
     |(exfalso;omega)
     |(refine ⟨hlt,trivial,fR ((d6 s).length+6) (fF2 (d6 s).length),b27 (b25 rfl rfl rfl rfl rfl rfl (congrArg (fun z=>(mF (d6 s).length n (g7 s g).A).map flB++[z]) ?_)) ⟨⟨by rw [w7 (by omega)];rfl,rfl,rfl⟩,rfl,c9 (by omega),trivial⟩⟩
       exact congrArg (fun z=>({ mode:=.live,elem:=3,size:=1,rows:=z,box:=false }:Blk)) (a6m (O:=fun j=>j) (x:=(q:Int)) rfl))
   ·have hqe:q=n:=by omega
    subst hqe
    conv=>whnf
    repeat' first|(refine zd ?_ ?_<;>intro h<;>first|exact zc h|(exfalso;omega)|conv=>whnf)|((first|refine zz ?_|refine k5 (c8 _ _ _) ?_|refine j6 ?_|refine i5 (t:=0) (c8 _ _ _) ?_|refine i6 (t:=0) (c8 _ _ _) ?_|refine zy ?_);conv=>whnf)
    all_goals try (exfalso;omega)
    refine ab9 (n:=(d6 s).length+6) a1C (Nat.zero_le _) a5D (fun i _=>?_) ⟨n6 (by omega),rfl,rfl⟩
    have e0:T8 (d6 s).length q (d6 s) (g7 s g)=b2M (d6 s).length q q (g7 s g).V (g7 s g).G (fun i=>q+i) (d6 s) (g7 s g).A []:=by
     have eO:(g7 s g).O=fun i=>q+i:=by funext i;show s.n.toNat+i=_;rw [hen];rfl
     show _::_::_::T0 _ (g7 s g).O::_::_::_=_::_::_::_::_::_::(_++[])
     rw [List.append_nil,eO];rfl
    rw [e0]
end
section
open Go.RowKit
def ptK (n:Nat) (O:Nat→Nat) (v x0:Nat→Rat):Nat→Nat→Rat
 |0=>x0
 |k+1=>fun j=>if O k<n∧j=O k then v k else ptK n O v x0 k j
theorem L5 {n:Nat} {O:Nat→Nat} {v x0:Nat→Rat} {k:Nat}:ptK n O v x0 (k+1)=fun j=>if O k<n∧j=O k then v k else ptK n O v x0 k j:=rfl
theorem a8z {n:Nat} {O:Nat→Nat} {v x0:Nat→Rat} {j:Nat}:∀{k:Nat},(∀ i,i<k→O i≠j)→ptK n O v x0 k j=x0 j
 |0,_=>rfl
 |k+1,h=>by rw [L5];simp only;rw [if_neg (fun e=>h k (by omega) e.2.symm),a8z fun i hi=>h i (by omega)]
theorem a8i {n:Nat} {O:Nat→Nat} {v x0:Nat→Rat} {i:Nat}:∀{k:Nat},i<k→O i<n→(∀ a,a<k→O a=O i→a=i)→ptK n O v x0 k (O i)=v i
 |0,h,_,_=>by omega
 |k+1,h,hn,hu=>by
  rw [L5];simp only
  by_cases he:O k=O i
  ·have:=hu k (by omega) he
   subst this
   rw [if_pos ⟨hn,rfl⟩]
  ·rw [if_neg (fun e=>he e.2.symm)]
   have:i≠k:=fun e=>he (by rw [e])
   exact a8i (by omega) hn fun a ha=>hu a (by omega)
theorem aA7 {m n:Nat} {D:Fd} (hP:O8 m n D) {j:Nat} (hj:j<n):ptK n D.O D.V (fun _=>0) m j=D8 m n D 1 (fun _=>0) j:=by
 rcases hP.all j (by omega) with ⟨i,hi,rfl⟩|⟨q,hq,rfl⟩
 ·rw [a8i hi hj fun a ha he=>hP.oi a i ha hi he,a2x hP hi,u6 fun j _=>by grind];grind
 ·rw [a8z fun i hi=>hP.of i q hi hq,U9 hP hq]
theorem ah1 {m n c:Nat} {D:Fd} (hP:O8 m n D) (hc:c<n) {j:Nat} (hj:j<n):ptK n D.O (fun i=>-(D.A i c)) (fun j=>if D.F c<n∧j=D.F c then 1 else 0) m j=D8 m n D 0 (fun q=>if q=c then 1 else 0) j:=by
 rcases hP.all j (by omega) with ⟨i,hi,rfl⟩|⟨q,hq,rfl⟩
 ·rw [a8i hi hj fun a ha he=>hP.oi a i ha hi he,a2x hP hi,f7 (g:=fun q=>(if c=q then (1:Rat) else 0)*D.A i q) fun q _=>by
   by_cases h:q=c
   ·subst h;simp only [if_true];grind
   ·rw [if_neg h,if_neg (fun e=>h e.symm)];grind,a34 hc]
  grind
 ·rw [a8z fun i hi=>hP.of i q hi hq,U9 hP hq]
  by_cases h:q=c
  ·subst h;rw [if_pos rfl,if_pos ⟨hj,rfl⟩]
  ·rw [if_neg h,if_neg (fun e=>h (hP.fi q c hq hc e.2))]
theorem a4k (n:Nat) (y:Nat→Rat):(zOf n y).map fz=rF n y:=by unfold zOf rF;rw [List.map_map];rfl
abbrev dT (m n:Nat) (fr:List (Nat × Bool)) (D:Fd):S:=.c (.t (.ptr (b1u m n fr D)))
set_option maxHeartbeats 2000000 in
theorem b0B (m n:Nat) (fr:List (Nat × Bool)) (D:Fd) (hP:O8 m n D) (hm:m≤100000) (hn:n≤1000):b9 Tryz.prog 201 [dT m n fr D] [] (k7 ((zOf n (D8 m n D 1 (fun _=>0))).map fz)) []:=by
 have m1:(Z0 m D.O).length=m:=v4 _ _
 have z0:∀H:Hp,H.length=0→S4 Tryz.prog 254 [a9 .i64 n] H (.c (.own 0 0 n true)) [flB (rF n fun _=>0)]:=fun H hH=>W2 hH hn
 rw [a4k,←z7 (g:=ptK n D.O D.V (fun _=>0) m) fun j hj=>aA7 hP hj]
 (refine a8 a7 Tryz.func201 rfl (by decide) ?_;(conv=>whnf);repeat ((first|refine b0x ?_|refine zy ?_);conv=>whnf))
 repeat' first|(refine zd ?_ ?_<;>intro h<;>first|exact zc h|(exfalso;omega)|conv=>whnf)|((first|refine zz ?_|refine .inl ⟨_,_,z0 _ rfl,?_⟩|refine zy ?_);conv=>whnf)
 refine f6 a7 (fun k=>([dT m n fr D,J,J,S.c (C.own 0 0 n true),J,J,J,J,J,J,J,J,J,J,a4t m D.O,a9 .i64 m,a9 .i64 k,J,J,J,J,J,J,J,J,J,J,J,J,J,J,J,J,J,J,J,J,J,J,J],[flB (rF n (ptK n D.O D.V (fun _=>0) k))])) m (fun _=>True) [some 0] trivial
  ⟨rfl,rfl,⟨i8 (g4 _),trivial⟩,⟨j0 rfl,⟨rfl,rfl,rfl,fun h=>h⟩,j0 rfl,c9 (by omega),c9 rfl,trivial⟩⟩ ?_
 intro k hk _
 by_cases hlt:k<m
 ·by_cases ho:D.O k<n
  ·have gp:(rF n (ptK n D.O D.V (fun _=>0) k))[0+((D.O k:Nat):Int).toNat]? =some (fz (ptK n D.O D.V (fun _=>0) k (D.O k))):=by rw [show 0+((D.O k:Nat):Int).toNat=D.O k by omega,E3 ho]
   have e:z9 (flB (rF n (ptK n D.O D.V (fun _=>0) k))) ((flB (rF n (ptK n D.O D.V (fun _=>0) k))).rows.set (0+((D.O k:Nat):Int).toNat) (frC (fz (D.V k))))=flB (rF n (ptK n D.O D.V (fun _=>0) (k+1))):=by
    rw [H5 (show 0+((D.O k:Nat):Int).toNat=D.O k by omega),R8 ho,L5]
    refine congrArg flB (z7 fun j hj=>?_)
    simp only [ho,true_and]
   conv=>whnf
   repeat' first|(refine zd ?_ ?_<;>intro h<;>first|exact zc h|(exfalso;omega)|conv=>whnf)|((first|refine zz ?_|refine B4 rfl hlt ?_|refine Y6 rfl hlt ?_|refine o6 gp ?_|refine zy ?_);conv=>whnf)
   all_goals first
    |(exfalso;omega)
    |exact ⟨hlt,trivial,[some 0],rfl,rfl,⟨⟨rfl,rfl,rfl,.inl ⟨congrArg Blk.rows e,(congrArg Blk.rows e) ▸ g4 _⟩⟩,trivial⟩,⟨rfl,⟨rfl,rfl,rfl,fun h=>h⟩,rfl,rfl,c9 (by omega),trivial⟩⟩
  ·have e:ptK n D.O D.V (fun _=>0) (k+1)=ptK n D.O D.V (fun _=>0) k:=by rw [L5];funext j;rw [if_neg (fun h=>ho h.1)]
   conv=>whnf
   repeat' first|(refine zd ?_ ?_<;>intro h<;>first|exact zc h|(exfalso;omega)|conv=>whnf)|((first|refine zz ?_|refine B4 rfl hlt ?_|refine zy ?_);conv=>whnf)
   all_goals first
    |(exfalso;omega)
    |exact ⟨hlt,trivial,[some 0],rfl,rfl,⟨b8 (rows:=(rF n (ptK n D.O D.V (fun _=>0) k)).map j7) rfl rfl rfl rfl (by rw [e]),trivial⟩,⟨rfl,⟨rfl,rfl,rfl,fun h=>h⟩,rfl,rfl,c9 (by omega),trivial⟩⟩
 ·have hke:k=m:=by omega
  subst hke
  conv=>whnf
  repeat' first|(refine zd ?_ ?_<;>intro h<;>first|exact zc h|(exfalso;omega)|conv=>whnf)|((first|refine zz ?_|refine zy ?_);conv=>whnf)
  all_goals first
   |(exfalso;omega)
   |exact N4 rfl (fun h=>h) rfl rfl (by simp [L0])
set_option maxHeartbeats 2000000 in
theorem b3C (m n:Nat) (fr:List (Nat × Bool)) (D:Fd) (c:Nat) (hc:c<n) (hP:O8 m n D) (hm:m≤100000) (hn:n≤1000) (hB:∀i,i<m→rl (D.A i c)≤60000):
 b9 Tryz.prog 202 [dT m n fr D,a9 .i64 c] [] (k7 ((zOf n (D8 m n D 0 (fun q=>if q=c then 1 else 0))).map fz)) []:=by
 have m1:(Z0 m D.O).length=m:=v4 _ _
 have z0:∀H:Hp,H.length=0→S4 Tryz.prog 254 [a9 .i64 n] H (.c (.own 0 0 n true)) [flB (rF n fun _=>0)]:=fun H hH=>W2 hH hn
 have i1:=E4 1 (by decide) (by decide)
 obtain ⟨x0,hx0⟩:∃x0:Nat→Rat,x0=fun j=>if D.F c<n∧j=D.F c then 1 else 0:=⟨_,rfl⟩
 rw [a4k,←z7 (g:=ptK n D.O (fun i=>-(D.A i c)) x0 m) fun j hj=>by rw [hx0];exact ah1 hP hc hj]
 by_cases hf:D.F c<n
 ·have gp0:(rF n (fun _=>(0:Rat)))[0+((D.F c:Nat):Int).toNat]? =some (fz 0):=by rw [show 0+((D.F c:Nat):Int).toNat=D.F c by omega,E3 hf]
  have e0:z9 (flB (rF n (fun _=>(0:Rat)))) ((flB (rF n (fun _=>(0:Rat)))).rows.set (0+((D.F c:Nat):Int).toNat) (frC (fz ((1:Int):Rat))))=flB (rF n x0):=by
   rw [H5 (show 0+((D.F c:Nat):Int).toNat=D.F c by omega),R8 hf,hx0]
   refine congrArg flB (z7 fun j hj=>?_)
   simp only [hf,true_and];rfl
  (refine a8 a7 Tryz.func202 rfl (by decide) ?_;(conv=>whnf);repeat ((first|refine b0x ?_|refine zy ?_);conv=>whnf))
  repeat' first|(refine zd ?_ ?_<;>intro h<;>first|exact zc h|(exfalso;omega)|conv=>whnf)|((first|refine zz ?_|refine qp i1 ?_|refine .inl ⟨_,_,z0 _ rfl,?_⟩|refine B4 rfl hc ?_|refine o6 gp0 ?_|refine zy ?_);conv=>whnf)
  all_goals try (exfalso;omega)
  refine f6 a7 (fun k=>([dT m n fr D,a9 .i64 c,J,J,J,S.c (C.own 0 0 n true),J,J,J,J,J,J,J,J,J,J,J,J,J,J,J,J,J,J,J,J,J,J,J,J,J,J,J,J,a4t m D.O,a9 .i64 m,a9 .i64 k,J,J,J,J,J,J,J,J,J,J,J,J,J,J,J,J,J,J,J,J,J,J,J,J,J,J,J],[flB (rF n (ptK n D.O (fun i=>-(D.A i c)) x0 k))])) m (fun _=>True) [some 0] trivial
   ⟨rfl,rfl,⟨⟨rfl,rfl,rfl,.inl ⟨congrArg Blk.rows e0,(congrArg Blk.rows e0) ▸ g4 _⟩⟩,trivial⟩,⟨j0 rfl,c9 rfl,⟨rfl,rfl,rfl,fun h=>h⟩,j0 rfl,c9 (by omega),c9 rfl,trivial⟩⟩ ?_
  intro k hk _
  by_cases hlt:k<m
  ·have ng:=a4p (D.A k c) (hB k hlt)
   by_cases ho:D.O k<n
   ·have gp:(rF n (ptK n D.O (fun i=>-(D.A i c)) x0 k))[0+((D.O k:Nat):Int).toNat]? =some (fz (ptK n D.O (fun i=>-(D.A i c)) x0 k (D.O k))):=by rw [show 0+((D.O k:Nat):Int).toNat=D.O k by omega,E3 ho]
    have e:z9 (flB (rF n (ptK n D.O (fun i=>-(D.A i c)) x0 k))) ((flB (rF n (ptK n D.O (fun i=>-(D.A i c)) x0 k))).rows.set (0+((D.O k:Nat):Int).toNat) (frC (fz (-(D.A k c)))))=flB (rF n (ptK n D.O (fun i=>-(D.A i c)) x0 (k+1))):=by
     rw [H5 (show 0+((D.O k:Nat):Int).toNat=D.O k by omega),R8 ho,L5]
     refine congrArg flB (z7 fun j hj=>?_)
     simp only [ho,true_and]
    conv=>whnf
    repeat' first|(refine zd ?_ ?_<;>intro h<;>first|exact zc h|(exfalso;omega)|conv=>whnf)|((first|refine zz ?_|refine qp ng ?_|refine B4 rfl hlt ?_|refine Y6 rfl hlt ?_|refine a1U rfl hc ?_|refine o6 gp ?_|refine zy ?_);conv=>whnf)
    all_goals first
     |(exfalso;omega)
     |exact ⟨hlt,trivial,[some 0],rfl,rfl,⟨⟨rfl,rfl,rfl,.inl ⟨congrArg Blk.rows e,(congrArg Blk.rows e) ▸ g4 _⟩⟩,trivial⟩,⟨rfl,rfl,⟨rfl,rfl,rfl,fun h=>h⟩,rfl,rfl,c9 (by omega),trivial⟩⟩
   ·have e:ptK n D.O (fun i=>-(D.A i c)) x0 (k+1)=ptK n D.O (fun i=>-(D.A i c)) x0 k:=by rw [L5];funext j;rw [if_neg (fun h=>ho h.1)]
    conv=>whnf
    repeat' first|(refine zd ?_ ?_<;>intro h<;>first|exact zc h|(exfalso;omega)|conv=>whnf)|((first|refine zz ?_|refine B4 rfl hlt ?_|refine zy ?_);conv=>whnf)
    all_goals first
     |(exfalso;omega)
     |exact ⟨hlt,trivial,[some 0],rfl,rfl,⟨b8 (rows:=(rF n (ptK n D.O (fun i=>-(D.A i c)) x0 k)).map j7) rfl rfl rfl rfl (by rw [e]),trivial⟩,⟨rfl,rfl,⟨rfl,rfl,rfl,fun h=>h⟩,rfl,rfl,c9 (by omega),trivial⟩⟩
  ·have hke:k=m:=by omega
   subst hke
   conv=>whnf
   repeat' first|(refine zd ?_ ?_<;>intro h<;>first|exact zc h|(exfalso;omega)|conv=>whnf)|((first|refine zz ?_|refine zy ?_);conv=>whnf)
   all_goals first
    |(exfalso;omega)
    |exact N4 rfl (fun h=>h) rfl rfl (by simp [L0])
 ·have e0:x0=fun _=>0:=by rw [hx0];funext j;rw [if_neg (fun h=>hf h.1)]
  (refine a8 a7 Tryz.func202 rfl (by decide) ?_;(conv=>whnf);repeat ((first|refine b0x ?_|refine zy ?_);conv=>whnf))
  repeat' first|(refine zd ?_ ?_<;>intro h<;>first|exact zc h|(exfalso;omega)|conv=>whnf)|((first|refine zz ?_|refine qp i1 ?_|refine .inl ⟨_,_,z0 _ rfl,?_⟩|refine B4 rfl hc ?_|refine zy ?_);conv=>whnf)
  all_goals try (exfalso;omega)
  refine f6 a7 (fun k=>([dT m n fr D,a9 .i64 c,J,J,J,S.c (C.own 0 0 n true),J,J,J,J,J,J,J,J,J,J,J,J,J,J,J,J,J,J,J,J,J,J,J,J,J,J,J,J,a4t m D.O,a9 .i64 m,a9 .i64 k,J,J,J,J,J,J,J,J,J,J,J,J,J,J,J,J,J,J,J,J,J,J,J,J,J,J,J],[flB (rF n (ptK n D.O (fun i=>-(D.A i c)) x0 k))])) m (fun _=>True) [some 0] trivial
   ⟨rfl,rfl,⟨b8 (rows:=(rF n (fun _=>0)).map j7) rfl rfl rfl rfl (by rw [e0];rfl),trivial⟩,⟨j0 rfl,c9 rfl,⟨rfl,rfl,rfl,fun h=>h⟩,j0 rfl,c9 (by omega),c9 rfl,trivial⟩⟩ ?_
  intro k hk _
  by_cases hlt:k<m
  ·have ng:=a4p (D.A k c) (hB k hlt)
   by_cases ho:D.O k<n
   ·have gp:(rF n (ptK n D.O (fun i=>-(D.A i c)) x0 k))[0+((D.O k:Nat):Int).toNat]? =some (fz (ptK n D.O (fun i=>-(D.A i c)) x0 k (D.O k))):=by rw [show 0+((D.O k:Nat):Int).toNat=D.O k by omega,E3 ho]
    have e:z9 (flB (rF n (ptK n D.O (fun i=>-(D.A i c)) x0 k))) ((flB (rF n (ptK n D.O (fun i=>-(D.A i c)) x0 k))).rows.set (0+((D.O k:Nat):Int).toNat) (frC (fz (-(D.A k c)))))=flB (rF n (ptK n D.O (fun i=>-(D.A i c)) x0 (k+1))):=by
     rw [H5 (show 0+((D.O k:Nat):Int).toNat=D.O k by omega),R8 ho,L5]
     refine congrArg flB (z7 fun j hj=>?_)
     simp only [ho,true_and]
    conv=>whnf
    repeat' first|(refine zd ?_ ?_<;>intro h<;>first|exact zc h|(exfalso;omega)|conv=>whnf)|((first|refine zz ?_|refine qp ng ?_|refine B4 rfl hlt ?_|refine Y6 rfl hlt ?_|refine a1U rfl hc ?_|refine o6 gp ?_|refine zy ?_);conv=>whnf)
    all_goals first
     |(exfalso;omega)
     |exact ⟨hlt,trivial,[some 0],rfl,rfl,⟨⟨rfl,rfl,rfl,.inl ⟨congrArg Blk.rows e,(congrArg Blk.rows e) ▸ g4 _⟩⟩,trivial⟩,⟨rfl,rfl,⟨rfl,rfl,rfl,fun h=>h⟩,rfl,rfl,c9 (by omega),trivial⟩⟩
   ·have e:ptK n D.O (fun i=>-(D.A i c)) x0 (k+1)=ptK n D.O (fun i=>-(D.A i c)) x0 k:=by rw [L5];funext j;rw [if_neg (fun h=>ho h.1)]
    conv=>whnf
    repeat' first|(refine zd ?_ ?_<;>intro h<;>first|exact zc h|(exfalso;omega)|conv=>whnf)|((first|refine zz ?_|refine B4 rfl hlt ?_|refine zy ?_);conv=>whnf)
    all_goals first
     |(exfalso;omega)
     |exact ⟨hlt,trivial,[some 0],rfl,rfl,⟨b8 (rows:=(rF n (ptK n D.O (fun i=>-(D.A i c)) x0 k)).map j7) rfl rfl rfl rfl (by rw [e]),trivial⟩,⟨rfl,rfl,⟨rfl,rfl,rfl,fun h=>h⟩,rfl,rfl,c9 (by omega),trivial⟩⟩
  ·have hke:k=m:=by omega
   subst hke
   conv=>whnf
   repeat' first|(refine zd ?_ ?_<;>intro h<;>first|exact zc h|(exfalso;omega)|conv=>whnf)|((first|refine zz ?_|refine zy ?_);conv=>whnf)
   all_goals first
    |(exfalso;omega)
    |exact N4 rfl (fun h=>h) rfl rfl (by simp [L0])
end
section
open Go.RowKit
def a5e (y:Nat→Rat) (r:Nat) (p:Rat):Nat→Rat:=fun i=>if i=r then y i+p else y i
theorem b4D (b:Bool) (p:Rat):rl (O3 b p)=rl p:=by cases b;rfl;exact M9 p
set_option maxHeartbeats 2000000 in
theorem a57 (m n:Nat) (fr:List (Nat × Bool)) (D:Fd) (R:Nat) (y:Nat→Rat) (k row:Nat) (b:Bool) (p:Rat) (hk:fr[k]? =some (row,b)) (hr:row<R) (hp:rl p≤50000) (hy:rl (y row)≤50000):
 b9 Tryz.prog 263 [dT m n fr D,.c (.own 0 0 R true),a9 .i64 k,frS (fz p)] [flB (rF R y)] (.tup []) [flB (rF R (a5e y row (-(O3 b p))))]:=by
 have m1:(V5 fr).length=fr.length:=by simp [V5]
 have eR:0+(row:Int).toNat=row:=by omega
 have gp:(rF R y)[0+(row:Int).toNat]? =some (fz (y row)):=by rw [eR,E3 hr]
 have ng:=a4p p (by omega)
 cases b with
 |true=>
  have ad:=a2M (y row) p (by omega) (by omega)
  have e:z9 (flB (rF R y)) ((flB (rF R y)).rows.set (0+(row:Int).toNat) (frC (fz (y row+p))))=flB (rF R (a5e y row (-(O3 true p)))):=by
   rw [H5 eR,R8 hr]
   refine congrArg flB (z7 fun j hj=>?_)
   show (if j=row then y row+p else y j)=if j=row then y j+- -p else y j
   by_cases h:j=row
   ·subst h;rw [if_pos rfl,if_pos rfl,Rat.neg_neg]
   ·rw [if_neg h,if_neg h]
  (refine a8 a7 Tryz.func263 rfl (by decide) ?_;(conv=>whnf);repeat (refine zy ?_;conv=>whnf))
  repeat' first|(refine zd ?_ ?_<;>intro h<;>first|exact zc h|(exfalso;omega)|conv=>whnf)|((first|refine zz ?_|refine qp ng ?_|refine qp ad ?_|refine qp 12 ?_|refine d7 hk ?_|refine o6 gp ?_|refine bl0 [12] ?_|refine zy ?_);conv=>whnf)
  all_goals first
   |(exfalso;omega)
   |(exfalso;simp_all;done)
   |exact ⟨[some 0],rfl,rfl,⟨⟨rfl,rfl,rfl,.inl ⟨congrArg Blk.rows e,(congrArg Blk.rows e) ▸ g4 _⟩⟩,trivial⟩,trivial⟩
 |false=>
  have ad:=a2M (y row) (-p) (by omega) (by rw [M9];omega)
  have e:z9 (flB (rF R y)) ((flB (rF R y)).rows.set (0+(row:Int).toNat) (frC (fz (y row+-p))))=flB (rF R (a5e y row (-(O3 false p)))):=by
   rw [H5 eR,R8 hr]
   refine congrArg flB (z7 fun j hj=>?_)
   show (if j=row then y row+-p else y j)=if j=row then y j+-p else y j
   by_cases h:j=row
   ·subst h;rfl
   ·rw [if_neg h,if_neg h]
  (refine a8 a7 Tryz.func263 rfl (by decide) ?_;(conv=>whnf);repeat (refine zy ?_;conv=>whnf))
  repeat' first|(refine zd ?_ ?_<;>intro h<;>first|exact zc h|(exfalso;omega)|conv=>whnf)|((first|refine zz ?_|refine qp ng ?_|refine qp ad ?_|refine qp 12 ?_|refine d7 hk ?_|refine o6 gp ?_|refine bl0 [12] ?_|refine zy ?_);conv=>whnf)
  all_goals first
   |(exfalso;omega)
   |(exfalso;simp_all;done)
   |exact ⟨[some 0],rfl,rfl,⟨⟨rfl,rfl,rfl,.inl ⟨congrArg Blk.rows e,(congrArg Blk.rows e) ▸ g4 _⟩⟩,trivial⟩,trivial⟩
def yK (z:Nat→Rat) (f:Nat→Nat→Rat) (k:Nat):Nat→Rat:=fun i=>z i+g8 (fun j=>f j i) k
theorem a3T {z:Nat→Rat} {f:Nat→Nat→Rat} {k:Nat}:yK z f (k+1)=fun i=>yK z f k i+f k i:=by
 funext i;unfold yK;simp only [g8];grind
theorem a3H {f:Nat→Rat} {B:Nat}:∀k:Nat,(∀ j,j<k→rl (f j)≤B)→rl (g8 f k)≤k*(B+1)+1
 |0,_=>by
  have h0:=rl0
  have e:g8 f 0=0:=by simp only [g8,Q4]
  rw [e];omega
 |k+1,h=>by
  have h1:=a3H k fun j hj=>h j (by omega)
  have h2:=h k (by omega)
  have h3:=Z5 (g8 f k) (f k)
  simp only [g8]
  rw [Nat.succ_mul]
  omega
theorem ag6 {s:f5} {w i B:Nat} {p:Rat} (h:rl p≤B) (hB:1≤B):rl (chg s w p i)≤B:=by
 unfold chg
 split
 ·rw [M9,b4D];exact h
 ·have:=rl0;omega
theorem a7w {s:f5} {w:Nat} {p:Rat} (h:w<s.n.toNat):chg s w p=fun _=>0:=by
 funext i;unfold chg;rw [if_neg (fun e=>by omega)]
theorem af1 {s:f5} {w k row:Nat} {b:Bool} {p:Rat} (hw:w=s.n.toNat+k) (hf:(d6 s)[k]? =some (row,b)) (y:Nat→Rat):a5e y row (-(O3 b p))=fun i=>y i+chg s w p i:=by
 funext i
 have e:z5 s (w - s.n.toNat)=(row,b):=by unfold z5;rw [show w - s.n.toNat=k by omega,lg3,hf];rfl
 unfold a5e chg
 rw [e]
 by_cases h:i=row
 ·subst h;rw [if_pos rfl,if_pos ⟨by omega,rfl⟩]
 ·rw [if_neg h,if_neg (fun e=>h e.2.symm)];grind
theorem a51 {s:f5} {k:Nat} {f:Nat × Bool} (h:(d6 s)[k]? =some f):f.1<s.rows.length:=by
 obtain ⟨w,hw,_⟩:=V8.1 (lg2 h)
 exact (lg1 hw).1
set_option maxHeartbeats 2000000 in
theorem aY9 (s:f5) (n:Nat) (hn:s.n=n) (E:Fd) (hP:O8 (d6 s).length n E) (B:Nat) (hB:∀j,j<n→rl (E.G j)≤B) (hB1:1≤B) (hBn:(n+2)*(B+2)≤50000) (hm:(d6 s).length≤100000) (hR:s.rows.length≤1000) (hn1:n≤1000):
 b9 Tryz.prog 204 [dT (d6 s).length n (d6 s) E,a9 .i64 s.rows.length] [] (.c (.own 0 0 s.rows.length true)) [flB (rF s.rows.length (y4 s E))]:=by
 have m1:(Z0 n E.F).length=n:=v4 _ _
 have hnn:s.n.toNat=n:=by omega
 have z0:∀H:Hp,H.length=0→S4 Tryz.prog 254 [a9 .i64 s.rows.length] H (.c (.own 0 0 s.rows.length true)) [flB (rF s.rows.length fun _=>0)]:=fun H hH=>W2 hH hR
 have eB:B≤50000:=by
  have:(n+2)*(B+2)=n*(B+2)+2*(B+2):=by rw [Nat.add_mul]
  omega
 obtain ⟨f,hf⟩:∃f:Nat→Nat→Rat,f=fun j=>chg s (E.F j) (-(E.G j)):=⟨_,rfl⟩
 have e9:y4 s E=yK (fun _=>0) f n:=by
  funext i;unfold y4 yK;rw [hf,hnn];grind
 rw [e9]
 (refine a8 a7 Tryz.func204 rfl (by decide) ?_;(conv=>whnf);repeat ((first|refine b0x ?_|refine zy ?_);conv=>whnf))
 repeat' first|(refine zd ?_ ?_<;>intro h<;>first|exact zc h|(exfalso;omega)|conv=>whnf)|((first|refine zz ?_|refine .inl ⟨_,_,z0 _ rfl,?_⟩|refine zy ?_);conv=>whnf)
 refine f6 a7 (fun k=>([dT (d6 s).length n (d6 s) E,J,J,J,J,S.c (C.own 0 0 s.rows.length true),J,J,J,J,J,J,J,a4t n E.F,a9 .i64 n,a9 .i64 k,J,J,J,J,J,J,J,J,J,J,J,J,J,J,J,J,J,J,J,J,J,J,J,J,J,J,J,J,J],[flB (rF s.rows.length (yK (fun _=>0) f k))])) n (fun _=>True) [some 0] trivial
  ⟨rfl,rfl,⟨b8 (rows:=(rF s.rows.length (fun _=>0)).map j7) rfl rfl rfl rfl ?_,trivial⟩,⟨j0 rfl,⟨rfl,rfl,rfl,fun h=>h⟩,j0 rfl,c9 (by omega),c9 rfl,trivial⟩⟩ ?_
 ·rw [z7 (g:=yK (fun _=>0) f 0) (h:=fun _=>0) fun j hj=>by unfold yK;simp only [g8,Q4];grind]
 intro k hk _
 by_cases hlt:k<n
 ·have ng:=a4p (E.G k) (by have:=hB k hlt;omega)
  by_cases ho:E.F k<n
  ·have e:yK (fun _=>0) f (k+1)=yK (fun _=>0) f k:=by
    rw [a3T,hf];funext i
    have e0:chg s (E.F k) (-(E.G k)) i=0:=by rw [a7w (by omega)]
    show _+chg s (E.F k) (-(E.G k)) i=_
    rw [e0];grind
   conv=>whnf
   repeat' first|(refine zd ?_ ?_<;>intro h<;>first|exact zc h|(exfalso;omega)|conv=>whnf)|((first|refine zz ?_|refine B4 rfl hlt ?_|refine zy ?_);conv=>whnf)
   all_goals first
    |(exfalso;omega)
    |exact ⟨hlt,trivial,[some 0],rfl,rfl,⟨b8 (rows:=(rF s.rows.length (yK (fun _=>0) f k)).map j7) rfl rfl rfl rfl (by rw [e]),trivial⟩,⟨rfl,⟨rfl,rfl,rfl,fun h=>h⟩,rfl,rfl,c9 (by omega),trivial⟩⟩
  ·have hfb:=hP.fb k hlt
   obtain ⟨q,hq⟩:∃q,E.F k=n+q:=⟨E.F k - n,by omega⟩
   obtain ⟨⟨row,b⟩,hfr⟩:∃x,(d6 s)[q]? =some x:=⟨_,lg0 (by omega)⟩
   have hrow:row<s.rows.length:=a51 hfr
   have by1:rl (yK (fun _=>0) f k row)≤50000:=by
    have h1:=a3H (f:=fun j=>f j row) (B:=B) k fun j hj=>by rw [hf];exact ag6 (by rw [M9];exact hB j (by omega)) hB1
    have e:yK (fun _=>0) f k row=g8 (fun j=>f j row) k:=by unfold yK;grind
    rw [e]
    have:k*(B+1)≤n*(B+1):=Nat.mul_le_mul_right _ (by omega)
    have:(n+2)*(B+2)=n*(B+1)+n+2*(B+2):=by rw [Nat.add_mul,show n*(B+2)=n*(B+1)+n by rw [Nat.mul_add,Nat.mul_add];omega]
    omega
   have ch:=a57 (d6 s).length n (d6 s) E s.rows.length (yK (fun _=>0) f k) q row b (-(E.G k)) hfr hrow (by rw [M9];have:=hB k hlt;omega) by1
   have e:a5e (yK (fun _=>0) f k) row (-(O3 b (-(E.G k))))=yK (fun _=>0) f (k+1):=by rw [af1 (s:=s) (w:=E.F k) (by omega) hfr,a3T,hf]
   rw [e,show ((q:Nat):Int)=(E.F k:Int) - n by omega] at ch
   conv=>whnf
   repeat' first|(refine zd ?_ ?_<;>intro h<;>first|exact zc h|(exfalso;omega)|conv=>whnf)|((first|refine zz ?_|refine qp ng ?_|refine B4 rfl hlt ?_|refine a1U rfl hlt ?_|refine .inr ⟨_,_,ch,?_⟩|refine zy ?_);conv=>whnf)
   all_goals first
    |(exfalso;omega)
    |exact ⟨hlt,trivial,[some 0],rfl,rfl,⟨i8 (g4 _),trivial⟩,⟨rfl,⟨rfl,rfl,rfl,fun h=>h⟩,rfl,rfl,c9 (by omega),trivial⟩⟩
 ·have hke:k=n:=by omega
  subst hke
  conv=>whnf
  repeat' first|(refine zd ?_ ?_<;>intro h<;>first|exact zc h|(exfalso;omega)|conv=>whnf)|((first|refine zz ?_|refine zy ?_);conv=>whnf)
  all_goals first
   |(exfalso;omega)
   |exact ⟨[some 0],rfl,rfl,⟨i8 (g4 _),trivial⟩,⟨rfl,rfl,rfl,fun h=>h⟩⟩
set_option maxHeartbeats 2000000 in
theorem ak1 (s:f5) (n r:Nat) (hn:s.n=n) (E:Fd) (hP:O8 (d6 s).length n E) (hr:r<(d6 s).length) (B:Nat) (hB:∀j,j<n→rl (E.A r j)≤B) (hB1:1≤B) (hBn:(n+3)*(B+2)≤50000) (hm:(d6 s).length≤100000) (hR:s.rows.length≤1000) (hn1:n≤1000):
 b9 Tryz.prog 203 [dT (d6 s).length n (d6 s) E,a9 .i64 s.rows.length,a9 .i64 r] [] (.c (.own 0 0 s.rows.length true)) [flB (rF s.rows.length (a6I s E r))]:=by
 have m1:(Z0 n E.F).length=n:=v4 _ _
 have hnn:s.n.toNat=n:=by omega
 have z0:∀H:Hp,H.length=0→S4 Tryz.prog 254 [a9 .i64 s.rows.length] H (.c (.own 0 0 s.rows.length true)) [flB (rF s.rows.length fun _=>0)]:=fun H hH=>W2 hH hR
 have i1:=E4 1 (by decide) (by decide)
 have eBn:(n+3)*(B+2)=n*(B+1)+n+3*(B+2):=by rw [Nat.add_mul,show n*(B+2)=n*(B+1)+n by rw [Nat.mul_add,Nat.mul_add];omega]
 have eB:B≤50000:=by omega
 obtain ⟨f,hf⟩:∃f:Nat→Nat→Rat,f=fun j=>chg s (E.F j) (E.A r j):=⟨_,rfl⟩
 obtain ⟨z,hz⟩:∃z:Nat→Rat,z=chg s (E.O r) 1:=⟨_,rfl⟩
 have zb:∀i,rl (z i)≤B:=fun i=>by rw [hz];exact ag6 (by have:=rl1;omega) hB1
 have e9:a6I s E r=yK z f n:=by
  funext i;unfold a6I yK;rw [hf,hnn,hz]
 rw [e9]
 have hob:=hP.ob r hr
 by_cases ho:E.O r<n
 ·have ez:z=fun _=>0:=by rw [hz,a7w (by omega)]
  (refine a8 a7 Tryz.func203 rfl (by decide) ?_;(conv=>whnf);repeat ((first|refine b0x ?_|refine zy ?_);conv=>whnf))
  repeat' first|(refine zd ?_ ?_<;>intro h<;>first|exact zc h|(exfalso;omega)|conv=>whnf)|((first|refine zz ?_|refine .inl ⟨_,_,z0 _ rfl,?_⟩|refine B4 rfl hr ?_|refine zy ?_);conv=>whnf)
  all_goals try (exfalso;omega)
  refine f6 a7 (fun k=>([dT (d6 s).length n (d6 s) E,J,a9 .i64 r,J,J,J,J,S.c (C.own 0 0 s.rows.length true),J,J,J,J,J,J,J,J,J,J,J,J,J,J,J,J,J,J,J,J,J,J,J,J,J,J,J,J,J,J,J,a4t n E.F,a9 .i64 n,a9 .i64 k,J,J,J,J,J,J,J,J,J,J,J,J,J,J,J,J,J,J,J,J,J,J,J,J,J,J,J,J,J,J,J,J],[flB (rF s.rows.length (yK z f k))])) n (fun _=>True) [some 0] trivial
   ⟨rfl,rfl,⟨b8 (rows:=(rF s.rows.length z).map j7) rfl rfl rfl (by rw [ez]) ?_,trivial⟩,⟨j0 rfl,c9 rfl,⟨rfl,rfl,rfl,fun h=>h⟩,j0 rfl,c9 (by omega),c9 rfl,trivial⟩⟩ ?_
  ·rw [z7 (g:=yK z f 0) (h:=z) fun j hj=>by unfold yK;simp only [g8,Q4];grind]
  intro k hk _
  by_cases hlt:k<n
  ·have ba:=hB k hlt
   by_cases ho2:E.F k<n
   ·have e:yK z f (k+1)=yK z f k:=by
     rw [a3T,hf];funext i
     have e0:chg s (E.F k) (E.A r k) i=0:=by rw [a7w (by omega)]
     show _+chg s (E.F k) (E.A r k) i=_
     rw [e0];grind
    conv=>whnf
    repeat' first|(refine zd ?_ ?_<;>intro h<;>first|exact zc h|(exfalso;omega)|conv=>whnf)|((first|refine zz ?_|refine B4 rfl hlt ?_|refine zy ?_);conv=>whnf)
    all_goals first
     |(exfalso;omega)
     |exact ⟨hlt,trivial,[some 0],rfl,rfl,⟨b8 (rows:=(rF s.rows.length (yK z f k)).map j7) rfl rfl rfl rfl (by rw [e]),trivial⟩,⟨rfl,rfl,⟨rfl,rfl,rfl,fun h=>h⟩,rfl,rfl,c9 (by omega),trivial⟩⟩
   ·have hfb:=hP.fb k hlt
    obtain ⟨q2,hq2⟩:∃q2,E.F k=n+q2:=⟨E.F k - n,by omega⟩
    obtain ⟨⟨row2,b2⟩,hfr2⟩:∃x,(d6 s)[q2]? =some x:=⟨_,lg0 (by omega)⟩
    have hrow2:row2<s.rows.length:=a51 hfr2
    have by1:rl (yK z f k row2)≤50000:=by
     have h1:=a3H (f:=fun j=>f j row2) (B:=B) k fun j hj=>by rw [hf];exact ag6 (hB j (by omega)) hB1
     have h2:=Z5 (z row2) (g8 (fun j=>f j row2) k)
     have h3:=zb row2
     have:k*(B+1)≤n*(B+1):=Nat.mul_le_mul_right _ (by omega)
     unfold yK
     omega
    have ch2:=a57 (d6 s).length n (d6 s) E s.rows.length (yK z f k) q2 row2 b2 (E.A r k) hfr2 hrow2 (by omega) by1
    have e:a5e (yK z f k) row2 (-(O3 b2 (E.A r k)))=yK z f (k+1):=by rw [af1 (s:=s) (w:=E.F k) (by omega) hfr2,a3T,hf]
    rw [e,show ((q2:Nat):Int)=(E.F k:Int) - n by omega] at ch2
    conv=>whnf
    repeat' first|(refine zd ?_ ?_<;>intro h<;>first|exact zc h|(exfalso;omega)|conv=>whnf)|((first|refine zz ?_|refine B4 rfl hlt ?_|refine Y6 rfl hr ?_|refine a1U rfl hlt ?_|refine .inr ⟨_,_,ch2,?_⟩|refine zy ?_);conv=>whnf)
    all_goals first
     |(exfalso;omega)
     |exact ⟨hlt,trivial,[some 0],rfl,rfl,⟨i8 (g4 _),trivial⟩,⟨rfl,rfl,⟨rfl,rfl,rfl,fun h=>h⟩,rfl,rfl,c9 (by omega),trivial⟩⟩
  ·have hke:k=n:=by omega
   subst hke
   conv=>whnf
   repeat' first|(refine zd ?_ ?_<;>intro h<;>first|exact zc h|(exfalso;omega)|conv=>whnf)|((first|refine zz ?_|refine zy ?_);conv=>whnf)
   all_goals first
    |(exfalso;omega)
    |exact ⟨[some 0],rfl,rfl,⟨i8 (g4 _),trivial⟩,⟨rfl,rfl,rfl,fun h=>h⟩⟩
 ·obtain ⟨q,hq⟩:∃q,E.O r=n+q:=⟨E.O r - n,by omega⟩
  obtain ⟨⟨row,b⟩,hfr⟩:∃x,(d6 s)[q]? =some x:=⟨_,lg0 (by omega)⟩
  have hrow:row<s.rows.length:=a51 hfr
  have ch:=a57 (d6 s).length n (d6 s) E s.rows.length (fun _=>0) q row b 1 hfr hrow (by have:=rl1;omega) (by have:=rl0;omega)
  have e:rF s.rows.length (a5e (fun _=>0) row (-(O3 b 1)))=rF s.rows.length z:=z7 fun j hj=>by
   rw [af1 (s:=s) (w:=E.O r) (by omega) hfr,hz];grind
  rw [e,show ((q:Nat):Int)=(E.O r:Int) - n by omega] at ch
  have ch:b9 Tryz.prog 263 [dT (d6 s).length n (d6 s) E,.c (.own 0 0 s.rows.length true),a9 .i64 ((E.O r:Int) - n),frS (fz ((1:Int):Rat))] [flB (rF s.rows.length fun _=>0)] (.tup []) [flB (rF s.rows.length z)]:=ch
  (refine a8 a7 Tryz.func203 rfl (by decide) ?_;(conv=>whnf);repeat ((first|refine b0x ?_|refine zy ?_);conv=>whnf))
  repeat' first|(refine zd ?_ ?_<;>intro h<;>first|exact zc h|(exfalso;omega)|conv=>whnf)|((first|refine zz ?_|refine qp i1 ?_|refine .inl ⟨_,_,z0 _ rfl,?_⟩|refine B4 rfl hr ?_|refine .inr ⟨_,_,ch,?_⟩|refine zy ?_);conv=>whnf)
  all_goals try (exfalso;omega)
  refine f6 a7 (fun k=>([dT (d6 s).length n (d6 s) E,J,a9 .i64 r,J,J,J,J,S.c (C.own 0 0 s.rows.length true),J,J,J,J,J,J,J,J,J,J,J,J,J,J,J,J,J,J,J,J,J,J,J,J,J,J,J,J,J,J,J,a4t n E.F,a9 .i64 n,a9 .i64 k,J,J,J,J,J,J,J,J,J,J,J,J,J,J,J,J,J,J,J,J,J,J,J,J,J,J,J,J,J,J,J,J],[flB (rF s.rows.length (yK z f k))])) n (fun _=>True) [some 0] trivial
   ⟨rfl,rfl,⟨b8 (rows:=(rF s.rows.length z).map j7) rfl rfl rfl (rfl) ?_,trivial⟩,⟨j0 rfl,c9 rfl,⟨rfl,rfl,rfl,fun h=>h⟩,j0 rfl,c9 (by omega),c9 rfl,trivial⟩⟩ ?_
  ·rw [z7 (g:=yK z f 0) (h:=z) fun j hj=>by unfold yK;simp only [g8,Q4];grind]
  intro k hk _
  by_cases hlt:k<n
  ·have ba:=hB k hlt
   by_cases ho2:E.F k<n
   ·have e:yK z f (k+1)=yK z f k:=by
     rw [a3T,hf];funext i
     have e0:chg s (E.F k) (E.A r k) i=0:=by rw [a7w (by omega)]
     show _+chg s (E.F k) (E.A r k) i=_
     rw [e0];grind
    conv=>whnf
    repeat' first|(refine zd ?_ ?_<;>intro h<;>first|exact zc h|(exfalso;omega)|conv=>whnf)|((first|refine zz ?_|refine B4 rfl hlt ?_|refine zy ?_);conv=>whnf)
    all_goals first
     |(exfalso;omega)
     |exact ⟨hlt,trivial,[some 0],rfl,rfl,⟨b8 (rows:=(rF s.rows.length (yK z f k)).map j7) rfl rfl rfl rfl (by rw [e]),trivial⟩,⟨rfl,rfl,⟨rfl,rfl,rfl,fun h=>h⟩,rfl,rfl,c9 (by omega),trivial⟩⟩
   ·have hfb:=hP.fb k hlt
    obtain ⟨q2,hq2⟩:∃q2,E.F k=n+q2:=⟨E.F k - n,by omega⟩
    obtain ⟨⟨row2,b2⟩,hfr2⟩:∃x,(d6 s)[q2]? =some x:=⟨_,lg0 (by omega)⟩
    have hrow2:row2<s.rows.length:=a51 hfr2
    have by1:rl (yK z f k row2)≤50000:=by
     have h1:=a3H (f:=fun j=>f j row2) (B:=B) k fun j hj=>by rw [hf];exact ag6 (hB j (by omega)) hB1
     have h2:=Z5 (z row2) (g8 (fun j=>f j row2) k)
     have h3:=zb row2
     have:k*(B+1)≤n*(B+1):=Nat.mul_le_mul_right _ (by omega)
     unfold yK
     omega
    have ch2:=a57 (d6 s).length n (d6 s) E s.rows.length (yK z f k) q2 row2 b2 (E.A r k) hfr2 hrow2 (by omega) by1
    have e:a5e (yK z f k) row2 (-(O3 b2 (E.A r k)))=yK z f (k+1):=by rw [af1 (s:=s) (w:=E.F k) (by omega) hfr2,a3T,hf]
    rw [e,show ((q2:Nat):Int)=(E.F k:Int) - n by omega] at ch2
    conv=>whnf
    repeat' first|(refine zd ?_ ?_<;>intro h<;>first|exact zc h|(exfalso;omega)|conv=>whnf)|((first|refine zz ?_|refine B4 rfl hlt ?_|refine Y6 rfl hr ?_|refine a1U rfl hlt ?_|refine .inr ⟨_,_,ch2,?_⟩|refine zy ?_);conv=>whnf)
    all_goals first
     |(exfalso;omega)
     |exact ⟨hlt,trivial,[some 0],rfl,rfl,⟨i8 (g4 _),trivial⟩,⟨rfl,rfl,⟨rfl,rfl,rfl,fun h=>h⟩,rfl,rfl,c9 (by omega),trivial⟩⟩
  ·have hke:k=n:=by omega
   subst hke
   conv=>whnf
   repeat' first|(refine zd ?_ ?_<;>intro h<;>first|exact zc h|(exfalso;omega)|conv=>whnf)|((first|refine zz ?_|refine zy ?_);conv=>whnf)
   all_goals first
    |(exfalso;omega)
    |exact ⟨[some 0],rfl,rfl,⟨i8 (g4 _),trivial⟩,⟨rfl,rfl,rfl,fun h=>h⟩⟩
end
section
open Go.RowKit
def a4U (ρ:List (Option Nat)) (H:Hp):Env→Env→Prop
 |[],[]=>True
 |s::r,s'::r'=>match s' with
  |.junk=>a4U ρ H r r'
  |s'=>(a3U ρ H s s'∨VYS H (fun id=>I9 ρ id=true) s s')∧a4U ρ H r r'
 |_,_=>False
theorem a4U.rel {ρ:List (Option Nat)} {H:Hp}:∀{env env':Env},a4U ρ H env env'→env.length=env'.length∧∀(t:Nat) (s':S),env'[t]? =some s'→∃s,env[t]? =some s∧(a3U ρ H s s'∨VYS H (fun id=>I9 ρ id=true) s s')
 |[],[],_=>⟨rfl,by simp⟩
 |s::r,s'::r',h=>by
  have h':(a3U ρ H s s'∨VYS H (fun id=>I9 ρ id=true) s s')∧a4U ρ H r r':=by
   cases s' with
   |junk=>exact ⟨.inl trivial,h⟩
   |_=>exact h
  obtain ⟨h1,h2⟩:=a4U.rel h'.2
  refine ⟨by simp [h1],fun t s'' ht=>?_⟩
  cases t with
  |zero=>simp at ht;subst ht;exact ⟨s,rfl,h'.1⟩
  |succ t=>simpa using h2 t s'' (by simpa using ht)
 |[],_::_,h=>h.elim
 |_::_,[],h=>h.elim
structure b2l (n0:Nat) (ρ:List (Option Nat)) (env:Env) (H:Hp) (env':Env) (H':Hp):Prop where
 k:a0Q ρ n0=true
 n:O6 ρ H'=true
 h:a2C ρ H ρ H'
 e:a4U ρ H env env'
theorem b2l.sim {n0:Nat} {ρ:List (Option Nat)} {env env':Env} {H H':Hp} (h:b2l n0 ρ env H env' H') {w0:World} {ι0:Io} {M0:Ms} {H0:Hp} {a:Act} {w:World} (hn:H0.length=n0) (hM0:MB w0 M0)
 (hs:Sim w0 ι0 M0 H0 a w env H):Sim w0 ι0 M0 H0 a w env' H':=by
 obtain ⟨h1,h2,h3,h4⟩:=h
 obtain ⟨ι,M,hd,hsz,he,hH,hM,hF,hst⟩:=hs
 obtain ⟨hel,heg⟩:=a4U.rel h4
 obtain ⟨q1,q2,q3⟩:=a2C.all h1 h2 h3 hn hM0 hH hst
 refine ⟨N2 ρ ι,_,hd,by omega,fun t s' ht=>?_,q1,fun b hb=>hM b hb.1,q2,q3⟩
 obtain ⟨s,r1,r2⟩:=heg t s' ht
 rcases r2 with r2|r2
 ·exact r2.rs hH (he t s r1)
 ·refine r2.rs hH (fun b hb=>hb.1) ?_ (he t s r1)
  intro id k b cap size hp hk hd hi hb
  exact hb.2 ⟨id,k,cap,size,hp,hk,hd,hi⟩
theorem a4O {P:Program} {τ:Tab} (hτ:y0 P τ) {n0:Nat} {x y:Code} {env:Env} {H:Hp} {Q:AX→Env→Hp→Prop} (E2:Env) (H2:Hp)
 (h:a45 P τ n0 x env H fun a env' H'=>match a with
   |.normal=>∃ρ,b2l n0 ρ env' H' E2 H2
   |a=>Q a env' H') (h2:Awp P n0 y E2 H2 Q):Awp P n0 (.seq x y) env H Q:=by
 refine ⟨fun w0 ι0 M0 H0 a w hn hM hs=>?_⟩
 refine wp_seq (wp_mono ((x4 hτ x h).out w0 ι0 M0 H0 a w hn hM hs) ?_)
 rintro e a' w' ⟨x,env',H',rfl,hq,hs'⟩
 cases x with
 |normal=>obtain ⟨ρ,he⟩:=hq;exact h2.out w0 ι0 M0 H0 a' w' hn hM (he.sim hn hM hs')
 |exit id=>exact ⟨_,env',H',rfl,hq,hs'⟩
 |ret=>exact ⟨_,env',H',rfl,hq,hs'⟩
theorem aQ8 {P:Program} {n0:Nat} {c:Operand} {t e:Code} {env:Env} {H:Hp} {Q:AX→Env→Hp→Prop} {b:Bool} (hb:C7 env c=e6 b) (h:Awp P n0 (cond b t e) env H Q):Awp P n0 (.cond c t e) env H Q:=by
 refine ⟨fun w0 ι0 M0 H0 a w hn hM hs=>?_⟩
 have hs0:=hs
 obtain ⟨ι,M,hd,hsz,he,hH,hMB,hF,hst⟩:=hs
 have hv:=(he.ev.to hb).inv_atm
 refine wp_cond hv ?_
 cases b with
 |true=>exact h.out w0 ι0 M0 H0 a w hn hM hs0
 |false=>exact h.out w0 ι0 M0 H0 a w hn hM hs0
theorem b0K {m n:Nat} {fr:List (Nat × Bool)} {D:Fd} {X:Hp} {p:Nat→Prop} (hp:∀i,i<m+6→p i):VY (G4 m n fr D.V D.G D.O D.F D.A X) p (.own 1 0 m true) (.sl 5 .any (a6G m n D)):=by
 refine b0n (k:=Y8 6 m n D.V) (hp _ (by omega)) rfl (fun h=>h) rfl (a3t m n D) ?_ ?_
 ·intro r hr
  obtain ⟨i,_,rfl⟩:=List.mem_map.1 hr
  rfl
 ·intro i r hi
  have him:i<m:=by have:=(lg1 hi).1;rwa [a3t] at this
  rw [a5Y him] at hi
  injection hi with hi
  subst hi
  refine ⟨_,a1I him,?_⟩
  show VYL _ _ ((j7 (fz (D.V i))).map C.t++[C.own (i+6) 0 n true]) _
  have hv:VY (G4 m n fr D.V D.G D.O D.F D.A X) p (C.own (i+6) 0 n true) (T.sl 4 .any ((rF n (D.A i)).map j7)):=
   .vc (t8 (k:=flB (rF n (D.A i))) (hp _ (by omega)) (H4 (N1 him)) (fun h=>h) rfl rfl (by simp [L0]))
  exact ai9 (ys:=[C.own (i+6) 0 n true]) (us:=[T.sl 4 .any ((rF n (D.A i)).map j7)]) (show _∧True from ⟨hv,trivial⟩)
theorem a7j {m n:Nat} {fr:List (Nat × Bool)} {D:Fd} {X:Hp} {p:Nat→Prop} (hp:∀i,i<m+6→p i):VY (G4 m n fr D.V D.G D.O D.F D.A X) p (.ptr 0 0 0) (.ptr (b1u m n fr D)):=by
 refine ak3 (k:=aE6 m n fr.length) (hp _ (by omega)) rfl (fun h=>h) rfl ⟨b2i,b0K hp,?_,?_,?_,?_,trivial⟩
 ·exact .vc (t8 (k:=flB (rF n D.G)) (hp _ (by omega)) rfl (fun h=>h) rfl rfl (by simp [L0]))
 ·exact .vc (t8 (k:=T0 m D.O) (hp _ (by omega)) rfl (fun h=>h) rfl rfl (by simp [v4]))
 ·exact .vc (t8 (k:=T0 n D.F) (hp _ (by omega)) rfl (fun h=>h) rfl rfl (by simp [v4]))
 ·exact .vc (t8 (k:=a0s fr) (hp _ (by omega)) rfl (fun h=>h) rfl rfl (by simp [V5]))
abbrev b5G (m n k:Nat):Blk:={ mode:=.live,elem:=256,size:=6,rows:=[[C.t (ti n),.own 2 0 m true,.own 3 0 n true,.own 4 0 m true,.own 5 0 n true,.own 6 0 k true]],box:=true }
abbrev b4i (m n:Nat) (fr:List (Nat × Bool)) (D:Fd) (b:Blk):Hp:=
 b::b5G m n fr.length::Y8 7 m n D.V::flB (rF n D.G)::T0 m D.O::T0 n D.F::a0s fr::(mF m n D.A).map flB
theorem b2B {N i:Nat} (h:i<N):(a2d [] 1 N).getD i 0=i+1:=by
 unfold a2d
 rw [List.nil_append,lg3,List.getElem?_map,List.getElem?_range h]
 show 1+i=i+1
 omega
theorem b3r {σ:List Nat} (ts:List T) (l:List C):a0y σ (ts.map C.t++l)=ts.map C.t++a0y σ l:=by
 rw [J0,J0,List.map_append,List.map_map]
 congr 1
theorem a7s {s:f5} {g:List (Int × Rat)} {n:Nat} (b:Blk) (h:b9 Tryz.prog 199 [F0 s,j2 g] [] (.c (.ptr 0 0 0)) (T8 (d6 s).length n (d6 s) (g7 s g))):
 b9 Tryz.prog 199 [F0 s,j2 g] [b] (.c (.ptr 1 0 0)) (b4i (d6 s).length n (d6 s) (g7 s g) b):=by
 have hlen:(T8 (d6 s).length n (d6 s) (g7 s g)).length=(d6 s).length+6:=a1C
 have hl:∀k ∈ T8 (d6 s).length n (d6 s) (g7 s g),k.mode=.live:=by
  intro k hk
  simp only [List.mem_cons] at hk
  rcases hk with rfl|rfl|rfl|rfl|rfl|rfl|hk
  ·rfl
  ·rfl
  ·rfl
  ·rfl
  ·rfl
  ·rfl
  ·obtain ⟨l,_,rfl⟩:=List.mem_map.1 hk;rfl
 have hsub:(T8 (d6 s).length n (d6 s) (g7 s g)).length - ([]:Hp).length=(d6 s).length+6:=by rw [hlen];simp
 have g1:∀i,i<(d6 s).length+6→(a2d [] ([b]:Hp).length ((T8 (d6 s).length n (d6 s) (g7 s g)).length - ([]:Hp).length)).getD i 0=i+1:=fun i hi=>by
  rw [hsub];exact b2B hi
 refine N9 [] h rfl rfl rfl List.nodup_nil (by simp) (fun k hk=>by rw [hl k hk];intro h;cases h) (by simp) rfl ?_ (by rw [hsub];simp [c8];omega) ?_ ?_
 ·show S.c (.ptr 1 0 0)=S.c (.ptr _ 0 0)
  rw [g1 0 (by omega)]
 ·intro i k hk
  have hi:i<(d6 s).length+6:=by rw [← hlen];exact (lg1 hk).1
  rw [g1 i hi]
  rcases i with _|_|_|_|_|_|i
  ·injection hk with hk;subst hk
   refine ⟨_,rfl,rfl,rfl,rfl,rfl,?_⟩
   simp only [a6q,List.map_cons,List.map_nil,a0y,T2]
   rw [g1 1 (by omega),g1 2 (by omega),g1 3 (by omega),g1 4 (by omega),g1 5 (by omega)]
  ·injection hk with hk;subst hk
   refine ⟨_,rfl,rfl,rfl,rfl,rfl,?_⟩
   unfold a6q
   show N6 7 _ _ _=(N6 6 _ _ _).map _
   unfold N6
   rw [List.map_map]
   refine List.map_congr_left fun j hj=>?_
   have hj:=List.mem_range.1 hj
   show _=a0y _ ((j7 (fz ((g7 s g).V j))).map C.t++[C.own (j+6) 0 n true])
   rw [b3r]
   simp only [a0y,T2]
   rw [g1 (j+6) (by omega)]
   rfl
  ·injection hk with hk;subst hk;exact ⟨_,rfl,C0 rfl⟩
  ·injection hk with hk;subst hk;exact ⟨_,rfl,C0 rfl⟩
  ·injection hk with hk;subst hk;exact ⟨_,rfl,C0 rfl⟩
  ·injection hk with hk;subst hk;exact ⟨_,rfl,C0 rfl⟩
  ·have hk:((mF (d6 s).length n (g7 s g).A).map flB)[i]? =some k:=hk
   refine ⟨k,hk,?_⟩
   obtain ⟨l,_,rfl⟩:=List.mem_map.1 (lg2 hk)
   exact C0 rfl
 ·intro j hj _
  have:j=0:=by simpa using hj
  subst this;rfl
def fS (m:Nat):Nat→Nat:=fun i=>if i<m+6 then i+1 else 0
theorem a4X {m n:Nat} {fr:List (Nat × Bool)} {D:Fd} {b:Blk} {env env':Env} {H:Hp} (hb:E8 b.rows) (hH:H=b4i m n fr D b) (hE:Z2 (fR (m+7) (fS m)) H env env'):
 Ent 0 (fR (m+7) (fS m)) env H env' (G4 m n fr D.V D.G D.O D.F D.A [b]):=by
 subst hH
 have fa:∀i,i<m+6→fS m i=i+1:=fun i hi=>by unfold fS;rw [if_pos hi]
 refine aw1 (by simp [c8]) (by omega) (fun i hi=>by omega) (fun i j hi hj h=>by unfold fS at h;(repeat' split at h)<;>omega) ?_ hE
 intro i k' hk
 rcases i with _|_|_|_|_|_|i
 ·injection hk with hk;subst hk
  rw [fa 0 (by omega)]
  exact ⟨_,rfl,rfl,rfl,rfl,.inr ⟨⟨rfl,⟨by rw [w7 (by omega),fa _ (by omega)],rfl,rfl,fun h=>h⟩,⟨by rw [w7 (by omega),fa _ (by omega)],rfl,rfl,fun h=>h⟩,⟨by rw [w7 (by omega),fa _ (by omega)],rfl,rfl,fun h=>h⟩,⟨by rw [w7 (by omega),fa _ (by omega)],rfl,rfl,fun h=>h⟩,⟨by rw [w7 (by omega),fa _ (by omega)],rfl,rfl,fun h=>h⟩,trivial⟩,trivial⟩⟩
 ·injection hk with hk;subst hk
  rw [fa 1 (by omega)]
  refine ⟨_,rfl,a0O (h:=fun i=>i+7) (h':=fun i=>i+6) fun j hj=>?_⟩
  rw [w7 (by omega),fa _ (by omega)]
 ·injection hk with hk;subst hk;rw [fa 2 (by omega)];exact ⟨_,rfl,i8 (g4 _)⟩
 ·injection hk with hk;subst hk;rw [fa 3 (by omega)];exact ⟨_,rfl,i8 (g4 _)⟩
 ·injection hk with hk;subst hk;rw [fa 4 (by omega)];exact ⟨_,rfl,i8 (g4 _)⟩
 ·injection hk with hk;subst hk;rw [fa 5 (by omega)];exact ⟨_,rfl,i8 (g4 _)⟩
 ·have hk:((mF m n D.A).map flB++[b])[i]? =some k':=hk
  by_cases hi:i<m
  ·rw [H4 (N1 hi)] at hk
   injection hk with hk;subst hk
   rw [fa _ (by omega)]
   refine ⟨flB (rF n (D.A i)),?_,i8 (g4 _)⟩
   show ((mF m n D.A).map flB)[i]? =_
   rw [List.getElem?_map,N1 hi];rfl
  ·obtain ⟨t,rfl⟩:∃t,i=m+t:=⟨i - m,by omega⟩
   rw [a0n (c8 _ _ _)] at hk
   rcases t with _|t
   ·injection hk with hk;subst hk
    have:fS m (m+0+6)=0:=by unfold fS;rw [if_neg (by omega)]
    rw [this]
    exact ⟨_,rfl,i8 hb⟩
   ·simp at hk
theorem a3L {m n:Nat} {fr:List (Nat × Bool)} {D E:Fd} {r:S} (X:Hp) (hr:a9A r=true) (hr':r.isT=true) (h:b9 Tryz.prog 200 [.c (.ptr 0 0 0)] (T8 m n fr D) r (T8 m n fr E)):
 b9 Tryz.prog 200 [.c (.ptr 0 0 0)] (G4 m n fr D.V D.G D.O D.F D.A X) r (G4 m n fr E.V E.G E.O E.F E.A X):=by
 have hl:∀{D:Fd},∀k ∈ T8 m n fr D,k.mode=.live∧k.app=false:=by
  intro D k hk
  simp only [List.mem_cons] at hk
  rcases hk with rfl|rfl|rfl|rfl|rfl|rfl|hk
  ·exact ⟨rfl,rfl⟩
  ·exact ⟨rfl,rfl⟩
  ·exact ⟨rfl,rfl⟩
  ·exact ⟨rfl,rfl⟩
  ·exact ⟨rfl,rfl⟩
  ·exact ⟨rfl,rfl⟩
  ·obtain ⟨l,_,rfl⟩:=List.mem_map.1 hk
   exact ⟨rfl,rfl⟩
 exact a6D (n:=m+6) X h a1C a1C (by simp [okS,okC,Nat.blt_eq]) (fun k hk=>⟨(hl k hk).1,(hl k hk).2,a5D k hk⟩) (fun k hk=>⟨(by rw [(hl k hk).1];intro h;cases h),a5D k hk⟩) hr hr'
end
section
open Go.RowKit
theorem al9 (l:List (Int × Rat)) (z:List Rat) (hl:l.length≤1000000) (h1:∀t ∈ l,rl t.2≤20000) (h2:∀v ∈ z,rl v≤40000) (hS:∀k,rl (j3 (l.take k) z)≤60000) (hz:z.length≤1000000) (hr:e7 (-1) z.length l=true):
 b9 Tryz.prog 110 [j2 l,k7 (z.map fz)] [] (frS (fz (j3 l z))) []:=by
 have m1:(l.map k6).length=l.length:=by simp
 have m2:((z.map fz).map j7).length=z.length:=by simp
 have i0:=E4 0 (by decide) (by decide)
 (refine a8 a7 Tryz.func110 rfl (by decide) ?_;(conv=>whnf);repeat ((first|refine b0x ?_|refine zy ?_);conv=>whnf))
 repeat' first|(refine zd ?_ ?_<;>intro h<;>first|exact zc h|(exfalso;omega)|conv=>whnf)|((first|refine zz ?_|refine qp i0 ?_|refine zy ?_);conv=>whnf)
 refine f6 a7 (fun k=>([J,k7 (z.map fz),J,J,S.c (C.ptr 0 0 0),S.c (C.ptr 1 0 0),J,J,J,J,J,j2 l,a9 .i64 l.length,a9 .i64 k,J,J,J,J,J,J,J,J,J,J,J,J,J,J,J,J,J,J,J,J,J,J],[frB C2,frB (fz (j3 (l.take k) z))])) l.length (fun _=>True) [some 0,some 1] trivial
  ⟨rfl,rfl,⟨⟨rfl,rfl,rfl,.inr ⟨⟨rfl,rfl,rfl,rfl,trivial⟩,trivial⟩⟩,⟨rfl,rfl,rfl,.inl ⟨rfl,t5 _⟩⟩,trivial⟩,⟨rfl,⟨rfl,rfl,rfl⟩,⟨rfl,rfl,rfl⟩,rfl,c9 (by simp),rfl,trivial⟩⟩ ?_
 intro k hk _
 by_cases hlt:k<l.length
 ·obtain ⟨t,ht⟩:∃t,l[k]? =some t:=⟨_,lg0 hlt⟩
  obtain ⟨v,c⟩:=t
  have hv:=a67 hr _ (lg2 ht)
  simp only at hv
  have bc:=h1 _ (lg2 ht)
  simp only at bc
  obtain ⟨x,hx⟩:∃x,z[v.toNat]? =some x:=⟨_,lg0 (by omega)⟩
  have hxd:z.getD v.toNat 0=x:=by rw [lg3,hx];rfl
  have bx:=h2 x (lg2 hx)
  have b3:=a1f c x
  have bs:=hS k
  have mu:=ai5 c x (by omega) (by omega)
  have ad:=a2M (j3 (l.take k) z) (c*x) (by omega) (by omega)
  have e:j3 (l.take k) z+c*x=j3 (l.take (k+1)) z:=by
   have:l.take (k+1)=l.take k++[(v,c)]:=by rw [List.take_add_one,ht];rfl
   rw [this,M4,←hxd]
  rw [e] at ad
  have xz:(z.map fz)[v.toNat]? =some (fz x):=by rw [List.getElem?_map,hx];rfl
  conv=>whnf
  repeat' first|(refine zd ?_ ?_<;>intro h<;>first|exact zc h|(exfalso;omega)|conv=>whnf)|((first|refine zz ?_|refine qp mu ?_|refine qp ad ?_|refine qp 10 ?_|refine qp 5 ?_|refine d7 ht ?_|refine B5 (by omega) xz ?_|refine bl0 [10] ?_|refine bl0 [5] ?_|refine zy ?_);conv=>whnf)
  all_goals first
   |(exfalso;omega)
   |exact ⟨hlt,trivial,[some 0,some 1],rfl,rfl,⟨⟨rfl,rfl,rfl,.inl ⟨rfl,t5 _⟩⟩,⟨rfl,rfl,rfl,.inl ⟨rfl,t5 _⟩⟩,trivial⟩,⟨rfl,⟨rfl,rfl,rfl⟩,⟨rfl,rfl,rfl⟩,rfl,rfl,rfl,trivial⟩⟩
 ·have hke:k=l.length:=by omega
  subst hke
  rw [lg4 (Nat.le_refl _)]
  conv=>whnf
  repeat' first|(refine zd ?_ ?_<;>intro h<;>first|exact zc h|(exfalso;omega)|conv=>whnf)|((first|refine zz ?_|refine zy ?_);conv=>whnf)
  all_goals first
   |(exfalso;omega)
   |exact ao8 rfl
theorem V7 (z:List Rat):(z.map fz).all t6=true:=by
 rw [List.all_eq_true];intro f hf
 obtain ⟨x,_,rfl⟩:=List.mem_map.1 hf
 exact a80 x
theorem a8d (l:List (Int × Rat)) (z:List Rat) (hl:l.length≤1000000) (h1:∀t ∈ l,rl t.2≤200) (h2:∀v ∈ z,rl v≤40000) (hS:∀k,rl (j3 (l.take k) z)≤60000) (hz:z.length≤1000000) (hr:e7 (-1) z.length l=true):
 b9 Tryz.prog 158 [j2 l,k7 (z.map fz)] [] (.tup [frS (fz (j3 l z)),e6 true]) []:=by
 have m2:((z.map fz).map j7).length=z.length:=by simp
 have rt:=I0 l z.length hl h1
 rw [decide_eq_true (by omega),hr] at rt
 have pt:=a7f (z.map fz) (by simpa using hz) (fun f hf=>by
  obtain ⟨x,hx,rfl⟩:=List.mem_map.1 hf
  have:=h2 x hx
  have a:=B3 x
  have b:=B9 x
  exact ⟨by show bl x.num≤_;omega,by show bl x.den≤_;omega⟩)
 rw [V7] at pt
 have va:=al9 l z hl (fun t ht=>by have:=h1 t ht;omega) h2 hS hz hr
 have rt2:b9 Tryz.prog 161 [j2 l,a9 .i64 (((z.map fz).map j7).length:Nat)] [] (e6 (true && true)) []:=by rw [m2];exact rt
 (refine a8 a7 Tryz.func158 rfl (by decide) ?_;(conv=>whnf);repeat ((first|refine b0x ?_|refine zy ?_);conv=>whnf))
 repeat' first|(refine zd ?_ ?_<;>intro h<;>first|exact zc h|(exfalso;omega)|conv=>whnf)|((first|refine zz ?_|refine qp rt2 ?_|refine qp pt ?_|refine qp va ?_|refine zy ?_);conv=>whnf)
 all_goals first
  |(exfalso;simp_all;done)
  |exact j5 ⟨⟨rfl,rfl,rfl,rfl,trivial⟩,rfl,trivial⟩
end
section
open Go.RowKit
structure z4 (s:f5) (g:List (Int × Rat)) (n B:Nat):Prop where
 o:b39 s g n
 sb:U7 s
 gb:∀t ∈ g,rl t.2≤200
 bd:∀D,T9 (d6 s).length n (g7 s g) D→BdD (d6 s).length n B D
 b1:1≤B
 bn:(n+3)*(B+2)≤50000
 r:s.rows.length≤1000
theorem z4.nn {s:f5} {g:List (Int × Rat)} {n B:Nat} (h:z4 s g n B):s.n.toNat=n:=by have:=h.o.en;omega
theorem z4.bb {s:f5} {g:List (Int × Rat)} {n B:Nat} (h:z4 s g n B):B≤17000:=by
 have h1:=h.bn
 have:(n+3)*(B+2)=n*(B+2)+3*(B+2):=by rw [Nat.add_mul]
 omega
theorem z4.m {s:f5} {g:List (Int × Rat)} {n B:Nat} (h:z4 s g n B):(d6 s).length≤2000:=by
 have:=a3z (s:=s) s.rows.length
 have:=h.r
 show (I3 s s.rows.length).length≤_
 omega
abbrev bO (cells:List C):Blk:={ mode:=.live,elem:=168,size:=8,rows:=[cells],box:=true }
abbrev z8:List C:=[.t (ti 0),.t (ti 0),.t (.sl 0 .nil []),.t (ti 0),.t (.sl 0 .nil []),.t (.sl 0 .nil []),.t (.sl 0 .nil []),.t (.sl 0 .nil [])]
theorem an0:E8 (bO z8).rows:=g4 [[ti 0,ti 0,.sl 0 .nil [],ti 0,.sl 0 .nil [],.sl 0 .nil [],.sl 0 .nil [],.sl 0 .nil []]]
theorem a0a {s:f5} {g:List (Int × Rat)} {n B:Nat} (h:z4 s g n B):
 b9 Tryz.prog 200 [.c (.ptr 0 0 0)] (T8 (d6 s).length n (d6 s) (g7 s g)) (.tup [a9 .i64 (aE7 (G5 s g)).1,a9 .i64 (aE7 (G5 s g)).2]) (T8 (d6 s).length n (d6 s) (k9 s g)):=by
 have hn:=h.nn
 subst hn
 have hm:=h.m
 exact b09 _ _ (d6 s) (g7 s g) _ (by omega) h.o.n1 a1w (fun D hD=>by
  have hb:=h.bd D hD
  have hB:=h.bb
  exact ⟨fun i hi=>by have:=hb.v i hi;omega,fun i hi j hj=>by have:=hb.a i hi j hj;omega,fun j hj=>by have:=hb.g j hj;omega⟩)
theorem a7K {s:f5} {g:List (Int × Rat)} {n B:Nat} (h:z4 s g n B):(j1 s g).length=n:=by unfold j1;rw [G1];exact h.nn
theorem a6J {s:f5} {g:List (Int × Rat)} {n B:Nat} (h:z4 s g n B):b9 Tryz.prog 201 [dT (d6 s).length n (d6 s) (k9 s g)] [] (k7 ((j1 s g).map fz)) []:=by
 have hn:=h.nn
 subst hn
 exact b0B _ _ _ _ G8.p (by have:=h.m;omega) h.o.n1
theorem a5K {s:f5} {g:List (Int × Rat)} {n B:Nat} (h:z4 s g n B):BdD (d6 s).length n B (k9 s g):=by
 have hn:=h.nn
 subst hn
 exact h.bd _ (a3m a1w).1
theorem ae3 {s:f5} {g:List (Int × Rat)} {n B:Nat} (h:z4 s g n B) (H:Hp):S4 Tryz.prog 204 [dT (d6 s).length n (d6 s) (k9 s g),a9 .i64 s.rows.length] H (.c (.own H.length 0 s.rows.length true)) [flB (rF s.rows.length (y4 s (k9 s g)))]:=by
 have hb:=a5K h
 have hp:O8 (d6 s).length n (k9 s g):=by have hn:=h.nn;subst hn;exact G8.p
 refine a3Q (aY9 s n h.o.en (k9 s g) hp B hb.g h.b1 ?_ (by have:=h.m;omega) h.r h.o.n1) rfl rfl (g4 _)
 have:=h.bn
 have:(n+3)*(B+2)=(n+2)*(B+2)+(B+2):=by rw [show n+3=(n+2)+1 by omega,Nat.succ_mul]
 omega
theorem a3w {i m:Nat} (h:i<m):I9 [some m] i=true:=by
 unfold I9
 have:Nat.beq m i=false:=by
  cases hb:Nat.beq m i with
  |false=>rfl
  |true=>have:=Nat.eq_of_beq_eq_true hb;omega
 rw [this];rfl
theorem ac9 {m n:Nat} {fr:List (Nat × Bool)} {D:Fd} {env env':Env} (b:Blk) (hb:E8 b.rows) (hE:a4U [some (m+6)] (G4 m n fr D.V D.G D.O D.F D.A [b]) env env'):b2l 0 [some (m+6)] env (G4 m n fr D.V D.G D.O D.F D.A [b]) env' [b]:=by
 refine ⟨rfl,?_,a3D rfl fun i k' hk=>?_,hE⟩
 ·simp only [O6,a36];cases b.mode<;>rfl
 ·rcases i with _|i
  ·injection hk with hk;subst hk
   exact ⟨m+6,_,rfl,a0n (t:=0) (c8 _ _ _),i8 hb⟩
  ·simp at hk
set_option maxHeartbeats 4000000 in
theorem a1W (s:f5) (g:List (Int × Rat)) (n B:Nat) (h:z4 s g n B) (hout:G5 s g=.best) (hS:∀k,rl (j3 (g.take k) (j1 s g))≤60000) (hpt:∀v ∈ j1 s g,rl v≤40000):
 b9 Tryz.prog 130 [F0 s,j2 g] [] (.tup [.agg (C.t (ti 0)::frC (fz (j3 g (j1 s g)))++[.t (M8 ((j1 s g).map fz)),.own 0 0 s.rows.length true,.t (.sl 0 .nil [])]),a9 .i64 0]) [flB (rF s.rows.length (y4 s (k9 s g)))]:=by
 have hn:=h.nn
 have hm:=h.m
 have hr1:=h.r
 have hgl:=w6 h.o.tg
 have hn1:=h.o.n1
 have lr:=a1D s h.sb
 rw [h.o.r] at lr
 have rt:=I0 g s.n (by have:=h.o.n1;omega) h.gb
 rw [h.o.en,decide_eq_true (by omega),h.o.tg,←h.o.en] at rt
 have op:=a7s (bO z8) (ad5 s g n h.o)
 have se:=a0a h
 rw [hout] at se
 have m1:(s.rows.map s7).length=s.rows.length:=by simp
 have pt:=a6J h
 have va:=a8d g (j1 s g) (by omega) h.gb hpt hS (by rw [a7K h];omega) (by rw [a7K h];exact h.o.tg)
 have pr:∀H:Hp,S4 Tryz.prog 204 [dT (d6 s).length n (d6 s) (k9 s g),a9 .i64 ((s.rows.map s7).length:Nat)] H (.c (.own H.length 0 s.rows.length true)) [flB (rF s.rows.length (y4 s (k9 s g)))]:=by rw [m1];exact ae3 h
 (refine a6f a7 Tryz.func130 rfl (by decide) ?_;refine G2 a7 ?_;(conv=>whnf);repeat ((first|refine b0x ?_|refine zy ?_);conv=>whnf))
 repeat' first|(refine zd ?_ ?_<;>intro h<;>first|exact zc h|(exfalso;omega)|conv=>whnf)|((first|refine zz ?_|refine b0x ?_|refine zy ?_);conv=>whnf)
 (refine G2 a7 ?_;conv=>whnf)
 repeat' first|(refine zd ?_ ?_<;>intro h<;>first|exact zc h|(exfalso;omega)|conv=>whnf)|((first|refine zz ?_|refine qp lr ?_|refine qp rt ?_|refine zy ?_);conv=>whnf)
 all_goals try (exfalso;simp_all;done)
 refine a0b a7 ([J,j2 g,S.c (C.t (T.ptr (a78 s))),J,S.c (C.ptr ((d6 s).length+6) 0 0),a9 .i64 0,S.c (C.ptr 0 0 0),J,J,J,J,J,J,J,J,J,J,J,J,J,J,J,J,J,J,J,J,J,J,J,J,J,J,J,J,J,J,J,J,J,J,J,J,J,J,J,J,J,J,J,J,J,J,J,J,J,J,J,J,J,J,J,J,J,J,J,J,J,J,J,J,J,J,J,J,J,J,J]) (G4 (d6 s).length n (d6 s) (g7 s g).V (g7 s g).G (g7 s g).O (g7 s g).F (g7 s g).A [bO z8]) ?_ ?_
 ·conv=>whnf
  repeat' first|(refine zd ?_ ?_<;>intro h<;>first|exact zc h|(exfalso;omega)|conv=>whnf)|((first|refine zz ?_|refine .inr ⟨_,_,op,?_⟩|refine C4 ?_|refine zy ?_);conv=>whnf)
  exact ⟨_,a4X an0 rfl ⟨rfl,j0 rfl,⟨by rw [w7 (by omega)];simp [fS],rfl,rfl⟩,rfl,⟨by rw [w7 (by omega)];simp [fS],rfl,rfl⟩,trivial⟩⟩
 refine a4O a7 ([J,j2 g,S.c (C.t (T.ptr (a78 s))),J,S.c (C.ptr 0 0 0),a9 .i64 0,dT (d6 s).length n (d6 s) (k9 s g),a9 .i64 (-1),a9 .i64 (-1),J,J,J,J,J,J,J,J,J,J,J,J,J,J,J,J,J,J,J,J,J,J,J,J,J,J,J,J,J,J,J,J,J,J,J,J,J,J,J,J,J,J,J,J,J,J,J,J,J,J,J,J,J,J,J,J,J,J,J,J,J,J,J,J,J,J,J,J,J]) [bO z8] ?_ ?_
 ·have si:=a3L [bO z8] rfl rfl se
  conv=>whnf
  repeat' first|(refine zd ?_ ?_<;>intro h<;>first|exact zc h|(exfalso;omega)|conv=>whnf)|((first|refine zz ?_|refine qp 4 ?_|refine .inr ⟨_,_,si,?_⟩|refine j6 ?_|refine bl0 [4] ?_|refine zy ?_);conv=>whnf)
  exact ⟨_,ac9 (bO z8) an0 ⟨.inl (j0 rfl),.inl (j0 rfl),.inl ⟨rfl,rfl,rfl⟩,.inl rfl,.inr (a7j fun i hi=>a3w hi),.inl rfl,.inl rfl,trivial⟩⟩
 (refine G2 a7 ?_;conv=>whnf)
 repeat' first|(refine zd ?_ ?_<;>intro h<;>first|exact zc h|(exfalso;omega)|conv=>whnf)|((first|refine zz ?_|refine zy ?_);conv=>whnf)
 all_goals try (exfalso;omega)
 (refine G2 a7 ?_;conv=>whnf)
 repeat' first|(refine zd ?_ ?_<;>intro h<;>first|exact zc h|(exfalso;omega)|conv=>whnf)|((first|refine zz ?_|refine zy ?_);conv=>whnf)
 all_goals try (exfalso;omega)
 (refine G2 a7 ?_;conv=>whnf)
 repeat' first|(refine zd ?_ ?_<;>intro h<;>first|exact zc h|(exfalso;omega)|conv=>whnf)|((first|refine zz ?_|refine qp pt ?_|refine zy ?_);conv=>whnf)
 (refine G2 a7 ?_;conv=>whnf)
 repeat' first|(refine zd ?_ ?_<;>intro h<;>first|exact zc h|(exfalso;omega)|conv=>whnf)|((first|refine zz ?_|refine qp va ?_|refine qp 4 ?_|refine qp 5 ?_|refine bl0 [4] ?_|refine bl0 [5] ?_|refine zy ?_);conv=>whnf)
 (refine G2 a7 ?_;conv=>whnf)
 repeat' first|(refine zd ?_ ?_<;>intro h<;>first|exact zc h|(exfalso;omega)|conv=>whnf)|((first|refine zz ?_|refine .inl ⟨_,_,pr _,?_⟩|refine zy ?_);conv=>whnf)
 refine x4 a7 _ ?_
 conv=>whnf
 repeat' first|(refine zd ?_ ?_<;>intro h<;>first|exact zc h|(exfalso;omega)|conv=>whnf)|((first|refine zz ?_|refine zy ?_);conv=>whnf)
 exact ⟨[some 2],rfl,rfl,⟨i8 (g4 _),trivial⟩,⟨⟨rfl,rfl,rfl,rfl,rfl,rfl,⟨rfl,rfl,rfl,fun h=>h⟩,rfl,trivial⟩,rfl,trivial⟩⟩
end
section
open Go.RowKit
theorem a4d {P:Program} {g:FuncId} {args args':List S} {H H':Hp} {r:S} (h:b9 P g args' H r H') (hl:args.length=args'.length)
 (hw:∀(w:World) (ι:Io) (M:Ms) (j:Nat) (s s':S) (v:Value),args[j]? =some s→args'[j]? =some s'→RS w ι M s v→RS w ι M s' v):b9 P g args H r H':=by
 refine ⟨h.1,fun w ι M vals hl2 hv hH hM hf=>h.2 w ι M vals (by omega) (fun j s' hj=>?_) hH hM hf⟩
 have hlt:=(lg1 hj).1
 exact hw w ι M j _ s' _ (lg0 (by omega)) hj (hv j _ (lg0 (by omega)))
theorem b0T {s:f5} {n:Nat} (b:Blk) (h:b9 Tryz.prog 199 [F0 s,j2 []] [] (.c (.ptr 0 0 0)) (T8 (d6 s).length n (d6 s) (g7 s []))):
 b9 Tryz.prog 199 [F0 s,.c (.t (.sl 0 .nil []))] [b] (.c (.ptr 1 0 0)) (b4i (d6 s).length n (d6 s) (g7 s []) b):=by
 refine a4d (a7s b h) rfl fun w ι M j x y v hx hy hr=>?_
 rcases j with _|_|j
 ·injection hx with hx;injection hy with hy;subst hx hy;exact hr
 ·injection hx with hx;injection hy with hy;subst hx hy
  cases hr with
  |c hr=>cases hr with
   |t hr=>exact .c (.t (hr.weak rfl))
 ·simp at hx
theorem a6s {s:f5} {g:List (Int × Rat)} {n B r:Nat} (h:z4 s g n B) (hr:r<(d6 s).length) (H:Hp):S4 Tryz.prog 203 [dT (d6 s).length n (d6 s) (k9 s g),a9 .i64 s.rows.length,a9 .i64 r] H (.c (.own H.length 0 s.rows.length true)) [flB (rF s.rows.length (a6I s (k9 s g) r))]:=by
 have hb:=a5K h
 have hp:O8 (d6 s).length n (k9 s g):=by have hn:=h.nn;subst hn;exact G8.p
 exact a3Q (ak1 s n r h.o.en (k9 s g) hp hr B (hb.a r hr) h.b1 h.bn (by have:=h.m;omega) h.r h.o.n1) rfl rfl (g4 _)
theorem aN4 {s:f5} {g:List (Int × Rat)} {n B c:Nat} (h:z4 s g n B) (hc:c<n):b9 Tryz.prog 202 [dT (d6 s).length n (d6 s) (k9 s g),a9 .i64 c] [] (k7 ((a5z s g c).map fz)) []:=by
 have hb:=a5K h
 have hB:=h.bb
 have hn:=h.nn
 subst hn
 exact b3C _ _ _ _ c hc G8.p (by have:=h.m;omega) h.o.n1 (fun i hi=>by have:=hb.a i hi c hc;omega)
abbrev b3T:List C:=frC C2
set_option maxHeartbeats 4000000 in
theorem au9 (s:f5) (g:List (Int × Rat)) (n B r:Nat) (h:z4 s g n B) (hout:G5 s g=.row r):
 b9 Tryz.prog 130 [F0 s,j2 g] [] (.tup [.agg (C.t (ti 1)::b3T++[.t (.sl 0 .nil []),.own 0 0 s.rows.length true,.t (.sl 0 .nil [])]),a9 .i64 0]) [flB (rF s.rows.length (a6I s (k9 s g) r))]:=by
 have hn:=h.nn
 have hm:=h.m
 have hr1:=h.r
 have hgl:=w6 h.o.tg
 have hn1:=h.o.n1
 have hrm:r<(d6 s).length:=by have:=(an1 hout).1;exact this
 have lr:=a1D s h.sb
 rw [h.o.r] at lr
 have rt:=I0 g s.n (by have:=h.o.n1;omega) h.gb
 rw [h.o.en,decide_eq_true (by omega),h.o.tg,←h.o.en] at rt
 have op:=a7s (bO z8) (ad5 s g n h.o)
 have se:=a0a h
 rw [hout] at se
 have m1:(s.rows.map s7).length=s.rows.length:=by simp
 have rf:∀H:Hp,S4 Tryz.prog 203 [dT (d6 s).length n (d6 s) (k9 s g),a9 .i64 ((s.rows.map s7).length:Nat),a9 .i64 r] H (.c (.own H.length 0 s.rows.length true)) [flB (rF s.rows.length (a6I s (k9 s g) r))]:=by rw [m1];exact a6s h hrm
 (refine a6f a7 Tryz.func130 rfl (by decide) ?_;refine G2 a7 ?_;(conv=>whnf);repeat ((first|refine b0x ?_|refine zy ?_);conv=>whnf))
 repeat' first|(refine zd ?_ ?_<;>intro h<;>first|exact zc h|(exfalso;omega)|conv=>whnf)|((first|refine zz ?_|refine b0x ?_|refine zy ?_);conv=>whnf)
 (refine G2 a7 ?_;conv=>whnf)
 repeat' first|(refine zd ?_ ?_<;>intro h<;>first|exact zc h|(exfalso;omega)|conv=>whnf)|((first|refine zz ?_|refine qp lr ?_|refine qp rt ?_|refine zy ?_);conv=>whnf)
 all_goals try (exfalso;simp_all;done)
 refine a0b a7 ([J,j2 g,S.c (C.t (T.ptr (a78 s))),J,S.c (C.ptr ((d6 s).length+6) 0 0),a9 .i64 0,S.c (C.ptr 0 0 0),J,J,J,J,J,J,J,J,J,J,J,J,J,J,J,J,J,J,J,J,J,J,J,J,J,J,J,J,J,J,J,J,J,J,J,J,J,J,J,J,J,J,J,J,J,J,J,J,J,J,J,J,J,J,J,J,J,J,J,J,J,J,J,J,J,J,J,J,J,J,J]) (G4 (d6 s).length n (d6 s) (g7 s g).V (g7 s g).G (g7 s g).O (g7 s g).F (g7 s g).A [bO z8]) ?_ ?_
 ·conv=>whnf
  repeat' first|(refine zd ?_ ?_<;>intro h<;>first|exact zc h|(exfalso;omega)|conv=>whnf)|((first|refine zz ?_|refine .inr ⟨_,_,op,?_⟩|refine C4 ?_|refine zy ?_);conv=>whnf)
  exact ⟨_,a4X an0 rfl ⟨rfl,j0 rfl,⟨by rw [w7 (by omega)];simp [fS],rfl,rfl⟩,rfl,⟨by rw [w7 (by omega)];simp [fS],rfl,rfl⟩,trivial⟩⟩
 refine a4O a7 ([J,j2 g,S.c (C.t (T.ptr (a78 s))),J,S.c (C.ptr 0 0 0),a9 .i64 0,dT (d6 s).length n (d6 s) (k9 s g),a9 .i64 r,a9 .i64 (-1),J,J,J,J,J,J,J,J,J,J,J,J,J,J,J,J,J,J,J,J,J,J,J,J,J,J,J,J,J,J,J,J,J,J,J,J,J,J,J,J,J,J,J,J,J,J,J,J,J,J,J,J,J,J,J,J,J,J,J,J,J,J,J,J,J,J,J,J,J]) [bO z8] ?_ ?_
 ·have si:=a3L [bO z8] rfl rfl se
  conv=>whnf
  repeat' first|(refine zd ?_ ?_<;>intro h<;>first|exact zc h|(exfalso;omega)|conv=>whnf)|((first|refine zz ?_|refine qp 4 ?_|refine .inr ⟨_,_,si,?_⟩|refine j6 ?_|refine bl0 [4] ?_|refine zy ?_);conv=>whnf)
  exact ⟨_,ac9 (bO z8) an0 ⟨.inl (j0 rfl),.inl (j0 rfl),.inl ⟨rfl,rfl,rfl⟩,.inl rfl,.inr (a7j fun i hi=>a3w hi),.inl rfl,.inl rfl,trivial⟩⟩
 (refine G2 a7 ?_;conv=>whnf)
 repeat' first|(refine zd ?_ ?_<;>intro h<;>first|exact zc h|(exfalso;omega)|conv=>whnf)|((first|refine zz ?_|refine zy ?_);conv=>whnf)
 all_goals try (exfalso;omega)
 (refine G2 a7 ?_;conv=>whnf)
 repeat' first|(refine zd ?_ ?_<;>intro h<;>first|exact zc h|(exfalso;omega)|conv=>whnf)|((first|refine zz ?_|refine .inl ⟨_,_,rf _,?_⟩|refine zy ?_);conv=>whnf)
 all_goals first
  |(exfalso;omega)
  |exact ⟨[some 1],rfl,rfl,⟨i8 (g4 _),trivial⟩,⟨⟨rfl,rfl,rfl,rfl,rfl,rfl,⟨rfl,rfl,rfl,fun h=>h⟩,rfl,trivial⟩,rfl,trivial⟩⟩
theorem aR9 {P:Program} {n0:Nat} {c:Operand} {t e:Code} {env:Env} {H:Hp} {Q:AX→Env→Hp→Prop} (hb:C7 env c=e6 true) (h:Awp P n0 t env H Q):Awp P n0 (.cond c t e) env H Q:=aQ8 hb h
set_option maxHeartbeats 4000000 in
theorem aj2 (s:f5) (g:List (Int × Rat)) (n B B0 c:Nat) (h:z4 s g n B) (h0:z4 s [] n B0) (hout:G5 s g=.col c) (hout0:G5 s []=.best):
 b9 Tryz.prog 130 [F0 s,j2 g] [] (.tup [.agg (C.t (ti 2)::b3T++[.t (M8 ((j1 s []).map fz)),.t (.sl 0 .nil []),.t (M8 ((a5z s g c).map fz))]),a9 .i64 0]) []:=by
 have hn:=h.nn
 have hm:=h.m
 have hr1:=h.r
 have hgl:=w6 h.o.tg
 have hn1:=h.o.n1
 have hcn:c<n:=by have:=(a5B hout).1;omega
 have lr:=a1D s h.sb
 rw [h.o.r] at lr
 have rt:=I0 g s.n (by have:=h.o.n1;omega) h.gb
 rw [h.o.en,decide_eq_true (by omega),h.o.tg,←h.o.en] at rt
 have op:=a7s (bO z8) (ad5 s g n h.o)
 have se:=a0a h
 rw [hout] at se
 have op0:=b0T (bO z8) (ad5 s [] n h0.o)
 have se0:=a0a h0
 rw [hout0] at se0
 have m1:(s.rows.map s7).length=s.rows.length:=by simp
 have pt:=a6J h0
 have ra:=aN4 h hcn
 (refine a6f a7 Tryz.func130 rfl (by decide) ?_;refine G2 a7 ?_;(conv=>whnf);repeat ((first|refine b0x ?_|refine zy ?_);conv=>whnf))
 repeat' first|(refine zd ?_ ?_<;>intro h<;>first|exact zc h|(exfalso;omega)|conv=>whnf)|((first|refine zz ?_|refine b0x ?_|refine zy ?_);conv=>whnf)
 (refine G2 a7 ?_;conv=>whnf)
 repeat' first|(refine zd ?_ ?_<;>intro h<;>first|exact zc h|(exfalso;omega)|conv=>whnf)|((first|refine zz ?_|refine qp lr ?_|refine qp rt ?_|refine zy ?_);conv=>whnf)
 all_goals try (exfalso;simp_all;done)
 refine a0b a7 ([J,j2 g,S.c (C.t (T.ptr (a78 s))),J,S.c (C.ptr ((d6 s).length+6) 0 0),a9 .i64 0,S.c (C.ptr 0 0 0),J,J,J,J,J,J,J,J,J,J,J,J,J,J,J,J,J,J,J,J,J,J,J,J,J,J,J,J,J,J,J,J,J,J,J,J,J,J,J,J,J,J,J,J,J,J,J,J,J,J,J,J,J,J,J,J,J,J,J,J,J,J,J,J,J,J,J,J,J,J,J]) (G4 (d6 s).length n (d6 s) (g7 s g).V (g7 s g).G (g7 s g).O (g7 s g).F (g7 s g).A [bO z8]) ?_ ?_
 ·conv=>whnf
  repeat' first|(refine zd ?_ ?_<;>intro h<;>first|exact zc h|(exfalso;omega)|conv=>whnf)|((first|refine zz ?_|refine .inr ⟨_,_,op,?_⟩|refine C4 ?_|refine zy ?_);conv=>whnf)
  exact ⟨_,a4X an0 rfl ⟨rfl,j0 rfl,⟨by rw [w7 (by omega)];simp [fS],rfl,rfl⟩,rfl,⟨by rw [w7 (by omega)];simp [fS],rfl,rfl⟩,trivial⟩⟩
 refine a4O a7 ([J,j2 g,S.c (C.t (T.ptr (a78 s))),J,S.c (C.ptr 0 0 0),a9 .i64 0,dT (d6 s).length n (d6 s) (k9 s g),a9 .i64 (-1),a9 .i64 c,J,J,J,J,J,J,J,J,J,J,J,J,J,J,J,J,J,J,J,J,J,J,J,J,J,J,J,J,J,J,J,J,J,J,J,J,J,J,J,J,J,J,J,J,J,J,J,J,J,J,J,J,J,J,J,J,J,J,J,J,J,J,J,J,J,J,J,J,J]) [bO z8] ?_ ?_
 ·have si:=a3L [bO z8] rfl rfl se
  conv=>whnf
  repeat' first|(refine zd ?_ ?_<;>intro h<;>first|exact zc h|(exfalso;omega)|conv=>whnf)|((first|refine zz ?_|refine qp 4 ?_|refine .inr ⟨_,_,si,?_⟩|refine j6 ?_|refine bl0 [4] ?_|refine zy ?_);conv=>whnf)
  exact ⟨_,ac9 (bO z8) an0 ⟨.inl (j0 rfl),.inl (j0 rfl),.inl ⟨rfl,rfl,rfl⟩,.inl rfl,.inr (a7j fun i hi=>a3w hi),.inl rfl,.inl rfl,trivial⟩⟩
 refine a81 ?_
 refine G2 a7 ?_
 conv=>whnf
 repeat' first|(refine zd ?_ ?_<;>intro h<;>first|exact zc h|(exfalso;omega)|conv=>whnf)|((first|refine zz ?_|refine zy ?_);conv=>whnf)
 all_goals try (exfalso;omega)
 refine aR9 rfl ?_
 refine a0b a7 ([J,j2 g,S.c (C.t (T.ptr (a78 s))),J,S.c (C.ptr ((d6 s).length+6) 0 0),a9 .i64 0,dT (d6 s).length n (d6 s) (k9 s g),a9 .i64 (-1),a9 .i64 c,S.c (C.ptr 0 0 0),J,J,J,J,J,J,J,J,J,J,J,J,J,J,J,J,J,J,J,J,J,J,J,J,J,J,J,J,J,J,J,J,J,J,J,J,J,J,J,J,J,J,J,J,J,J,J,J,J,J,J,J,J,J,J,J,J,J,J,J,J,J,J,J,J,J,J,J]) (G4 (d6 s).length n (d6 s) (g7 s []).V (g7 s []).G (g7 s []).O (g7 s []).F (g7 s []).A [bO z8]) ?_ ?_
 ·conv=>whnf
  repeat' first|(refine zd ?_ ?_<;>intro h<;>first|exact zc h|(exfalso;omega)|conv=>whnf)|((first|refine zz ?_|refine .inr ⟨_,_,op0,?_⟩|refine C4 ?_|refine zy ?_);conv=>whnf)
  exact ⟨_,a4X an0 rfl ⟨rfl,j0 rfl,⟨by rw [w7 (by omega)];simp [fS],rfl,rfl⟩,rfl,j0 rfl,rfl,rfl,⟨by rw [w7 (by omega)];simp [fS],rfl,rfl⟩,trivial⟩⟩
 refine a4O a7 ([J,j2 g,S.c (C.t (T.ptr (a78 s))),J,S.c (C.ptr 0 0 0),a9 .i64 0,dT (d6 s).length n (d6 s) (k9 s g),a9 .i64 (-1),a9 .i64 c,dT (d6 s).length n (d6 s) (k9 s []),a9 .i64 (-1),a9 .i64 (-1),J,J,J,J,J,J,J,J,J,J,J,J,J,J,J,J,J,J,J,J,J,J,J,J,J,J,J,J,J,J,J,J,J,J,J,J,J,J,J,J,J,J,J,J,J,J,J,J,J,J,J,J,J,J,J,J,J,J,J,J,J,J,J,J,J,J]) [bO z8] ?_ ?_
 ·have si:=a3L [bO z8] rfl rfl se0
  conv=>whnf
  repeat' first|(refine zd ?_ ?_<;>intro h<;>first|exact zc h|(exfalso;omega)|conv=>whnf)|((first|refine zz ?_|refine qp 4 ?_|refine .inr ⟨_,_,si,?_⟩|refine j6 ?_|refine bl0 [4] ?_|refine zy ?_);conv=>whnf)
  exact ⟨_,ac9 (bO z8) an0 ⟨.inl (j0 rfl),.inl (j0 rfl),.inl ⟨rfl,rfl,rfl⟩,.inl rfl,.inl (j0 rfl),.inl rfl,.inl rfl,.inr (a7j fun i hi=>a3w hi),.inl rfl,.inl rfl,trivial⟩⟩
 refine x4 a7 _ ?_
 conv=>whnf
 repeat' first|(refine zd ?_ ?_<;>intro h<;>first|exact zc h|(exfalso;omega)|conv=>whnf)|((first|refine zz ?_|refine qp pt ?_|refine qp ra ?_|refine zy ?_);conv=>whnf)
 all_goals first
  |(exfalso;omega)
  |exact ⟨[],rfl,rfl,trivial,⟨⟨rfl,rfl,rfl,rfl,rfl,rfl,rfl,rfl,trivial⟩,rfl,trivial⟩⟩
end
section
open Go.RowKit
theorem b2f (e:Ev) (hs:e.Sized) (n:Int) (g:FuncId) (caps:List T) (q:p7→Bool) (hg:∀(k:Nat) (m:p7),e.moves[k]? =some m→y3 e=0→b9 Tryz.prog g (aF6 m::caps.map fun x=>.c (.t x)) [] (e6 (q m)) []):
 b9 Tryz.prog 132 [evS e,a9 .i64 n,.c (.t (.fn (.func g) caps))] [] (g6 (if y3 e=0 then p5 (fun k m=>decide ((k:Int)<n) && q m) 0 e.moves else [])) []:=by
 have l1:=hs.s2
 have l2:(e.moves.map p7.row).length=e.moves.length:=by simp
 (refine a8 a7 Tryz.func132 rfl (by decide) ?_;(conv=>whnf);repeat (refine zy ?_;conv=>whnf))
 repeat' first|(refine zd ?_ ?_<;>intro h<;>first|exact zc h|(exfalso;omega)|conv=>whnf)|((first|refine zz ?_|refine qp (aL1 _ hs) ?_|refine zy ?_);conv=>whnf)
 ·refine j5 ?_
  rw [if_neg h]
  exact rfl
 have h0:y3 e=0:=by omega
 rw [if_pos h0]
 let P:Nat→p7→Bool:=fun k m=>decide ((k:Int)<n) && q m
 refine f6 a7 (fun k=>([J,a9 .i64 n,S.c (C.t (T.fn (.func g) caps)),S.c (C.ptr 0 0 0),J,J,J,X2 1 (K8 P e.moves k),J,J,J,J,J,J,S.c (C.t (a20 e.moves)),a9 .i64 e.moves.length,a9 .i64 k,J,J,J,J,J,J,J,J,J,J,J,J,J,J,J,J,J,J],[evB e,x8 (K8 P e.moves k)])) e.moves.length (fun k=>True) [some 0,none] trivial
  ⟨rfl,rfl,⟨⟨rfl,rfl,rfl,.inl ⟨rfl,k8 e⟩⟩,⟨rfl,rfl⟩,trivial⟩,⟨rfl,rfl,⟨rfl,rfl,rfl⟩,⟨rfl,rfl,rfl⟩,j0 rfl,c9 (by simp),c9 rfl,trivial⟩⟩ ?_
 intro k hk hI
 conv=>whnf
 repeat' first|(refine zd ?_ ?_<;>intro h<;>first|exact zc h|(exfalso;omega)|conv=>whnf)|((first|refine zz ?_|refine zy ?_);conv=>whnf)
 ·have hlt:k<e.moves.length:=by omega
  obtain ⟨x,hx⟩:∃x,e.moves[k]? =some x:=⟨_,lg0 hlt⟩
  refine d7 hx ?_
  conv=>whnf
  have hpl:=a4b P e.moves k
  have ha:(aF6 x::caps.map fun x=>S.c (C.t x)).all S.isT=true:=by simp [S.isT,C.isT,p7.cs,p7.row]
  repeat' first|(refine zd ?_ ?_<;>intro h<;>first|exact zc h|(exfalso;omega)|conv=>whnf)|((first|refine zz ?_|refine qp toC ?_|refine qp toC ?_|refine .inl ⟨_,_,F8 (hg k x hx h0) ha rfl,?_⟩|refine zz ?_|refine t9 (by simp [toC]) (by simp [toC];omega) ?_|refine zy ?_);conv=>whnf)
  ·have hP:P k x=true:=by simp [P,h];omega
   refine ⟨hlt,trivial,[some 0,some 3],rfl,rfl,⟨⟨rfl,rfl,rfl,.inl ⟨rfl,k8 e⟩⟩,b8 rfl rfl rfl ?_ rfl,trivial⟩,⟨rfl,rfl,⟨rfl,rfl,rfl⟩,j9 rfl ?_,rfl,rfl,rfl,trivial⟩⟩
   ·rw [a21 P hx hP,List.map_append]
    exact (congrArg (fun n=>List.take n (toC ((K8 P e.moves k).map g9))++toC [[ti k]]) (by simp)).trans an7
   ·rw [a21 P hx hP];simp [toC]
  all_goals
   have hP:P k x=false:=by simp [P];first|(intro hq;omega)|(intro _;assumption)
   refine ⟨hlt,trivial,[some 0,some 1],rfl,rfl,⟨⟨rfl,rfl,rfl,.inl ⟨rfl,k8 e⟩⟩,b8 rfl rfl rfl ?_ rfl,trivial⟩,⟨rfl,rfl,⟨rfl,rfl,rfl⟩,j9 rfl ?_,rfl,rfl,rfl,trivial⟩⟩
   ·rw [a0k P hx hP]
   ·rw [a0k P hx hP]
 ·have hk':p5 P 0 e.moves=K8 P e.moves k:=(a88 P (by omega)).symm
  show Fin 0 _ _ (g6 (p5 P 0 e.moves)) []
  rw [hk']
  exact N4 rfl (by intro h;cases h) rfl rfl (by simp)
end
section
open Go.RowKit
abbrev a3p (n:Int):T:=.ptr [ti n]
theorem aP7 (e:Ev) (hs:e.Sized) (h0:y3 e=0) (m:p7) (hm:m ∈ e.moves) (hh mat lo hi:Int):
 b9 Tryz.prog 133 (aF6 m::[T.ptr (evT e),a3p hh,a3p mat,a3p lo,a3p hi].map fun x=>.c (.t x)) [] (e6 (a2t e hh mat lo hi m)) []:=by
 have l1:=hs.s1
 have l2:(e.places.map J7.row).length=e.places.length:=by simp
 have hmk:=O2 h0 hm
 have h1:=a0J hmk
 obtain ⟨x,hx⟩:∃x,e.places[m.src.toNat]? =some x:=⟨_,lg0 (by omega)⟩
 (refine a8 a7 Tryz.func133 rfl (by decide) ?_;(conv=>whnf);repeat (refine zy ?_;conv=>whnf))
 repeat' first|(refine zd ?_ ?_<;>intro h<;>first|exact zc h|(exfalso;omega)|conv=>whnf)|((first|refine zz ?_|refine qp (a1N _ _ _) ?_|refine B5 h1.1 hx ?_|refine zy ?_);conv=>whnf)
 all_goals (refine c6 ?_;unfold a2t;rw [hx];simp_all;done)
theorem b2k (e:Ev) (hs:e.Sized) (hh mat lo hi:Int):b9 Tryz.prog 63 [evS e,a9 .i64 hh,a9 .i64 mat,a9 .i64 lo,a9 .i64 hi] [] (g6 (A8 e hh mat lo hi)) []:=by
 have l1:=hs.s2
 have l2:(e.moves.map p7.row).length=e.moves.length:=by simp
 (refine a8 a7 Tryz.func63 rfl (by decide) ?_;(conv=>whnf);repeat (refine zy ?_;conv=>whnf))
 refine .inr ⟨_,_,t4 [0,1,2,3,4] (b2f e hs (e.moves.map p7.row).length 133 [T.ptr (evT e),a3p hh,a3p mat,a3p lo,a3p hi] (a2t e hh mat lo hi) fun k m hm h0=>aP7 e hs h0 m (lg2 hm) hh mat lo hi)
  ⟨b7E e,ai6,a09 (b60 ?_),trivial⟩ rfl,?_⟩
 ·refine a3K (a7V (by simp) rfl (by intro h;cases h) rfl rfl) (a3K (a7V (by simp) rfl (by intro h;cases h) rfl rfl) (a3K (a7V (by simp) rfl (by intro h;cases h) rfl rfl) (a3K (a7V (by simp) rfl (by intro h;cases h) rfl rfl) (a3K (a7V (by simp) rfl (by intro h;cases h) rfl rfl) aW3))))
 conv=>whnf
 repeat' first|(refine zd ?_ ?_<;>intro h<;>first|exact zc h|(exfalso;omega)|conv=>whnf)|((first|refine zz ?_|refine zy ?_);conv=>whnf)
 refine j5 ?_
 have:(if y3 e=0 then p5 (fun k m=>decide ((k:Int)<(e.moves.map p7.row).length) && a2t e hh mat lo hi m) 0 e.moves else [])=A8 e hh mat lo hi:=by
  unfold A8
  split
  ·refine a8v _ e.moves.length (fun k m hk=>?_) 0 (by omega)
   simp;intro _;omega
  ·rfl
 rw [← this]
 exact rfl
end
section
open Go.RowKit
def au1 (A:Nat→List T) (g:Nat→List Int) (B:Nat→List T) (id:Nat) (i:Nat):List C:=(A i).map .t++.own id 0 (g i).length true::(B i).map .t
def a1s (n:Nat) (A:Nat→List T) (g:Nat→List Int) (B:Nat→List T):List (List C):=(List.range n).map fun i=>au1 A g B (i+1) i
def b45 (el:TypeId) (size n:Nat) (A:Nat→List T) (g:Nat→List Int) (B:Nat→List T):Blk:={ mode:=.live,elem:=el,size:=size,rows:=a1s n A g B,box:=false }
def T5 (el:TypeId) (size n:Nat) (A:Nat→List T) (g:Nat→List Int) (B:Nat→List T):Hp:=b45 el size n A g B::(List.range n).map fun i=>x8 (g i)
theorem W6 {n:Nat} {A:Nat→List T} {g:Nat→List Int} {B:Nat→List T}:(a1s n A g B).length=n:=by simp [a1s]
theorem a1H {n i:Nat} {A:Nat→List T} {g:Nat→List Int} {B:Nat→List T} (h:i<n):(a1s n A g B)[i]? =some (au1 A g B (i+1) i):=by simp [a1s,h]
theorem a5J {el:TypeId} {size n:Nat} {A:Nat→List T} {g:Nat→List Int} {B:Nat→List T}:(T5 el size n A g B).length=n+1:=by simp [T5]
def a6O (n j N:Nat):List (Option Nat):=(List.range (n+1)).map fun i=>some (if i=j+1 then N else i)
theorem S5 {n j N i:Nat} (h:i<n+1):(a6O n j N)[i]? =some (some (if i=j+1 then N else i)):=by simp [a6O,h]
theorem a9D {n j N:Nat}:(a6O n j N).length=n+1:=by simp [a6O]
theorem M5 {ρ:List (Option Nat)} {H:Hp}:∀l:List T,a2g ρ H (l.map C.t) (l.map C.t)
 |[]=>trivial
 |x::r=>⟨X0 x,M5 r⟩
theorem a2V {ρ:List (Option Nat)} {H:Hp}:∀{a b c d:List C},a2g ρ H a b→a2g ρ H c d→a2g ρ H (a++c) (b++d)
 |[],[],_,_,_,h=>h
 |x::a,y::b,_,_,h1,h2=>⟨h1.1,a2V h1.2 h2⟩
 |[],_::_,_,_,h,_=>h.elim
 |_::_,[],_,_,h,_=>h.elim
theorem a5x {ρ:List (Option Nat)} {H:Hp}:∀{xs ys:List (List C)},xs.length=ys.length→(∀ (i:Nat) (x y:List C),xs[i]? =some x→ys[i]? =some y→a2g ρ H x y)→a4H ρ H xs ys
 |[],[],_,_=>trivial
 |[],_::_,h,_=>by simp at h
 |_::_,[],h,_=>by simp at h
 |x::xs,y::ys,h,hh=>⟨hh 0 x y rfl rfl,a5x (by simpa using h) fun i a b ha hb=>hh (i+1) a b (by simpa using ha) (by simpa using hb)⟩
def a2U (g:Nat→List Int) (j:Nat) (l:List Int):Nat→List Int:=fun i=>if i=j then l else g i
theorem b0G {el:TypeId} {size n j N:Nat} {A:Nat→List T} {g:Nat→List Int} {B:Nat→List T} {l:List Int} {env env':Env} {H:Hp} {k0:Blk} (hj:j<n) (hnN:n<N)
 (h0:H[0]? =some k0) (hk0:k0.mode=.live∧k0.app=false∧k0.elem=el∧k0.size=size) (hr:k0.rows=(a1s n A g B).set j ((A j).map .t++.own N 0 l.length true::(B j).map .t))
 (hm:∀m,m<n→m≠j→H[m+1]? =some (x8 (g m))) (hN:H[N]? =some (x8 l)) (hE:Z2 (a6O n j N) H env env'):Ent 0 (a6O n j N) env H env' (T5 el size n A (a2U g j l) B):=by
 refine ⟨rfl,W0 fun a b m h1 h2=>?_,a3D (by rw [a9D,a5J]) fun i k' hk=>?_,hE⟩
 ·have ha:=(lg1 h1).1
  have hb:=(lg1 h2).1
  rw [a9D] at ha hb
  rw [S5 ha] at h1
  rw [S5 hb] at h2
  simp only [Option.some.injEq] at h1 h2
  split at h1<;>split at h2<;>omega
 ·have hi:=(lg1 hk).1
  rw [a5J] at hi
  refine ⟨if i=j+1 then N else i,?_⟩
  cases i with
  |zero=>
   refine ⟨k0,S5 hi,by simpa using h0,?_⟩
   simp [T5] at hk
   subst hk
   obtain ⟨q1,q2,q3,q4⟩:=hk0
   refine ⟨by unfold a1h;rw [q1,q2];rfl,q3,q4,.inr ?_⟩
   rw [hr]
   refine a5x (by rw [List.length_set,W6];exact W6.symm) fun a x y hx hy=>?_
   have han:a<n:=by have:=(lg1 hy).1;rw [show (b45 el size n A (a2U g j l) B).rows=a1s n A (a2U g j l) B from rfl,W6] at this;exact this
   have hy:(a1s n A (a2U g j l) B)[a]? =some y:=hy
   rw [a1H han] at hy
   injection hy with hy
   subst hy
   rw [List.getElem?_set,W6] at hx
   by_cases haj:j=a
   ·subst haj
    rw [if_pos rfl,if_pos hj] at hx
    injection hx with hx
    subst hx
    unfold au1
    have e1:a2U g j l j=l:=by simp [a2U]
    rw [e1]
    refine a2V (M5 _) ⟨⟨?_,rfl,rfl,fun h=>h⟩,M5 _⟩
    rw [S5 (by omega),if_pos rfl]
   ·rw [if_neg haj,a1H han] at hx
    injection hx with hx
    subst hx
    unfold au1
    have e1:a2U g j l a=g a:=by unfold a2U;rw [if_neg (fun h=>haj h.symm)]
    rw [e1]
    refine a2V (M5 _) ⟨⟨?_,rfl,rfl,fun h=>h⟩,M5 _⟩
    rw [S5 (by omega),if_neg (by omega)]
  |succ i=>
   have hin:i<n:=by omega
   have hk:((List.range n).map fun i=>x8 (a2U g j l i))[i]? =some k':=hk
   rw [List.getElem?_map,List.getElem?_range hin] at hk
   injection hk with hk
   subst hk
   by_cases hij:i=j
   ·subst hij
    refine ⟨x8 l,S5 hi,by rw [if_pos rfl];exact hN,?_⟩
    have e1:a2U g i l i=l:=by simp [a2U]
    show a3f _ _ _ (x8 (a2U g i l i))
    rw [e1]
    exact ⟨rfl,rfl,rfl,.inl ⟨rfl,g4 _⟩⟩
   ·refine ⟨x8 (g i),S5 hi,by rw [if_neg (by omega)];exact hm i hin hij,?_⟩
    have e1:a2U g j l i=g i:=by unfold a2U;rw [if_neg hij]
    show a3f _ _ _ (x8 (a2U g j l i))
    rw [e1]
    exact ⟨rfl,rfl,rfl,.inl ⟨rfl,g4 _⟩⟩
def aB7 (id n:Nat):List (Option Nat):=some id::List.replicate n none
theorem at1 {ρ:List (Option Nat)} {H:Hp}:∀{n:Nat} {R:List Blk},R.length=n→(∀ k ∈ R,k.rows=[]∧k.mode=.live)→a2C ρ H (List.replicate n none) R
 |0,[],_,_=>trivial
 |n+1,k::R,h,hh=>⟨hh k (by simp),at1 (by simpa using h) fun k hk=>hh k (by simp [hk])⟩
 |0,_::_,h,_=>by simp at h
 |n+1,[],h,_=>by simp at h
theorem a82 {H:Hp}:∀{n:Nat},O6 (List.replicate n none) H=true
 |0=>by cases H<;>rfl
 |n+1=>by
  rw [List.replicate_succ]
  cases H with
  |nil=>rfl
  |cons k H=>exact a82 (H:=H)
theorem a9l {m:Nat}:∀{n:Nat} {H:Hp},a36 m (List.replicate n none) H=false
 |0,H=>by cases H<;>rfl
 |n+1,[]=>rfl
 |n+1,k::H=>by
  rw [List.replicate_succ]
  unfold a36
  rw [a9l]
  cases k.mode<;>rfl
theorem b2J {el:TypeId} {size n id:Nat} {A B:Nat→List T} {env env':Env} {H:Hp} {k0:Blk} {s:Nat}
 (h0:H[id]? =some k0) (hk0:k0.mode=.live∧k0.app=false∧k0.elem=el∧k0.size=size) (hr:k0.rows=(List.range n).map fun i=>(A i).map .t++.t (.sl s .nil [])::(B i).map .t)
 (hE:Z2 (aB7 id n) H env env'):Ent 0 (aB7 id n) env H env' (T5 el size n A (fun _=>[]) B):=by
 obtain ⟨q1,q2,q3,q4⟩:=hk0
 refine ⟨rfl,?_,⟨?_,?_⟩,hE⟩
 ·unfold aB7 T5 O6
  rw [a9l,a82]
  rfl
 ·simp only [h0]
  refine ⟨by unfold a1h;rw [q1,q2];rfl,q3,q4,.inr ?_⟩
  rw [hr]
  refine a5x (by rw [show (b45 el size n A (fun _=>[]) B).rows=a1s n A (fun _=>[]) B from rfl,W6];simp) fun a x y hx hy=>?_
  have han:a<n:=by have:=(lg1 hx).1;simpa using this
  have hy:(a1s n A (fun _=>[]) B)[a]? =some y:=hy
  rw [a1H han] at hy
  injection hy with hy
  subst hy
  rw [List.getElem?_map,List.getElem?_range han] at hx
  injection hx with hx
  subst hx
  unfold au1
  refine a2V (M5 _) ⟨⟨?_,rfl,rfl⟩,M5 _⟩
  show (aB7 id n)[a+1]? =some none
  unfold aB7
  rw [List.getElem?_cons_succ,List.getElem?_replicate,if_pos han]
 ·refine at1 (by simp) fun k hk=>?_
  obtain ⟨i,_,rfl⟩:=List.mem_map.1 hk
  exact ⟨rfl,rfl⟩
theorem aZ3 {el:TypeId} {size n:Nat} {A:Nat→List T} {g:Nat→List Int} {B:Nat→List T} {env env':Env}
 (hE:Z2 [some 0] (T5 el size n A g B) env env'):Ent 0 [some 0] env (T5 el size n A g B) env' [{ mode:=.live,elem:=el,size:=size,rows:=toC ((List.range n).map fun i=>A i++I8 (g i)::B i),box:=false }]:=by
 refine ⟨rfl,rfl,⟨⟨rfl,rfl,rfl,.inr ?_⟩,trivial⟩,hE⟩
 show a4H _ _ (a1s n A g B) (toC _)
 refine a5x (by rw [W6];simp [toC]) fun a x y hx hy=>?_
 have han:a<n:=by have:=(lg1 hx).1;rw [W6] at this;exact this
 rw [a1H han] at hx
 injection hx with hx
 subst hx
 have hy:(((List.range n).map fun i=>A i++I8 (g i)::B i).map (·.map C.t))[a]? =some y:=hy
 rw [List.getElem?_map,List.getElem?_map,List.getElem?_range han] at hy
 injection hy with hy
 subst hy
 show a2g _ _ _ ((A a++I8 (g a)::B a).map C.t)
 rw [List.map_append,List.map_cons]
 unfold au1
 refine a2V (M5 _) ⟨?_,M5 _⟩
 have hk:(T5 el size n A g B)[a+1]? =some (x8 (g a)):=by simp [T5,han]
 exact show VC _ _ _ _ from t8 (by simp [I9];rfl) hk (by intro h;cases h) rfl rfl (by simp)
theorem aS5 {el:TypeId} {size n:Nat} {A:Nat→List T} {g:Nat→List Int} {B:Nat→List T}:∀k ∈ T5 el size n A g B,okB (n+1) k:=by
 intro k hk
 rcases List.mem_cons.1 hk with rfl|hk
 ·intro r hr c hc
  obtain ⟨i,hi,rfl⟩:=List.mem_map.1 hr
  have hi:=List.mem_range.1 hi
  unfold au1 at hc
  rcases List.mem_append.1 hc with hc|hc
  ·obtain ⟨x,_,rfl⟩:=List.mem_map.1 hc;trivial
  ·rcases List.mem_cons.1 hc with rfl|hc
   ·show i+1<n+1;omega
   ·obtain ⟨x,_,rfl⟩:=List.mem_map.1 hc;trivial
 ·obtain ⟨i,_,rfl⟩:=List.mem_map.1 hk
  exact C9 rfl
theorem aR6 {el:TypeId} {size n:Nat} {A:Nat→List T} {g:Nat→List Int} {B:Nat→List T} {env env':Env} {R:Hp} (hE:Z2 (idR (n+1)) (T5 el size n A g B++R) env env'):Ent 0 (idR (n+1)) env (T5 el size n A g B++R) env' (T5 el size n A g B):=
 aA5 a5J (Nat.zero_le _) aS5 hE
end
section
open Go.RowKit
def b3m (h:Fr) (b:Bool) (gs:List Int) (n:Int):List T:=[ti h.p.sg,I8 h.p.dl,ti h.q.sg,I8 h.q.dl,tb b,I8 gs,ti n]
def hiF (o:Option (Rat × Rat)):Fr:=match o with
 |some (_,hi)=>fz hi
 |none=>C2
def a0K (e:Ev) (i:Nat):Option (Rat × Rat):=match e.moves[i]? with
 |some x=>D3 e x
 |none=>none
theorem ak2 {e:Ev} {i:Nat} {x:p7} (h:e.moves[i]? =some x):a0K e i=D3 e x:=by unfold a0K;rw [h]
def Q6 (t:l9) (kind:Int) (i:Nat):List T:=b3m (hiF (a0K t.ev i)) (a0K t.ev i).isSome (i9 t.finds kind i) (n8 t.cleans kind i)
abbrev a1n (t:l9) (kind:Int):T:=.sl 7 .any ((List.range t.ev.moves.length).map (Q6 t kind))
end
end Go.Proofs.YtdbogogfeffjlaaGreat
