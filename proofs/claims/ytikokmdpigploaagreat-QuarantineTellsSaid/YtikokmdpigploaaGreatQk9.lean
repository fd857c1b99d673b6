/- Part 9. -/
import Derived.Test.YtikokmdpigploaaGreatQk8
namespace Go.Proofs.YtikokmdpigploaaGreat
set_option linter.all false
set_option maxRecDepth 100000
set_option maxHeartbeats 8000000
open Go.RowKit
open St1 St2 St3 St4 St5 St6 St7 St8 StA StB StC
abbrev m8 (l:List (Int × Rat)):S:=.c (.t (Z5 l))
def a49 (l:List (Int × Rat)):Nat->Int
 |0=>-1
 |k+1=>((l[k]?).map (·.1)).getD 0
def W1 {l:List (Int × Rat)} {k:Nat} {t:Int × Rat} (h:l[k]? =some t):a49 l (k+1)=t.1:=by simp [a49,h]
def S5 (l:List (Int × Rat)) (n:Int) (hl:l.length<=1000000) (hB:∀t ∈ l,rl t.2<=200):ec 153 [m8 l,eI n] [] (j8 (decide (0<=n) && j9 (-1) n l)) []:=by
 have m1:(l.map k6).length=l.length:=zq;by_cases h0:n<0
 ·rw [lbK om,a1Z];refine ac Tryz.func153 ?_;conv=>whnf
  repeat' (first|refine zx ?_|apply zD<;>intro h<;>try omega)<;>conv=>whnf
  all_goals first|omega|exact g9 rfl
 rw [lbI om,H9];refine ac Tryz.func153 ?_;conv=>whnf
 repeat' (first|refine zx ?_|apply zD<;>intro h<;>try omega)<;>conv=>whnf
 all_goals try omega
 refine i7 d9 (fun k=>([J,eI n,J,J,J,eI (a49 l k),J,J,J,J,m8 l,eI l.length,eI k]++Jn 22,[])) l.length (fun k=>j9 (-1) n l=j9 (a49 l k) n (l.drop k)) [] rfl
  ⟨rfl,rfl,trivial,⟨rfl,rfl,rfl,d7 zq,rz⟩⟩ ?_
 intro k hk hI;by_cases hlt:k<l.length
 ·obtain ⟨t,ht⟩:∃t,l[k]? =some t:=⟨_,lbf hlt⟩;obtain ⟨v,c⟩:=t;have bc:=hB _ (lbm ht);simp only at bc;have sg:=ah0 c om;have sz:=a6f (x:=c);rw [a1y ht,j9] at hI;simp only at hI;by_cases hok:a49 l k<v∧v<n∧c≠0
  ·rw [lbI hok.1,lbI hok.2.1,lbI hok.2.2] at hI;simp only [H9] at hI;have hne:sgR c≠0:=fun h=>hok.2.2 (sz.1 h)
   obtain ⟨q1,q2,_⟩:=hok;conv=>whnf
   repeat' (first|refine zx ?_|refine f7 ht ?_|apply zD<;>intro h<;>try omega)<;>conv=>whnf
   all_goals first|omega|exact ⟨hlt,by rw [W1 ht];exact hI,[],rfl,rfl,trivial,⟨rfl,d7 (by rw [W1 ht]),rz⟩⟩
  ·have hF:j9 (-1) n l=false:=by
    rw [hI];rw [← lbR];simp only [lbO,lbJ];exact fun h=>hok ⟨h.1.1.1,h.1.1.2,h.1.2⟩
   rw [hF];have hor:v<=a49 l k∨n<=v∨sgR c=0:=by
    by_cases q1:a49 l k<v
    ·by_cases q2:v<n
     ·refine .inr (.inr (sz.2 ?_));by_cases q3:c=0
      ·exact q3
      ·exact absurd ⟨q1,q2,q3⟩ hok
     ·exact .inr (.inl om)
    ·exact .inl om
   clear hI hok;conv=>whnf
   repeat' (first|refine zx ?_|refine f7 ht ?_|apply zD<;>intro h<;>try omega)<;>conv=>whnf
   all_goals first|omega|exact g9 rfl
 ·rw [lbo om] at hI;have hI:j9 (-1) n l=true:=hI;rw [hI];conv=>whnf
  repeat' (first|refine zx ?_|apply zD<;>intro h<;>try omega)<;>conv=>whnf
  all_goals first|omega|exact g9 rfl
structure aI2 (s:j2):Prop where
 n0:s.rows.length<=1000000
 t:∀w ∈ s.rows,w.terms.length<=100∧(∀ t ∈ w.terms,rl t.2<=200)∧rl w.value<=200
def aW0 (s:j2) (hb:aI2 s):ec 206 [S9 s] [] (j8 (n7 s)) []:=by
 have m1:(s.rows.map w5).length=s.rows.length:=zq;have l1:=hb.n0;by_cases h0:¬(0<=s.n∧s.n<=1500∧s.rows.length<=6000)
 ·have e1:n7 s=false:=by
   unfold n7;rw [← lbR];simp only [lbO,lbJ];exact fun h=>h0 ⟨h.1.1.1,h.1.1.2,h.1.2⟩
  rw [e1]
  (refine ac Tryz.func206 ?_;(conv=>whnf);repeat ((first|refine b0x ?_|refine zy ?_);conv=>whnf))
  repeat' (first|refine zx ?_|apply zD<;>intro h<;>try omega)<;>conv=>whnf
  all_goals first|omega|exact g9 rfl
 obtain ⟨c1,c2,c3⟩:=Decidable.not_not.1 h0;have e1:n7 s=s.rows.all (v6 s.n):=by
  unfold n7;rw [lbI c1,lbI c2,lbI c3];rfl
 rw [e1];clear h0
 (refine ac Tryz.func206 ?_;(conv=>whnf);repeat ((first|refine b0x ?_|refine zy ?_);conv=>whnf))
 repeat' (first|refine zx ?_|apply zD<;>intro h<;>try omega)<;>conv=>whnf
 all_goals try omega
 refine i7 d9 (fun k=>([J,S.c (C.t (T.ptr [ti s.n,J7 s.rows]))]++Jn 18++[S.c (C.t (J7 s.rows)),eI s.rows.length,eI k]++Jn 26,[])) s.rows.length (fun k=>(s.rows.take k).all (v6 s.n)=true) [] rfl
  ⟨rfl,rfl,trivial,⟨rfl,rfl,d7 zq,rz⟩⟩ ?_
 intro k hk hI;by_cases hlt:k<s.rows.length
 ·obtain ⟨w,hw⟩:∃w,s.rows[k]? =some w:=⟨_,lbf hlt⟩;obtain ⟨b1,b2,b3⟩:=hb.t w (lbm hw);have rt:=S5 w.terms s.n om b2;rw [lbI c1,H9] at rt;have rv:=L5 w.value om;cases hrt:j9 (-1) s.n w.terms with
  |false=>
   rw [hrt] at rt;have hF:v6 s.n w=false:=by unfold v6;rw [hrt];rfl
   rw [C5 hw hF];conv=>whnf
   repeat' (first|refine zx ?_|refine f7 hw ?_|apply zD<;>intro h<;>try omega)<;>conv=>whnf
   all_goals first
    |omega
    |(exfalso;simp_all;done)
    |exact g9 rfl
  |true=>
   rw [hrt] at rt;by_cases hk3:0<=w.kind∧w.kind<3
   ·have hT:v6 s.n w=true:=by unfold v6;rw [hrt,lbI hk3.1,lbI hk3.2];rfl
    conv=>whnf
    repeat' (first|refine zx ?_|refine f7 hw ?_|apply zD<;>intro h<;>try omega)<;>conv=>whnf
    all_goals first|omega|(exfalso;simp_all;done)|exact ⟨hlt,by rw [y9 hw,hI,hT];rfl,[],rz⟩
   ·have hF:v6 s.n w=false:=by
     unfold v6;rw [← lbR];simp only [lbO,lbJ];exact fun h=>hk3 ⟨h.1.2,h.2⟩
    rw [C5 hw hF];conv=>whnf
    repeat' (first|refine zx ?_|refine f7 hw ?_|apply zD<;>intro h<;>try omega)<;>conv=>whnf
    all_goals first|omega|(exfalso;simp_all;done)|exact g9 rfl
 ·rw [lbn om] at hI;rw [hI];conv=>whnf
  repeat' (first|refine zx ?_|apply zD<;>intro h<;>try omega)<;>conv=>whnf
  all_goals first|omega|exact g9 rfl
def b5x (rs:List Fr) (hl:rs.length<=1000000) (g:FuncId) (caps:List T) (q:Fr->Bool) (hg:∀r ∈ rs,ec g (frS r::caps.map fun x=>.c (.t x)) [] (j8 (q r)) []):
 ec 316 [.c (.t (z4 rs)),.c (.t (.fn (.func g) caps))] [] (eI (H5 q rs 0)) []:=by
 have l1:(rs.map t5).length=rs.length:=zq;refine ac Tryz.func316 ?_;conv=>whnf
 repeat' (first|refine zx ?_|apply zD<;>intro<;>try omega)<;>conv=>whnf
 refine i7 d9 (fun k=>([S.c (C.t (z4 rs)),S.c (C.t (T.fn (.func g) caps)),J,J,J,J,J,eI rs.length,eI k]++Jn 10,[])) rs.length (fun k=>H5 q (rs.drop k) k=H5 q rs 0) [] rfl
  ⟨rfl,rfl,trivial,⟨k8 rfl,k8 rfl,d7 zq,rz⟩⟩ ?_
 intro k hk hI;by_cases hlt:k<rs.length
 ·obtain ⟨r,hr⟩:∃r,rs[k]? =some r:=⟨_,lbf hlt⟩;have hd:rs.drop k=r::rs.drop (k+1):=by
   rw [a3y hlt];rw [lbf hlt] at hr;injection hr with hr;rw [hr]
  have hgr:=hg r (lbm hr);have ha:(frS r::caps.map fun x=>S.c (C.t x)).all S.isT=true:=by simp [S.isT,C.isT,t5]
  rw [hd] at hI;have hI:(if q r then (k:Int) else H5 q (rs.drop (k+1)) (k+1))=H5 q rs 0:=hI;cases hq:q r with
  |true=>
   rw [hq] at hgr hI;conv=>whnf
   repeat' (first|refine zx ?_|refine .inl ⟨_,_,D7 hgr ha rfl,?_⟩|refine f7 hr ?_|apply zD<;>intro<;>try omega)<;>conv=>whnf
   all_goals first
    |omega
    |exact o4 hI
  |false=>
   rw [hq] at hgr hI;conv=>whnf
   repeat' (first|refine zx ?_|refine .inl ⟨_,_,D7 hgr ha rfl,?_⟩|refine f7 hr ?_|apply zD<;>intro<;>try omega)<;>conv=>whnf
   all_goals first|omega|exact ⟨hlt,by simpa using hI,[],rz⟩
 ·have hke:k=rs.length:=by omega
  subst hke;rw [lbo (lbS _)] at hI;conv=>whnf
  repeat' (first|refine zx ?_|apply zD<;>intro<;>try omega)<;>conv=>whnf
  all_goals first|omega|exact o4 hI
def aR1 (rs:List Fr) (hl:rs.length<=1000000) (g:FuncId) (caps:List T) (q:Fr->Bool) (hg:∀r ∈ rs,ec g (frS r::caps.map fun x=>.c (.t x)) [] (j8 (q r)) []):
 ec 268 [.c (.t (z4 rs)),.c (.t (.fn (.func g) caps))] [] (j8 (rs.any q)) []:=by
 have ix:=b5x rs hl g caps q hg;refine ac Tryz.func268 ?_;conv=>whnf
 repeat' (first|refine zx ?_|apply zD<;>intro<;>try omega)<;>conv=>whnf
 all_goals (refine g9 ?_;rw [← a56 q rs 0];simp;omega)
def b62 (f:Fr) (lp:f.p.dl.length<=200000) (lq:f.q.dl.length<=200000):ec 269 (frS f::[].map fun x=>.c (.t x)) [] (j8 (!Q9 f)) []:=by
 have r:=b0a f lp lq;refine ac Tryz.func269 ?_;conv=>whnf
 repeat' (first|refine zx ?_|apply zD<;>intro<;>try omega)<;>conv=>whnf
 all_goals (refine g9 ?_;simp [*])
def bb5 (z:List Fr) (hl:z.length<=1000000) (hd:∀f ∈ z,f.p.dl.length<=200000∧f.q.dl.length<=200000):ec 207 [p5 z] [] (j8 (z.all Q9)) []:=by
 have ct:=aR1 z hl 269 [] _ (fun f hf=>b62 f (hd f hf).1 (hd f hf).2);have e:(z.any fun f=>!Q9 f)=!(z.all Q9):=by rw [List.not_all_eq_any_not]
 rw [e] at ct;cases hz:z.all Q9<;>rw [hz] at ct<;>
 ·refine ac Tryz.func207 ?_;conv=>whnf
  repeat' (first|refine zx ?_|apply zD<;>intro<;>try omega)<;>conv=>whnf
  all_goals exact g9 rfl
def a9Q {n:Int}:∀{l:List (Int × Rat)} {last:Int},j9 last n l=true->∀t ∈ l,last<t.1∧t.1<n
 |[],_,_,t,ht=>by cases ht
 |u::r,last,h,t,ht=>by
  unfold j9 at h;simp only [lbO,lbJ] at h;rcases lbB.1 ht with rfl|ht
  ·exact ⟨h.1.1.1,h.1.1.2⟩
  ·have:=a9Q h.2 t ht;omega
def aS9 {f:Nat->Nat->Rat} (m:Nat):∀n:Nat,k7 (fun i=>k7 (f i) m) n=k7 (fun j=>k7 (fun i=>f i j) n) m
 |0=>by
  show k7 _ 0=_;rw [x4 (f:=fun j=>k7 (fun i=>f i j) 0) (n:=m) fun j hj=>by simp only [k7,a0Q]];simp only [k7,a0Q]
 |n+1=>by
  simp only [k7];rw [aS9 m n,←a1s]
def a5C {n a:Nat} (ha:a<n) (v:Rat) (c:Nat->Rat):k7 (fun i=>(if a=i then v else 0)*c i) n=v*c a:=by
 rw [E1 ha,x4 fun j hj=>by
  by_cases h:j=a
  ·rw [if_pos h]
  ·rw [if_neg h,if_neg (fun e=>h e.symm)];grind]
 rw [if_pos rfl];grind
def C1 (s:j2) (i:Nat):z7:=s.rows.getD i ⟨[],2,0⟩
def S3 {s:j2} {i:Nat} {w:z7} (h:s.rows[i]? =some w):C1 s i=w:=by unfold C1;rw [lbl,h];rfl
def F7 (s:j2) (k:Nat):Nat × Bool:=(i8 s).getD k (0,false)
def chg (s:j2) (w:Nat) (p:Rat) (i:Nat):Rat:=if s.n.toNat<=w∧(F7 s (w - s.n.toNat)).1=i then -(S0 (F7 s (w - s.n.toNat)).2 p) else 0
def slV (s:j2) (w:Nat):Rat:=if s.n.toNat<=w then (j5 s []).V (w - s.n.toNat) else 0
def slA (s:j2) (l w:Nat):Rat:=if s.n.toNat<=w then (j5 s []).A (w - s.n.toNat) l else 0
def a6X {s:j2} {k:Nat} (hk:k<(i8 s).length):∃w,s.rows[(F7 s k).1]? =some w∧((F7 s k).2=false->w.kind≠0)∧((F7 s k).2=true->w.kind≠1):=by
 have:F7 s k ∈ i8 s:=by
  unfold F7;rw [lbl,lbf hk];exact lbF _
 exact Q1.1 this
def b0U {s:j2} {w:Nat} (hw:w<s.n.toNat+(i8 s).length) (p:Rat) (c:z7->Rat):
 k7 (fun i=>chg s w p i*c (C1 s i)) s.rows.length=if s.n.toNat<=w then -p*S0 (F7 s (w - s.n.toNat)).2 (c (C1 s (F7 s (w - s.n.toNat)).1)) else 0:=by
 by_cases h:s.n.toNat<=w
 ·rw [if_pos h];obtain ⟨x,hx,_⟩:=a6X (s:=s) (k:=w - s.n.toNat) om;have hl:=(lbe.1 hx).1;rw [j7 (g:=fun i=>(if (F7 s (w - s.n.toNat)).1=i then -(S0 (F7 s (w - s.n.toNat)).2 p) else 0)*c (C1 s i)) fun i hi=>by
   unfold chg;by_cases h2:(F7 s (w - s.n.toNat)).1=i
   ·rw [if_pos ⟨h,h2⟩,if_pos h2]
   ·rw [if_neg (fun e=>h2 e.2),if_neg h2]]
  rw [a5C hl];cases (F7 s (w - s.n.toNat)).2 with
  |false=>rfl
  |true=>show -(-p)*_=-p*-_;grind
 ·rw [if_neg h];exact x4 fun i hi=>by unfold chg;rw [if_neg (fun e=>h e.1)];grind
def b9W {s:j2} {w:Nat} (hw:w<s.n.toNat+(i8 s).length) (p:Rat):k7 (fun i=>chg s w p i*(C1 s i).value) s.rows.length=-p*slV s w:=by
 rw [b0U hw p z7.value];unfold slV;split
 ·rename_i h;obtain ⟨x,hx,_⟩:=a6X (s:=s) (k:=w - s.n.toNat) om;rw [S3 hx];have:(j5 s []).V (w - s.n.toNat)=S0 (F7 s (w - s.n.toNat)).2 x.value:=by show a3k s (F7 s (w - s.n.toNat))=_;unfold a3k;simp only [hx]
  rw [this]
 ·grind
def be6 {s:j2} {w:Nat} (hw:w<s.n.toNat+(i8 s).length) (p:Rat) (l:Nat):k7 (fun i=>chg s w p i*A7 (C1 s i).terms l) s.rows.length=-p*slA s l w:=by
 rw [b0U hw p (fun r=>A7 r.terms l)];unfold slA;split
 ·rename_i h;obtain ⟨x,hx,_⟩:=a6X (s:=s) (k:=w - s.n.toNat) om;rw [S3 hx];have:(j5 s []).A (w - s.n.toNat) l=S0 (F7 s (w - s.n.toNat)).2 (A7 x.terms l):=by show a23 s (F7 s (w - s.n.toNat)) l=_;unfold a23;simp only [hx]
  rw [this]
 ·grind
def yv (s:j2) (c:Rat) (t:Nat->Rat) (w:Nat):Rat:=if w<s.n.toNat then t w else c*(j5 s []).V (w - s.n.toNat) - k7 (fun l=>(j5 s []).A (w - s.n.toNat) l*t l) s.n.toNat
def b6z {s:j2} {g:List (Int × Rat)} (c:Rat) (t:Nat->Rat):Ids (i8 s).length s.n.toNat (j5 s g) (yv s c t) c:=by
 intro i hi;show yv s c t (s.n.toNat+i)=_;unfold yv;rw [if_neg om,show s.n.toNat+i - s.n.toNat=i by omega];show c*(j5 s g).V i - _=c*(j5 s g).V i - _
 congr 1
 refine j7 fun j hj=>?_
 show _=(j5 s g).A i j*(if j<s.n.toNat then t j else _);rw [if_pos hj];rfl
def b6h {s:j2} (w:Nat):yv s 1 (fun _=>0) w=slV s w:=by
 unfold yv slV;by_cases h:w<s.n.toNat
 ·rw [if_pos h,if_neg om]
 ·rw [if_neg h,if_pos om,x4 fun l hl=>by grind];grind
def bo0 {s:j2} {l:Nat} (hl:l<s.n.toNat) (w:Nat):yv s 0 (fun j=>if l=j then 1 else 0) w=(if l=w then 1 else 0) - slA s l w:=by
 unfold yv slA;by_cases h:w<s.n.toNat
 ·rw [if_pos h,if_neg (show ¬s.n.toNat<=w by omega)];grind
 ·rw [if_neg h,if_pos (show s.n.toNat<=w by omega),if_neg (show ¬l=w by omega),j7 (g:=fun j=>(if l=j then (1:Rat) else 0)*(j5 s []).A (w - s.n.toNat) j) fun j hj=>by grind,a5C hl];grind
def V7 (s:j2) (y:Nat->Rat) (l:Nat):Rat:=k7 (fun i=>y i*A7 (C1 s i).terms l) s.rows.length
def a4b (s:j2) (y:Nat->Rat):Rat:=k7 (fun i=>y i*(C1 s i).value) s.rows.length
def aY0 (s:j2) (y:Nat->Rat):Prop:=∀(i:Nat) (w:z7),s.rows[i]? =some w->(w.kind=0->0<=y i)∧(w.kind=1->y i<=0)
def b8t {s:j2} {w:Nat} (hw:w<s.n.toNat+(i8 s).length) {p:Rat} (hp:0<=p):aY0 s (chg s w p):=by
 intro i x hx;unfold chg;by_cases h:s.n.toNat<=w∧(F7 s (w - s.n.toNat)).1=i
 ·rw [if_pos h];obtain ⟨x',hx',h1,h2⟩:=a6X (s:=s) (k:=w - s.n.toNat) om;rw [h.2,hx] at hx';injection hx' with hx';subst hx';cases hb:(F7 s (w - s.n.toNat)).2 with
  |false=>exact ⟨fun e=>absurd e (h1 hb),fun _=>by show -p<=0;grind⟩
  |true=>exact ⟨fun _=>by show 0<=-(-p);grind,fun e=>absurd e (h2 hb)⟩
 ·rw [if_neg h];exact ⟨fun _=>by grind,fun _=>by grind⟩
def b0d {s:j2} {f:Nat->Nat->Rat}:∀n:Nat,(∀ j,j<n->aY0 s (f j))->aY0 s (fun i=>k7 (fun j=>f j i) n)
 |0,_=>fun i w hw=>⟨fun _=>by simp only [k7,a0Q];grind,fun _=>by simp only [k7,a0Q];grind⟩
 |n+1,h=>fun i w hw=>by
  have h1:=b0d n (fun j hj=>h j om) i w hw;have h2:=h n om i w hw;simp only [k7];exact ⟨fun e=>by have:=h1.1 e;have:=h2.1 e;grind,fun e=>by have:=h1.2 e;have:=h2.2 e;grind⟩
def V4 (s:j2) (E:Fd) (i:Nat):Rat:=k7 (fun j=>chg s (E.F j) (-(E.G j)) i) s.n.toNat
def a89 {s:j2} {f:Nat->Nat->Rat} {c:Nat->Rat} {n R:Nat}:k7 (fun i=>k7 (fun j=>f j i) n*c i) R=k7 (fun j=>k7 (fun i=>f j i*c i) R) n:=by
 rw [← aS9];refine j7 fun i hi=>?_
 rw [j7 (f:=fun j=>f j i*c i) (g:=fun j=>c i*f j i) fun j hj=>by grind,G1];grind
structure bi4 (s:j2) (g:Nat->Rat) (y:Nat->Rat) (v:Rat):Prop where
 sign:aY0 s y
 mix:∀l,l<s.n.toNat->V7 s y l<=g l
 val:a4b s y=v
def b8P {s:j2} {g:List (Int × Rat)} (hr:n7 s=true) (hg:j9 (-1) ((s.n.toNat:Nat):Int) g=true) (h:X7 s g=.best):bi4 s (A7 g) (V4 s (y8 s g)) (n8 g (u9 s g)):=by
 obtain ⟨hv,hgj⟩:=aA8 h;have hi:=O3 (s:=s) (g:=g);obtain ⟨z,hz⟩:=hi.g;have hF:∀j,j<s.n.toNat->(y8 s g).F j<s.n.toNat+(i8 s).length:=fun j hj=>hi.p.fb j hj
 refine ⟨b0d _ fun j hj=>b8t (hF j hj) (by have:=hgj j hj;grind),fun l hl=>?_,?_⟩
 ·have h1:=hz _ _ ((hi.i _ 0).1 (b6z (s:=s) (g:=g) 0 (fun j=>if l=j then 1 else 0)));rw [j7 (g:=fun j=>(if l=j then (1:Rat) else 0)*-(A7 g j)) fun j hj=>by unfold yv;rw [if_pos hj];grind,a5C hl] at h1;unfold V7 V4;rw [a89 (s:=s),j7 (g:=fun j=>(y8 s g).G j*slA s l ((y8 s g).F j)) fun j hj=>by rw [be6 (hF j hj)];grind];rw [j7 (g:=fun j=>(y8 s g).G j*(if l=(y8 s g).F j then 1 else 0)+(-1:Rat)*((y8 s g).G j*slA s l ((y8 s g).F j))) fun j hj=>by rw [bo0 hl];grind,a1s,G1] at h1;have h2:k7 (fun j=>(y8 s g).G j*(if l=(y8 s g).F j then (1:Rat) else 0)) s.n.toNat<=0:=a85 fun j hj=>by
   have:=hgj j hj;split<;>grind
  grind
 ·have h1:=hz _ _ ((hi.i _ 1).1 (b6z (s:=s) (g:=g) 1 (fun _=>0)));rw [x4 fun j hj=>by unfold yv;rw [if_pos hj];grind] at h1;unfold a4b V4;rw [a89 (s:=s),j7 (g:=fun j=>(y8 s g).G j*slV s ((y8 s g).F j)) fun j hj=>by rw [b9W (hF j hj)];grind];rw [j7 (g:=fun j=>(y8 s g).G j*slV s ((y8 s g).F j)) fun j hj=>by rw [b6h]] at h1;obtain ⟨⟨y,k1,k2,k3,k4⟩,_⟩:=aT8 hi.p hz hv hgj;have k1':=(hi.i y 1).2 k1;have e:u9 s g=zOf s.n.toNat y:=by unfold u9;rw [k4]
  have h6:k7 (fun j=>-(A7 g j)*y j) s.n.toNat=-(n8 g (zOf s.n.toNat y)):=by
   rw [← ak8 hg];exact j7 fun j hj=>by rw [b1m k1' j om]
  rw [e];rw [h6] at k3;grind
def b4r {s:j2} {g:List (Int × Rat)} {c y:Nat->Rat} {v:Rat} (h:bi4 s c y v) {z:List Rat} (hz:m9 s z=true):v<=k7 (fun l=>c l*z.getD l 0) s.n.toNat:=by
 obtain ⟨hr,hl,hp,hw⟩:=Y3.1 hz;have hn:=L3 hr;have h0:∀l,l<s.n.toNat->0<=z.getD l 0:=fun l hl'=>by
  rw [lbl,lbf om];exact hp _ (lbF _)
 have h1:k7 (fun l=>V7 s y l*z.getD l 0) s.n.toNat<=k7 (fun l=>c l*z.getD l 0) s.n.toNat:=by
  have:=a2z (f:=fun l=>(c l - V7 s y l)*z.getD l 0) (n:=s.n.toNat) fun l hl'=>lb2 (by have:=h.mix l hl';grind) (h0 l hl')
  rw [j7 (g:=fun l=>c l*z.getD l 0+(-1:Rat)*(V7 s y l*z.getD l 0)) fun l hl'=>by grind,a1s,G1] at this;grind
 have h2:k7 (fun l=>V7 s y l*z.getD l 0) s.n.toNat=k7 (fun i=>y i*n8 (C1 s i).terms z) s.rows.length:=by
  unfold V7;rw [a89 (s:=s) (f:=fun i l=>y i*A7 (C1 s i).terms l)];refine j7 fun i hi=>?_
  have hx:s.rows[i]? =some (C1 s i):=by unfold C1;rw [lbl,lbf hi];rfl
  rw [P9 (Y4 hr hx).1 z,←G1];exact j7 fun l hl=>zg
 have h3:0<=k7 (fun i=>y i*(n8 (C1 s i).terms z - (C1 s i).value)) s.rows.length:=a2z fun i hi=>by
  have hx:s.rows[i]? =some (C1 s i):=by unfold C1;rw [lbl,lbf hi];rfl
  obtain ⟨_,k1,k2⟩:=Y4 hr hx;obtain ⟨s1,s2⟩:=h.sign i _ hx;obtain ⟨b1,b2⟩:=hw _ (lbm hx);by_cases e0:(C1 s i).kind=0
  ·have:=b1 om;exact lb2 (s1 e0) zg
  ·by_cases e1:(C1 s i).kind=1
   ·have:=b2 e0;have:=lb2 (show 0<=-(y i) by have:=s2 e1;grind) (show 0<=-(n8 (C1 s i).terms z - (C1 s i).value) by grind);grind
   ·have a1:=b1 e1;have a2:=b2 e0;have:n8 (C1 s i).terms z - (C1 s i).value=0:=zg;rw [this];grind
 rw [j7 (g:=fun i=>y i*n8 (C1 s i).terms z+(-1:Rat)*(y i*(C1 s i).value)) fun i hi=>by grind,a1s,G1] at h3;have h4:=h.val;unfold a4b at h4;grind
def rF (n:Nat) (g:Nat->Rat):List Fr:=(List.range n).map fun j=>fz (g j)
def mF (m n:Nat) (A:Nat->Nat->Rat):List (List Fr):=(List.range m).map fun i=>rF n (A i)
def K5 (n:Nat) (g:Nat->Rat):(rF n g).length=n:=by simp [rF]
def f6 (m n:Nat) (A:Nat->Nat->Rat):(mF m n A).length=m:=by simp [mF]
def E6 {n:Nat} {g:Nat->Rat} {j:Nat} (h:j<n):(rF n g)[j]? =some (fz (g j)):=by simp [rF,h]
def U3 {m n:Nat} {A:Nat->Nat->Rat} {i:Nat} (h:i<m):(mF m n A)[i]? =some (rF n (A i)):=by simp [mF,h]
def S4 {n:Nat} {g:Nat->Rat} {s:Nat} {v:Rat} (h:s<n):(rF n g).set s (fz v)=rF n (fun j=>if j=s then v else g j):=by
 apply a05;intro j;by_cases hj:j<n
 ·rw [E6 hj,lbg,K5];by_cases hjm:s=j
  ·subst hjm;simp [h]
  ·rw [if_neg hjm,E6 hj,if_neg om]
 ·rw [lbd (by simp [K5];omega),lbd (by simp [K5];omega)]
def s9 {n:Nat} {g h:Nat->Rat} (e:∀j,j<n->g j=h j):rF n g=rF n h:=lbp fun j hj=>by rw [e j (lbC.1 hj)]
def b0J {m n:Nat} {A B:Nat->Nat->Rat} (e:∀i,i<m->∀j,j<n->A i j=B i j):mF m n A=mF m n B:=lbp fun i hi=>s9 (e i (lbC.1 hi))
def b6a {m n:Nat} {A:Nat->Nat->Rat} {r:Nat} {g:Nat->Rat} (h:r<m):(mF m n A).set r (rF n g)=mF m n (fun i=>if i=r then g else A i):=by
 apply a05;intro j;by_cases hj:j<m
 ·rw [U3 hj,lbg,f6];by_cases hjm:r=j
  ·subst hjm;simp [h]
  ·rw [if_neg hjm,U3 hj,if_neg om]
 ·rw [lbd (by simp [f6];omega),lbd (by simp [f6];omega)]
abbrev flB (l:List Fr):Blk:={ mode:=.live,elem:=86,size:=4,rows:=toC (l.map t5),box:=false }
def I5 {row:List Fr} {i n:Nat} {y:Fr} (h:n=i):t4 (flB row) ((toC (row.map t5)).set n (frC y))=flB (row.set i y):=by
 subst h;unfold t4;simp [toC,a1R,t5]
def W6 (b m n:Nat) (V:Nat->Rat):List (List C):=(List.range m).map fun i=>frC (fz (V i))++[C.own (i+b) 0 n true]
def X6 (m:Nat) (O:Nat->Nat):List (List T):=(List.range m).map fun i=>[ti (O i)]
def a15 (l:LB):List (List T):=l.map fun f=>[ti f.1,tb f.2]
def F2 (b m n:Nat) (V:Nat->Rat):(W6 b m n V).length=m:=by simp [W6]
def l9 (m:Nat) (O:Nat->Nat):(X6 m O).length=m:=by simp [X6]
def a3O {b m n:Nat} {V:Nat->Rat} {i:Nat} (h:i<m):(W6 b m n V)[i]? =some (frC (fz (V i))++[C.own (i+b) 0 n true]):=by simp [W6,h]
def a88 {m:Nat} {O:Nat->Nat} {i:Nat} (h:i<m):(X6 m O)[i]? =some [ti (O i)]:=by simp [X6,h]
def b4k {b m n:Nat} {V:Nat->Rat} {r:Nat} {v:Rat} (h:r<m):(W6 b m n V).set r (frC (fz v)++[C.own (r+b) 0 n true])=W6 b m n (fun i=>if i=r then v else V i):=by
 apply a05;intro j;by_cases hj:j<m
 ·rw [a3O hj,lbg,F2];by_cases hjm:r=j
  ·subst hjm;simp [h]
  ·rw [if_neg hjm,a3O hj,if_neg om]
 ·rw [lbd (by simp [F2];omega),lbd (by simp [F2];omega)]
def b8y {m:Nat} {O:Nat->Nat} {r v:Nat} (h:r<m):(X6 m O).set r [ti v]=X6 m (fun i=>if i=r then v else O i):=by
 apply a05;intro j;by_cases hj:j<m
 ·rw [a88 hj,lbg,l9];by_cases hjm:r=j
  ·subst hjm;simp [h]
  ·rw [if_neg hjm,a88 hj,if_neg om]
 ·rw [lbd (by simp [l9];omega),lbd (by simp [l9];omega)]
abbrev b2T (m n k:Nat):Blk:={ mode:=.live,elem:=285,size:=6,rows:=[[C.t (ti n),.own 1 0 m true,.own 2 0 n true,.own 3 0 m true,.own 4 0 n true,.own 5 0 k true]],box:=true }
abbrev a1x (b m n:Nat) (V:Nat->Rat):Blk:={ mode:=.live,elem:=288,size:=5,rows:=W6 b m n V,box:=false }
abbrev R3 (m:Nat) (O:Nat->Nat):Blk:={ mode:=.live,elem:=3,size:=1,rows:=toC (X6 m O),box:=false }
abbrev a2o (l:LB):Blk:={ mode:=.live,elem:=306,size:=2,rows:=toC (a15 l),box:=false }
abbrev a10 (m n:Nat) (fr:LB) (D:Fd):Hp:=
 b2T m n fr.length::a1x 6 m n D.V::flB (rF n D.G)::R3 m D.O::R3 n D.F::a2o fr::(mF m n D.A).map flB
def a3Q {m n:Nat} {fr:LB} {D:Fd}:(a10 m n fr D).length=m+6:=by simp [f6]
def ar5 {b m n N:Nat} {V:Nat->Rat} (h:m+b<=N):okB N (a1x b m n V):=by
 intro r hr c hc;obtain ⟨i,hi,rfl⟩:=lby.1 hr;have:=lbC.1 hi;simp [frC] at hc;rcases hc with rfl|rfl|rfl|rfl|rfl<;>first|trivial|(simp only;omega)
def b43 {m n k N:Nat} (h:6<=N):okB N (b2T m n k):=by
 intro r hr c hc;simp at hr;subst hr;simp at hc;rcases hc with rfl|rfl|rfl|rfl|rfl|rfl<;>first|trivial|(simp only;omega)
def a8B {m n:Nat} {fr:LB} {D:Fd}:∀k ∈ a10 m n fr D,okB (m+6) k:=by
 intro k hk;simp only [lbB] at hk;rcases hk with rfl|rfl|rfl|rfl|rfl|rfl|hk
 ·exact b43 om
 ·exact ar5 (lbS _)
 ·exact t7 rfl
 ·exact t7 rfl
 ·exact t7 rfl
 ·exact t7 rfl
 ·obtain ⟨l,_,rfl⟩:=lby.1 hk;exact t7 rfl
def ah6 (x:Rat):(fz x).p.sg=0↔x=0:=by
 show x.num.sign=0↔_;rw [b25,Rat.num_eq_zero]
def rl0:rl 0<=1:=by
 have h0:=o7 (x:=0) de de;have h1:=o7 (x:=1) de de;show max (bl 0) (bl 1)<=1;omega
def rl1:rl 1<=1:=by
 have h1:=o7 (x:=1) de de;show max (bl 1) (bl 1)<=1;omega
def bt4 (x y:Rat) (hy:y≠0) (lx:rl x<=60000) (ly:rl y<=60000):ec 336 [frS (fz x),frS (fz y)] [] (.tup [frS (fz (x / y)),eI 0]) []:=by
 have r1:=L5 x om;have r2:=L5 y om;have x1:=G9 x;have x2:=H6 x;have y1:=G9 y;have y2:=H6 y;have hn:y.num≠0:=fun h=>hy (Rat.num_eq_zero.1 h)
 have hs:y.num.sign≠0:=fun h=>hn (b25.1 h)
 have hsg:=ah6 y;have l1:=E3 x.num y.den;have l3:=E3 x.den y.num;have t1:=a29 x.num y.den om om;have t3:=a29 x.den y.num om om;have n:=aI8 (x.num*y.den) (x.den*y.num) (Int.mul_ne_zero (b1S x) hn) om om;rw [← b9q] at n;refine ac Tryz.func336 ?_;conv=>whnf
 repeat' (first|refine zx ?_|apply zD<;>intro h<;>try omega)<;>conv=>whnf
 all_goals first|(exfalso;simp_all;done)|exact a0f rfl
def a58 (x:Rat) (lx:rl x<=60000):ec 291 [frS (fz x)] [] (frS (fz (-x))) []:=by
 have r1:=L5 x om;have x1:=G9 x;have x2:=H6 x;have n:=a9G x.num om;have s:=ao4 x.den om;have e:fz (-x)=⟨bz (-x.num),bz x.den⟩:=rfl;rw [e];refine ac Tryz.func291 ?_;conv=>whnf
 repeat' (first|refine zx ?_|apply zD<;>intro<;>try omega)<;>conv=>whnf
 all_goals first|(exfalso;simp_all;done)|exact n9 rz
def aq3 (x:Rat):ec 324 [frS (fz x)] [] (j8 (decide (x=0))) []:=by
 have h:=ah6 x;refine ac Tryz.func324 ?_;conv=>whnf
 repeat' (first|refine zx ?_|apply zD<;>intro h<;>try omega)<;>conv=>whnf
 all_goals (refine g9 ?_;simp_all)
def b2s (a b c:Rat) (la:rl a<=60000) (lb:rl b<=30000) (lc:rl c<=30000):ec 325 [frS (fz a),frS (fz b),frS (fz c)] [] (frS (fz (a - b*c))) []:=by
 have z1:=aq3 b;have z2:=aq3 c;have m:=as8 b c om om;have lm:=a52 b c;have s:=b84 a (b*c) la om;by_cases hb:b=0
 ·have e:a - b*c=a:=by rw [hb];grind
  rw [e];refine ac Tryz.func325 ?_;conv=>whnf
  repeat' (first|refine zx ?_|apply zD<;>intro<;>try omega)<;>conv=>whnf
  all_goals first|(exfalso;simp_all;done)|exact n9 rz
 ·by_cases hc:c=0
  ·have e:a - b*c=a:=by rw [hc];grind
   rw [e];refine ac Tryz.func325 ?_;conv=>whnf
   repeat' (first|refine zx ?_|apply zD<;>intro<;>try omega)<;>conv=>whnf
   all_goals first|(exfalso;simp_all;done)|exact n9 rz
  ·refine ac Tryz.func325 ?_;conv=>whnf
   repeat' (first|refine zx ?_|apply zD<;>intro<;>try omega)<;>conv=>whnf
   all_goals first|(exfalso;simp_all;done)|exact n9 rz
def b1g (a b:Rat) (hb:b≠0) (la:rl a<=60000) (lb:rl b<=60000):ec 323 [frS (fz a),frS (fz b)] [] (frS (fz (a / b))) []:=by
 have d:=bt4 a b hb la lb;refine ac Tryz.func323 ?_;conv=>whnf
 repeat' (first|refine zx ?_|apply zD<;>intro<;>try omega)<;>conv=>whnf
 all_goals exact n9 rz
def tkF (a row:Nat->Rat) (s k:Nat):Nat->Rat:=fun j=>if j<k∧j≠s then a j - a s*row j else a j
def tkA (a row:Nat->Rat) (s:Nat):Nat->Rat:=fun j=>if j=s then 0 - a s*row s else a j - a s*row j
def pZ (k n:Nat):List Fr:=(List.range n).map fun j=>if j<k then fz 0 else M4
def as4 (k n:Nat):(pZ k n).length=n:=by simp [pZ]
def a4X {k n j:Nat} (h:j<n):(pZ k n)[j]? =some (if j<k then fz 0 else M4):=by simp [pZ,h]
def b5F {k n:Nat} (h:k<n):(pZ k n).set k (fz 0)=pZ (k+1) n:=by
 apply a05;intro j;by_cases hj:j<n
 ·rw [a4X hj,lbg,as4];by_cases hjk:k=j
  ·subst hjk;simp [h]
  ·rw [if_neg hjk,a4X hj];have:(j<k+1)↔(j<k):=om;simp only [this]
 ·rw [lbd (by simp [as4];omega),lbd (by simp [as4];omega)]
def am2 (n:Nat):pZ n n=rF n (fun _=>0):=lbp fun j hj=>by rw [if_pos (lbC.1 hj)]
def ba6 (n:Nat) (hn:n<=1000):ec 289 [eI n] [] (.c (.own 0 0 n true)) [flB (rF n fun _=>0)]:=by
 have i0:=W9 0 de de;have hnn:(n:Int).toNat=n:=om;refine ac Tryz.func289 ?_;conv=>whnf
 repeat' (first|refine zx ?_|refine a0x om om om de ?_|apply zD<;>intro h<;>try omega)<;>conv=>whnf
 refine i7 d9 (fun k=>([eI n,J,J,S.c (C.own 0 0 n true),J,J,J,J,eI n,eI k]++Jn 8,[flB (pZ k n)])) n tT [some 0] trivial
  ⟨rfl,rfl,⟨⟨rfl,rfl,rfl,.inr (a1O ?_ ?_)⟩,trivial⟩,⟨k8 rfl,⟨rfl,rfl,om,fun h=>h⟩,d7 om,d7 rfl,trivial⟩⟩ ?_
 ·simp [F5,toC,as4]
 ·intro i x y hx hy;simp only [F5,lbk] at hx;split at hx
  ·rename_i hi;injection hx with hx;subst hx;have hy:(toC ((pZ 0 n).map t5))[i]? =some y:=hy;rw [toC,lba,lba,a4X om,if_neg om] at hy;injection hy with hy;subst hy;exact rz
  ·cases hx
 intro k hk _;by_cases hlt:k<n
 ·obtain ⟨pf,hpf⟩:∃pf,(pZ k n)[k]? =some pf:=⟨_,a4X hlt⟩;have gp:(pZ k n)[0+(k:Int).toNat]? =some pf:=by rw [O5,show (k:Int).toNat=k by omega];exact hpf
  have eM:0+(k:Int).toNat=k:=om;conv=>whnf
  repeat' (first|refine zx ?_|refine p8 gp ?_|apply zD<;>intro h<;>try omega)<;>conv=>whnf
  all_goals first
   |omega
   |(refine ⟨hlt,trivial,[some 0],rfl,rfl,⟨d8 (rows:=(pZ (k+1) n).map t5) rfl rfl rfl ?_ rfl,trivial⟩,⟨rfl,⟨rfl,rfl,rfl,fun h=>h⟩,rfl,d7 om,trivial⟩⟩
     have e:=I5 (row:=pZ k n) (y:=fz 0) eM;rw [b5F hlt] at e;exact congrArg Blk.rows e)
 ·have hke:k=n:=by omega
  subst hke;conv=>whnf
  repeat' (first|refine zx ?_|apply zD<;>intro h<;>try omega)<;>conv=>whnf
  all_goals first|omega|exact ⟨[some 0],rfl,rfl,⟨d8 (rows:=(rF k fun _=>0).map t5) rfl rfl rfl (by rw [← am2]) rfl,trivial⟩,⟨rfl,rfl,rfl,fun h=>h⟩⟩
def b8k (a row:Nat->Rat) (s:Nat):tkF a row s 0=a:=by funext j;unfold tkF;rw [if_neg om]
def bx6 (a row:Nat->Rat) (s k:Nat):tkF a row s k k=a k:=by unfold tkF;rw [if_neg om]
def bD3 (a row:Nat->Rat) (s k:Nat):tkF a row s k s=a s:=by unfold tkF;rw [if_neg om]
def b65 {a row:Nat->Rat} {s k:Nat} (h:k≠s):(fun j=>if j=k then a k - a s*row k else tkF a row s k j)=tkF a row s (k+1):=by
 funext j;by_cases hj:j=k
 ·subst hj;rw [if_pos rfl];unfold tkF;rw [if_pos ⟨om,h⟩]
 ·rw [if_neg hj];unfold tkF;have:(j<k∧j≠s)↔(j<k+1∧j≠s):=om;simp only [this]
def b88 {a row:Nat->Rat} {s:Nat}:tkF a row s s=tkF a row s (s+1):=by
 funext j;unfold tkF;have:(j<s∧j≠s)↔(j<s+1∧j≠s):=om;simp only [this]
def b9n {a row:Nat->Rat} {s n:Nat}:rF n (fun j=>if j=s then 0 - a s*row s else tkF a row s n j)=rF n (tkA a row s):=s9 fun j hj=>by
 unfold tkA tkF;by_cases h:j=s
 ·rw [if_pos h,if_pos h]
 ·rw [if_neg h,if_neg h,if_pos ⟨hj,h⟩]
abbrev frX (x:Rat):Blk:={ mode:=.live,elem:=86,size:=4,rows:=[frC (fz x)],box:=true }
def b2B {ρ:List (Option Nat)} {H:Hp} (x:Rat):a30 ρ H (frX x) (frX x):=⟨rfl,rfl,rfl,.inl ⟨rfl,e7 [t5 (fz x)]⟩⟩
def br7 (n s:Nat) (a row:Nat->Rat) (hn:n<=1000) (hs:s<n) (ha:∀j,j<n->rl (a j)<=30000) (hr:∀j,j<n->rl (row j)<=30000):
 ec 326 [.c (.own 0 0 n true),.c (.own 1 0 n true),eI s] [flB (rF n a),flB (rF n row)] (.tup []) [flB (rF n (tkA a row s)),flB (rF n row)]:=by
 have i0:=W9 0 de de;have ls:=ha s hs;have eS:0+(s:Int).toNat=s:=om;have gs:(rF n a)[0+(s:Int).toNat]? =some (fz (a s)):=by rw [eS,E6 hs]
 refine ac Tryz.func326 ?_;conv=>whnf
 repeat' (first|refine zx ?_|refine p8 gs ?_|apply zD<;>intro h<;>try omega)<;>conv=>whnf
 refine i7 d9 (fun k=>([S.c (C.own 0 0 n true),S.c (C.own 1 0 n true),eI s,J,J,J,sP 2 0 0,J,J,J,J,J,J,eI n,eI k]++Jn 29,[flB (rF n (tkF a row s k)),flB (rF n row),frX (a s)])) n tT [some 0,some 1,some 2] trivial
  ⟨rfl,rfl,⟨d8 (rows:=(rF n a).map t5) rfl rfl rfl rfl (by rw [b8k]),d8 rfl rfl rfl rfl rfl,b2B _,trivial⟩,⟨⟨rfl,rfl,rfl,fun h=>h⟩,⟨rfl,rfl,rfl,fun h=>h⟩,rfl,rz,d7 rfl,d7 rfl,trivial⟩⟩ ?_
 intro k hk _;by_cases hlt:k<n
 ·have eM:0+(k:Int).toNat=k:=by omega
  have lk:=ha k hlt;have lr:=hr k hlt;have g1:(rF n (tkF a row s k))[0+(k:Int).toNat]? =some (fz (a k)):=by rw [eM,E6 hlt,bx6]
  have g2:(rF n row)[0+(k:Int).toNat]? =some (fz (row k)):=by rw [eM,E6 hlt]
  have le:=b2s (a k) (a s) (row k) om om om;by_cases hks:k=s
  ·subst hks;conv=>whnf
   repeat' (first|refine zx ?_|refine p8 g1 ?_|refine p8 g2 ?_|apply zD<;>intro h<;>try omega)<;>conv=>whnf
   all_goals first|omega|exact ⟨hlt,trivial,[some 0,some 1,some 2],rfl,rfl,⟨d8 (rows:=(rF n (tkF a row k k)).map t5) rfl rfl rfl rfl (by rw [b88]),d8 rfl rfl rfl rfl rfl,b2B _,trivial⟩,⟨⟨rfl,rfl,rfl,fun h=>h⟩,⟨rfl,rfl,rfl,fun h=>h⟩,rfl,rz,d7 rfl,d7 rfl,trivial⟩⟩
  ·conv=>whnf
   repeat' (first|refine zx ?_|refine p8 g1 ?_|refine p8 g2 ?_|apply zD<;>intro h<;>try omega)<;>conv=>whnf
   all_goals first
    |omega
    |(refine ⟨hlt,trivial,[some 0,some 1,some 2],rfl,rfl,⟨d8 (rows:=(rF n (tkF a row s (k+1))).map t5) rfl rfl rfl ?_ rfl,d8 rfl rfl rfl rfl rfl,b2B _,trivial⟩,⟨⟨rfl,rfl,rfl,fun h=>h⟩,⟨rfl,rfl,rfl,fun h=>h⟩,rfl,rz,d7 rfl,d7 rfl,trivial⟩⟩
      have e:=I5 (row:=rF n (tkF a row s k)) (y:=fz (a k - a s*row k)) eM;rw [S4 hlt,b65 hks] at e;exact congrArg Blk.rows e)
 ·have hke:k=n:=by omega
  subst hke;have g2:(rF k row)[0+(s:Int).toNat]? =some (fz (row s)):=by rw [eS,E6 hs]
  have lr:=hr s hs;have le:=b2s 0 (a s) (row s) (by have:=rl0;omega) om om;have le:ec 325 [frS (fz ((0:Int):Rat)),frS (fz (a s)),frS (fz (row s))] [] (frS (fz (0 - a s*row s))) []:=le;conv=>whnf
  have g1:(rF k (tkF a row s k))[0+(s:Int).toNat]? =some (fz (a s)):=by rw [eS,E6 hs,bD3]
  repeat' (first|refine zx ?_|refine p8 g2 ?_|refine p8 g1 ?_|apply zD<;>intro h<;>try omega)<;>conv=>whnf
  all_goals first
   |omega
   |(refine ⟨[some 0,some 1],rfl,rfl,⟨d8 (rows:=(rF k (tkA a row s)).map t5) rfl rfl rfl ?_ rfl,d8 rfl rfl rfl rfl rfl,trivial⟩,trivial⟩
     have e:=I5 (row:=rF k (tkF a row s k)) (y:=fz (0 - a s*row s)) eS;rw [S4 hs,b9n] at e;exact congrArg Blk.rows e)
def leI:Option Nat->Int
 |none=>-1
 |some a=>a
def U2 (f:Nat->Nat) (p:Nat->Bool) (k:Nat):B5 f p (k+1)=match B5 f p k with
 |none=>if p k then some k else none
 |some a=>if p k && decide (f k<f a) then some k else some a:=rfl
def s8 {m:Nat} {f:Nat->Nat} {n:Int} {i:Nat} {K:List T->Prop} (e:n=i) (h:i<m) (k:K [ti (f i)]):∃row,0<=n∧(X6 m f)[n.toNat]? =some row∧K row:=by
 subst e;exact ⟨_,om,by rw [show (i:Int).toNat=i by omega,a88 h],k⟩
abbrev ab1 (m:Nat) (f:Nat->Nat):S:=.c (.t (.sl 1 .any (X6 m f)))
def a6U (m:Nat) (hm:m<=100000) (f:Nat->Nat) (p:Nat->Bool) (g:FuncId) (caps:List T) (hg:∀i:Nat,i<m->ec g (eI i::caps.map fun x=>.c (.t x)) [] (j8 (p i)) []):
 ec 292 [ab1 m f,.c (.t (.fn (.func g) caps))] [] (eI (leI (B5 f p m))) []:=by
 have m1:(X6 m f).length=m:=l9 m f;refine ac Tryz.func292 ?_;conv=>whnf
 repeat' (first|refine zx ?_|apply zD<;>intro<;>try omega)<;>conv=>whnf
 refine i7 d9 (fun k=>([ab1 m f,S.c (C.t (T.fn (.func g) caps)),J,J,J,eI (leI (B5 f p k)),J,J,ab1 m f,eI m,eI k]++Jn 22,[])) m tT [] trivial
  ⟨rfl,rfl,trivial,⟨k8 rfl,k8 rfl,d7 rfl,k8 rfl,d7 om,d7 rfl,trivial⟩⟩ ?_
 intro k hk _;by_cases hlt:k<m
 ·have hgr:=hg k hlt;have ha:(eI (k:Int)::caps.map fun x=>S.c (C.t x)).all S.isT=true:=by simp [S.isT,C.isT,c9]
  cases hp:p k with
  |false=>
   rw [hp] at hgr;have e1:leI (B5 f p k)=leI (B5 f p (k+1)):=by
    rw [U2,hp];cases B5 f p k<;>rfl
   conv=>whnf
   repeat' (first|refine zx ?_|refine .inl ⟨_,_,D7 hgr ha rfl,?_⟩|refine s8 rfl hlt ?_|apply zD<;>intro<;>try omega)<;>conv=>whnf
   all_goals first
    |omega
    |exact ⟨hlt,trivial,[],rfl,rfl,trivial,⟨rfl,rfl,d7 e1,rfl,rfl,d7 rfl,trivial⟩⟩
  |true=>
   rw [hp] at hgr;cases hl:B5 f p k with
   |none=>
    have hle:leI none=-1:=rfl;have e1:(k:Int)=leI (B5 f p (k+1)):=by rw [U2,hl,hp];rfl
    conv=>whnf
    repeat' (first|refine zx ?_|refine .inl ⟨_,_,D7 hgr ha rfl,?_⟩|refine s8 rfl hlt ?_|apply zD<;>intro<;>try omega)<;>conv=>whnf
    all_goals first
     |omega
     |exact ⟨hlt,trivial,[],rfl,rfl,trivial,⟨rfl,rfl,d7 e1,rfl,rfl,d7 rfl,trivial⟩⟩
   |some b=>
    have hb:=(C6 hl).1;have hle:leI (some b)=b:=rfl;by_cases hc:f k<f b
    ·have e1:(k:Int)=leI (B5 f p (k+1)):=by rw [U2,hl,hp];simp [hc,leI]
     conv=>whnf
     repeat' (first|refine zx ?_|refine .inl ⟨_,_,D7 hgr ha rfl,?_⟩|refine s8 rfl hlt ?_|refine s8 (i:=b) hle om ?_|apply zD<;>intro<;>try omega)<;>conv=>whnf
     all_goals first|omega|exact ⟨hlt,trivial,[],rfl,rfl,trivial,⟨rfl,rfl,d7 e1,rfl,rfl,d7 rfl,trivial⟩⟩
    ·have e1:leI (some b)=leI (B5 f p (k+1)):=by rw [U2,hl,hp];simp [hc,leI]
     conv=>whnf
     repeat' (first|refine zx ?_|refine .inl ⟨_,_,D7 hgr ha rfl,?_⟩|refine s8 rfl hlt ?_|refine s8 (i:=b) hle om ?_|apply zD<;>intro<;>try omega)<;>conv=>whnf
     all_goals first|omega|exact ⟨hlt,trivial,[],rfl,rfl,trivial,⟨rfl,rfl,d7 e1,rfl,rfl,d7 rfl,trivial⟩⟩
 ·have hke:k=m:=by omega
  subst hke;conv=>whnf
  repeat' (first|refine zx ?_|apply zD<;>intro<;>try omega)<;>conv=>whnf
  all_goals first|omega|exact o4 rfl
def ac7 (m n:Nat) (D:Fd):List (List T):=(List.range m).map fun i=>t5 (fz (D.V i))++[T.sl 4 .any ((rF n (D.A i)).map t5)]
def bi2 (m n:Nat) (fr:LB) (D:Fd):List T:=[ti n,.sl 5 .any (ac7 m n D),.sl 4 .any ((rF n D.G).map t5),.sl 1 .any (X6 m D.O),.sl 1 .any (X6 n D.F),.sl 2 .any (a15 fr)]
def a9Z {m n:Nat} {D:Fd} {i:Nat} (h:i<m):(ac7 m n D)[i]? =some (t5 (fz (D.V i))++[T.sl 4 .any ((rF n (D.A i)).map t5)]):=by simp [ac7,h]
def a6C (m n:Nat) (D:Fd):(ac7 m n D).length=m:=by simp [ac7]
def a42 {m n:Nat} {D:Fd} {x:Int} {i:Nat} {K:List T->Prop} (e:x=i) (h:i<m) (k:K (t5 (fz (D.V i))++[T.sl 4 .any ((rF n (D.A i)).map t5)])):∃row,0<=x∧(ac7 m n D)[x.toNat]? =some row∧K row:=by
 subst e;exact ⟨_,om,by rw [show (i:Int).toNat=i by omega,a9Z h],k⟩
def a55 {n:Nat} {g:Nat->Rat} {x:Int} {j:Nat} {K:List T->Prop} (e:x=j) (h:j<n) (k:K (t5 (fz (g j)))):∃row,0<=x∧((rF n g).map t5)[x.toNat]? =some row∧K row:=by
 subst e;exact ⟨_,om,by rw [show (j:Int).toNat=j by omega,lba,E6 h];rfl,k⟩
def b6m (x:Rat):(fz x).p.sg<0↔x<0:=by
 show x.num.sign<0↔_;rw [a8Q];unfold sgR;split<;>(try split)<;>simp_all
def b6n (x:Rat):(fz x).p.sg > 0↔0<x:=by
 show x.num.sign > 0↔_;rw [a8Q];unfold sgR;split
 ·constructor
  ·intro h;omega
  ·intro h;grind
 ·split<;>simp_all
abbrev a7G (m n:Nat) (fr:LB) (D:Fd):T:=.ptr [.ptr (bi2 m n fr D)]
def b5n (m n:Nat) (fr:LB) (D:Fd) (i:Nat) (hi:i<m):
 ec 293 (eI i::[a7G m n fr D].map fun x=>.c (.t x)) [] (j8 (decide (D.V i<0))) []:=by
 have h:=b6m (D.V i);refine ac Tryz.func293 ?_;conv=>whnf
 repeat' (first|refine zx ?_|refine a42 rfl hi ?_|apply zD<;>intro h<;>try omega)<;>conv=>whnf
 all_goals (refine g9 ?_;simp_all)
def b4W (m n:Nat) (fr:LB) (D:Fd) (j:Nat) (hj:j<n):
 ec 294 (eI j::[a7G m n fr D].map fun x=>.c (.t x)) [] (j8 (decide (0<D.G j))) []:=by
 have h:=b6n (D.G j);refine ac Tryz.func294 ?_;conv=>whnf
 repeat' (first|refine zx ?_|refine a55 rfl hj ?_|apply zD<;>intro h<;>try omega)<;>conv=>whnf
 all_goals (refine g9 ?_;simp_all)
def aB8 (m n:Nat) (fr:LB) (D:Fd) (r j:Nat) (hr:r<m) (hj:j<n):
 ec 295 (eI j::[a7G m n fr D,T.ptr [ti r]].map fun x=>.c (.t x)) [] (j8 (decide (D.A r j<0))) []:=by
 have h:=b6m (D.A r j);refine ac Tryz.func295 ?_;conv=>whnf
 repeat' (first|refine zx ?_|refine a42 rfl hr ?_|refine a55 rfl hj ?_|apply zD<;>intro h<;>try omega)<;>conv=>whnf
 all_goals (refine g9 ?_;simp_all)
def aB2 (m n:Nat) (fr:LB) (D:Fd) (i s:Nat) (hi:i<m) (hs:s<n):
 ec 296 (eI i::[a7G m n fr D,T.ptr [ti s]].map fun x=>.c (.t x)) [] (j8 (decide (0<D.A i s))) []:=by
 have h:=b6n (D.A i s);refine ac Tryz.func296 ?_;conv=>whnf
 repeat' (first|refine zx ?_|refine a42 rfl hi ?_|refine a55 rfl hs ?_|apply zD<;>intro h<;>try omega)<;>conv=>whnf
 all_goals (refine g9 ?_;simp_all)
def b33 {H:Hp} {ia ir n s:Nat} {a row:Nat->Rat} (hne:ia≠ir) (ga:H[ia]? =some (flB (rF n a))) (gr:H[ir]? =some (flB (rF n row))) (hn:n<=1000) (hs:s<n) (ha:∀j,j<n->rl (a j)<=30000) (hr:∀j,j<n->rl (row j)<=30000):
 ec 326 [.c (.own ia 0 n true),.c (.own ir 0 n true),eI s] H (.tup []) (H.set ia (flB (rF n (tkA a row s)))):=by
 have la:ia<H.length:=(lbe.1 ga).1;refine W4 [ia,ir] (br7 n s a row hn hs ha hr) rfl rfl rfl (by simp;exact hne) ?_ ?_ zq rfl rfl zq ?_ ?_
 ·intro i k hk
  match i,hk with
  |0,hk=>injection hk with hk;subst hk;exact ⟨rfl,rfl,a57 _,_,ga,B3 rfl⟩
  |1,hk=>injection hk with hk;subst hk;exact ⟨rfl,rfl,a57 _,_,gr,B3 rfl⟩
 ·intro k hk;simp at hk;rcases hk with rfl|rfl<;>(intro h;cases h)
 ·intro i k hk
  match i,hk with
  |0,hk=>
   injection hk with hk;subst hk
   refine ⟨_,?_,B3 rfl⟩;show (H.set ia _)[ia]? =_;rw [lbg,if_pos rfl,if_pos la]
  |1,hk=>
   injection hk with hk;subst hk
   refine ⟨_,?_,B3 rfl⟩;show (H.set ia _)[ir]? =_;rw [lbg,if_neg hne];exact gr
 ·intro j hj hjn;simp at hjn;rw [lbg,if_neg (fun h=>hjn.1 h.symm)]
def a3u {b m n i r:Nat} {V:Nat->Rat} {K:List C->Prop} (e:i=r) (h:r<m) (k:K (frC (fz (V r))++[C.own (r+b) 0 n true])):∃row,(W6 b m n V)[i]? =some row∧K row:=by
 subst e;exact ⟨_,a3O h,k⟩
def aL1 {rows:List (List C)} {i:Nat} {x:List C} {K:List C->Prop} (h:i<rows.length) (k:K x):∃row,(rows.set i x)[i]? =some row∧K row:=⟨x,List.getElem?_set_self h,k⟩
def bh3 {rows:List (List C)} {i j:Nat} {x:List C} {K:List C->Prop} (h:i≠j) (k:∃row,rows[j]? =some row∧K row):∃row,(rows.set i x)[j]? =some row∧K row:=by
 rw [List.getElem?_set_ne h];exact k
def a5X (a:Nat->Rat) (p:Rat) (s k:Nat):Nat->Rat:=fun j=>if j<k∧j≠s then a j / p else a j
def A1 (D:Fd) (r s k:Nat):Nat->Nat->Rat:=fun i=>if i=r then a5X (D.A r) (D.A r s) s k else D.A i
def bD1 {D:Fd} {r s k:Nat}:A1 D r s k r k=D.A r k:=by unfold A1 a5X;rw [if_pos rfl,if_neg om]
def bH3 {D:Fd} {r s k:Nat}:A1 D r s k r s=D.A r s:=by unfold A1 a5X;rw [if_pos rfl,if_neg om]
def bi1 {D:Fd} {r s k:Nat} (h:k≠s):(fun i=>if i=r then (fun j=>if j=k then D.A r k / D.A r s else A1 D r s k r j) else A1 D r s k i)=A1 D r s (k+1):=by
 funext i j;by_cases hi:i=r
 ·subst hi;simp only [if_true];unfold A1 a5X;simp only [if_true];by_cases hj:j=k
  ·subst hj;rw [if_pos rfl,if_pos ⟨om,h⟩]
  ·rw [if_neg hj];have:(j<k∧j≠s)↔(j<k+1∧j≠s):=om;simp only [this]
 ·rw [if_neg hi];unfold A1;rw [if_neg hi,if_neg hi]
def b9a {D:Fd} {r s:Nat}:A1 D r s s=A1 D r s (s+1):=by
 funext i j;unfold A1 a5X;have:(j<s∧j≠s)↔(j<s+1∧j≠s):=om;split
 ·simp only [this]
 ·rfl
def b9P {D:Fd} {r s k:Nat} (h:D.A r k=0):A1 D r s k=A1 D r s (k+1):=by
 funext i j;unfold A1 a5X;split
 ·show (if j<k∧j≠s then D.A r j / D.A r s else D.A r j)=if j<k+1∧j≠s then D.A r j / D.A r s else D.A r j
  by_cases hj:j=k
  ·subst hj;rw [if_neg (show ¬(j<j∧j≠s) by omega)];split
   ·rw [h];grind
   ·rfl
  ·have:(j<k∧j≠s)↔(j<k+1∧j≠s):=by omega
   simp only [this]
 ·rfl
def b3X {m n r:Nat} {A B:Nat->Nat->Rat} {g:Nat->Rat} (h:r<m) (e:(fun i=>if i=r then g else A i)=B):(mF m n A).set r (rF n g)=mF m n B:=by rw [b6a h,e]
def V1 (D:Fd) (r s:Nat):Nat->Rat:=fun i=>if i=r then D.V r / D.A r s else D.V i
def V2 (D:Fd) (r s k:Nat):Nat->Rat:=fun i=>if i=r then D.V r / D.A r s else if i<k then D.V i - D.A i s*(D.V r / D.A r s) else D.V i
def A2 (D:Fd) (r s k:Nat):Nat->Nat->Rat:=fun i=>if i=r then D.pRow r s else if i<k then tkA (D.A i) (D.pRow r s) s else D.A i
def aW9 {a row:Nat->Rat} {s:Nat} (h:a s=0):tkA a row s=a:=by
 funext j;unfold tkA;by_cases hj:j=s
 ·rw [if_pos hj,hj,h];grind
 ·rw [if_neg hj,h];grind
def M7 {m i r:Nat} {f:Nat->Nat} {K:List C->Prop} (e:i=r) (h:r<m) (k:K [C.t (ti (f r))]):∃row,(toC (X6 m f))[i]? =some row∧K row:=by
 subst e;exact ⟨_,by simp [toC,a88 h],k⟩
def E9 {α β:Type} {f:β->α} {M:List β} {T:List α} {i:Nat} {x:β} (h:M[i]? =some x):(M.map f++T)[i]? =some (f x):=by
 rw [lbb (by simpa using (lbe.1 h).1),lba,h];rfl
def b6d {α β:Type} {f:β->α} {M:List β} {T:List α} {i:Nat} {x:β} (h:i<M.length):(M.map f++T).set i (f x)=(M.set i x).map f++T:=by
 rw [b3y _ _ (by simpa using h),←a1R]
def b9d {m n:Nat} {D:Fd} {r s:Nat} (hr:r<m) (hs:s<n):(mF m n (A1 D r s n)).set r ((rF n (A1 D r s n r)).set s (fz (((1:Int):Rat) / D.A r s)))=mF m n (A2 D r s 0):=by
 rw [S4 hs,b6a hr];refine b0J fun i hi j hj=>?_
 unfold A2;by_cases hir:i=r
 ·rw [if_pos hir,if_pos hir];unfold Fd.pRow A1 a5X;rw [if_pos rfl];by_cases hjs:j=s
  ·rw [if_pos hjs,if_pos hjs];rfl
  ·rw [if_neg hjs,if_neg hjs,if_pos ⟨hj,hjs⟩]
 ·rw [if_neg hir,if_neg hir,if_neg om];unfold A1;rw [if_neg hir]
def b9C {D:Fd} {r s:Nat}:V2 D r s 0=V1 D r s:=by
 funext i;unfold V2 V1;split
 ·rfl
 ·rw [if_neg om]
def bB8 {D:Fd} {r s k:Nat}:V2 D r s k r=D.V r / D.A r s:=by unfold V2;rw [if_pos rfl]
def b80 {D:Fd} {r s k:Nat} (h:k≠r):V2 D r s k k=D.V k:=by unfold V2;rw [if_neg h,if_neg om]
def bF9 {D:Fd} {r s k:Nat}:A2 D r s k r=D.pRow r s:=by unfold A2;rw [if_pos rfl]
def bj6 {D:Fd} {r s k:Nat} (h:k≠r):A2 D r s k k=D.A k:=by unfold A2;rw [if_neg h,if_neg om]
def b3I {D:Fd} {r s k:Nat} (h:k≠r):(fun i=>if i=k then D.V k - D.A k s*(D.V r / D.A r s) else V2 D r s k i)=V2 D r s (k+1):=by
 funext i;by_cases hi:i=k
 ·subst hi;rw [if_pos rfl];unfold V2;rw [if_neg h,if_pos om]
 ·rw [if_neg hi];unfold V2;have:(i<k)↔(i<k+1):=om;simp only [this]
def b3i {D:Fd} {r s k:Nat} (h:k≠r):(fun i=>if i=k then tkA (D.A k) (D.pRow r s) s else A2 D r s k i)=A2 D r s (k+1):=by
 funext i;by_cases hi:i=k
 ·subst hi;rw [if_pos rfl];unfold A2;rw [if_neg h,if_pos om]
 ·rw [if_neg hi];unfold A2;have:(i<k)↔(i<k+1):=om;simp only [this]
def b9k {D:Fd} {r s:Nat}:V2 D r s r=V2 D r s (r+1):=by
 funext i;unfold V2;by_cases h:i=r
 ·rw [if_pos h,if_pos h]
 ·have:(i<r)↔(i<r+1):=by omega
  simp only [this]
def be2 {D:Fd} {r s:Nat}:A2 D r s r=A2 D r s (r+1):=by
 funext i;unfold A2;by_cases h:i=r
 ·rw [if_pos h,if_pos h]
 ·have:(i<r)↔(i<r+1):=by omega
  simp only [this]
def b9y {D:Fd} {r s k:Nat} (h:k≠r) (hz:D.A k s=0):V2 D r s k=V2 D r s (k+1):=by
 rw [← b3I h,hz];funext i;by_cases hi:i=k
 ·subst hi;rw [if_pos rfl,b80 h];grind
 ·rw [if_neg hi]
def bj0 {D:Fd} {r s k:Nat} (h:k≠r) (hz:D.A k s=0):A2 D r s k=A2 D r s (k+1):=by
 rw [← b3i h,aW9 hz];funext i;by_cases hi:i=k
 ·subst hi;rw [if_pos rfl,bj6 h]
 ·rw [if_neg hi]
def bp4 {D:Fd} {r s m i:Nat} (h:i<m):V2 D r s m i=(D.exch r s).V i:=by
 unfold V2 Fd.exch;simp only;split
 ·rfl
 ·first|rfl|rw [if_pos h]
def bn3 {D:Fd} {r s m i j:Nat} (h:i<m):A2 D r s m i j=(D.exch r s).A i j:=by
 unfold A2 Fd.exch;simp only;split
 ·rfl
 ·first|rfl|(rw [if_pos h];rfl)
abbrev N8 (m n:Nat) (fr:LB) (V:Nat->Rat) (G:Nat->Rat) (O F:Nat->Nat) (A:Nat->Nat->Rat) (T:Hp):Hp:=
 b2T m n fr.length::a1x 6 m n V::flB (rF n G)::R3 m O::R3 n F::a2o fr::((mF m n A).map flB++T)
structure BdD (m n B:Nat) (D:Fd):Prop where
 v:∀i,i<m->rl (D.V i)<=B
 a:∀i,i<m->∀j,j<n->rl (D.A i j)<=B
 g:∀j,j<n->rl (D.G j)<=B
def b2z {b m n r i:Nat} {V:Nat->Rat} {x:List C} {v:Rat} (e:i=r) (h:r<m) (hx:x=frC (fz v)++[C.own (r+b) 0 n true]):(W6 b m n V).set i x=W6 b m n (fun i=>if i=r then v else V i):=by
 subst e hx;exact b4k h
def b0Q {m n:Nat} {fr:LB} {V G:Nat->Rat} {O F:Nat->Nat} {A:Nat->Nat->Rat} {T T':Hp}:N8 m n fr V G O F A (T++T')=N8 m n fr V G O F A T++T':=by
 show b2T m n fr.length::a1x 6 m n V::flB (rF n G)::R3 m O::R3 n F::a2o fr::((mF m n A).map flB++(T++T'))=b2T m n fr.length::a1x 6 m n V::flB (rF n G)::R3 m O::R3 n F::a2o fr::(((mF m n A).map flB++T)++T');rw [lbE]
def a8c {m n:Nat} {fr:LB} {V G:Nat->Rat} {O F:Nat->Nat} {A:Nat->Nat->Rat} {T:Hp}:(N8 m n fr V G O F A T).length=m+6+T.length:=by simp [f6];omega
def b3R {m n N:Nat} {fr:LB} {V G:Nat->Rat} {O F:Nat->Nat} {A:Nat->Nat->Rat} {T:Hp} (h:m+6<=N) (hT:∀k ∈ T,okB N k):∀k ∈ N8 m n fr V G O F A T,okB N k:=by
 intro k hk;simp only [lbB,lbA] at hk;rcases hk with rfl|rfl|rfl|rfl|rfl|rfl|hk|hk
 ·exact b43 om
 ·exact ar5 h
 ·exact t7 rfl
 ·exact t7 rfl
 ·exact t7 rfl
 ·exact t7 rfl
 ·obtain ⟨l,_,rfl⟩:=lby.1 hk;exact t7 rfl
 ·exact hT k hk
def Z8 {n0 N m n:Nat} {fr:LB} {V G:Nat->Rat} {O F:Nat->Nat} {A:Nat->Nat->Rat} {T T' H:Hp} {env env':Env} (hH:H=N8 m n fr V G O F A (T++T')) (hN:m+6+T.length=N) (h0:n0<=N) (hT:∀k ∈ T,okB N k)
 (hE:Z1 (idR N) H env env'):Ent n0 (idR N) env H env' (N8 m n fr V G O F A T):=by
 refine a6E (by rw [a8c];exact hN) h0 (b3R om hT) (fun i hi=>?_) hE;rw [hH,b0Q,lbb (by rw [a8c];omega)]
def am5 {n0 N m n:Nat} {fr:LB} {V G:Nat->Rat} {O F:Nat->Nat} {A:Nat->Nat->Rat} {T H:Hp} {r s:S} (hH:H=N8 m n fr V G O F A T) (hN:m+6=N) (h0:n0<=N) (hE:a9K (idR N) H r s):
 Fin n0 r H s (N8 m n fr V G O F A []):=by
 refine a6Z (by rw [a8c];exact hN) h0 (b3R om zq) (fun i hi=>?_) hE;have e:N8 m n fr V G O F A T=N8 m n fr V G O F A []++T:=b0Q (T:=[]) (T':=T);rw [hH,e,lbb (by rw [a8c];simp;omega)]
def a22 {b0 b1 b2 b3 b4 b5 c0 c1 c2 c3 c4 c5:Blk} {L L':Hp} (h0:b0=c0) (h1:b1=c1) (h2:b2=c2) (h3:b3=c3) (h4:b4=c4) (h5:b5=c5) (h6:L=L'):b0::b1::b2::b3::b4::b5::L=c0::c1::c2::c3::c4::c5::L':=by
 subst h0 h1 h2 h3 h4 h5 h6;rfl
def az7 {b m n r i:Nat} {V V':Nat->Rat} {x:List C} {v:Rat} (e:i=r) (h:r<m) (hx:x=frC (fz v)++[C.own (r+b) 0 n true]) (hV:(fun i=>if i=r then v else V i)=V'):t4 (a1x b m n V) ((a1x b m n V).rows.set i x)=a1x b m n V':=by
 have:=b2z (V:=V) e h hx;subst hV;unfold t4;simp only [this]
def a3Y {m r i v:Nat} {O:Nat->Nat} (e:i=r) (h:r<m):t4 (R3 m O) ((R3 m O).rows.set i [C.t (ti v)])=R3 m (fun i=>if i=r then v else O i):=by
 subst e;have:(toC (X6 m O)).set i [C.t (ti v)]=toC (X6 m (fun j=>if j=i then v else O j)):=by
  rw [← b8y h];simp [toC,a1R]
 unfold t4;simp only [this]
def aP0 {N:Nat} {x:Rat}:okB N (frX x):=t7 (rows:=[t5 (fz x)]) rfl
def b2q (m n:Nat) (fr:LB) (D:Fd) (r s:Nat) (hm:m<=100000) (hn:n<=1000) (hr:r<m) (hs:s<n) (hp:D.A r s≠0) (hB:BdD m n 30000 D) (hB':BdD m n 30000 (D.exch r s)):
 ec 297 [.c (.ptr 0 0 0),eI r,eI s] (a10 m n fr D) (.tup []) (a10 m n fr (D.exch r s)):=by
 have eR:0+(r:Int).toNat=r:=om;have eS:0+(s:Int).toNat=s:=om;have gA:(mF m n D.A)[r]? =some (rF n (D.A r)):=U3 hr;have gs:(rF n (D.A r))[0+(s:Int).toNat]? =some (fz (D.A r s)):=by rw [eS,E6 hs]
 have bp:=hB.a r hr s hs;have ov:=b1g (D.V r) (D.A r s) hp (by have:=hB.v r hr;omega) om;refine ac Tryz.func297 ?_;conv=>whnf
 repeat' (first|refine zx ?_|refine qp F2 ?_|refine a6g (f6 _ _ _) ?_|refine G2 ?_|refine a4u ?_|refine a3u eR hr ?_|refine aX1 gA ?_|refine G6 gA ?_|refine o5 (f6 _ _ _) ?_|refine x7 (f6 _ _ _) ?_|refine p8 gs ?_|refine aL1 (by show _<(W6 _ _ _ _).length;rw [F2];omega) ?_|apply zD<;>intro<;>try omega)<;>conv=>whnf
 refine i7 d9 (fun k=>([sP 0 0 0,eI r,eI s,J,J,J,S.c (C.ptr 1 r 0),S.c (C.ptr (m+6) 0 0)]++Jn 29++[eI n,eI k]++Jn 144,N8 m n fr (V1 D r s) D.G D.O D.F (A1 D r s k) [frX (D.A r s)])) n tT (idR (m+7)) trivial ?_ ?_
 ·refine Z8 (T':=[]) ?_ rfl (by simp [f6]) (by intro k hk;simp at hk;subst hk;exact aP0) ?_
  ·refine a22 rfl (az7 eR hr rfl rfl) rfl rfl rfl rfl ?_;have:A1 D r s 0=D.A:=by funext i j;unfold A1 a5X;split<;>simp_all
   rw [this];rfl
  ·exact ⟨⟨i6 om,rz⟩,rfl,rfl,⟨i6 om,eR,rfl⟩,⟨i6 om,rz⟩,d7 om,d7 rfl,trivial⟩
 intro k hk _;have gA1:(mF m n (A1 D r s k))[r]? =some (rF n (A1 D r s k r)):=U3 hr;have lA:r<(mF m n (A1 D r s k)).length:=by rw [f6];exact hr
 by_cases hlt:k<n
 ·have eK:0+(k:Int).toNat=k:=by omega
  have gk:(rF n (A1 D r s k r))[0+(k:Int).toNat]? =some (fz (D.A r k)):=by rw [eK,E6 hlt,bD1]
  have bk:=hB.a r hr k hlt;have ze:=aq3 (D.A r k);have ovk:=b1g (D.A r k) (D.A r s) hp om om;by_cases hks:k=s
  ·subst hks;conv=>whnf
   repeat' (first|refine zx ?_|refine g8 (f6 _ _ _) ?_|refine G2 ?_|refine f8 ?_|refine a3u rfl hr ?_|refine G6 gA1 ?_|refine o5 (f6 _ _ _) ?_|refine p8 gk ?_|apply zD<;>intro<;>try omega)<;>conv=>whnf
   all_goals first|omega|exact ⟨hlt,trivial,idR (m+7),Z8 (T':=[]) (a22 rfl rfl rfl rfl rfl rfl (by rw [← b9a];rfl)) rfl (by simp [f6]) (by intro k hk;simp at hk;subst hk;exact aP0) ⟨⟨i6 om,rz⟩,rfl,rfl,⟨i6 om,rz⟩,⟨i6 om,rz⟩,rfl,d7 om,trivial⟩⟩
  ·by_cases hz:D.A r k=0
   ·rw [lbI hz] at ze;conv=>whnf
    repeat' (first|refine zx ?_|refine g8 (f6 _ _ _) ?_|refine G2 ?_|refine f8 ?_|refine a3u rfl hr ?_|refine G6 gA1 ?_|refine o5 (f6 _ _ _) ?_|refine p8 gk ?_|apply zD<;>intro<;>try omega)<;>conv=>whnf
    all_goals first|omega|exact ⟨hlt,trivial,idR (m+7),Z8 (T':=[]) (a22 rfl rfl rfl rfl rfl rfl (by rw [← b9P hz];rfl)) rfl (by simp [f6]) (by intro k hk;simp at hk;subst hk;exact aP0) ⟨⟨i6 om,rz⟩,rfl,rfl,⟨i6 om,rz⟩,⟨i6 om,rz⟩,rfl,d7 om,trivial⟩⟩
   ·rw [lbK hz] at ze;conv=>whnf
    repeat' (first|refine zx ?_|refine g8 (f6 _ _ _) ?_|refine G2 ?_|refine f8 ?_|refine a3u rfl hr ?_|refine G6 gA1 ?_|refine o5 (f6 _ _ _) ?_|refine p8 gk ?_|refine a2f lA (I5 (y:=fz (D.A r k / D.A r s)) eK) ?_|apply zD<;>intro<;>try omega)<;>conv=>whnf
    all_goals first|omega|exact ⟨hlt,trivial,idR (m+7),Z8 (T':=[]) (a22 rfl rfl rfl rfl rfl rfl (by rw [S4 hlt,b3X hr (bi1 hks)];rfl)) rfl (by simp [f6]) (by intro k hk;simp at hk;subst hk;exact aP0) ⟨⟨i6 om,rz⟩,rfl,rfl,⟨i6 om,rz⟩,⟨i6 om,rz⟩,rfl,d7 om,trivial⟩⟩
 ·have hke:k=n:=by omega
  subst hke;have gs1:(rF k (A1 D r s k r))[0+(s:Int).toNat]? =some (fz (D.A r s)):=by rw [eS,E6 hs,bH3]
  have i1:=W9 1 de de;have ov1:=b1g ((1:Int):Rat) (D.A r s) hp (by have:=rl1;show rl 1<=_;omega) om;conv=>whnf
  repeat' (first|refine zx ?_|refine g8 (f6 _ _ _) ?_|refine G2 ?_|refine f8 ?_|refine a3u rfl hr ?_|refine G6 gA1 ?_|refine o5 (f6 _ _ _) ?_|refine p8 gs1 ?_|refine a2f lA (I5 (y:=fz (((1:Int):Rat) / D.A r s)) eS) ?_|apply zD<;>intro<;>try omega)<;>conv=>whnf
  all_goals try omega
  refine i7 d9 (fun q=>([sP 0 0 0,eI r,eI s,J,J,J,S.c (C.ptr 1 r 0)]++Jn 77++[eI m,eI q]++Jn 97,N8 m k fr (V2 D r s q) D.G D.O D.F (A2 D r s q) [])) m tT (idR (m+6)) trivial ?_ ?_
  ·refine Z8 (T:=[]) (T':=[frX (D.A r s)]) (a22 rfl (by rw [b9C]) rfl rfl rfl rfl (by rw [b9d hr hs];rfl)) rfl (by simp [f6]) zq ⟨⟨i6 om,rz⟩,rfl,rfl,⟨i6 om,rz⟩,d7 om,d7 rfl,trivial⟩
  have eP:∀j,(D.exch r s).A r j=D.pRow r s j:=fun j=>by show (if r=r then _ else _)=_;rw [if_pos rfl]
  have har:∀j,j<k->rl (D.pRow r s j)<=30000:=fun j hj=>by rw [← eP];exact hB'.a r hr j hj
  intro q hq _;have gAr:(mF m k (A2 D r s q))[r]? =some (rF k (D.pRow r s)):=by rw [U3 hr,bF9]
  by_cases hqm:q<m
  ·have eQ:0+(q:Int).toNat=q:=by omega
   have lQ:q<(mF m k (A2 D r s q)).length:=by rw [f6];exact hqm
   have ze:=aq3 (D.A q s);by_cases hqr:q=r
   ·subst hqr;conv=>whnf
    repeat' (first|refine zx ?_|refine g8 (f6 _ _ _) ?_|refine G2 ?_|refine f8 ?_|apply zD<;>intro<;>try omega)<;>conv=>whnf
    all_goals first|omega|exact ⟨hqm,trivial,idR (m+6),Z8 (T:=[]) (T':=[]) (a22 rfl (by rw [← b9k]) rfl rfl rfl rfl (by rw [← be2];rfl)) rfl (by simp [f6]) zq ⟨⟨i6 om,rz⟩,rfl,rfl,⟨i6 om,rz⟩,rfl,d7 om,trivial⟩⟩
   ·have gAq:(mF m k (A2 D r s q))[q]? =some (rF k (D.A q)):=by rw [U3 hqm,bj6 hqr]
    have gqs:(rF k (D.A q))[0+(s:Int).toNat]? =some (fz (D.A q s)):=by rw [eS,E6 hs]
    by_cases hz:D.A q s=0
    ·rw [lbI hz] at ze;conv=>whnf
     repeat' (first|refine zx ?_|refine g8 (f6 _ _ _) ?_|refine G2 ?_|refine f8 ?_|refine a3u eQ hqm ?_|refine G6 gAq ?_|refine p8 gqs ?_|apply zD<;>intro<;>try omega)<;>conv=>whnf
     all_goals first|omega|exact ⟨hqm,trivial,idR (m+6),Z8 (T:=[]) (T':=[]) (a22 rfl (by rw [← b9y hqr hz]) rfl rfl rfl rfl (by rw [← bj0 hqr hz];rfl)) rfl (by simp [f6]) zq ⟨⟨i6 om,rz⟩,rfl,rfl,⟨i6 om,rz⟩,rfl,d7 om,trivial⟩⟩
    ·rw [lbK hz] at ze;have b1:=hB.v q hqm;have b2:=hB.a q hqm s hs;have b3:=hB'.v r hr;have haq:∀j,j<k->rl (D.A q j)<=30000:=hB.a q hqm;have le:=b2s (V2 D r s q q) (D.A q s) (V2 D r s q r) (by rw [b80 hqr];omega) om (by rw [bB8];have e:(D.exch r s).V r=D.V r / D.A r s:=(by show (if r=r then _ else _)=_;rw [if_pos rfl]);rw [← e];omega);conv=>whnf
     repeat' (first|refine zx ?_|refine qp F2 ?_|refine g8 (f6 _ _ _) ?_|refine G2 ?_|refine f8 ?_|refine a3u eQ hqm ?_|refine a3u rfl hr ?_|refine G6 gAq ?_|refine p8 gqs ?_|refine aL1 (by show _<(W6 _ _ _ _).length;rw [F2];omega) ?_|refine bh3 om (a3u rfl hr ?_)|refine .inr ⟨_,_,b33 (ia:=q+6) (ir:=r+6) om (E9 gAq) (E9 gAr) hn hs haq har,?_⟩|apply zD<;>intro<;>try omega)<;>conv=>whnf
     all_goals first|omega|exact ⟨hqm,trivial,idR (m+6),Z8 (T:=[]) (T':=[]) (a22 rfl (az7 (v:=V2 D r s q q - D.A q s*V2 D r s q r) eQ hqm rfl (by rw [b80 hqr,bB8];exact b3I hqr)) rfl rfl rfl rfl (by rw [b6d lQ,b3X hqm (b3i hqr)];rfl)) rfl (by simp [f6]) zq ⟨⟨i6 om,rz⟩,rfl,rfl,⟨i6 om,rz⟩,rfl,d7 om,trivial⟩⟩
  ·have hqe:q=m:=by omega
   subst hqe;have ggs:(rF k D.G)[0+(s:Int).toNat]? =some (fz (D.G s)):=by rw [eS,E6 hs]
   have ze:=aq3 (D.G s);have eL:a1x 6 q k (V2 D r s q)=a1x 6 q k (D.exch r s).V:=by
    have:W6 6 q k (V2 D r s q)=W6 6 q k (D.exch r s).V:=lbp fun i hi=>by rw [bp4 (lbC.1 hi)]
    unfold a1x;rw [this]
   have eA:mF q k (A2 D r s q)=mF q k (D.exch r s).A:=b0J fun i hi j _=>bn3 hi
   have eO:X6 q (fun i=>if i=r then D.F s else D.O i)=X6 q (D.exch r s).O:=rfl;have eF:X6 k (fun j=>if j=s then D.O r else D.F j)=X6 k (D.exch r s).F:=rfl;have e0:a10 q k fr (D.exch r s)=N8 q k fr (D.exch r s).V (D.exch r s).G (D.exch r s).O (D.exch r s).F (D.exch r s).A []:=by
    show _::_::_::_::_::_::_=_::_::_::_::_::_::(_++[]);rw [Y7]
   by_cases hz:D.G s=0
   ·have eG:(D.exch r s).G=D.G:=by have:=aW9 (row:=D.pRow r s) hz;exact this
    rw [lbI hz] at ze;conv=>whnf
    repeat' (first|refine zx ?_|refine g8 (f6 _ _ _) ?_|refine G2 ?_|refine f8 ?_|refine p8 ggs ?_|refine M7 eR hr ?_|refine M7 eS hs ?_|refine bl0 [9] ?_|apply zD<;>intro<;>try omega)<;>conv=>whnf
    all_goals first|omega|(rw [e0];exact am5 (T:=[]) (a22 rfl eL (by rw [eG]) (a3Y eR hr) (a3Y eS hs) rfl (by rw [eA])) rfl (by simp [f6]) trivial)
   ·have eG:(D.exch r s).G=tkA D.G (D.pRow r s) s:=rfl;rw [lbK hz] at ze;conv=>whnf
    repeat' (first|refine zx ?_|refine g8 (f6 _ _ _) ?_|refine G2 ?_|refine f8 ?_|refine p8 ggs ?_|refine a3u rfl hr ?_|refine M7 eR hr ?_|refine M7 eS hs ?_|refine bl0 [9] ?_|refine .inr ⟨_,_,b33 (ia:=2) (ir:=r+6) om rfl (E9 gAr) hn hs hB.g har,?_⟩|apply zD<;>intro<;>try omega)<;>conv=>whnf
    all_goals first|omega|(rw [e0];exact am5 (T:=[]) (a22 rfl eL (by rw [eG]) (a3Y eR hr) (a3Y eS hs) rfl (by rw [eA])) rfl (by simp [f6]) trivial)
def aL6 {H:Hp} {p:Nat->Prop} {ys:List C} {us:List T} (h2:VYL H p ys us):∀{ts:List T},VYL H p (ts.map C.t++ys) (ts++us)
 |[]=>h2
 |t::r=>⟨av8,aL6 h2⟩
def b90 {m n:Nat} {fr:LB} {D:Fd} {X:Hp}:VY (N8 m n fr D.V D.G D.O D.F D.A X) tT (.own 1 0 m true) (.sl 5 .any (ac7 m n D)):=by
 refine b21 (k:=a1x 6 m n D.V) trivial rfl (fun h=>h) rfl (a6C m n D) ?_ ?_
 ·intro r hr;obtain ⟨i,_,rfl⟩:=lby.1 hr
  rfl
 ·intro i r hi;have him:i<m:=by have:=(lbe.1 hi).1;rwa [a6C] at this
  rw [a9Z him] at hi;injection hi with hi;subst hi;refine ⟨_,a3O him,?_⟩;show VYL _ _ ((t5 (fz (D.V i))).map C.t++[C.own (i+6) 0 n true]) _;have hv:VY (N8 m n fr D.V D.G D.O D.F D.A X) tT (C.own (i+6) 0 n true) (T.sl 4 .any ((rF n (D.A i)).map t5)):=
   .vc (s6 (k:=flB (rF n (D.A i))) trivial (E9 (U3 him)) (fun h=>h) rfl rfl (by simp [K5]))
  exact aL6 (ys:=[C.own (i+6) 0 n true]) (us:=[T.sl 4 .any ((rF n (D.A i)).map t5)]) (show _∧True from ⟨hv,trivial⟩)
def bt7 {m n:Nat} {fr:LB} {D:Fd} {X:Hp}:VY (N8 m n fr D.V D.G D.O D.F D.A X) tT (.ptr 0 0 0) (.ptr (bi2 m n fr D)):=by
 refine aa3 (k:=b2T m n fr.length) trivial rfl (fun h=>h) rfl ⟨av8,b90,?_,?_,?_,?_,trivial⟩
 ·exact .vc (s6 (k:=flB (rF n D.G)) trivial rfl (fun h=>h) rfl rfl (by simp [K5]))
 ·exact .vc (s6 (k:=R3 m D.O) trivial rfl (fun h=>h) rfl rfl (by simp [l9]))
 ·exact .vc (s6 (k:=R3 n D.F) trivial rfl (fun h=>h) rfl rfl (by simp [l9]))
 ·exact .vc (s6 (k:=a2o fr) trivial rfl (fun h=>h) rfl rfl (by simp [a15]))
abbrev bxD:Blk:={ mode:=.live,elem:=233,size:=1,rows:=[[.ptr 0 0 0]],box:=true }
abbrev bxI (i:Int):Blk:={ mode:=.live,elem:=3,size:=1,rows:=[[.t (ti i)]],box:=true }
def aO0 {m n:Nat} {fr:LB} {D:Fd} {X:Hp}:VY (N8 m n fr D.V D.G D.O D.F D.A (bxD::X)) tT (.ptr (m+6) 0 0) (a7G m n fr D):=by
 refine aa3 (k:=bxD) trivial ?_ (fun h=>h) rfl ⟨bt7,trivial⟩;show (((mF m n D.A).map flB)++bxD::X)[m]? =_;rw [lbc (by simp [f6])];simp [f6]
def b6M {m n t:Nat} {fr:LB} {D:Fd} {X:Hp} {i:Int} (h:X[t]? =some (bxI i)):VY (N8 m n fr D.V D.G D.O D.F D.A X) tT (.ptr (m+6+t) 0 0) (.ptr [ti i]):=by
 refine aa3 (k:=bxI i) trivial ?_ (fun h=>h) rfl ⟨av8,trivial⟩;show (N8 m n fr D.V D.G D.O D.F D.A X)[m+6+t]? =_;rw [show m+6+t=m+t+6 by omega];show (((mF m n D.A).map flB)++X)[m+t]? =_;rw [lbc (by simp [f6])];simpa [f6] using h
def bx8 {m n:Nat} {fr:LB} {D:Fd} {X:Hp}:VYS (N8 m n fr D.V D.G D.O D.F D.A X) tT (.c (.own 3 0 m true)) (ab1 m D.O):=.vc (s6 (k:=R3 m D.O) trivial rfl (fun h=>h) rfl rfl (by simp [l9]))
def bA0 {m n:Nat} {fr:LB} {D:Fd} {X:Hp}:VYS (N8 m n fr D.V D.G D.O D.F D.A X) tT (.c (.own 4 0 n true)) (ab1 n D.F):=.vc (s6 (k:=R3 n D.F) trivial rfl (fun h=>h) rfl rfl (by simp [l9]))
def ai7 {m n:Nat} {fr:LB} {D:Fd} {r s:Nat} (X:Hp) (h:ec 297 [.c (.ptr 0 0 0),eI r,eI s] (a10 m n fr D) (.tup []) (a10 m n fr (D.exch r s))):
 ec 297 [.c (.ptr 0 0 0),eI r,eI s] (N8 m n fr D.V D.G D.O D.F D.A X) (.tup []) (N8 m n fr (D.exch r s).V (D.exch r s).G (D.exch r s).O (D.exch r s).F (D.exch r s).A X):=by
 have hl:∀{D:Fd},∀k ∈ a10 m n fr D,k.mode=.live∧k.app=false:=by
  intro D k hk;simp only [lbB] at hk;rcases hk with rfl|rfl|rfl|rfl|rfl|rfl|hk
  ·exact rz
  ·exact rz
  ·exact rz
  ·exact rz
  ·exact rz
  ·exact rz
  ·obtain ⟨l,_,rfl⟩:=lby.1 hk;exact rz
 exact a3i (n:=m+6) X h a3Q a3Q (by simp [okS,okC,c9,a0T]) (fun k hk=>⟨(hl k hk).1,(hl k hk).2,a8B k hk⟩) (fun k hk=>⟨(by rw [(hl k hk).1];intro h;cases h),a8B k hk⟩) rfl rfl
def a6q:b7A->Int × Int
 |.best=>(-1,-1)
 |.row r=>(r,-1)
 |.col s=>(-1,s)
 |.next r s=>(r,s)
def b7D {N:Nat} (h:0<N):okB N bxD:=by
 intro r hr c hc;simp at hr;subst hr;simp at hc;subst hc;exact h
def b6Z (m n:Nat) (fr:LB) (D0:Fd) (g0:Nat->Rat) (hm:m<=100000) (hn:n<=1000) (h0:a4J m n D0 g0 D0) (hB:∀D,N0 m n D0 D->BdD m n 30000 D):
 ec 219 [.c (.ptr 0 0 0)] (a10 m n fr D0) (.tup [eI (a6q (u7 m n (a4a m n D0))).1,eI (a6q (u7 m n (a4a m n D0))).2]) (a10 m n fr (a4a m n D0)):=by
 refine ac Tryz.func219 ?_;conv=>whnf
 repeat' (first|refine zx ?_|refine a6g (f6 _ _ _) ?_|refine a4u ?_|apply zD<;>intro<;>try omega)<;>conv=>whnf
 refine o9 d9 (σ:=Fd) (fun D=>([J,S.c (C.ptr (m+6) 0 0)]++Jn 69,N8 m n fr D.V D.G D.O D.F D.A [bxD])) (fun D=>N0 m n D0 D) (fun D=>a65 m n D) D0 (idR (m+7)) a7A ?_ ?_
 ·refine Z8 (T':=[]) (a22 rfl rfl rfl rfl rfl rfl (by rw [Y7,Y7];rfl)) rfl (by simp [f6]) (by intro k hk;simp at hk;subst hk;exact b7D om) ⟨⟨i6 om,rz⟩,trivial⟩
 intro D hD;have bd:=hB D hD;have inv:a4J m n D0 g0 D:=by obtain ⟨k,hk⟩:=hD;exact a0t h0 hk
 have l1:=a6U m hm D.O (fun i=>decide (D.V i<0)) 293 [a7G m n fr D] (fun i hi=>b5n m n fr D i hi);have l2:=a6U n om D.F (fun j=>decide (0<D.G j)) 294 [a7G m n fr D] (fun j hj=>b4W m n fr D j hj);have va1:∀X,a1p (N8 m n fr D.V D.G D.O D.F D.A (bxD::X)) tT [.c (.own 3 0 m true),.c (.fn (.func 293) [.ptr (m+6) 0 0])] [ab1 m D.O,.c (.t (.fn (.func 293) [a7G m n fr D]))]:=
  fun X=>⟨bx8,aZ6 (show _∧True from ⟨aO0,trivial⟩),trivial⟩
 have va2:∀X,a1p (N8 m n fr D.V D.G D.O D.F D.A (bxD::X)) tT [.c (.own 4 0 n true),.c (.fn (.func 294) [.ptr (m+6) 0 0])] [ab1 n D.F,.c (.t (.fn (.func 294) [a7G m n fr D]))]:=
  fun X=>⟨bA0,aZ6 (show _∧True from ⟨aO0,trivial⟩),trivial⟩
 have va3:∀X (r:Nat),a1p (N8 m n fr D.V D.G D.O D.F D.A (bxD::bxI r::X)) tT [.c (.own 4 0 n true),.c (.fn (.func 295) [.ptr (m+6) 0 0,.ptr (m+7) 0 0])] [ab1 n D.F,.c (.t (.fn (.func 295) [a7G m n fr D,.ptr [ti r]]))]:=
  fun X r=>⟨bA0,aZ6 (show _∧_∧True from ⟨aO0,b6M (t:=1) rfl,trivial⟩),trivial⟩
 have va4:∀X (x:Int) (s:Nat),a1p (N8 m n fr D.V D.G D.O D.F D.A (bxD::bxI x::bxI s::X)) tT [.c (.own 3 0 m true),.c (.fn (.func 296) [.ptr (m+6) 0 0,.ptr (m+8) 0 0])] [ab1 m D.O,.c (.t (.fn (.func 296) [a7G m n fr D,.ptr [ti s]]))]:=
  fun X x s=>⟨bx8,aZ6 (show _∧_∧True from ⟨aO0,b6M (t:=2) rfl,trivial⟩),trivial⟩
 have fin0:∀(X:Hp) (r c:Int),C9 m n D=none->(r,c)=a6q (u7 m n D)->Fin (a10 m n fr D0).length (.tup [eI r,eI c]) (N8 m n fr D.V D.G D.O D.F D.A X) (.tup [eI (a6q (u7 m n (a4a m n D0))).1,eI (a6q (u7 m n (a4a m n D0))).2]) (a10 m n fr (a4a m n D0)):=by
  intro X r c hn ho;have e:=b78 h0 hD hn;rw [← e,←ho];have e0:a10 m n fr D=N8 m n fr D.V D.G D.O D.F D.A []:=by
   show _::_::_::_::_::_::_=_::_::_::_::_::_::(_++[]);rw [Y7]
  rw [e0];exact am5 (N:=m+6) rfl rfl (by simp [f6]) rz
 have go:∀(X:Hp) (env:Env) (r s:Nat),u7 m n D=.next r s->Z1 (idR (m+7)) (N8 m n fr (D.exch r s).V (D.exch r s).G (D.exch r s).O (D.exch r s).F (D.exch r s).A (bxD::X)) env ([J,S.c (C.ptr (m+6) 0 0)]++Jn 69)->
  ∃ρ x',Ent (a10 m n fr D0).length ρ env (N8 m n fr (D.exch r s).V (D.exch r s).G (D.exch r s).O (D.exch r s).F (D.exch r s).A (bxD::X)) ([J,S.c (C.ptr (m+6) 0 0)]++Jn 69) (N8 m n fr x'.V x'.G x'.O x'.F x'.A [bxD])∧N0 m n D0 x'∧a65 m n x'<a65 m n D:=by
  intro X env r s hs hE;have hnx:C9 m n D=some (D.exch r s):=by unfold C9;rw [hs]
  exact ⟨idR (m+7),D.exch r s,Z8 (T:=[bxD]) (T':=X) rfl rfl (by simp [f6]) (by intro k hk;simp at hk;subst hk;exact b7D om) hE,a4Q hD hnx,au8 (b7H inv.p inv.g) hnx⟩
 have exc:∀r s:Nat,u7 m n D=.next r s->ec 297 [.c (.ptr 0 0 0),eI r,eI s] (a10 m n fr D) (.tup []) (a10 m n fr (D.exch r s)):=fun r s hs=>by
  obtain ⟨q1,q2,q3⟩:=a40 hs;exact b2q m n fr D r s hm hn q1 q2 (a4F q3) bd (hB _ (a4Q hD (by unfold C9;rw [hs])))
 cases hR:B5 D.O (fun i=>decide (D.V i<0)) m with
 |none=>
  rw [hR,show leI none=-1 from rfl] at l1;cases hS:B5 D.F (fun j=>decide (0<D.G j)) n with
  |none=>
   rw [hS,show leI none=-1 from rfl] at l2;have hst:u7 m n D=.best:=by unfold u7;rw [hR,hS]
   conv=>whnf
   repeat' (first|refine zx ?_|refine .inl ⟨_,_,j4 l1 (va1 _) rfl,?_⟩|refine .inl ⟨_,_,j4 l2 (va2 _) rfl,?_⟩|refine g8 (f6 _ _ _) ?_|refine f8 ?_|refine o5 (f6 _ _ _) ?_|refine i5 (t:=1) (f6 _ _ _) ?_|refine i5 (t:=2) (f6 _ _ _) ?_|refine i9 (t:=1) (f6 _ _ _) ?_|refine i9 (t:=2) (f6 _ _ _) ?_|apply zD<;>intro<;>try omega)<;>conv=>whnf
   all_goals first
    |omega
    |exact fin0 _ _ _ (by unfold C9;rw [hst]) (by rw [hst];rfl)
  |some ss=>
   rw [hS,show leI (some ss)=ss from rfl] at l2;have hss:=(C6 hS).1;have l4:=a6U m hm D.O (fun i=>decide (0<D.A i ss)) 296 [a7G m n fr D,T.ptr [ti ss]] (fun i hi=>aB2 m n fr D i ss hi hss);cases hC:B5 D.O (fun i=>decide (0<D.A i ss)) m with
   |none=>
    rw [hC,show leI none=-1 from rfl] at l4;have hst:u7 m n D=.col ss:=by unfold u7;rw [hR,hS];show V6 m D ss=_;unfold V6;rw [hC]
    conv=>whnf
    repeat' (first|refine zx ?_|refine .inl ⟨_,_,j4 l1 (va1 _) rfl,?_⟩|refine .inl ⟨_,_,j4 l2 (va2 _) rfl,?_⟩|refine .inl ⟨_,_,j4 l4 (va4 _ _ ss) rfl,?_⟩|refine g8 (f6 _ _ _) ?_|refine f8 ?_|refine o5 (f6 _ _ _) ?_|refine i5 (t:=1) (f6 _ _ _) ?_|refine i5 (t:=2) (f6 _ _ _) ?_|refine i9 (t:=1) (f6 _ _ _) ?_|refine i9 (t:=2) (f6 _ _ _) ?_|apply zD<;>intro<;>try omega)<;>conv=>whnf
    all_goals first
     |omega
     |exact fin0 _ _ _ (by unfold C9;rw [hst]) (by rw [hst];rfl)
   |some rq=>
    rw [hC,show leI (some rq)=rq from rfl] at l4;have hst:u7 m n D=.next rq ss:=by unfold u7;rw [hR,hS];show V6 m D ss=_;unfold V6;rw [hC]
    have exr:=exc _ _ hst;conv=>whnf
    repeat' (first|refine zx ?_|refine .inl ⟨_,_,j4 l1 (va1 _) rfl,?_⟩|refine .inl ⟨_,_,j4 l2 (va2 _) rfl,?_⟩|refine .inl ⟨_,_,j4 l4 (va4 _ _ ss) rfl,?_⟩|refine .inr ⟨_,_,ai7 _ exr,?_⟩|refine g8 (f6 _ _ _) ?_|refine f8 ?_|refine o5 (f6 _ _ _) ?_|refine i5 (t:=1) (f6 _ _ _) ?_|refine i5 (t:=2) (f6 _ _ _) ?_|refine i9 (t:=1) (f6 _ _ _) ?_|refine i9 (t:=2) (f6 _ _ _) ?_|apply zD<;>intro<;>try omega)<;>conv=>whnf
    all_goals first
     |omega
     |exact go _ _ _ _ hst ⟨⟨i6 om,rz⟩,trivial⟩
 |some rr=>
  rw [hR,show leI (some rr)=rr from rfl] at l1;cases hS:B5 D.F (fun j=>decide (0<D.G j)) n with
  |none=>
   rw [hS,show leI none=-1 from rfl] at l2;have hrr:=(C6 hR).1;have l3:=a6U n om D.F (fun j=>decide (D.A rr j<0)) 295 [a7G m n fr D,T.ptr [ti rr]] (fun j hj=>aB8 m n fr D rr j hrr hj);cases hC:B5 D.F (fun j=>decide (D.A rr j<0)) n with
   |none=>
    rw [hC,show leI none=-1 from rfl] at l3;have hst:u7 m n D=.row rr:=by unfold u7;rw [hR,hS];show V3 n D rr=_;unfold V3;rw [hC]
    conv=>whnf
    repeat' (first|refine zx ?_|refine .inl ⟨_,_,j4 l1 (va1 _) rfl,?_⟩|refine .inl ⟨_,_,j4 l2 (va2 _) rfl,?_⟩|refine .inl ⟨_,_,j4 l3 (va3 _ rr) rfl,?_⟩|refine g8 (f6 _ _ _) ?_|refine f8 ?_|refine o5 (f6 _ _ _) ?_|refine i5 (t:=1) (f6 _ _ _) ?_|refine i5 (t:=2) (f6 _ _ _) ?_|refine i9 (t:=1) (f6 _ _ _) ?_|refine i9 (t:=2) (f6 _ _ _) ?_|apply zD<;>intro<;>try omega)<;>conv=>whnf
    all_goals first
     |omega
     |exact fin0 _ _ _ (by unfold C9;rw [hst]) (by rw [hst];rfl)
   |some sq=>
    rw [hC,show leI (some sq)=sq from rfl] at l3;have hst:u7 m n D=.next rr sq:=by unfold u7;rw [hR,hS];show V3 n D rr=_;unfold V3;rw [hC]
    have exr:=exc _ _ hst;conv=>whnf
    repeat' (first|refine zx ?_|refine .inl ⟨_,_,j4 l1 (va1 _) rfl,?_⟩|refine .inl ⟨_,_,j4 l2 (va2 _) rfl,?_⟩|refine .inl ⟨_,_,j4 l3 (va3 _ rr) rfl,?_⟩|refine .inr ⟨_,_,ai7 _ exr,?_⟩|refine g8 (f6 _ _ _) ?_|refine f8 ?_|refine o5 (f6 _ _ _) ?_|refine i5 (t:=1) (f6 _ _ _) ?_|refine i5 (t:=2) (f6 _ _ _) ?_|refine i9 (t:=1) (f6 _ _ _) ?_|refine i9 (t:=2) (f6 _ _ _) ?_|apply zD<;>intro<;>try omega)<;>conv=>whnf
    all_goals first
     |omega
     |exact go _ _ _ _ hst ⟨⟨i6 om,rz⟩,trivial⟩
  |some ss=>
   rw [hS,show leI (some ss)=ss from rfl] at l2;have hrr:=(C6 hR).1;have hss:=(C6 hS).1;by_cases hlt:D.O rr<D.F ss
   ·skip
    have l3:=a6U n om D.F (fun j=>decide (D.A rr j<0)) 295 [a7G m n fr D,T.ptr [ti rr]] (fun j hj=>aB8 m n fr D rr j hrr hj);cases hC:B5 D.F (fun j=>decide (D.A rr j<0)) n with
    |none=>
     rw [hC,show leI none=-1 from rfl] at l3;have hst:u7 m n D=.row rr:=by unfold u7 V3;rw [hR,hS];simp only [if_pos hlt];rw [hC]
     conv=>whnf
     repeat' (first|refine zx ?_|refine .inl ⟨_,_,j4 l1 (va1 _) rfl,?_⟩|refine .inl ⟨_,_,j4 l2 (va2 _) rfl,?_⟩|refine .inl ⟨_,_,j4 l3 (va3 _ rr) rfl,?_⟩|refine g8 (f6 _ _ _) ?_|refine f8 ?_|refine o5 (f6 _ _ _) ?_|refine i5 (t:=1) (f6 _ _ _) ?_|refine i5 (t:=2) (f6 _ _ _) ?_|refine i9 (t:=1) (f6 _ _ _) ?_|refine i9 (t:=2) (f6 _ _ _) ?_|refine M7 (r:=rr) om hrr ?_|refine M7 (r:=ss) om hss ?_|apply zD<;>intro<;>try omega)<;>conv=>whnf
     all_goals first
      |omega
      |exact fin0 _ _ _ (by unfold C9;rw [hst]) (by rw [hst];rfl)
    |some sq=>
     rw [hC,show leI (some sq)=sq from rfl] at l3;have hst:u7 m n D=.next rr sq:=by unfold u7 V3;rw [hR,hS];simp only [if_pos hlt];rw [hC]
     have exr:=exc _ _ hst;conv=>whnf
     repeat' (first|refine zx ?_|refine .inl ⟨_,_,j4 l1 (va1 _) rfl,?_⟩|refine .inl ⟨_,_,j4 l2 (va2 _) rfl,?_⟩|refine .inl ⟨_,_,j4 l3 (va3 _ rr) rfl,?_⟩|refine .inr ⟨_,_,ai7 _ exr,?_⟩|refine g8 (f6 _ _ _) ?_|refine f8 ?_|refine o5 (f6 _ _ _) ?_|refine i5 (t:=1) (f6 _ _ _) ?_|refine i5 (t:=2) (f6 _ _ _) ?_|refine i9 (t:=1) (f6 _ _ _) ?_|refine i9 (t:=2) (f6 _ _ _) ?_|refine M7 (r:=rr) om hrr ?_|refine M7 (r:=ss) om hss ?_|apply zD<;>intro<;>try omega)<;>conv=>whnf
     all_goals first|omega|exact go _ _ _ _ hst ⟨⟨i6 om,rz⟩,trivial⟩
   ·skip
    have l4:=a6U m hm D.O (fun i=>decide (0<D.A i ss)) 296 [a7G m n fr D,T.ptr [ti ss]] (fun i hi=>aB2 m n fr D i ss hi hss);cases hC:B5 D.O (fun i=>decide (0<D.A i ss)) m with
    |none=>
     rw [hC,show leI none=-1 from rfl] at l4;have hst:u7 m n D=.col ss:=by unfold u7 V6;rw [hR,hS];simp only [if_neg hlt];rw [hC]
     conv=>whnf
     repeat' (first|refine zx ?_|refine .inl ⟨_,_,j4 l1 (va1 _) rfl,?_⟩|refine .inl ⟨_,_,j4 l2 (va2 _) rfl,?_⟩|refine .inl ⟨_,_,j4 l4 (va4 _ _ ss) rfl,?_⟩|refine g8 (f6 _ _ _) ?_|refine f8 ?_|refine o5 (f6 _ _ _) ?_|refine i5 (t:=1) (f6 _ _ _) ?_|refine i5 (t:=2) (f6 _ _ _) ?_|refine i9 (t:=1) (f6 _ _ _) ?_|refine i9 (t:=2) (f6 _ _ _) ?_|refine M7 (r:=rr) om hrr ?_|refine M7 (r:=ss) om hss ?_|apply zD<;>intro<;>try omega)<;>conv=>whnf
     all_goals first
      |omega
      |exact fin0 _ _ _ (by unfold C9;rw [hst]) (by rw [hst];rfl)
    |some rq=>
     rw [hC,show leI (some rq)=rq from rfl] at l4;have hst:u7 m n D=.next rq ss:=by unfold u7 V6;rw [hR,hS];simp only [if_neg hlt];rw [hC]
     have exr:=exc _ _ hst;conv=>whnf
     repeat' (first|refine zx ?_|refine .inl ⟨_,_,j4 l1 (va1 _) rfl,?_⟩|refine .inl ⟨_,_,j4 l2 (va2 _) rfl,?_⟩|refine .inl ⟨_,_,j4 l4 (va4 _ _ ss) rfl,?_⟩|refine .inr ⟨_,_,ai7 _ exr,?_⟩|refine g8 (f6 _ _ _) ?_|refine f8 ?_|refine o5 (f6 _ _ _) ?_|refine i5 (t:=1) (f6 _ _ _) ?_|refine i5 (t:=2) (f6 _ _ _) ?_|refine i9 (t:=1) (f6 _ _ _) ?_|refine i9 (t:=2) (f6 _ _ _) ?_|refine M7 (r:=rr) om hrr ?_|refine M7 (r:=ss) om hss ?_|apply zD<;>intro<;>try omega)<;>conv=>whnf
     all_goals first|omega|exact go _ _ _ _ hst ⟨⟨i6 om,rz⟩,trivial⟩
def a2d {P:Program} {g:FuncId} {args:List S} {H:Hp} {b:Blk} {n:Nat} {app:Bool} (h:d6 P g args [] (.c (.own 0 0 n app)) [b]) (ha:args.all S.isT=true) (hm:b.mode=.live) (hb:J9 b.rows):
 a02 P g args H (.c (.own H.length 0 n app)) [b]:=by
 refine ⟨h.1,fun w ι M vals hl hv hH hM hf=>?_⟩;have:=h.2 w (fun _=>none) M vals hl (fun j s hj=>(hv j s hj).tree (lbw.1 ha s (lbm hj)))
  ⟨zq,zq,zq,zq,zq⟩ hM (fun _ _=>rfl)
 refine Calls.mono this ?_;rintro e w' ⟨v,rfl,ι',M',h1,h2,h3,h4,h5⟩;have hnl:∀x,¬a4v (fun _=>none) ([]:Hp) x:=by rintro x ⟨id,k,_,_,hk,_⟩;simp at hk
 obtain ⟨l,hl0⟩:∃l,ι' 0=some l:=by
  cases h1 with
  |c h1=>cases h1 with
   |own hi=>exact ⟨_,hi⟩
   |nil hi=>exact ⟨_,hi⟩
 have hnew:C2 ι H.length [b].length (fun _=>l) H.length=some l:=by unfold C2;simp
 have hMM:∀x,a6h M [b].length (fun _=>l) x->M' x:=by
  intro x hx;rcases hx with hx|⟨k,hk,cap,size,he⟩
  ·rcases h5.mold x hx with h|h
   ·exact h
   ·exact absurd h (hnl x)
  ·have he:l=.blk x cap size:=he;subst he;exact h2.liv 0 b rfl hm x cap size hl0
 refine ⟨v,rfl,fun _=>l,?_,⟨h5.os,h5.tape,h5.output,h5.size,fun x hx=>h5.keep x hx (hnl x)⟩,?_,?_,?_⟩
 ·cases h1 with
  |c h1=>cases h1 with
   |own hi q1 q2 q3 q4 q5=>
    rw [hl0] at hi;injection hi with hi
    subst hi;exact .c (.own hnew q1 q2 q3 q4 q5)
   |nil hi=>
    rw [hl0] at hi;injection hi with hi
    subst hi;exact .c (.nil hnew)
 ·intro k blk hk;cases k with
  |succ k=>simp at hk
  |zero=>
   simp at hk;subst hk;refine ⟨hm,?_⟩;have hbr:=h2.blk 0 b rfl (by rw [hm];intro h;cases h) l hl0;cases l with
   |nil=>exact hbr
   |blk x cap size=>
    obtain ⟨r1,r2,r3,r4,r5,cur,r6,r7,r8⟩:=hbr;refine ⟨r1,r2,r3,r4,r5,cur,r6,r7,fun i j c hc=>?_⟩;obtain ⟨u,u1,u2⟩:=r8 i j c hc;exact ⟨u,u1,av4 hMM hb hc u2⟩
 ·intro k x cap size hk he;have he:l=.blk x cap size:=he;subst he;refine ⟨?_,h3 x (h2.liv 0 b rfl hm x cap size hl0)⟩;rcases h5.live x ⟨0,b,cap,size,rfl,hm,hl0⟩ with h|h
  ·exact absurd h (hnl x)
  ·exact h
 ·intro k k' x cap size cap' size' hk hk' _ _;simp at hk hk';omega
def b4Q (H:Hp) (n:Nat) (hn:n<=1000):a02 Tryz.prog 289 [eI n] H (.c (.own H.length 0 n true)) [flB (rF n fun _=>0)]:=
 a2d (ba6 n hn) rfl rfl (e7 _)
def a6d (l:List (Int × Rat)):Nat->Nat->Rat
 |0=>A7 l
 |k+1=>match l[k]? with
  |none=>a6d l k
  |some t=>fun j=>if j=t.1.toNat then -t.2 else a6d l k j
def aE3 {l:List (Int × Rat)} {k:Nat} {t:Int × Rat} (h:l[k]? =some t):a6d l (k+1)=fun j=>if j=t.1.toNat then -t.2 else a6d l k j:=by rw [a6d,h]
def b42 (l:List (Int × Rat)) (j:Nat):∀k,k<=l.length->a6d l k j=-(L0 l k j)∨(L0 l k j=0∧a6d l k j=A7 l j)
 |0,_=>.inr rz
 |k+1,hk=>by
  obtain ⟨t,ht⟩:∃t,l[k]? =some t:=⟨_,lbf om⟩;rw [aE3 ht,I1 ht];simp only;by_cases hj:j=t.1.toNat
  ·rw [if_pos hj,if_pos hj];exact .inl rfl
  ·rw [if_neg hj,if_neg hj];exact b42 l j k om
def b6W (l:List (Int × Rat)):a6d l l.length=fun j=>-(A7 l j):=by
 funext j;rcases b42 l j l.length (lbS _) with h|⟨h1,h2⟩
 ·exact h
 ·rw [h2];have:A7 l j=0:=h1;rw [this];decide
def sgF (b:Bool) (l:List (Int × Rat)):Nat->Rat:=fun j=>S0 b (A7 l j)
end Go.Proofs.YtikokmdpigploaaGreat
