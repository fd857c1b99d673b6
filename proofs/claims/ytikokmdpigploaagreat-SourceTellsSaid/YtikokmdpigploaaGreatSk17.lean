/- Chapter 21 in plain Lean: the system of a kind of foreign matter, and its solutions. No program is in sight. -/
import Derived.Test.YtikokmdpigploaaGreatSk16
namespace Go.Proofs.YtikokmdpigploaaGreat
set_option linter.all false
set_option maxRecDepth 100000
set_option maxHeartbeats 8000000
open Go.RowKit
open St1 St2 St3 St4 St5 St6 St7 St8 StA StB StC
section
open Go.RowKit Go.ChangeShapes Go.WideShapes Go.Deep
inductive Sh where
 |int (k:IntKind)
 |bool
 |sl (row:List Sh)
inductive Fit:Sh->T->Prop
 |int {k:IntKind} {n:Int} (h:(Lit.int k n).wf=true):Fit (.int k) (.atm (.int k n))
 |bool {b:Bool}:Fit .bool (.atm (.bool b))
 |sl {row:List Sh} {rows:List (List T)} (hl:∀r ∈ rows,r.length=row.length) (h:∀r ∈ rows,∀(j:Nat) (s:Sh) (t:T),row[j]? =some s->r[j]? =some t->Fit s t):Fit (.sl row) (.sl row.length .any rows)
inductive G2 (P:Program):TypeId->List Sh->Prop
 |int {t:TypeId} {k:IntKind} (h:P.underlying t=some (.int k)):G2 P t [.int k]
 |bool {t:TypeId} (h:P.underlying t=some .bool):G2 P t [.bool]
 |sl {t e:TypeId} {row:List Sh} (h:P.underlying t=some (.slice e)) (hc:P.cellsOf e=row.length) (hp:0<row.length) (he:G2 P e row):G2 P t [.sl row]
 |struct {t:TypeId} {fs:Array Field} (parts:List (List Sh)) (h:P.underlying t=some (.struct fs)) (hl:parts.length=fs.size)
   (ho:∀(i:Nat) (f:Field) (p:List Sh),fs[i]? =some f->parts[i]? =some p->f.offset=(parts.take i).flatten.length∧P.cellsOf f.type=p.length)
   (hc:P.cellsOf t=parts.flatten.length)
   (he:∀(i:Nat) (f:Field) (p:List Sh),fs[i]? =some f->parts[i]? =some p->G2 P f.type p):G2 P t parts.flatten
section
variable {H:Type} {enc:TypeId × Value->H} {P:Program} {w:World} {base:Nat} {spare:Nat->Bool} {held:Bool}
def aK5 (w:World) (shs:List Sh) (cs:List Value):Prop:=
 cs.length=shs.length∧∃ts:List T,ts.length=shs.length∧∀(j:Nat) (s:Sh),shs[j]? =some s->∃u t,cs[j]? =some u∧ts[j]? =some t∧RT w (fun _=>False) t u∧Fit s t
def aq2 {α:Type}:∀(parts:List (List α)) (j:Nat) (x:α),parts.flatten[j]? =some x->∃i p k,parts[i]? =some p∧p[k]? =some x∧j=(parts.take i).flatten.length+k
 |[],j,x,h=>by simp at h
 |p::r,j,x,h=>by
  rw [List.flatten_cons] at h;by_cases hj:j<p.length
  ·rw [lbb hj] at h;exact ⟨0,p,j,rfl,h,zq⟩
  ·rw [lbc om] at h;obtain ⟨i,q,k,h1,h2,h3⟩:=aq2 r _ x h;exact ⟨i+1,q,k,by simpa using h1,h2,by rw [List.take_succ_cons,List.flatten_cons,lbq];omega⟩
def a1C {α:Type} {p:Nat->α->Prop}:∀(n:Nat),(∀ i,i<n->∃x,p i x)->∃xs:List α,xs.length=n∧∀i x,xs[i]? =some x->p i x
 |0,_=>⟨[],rfl,zq⟩
 |n+1,h=>by
  obtain ⟨xs,h1,h2⟩:=a1C n fun i hi=>h i om
  obtain ⟨x,hx⟩:=h n om;refine ⟨xs++[x],by simp [h1],fun i y hy=>?_⟩;by_cases hi:i<xs.length
  ·rw [lbb hi] at hy;exact h2 i y hy
  ·rw [lbc om] at hy;have:i=n:=by
    have:=(lbe.1 hy).1;simp at this;omega
   subst this;rw [h1] at hy;simp at hy;subst hy;exact hx
def b2t {t:TypeId} {shs:List Sh} (h:G2 P t shs):∀(n:Nat) (cs:List Value) (x:DataW H × List MemPlace),DataW.trod enc P w base spare held n t cs=some x->aK5 w shs cs:=by
 induction h with
 |int h=>
  intro n cs x hx;obtain ⟨a,rfl,_,hw⟩:=DataW.trod_int h hx;exact ⟨rfl,[.atm (.int _ a)],rfl,fun j s hj=>by
   match j,hj with
   |0,hj=>simp at hj;subst hj;exact ⟨_,_,rfl,rfl,.atm rfl,.int hw⟩⟩
 |bool h=>
  intro n cs x hx;obtain ⟨a,rfl,_⟩:=DataW.trod_bool h hx;exact ⟨rfl,[.atm (.bool a)],rfl,fun j s hj=>by
   match j,hj with
   |0,hj=>simp at hj;subst hj;exact ⟨_,_,rfl,rfl,.atm rfl,.bool⟩⟩
 |@sl t e row h hc hp he ih=>
  intro n cs x hx;have key:∀(rows:List (List T)) (u:Value),cs=[u]->RT w (fun _=>False) (.sl row.length .any rows) u->(∀ r ∈ rows,r.length=row.length)->(∀ r ∈ rows,∀(j:Nat) (s:Sh) (t:T),row[j]? =some s->r[j]? =some t->Fit s t)->aK5 w [.sl row] cs:=by
   rintro rows u rfl hu h1 h2;exact ⟨rfl,[.sl row.length .any rows],rfl,fun j s hj=>by
    match j,hj with
    |0,hj=>simp at hj;subst hj;exact ⟨_,_,rfl,rfl,hu,.sl h1 h2⟩⟩
  rcases open_slice h hx with ⟨h0,_⟩|⟨a,len,cap,m,n,D,Pl,hcs,hb,hl,hm,hmm,hx,hi⟩
  ·exact key [] _ h0 (.sl (b:=0) (off:=0) (fun _ _=>undef) zq zq (by unfold maxLen;omega) zi zi zq (by simp [at2]) (by simp [at2])) zq zq
  ·by_cases hz:len=0
   ·subst hz;exact key [] _ hcs (.sl (b:=0) (off:=0) (fun _ _=>undef) zq zq hm zi zi zq (by simp [at2]) (by simp [at2])) zq zq
   have hlm:len<=m:=by rw [hmm];split<;>omega
   have each:∀i,i<len->∃cs':List Value,(∀ j,j<row.length->w.cell? (a.add (i*row.length+j))=cs'[j]?)∧aK5 w row cs':=by
    intro i hil;obtain ⟨cs',hc',ht'⟩:=hi i om;rw [hc] at hc';obtain ⟨_,hcl,hat⟩:=World.cells?_some hc';exact ⟨cs',fun j hj=>by rw [← Go.Deep.add_add];exact hat j hj,ih n cs' _ ht'⟩
   obtain ⟨css,hcl,hcs2⟩:=a1C len each;obtain ⟨rows,hrl,hrows⟩:=a1C (α:=List T) (p:=fun i ts=>ts.length=row.length∧∀(j:Nat) (s:Sh),row[j]? =some s->∃u t,(css.getD i [])[j]? =some u∧ts[j]? =some t∧RT w (fun _=>False) t u∧Fit s t) len (fun i hi=>by
    have hg:css[i]? =some (css[i]' om):=lbf om;obtain ⟨_,_,ts,h1,h2⟩:=hcs2 i _ hg;refine ⟨ts,h1,?_⟩;rw [lbl,hg];exact h2)
   have hcell:∀i j,i<len->j<row.length->w.cell? (a.add (i*row.length+j))=some ((css.getD i []).getD j undef):=by
    intro i j hi hj;have hg:css[i]? =some (css[i]' om):=lbf om;obtain ⟨h1,h2,_⟩:=hcs2 i _ hg;rw [h1 j hj];have hgd:css.getD i []=css[i]' om:=by rw [lbl,hg];rfl
    rw [hgd,lbl,lbf om];rfl
   have hspot:a.spot=none:=by
    have:=World.cell?_spot (hcell 0 0 om hp);simpa [Addr.add] using this
   obtain ⟨b,off,sp⟩:=a;simp only at hspot;subst hspot;have hadd:∀k,(⟨b,off,none⟩:Addr).add k=⟨b,off+k,none⟩:=by
    intro k;unfold Addr.add;split
    ·subst_vars;rfl
    ·rfl
   have hat:∀i j c,at2 rows i j=some c->i<len∧j<row.length∧∃r s,rows[i]? =some r∧r[j]? =some c∧row[j]? =some s:=by
    intro i j c hc;obtain ⟨r,q1,q2⟩:=F8 hc;have hil:i<len:=by rw [← hrl];exact (lbe.1 q1).1
    have hjl:j<row.length:=by rw [← (hrows i r q1).1];exact (lbe.1 q2).1
    exact ⟨hil,hjl,r,_,q1,q2,lbf hjl⟩
   refine key rows (.slice (some ⟨b,off,none⟩) len cap) hcs ?_ ?_ ?_
   ·rw [← hrl];refine .sl (b:=b) (off:=off) (fun i j=>(css.getD i []).getD j undef) ?_ om hm zi zi (fun _=>rfl) ?_ ?_
    ·intro r hr;obtain ⟨i,hi⟩:=aw6.1 hr;exact (hrows i r hi).1
    ·intro i j c hc;obtain ⟨hil,hjl,_⟩:=hat i j c hc;have:=hcell i j hil hjl;rw [hadd] at this;exact ⟨this,fun h=>h⟩
    ·intro i j c hc;obtain ⟨hil,hjl,r,s,q1,q2,q3⟩:=hat i j c hc;obtain ⟨u,t,h1,h2,h3,h4⟩:=(hrows i r q1).2 j s q3;rw [q2] at h2;injection h2 with h2;subst h2;rw [lbl (l:=css.getD i []),h1];exact h3
   ·intro r hr;obtain ⟨i,hi⟩:=aw6.1 hr;exact (hrows i r hi).1
   ·intro r hr j s t hs ht;obtain ⟨i,hi⟩:=aw6.1 hr;obtain ⟨u,t',h1,h2,h3,h4⟩:=(hrows i r hi).2 j s hs;rw [ht] at h2;injection h2 with h2;subst h2;exact h4
 |@struct t fs parts h hl ho hc he ih=>
  intro n cs x hx;obtain ⟨xs,n',hn',hy,hlen,hyl,hf⟩:=DataW.trod_struct h hx;have hlen':cs.length=parts.flatten.length:=by rw [hlen,hc]
  have each:∀j,j<parts.flatten.length->∃t,∀s,parts.flatten[j]? =some s->∃u,cs[j]? =some u∧RT w (fun _=>False) t u∧Fit s t:=by
   intro j hj;obtain ⟨i,p,k,q1,q2,q3⟩:=aq2 parts j _ (lbf hj);have hi:i<fs.size:=by rw [← hl];exact (lbe.1 q1).1
   have hfi:fs[i]? =some fs[i]:=Array.getElem?_eq_getElem hi;obtain ⟨o1,o2⟩:=ho i _ p hfi q1;have h1:=hf i _ hfi;have hxi:xs[i]? =some (xs[i]' om):=lbf om;obtain ⟨r1,ts,r2,r3⟩:=ih i _ p hfi q1 n' _ _ (h1.trans hxi);obtain ⟨u,t,e1,e2,e3,e4⟩:=r3 k _ q2;refine ⟨t,fun s hs=>⟨u,?_,e3,?_⟩⟩
   ·have hk:k<p.length:=(lbe.1 q2).1;rw [lbi,o2,if_pos hk,lbj,o1,←q3] at e1;exact e1
   ·rw [lbf hj] at hs;injection hs with hs;rw [← hs];exact e4
  obtain ⟨ts,t1,t2⟩:=a1C parts.flatten.length each;refine ⟨hlen',ts,t1,fun j s hj=>?_⟩;have hjl:=(lbe.1 hj).1;have htj:ts[j]? =some (ts[j]' om):=lbf om;obtain ⟨u,h1,h2,h3⟩:=t2 j _ htj s hj;exact ⟨u,_,h1,htj,h2,h3⟩
end
def Fit.int_inv {k:IntKind} {t:T} (h:Fit (.int k) t):∃n,t=.atm (.int k n)∧(Lit.int k n).wf=true:=by cases h with|int h=>exact ⟨_,rfl,h⟩
def Fit.bool_inv {t:T} (h:Fit .bool t):∃b,t=.atm (.bool b):=by cases h with|bool=>exact ⟨_,rfl⟩
def aS1 {α:Type} {f:α->List T} {p:α->Prop}:∀{rows:List (List T)},(∀ r ∈ rows,∃x,r=f x∧p x)->∃xs:List α,rows=xs.map f∧∀x ∈ xs,p x
 |[],_=>⟨[],rfl,zq⟩
 |r::rs,h=>by
  obtain ⟨x,rfl,hx⟩:=h r zq;obtain ⟨xs,rfl,hxs⟩:=aS1 (rows:=rs) (f:=f) (p:=p) fun r hr=>h r (a4s _ hr)
  exact ⟨x::xs,rfl,fun y hy=>by rcases lbz.1 hy with rfl|hy;exact hx;exact hxs y hy⟩
def Fit.sl_inv {α:Type} (f:α->List T) (p:α->Prop) {row:List Sh} {t:T} (h:Fit (.sl row) t)
 (hrow:∀r:List T,r.length=row.length->(∀ (j:Nat) (s:Sh) (t:T),row[j]? =some s->r[j]? =some t->Fit s t)->∃x,r=f x∧p x):
 ∃xs:List α,t=.sl row.length .any (xs.map f)∧∀x ∈ xs,p x:=by
 cases h with
 |sl hl h=>
  obtain ⟨xs,rfl,hx⟩:=aS1 (f:=f) (p:=p) (fun r hr=>hrow r (hl r hr) (h r hr));exact ⟨xs,rfl,hx⟩
end
section
open Go.RowKit Go.ChangeShapes Go.WideShapes Go.Deep
abbrev j7:Sh:=.int .i64
abbrev b6A:List Sh:=[j7,.sl [j7]]
abbrev a2Z:List Sh:=[j7,.sl [j7],j7,.sl [j7]]
def z5:G2 Tryz.prog 3 [j7]:=.int Tryz.underlying3
def b5x:G2 Tryz.prog 33 [.sl [j7]]:=.sl Tryz.underlying33 zr de z5
def a5m {P:Program} {t:TypeId} {fs:Array Field} {p0 p1:List Sh} (h:P.underlying t=some (.struct fs)) (hl:fs.size=2)
 (h0:∃f,fs[0]? =some f∧f.offset=0∧P.cellsOf f.type=p0.length∧G2 P f.type p0) (h1:∃f,fs[1]? =some f∧f.offset=p0.length∧P.cellsOf f.type=p1.length∧G2 P f.type p1)
 (hc:P.cellsOf t=p0.length+p1.length):G2 P t (p0++p1):=by
 obtain ⟨f0,a1,a2,a3,a4⟩:=h0;obtain ⟨f1,b1,b2,b3,b4⟩:=h1;have:=G2.struct (P:=P) (t:=t) (fs:=fs) [p0,p1] h (by simp [hl]) (fun i f p hf hp=>by
  match i,hp with
  |0,hp=>simp at hp;subst hp;rw [a1] at hf;injection hf with hf;subst hf;exact ⟨by simp [a2],a3⟩
  |1,hp=>simp at hp;subst hp;rw [b1] at hf;injection hf with hf;subst hf;exact ⟨by simp [b2],b3⟩
  |n+2,hp=>simp at hp) (by simp [hc]) (fun i f p hf hp=>by
  match i,hp with
  |0,hp=>simp at hp;subst hp;rw [a1] at hf;injection hf with hf;subst hf;exact a4
  |1,hp=>simp at hp;subst hp;rw [b1] at hf;injection hf with hf;subst hf;exact b4
  |n+2,hp=>simp at hp)
 simpa using this
def b2v:G2 Tryz.prog 84 b6A:=
 a5m (p0:=[j7]) (p1:=[.sl [j7]]) Tryz.underlying84 zr ⟨_,rfl,rfl,zr,z5⟩ ⟨_,rfl,rfl,zr,b5x⟩ zr
def b5I:G2 Tryz.prog 86 a2Z:=
 a5m (p0:=b6A) (p1:=b6A) Tryz.underlying86 zr ⟨_,rfl,rfl,zr,b2v⟩ ⟨_,rfl,rfl,zr,b2v⟩ zr
def a92:G2 Tryz.prog 49 [.sl a2Z]:=.sl Tryz.underlying49 zr de b5I
def b0W:G2 Tryz.prog 264 [j7,j7]:=
 a5m (p0:=[j7]) (p1:=[j7]) Tryz.underlying264 zr ⟨_,rfl,rfl,zr,z5⟩ ⟨_,rfl,rfl,zr,z5⟩ zr
def aQ1 {t:T} (h:Fit (.sl [j7]) t):∃l:List Int,t=x6 l:=by
 obtain ⟨xs,rfl,_⟩:=h.sl_inv k6 (fun _=>True) (fun r hl hr=>by
  match r,hl with
  |[u],_=>
   obtain ⟨n,rfl,_⟩:=(hr 0 _ _ rfl rfl).int_inv
   exact ⟨n,rfl,trivial⟩)
 exact ⟨xs,rfl⟩
def aQ0 {r:List T} (hl:r.length=4) (hr:∀(j:Nat) (s:Sh) (t:T),a2Z[j]? =some s->r[j]? =some t->Fit s t):∃f:Fr,r=o4 f:=by
 match r,hl with
 |[a,b,c,d],_=>
  obtain ⟨n,rfl,_⟩:=(hr 0 _ _ rfl rfl).int_inv;obtain ⟨l,rfl⟩:=aQ1 (hr 1 _ _ rfl rfl);obtain ⟨m,rfl,_⟩:=(hr 2 _ _ rfl rfl).int_inv;obtain ⟨k,rfl⟩:=aQ1 (hr 3 _ _ rfl rfl);exact ⟨⟨⟨n,l⟩,⟨m,k⟩⟩,rfl⟩
def a8R {t:T} (h:Fit (.sl a2Z) t):∃l:List Fr,t=O8 l:=by
 obtain ⟨xs,rfl,_⟩:=h.sl_inv o4 (fun _=>True) (fun r hl hr=>by
  obtain ⟨f,rfl⟩:=aQ0 hl hr
  exact ⟨f,rfl,trivial⟩)
 exact ⟨xs,rfl⟩
section
variable {H:Type} {enc:TypeId × Value->H} {w:World} {base:Nat} {spare:Nat->Bool} {held:Bool}
def aP8 {shs:List Sh} {l:List Value} (h:aK5 w shs l):∃ts:List T,ts.length=shs.length∧(∀ (j:Nat) (s:Sh) (t:T),shs[j]? =some s->ts[j]? =some t->Fit s t)∧RS w (fun _=>none) (fun _=>False) (.agg (ts.map C.t)) (.agg ⟨l⟩):=by
 obtain ⟨h0,ts,h1,h2⟩:=h;refine ⟨ts,h1,fun j s t hs ht=>?_,?_⟩
 ·obtain ⟨u,t',e1,e2,e3,e4⟩:=h2 j s hs;rw [ht] at e2;injection e2 with e2;subst e2;exact e4
 ·refine .agg l (by simp [h0,h1]) fun j c hc=>?_
  rw [lba] at hc;obtain ⟨t,ht,rfl⟩:=ar2.1 hc;have hj:j<shs.length:=by rw [← h1];exact (lbe.1 ht).1
  obtain ⟨u,t',e1,e2,e3,e4⟩:=h2 j _ (lbf hj);rw [ht] at e2;injection e2 with e2;subst e2
  rw [lbl,e1];exact .t e3
end
end
section
open Go.RowKit Go.ChangeShapes Go.WideShapes Go.Deep
def aU0 (P:Program):List Field->List (List Sh)->Nat->Prop
 |[],[],_=>True
 |f::fs,p::ps,o=>(f.offset=o∧P.cellsOf f.type=p.length∧G2 P f.type p)∧aU0 P fs ps (o+p.length)
 |_,_,_=>False
def aU0.get {P:Program}:∀{fs:List Field} {ps:List (List Sh)} {o:Nat},aU0 P fs ps o->ps.length=fs.length∧∀(i:Nat) (f:Field) (p:List Sh),fs[i]? =some f->ps[i]? =some p->f.offset=o+(ps.take i).flatten.length∧P.cellsOf f.type=p.length∧G2 P f.type p
 |[],[],o,_=>⟨rfl,zq⟩
 |f::fs,p::ps,o,h=>by
  obtain ⟨⟨h1,h2,h3⟩,h4⟩:=h;obtain ⟨l,g⟩:=aU0.get h4;refine ⟨by simp [l],fun i f' p' hf hp=>?_⟩;cases i with
  |zero=>simp at hf hp;subst hf hp;exact ⟨by simp [h1],h2,h3⟩
  |succ i=>
   obtain ⟨g1,g2,g3⟩:=g i f' p' (by simpa using hf) (by simpa using hp);exact ⟨by rw [g1];simp;omega,g2,g3⟩
 |[],_::_,_,h=>h.elim
 |_::_,[],_,h=>h.elim
def R7 {P:Program} {t:TypeId} {fs:Array Field} (parts:List (List Sh)) (h:P.underlying t=some (.struct fs)) (hf:aU0 P fs.toList parts 0) (hc:P.cellsOf t=parts.flatten.length):G2 P t parts.flatten:=by
 obtain ⟨l,g⟩:=hf.get;refine G2.struct parts h (by simpa using l) (fun i f p hi hp=>?_) hc (fun i f p hi hp=>?_)
 ·obtain ⟨g1,g2,g3⟩:=g i f p (by simpa using hi) hp;exact ⟨by rw [g1];simp,g2⟩
 ·exact (g i f p (by simpa using hi) hp).2.2
def b6r:G2 Tryz.prog 4 [.bool]:=.bool Tryz.underlying4
def b3z:G2 Tryz.prog 160 [j7,j7,j7]:=
 R7 [[j7],[j7],[j7]] Tryz.underlying160 ⟨⟨zr,zr,z5⟩,⟨zr,zr,z5⟩,⟨zr,zr,z5⟩,trivial⟩ zr
def b4J:G2 Tryz.prog 149 [j7,j7,j7,j7,j7,.bool]:=
 R7 [[j7],[j7],[j7],[j7],[j7],[.bool]] Tryz.underlying149 ⟨⟨zr,zr,z5⟩,⟨zr,zr,z5⟩,⟨zr,zr,z5⟩,⟨zr,zr,z5⟩,⟨zr,zr,z5⟩,⟨zr,zr,b6r⟩,trivial⟩ zr
def b6G:G2 Tryz.prog 255 [j7,j7,j7,j7,j7,j7]:=
 R7 [[j7],[j7],[j7],[j7],[j7],[j7]] Tryz.underlying255 ⟨⟨zr,zr,z5⟩,⟨zr,zr,z5⟩,⟨zr,zr,z5⟩,⟨zr,zr,z5⟩,⟨zr,zr,z5⟩,⟨zr,zr,z5⟩,trivial⟩ zr
def b0v:G2 Tryz.prog 266 [j7,j7,j7,j7]:=
 R7 [[j7],[j7],[j7],[j7]] Tryz.underlying266 ⟨⟨zr,zr,z5⟩,⟨zr,zr,z5⟩,⟨zr,zr,z5⟩,⟨zr,zr,z5⟩,trivial⟩ zr
def b5n:G2 Tryz.prog 43 [j7,j7,j7]:=
 R7 [[j7],[j7],[j7]] Tryz.underlying43 ⟨⟨zr,zr,z5⟩,⟨zr,zr,z5⟩,⟨zr,zr,z5⟩,trivial⟩ zr
def b3D:G2 Tryz.prog 45 [j7,j7]:=
 R7 [[j7],[j7]] Tryz.underlying45 ⟨⟨zr,zr,z5⟩,⟨zr,zr,z5⟩,trivial⟩ zr
def b1w:G2 Tryz.prog 22 [.sl [j7,j7,j7]]:=.sl Tryz.underlying22 zr de b3z
def b45:G2 Tryz.prog 23 [.sl [j7,j7,j7,j7,j7,.bool]]:=.sl Tryz.underlying23 zr de b4J
def b3Z:G2 Tryz.prog 24 [.sl [j7,j7,j7,j7,j7,j7]]:=.sl Tryz.underlying24 zr de b6G
def aQ3:G2 Tryz.prog 25 [.sl [j7,j7]]:=.sl Tryz.underlying25 zr de b0W
def aD1:G2 Tryz.prog 26 [.sl [j7,j7,j7,j7]]:=.sl Tryz.underlying26 zr de b0v
def b4m:G2 Tryz.prog 29 [.sl [j7,j7,j7]]:=.sl Tryz.underlying29 zr de b5n
def b0G:G2 Tryz.prog 30 [.sl [j7,j7]]:=.sl Tryz.underlying30 zr de b3D
abbrev bn9:List Sh:=[j7,j7,j7,.sl [j7,j7,j7],.sl [j7,j7,j7,j7,j7,.bool],.sl [j7,j7,j7,j7,j7,j7],.sl [j7,j7],.sl [j7,j7,j7,j7]]
def bl4:G2 Tryz.prog 28 bn9:=
 R7 [[j7],[j7],[j7],[.sl [j7,j7,j7]],[.sl [j7,j7,j7,j7,j7,.bool]],[.sl [j7,j7,j7,j7,j7,j7]],[.sl [j7,j7]],[.sl [j7,j7,j7,j7]]] Tryz.underlying28
  ⟨⟨zr,zr,z5⟩,⟨zr,zr,z5⟩,⟨zr,zr,z5⟩,⟨zr,zr,b1w⟩,⟨zr,zr,b45⟩,⟨zr,zr,b3Z⟩,⟨zr,zr,aQ3⟩,⟨zr,zr,aD1⟩,trivial⟩ zr
abbrev bw0:List Sh:=bn9++[.sl [j7,j7,j7],.sl [j7,j7]]
def be0:G2 Tryz.prog 32 bw0:=
 R7 [bn9,[.sl [j7,j7,j7]],[.sl [j7,j7]]] Tryz.underlying32
  ⟨⟨zr,zr,bl4⟩,⟨zr,zr,b4m⟩,⟨zr,zr,b0G⟩,trivial⟩ zr
def E8 {t:T} (h:Fit j7 t):∃n,t=ti n:=by obtain ⟨n,h,_⟩:=h.int_inv;exact ⟨n,h⟩
section
variable {α:Type} {t:T}
def b0A (h:Fit (.sl [j7,j7,j7]) t):∃l:List X4,t=a6y l:=by
 obtain ⟨xs,rfl,_⟩:=h.sl_inv X4.row (fun _=>True) (fun r hl hr=>by
  match r,hl with
  |[a,b,c],_=>
   obtain ⟨a,rfl⟩:=E8 (hr 0 _ _ rfl rfl)
   obtain ⟨b,rfl⟩:=E8 (hr 1 _ _ rfl rfl)
   obtain ⟨c,rfl⟩:=E8 (hr 2 _ _ rfl rfl)
   exact ⟨⟨a,b,c⟩,rfl,trivial⟩)
 exact ⟨xs,rfl⟩
def b43 (h:Fit (.sl [j7,j7,j7]) t):∃l:List Z9,t=an1 l:=by
 obtain ⟨xs,rfl,_⟩:=h.sl_inv Z9.row (fun _=>True) (fun r hl hr=>by
  match r,hl with
  |[a,b,c],_=>
   obtain ⟨a,rfl⟩:=E8 (hr 0 _ _ rfl rfl)
   obtain ⟨b,rfl⟩:=E8 (hr 1 _ _ rfl rfl)
   obtain ⟨c,rfl⟩:=E8 (hr 2 _ _ rfl rfl)
   exact ⟨⟨a,b,c⟩,rfl,trivial⟩)
 exact ⟨xs,rfl⟩
def b0n (h:Fit (.sl [j7,j7]) t):∃l:List P1,t=a8g l:=by
 obtain ⟨xs,rfl,_⟩:=h.sl_inv P1.row (fun _=>True) (fun r hl hr=>by
  match r,hl with
  |[a,b],_=>
   obtain ⟨a,rfl⟩:=E8 (hr 0 _ _ rfl rfl)
   obtain ⟨b,rfl⟩:=E8 (hr 1 _ _ rfl rfl)
   exact ⟨⟨a,b⟩,rfl,trivial⟩)
 exact ⟨xs,rfl⟩
def aW0 (h:Fit (.sl [j7,j7]) t):∃l:List E9,t=N6 l:=by
 obtain ⟨xs,rfl,_⟩:=h.sl_inv E9.row (fun _=>True) (fun r hl hr=>by
  match r,hl with
  |[a,b],_=>
   obtain ⟨a,rfl⟩:=E8 (hr 0 _ _ rfl rfl)
   obtain ⟨b,rfl⟩:=E8 (hr 1 _ _ rfl rfl)
   exact ⟨⟨a,b⟩,rfl,trivial⟩)
 exact ⟨xs,rfl⟩
def aL6 (h:Fit (.sl [j7,j7,j7,j7]) t):∃l:List a1o,t=a1N l:=by
 obtain ⟨xs,rfl,_⟩:=h.sl_inv a1o.row (fun _=>True) (fun r hl hr=>by
  match r,hl with
  |[a,b,c,d],_=>
   obtain ⟨a,rfl⟩:=E8 (hr 0 _ _ rfl rfl)
   obtain ⟨b,rfl⟩:=E8 (hr 1 _ _ rfl rfl)
   obtain ⟨c,rfl⟩:=E8 (hr 2 _ _ rfl rfl)
   obtain ⟨d,rfl⟩:=E8 (hr 3 _ _ rfl rfl)
   exact ⟨⟨a,b,c,d⟩,rfl,trivial⟩)
 exact ⟨xs,rfl⟩
def b3Y (h:Fit (.sl [j7,j7,j7,j7,j7,j7]) t):∃l:List L8,t=a0G l:=by
 obtain ⟨xs,rfl,_⟩:=h.sl_inv L8.row (fun _=>True) (fun r hl hr=>by
  match r,hl with
  |[a,b,c,d,e,f],_=>
   obtain ⟨a,rfl⟩:=E8 (hr 0 _ _ rfl rfl)
   obtain ⟨b,rfl⟩:=E8 (hr 1 _ _ rfl rfl)
   obtain ⟨c,rfl⟩:=E8 (hr 2 _ _ rfl rfl)
   obtain ⟨d,rfl⟩:=E8 (hr 3 _ _ rfl rfl)
   obtain ⟨e,rfl⟩:=E8 (hr 4 _ _ rfl rfl)
   obtain ⟨f,rfl⟩:=E8 (hr 5 _ _ rfl rfl)
   exact ⟨⟨a,b,c,d,e,f⟩,rfl,trivial⟩)
 exact ⟨xs,rfl⟩
def b3X (h:Fit (.sl [j7,j7,j7,j7,j7,.bool]) t):∃l:List A8,t=a4m l:=by
 obtain ⟨xs,rfl,_⟩:=h.sl_inv A8.row (fun _=>True) (fun r hl hr=>by
  match r,hl with
  |[a,b,c,d,e,f],_=>
   obtain ⟨a,rfl⟩:=E8 (hr 0 _ _ rfl rfl)
   obtain ⟨b,rfl⟩:=E8 (hr 1 _ _ rfl rfl)
   obtain ⟨c,rfl⟩:=E8 (hr 2 _ _ rfl rfl)
   obtain ⟨d,rfl⟩:=E8 (hr 3 _ _ rfl rfl)
   obtain ⟨e,rfl⟩:=E8 (hr 4 _ _ rfl rfl)
   obtain ⟨f,rfl⟩:=(hr 5 _ _ rfl rfl).bool_inv
   exact ⟨⟨a,b,c,d,e,f⟩,rfl,trivial⟩)
 exact ⟨xs,rfl⟩
end
section
variable {H:Type} {enc:TypeId × Value->H} {w:World} {base:Nat} {spare:Nat->Bool} {held:Bool}
def open_trace {v:Value} {d:DataW H} {p:List MemPlace} {r:Reach} {b0:Nat} (hv:Value.okWide Tryz.prog w r b0 32 v) (h:DataW.Trod enc Tryz.prog w base spare held 32 v d p):∃t:n7,RS w (fun _=>none) (fun _=>False) (trS t) v:=by
 obtain ⟨⟨l⟩,rfl,_⟩:=okWide_struct Tryz.underlying32 hv;obtain ⟨fuel,hf⟩:=h;obtain ⟨ts,h1,h2,h3⟩:=aP8 (b2t be0 fuel _ _ hf)
 match ts,h1 with
 |[a,b,c,d,e,f,g,h,i,j],_=>
  obtain ⟨a,rfl⟩:=E8 (h2 0 _ _ rfl rfl);obtain ⟨b,rfl⟩:=E8 (h2 1 _ _ rfl rfl);obtain ⟨c,rfl⟩:=E8 (h2 2 _ _ rfl rfl);obtain ⟨d,rfl⟩:=b0A (h2 3 _ _ rfl rfl);obtain ⟨e,rfl⟩:=b3X (h2 4 _ _ rfl rfl);obtain ⟨f,rfl⟩:=b3Y (h2 5 _ _ rfl rfl);obtain ⟨g,rfl⟩:=aW0 (h2 6 _ _ rfl rfl);obtain ⟨h,rfl⟩:=aL6 (h2 7 _ _ rfl rfl);obtain ⟨i,rfl⟩:=b43 (h2 8 _ _ rfl rfl);obtain ⟨j,rfl⟩:=b0n (h2 9 _ _ rfl rfl);exact ⟨⟨⟨a,b,c,d,e,f,g,h⟩,i,j⟩,h3⟩
end
end
section
open Go.RowKit Go.ChangeShapes Go.WideShapes Go.Deep
def aW9:G2 Tryz.prog 51 [j7,j7,.sl a2Z,.sl a2Z,.sl a2Z]:=
 R7 [[j7],[j7],[.sl a2Z],[.sl a2Z],[.sl a2Z]] Tryz.underlying51 ⟨⟨zr,zr,z5⟩,⟨zr,zr,z5⟩,⟨zr,zr,a92⟩,⟨zr,zr,a92⟩,⟨zr,zr,a92⟩,trivial⟩ zr
section
variable {H:Type} {enc:TypeId × Value->H} {w:World} {base:Nat} {spare:Nat->Bool} {held:Bool}
def open_verdict {v:Value} {d:DataW H} {p:List MemPlace} {r:Reach} {b0:Nat} (hv:Value.okWide Tryz.prog w r b0 51 v) (h:DataW.Trod enc Tryz.prog w base spare held 51 v d p):∃x:a5v,RS w (fun _=>none) (fun _=>False) (a3h x) v:=by
 obtain ⟨⟨l⟩,rfl,_⟩:=okWide_struct Tryz.underlying51 hv;obtain ⟨fuel,hf⟩:=h;obtain ⟨ts,h1,h2,h3⟩:=aP8 (b2t aW9 fuel _ _ hf)
 match ts,h1 with
 |[a,b,c,d,e],_=>
  obtain ⟨a,rfl⟩:=E8 (h2 0 _ _ rfl rfl);obtain ⟨b,rfl⟩:=E8 (h2 1 _ _ rfl rfl);obtain ⟨c,rfl⟩:=a8R (h2 2 _ _ rfl rfl);obtain ⟨d,rfl⟩:=a8R (h2 3 _ _ rfl rfl);obtain ⟨e,rfl⟩:=a8R (h2 4 _ _ rfl rfl);exact ⟨⟨a,b,c,d,e⟩,h3⟩
end
end
section
open Go.RowKit Go.ChangeShapes Go.WideShapes Go.ChangeAt
set_option maxRecDepth 100000 in
def a7b (os:Os) (started:os.Started) (H:Type) (enc:TypeId × Value->H):
 ReturnsInHanded {} Tryz.checked os 6 .any (Rows.sourceTellsSpec.pre6 enc Tryz.prog Tryz.f6 Rows.sourceTellsRow.domain false) (Rows.sourceTellsSpec.post enc Tryz.prog Tryz.f6 false true false false):=by
 refine returnsInHanded_of_change (C:=Tryz.checked) b97 started zr Tryz.func6
  (ChangeSpec.witness6 (enc:=enc) (C:=Tryz.checked) false ⟨#[],#[.agg #[.int .i64 0,.int .i64 0,.int .i64 0,.slice none 0 0,.slice none 0 0,.slice none 0 0,.slice none 0 0,.slice none 0 0,.slice none 0 0,.slice none 0 0],.int .i64 0,.int .i64 0,.agg #[.int .i64 0,.int .i64 0,.slice none 0 0,.slice none 0 0,.slice none 0 0]],[]⟩ 12 zr zr zr zr) ?_
 intro W base args ds gs before hval0 hW hcnd _;have hval:∀(j:Nat) t v,Tryz.f6.params[j]? =some t->args[j]? =some v->Value.okWide Tryz.prog W .any base t v:=hval0;have hW':=hW;obtain ⟨p,q,hA0,hV,rfl,hfz,hnd⟩:=hW;have hA:DataW.TrodAll enc Tryz.prog W 0 (fun _=>true) true Tryz.f6.params.toList args.toList ds p:=hA0;rw [Tryz.params6] at hA hval;obtain ⟨v0,vs0,d0,ds0,p0,q0,hargs,rfl,rfl,h0,r0⟩:=trodAll_cons hA;obtain ⟨v1,vs1,d1,ds1,p1,q1,rfl,rfl,rfl,h1,r1⟩:=trodAll_cons r0;obtain ⟨v2,vs2,d2,ds2,p2,q2,rfl,rfl,rfl,h2,r2⟩:=trodAll_cons r1;obtain ⟨v3,vs3,d3,ds3,p3,q3,rfl,rfl,rfl,h3,r3⟩:=trodAll_cons r2;obtain ⟨rfl,rfl,rfl⟩:=trodAll_nil r3;obtain rfl:args=#[v0,v1,v2,v3]:=by cases args;simp_all
 obtain ⟨rfl,rfl⟩:=trodVars_none hV;obtain ⟨a0,t0⟩:=Go.Proofs.YtikokmdpigploaaGreat.open_trace (hval 0 32 v0 rfl rfl) h0;obtain ⟨a1,rfl,rfl,rfl,w1⟩:=open_int Tryz.underlying3 (hval 1 3 v1 rfl rfl) h1;obtain ⟨a2,rfl,rfl,rfl,w2⟩:=open_int Tryz.underlying3 (hval 2 3 v2 rfl rfl) h2;obtain ⟨a3,t3⟩:=Go.Proofs.YtikokmdpigploaaGreat.open_verdict (hval 3 51 v3 rfl rfl) h3;refine (aI9 (as8 a0 a1 a2 a3) (.cons (t0) (.cons (b4T) (.cons (b4T) (.cons (t3) (.nil)))))).mono fun ee W' ⟨he,hg⟩=>?_
 subst he;exact ⟨_,rfl,b6D hW' b4R (by rw [Tryz.params6];intro t ht;simp at ht;first|(rcases ht with rfl|rfl|rfl|rfl<;>exact ⟨zr,lbK zr⟩)|(rcases ht with rfl|rfl|rfl<;>exact ⟨zr,lbK zr⟩)) rfl rfl zr Tryz.underlying4 hg⟩
def a81:(Rows.sourceTellsRow.inPlace == Tryz.pinned.checked.prog.inPlace 6)=true:=by kernel_rfl
def ab2:(Rows.sourceTellsRow.unfollowed == Tryz.pinned.checked.prog.unfollowed 6)=true:=by kernel_rfl
def aa7:(Rows.sourceTellsRow.recurses == Tryz.pinned.checked.prog.recurses 6)=true:=by kernel_rfl
def a8k:(Rows.sourceTellsRow.named == Tryz.pinned.checked.prog.varsNamed 6)=true:=by kernel_rfl
def a7z:(Rows.sourceTellsRow.loops == (Tryz.f6.params.toList++Rows.sourceTellsSpec.plain.varTypes Tryz.pinned.checked.prog).any (Tryz.pinned.checked.prog.loopsFrom ·))=true:=by kernel_rfl
set_option maxRecDepth 100000 in
def a6Z:joinedFacts Tryz.pinned.checked.prog 6 Tryz.f6 (Rows.sourceTellsSpec) Rows.sourceTellsRow=true:=b4l zr b9C b7D zr zr zr zr zr zr a81 ab2 aa7 a8k zr zr zr a7z zr zr zr zr zr b9G zr b5X b6i b8D b8j zr zr zr zr zr
theorem sourceTells_holds:Rows.SourceTellsSaid:=
 OpenClaim.holds_of_wide 6 Tryz.f6 rfl rfl rfl rfl rfl rfl rfl rz rfl rfl rfl rfl rfl zr Tryz.func6 a6Z
  (lbK zr) (by unfold Func.isWrapper;first|(rw [if_pos zk];kernel_rfl)|(rw [if_neg zk];exact rz))
  (fun os started H enc _=>a7b os started H enc)
end
end Go.Proofs.YtikokmdpigploaaGreat
