/- Chapter 21 in plain Lean: the system of a kind of foreign matter, and its solutions. No program is in sight. -/
import Derived.Test.YtaejgdbahjjncaaGreatUj15
namespace Go.Proofs.YtaejgdbahjjncaaGreat
set_option linter.unusedVariables false
set_option linter.unusedSimpArgs false
set_option maxRecDepth 100000
open Go.RowKit
open St1 St2 St3 St4 St5 St6 St7 St8 StA StB
theorem a48 {α:Type} {k:Nat} {f:α->List Value} {row:α->List T} (hrow:∀x,row x=(f x).map T.atm) (hone:∀x,∀v ∈ f x,v.oneCell'=true) (hk:∀x,(f x).length=k)
 {w:World} {A:Option Addr} {n c:Nat} {xs:List α} (h:Rd k f w A n xs) (h1:n<=c) (h2:c<=maxLen):RT w (fun _=>False) (.sl k .any (xs.map row)) (.slice A n c):=by
 obtain ⟨hn,hc⟩:=h
 have hlen:(xs.map row).length=n:=by simp [hn]
 rw [← hlen]
 have hat:∀i j t,at2 (xs.map row) i j=some t->∃x v,xs[i]? =some x∧(f x)[j]? =some v∧t=.atm v:=fun i j t ht=>by
  obtain ⟨r,q1,q2⟩:=C1 ht
  rw [lba] at q1
  cases hx:xs[i]? with
  |none=>rw [hx] at q1;cases q1
  |some x=>
   rw [hx] at q1
   injection q1 with q1
   subst q1
   rw [hrow,lba] at q2
   cases hv:(f x)[j]? with
   |none=>rw [hv] at q2;cases q2
   |some v=>rw [hv] at q2;injection q2 with q2;exact ⟨x,v,rfl,hv,q2.symm⟩
 rcases Nat.eq_zero_or_pos n with h0|h0
 ·have hx:xs=[]:=lbF (by omega)
  subst hx
  exact .sl (b:=0) (off:=0) (fun _ _=>undef) (by simp) (by simp) h2 (by intro h;cases h) (by intro h;cases h) (by simp) (by simp [at2]) (by simp [at2])
 ·obtain ⟨b,off,hA,hcell⟩:=hc h0
  refine .sl (b:=b) (off:=off) (fun i j=>((xs[i]?).bind fun x=>(f x)[j]?).getD undef) ?_ (by omega) h2 (by intro h;cases h) (by intro h;cases h) (fun _=>hA) ?_ ?_
  ·intro r hr
   obtain ⟨x,_,rfl⟩:=lbx.1 hr
   rw [hrow,lbr,hk]
  ·intro i j t ht
   obtain ⟨x,v,hx,hv,rfl⟩:=hat i j t ht
   exact ⟨by rw [hcell i x hx j v hv];simp [hx,hv],fun h=>h⟩
  ·intro i j t ht
   obtain ⟨x,v,hx,hv,rfl⟩:=hat i j t ht
   have:((xs[i]?).bind fun x=>(f x)[j]?).getD undef=v:=by simp [hx,hv]
   rw [this]
   exact .atm (hone x v (lbm hv))
theorem bc0 {w:World} {m h s:Int} {A1 A2 A3 A4 A5:Option Addr} {n1 n2 n3 n4 n5 c1 c2 c3 c4 c5:Nat} {e:Ev} (hr:EvR w m h s A1 n1 A2 n2 A3 n3 A4 n4 A5 n5 e)
 (hb:n1<=c1∧n2<=c2∧n3<=c3∧n4<=c4∧n5<=c5∧c1<=maxLen∧c2<=maxLen∧c3<=maxLen∧c4<=maxLen∧c5<=maxLen):
 RS w (fun _=>none) (fun _=>False) (evS e) (.agg #[.int .i64 m,.int .i64 h,.int .i64 s,.slice A1 n1 c1,.slice A2 n2 c2,.slice A3 n3 c3,.slice A4 n4 c4,.slice A5 n5 c5]):=by
 obtain ⟨rfl,rfl,rfl,r1,r2,r3,r4,r5⟩:=hr
 obtain ⟨b1,b2,b3,b4,b5,d1,d2,d3,d4,d5⟩:=hb
 have t1:=a48 (k:=3) (f:=G2.cells) (row:=G2.row) (fun _=>rfl) (by intro x v hv;simp [G2.cells] at hv;rcases hv with rfl|rfl|rfl<;>rfl) (fun _=>rfl) r1 b1 d1
 have t2:=a48 (k:=6) (f:=j6.cells) (row:=j6.row) (fun _=>rfl) (by intro x v hv;simp [j6.cells] at hv;rcases hv with rfl|rfl|rfl|rfl|rfl|rfl<;>rfl) (fun _=>rfl) r2 b2 d2
 have t3:=a48 (k:=6) (f:=E6.cells) (row:=E6.row) (fun _=>rfl) (by intro x v hv;simp [E6.cells] at hv;rcases hv with rfl|rfl|rfl|rfl|rfl|rfl<;>rfl) (fun _=>rfl) r3 b3 d3
 have t4:=a48 (k:=2) (f:=w7.cells) (row:=w7.row) (fun _=>rfl) (by intro x v hv;simp [w7.cells] at hv;rcases hv with rfl|rfl<;>rfl) (fun _=>rfl) r4 b4 d4
 have t5:=a48 (k:=4) (f:=s9.cells) (row:=s9.row) (fun _=>rfl) (by intro x v hv;simp [s9.cells] at hv;rcases hv with rfl|rfl|rfl|rfl<;>rfl) (fun _=>rfl) r5 b5 d5
 refine .agg [.int .i64 e.mats,.int .i64 e.hhs,.int .i64 e.scs,.slice A1 n1 c1,.slice A2 n2 c2,.slice A3 n3 c3,.slice A4 n4 c4,.slice A5 n5 c5] rfl fun j c hj=>?_
 match j,hj with
 |0,hj=>injection hj with hj;subst hj;exact .t (.atm rfl)
 |1,hj=>injection hj with hj;subst hj;exact .t (.atm rfl)
 |2,hj=>injection hj with hj;subst hj;exact .t (.atm rfl)
 |3,hj=>injection hj with hj;subst hj;exact .t t1
 |4,hj=>injection hj with hj;subst hj;exact .t t2
 |5,hj=>injection hj with hj;subst hj;exact .t t3
 |6,hj=>injection hj with hj;subst hj;exact .t t4
 |7,hj=>injection hj with hj;subst hj;exact .t t5
 |j+8,hj=>simp [evC] at hj
inductive al7 (w:World):List S->List Value->Prop
 |nil:al7 w [] []
 |cons {s:S} {v:Value} {ss:List S} {vs:List Value} (h:RS w (fun _=>none) (fun _=>False) s v) (hs:al7 w ss vs):al7 w (s::ss) (v::vs)
theorem al7.get {w:World} {ss:List S} {vs:List Value} (h:al7 w ss vs):vs.length=ss.length∧∀(j:Nat) (s:S),ss[j]? =some s->RS w (fun _=>none) (fun _=>False) s (vs.getD j undef):=by
 induction h with
 |nil=>exact ⟨rfl,by simp⟩
 |cons h hs ih=>
  refine ⟨by simp [ih.1],fun j s hj=>?_⟩
  cases j with
  |zero=>simp at hj;subst hj;exact h
  |succ j=>simpa using ih.2 j s (by simpa using hj)
theorem ay7 {P:Program} {g:FuncId} {ss:List S} {b:Bool} (h:b7 P g ss [] (f7 b) []) {w:World} {vs:List Value} (ha:al7 w ss vs):
 Calls P g vs.toArray w fun e w'=>e=.returned (.bool b)∧Below w.heap.size w w':=by
 obtain ⟨h1,h2⟩:=ha.get
 refine Calls.mono (h.2 w (fun _=>none) (fun _=>False) vs h1 h2 ⟨by simp,by simp,by simp,by simp,by simp⟩ (fun _ h=>h.elim) (fun _ _=>rfl)) ?_
 rintro e w' ⟨v,rfl,ι',M',q1,q2,q3,q4,q5⟩
 rw [q1.inv_atm]
 exact ⟨rfl,q5.os,q5.tape,q5.output,q5.size,fun k hk=>q5.keep k hk (by rintro ⟨id,k,_,_,hk,_⟩;simp at hk)⟩
open Go.RowKit Go.ChangeShapes Go.WideShapes Go.ChangeAt
theorem b38 {P:Program} {f:FuncId} {fn:Func} {s:ChangeSpec} {c:OpenClaim}
 (h1:c.wf (OpenSpec.ofChange s)=true) (h2:laidOutB P=true) (h3:mapsRowed P=true) (h4:fn.params.all (P.readableRec ·)=true) (h5:namedTie P c.named s.vars=true)
 (h6:(c.stops == [])=true) (h7:(P.stops == [])=true) (h8:(c.knobs == [])=true) (h9:(P.stopKnobs == [])=true)
 (h10:(c.inPlace == P.inPlace f)=true) (h11:(c.unfollowed == P.unfollowed f)=true) (h12:(c.recurses == P.recurses f)=true) (h13:(c.named == P.varsNamed f)=true)
 (h14:(c.maps == (fn.params.toList++s.plain.varTypes P).any (P.mapsRec ·))=true) (h15:(c.ifaces == (fn.params.toList++s.plain.varTypes P).any (P.ifacesRec ·))=true) (h16:(c.mapsOut == P.mapsAmong fn.resultTypes.toList)=true)
 (h17:(c.loops == (fn.params.toList++s.plain.varTypes P).any (P.loopsFrom ·))=true) (h18:(c.wideKeys == (fn.params.toList++s.plain.varTypes P++fn.resultTypes.toList).any (P.wideKeysFrom ·))=true)
 (h19:s.vars.all (P.varReadable ·)=true) (h20:fn.resultTypes.all (fun t=>P.readableRec t && decide (t<P.types.size))=true) (h21:(c.ifacesOut == fn.resultTypes.toList.any (P.ifacesRec ·))=true) (h22:(c.loopsOut == fn.resultTypes.toList.any (P.loopsFrom ·))=true)
 (h23:(c.plainKeys == P.plainKeys)=true) (h24:c.shortTexts.isNone=true) (h25:P.stopsHeard=true) (h26:P.mayEnter=true) (h27:(c.lifted == P.liftsFinal)=true) (h28:(P.make == some c.make)=true)
 (h29:c.domain.isEmpty=true) (h29b:(c.kinds == [])=true) (h30:(c.pinned == c.pinnedBy)=true)
 (h31:(c.veiled == (fn.params.toList++s.plain.varTypes P++fn.resultTypes.toList).any (P.veiledRec ·))=true) (h32:c.veiledFits P fn.params.toList (fn.params.toList++s.plain.varTypes P++fn.resultTypes.toList)=true):
 joinedFacts P f fn s c=true:=by
 unfold joinedFacts
 rw [h1,h2,h3,h4,h5,h6,h7,h8,h9,h10,h11,h12,h13,h14,h15,h16,h17,h18,h19,h20,h21,h22,h23,h24,h25,h26,h27,h28,if_pos h29,h29b,h30,h31,h32]
 rfl
theorem b7W:laidOutB Tryz.pinned.checked.prog=true:=by kernel_rfl
theorem b6k:mapsRowed Tryz.pinned.checked.prog=true:=by kernel_rfl
theorem b80:(Rows.topHistoriesRow.plainKeys == Tryz.pinned.checked.prog.plainKeys)=true:=by kernel_rfl
theorem b4N:Tryz.pinned.checked.prog.stopsHeard=true:=by kernel_rfl
theorem b53:Tryz.pinned.checked.prog.mayEnter=true:=by kernel_rfl
theorem b7i:(Rows.topHistoriesRow.lifted == Tryz.pinned.checked.prog.liftsFinal)=true:=by kernel_rfl
theorem b6Y:(Tryz.pinned.checked.prog.make == some Rows.topHistoriesRow.make)=true:=by kernel_rfl
section
open Go.RowKit Go.ChangeShapes Go.WideShapes Go.Deep
inductive Sh where
 |int (k:IntKind)
 |bool
 |sl (row:List Sh)
inductive Fit:Sh->T->Prop
 |int {k:IntKind} {n:Int} (h:(Lit.int k n).wf=true):Fit (.int k) (.atm (.int k n))
 |bool {b:Bool}:Fit .bool (.atm (.bool b))
 |sl {row:List Sh} {rows:List (List T)} (hl:∀r ∈ rows,r.length=row.length) (h:∀r ∈ rows,∀(j:Nat) (s:Sh) (t:T),row[j]? =some s->r[j]? =some t->Fit s t):Fit (.sl row) (.sl row.length .any rows)
inductive a2h (P:Program):TypeId->List Sh->Prop
 |int {t:TypeId} {k:IntKind} (h:P.underlying t=some (.int k)):a2h P t [.int k]
 |bool {t:TypeId} (h:P.underlying t=some .bool):a2h P t [.bool]
 |sl {t e:TypeId} {row:List Sh} (h:P.underlying t=some (.slice e)) (hc:P.cellsOf e=row.length) (hp:0<row.length) (he:a2h P e row):a2h P t [.sl row]
 |struct {t:TypeId} {fs:Array Field} (parts:List (List Sh)) (h:P.underlying t=some (.struct fs)) (hl:parts.length=fs.size)
   (ho:∀(i:Nat) (f:Field) (p:List Sh),fs[i]? =some f->parts[i]? =some p->f.offset=(parts.take i).flatten.length∧P.cellsOf f.type=p.length)
   (hc:P.cellsOf t=parts.flatten.length)
   (he:∀(i:Nat) (f:Field) (p:List Sh),fs[i]? =some f->parts[i]? =some p->a2h P f.type p):a2h P t parts.flatten
section
variable {H:Type} {enc:TypeId × Value->H} {P:Program} {w:World} {base:Nat} {spare:Nat->Bool} {held:Bool}
def aX3 (w:World) (shs:List Sh) (cs:List Value):Prop:=
 cs.length=shs.length∧∃ts:List T,ts.length=shs.length∧∀(j:Nat) (s:Sh),shs[j]? =some s->∃u t,cs[j]? =some u∧ts[j]? =some t∧RT w (fun _=>False) t u∧Fit s t
theorem ai2 {α:Type}:∀(parts:List (List α)) (j:Nat) (x:α),parts.flatten[j]? =some x->∃i p k,parts[i]? =some p∧p[k]? =some x∧j=(parts.take i).flatten.length+k
 |[],j,x,h=>by simp at h
 |p::r,j,x,h=>by
  rw [List.flatten_cons] at h
  by_cases hj:j<p.length
  ·rw [lbb hj] at h
   exact ⟨0,p,j,rfl,h,by simp⟩
  ·rw [lbc (by omega)] at h
   obtain ⟨i,q,k,h1,h2,h3⟩:=ai2 r _ x h
   exact ⟨i+1,q,k,by simpa using h1,h2,by rw [List.take_succ_cons,List.flatten_cons,lbq];omega⟩
theorem a1k {α:Type} {p:Nat->α->Prop}:∀(n:Nat),(∀ i,i<n->∃x,p i x)->∃xs:List α,xs.length=n∧∀i x,xs[i]? =some x->p i x
 |0,_=>⟨[],rfl,by simp⟩
 |n+1,h=>by
  obtain ⟨xs,h1,h2⟩:=a1k n fun i hi=>h i (by omega)
  obtain ⟨x,hx⟩:=h n (by omega)
  refine ⟨xs++[x],by simp [h1],fun i y hy=>?_⟩
  by_cases hi:i<xs.length
  ·rw [lbb hi] at hy;exact h2 i y hy
  ·rw [lbc (by omega)] at hy
   have:i=n:=by
    have:=(lbe.1 hy).1
    simp at this;omega
   subst this
   rw [h1] at hy
   simp at hy
   subst hy
   exact hx
theorem b7c {t:TypeId} {shs:List Sh} (h:a2h P t shs):∀(n:Nat) (cs:List Value) (x:DataW H × List MemPlace),DataW.trod enc P w base spare held n t cs=some x->aX3 w shs cs:=by
 induction h with
 |int h=>
  intro n cs x hx
  obtain ⟨a,rfl,_,hw⟩:=DataW.trod_int h hx
  exact ⟨rfl,[.atm (.int _ a)],rfl,fun j s hj=>by
   match j,hj with
   |0,hj=>simp at hj;subst hj;exact ⟨_,_,rfl,rfl,.atm rfl,.int hw⟩⟩
 |bool h=>
  intro n cs x hx
  obtain ⟨a,rfl,_⟩:=DataW.trod_bool h hx
  exact ⟨rfl,[.atm (.bool a)],rfl,fun j s hj=>by
   match j,hj with
   |0,hj=>simp at hj;subst hj;exact ⟨_,_,rfl,rfl,.atm rfl,.bool⟩⟩
 |@sl t e row h hc hp he ih=>
  intro n cs x hx
  have key:∀(rows:List (List T)) (u:Value),cs=[u]->RT w (fun _=>False) (.sl row.length .any rows) u->(∀ r ∈ rows,r.length=row.length)->(∀ r ∈ rows,∀(j:Nat) (s:Sh) (t:T),row[j]? =some s->r[j]? =some t->Fit s t)->aX3 w [.sl row] cs:=by
   rintro rows u rfl hu h1 h2
   exact ⟨rfl,[.sl row.length .any rows],rfl,fun j s hj=>by
    match j,hj with
    |0,hj=>simp at hj;subst hj;exact ⟨_,_,rfl,rfl,hu,.sl h1 h2⟩⟩
  rcases open_slice h hx with ⟨h0,_⟩|⟨a,len,cap,m,n,D,Pl,hcs,hb,hl,hm,hmm,hx,hi⟩
  ·exact key [] _ h0 (.sl (b:=0) (off:=0) (fun _ _=>undef) (by simp) (by simp) (by unfold maxLen;omega) (by intro h;cases h) (by intro h;cases h) (by simp) (by simp [at2]) (by simp [at2])) (by simp) (by simp)
  ·by_cases hz:len=0
   ·subst hz
    exact key [] _ hcs (.sl (b:=0) (off:=0) (fun _ _=>undef) (by simp) (by simp) hm (by intro h;cases h) (by intro h;cases h) (by simp) (by simp [at2]) (by simp [at2])) (by simp) (by simp)
   have hlm:len<=m:=by rw [hmm];split<;>omega
   have each:∀i,i<len->∃cs':List Value,(∀ j,j<row.length->w.cell? (a.add (i*row.length+j))=cs'[j]?)∧aX3 w row cs':=by
    intro i hil
    obtain ⟨cs',hc',ht'⟩:=hi i (by omega)
    rw [hc] at hc'
    obtain ⟨_,hcl,hat⟩:=World.cells?_some hc'
    exact ⟨cs',fun j hj=>by rw [← Go.Deep.add_add];exact hat j hj,ih n cs' _ ht'⟩
   obtain ⟨css,hcl,hcs2⟩:=a1k len each
   obtain ⟨rows,hrl,hrows⟩:=a1k (α:=List T) (p:=fun i ts=>ts.length=row.length∧∀(j:Nat) (s:Sh),row[j]? =some s->∃u t,(css.getD i [])[j]? =some u∧ts[j]? =some t∧RT w (fun _=>False) t u∧Fit s t) len (fun i hi=>by
    have hg:css[i]? =some (css[i]'(by omega)):=lbf (by omega)
    obtain ⟨_,_,ts,h1,h2⟩:=hcs2 i _ hg
    refine ⟨ts,h1,?_⟩
    rw [lbl,hg]
    exact h2)
   have hcell:∀i j,i<len->j<row.length->w.cell? (a.add (i*row.length+j))=some ((css.getD i []).getD j undef):=by
    intro i j hi hj
    have hg:css[i]? =some (css[i]'(by omega)):=lbf (by omega)
    obtain ⟨h1,h2,_⟩:=hcs2 i _ hg
    rw [h1 j hj]
    have hgd:css.getD i []=css[i]'(by omega):=by rw [lbl,hg];rfl
    rw [hgd,lbl,lbf (by omega)];rfl
   have hspot:a.spot=none:=by
    have:=World.cell?_spot (hcell 0 0 (by omega) hp)
    simpa [Addr.add] using this
   obtain ⟨b,off,sp⟩:=a
   simp only at hspot
   subst hspot
   have hadd:∀k,(⟨b,off,none⟩:Addr).add k=⟨b,off+k,none⟩:=by
    intro k
    unfold Addr.add
    split
    ·subst_vars;rfl
    ·rfl
   have hat:∀i j c,at2 rows i j=some c->i<len∧j<row.length∧∃r s,rows[i]? =some r∧r[j]? =some c∧row[j]? =some s:=by
    intro i j c hc
    obtain ⟨r,q1,q2⟩:=C1 hc
    have hil:i<len:=by rw [← hrl];exact (lbe.1 q1).1
    have hjl:j<row.length:=by rw [← (hrows i r q1).1];exact (lbe.1 q2).1
    exact ⟨hil,hjl,r,_,q1,q2,lbf hjl⟩
   refine key rows (.slice (some ⟨b,off,none⟩) len cap) hcs ?_ ?_ ?_
   ·rw [← hrl]
    refine .sl (b:=b) (off:=off) (fun i j=>(css.getD i []).getD j undef) ?_ (by omega) hm (by intro h;cases h) (by intro h;cases h) (fun _=>rfl) ?_ ?_
    ·intro r hr
     obtain ⟨i,hi⟩:=List.mem_iff_getElem?.1 hr
     exact (hrows i r hi).1
    ·intro i j c hc
     obtain ⟨hil,hjl,_⟩:=hat i j c hc
     have:=hcell i j hil hjl
     rw [hadd] at this
     exact ⟨this,fun h=>h⟩
    ·intro i j c hc
     obtain ⟨hil,hjl,r,s,q1,q2,q3⟩:=hat i j c hc
     obtain ⟨u,t,h1,h2,h3,h4⟩:=(hrows i r q1).2 j s q3
     rw [q2] at h2
     injection h2 with h2
     subst h2
     rw [lbl (l:=css.getD i []),h1]
     exact h3
   ·intro r hr
    obtain ⟨i,hi⟩:=List.mem_iff_getElem?.1 hr
    exact (hrows i r hi).1
   ·intro r hr j s t hs ht
    obtain ⟨i,hi⟩:=List.mem_iff_getElem?.1 hr
    obtain ⟨u,t',h1,h2,h3,h4⟩:=(hrows i r hi).2 j s hs
    rw [ht] at h2
    injection h2 with h2
    subst h2
    exact h4
 |@struct t fs parts h hl ho hc he ih=>
  intro n cs x hx
  obtain ⟨xs,n',hn',hy,hlen,hyl,hf⟩:=DataW.trod_struct h hx
  have hlen':cs.length=parts.flatten.length:=by rw [hlen,hc]
  have each:∀j,j<parts.flatten.length->∃t,∀s,parts.flatten[j]? =some s->∃u,cs[j]? =some u∧RT w (fun _=>False) t u∧Fit s t:=by
   intro j hj
   obtain ⟨i,p,k,q1,q2,q3⟩:=ai2 parts j _ (lbf hj)
   have hi:i<fs.size:=by rw [← hl];exact (lbe.1 q1).1
   have hfi:fs[i]? =some fs[i]:=Array.getElem?_eq_getElem hi
   obtain ⟨o1,o2⟩:=ho i _ p hfi q1
   have h1:=hf i _ hfi
   have hxi:xs[i]? =some (xs[i]'(by omega)):=lbf (by omega)
   obtain ⟨r1,ts,r2,r3⟩:=ih i _ p hfi q1 n' _ _ (h1.trans hxi)
   obtain ⟨u,t,e1,e2,e3,e4⟩:=r3 k _ q2
   refine ⟨t,fun s hs=>⟨u,?_,e3,?_⟩⟩
   ·have hk:k<p.length:=(lbe.1 q2).1
    rw [lbi,o2,if_pos hk,lbj,o1,←q3] at e1
    exact e1
   ·rw [lbf hj] at hs
    injection hs with hs
    rw [← hs];exact e4
  obtain ⟨ts,t1,t2⟩:=a1k parts.flatten.length each
  refine ⟨hlen',ts,t1,fun j s hj=>?_⟩
  have hjl:=(lbe.1 hj).1
  have htj:ts[j]? =some (ts[j]'(by omega)):=lbf (by omega)
  obtain ⟨u,h1,h2,h3⟩:=t2 j _ htj s hj
  exact ⟨u,_,h1,htj,h2,h3⟩
end
theorem Fit.int_inv {k:IntKind} {t:T} (h:Fit (.int k) t):∃n,t=.atm (.int k n)∧(Lit.int k n).wf=true:=by cases h with|int h=>exact ⟨_,rfl,h⟩
theorem aH4 {α:Type} {f:α->List T} {p:α->Prop}:∀{rows:List (List T)},(∀ r ∈ rows,∃x,r=f x∧p x)->∃xs:List α,rows=xs.map f∧∀x ∈ xs,p x
 |[],_=>⟨[],rfl,by simp⟩
 |r::rs,h=>by
  obtain ⟨x,rfl,hx⟩:=h r (by simp)
  obtain ⟨xs,rfl,hxs⟩:=aH4 (rows:=rs) (f:=f) (p:=p) fun r hr=>h r (List.mem_cons_of_mem _ hr)
  exact ⟨x::xs,rfl,fun y hy=>by rcases lbA.1 hy with rfl|hy;exact hx;exact hxs y hy⟩
theorem Fit.sl_inv {α:Type} (f:α->List T) (p:α->Prop) {row:List Sh} {t:T} (h:Fit (.sl row) t)
 (hrow:∀r:List T,r.length=row.length->(∀ (j:Nat) (s:Sh) (t:T),row[j]? =some s->r[j]? =some t->Fit s t)->∃x,r=f x∧p x):
 ∃xs:List α,t=.sl row.length .any (xs.map f)∧∀x ∈ xs,p x:=by
 cases h with
 |sl hl h=>
  obtain ⟨xs,rfl,hx⟩:=aH4 (f:=f) (p:=p) (fun r hr=>hrow r (hl r hr) (h r hr))
  exact ⟨xs,rfl,hx⟩
end
section
open Go.RowKit Go.ChangeShapes Go.WideShapes Go.Deep
abbrev a72:Sh:=.int .i64
theorem b1p:a2h Tryz.prog 3 [a72]:=.int Tryz.underlying3
theorem aF6 {P:Program} {t:TypeId} {fs:Array Field} {p0 p1:List Sh} (h:P.underlying t=some (.struct fs)) (hl:fs.size=2)
 (h0:∃f,fs[0]? =some f∧f.offset=0∧P.cellsOf f.type=p0.length∧a2h P f.type p0) (h1:∃f,fs[1]? =some f∧f.offset=p0.length∧P.cellsOf f.type=p1.length∧a2h P f.type p1)
 (hc:P.cellsOf t=p0.length+p1.length):a2h P t (p0++p1):=by
 obtain ⟨f0,a1,a2,a3,a4⟩:=h0
 obtain ⟨f1,b1,b2,b3,b4⟩:=h1
 have:=a2h.struct (P:=P) (t:=t) (fs:=fs) [p0,p1] h (by simp [hl]) (fun i f p hf hp=>by
  match i,hp with
  |0,hp=>simp at hp;subst hp;rw [a1] at hf;injection hf with hf;subst hf;exact ⟨by simp [a2],a3⟩
  |1,hp=>simp at hp;subst hp;rw [b1] at hf;injection hf with hf;subst hf;exact ⟨by simp [b2],b3⟩
  |n+2,hp=>simp at hp) (by simp [hc]) (fun i f p hf hp=>by
  match i,hp with
  |0,hp=>simp at hp;subst hp;rw [a1] at hf;injection hf with hf;subst hf;exact a4
  |1,hp=>simp at hp;subst hp;rw [b1] at hf;injection hf with hf;subst hf;exact b4
  |n+2,hp=>simp at hp)
 simpa using this
theorem b4b:a2h Tryz.prog 54 [a72,a72]:=
 aF6 (p0:=[a72]) (p1:=[a72]) Tryz.underlying54 (by kernel_rfl) ⟨_,rfl,rfl,by kernel_rfl,b1p⟩ ⟨_,rfl,rfl,by kernel_rfl,b1p⟩ (by kernel_rfl)
theorem b34:a2h Tryz.prog 52 [.sl [a72,a72]]:=.sl Tryz.underlying52 (by kernel_rfl) (by decide) b4b
theorem b1Y {t:T} (h:Fit (.sl [a72,a72]) t):∃l:List D8,t=R0 l:=by
 obtain ⟨xs,rfl,_⟩:=h.sl_inv D8.row (fun _=>True) (fun r hl hr=>by
  match r,hl with
  |[u,v],_=>
   obtain ⟨n,rfl,_⟩:=(hr 0 _ _ rfl rfl).int_inv
   obtain ⟨m,rfl,_⟩:=(hr 1 _ _ rfl rfl).int_inv
   exact ⟨⟨n,m⟩,rfl,trivial⟩)
 exact ⟨xs,rfl⟩
section
variable {H:Type} {enc:TypeId × Value->H} {w:World} {base:Nat} {spare:Nat->Bool} {held:Bool}
theorem open_picks {v:Value} {d:DataW H} {p:List MemPlace} {r:Reach} {b0:Nat} (hv:Value.okWide Tryz.prog w r b0 52 v) (h:DataW.Trod enc Tryz.prog w base spare held 52 v d p):∃hh,RS w (fun _=>none) (fun _=>False) (F6 hh) v:=by
 obtain ⟨a,len,cap,rfl⟩:=okWide_slice Tryz.underlying52 hv
 obtain ⟨fuel,hf⟩:=h
 obtain ⟨_,ts,h1,h2⟩:=b7c b34 fuel _ _ hf
 obtain ⟨u,t,e1,e2,e3,e4⟩:=h2 0 _ rfl
 obtain ⟨hh,rfl⟩:=b1Y e4
 injection e1 with e1
 subst e1
 exact ⟨hh,.c (.t e3)⟩
end
end
section
open Go.RowKit
theorem b4a {w:World} {n:Int}:RS w (fun _=>none) (fun _=>False) (a8 .u16 n) (.int .u16 n):=RS.int
theorem a56 {n:Int} (h:(Lit.int .u16 n).wf=true):0<=n∧n<=65535:=by
 simp only [Lit.wf,lbM,lbI] at h
 exact h
end
section
open Go.RowKit Go.ChangeShapes Go.WideShapes Go.ChangeAt
set_option maxRecDepth 100000 in
theorem a5H (os:Os) (started:os.Started) (H:Type) (enc:TypeId × Value->H):
 ReturnsInHanded {} Tryz.checked os 4 .any (Rows.topHistoriesSpec.pre6 enc Tryz.prog Tryz.f4 Rows.topHistoriesRow.domain false) (Rows.topHistoriesSpec.post enc Tryz.prog Tryz.f4 false true false false):=by
 refine returnsInHanded_of_change (C:=Tryz.checked) b7E started (by kernel_rfl) Tryz.func4
  (ChangeSpec.witness6 (enc:=enc) (C:=Tryz.checked) false ⟨#[],#[.agg #[.int .i64 0,.int .i64 0,.int .i64 0,.slice none 0 0,.slice none 0 0,.slice none 0 0,.slice none 0 0,.slice none 0 0],.slice none 0 0,.int .u16 0,.int .u16 0],[]⟩ 12 (by kernel_rfl) (by kernel_rfl) (by kernel_rfl) (by kernel_rfl)) ?_
 intro W base args ds gs before hval0 hW hcnd _
 have hval:∀(j:Nat) t v,Tryz.f4.params[j]? =some t->args[j]? =some v->Value.okWide Tryz.prog W .any base t v:=hval0
 have hW':=hW
 obtain ⟨p,q,hA0,hV,rfl,hfz,hnd⟩:=hW
 have hA:DataW.TrodAll enc Tryz.prog W 0 (fun _=>true) true Tryz.f4.params.toList args.toList ds p:=hA0
 rw [Tryz.params4] at hA hval
 obtain ⟨v0,vs0,d0,ds0,p0,q0,hargs,rfl,rfl,h0,r0⟩:=trodAll_cons hA
 obtain ⟨v1,vs1,d1,ds1,p1,q1,rfl,rfl,rfl,h1,r1⟩:=trodAll_cons r0
 obtain ⟨v2,vs2,d2,ds2,p2,q2,rfl,rfl,rfl,h2,r2⟩:=trodAll_cons r1
 obtain ⟨v3,vs3,d3,ds3,p3,q3,rfl,rfl,rfl,h3,r3⟩:=trodAll_cons r2
 obtain ⟨rfl,rfl,rfl⟩:=trodAll_nil r3
 obtain rfl:args=#[v0,v1,v2,v3]:=by cases args;simp_all
 obtain ⟨rfl,rfl⟩:=trodVars_none hV
 obtain ⟨m,h,s,A1,n1,c1,A2,n2,c2,A3,n3,c3,A4,n4,c4,A5,n5,c5,e,rfl,hr,hb⟩:=b6P (hval 0 28 v0 rfl rfl) h0
 obtain ⟨a1,t1⟩:=Go.Proofs.YtaejgdbahjjncaaGreat.open_picks (hval 1 52 v1 rfl rfl) h1
 obtain ⟨a2,rfl,rfl,rfl,w2⟩:=open_int Tryz.underlying70 (hval 2 70 v2 rfl rfl) h2
 obtain ⟨a3,rfl,rfl,rfl,w3⟩:=open_int Tryz.underlying70 (hval 3 70 v3 rfl rfl) h3
 refine (ay7 (a9T e a1 a2 a3 (a56 w2).1 (a56 w2).2 (a56 w3).1 (a56 w3).2) (.cons (bc0 hr hb) (.cons (t1) (.cons (b4a) (.cons (b4a) (.nil)))))).mono fun ee W' ⟨he,hg⟩=>?_
 subst he
 exact ⟨_,rfl,b5j hW' b3D (by rw [Tryz.params4];intro t ht;simp at ht;first|(rcases ht with rfl|rfl|rfl|rfl<;>exact ⟨by kernel_rfl,lbL (by kernel_rfl)⟩)|(rcases ht with rfl|rfl|rfl<;>exact ⟨by kernel_rfl,lbL (by kernel_rfl)⟩)) rfl rfl (by kernel_rfl) Tryz.underlying4 hg⟩
theorem a5Y:(Rows.topHistoriesRow.inPlace == Tryz.pinned.checked.prog.inPlace 4)=true:=by kernel_rfl
theorem a7T:(Rows.topHistoriesRow.unfollowed == Tryz.pinned.checked.prog.unfollowed 4)=true:=by kernel_rfl
theorem a8K:(Rows.topHistoriesRow.recurses == Tryz.pinned.checked.prog.recurses 4)=true:=by kernel_rfl
theorem a6s:(Rows.topHistoriesRow.named == Tryz.pinned.checked.prog.varsNamed 4)=true:=by kernel_rfl
theorem a6n:(Rows.topHistoriesRow.loops == (Tryz.f4.params.toList++Rows.topHistoriesSpec.plain.varTypes Tryz.pinned.checked.prog).any (Tryz.pinned.checked.prog.loopsFrom ·))=true:=by kernel_rfl
set_option maxRecDepth 100000 in
theorem a5F:joinedFacts Tryz.pinned.checked.prog 4 Tryz.f4 (Rows.topHistoriesSpec) Rows.topHistoriesRow=true:=b38 (by kernel_rfl) b7W b6k (by kernel_rfl) (by kernel_rfl) (by kernel_rfl) (by kernel_rfl) (by kernel_rfl) (by kernel_rfl) a5Y a7T a8K a6s (by kernel_rfl) (by kernel_rfl) (by kernel_rfl) a6n (by kernel_rfl) (by kernel_rfl) (by kernel_rfl) (by kernel_rfl) (by kernel_rfl) b80 (by kernel_rfl) b4N b53 b7i b6Y (by kernel_rfl) (by kernel_rfl) (by kernel_rfl) (by kernel_rfl) (by kernel_rfl)
theorem topHistories_holds:Rows.TopHistoriesSaid:=
 OpenClaim.holds_of_wide 4 Tryz.f4 rfl rfl rfl rfl rfl rfl rfl ⟨rfl,rfl,rfl,rfl,rfl⟩ rfl rfl rfl rfl rfl (by kernel_rfl) Tryz.func4 a5F
  (lbL (by kernel_rfl)) (by unfold Func.isWrapper;first|(rw [if_pos (by decide +kernel)];kernel_rfl)|(rw [if_neg (by decide +kernel)];exact ⟨rfl,rfl⟩))
  (fun os started H enc _=>a5H os started H enc)
end
end Go.Proofs.YtaejgdbahjjncaaGreat
