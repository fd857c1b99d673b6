/- Part 3. -/
import Derived.Test.YtpjgpclheebhkaaGreatAj2
namespace Go.Proofs.YtpjgpclheebhkaaGreat
set_option linter.unusedVariables false
set_option linter.unusedSimpArgs false
section
open Go.RowKit
mutual
def Q5 (σ:List Nat):C->C
 |.t x=>.t x
 |.ptr id r o=>.ptr (σ.getD id 0) r o
 |.own id lo len app=>.own (σ.getD id 0) lo len app
 |.fn f caps=>.fn f (a0i σ caps)
 |.mp id=>.mp (σ.getD id 0)
def a0i (σ:List Nat):List C->List C
 |[]=>[]
 |x::r=>Q5 σ x::a0i σ r
end
def a3B (σ:List Nat):S->S
 |.junk=>.junk
 |.c x=>.c (Q5 σ x)
 |.agg cs=>.agg (a0i σ cs)
 |.tup ss=>.tup (ss.map fun s=>match s with
  |.c x=>.c (Q5 σ x)
  |.agg cs=>.agg (a0i σ cs)
  |s=>s)
 |.ifc t x=>.ifc t (match x with
  |.c x=>.c (Q5 σ x)
  |.agg cs=>.agg (a0i σ cs)
  |s=>s)
mutual
def okC (n:Nat):C->Bool
 |.t _=>true
 |.ptr id _ _=>Nat.blt id n
 |.own id _ _ _=>Nat.blt id n
 |.fn _ caps=>okL n caps
 |.mp id=>Nat.blt id n
def okL (n:Nat):List C->Bool
 |[]=>true
 |x::r=>okC n x && okL n r
end
def okS (n:Nat):S->Bool
 |.junk=>true
 |.c x=>okC n x
 |.agg cs=>okL n cs
 |.tup _=>false
 |.ifc _ x=>match x with
  |.c x=>okC n x
  |.agg cs=>okL n cs
  |_=>false
theorem G3 (σ:List Nat):∀l,a0i σ l=l.map (Q5 σ)
 |[]=>by simp [a0i]
 |x::r=>by simp [a0i,G3 σ r]
theorem b2b {n:Nat}:∀{l:List C},okL n l=true->∀c ∈ l,okC n c=true
 |[],_,c,h=>by cases h
 |x::r,h,c,hc=>by
  simp only [okL,lbO] at h
  rcases lbB.1 hc with rfl|hc
  ·exact h.1
  ·exact b2b h.2 c hc
theorem ae8 {σ:List Nat} {x:C} (h:x.isT=true):Q5 σ x=x:=by
 cases x<;>first|rfl|cases h
def R9 (σ:List Nat) (ι:Io):Io:=fun id=>(σ[id]?).bind ι
mutual
theorem a9n {w:World} {ι:Io} {M:Ms} {σ:List Nat}:∀(x:C) (v:Value),okC σ.length x=true->RC w ι M (Q5 σ x) v->RC w (R9 σ ι) M x v
 |.t x,v,_,h=>by
  simp only [Q5] at h
  cases h with
  |t h=>exact .t h
 |.ptr id r o,v,hk,h=>by
  simp only [Q5] at h
  have hlt:id<σ.length:=by simpa [okC,K5] using hk
  have e:R9 σ ι id=ι (σ.getD id 0):=by simp [R9,lbf hlt,lbl]
  cases h with
  |ptr h=>exact .ptr (e.trans h)
 |.own id lo len app,v,hk,h=>by
  simp only [Q5] at h
  have hlt:id<σ.length:=by simpa [okC,K5] using hk
  have e:R9 σ ι id=ι (σ.getD id 0):=by simp [R9,lbf hlt,lbl]
  cases h with
  |own h h1 h2 h3 h4 h5=>exact .own (e.trans h) h1 h2 h3 h4 h5
  |nil h=>exact .nil (e.trans h)
 |.fn f caps,v,hk,h=>by
  simp only [Q5] at h
  cases h with
  |fn vs hl hr=>
   rw [G3,lbr] at hl
   refine .fn vs hl fun j c hj=>?_
   exact a9A caps (by simpa [okC] using hk) c (lbm hj) _ (hr j _ (by rw [G3,lba,hj];rfl))
 |.mp id,v,hk,h=>by
  simp only [Q5] at h
  have hlt:id<σ.length:=by simpa [okC,K5] using hk
  have e:R9 σ ι id=ι (σ.getD id 0):=by simp [R9,lbf hlt,lbl]
  cases h with
  |mp h=>exact .mp (e.trans h)
theorem a9A {w:World} {ι:Io} {M:Ms} {σ:List Nat}:∀(l:List C),okL σ.length l=true->∀c ∈ l,∀v,RC w ι M (Q5 σ c) v->RC w (R9 σ ι) M c v
 |[],_,c,h,_,_=>by cases h
 |x::r,hk,c,hc,v,h=>by
  simp only [okL,lbO] at hk
  rcases lbB.1 hc with hcx|hc
  ·rw [hcx] at h ⊢
   exact a9n x v hk.1 h
  ·exact a9A r hk.2 c hc v h
end
theorem b85 {w:World} {ι:Io} {M:Ms} {σ:List Nat} {s:S} {v:Value} (hk:okS σ.length s=true) (h:RS w ι M (a3B σ s) v):RS w (R9 σ ι) M s v:=by
 cases s with
 |junk=>exact .junk
 |c x=>cases h with
  |c h=>exact .c (a9n x v hk h)
 |agg cs=>
  have h:RS w ι M (.agg (a0i σ cs)) v:=h
  cases h with
  |agg vs hl hr=>
   rw [G3,lbr] at hl
   refine .agg vs hl fun j c hj=>?_
   exact a9A cs hk c (lbm hj) _ (hr j _ (by rw [G3,lba,hj];rfl))
 |tup ss=>cases hk
 |ifc t x=>
  cases x with
  |c x=>cases h with
   |ifc h=>cases h with
    |c h=>exact .ifc (.c (a9n x _ hk h))
  |agg cs=>cases h with
   |ifc h=>
    have h:RS w ι M (.agg (a0i σ cs)) _:=h
    cases h with
    |agg vs hl hr=>
     rw [G3,lbr] at hl
     refine .ifc (.agg vs hl fun j c hj=>?_)
     exact a9A cs hk c (lbm hj) _ (hr j _ (by rw [G3,lba,hj];rfl))
  |_=>cases hk
theorem RC.ren {w:World} {ι ι':Io} {M:Ms} {σ:List Nat} (hι:∀id l,ι id=some l->ι' (σ.getD id 0)=some l) {x:C} {v:Value} (h:RC w ι M x v):RC w ι' M (Q5 σ x) v:=by
 induction h with
 |t h=>simp only [Q5];exact .t h
 |ptr h=>simp only [Q5];exact .ptr (hι _ _ h)
 |own h h1 h2 h3 h4 h5=>simp only [Q5];exact .own (hι _ _ h) h1 h2 h3 h4 h5
 |nil h=>simp only [Q5];exact .nil (hι _ _ h)
 |fn vs hl hr ih=>
  simp only [Q5]
  refine .fn vs (by rw [G3,lbr];exact hl) fun j c hj=>?_
  rw [G3,lba] at hj
  obtain ⟨c0,hc0,rfl⟩:=a7O.1 hj
  exact ih j c0 hc0
 |mp h=>simp only [Q5];exact .mp (hι _ _ h)
theorem RS.ren1 {w:World} {ι ι':Io} {M:Ms} {σ:List Nat} (hι:∀id l,ι id=some l->ι' (σ.getD id 0)=some l) {x:List C} {v:Value} (h:RS w ι M (.agg x) v):RS w ι' M (.agg (a0i σ x)) v:=by
 cases h with
 |agg vs hl hr=>
  refine .agg vs (by rw [G3,lbr];exact hl) fun j c hj=>?_
  rw [G3,lba] at hj
  obtain ⟨c0,hc0,rfl⟩:=a7O.1 hj
  exact (hr j c0 hc0).ren hι
def bg4:S->Bool
 |.tup _=>false
 |.ifc _ _=>false
 |_=>true
def av5:S->Bool
 |.tup ss=>ss.all bg4
 |.ifc _ x=>match x with
  |.c _=>true
  |.agg _=>true
  |_=>false
 |_=>true
theorem RS.ren {w:World} {ι ι':Io} {M:Ms} {σ:List Nat} (hι:∀id l,ι id=some l->ι' (σ.getD id 0)=some l) {s:S} {v:Value} (hs:av5 s=true) (h:RS w ι M s v):RS w ι' M (a3B σ s) v:=by
 cases s with
 |junk=>exact .junk
 |c x=>cases h with
  |c h=>exact .c (h.ren hι)
 |agg cs=>exact RS.ren1 hι h
 |tup ss=>
  cases h with
  |tup vs hl hr=>
   refine .tup vs (by simpa using hl) fun j s hj=>?_
   rw [lba] at hj
   obtain ⟨s0,hs0,rfl⟩:=a7O.1 hj
   have h0:=hr j s0 hs0
   have hno:=lbw.1 hs s0 (lbm hs0)
   cases s0 with
   |junk=>exact .junk
   |c x=>cases h0 with
    |c h=>exact .c (h.ren hι)
   |agg cs=>exact RS.ren1 hι h0
   |tup _=>cases hno
   |ifc _ _=>cases hno
 |ifc t x=>
  cases x with
  |c x=>cases h with
   |ifc h=>cases h with
    |c h=>exact .ifc (.c (h.ren hι))
  |agg cs=>cases h with
   |ifc h=>exact .ifc (RS.ren1 hι h)
  |_=>cases hs
def a5Y (σ:List Nat) (rows:List (List C)):List (List C):=rows.map (a0i σ)
theorem b4X {σ:List Nat} (rows:List (List T)):a5Y σ (toC rows)=toC rows:=by
 unfold a5Y toC
 rw [a4b]
 apply lbp
 intro r _
 show a0i σ (r.map C.t)=r.map C.t
 rw [G3,a4b]
 apply lbp
 intro c _
 simp [Q5]
theorem b2z {σ:List Nat} {rows:List (List C)} {i j:Nat}:at2 (a5Y σ rows) i j=(at2 rows i j).map (Q5 σ):=by
 unfold at2 a5Y
 rw [lba]
 cases rows[i]? with
 |none=>rfl
 |some r=>simp [G3]
def aA6 (σ:List Nat) (k k':Blk):Prop:=k'.mode=k.mode∧(k'.elem,k'.mp)=(k.elem,k.mp)∧k'.size=k.size∧k'.app=k.app∧k'.rows=a5Y σ k.rows
theorem C4 {σ:List Nat} {k:Blk} {rows:List (List T)} (h:k.rows=toC rows):aA6 σ k k:=⟨rfl,rfl,rfl,rfl,by rw [h,b4X]⟩
theorem b6H {n:Nat}:∀l:List T,okL n (l.map C.t)=true
 |[]=>by simp [okL]
 |x::r=>by simp [okL,okC,b6H r]
theorem a3d {n:Nat} (rows:List (List T)):∀r ∈ toC rows,okL n r=true:=by
 intro r hr
 obtain ⟨r',_,rfl⟩:=lby.1 hr
 exact b6H r'
theorem E8.ren {w:World} {ι ι':Io} {M:Ms} {σ:List Nat} (hι:∀id l,ι id=some l->ι' (σ.getD id 0)=some l) {k k':Blk} (hk:aA6 σ k k') {l:Loc} (h:E8 w ι M k l):E8 w ι' M k' l:=by
 obtain ⟨e1,e2,e3,e4,e5⟩:=hk
 cases l with
 |nil=>
  have h:k.rows=[]:=h
  show k'.rows=[]
  rw [e5,h];rfl
 |blk b cap size=>
  obtain ⟨q1,q2,q3,q4,q5,cur,q6,q7,q8⟩:=h
  refine ⟨by rw [e3];exact q1,q2,by rw [e5];simpa [a5Y] using q3,a0L.of (congrArg Prod.snd e2).symm q4,?_,cur,by rw [N7 (congrArg Prod.snd e2) (congrArg Prod.fst e2) e3 (by rw [e5];simp [a5Y])];exact q6,q7,fun i j c hc=>?_⟩
  ·intro r hr
   rw [e5] at hr
   obtain ⟨r0,h0,rfl⟩:=lby.1 hr
   rw [G3,lbr]
   exact q5 r0 h0
  ·rw [e5,b2z] at hc
   obtain ⟨c0,hc0,rfl⟩:=a7O.1 hc
   obtain ⟨u,h1,h2⟩:=q8 i j c0 hc0
   exact ⟨u,h1,h2.ren hι⟩
theorem E8.ren_in {w:World} {ι:Io} {M:Ms} {σ:List Nat} {k k':Blk} (hk:aA6 σ k k') (hok:∀r ∈ k.rows,okL σ.length r=true) {l:Loc} (h:E8 w ι M k' l):E8 w (R9 σ ι) M k l:=by
 obtain ⟨e1,e2,e3,e4,e5⟩:=hk
 cases l with
 |nil=>
  have h:k'.rows=[]:=h
  show k.rows=[]
  rw [e5] at h
  simpa [a5Y] using h
 |blk b cap size=>
  obtain ⟨q1,q2,q3,q4,q5,cur,q6,q7,q8⟩:=h
  refine ⟨by rw [← e3];exact q1,q2,by rw [e5] at q3;simpa [a5Y] using q3,a0L.of (congrArg Prod.snd e2) q4,?_,cur,by rw [← N7 (congrArg Prod.snd e2) (congrArg Prod.fst e2) e3 (by rw [e5];simp [a5Y])];exact q6,q7,fun i j c hc=>?_⟩
  ·intro r hr
   have:=q5 (a0i σ r) (by rw [e5];exact lby.2 ⟨r,hr,rfl⟩)
   rw [G3,lbr] at this
   exact this
  ·obtain ⟨u,h1,h2⟩:=q8 i j (Q5 σ c) (by rw [e5,b2z,hc];rfl)
   obtain ⟨row,r1,r2⟩:=x5 hc
   exact ⟨u,h1,a9n c u (b2b (hok row (lbm r1)) c (lbm r2)) h2⟩
def a38 (σ:List Nat) (n m:Nat):List Nat:=σ++(List.range m).map (n+·)
theorem O0 {P:Program} {g:FuncId} {args args':List S} {H H' Hs Hs':Hp} {r r':S} (σ:List Nat) (h:a8 P g args Hs r Hs')
 (hargs:args'=args.map (a3B σ)) (hok:args.all (okS σ.length)=true) (hσl:σ.length=Hs.length) (hσn:σ.Nodup)
 (hin:∀i k,Hs[i]? =some k->k.mode=.live∧k.app=false∧(∀ r ∈ k.rows,okL σ.length r=true)∧∃k',H[σ.getD i 0]? =some k'∧aA6 σ k k')
 (hno:∀k ∈ Hs',k.mode≠.old) (hlen:Hs.length<=Hs'.length)
 (hr:av5 r=true) (hr':r'=a3B (a38 σ H.length (Hs'.length - Hs.length)) r)
 (hl':H'.length=H.length+(Hs'.length - Hs.length)) (hout:∀i k,Hs'[i]? =some k->∃k',H'[(a38 σ H.length (Hs'.length - Hs.length)).getD i 0]? =some k'∧aA6 (a38 σ H.length (Hs'.length - Hs.length)) k k')
 (hrest:∀j,j<H.length->j ∉ σ->H'[j]? =H[j]?):a8 P g args' H r' H':=by
 refine ⟨h.1,fun w ι M vals hl hv hH hM hF=>?_⟩
 subst hargs
 have hσlt:∀i,i<σ.length->σ.getD i 0<H.length:=fun i hi=>by
  obtain ⟨_,_,_,k',hk',_⟩:=hin i Hs[i] (lbf (by omega))
  exact (lbe.1 hk').1
 have hsub:∀i,i<σ.length->R9 σ ι i=ι (σ.getD i 0):=fun i hi=>by simp [R9,lbf hi,lbl]
 have hsubn:∀i,σ.length<=i->R9 σ ι i=none:=fun i hi=>by simp [R9,lbd hi]
 have hget:∀i k,Hs[i]? =some k->i<σ.length:=fun i k hk=>by rw [hσl];exact (lbe.1 hk).1
 have hHs:j3 w (R9 σ ι) M Hs:=by
  refine ⟨?_,?_,?_,?_,?_⟩
  ·intro id k hk hd l hl
   obtain ⟨h1,h2,h3,k',hk',hren⟩:=hin id k hk
   rw [hsub id (hget id k hk)] at hl
   exact (hH.blk _ k' hk' (by rw [hren.1];exact hd) l hl).ren_in hren h3
  ·intro id k hk hm b cap size hl
   obtain ⟨h1,h2,h3,k',hk',hren⟩:=hin id k hk
   rw [hsub id (hget id k hk)] at hl
   exact hH.liv _ k' hk' (by rw [hren.1];exact hm) b cap size hl
  ·intro id k hk hm
   obtain ⟨h1,h2,h3,k',hk',hren⟩:=hin id k hk
   rw [h1] at hm;cases hm
  ·intro id id' k k2 hk hk2 hm hm2 b cap size cap' size' hl hl2
   obtain ⟨h1,h2,h3,k',hk',hren⟩:=hin id k hk
   obtain ⟨h1',h2',h3',k2',hk2',hren2⟩:=hin id' k2 hk2
   rw [hsub id (hget id k hk)] at hl
   rw [hsub id' (hget id' k2 hk2)] at hl2
   have:=hH.inj _ _ k' k2' hk' hk2' (by rw [hren.1];exact hm) (by rw [hren2.1];exact hm2) _ _ _ _ _ hl hl2
   have hi:=hget id k hk
   have hi':=hget id' k2 hk2
   rw [lbl,lbl,lbf hi,lbf hi'] at this
   simp only [ac4] at this
   have hp:=List.pairwise_iff_getElem.1 hσn
   rcases aB1 id id' with hlt|heq|hgt
   ·exact absurd this (hp id id' hi hi' hlt)
   ·exact heq
   ·exact absurd this.symm (hp id' id hi' hi hgt)
  ·intro id id' k k2 hk hk2 hm
   obtain ⟨h1,_⟩:=hin id k hk
   rw [h1] at hm;cases hm
 have hlive:∀b,a2i (R9 σ ι) Hs b->∃i k,i<σ.length∧H[σ.getD i 0]? =some k∧k.mode=.live∧k.app=false∧∃cap size,ι (σ.getD i 0)=some (.blk b cap size):=by
  rintro b ⟨i,k,cap,size,hk,hm,hi⟩
  obtain ⟨h1,h2,h3,k',hk',hren⟩:=hin i k hk
  rw [hsub i (hget i k hk)] at hi
  exact ⟨i,k',hget i k hk,hk',by rw [hren.1];exact h1,by rw [hren.2.2.2.1];exact h2,cap,size,hi⟩
 have hliveH:∀b,a2i (R9 σ ι) Hs b->a2i ι H b:=fun b hb=>by
  obtain ⟨i,k,_,hk,hm,_,cap,size,hi⟩:=hlive b hb
  exact ⟨_,k,cap,size,hk,hm,hi⟩
 have hvals:∀j s,args[j]? =some s->RS w (R9 σ ι) M s (vals.getD j undef):=fun j s hj=>
  b85 (lbw.1 hok s (lbm hj)) (hv j _ (by rw [lba,hj];rfl))
 have hcall:=h.2 w (R9 σ ι) M vals (by simpa using hl) hvals hHs hM (fun id hid=>hsubn id (by omega))
 refine Calls.mono hcall ?_
 rintro e w' ⟨v,rfl,ι',M',h1,h2,h3,h4,h5⟩
 refine ⟨v,rfl,?_⟩
 generalize hm:Hs'.length - Hs.length=m at *
 let σ':=a38 σ H.length m
 let ι2:Io:=fun j=>if j<H.length then ι j else ι' (Hs.length+(j - H.length))
 have hσ'l:σ'.length=Hs'.length:=by simp [σ',a38];omega
 have hσ'1:∀i,i<σ.length->σ'.getD i 0=σ.getD i 0:=fun i hi=>by
  simp only [σ',a38,lbl,lbb hi]
 have hσ'2:∀i,σ.length<=i->i<Hs'.length->σ'.getD i 0=H.length+(i - σ.length):=fun i hi hi'=>by
  simp only [σ',a38,lbl]
  rw [lbc hi,lba,lbh (by omega)]
  rfl
 have hι2:∀id l,ι' id=some l->ι2 (σ'.getD id 0)=some l:=fun id l hid=>by
  have hidl:id<Hs'.length:=by
   rcases A6 id Hs'.length with h|h
   ·exact h
   ·rw [h4 id h] at hid;cases hid
  show (if _ then _ else _)=_
  by_cases hlt:id<σ.length
  ·rw [hσ'1 id hlt,if_pos (hσlt id hlt),←hsub id hlt,←h5.same id (by omega)]
   exact hid
  ·rw [hσ'2 id (by omega) hidl,if_neg (by omega),show Hs.length+(H.length+(id - σ.length) - H.length)=id by omega]
   exact hid
 have hkeepM:∀b,b<w.heap.size->¬M b->w'.heap[b]? =w.heap[b]?:=fun b hb hnm=>h5.keep b hb fun hl=>hnm (a2i.inM hHs hl)
 have hιext:∀id l,ι id=some l->ι2 id=some l:=fun id l hid=>by
  show (if _ then _ else _)=_
  rw [if_pos]
  ·exact hid
  ·rcases A6 id H.length with h|h
   ·exact h
   ·rw [hF id h] at hid;cases hid
 -- what lies at a place
 have hcase:∀j k',H'[j]? =some k'->(j<H.length∧j ∉ σ∧H[j]? =some k')∨∃i k,Hs'[i]? =some k∧σ'.getD i 0=j∧aA6 σ' k k'∧ι2 j=ι' i:=fun j k' hj=>by
  have hjl:=(lbe.1 hj).1
  have fromI:∀i,i<Hs'.length->σ'.getD i 0=j->∃i k,Hs'[i]? =some k∧σ'.getD i 0=j∧aA6 σ' k k'∧ι2 j=ι' i:=fun i hi hij=>by
   obtain ⟨k2,hk2,hren⟩:=hout i Hs'[i] (lbf hi)
   have hk2':H'[j]? =some k2:=by rw [← hij];exact hk2
   rw [hj] at hk2'
   injection hk2' with hk2'
   subst hk2'
   refine ⟨i,_,lbf hi,hij,hren,?_⟩
   show (if _ then _ else _)=_
   by_cases hlt:i<σ.length
   ·rw [← hij,hσ'1 i hlt,if_pos (hσlt i hlt),←hsub i hlt,←h5.same i (by omega)]
   ·rw [← hij,hσ'2 i (by omega) hi,if_neg (by omega),show Hs.length+(H.length+(i - σ.length) - H.length)=i by omega]
  by_cases hlt:j<H.length
  ·by_cases hmem:j ∈ σ
   ·obtain ⟨i,hi⟩:=ar0.1 hmem
    have hil:=(lbe.1 hi).1
    refine .inr (fromI i (by omega) ?_)
    rw [hσ'1 i hil,lbl,hi];rfl
   ·rw [hrest j hlt hmem] at hj
    exact .inl ⟨hlt,hmem,hj⟩
  ·refine .inr (fromI (σ.length+(j - H.length)) (by omega) ?_)
   rw [hσ'2 _ (by omega) (by omega)];omega
 have hold2:∀j,j<H.length->ι2 j=ι j:=fun j hj=>by show (if _ then _ else _)=_;rw [if_pos hj]
 have hmodeOut:∀j k',j<H.length->j ∉ σ->H[j]? =some k'->k'.mode=.live->∀b cap size,ι j=some (.blk b cap size)->¬a2i (R9 σ ι) Hs b:=fun j k' hjl hjn hk' hm' b cap size hi hb=>by
  obtain ⟨i,k,hil,hk,hkm,_,c,s,hi2⟩:=hlive b hb
  have:=hH.inj j _ k' k hk' hk hm' hkm _ _ _ _ _ hi hi2
  apply hjn
  rw [this,lbl,lbf hil]
  exact lbF hil
 refine ⟨ι2,M',?_,⟨?_,?_,?_,?_,?_⟩,h3,?_,?_⟩
 ·rw [hr']
  exact h1.ren hι2 hr
 ·intro j k' hj hd l hl2
  rcases hcase j k' hj with ⟨hjl,hjn,hk'⟩|⟨i,k,hk,hij,hren,hιj⟩
  ·rw [hold2 j hjl] at hl2
   have hb:=hH.blk j k' hk' hd l hl2
   cases l with
   |nil=>exact hb
   |blk b cap size=>
    obtain ⟨q1,q2,q3,q4,q5,cur,q6,q7,q8⟩:=hb
    have hnl:¬a2i (R9 σ ι) Hs b:=by
     intro hb
     cases hm':k'.mode with
     |live=>exact hmodeOut j k' hjl hjn hk' hm' b cap size hl2 hb
     |froz=>exact hH.fro j k' hk' hm' _ _ _ hl2 (a2i.inM hHs hb)
     |old=>
      obtain ⟨i,k,hil,hk,hkm,hka,c,s,hi2⟩:=hlive b hb
      have:=(hH.old j _ k' k hk' hk hm' hkm _ _ _ _ _ hl2 hi2).1
      rw [hka] at this;cases this
     |dead=>exact hd hm'
    refine ⟨q1,q2,q3,q4,q5,cur,(h5.keep b (x9 q6) hnl).trans q6,q7,fun i j c hc=>?_⟩
    obtain ⟨u,r1,r2⟩:=q8 i j c hc
    exact ⟨u,r1,r2.keep hkeepM h5.mnew hιext⟩
  ·rw [hιj] at hl2
   exact (h2.blk i k hk (by rw [← hren.1];exact hd) l hl2).ren hι2 hren
 ·intro j k' hj hm' b cap size hi
  rcases hcase j k' hj with ⟨hjl,hjn,hk'⟩|⟨i,k,hk,hij,hren,hιj⟩
  ·rw [hold2 j hjl] at hi
   rcases h5.mold b (hH.liv j k' hk' hm' b cap size hi) with h|h
   ·exact h
   ·exact absurd h (hmodeOut j k' hjl hjn hk' hm' b cap size hi)
  ·rw [hιj] at hi
   exact h2.liv i k hk (by rw [← hren.1];exact hm') b cap size hi
 ·intro j k' hj hm' b cap size hi hb
  rcases hcase j k' hj with ⟨hjl,hjn,hk'⟩|⟨i,k,hk,hij,hren,hιj⟩
  ·rw [hold2 j hjl] at hi
   have hlt:b<w.heap.size:=by
    obtain ⟨_,_,_,_,_,cur,q6,_⟩:=hH.blk j k' hk' (by rw [hm'];intro h;cases h) _ hi
    exact x9 q6
   rcases h5.mnew b hb with h|h
   ·exact hH.fro j k' hk' hm' b cap size hi h
   ·omega
  ·rw [hιj] at hi
   exact h2.fro i k hk (by rw [← hren.1];exact hm') b cap size hi hb
 ·have cross:∀j j' k' i k,j<H.length->j ∉ σ->H[j]? =some k'->k'.mode=.live->Hs'[i]? =some k->k.mode=.live->∀b cap size cap' size',ι j=some (.blk b cap size)->ι' i=some (.blk b cap' size')->j=j':=by
   intro j j' k' i k hjl hjn hk' hm' hk hkm b cap size cap' size' hi hi'
   have hlt:b<w.heap.size:=by
    obtain ⟨_,_,_,_,_,cur,q6,_⟩:=hH.blk j k' hk' (by rw [hm'];intro h;cases h) _ hi
    exact x9 q6
   rcases h5.live b ⟨i,k,cap',size',hk,hkm,hi'⟩ with h|h
   ·exact absurd h (hmodeOut j k' hjl hjn hk' hm' b cap size hi)
   ·omega
  intro j j' k1 k2 hj hj' hm1 hm2 b cap size cap' size' hi hi'
  rcases hcase j k1 hj with ⟨hjl,hjn,hk1⟩|⟨i,k,hk,hij,hren,hιj⟩<;>rcases hcase j' k2 hj' with ⟨hjl',hjn',hk2⟩|⟨i',k0,hk0,hij',hren',hιj'⟩
  ·rw [hold2 j hjl] at hi
   rw [hold2 j' hjl'] at hi'
   exact hH.inj j j' k1 k2 hk1 hk2 hm1 hm2 _ _ _ _ _ hi hi'
  ·rw [hold2 j hjl] at hi
   rw [hιj'] at hi'
   exact cross j j' k1 i' k0 hjl hjn hk1 hm1 hk0 (by rw [← hren'.1];exact hm2) _ _ _ _ _ hi hi'
  ·rw [hιj] at hi
   rw [hold2 j' hjl'] at hi'
   exact (cross j' j k2 i k hjl' hjn' hk2 hm2 hk (by rw [← hren.1];exact hm1) _ _ _ _ _ hi' hi).symm
  ·rw [hιj] at hi
   rw [hιj'] at hi'
   have:=h2.inj i i' k k0 hk hk0 (by rw [← hren.1];exact hm1) (by rw [← hren'.1];exact hm2) _ _ _ _ _ hi hi'
   rw [← hij,←hij',this]
 ·intro j j' k1 k2 hj hj' hm1 hm2 b cap size cap' size' hi hi'
  rcases hcase j k1 hj with ⟨hjl,hjn,hk1⟩|⟨i,k,hk,hij,hren,hιj⟩
  ·rw [hold2 j hjl] at hi
   have hlt:b<w.heap.size:=by
    obtain ⟨_,_,_,_,_,cur,q6,_⟩:=hH.blk j k1 hk1 (by rw [hm1];intro h;cases h) _ hi
    exact x9 q6
   rcases hcase j' k2 hj' with ⟨hjl',hjn',hk2⟩|⟨i',k0,hk0,hij',hren',hιj'⟩
   ·rw [hold2 j' hjl'] at hi'
    exact hH.old j j' k1 k2 hk1 hk2 hm1 hm2 _ _ _ _ _ hi hi'
   ·rw [hιj'] at hi'
    rcases h5.live b ⟨i',k0,cap',size',hk0,by rw [← hren'.1];exact hm2,hi'⟩ with h|h
    ·obtain ⟨i,k,hil,hk,hkm,hka,c,s,hi2⟩:=hlive b h
     have:=(hH.old j _ k1 k hk1 hk hm1 hkm _ _ _ _ _ hi hi2).1
     rw [hka] at this;cases this
    ·omega
  ·have:k.mode=.old:=by rw [← hren.1];exact hm1
   exact absurd this (hno k (lbm hk))
 ·intro id hid
  show (if _ then _ else _)=_
  rw [if_neg (by omega)]
  exact h4 _ (by omega)
 ·refine ⟨h5.os,h5.tape,h5.output,h5.size,fun b hb hnl=>h5.keep b hb fun hl=>hnl (hliveH b hl),fun id hid=>hold2 id hid,h5.mnew,fun b hb=>?_,?_,by omega⟩
  ·rcases h5.mold b hb with h|h
   ·exact .inl h
   ·exact .inr (hliveH b h)
  ·rintro b ⟨j,k',cap,size,hj,hm',hi⟩
   rcases hcase j k' hj with ⟨hjl,hjn,hk'⟩|⟨i,k,hk,hij,hren,hιj⟩
   ·rw [hold2 j hjl] at hi
    exact .inl ⟨j,k',cap,size,hk',hm',hi⟩
   ·rw [hιj] at hi
    rcases h5.live b ⟨i,k,cap,size,hk,by rw [← hren.1];exact hm',hi⟩ with h|h
    ·exact .inl (hliveH b h)
    ·exact .inr h
theorem t8 {P:Program} {τ:Tab} (hτ:v6 P τ) {n0:Nat} {c:Code} {env:Env} {H:Hp} {Q:AX->Env->Hp->Prop} {σ:Type} (E:σ->Env × Hp) (I:σ->Prop) (μ:σ->Nat) (x0:σ) (ρ0:List (Option Nat))
 (hI:I x0) (h0:Ent n0 ρ0 env H (E x0).1 (E x0).2)
 (round:∀x,I x->a4d P τ n0 c (E x).1 (E x).2 fun a env' H'=>match a with
   |.normal=>∃ρ x',Ent n0 ρ env' H' (E x').1 (E x').2∧I x'∧μ x'<μ x
   |a=>Q a env' H'):Awp P n0 (.loop c) env H Q:=by
 refine a7w (σ:={ x:σ // I x }) (fun x=>E x.1) (fun x=>μ x.1) ⟨x0,hI⟩ ρ0 h0 ?_
 rintro ⟨x,hx⟩
 refine (m9 hτ c (round x hx)).mono ?_
 intro a env' H' h
 cases a with
 |normal=>
  obtain ⟨ρ,x',h1,h2,h3⟩:=h
  exact ⟨ρ,⟨x',h2⟩,h1,h3⟩
 |exit id=>exact h
 |ret=>exact h
theorem G8 {x y:Int} (h:x=y) (h1:-9223372036854775808<=y) (h2:y<=9223372036854775807):E1 .i64 x y:=by subst h;exact a3e h1 h2
end
section
open Go.RowKit
section
variable {α β:Type}
theorem a9p {l:List α}:∀{i:Nat} {x:α} {k:α->Prop},l[i]? =some x->k x->a1l i l k:=by
 induction l with
 |nil=>intro i x k h;simp at h
 |cons a r ih=>
  intro i x k h hk
  cases i with
  |zero=>simp at h;subst h;exact hk
  |succ i=>exact ih (by simpa using h) hk
theorem aE2 {v:α} {l:List α} {i:Nat} {k:List α->Prop} (h:k (l.set i v)):a3F i v l k:=x3.2 h
theorem a2O {r l:List α} {k:List α->Prop} (h:k (l++r)):a98 l r k:=S0.2 h
theorem D3 {l:List α} {k:List α->Prop} (h:k l):a98 l [] k:=a2O (by rw [a1p];exact h)
theorem b1x {l:List α} {n:Nat} {k:Nat->Prop} (h:k (l.length+n)):a8m l n k:=C0.2 (by rw [Nat.add_comm];exact h)
theorem a4u {f:β->α} {M:List β} {N n:Nat} {k:Nat->Prop} (h:M.length=N) (hk:k (N+n)):a8m (M.map f) n k:=b1x (by simpa [h] using hk)
theorem j5 {f:β->α} {M:List β} {T:List α} {N n:Nat} {k:Nat->Prop} (h:M.length=N) (hk:a8m T n fun m=>k (N+m)):a8m (M.map f++T) n k:=by
 refine b1x ?_
 have:=(C0 (k:=fun m=>k (N+m))).1 hk
 simpa [h,a1g,Nat.add_comm n] using this
theorem i7 {f:β->α} {M:List β} {T r:List α} {k:List α->Prop} (h:a98 T r fun q=>k (M.map f++q)):a98 (M.map f++T) r k:=by
 refine a2O ?_
 rw [lbE]
 exact (S0 (k:=fun q=>k (M.map f++q))).1 h
theorem aO0 {f:β->α} {M:List β} {i:Nat} {x:β} {k:α->Prop} (h:M[i]? =some x) (hk:k (f x)):a1l i (M.map f) k:=a9p (by rw [lba,h];rfl) hk
theorem U1 {f:β->α} {M:List β} {T:List α} {i:Nat} {x:β} {k:α->Prop} (h:M[i]? =some x) (hk:k (f x)):a1l i (M.map f++T) k:=
 a9p (by rw [lbb (by simpa using (lbe.1 h).1),lba,h];rfl) hk
theorem f9 {f:β->α} {M:List β} {T:List α} {N t:Nat} {k:α->Prop} (h:M.length=N) (hk:a1l t T k):a1l (N+t) (M.map f++T) k:=by
 obtain ⟨x,h1,h2⟩:=H9 hk
 exact a9p (by rw [lbc (by simp [h])];simpa [h] using h1) h2
theorem B5 {f:β->α} {M:List β} {T:List α} {N:Nat} {k:α->Prop} (h:M.length=N) (hk:a1l 0 T k):a1l N (M.map f++T) k:=f9 (t:=0) h hk
theorem aq9 {f:β->α} {M:List β} {T:List α} {i:Nat} {v:α} {x:β} {k:List α->Prop} (hi:i<M.length) (hv:v=f x) (h:k ((M.set i x).map f++T)):a3F i v (M.map f++T) k:=
 aE2 (by rw [b28 _ _ (by simpa using hi),hv,←a2Y];exact h)
theorem g6 {f:β->α} {M:List β} {T:List α} {N t:Nat} {v:α} {k:List α->Prop} (h:M.length=N) (hk:a3F t v T fun q=>k (M.map f++q)):a3F (N+t) v (M.map f++T) k:=by
 refine aE2 ?_
 rw [b1r _ _ (by simp [h])]
 simpa [h] using (x3 (k:=fun q=>k (M.map f++q))).1 hk
theorem a7F {f:β->α} {M:List β} {T:List α} {N:Nat} {v:α} {k:List α->Prop} (h:M.length=N) (hk:a3F 0 v T fun q=>k (M.map f++q)):a3F N v (M.map f++T) k:=g6 (t:=0) h hk
end
def idR (n:Nat):List (Option Nat):=(List.range n).map some
theorem b2S (n:Nat):(idR n).length=n:=by simp [idR]
theorem k6 {n i:Nat} (h:i<n):(idR n)[i]? =some (some i):=by simp [idR,h]
theorem b2P {n i j:Nat} (h:(idR n)[i]? =some (some j)):i=j:=by
 obtain ⟨h1,h2⟩:=lbe.1 h
 simp [idR] at h2
 exact h2
theorem a8s {n:Nat}:∀{m:Nat},m<=n->a13 (idR n) m=true
 |0,_=>rfl
 |m+1,h=>by
  unfold a13
  rw [k6 (by omega),a8s (by omega)]
  simp
theorem aL0:∀{r:List (Option Nat)} {H:Hp} {n:Nat},(∀ j:Nat,r[j]?≠some (some n))->a4v n r H=false
 |[],H,n,_=>by cases H<;>rfl
 |x::r,[],n,_=>by cases x<;>rfl
 |x::r,k::H,n,h=>by
  unfold a4v
  rw [aL0 (r:=r) (H:=H) (n:=n) (fun j=>by simpa using h (j+1)),a9I]
  split
  ·rfl
  ·rename_i m _
   have:m≠n:=by rintro rfl;exact h 0 rfl
   cases hb:Nat.beq m n with
   |false=>rfl
   |true=>exact absurd (n7 hb) this
  ·rfl
theorem a0A:∀{r:List (Option Nat)} {H:Hp},(∀ i j n:Nat,r[i]? =some (some n)->r[j]? =some (some n)->i=j)->O8 r H=true
 |[],H,_=>by cases H<;>rfl
 |x::r,[],_=>by cases x<;>rfl
 |none::r,k::H,h=>a0A (r:=r) fun i j n h1 h2=>by have:=h (i+1) (j+1) n (by simpa using h1) (by simpa using h2);omega
 |some n::r,k::H,h=>by
  unfold O8
  rw [a0A (r:=r) (H:=H) fun i j n h1 h2=>by have:=h (i+1) (j+1) n (by simpa using h1) (by simpa using h2);omega]
  rw [aL0 (r:=r) (n:=n) (fun j hj=>by have:=h 0 (j+1) n rfl (by simpa using hj);omega)]
  cases k.mode<;>rfl
theorem ao5 {n:Nat} {H:Hp}:O8 (idR n) H=true:=a0A fun i j n h1 h2=>by rw [b2P h1,b2P h2]
theorem a56 {ρ:List (Option Nat)} {H:Hp}:∀{r:List (Option Nat)} {H':Hp},r.length=H'.length->(∀ (i:Nat) (k':Blk),H'[i]? =some k'->∃(j:Nat) (k:Blk),r[i]? =some (some j)∧H[j]? =some k∧a6d ρ H k k')->a30 ρ H r H'
 |[],[],_,_=>trivial
 |[],_::_,h,_=>by simp at h
 |_::_,[],h,_=>by simp at h
 |x::r,k'::H',hl,h=>by
  obtain ⟨j,k,h1,h2,h3⟩:=h 0 k' rfl
  simp at h1
  subst h1
  refine ⟨?_,a56 (by simpa using hl) fun i k1 hk=>by simpa using h (i+1) k1 (by simpa using hk)⟩
  simp only [h2]
  exact h3
theorem ap7 {n:Nat} {H:Hp}:∀{l:List C},(∀ c ∈ l,match c with|.t _=>True|.ptr id _ _=>id<n|.own id _ _ _=>id<n|.mp id=>id<n|.fn _ _=>False)->a1U (idR n) H l l
 |[],_=>trivial
 |c::r,h=>by
  refine ⟨?_,ap7 fun c hc=>h c (by simp [hc])⟩
  have h0:=h c (by simp)
  cases c with
  |t x=>exact U4 x
  |ptr id r o=>exact ⟨k6 h0,rfl,rfl⟩
  |own id lo len app=>exact ⟨k6 h0,rfl,rfl,fun h=>h⟩
  |fn f caps=>exact h0.elim
  |mp id=>exact k6 h0
def okB (n:Nat) (k:Blk):Prop:=∀r ∈ k.rows,∀c ∈ r,match c with|.t _=>True|.ptr id _ _=>id<n|.own id _ _ _=>id<n|.mp id=>id<n|.fn _ _=>False
theorem D8 {n:Nat} {k:Blk} {rows:List (List T)} (h:k.rows=toC rows):okB n k:=by
 intro r hr c hc
 rw [h] at hr
 obtain ⟨r0,_,rfl⟩:=lby.1 hr
 obtain ⟨t,_,rfl⟩:=lby.1 hc
 trivial
theorem au9 {n:Nat} {H:Hp}:∀{l:List (List C)},(∀ r ∈ l,∀c ∈ r,match c with|.t _=>True|.ptr id _ _=>id<n|.own id _ _ _=>id<n|.mp id=>id<n|.fn _ _=>False)->a3N (idR n) H l l
 |[],_=>trivial
 |r::l,h=>⟨ap7 (h r (by simp)),au9 fun r hr=>h r (by simp [hr])⟩
theorem ap3 {n:Nat} {H:Hp} {k:Blk} (h:okB n k):a6d (idR n) H k k:=⟨by unfold a1V;cases k.mode<;>simp,rfl,rfl,.inr (au9 h)⟩
theorem a7d {ρ:List (Option Nat)} {H:Hp}:∀{xs ys:List (List C)},xs.length=ys.length->(∀ (i:Nat) (x y:List C),xs[i]? =some x->ys[i]? =some y->a1U ρ H x y)->a3N ρ H xs ys
 |[],[],_,_=>trivial
 |[],_::_,h,_=>by simp at h
 |_::_,[],h,_=>by simp at h
 |x::xs,y::ys,h,hh=>⟨hh 0 x y rfl rfl,a7d (by simpa using h) fun i a b ha hb=>hh (i+1) a b (by simpa using ha) (by simpa using hb)⟩
theorem a7W {n0 n:Nat} {env env':Env} {H H':Hp} (hn:H'.length=n) (h0:n0<=n) (hok:∀k ∈ H',okB n k) (hH:∀i,i<n->H[i]? =H'[i]?) (hE:a0g (idR n) H env env'):Ent n0 (idR n) env H env' H':=
 ⟨a8s h0,ao5,a56 (by rw [b2S,hn]) fun i k' hk=>by
   have hi:i<n:=by rw [← hn];exact (lbe.1 hk).1
   exact ⟨i,k',k6 hi,by rw [hH i hi];exact hk,ap3 (hok k' (lbm hk))⟩,hE⟩
theorem b0h {n0 n:Nat} {env env':Env} {H' T:Hp} (hn:H'.length=n) (h0:n0<=n) (hok:∀k ∈ H',okB n k) (hE:a0g (idR n) (H'++T) env env'):Ent n0 (idR n) env (H'++T) env' H':=
 a7W hn h0 hok (fun i hi=>by rw [lbb (by omega)]) hE
theorem ax2 {n0 n:Nat} {r s:S} {H H':Hp} (hn:H'.length=n) (h0:n0<=n) (hok:∀k ∈ H',okB n k) (hH:∀i,i<n->H[i]? =H'[i]?) (hE:a9d (idR n) H r s):Fin n0 r H s H':=
 ⟨idR n,a8s h0,ao5,a56 (by rw [b2S,hn]) fun i k' hk=>by
   have hi:i<n:=by rw [← hn];exact (lbe.1 hk).1
   exact ⟨i,k',k6 hi,by rw [hH i hi];exact hk,ap3 (hok k' (lbm hk))⟩,hE⟩
theorem a1a {n i:Nat} (h:i<n):(List.range n).getD i 0=i:=by simp [h]
mutual
theorem a5u {n:Nat}:∀c:C,okC n c=true->Q5 (List.range n) c=c
 |.t x,_=>by simp [Q5]
 |.ptr id r o,h=>by simp only [Q5];rw [a1a (by simpa [okC] using h)]
 |.own id lo len app,h=>by simp only [Q5];rw [a1a (by simpa [okC] using h)]
 |.fn f caps,h=>by simp only [Q5];rw [a0I caps (by simpa [okC] using h)]
 |.mp id,h=>by simp only [Q5];rw [a1a (by simpa [okC] using h)]
theorem a0I {n:Nat}:∀l:List C,okL n l=true->a0i (List.range n) l=l
 |[],_=>by simp [a0i]
 |c::r,h=>by
  simp only [okL,lbO] at h
  simp only [a0i]
  rw [a5u c h.1,a0I r h.2]
end
theorem b12 {n:Nat} {s:S} (h:okS n s=true):a3B (List.range n) s=s:=by
 cases s with
 |junk=>rfl
 |c x=>simp only [a3B];rw [a5u x h]
 |agg cs=>simp only [a3B];rw [a0I cs h]
 |tup ss=>simp [okS] at h
 |ifc t x=>
  cases x with
  |c x=>simp only [a3B];rw [a5u x h]
  |agg cs=>simp only [a3B];rw [a0I cs h]
  |_=>simp [okS] at h
theorem b01 {n:Nat}:∀{l:List C},(∀ c ∈ l,match c with|.t _=>True|.ptr id _ _=>id<n|.own id _ _ _=>id<n|.mp id=>id<n|.fn _ _=>False)->okL n l=true
 |[],_=>by simp [okL]
 |c::r,h=>by
  simp only [okL,lbO]
  refine ⟨?_,b01 fun c hc=>h c (by simp [hc])⟩
  have h0:=h c (by simp)
  cases c with
  |t x=>simp [okC]
  |ptr id r o=>simp only [okC];exact K5 ▸ h0
  |own id lo len app=>simp only [okC];exact K5 ▸ h0
  |fn f caps=>exact h0.elim
  |mp id=>simp only [okC];exact K5 ▸ h0
theorem a9K {n:Nat} {k:Blk} (h:okB n k):aA6 (List.range n) k k:=by
 refine ⟨rfl,rfl,rfl,rfl,?_⟩
 unfold a5Y
 rw [lbp (g:=id) fun r hr=>a0I r (b01 (h r hr))]
 simp
theorem aJ4 {σ:List Nat} {l:List C} (h:l.all C.isT=true):a0i σ l=l:=by
 rw [G3]
 conv=>rhs;rw [← List.map_id l]
 exact lbp fun c hc=>ae8 (lbw.1 h c hc)
theorem a8U {P:Program} {g:FuncId} {args:List S} {Hs Hs':Hp} {r:S} {n:Nat} (T:Hp) (h:a8 P g args Hs r Hs') (hn:Hs.length=n) (hn':Hs'.length=n) (hok:args.all (okS n)=true)
 (hin:∀k ∈ Hs,k.mode=.live∧k.app=false∧okB n k) (hout:∀k ∈ Hs',k.mode≠.old∧okB n k) (hr:av5 r=true) (hr':r.isT=true):a8 P g args (Hs++T) r (Hs'++T):=by
 have e0:Hs'.length - Hs.length=0:=by omega
 have ex:∀m,a38 (List.range n) m (Hs'.length - Hs.length)=List.range n:=fun m=>by rw [e0];simp [a38]
 have hargs:args=args.map (a3B (List.range n)):=by
  conv=>lhs;rw [← List.map_id args]
  exact lbp fun s hs=>(b12 (lbw.1 hok s hs)).symm
 refine O0 (List.range n) h hargs (by simpa using hok) (by simp [hn]) List.nodup_range ?_ (fun k hk=>(hout k hk).1) (by omega) hr ?_ (by simp;omega) ?_ ?_
 ·intro i k hk
  have hi:i<n:=by rw [← hn];exact (lbe.1 hk).1
  obtain ⟨h1,h2,h3⟩:=hin k (lbm hk)
  refine ⟨h1,h2,fun r hr=>by rw [lbv];exact b01 (h3 r hr),k,?_,a9K h3⟩
  rw [a1a hi,lbb (by omega),hk]
 ·rw [ex]
  cases r with
  |junk=>rfl
  |c x=>simp only [a3B];rw [ae8 hr']
  |agg cs=>
   simp only [a3B]
   rw [aJ4 hr']
  |tup ss=>
   simp only [a3B]
   congr 1
   conv=>lhs;rw [← List.map_id ss]
   refine lbp fun s hs=>?_
   have h1:=lbw.1 hr' s hs
   cases s with
   |junk=>rfl
   |c x=>simp only [id];rw [ae8 h1]
   |agg cs=>
    simp only [id]
    rw [aJ4 h1]
   |tup ss=>rfl
   |ifc t x=>cases h1
  |ifc t x=>cases hr'
 ·intro i k hk
  have hi:i<n:=by rw [← hn'];exact (lbe.1 hk).1
  obtain ⟨h1,h3⟩:=hout k (lbm hk)
  rw [ex]
  exact ⟨k,by rw [a1a hi,lbb (by omega),hk],a9K h3⟩
 ·intro j hj hnj
  have:n<=j:=by
   rcases A6 j n with h|h
   ·exact absurd (lbC.2 h) hnj
   ·exact h
  rw [lbc (by omega),lbc (by omega),hn,hn']
end
section
open Go.RowKit
theorem a8n {P : Program} {τ : Tab} (hτ : v6 P τ) {f : FuncId} {fn : Func} {c : Code} {args : List S} {H : Hp} {s : S} {H' : Hp} (hf : P.funcs[f]? = some fn) (hb : fn.body = some c) (hn : fn.name ≠ "runtime.NumGoroutine")
    (h:Awp P H.length c (args++List.replicate (fn.ntmps - args.length) .junk) H fun x env' H1=>match x with
      |.exit _=>False
      |_=>a1L τ fn env' H1 fun r=>Fin H.length r H1 s H'):a8 P f args H s H':=by
  refine ⟨⟨fn,hf,by rw [hb];rfl,hn⟩,fun w ι M vals hl hr hH hM hF=>?_⟩
  refine calls_of_wp hf hb ?_
  have hi:=Sim.init hl hr hH hM hF (fn.ntmps - args.length)
  have:=h.out w ι M H _ w rfl hM hi
  have e:vals.toArray.size=args.length:=by simpa using hl
  rw [e]
  refine wp_mono this ?_
  rintro e a' w' ⟨x,env',H1,rfl,hq,ι',M',hd,hsz,he,hH',hM',hF',hst⟩
  have key:(a1L τ fn env' H1 fun r=>Fin H.length r H1 s H')->a'.defers=[]∧∃v,(results fn a'.tmps).run P w'=.ok v w'∧∃v',Ending.returned v=.returned v'∧B4 w ι M H s H' v' w':=by
   intro hq
   refine ⟨hd,?_⟩
   obtain ⟨l,hk,vs,h1,h2,h3⟩:=a3J hτ he hH' fn.results.toList hq
   have hrun:∃v,(results fn a'.tmps).run P w'=.ok v w'∧v=(if h:vs.length=1 then vs[0] else .tuple vs.toArray):=by
    refine ⟨_,?_,rfl⟩
    unfold results
    rw [aY6,Sem.run_bind,Sem.run_map]
    refine (congrArg (fun r=>Result.andThen (Result.andThen r _) _) h1).trans ?_
    simp
   obtain ⟨v,hv1,rfl⟩:=hrun
   refine ⟨_,hv1,_,rfl,?_⟩
   have hsr:∃r,RS w' ι' M' r (if h:vs.length=1 then vs[0] else .tuple vs.toArray)∧Fin H.length r H1 s H':=by
    match l,hk,h2,h3 with
    |[s1],hk,h2,h3=>
     refine ⟨s1,?_,hk⟩
     rw [dif_pos (by simpa using h2)]
     have:=h3 0 s1 rfl
     rw [lbl,lbf (by simp at h2;omega)] at this
     exact this
    |[],hk,h2,h3=>
     refine ⟨_,?_,hk⟩
     rw [dif_neg (by simp at h2;simp [h2])]
     exact .tup vs h2 h3
    |s1::s2::r,hk,h2,h3=>
     refine ⟨_,?_,hk⟩
     rw [dif_neg (by simp at h2;omega)]
     exact .tup vs h2 h3
   obtain ⟨r,h4,ρ,f1,f2,f3,f4⟩:=hsr
   obtain ⟨g1,g2,g3⟩:=a30.all f1 f2 f3 rfl hM hH' hst
   exact ⟨K8 ρ ι',_,f4.rs hH' h4,g1,fun b hb=>hM' b hb.1,g2,g3⟩
  cases x with
  |normal=>exact key hq
  |ret=>exact key hq
  |exit id=>exact hq.elim
theorem H5 {P:Program} {τ:Tab} (hτ:v6 P τ) {n0:Nat} {x y:Code} {env:Env} {H:Hp} {Q:AX->Env->Hp->Prop}
 (h:a4d P τ n0 x env H fun a env' H'=>match a with
   |.normal=>Awp P n0 y env' H' Q
   |a=>Q a env' H'):Awp P n0 (.seq x y) env H Q:=by
 refine ⟨fun w0 ι0 M0 H0 a w hn hM hs=>?_⟩
 refine wp_seq (wp_mono ((m9 hτ x h).out w0 ι0 M0 H0 a w hn hM hs) ?_)
 rintro e a' w' ⟨x,env',H',rfl,hq,hs'⟩
 cases x with
 |normal=>exact hq.out w0 ι0 M0 H0 a' w' hn hM hs'
 |exit id=>exact ⟨_,env',H',rfl,hq,hs'⟩
 |ret=>exact ⟨_,env',H',rfl,hq,hs'⟩
theorem a4f {P:Program} {n0:Nat} {x y:Code} {env:Env} {H:Hp} {Q:AX->Env->Hp->Prop}
 (h:Awp P n0 x env H fun a env' H'=>match a with
   |.normal=>Awp P n0 y env' H' Q
   |a=>Q a env' H'):Awp P n0 (.seq x y) env H Q:=by
 refine ⟨fun w0 ι0 M0 H0 a w hn hM hs=>?_⟩
 refine wp_seq (wp_mono (h.out w0 ι0 M0 H0 a w hn hM hs) ?_)
 rintro e a' w' ⟨x,env',H',rfl,hq,hs'⟩
 cases x with
 |normal=>exact hq.out w0 ι0 M0 H0 a' w' hn hM hs'
 |exit id=>exact ⟨_,env',H',rfl,hq,hs'⟩
 |ret=>exact ⟨_,env',H',rfl,hq,hs'⟩
theorem a1d {P:Program} {n0 id:Nat} {c:Code} {env:Env} {H:Hp} {Q:AX->Env->Hp->Prop} (h:Awp P n0 c env H (bg0 id Q)):Awp P n0 (.block id c) env H Q:=by
 refine ⟨fun w0 ι0 M0 H0 a w hn hM hs=>?_⟩
 refine wp_block (wp_mono (h.out w0 ι0 M0 H0 a w hn hM hs) ?_)
 rintro e a' w' ⟨x,env',H',rfl,hq,hs'⟩
 cases x with
 |normal=>exact ⟨_,env',H',rfl,hq,hs'⟩
 |exit j=>
  have hq:cond (Nat.beq j id) (Q .normal env' H') (Q (.exit j) env' H'):=hq
  show if j=id then _ else _
  by_cases hj:j=id
  ·subst hj
   rw [if_pos rfl]
   simp only [a6j,cond_true] at hq
   exact ⟨_,env',H',rfl,hq,hs'⟩
  ·rw [if_neg hj]
   have:Nat.beq j id=false:=by
    cases hb:Nat.beq j id with
    |false=>rfl
    |true=>exact absurd (n7 hb) hj
   simp only [this,cond_false] at hq
   exact ⟨_,env',H',rfl,hq,hs'⟩
 |ret=>exact ⟨_,env',H',rfl,hq,hs'⟩
theorem b7u {P:Program} {n0:Nat} {c:Code} {env env':Env} {H H':Hp} {Q:AX->Env->Hp->Prop} (ρ:List (Option Nat)) (he:Ent n0 ρ env H env' H') (h:Awp P n0 c env' H' Q):Awp P n0 c env H Q:=
 ⟨fun w0 ι0 M0 H0 a w hn hM hs=>h.out w0 ι0 M0 H0 a w hn hM (he.sim hn hM hs)⟩
theorem a6J {P:Program} {τ:Tab} (hτ:v6 P τ) {n0:Nat} {x y:Code} {env:Env} {H:Hp} {Q:AX->Env->Hp->Prop} (E2:Env) (H2:Hp)
 (h:a4d P τ n0 x env H fun a env' H'=>match a with
   |.normal=>∃ρ,Ent n0 ρ env' H' E2 H2
   |a=>Q a env' H') (h2:Awp P n0 y E2 H2 Q):Awp P n0 (.seq x y) env H Q:=by
 refine ⟨fun w0 ι0 M0 H0 a w hn hM hs=>?_⟩
 refine wp_seq (wp_mono ((m9 hτ x h).out w0 ι0 M0 H0 a w hn hM hs) ?_)
 rintro e a' w' ⟨x,env',H',rfl,hq,hs'⟩
 cases x with
 |normal=>obtain ⟨ρ,he⟩:=hq;exact h2.out w0 ι0 M0 H0 a' w' hn hM (he.sim hn hM hs')
 |exit id=>exact ⟨_,env',H',rfl,hq,hs'⟩
 |ret=>exact ⟨_,env',H',rfl,hq,hs'⟩
theorem b5s {P:Program} {n0:Nat} {c:Code} {env:Env} {H:Hp} {Q:AX->Env->Hp->Prop} (E:Nat->Env × Hp) (n:Nat) (I:Nat->Prop) (ρ0:List (Option Nat))
 (hI:I 0) (h0:Ent n0 ρ0 env H (E 0).1 (E 0).2)
 (round:∀k,k<=n->I k->Awp P n0 c (E k).1 (E k).2 fun a env' H'=>match a with
   |.normal=>k<n∧I (k+1)∧∃ρ,Ent n0 ρ env' H' (E (k+1)).1 (E (k+1)).2
   |a=>Q a env' H'):Awp P n0 (.loop c) env H Q:=by
 refine a7w (σ:={ k:Nat // k<=n∧I k }) (fun k=>E k.1) (fun k=>n - k.1) ⟨0,D5 _,hI⟩ ρ0 h0 ?_
 rintro ⟨k,hk,hi⟩
 refine (round k hk hi).mono ?_
 intro a env' H' h
 cases a with
 |normal=>
  obtain ⟨h1,h2,ρ,h3⟩:=h
  exact ⟨ρ,⟨k+1,h1,h2⟩,h3,by show n - (k+1)<n - k;omega⟩
 |exit id=>exact h
 |ret=>exact h
end
section
open Go.RowKit
def a4t (l:List Int):List Int:=l.mergeSort fun a b=>decide (a<=b)
def a5i (l:List Int):List (Int × Rat):=l.map fun v=>(v,((1:Int):Rat))
theorem b0N (l:List Int):(a4t l).Perm l:=List.mergeSort_perm l _
theorem a7D (l:List Int):(a4t l).length=l.length:=(b0N l).length_eq
end
section
set_option maxRecDepth 100000
def bk3:List (Option TD):=[none,some ⟨.bas,false,1,8,[.nilFunc]⟩,some ⟨.int .i64,false,1,8,[.int .i64 0]⟩,some ⟨.int .i64,false,1,8,[.int .i64 0]⟩,some ⟨.bool,false,1,1,[.bool false]⟩,some ⟨.int .u8,false,1,1,[.int .u8 0]⟩,some ⟨.int .u8,false,1,1,[.int .u8 0]⟩,some ⟨.struct [(0,1,false),(1,1,false),(2,1,false),(3,1,false)],true,4,24,[.int .i64 0,.int .i64 0,.bool false,.int .u8 0]⟩,some ⟨.struct [(0,1,false),(1,1,false),(2,1,false),(3,1,false)],true,4,24,[.int .i64 0,.int .i64 0,.bool false,.int .u8 0]⟩,none,none,none,some ⟨.int .u64,false,1,8,[.int .u64 0]⟩,none,none,some ⟨.bas,false,1,8,[.pointer none]⟩,some ⟨.bas,false,1,8,[.pointer none]⟩,some ⟨.bas,false,1,8,[.pointer none]⟩,some ⟨.struct [(0,1,false)],true,1,8,[.pointer none]⟩,some ⟨.struct [(0,1,false)],true,1,8,[.pointer none]⟩,none,some ⟨.int .i32,false,1,4,[.int .i32 0]⟩,some ⟨.slice 182,false,1,24,[.slice none 0 0]⟩,some ⟨.slice 113,false,1,24,[.slice none 0 0]⟩,some ⟨.slice 236,false,1,24,[.slice none 0 0]⟩,some ⟨.slice 277,false,1,24,[.slice none 0 0]⟩,some ⟨.slice 279,false,1,24,[.slice none 0 0]⟩,some ⟨.struct [(0,1,false),(1,1,false),(2,1,false),(3,1,false),(4,1,false),(5,1,false),(6,1,false),(7,1,false)],true,8,144,[.int .i64 0,.int .i64 0,.int .i64 0,.slice none 0 0,.slice none 0 0,.slice none 0 0,.slice none 0 0,.slice none 0 0]⟩,some ⟨.struct [(0,1,false),(1,1,false),(2,1,false),(3,1,false),(4,1,false),(5,1,false),(6,1,false),(7,1,false)],true,8,144,[.int .i64 0,.int .i64 0,.int .i64 0,.slice none 0 0,.slice none 0 0,.slice none 0 0,.slice none 0 0,.slice none 0 0]⟩,some ⟨.slice 169,false,1,24,[.slice none 0 0]⟩,some ⟨.slice 172,false,1,24,[.slice none 0 0]⟩,some ⟨.struct [(0,8,false),(8,1,false),(9,1,false)],true,10,192,[.int .i64 0,.int .i64 0,.int .i64 0,.slice none 0 0,.slice none 0 0,.slice none 0 0,.slice none 0 0,.slice none 0 0,.slice none 0 0,.slice none 0 0]⟩,some ⟨.struct [(0,8,false),(8,1,false),(9,1,false)],true,10,192,[.int .i64 0,.int .i64 0,.int .i64 0,.slice none 0 0,.slice none 0 0,.slice none 0 0,.slice none 0 0,.slice none 0 0,.slice none 0 0,.slice none 0 0]⟩,some ⟨.slice 83,false,1,24,[.slice none 0 0]⟩,some ⟨.struct [(0,1,false),(1,1,false),(2,1,false),(3,1,false),(4,1,false)],true,5,88,[.int .i64 0,.int .i64 0,.slice none 0 0,.slice none 0 0,.slice none 0 0]⟩,some ⟨.struct [(0,1,false),(1,1,false),(2,1,false),(3,1,false),(4,1,false)],true,5,88,[.int .i64 0,.int .i64 0,.slice none 0 0,.slice none 0 0,.slice none 0 0]⟩,some ⟨.bas,false,1,8,[.nilFunc]⟩,some ⟨.bas,false,1,8,[.nilFunc]⟩,some ⟨.bas,false,1,8,[.nilFunc]⟩,some ⟨.bas,false,1,8,[.nilFunc]⟩,some ⟨.int .i64,false,1,8,[.int .i64 0]⟩,some ⟨.bas,false,1,8,[.nilFunc]⟩,some ⟨.bas,false,1,8,[.nilFunc]⟩,some ⟨.slice 35,false,1,24,[.slice none 0 0]⟩,none,some ⟨.bas,false,1,8,[.nilFunc]⟩,some ⟨.bas,false,1,8,[.nilFunc]⟩,some ⟨.slice 124,false,1,24,[.slice none 0 0]⟩,some ⟨.struct [(0,1,false),(1,1,false)],true,2,32,[.int .i64 0,.slice none 0 0]⟩,some ⟨.struct [(0,1,false),(1,1,false)],true,2,32,[.int .i64 0,.slice none 0 0]⟩,some ⟨.slice 126,false,1,24,[.slice none 0 0]⟩,none,some ⟨.bas,false,1,8,[.nilFunc]⟩,some ⟨.slice 260,false,1,24,[.slice none 0 0]⟩,some ⟨.struct [(0,1,false),(1,1,false),(2,1,false),(3,1,false),(4,1,false),(5,1,false),(6,1,false)],true,7,72,[.int .i64 0,.int .i64 0,.int .i64 0,.int .i64 0,.int .i64 0,.int .i64 0,.slice none 0 0]⟩,some ⟨.struct [(0,1,false),(1,1,false),(2,1,false),(3,1,false),(4,1,false),(5,1,false),(6,1,false)],true,7,72,[.int .i64 0,.int .i64 0,.int .i64 0,.int .i64 0,.int .i64 0,.int .i64 0,.slice none 0 0]⟩,some ⟨.slice 55,false,1,24,[.slice none 0 0]⟩,some ⟨.struct [(0,2,false),(2,1,false),(3,1,false)],true,4,80,[.int .i64 0,.slice none 0 0,.slice none 0 0,.slice none 0 0]⟩,some ⟨.struct [(0,2,false),(2,1,false),(3,1,false)],true,4,80,[.int .i64 0,.slice none 0 0,.slice none 0 0,.slice none 0 0]⟩,some ⟨.slice 75,false,1,24,[.slice none 0 0]⟩,some ⟨.slice 3,false,1,24,[.slice none 0 0]⟩,some ⟨.slice 214,false,1,24,[.slice none 0 0]⟩,some ⟨.struct [(0,1,false),(1,1,false),(2,1,false),(3,1,false)],true,4,80,[.bool false,.slice none 0 0,.slice none 0 0,.slice none 0 0]⟩,some ⟨.struct [(0,1,false),(1,1,false),(2,1,false),(3,1,false)],true,4,80,[.bool false,.slice none 0 0,.slice none 0 0,.slice none 0 0]⟩,none,some ⟨.bas,false,1,8,[.nilFunc]⟩,some ⟨.slice 142,false,1,24,[.slice none 0 0]⟩,some ⟨.struct [(0,1,false)],true,1,24,[.slice none 0 0]⟩,some ⟨.struct [(0,1,false)],true,1,24,[.slice none 0 0]⟩,none,some ⟨.bas,false,1,8,[.nilFunc]⟩,some ⟨.struct [(0,1,false),(1,1,false),(2,1,false)],true,3,24,[.int .i64 0,.int .i64 0,.int .i64 0]⟩,some ⟨.struct [(0,1,false),(1,1,false),(2,1,false)],true,3,24,[.int .i64 0,.int .i64 0,.int .i64 0]⟩,some ⟨.slice 72,false,1,24,[.slice none 0 0]⟩,some ⟨.struct [(0,1,false),(1,1,false),(2,1,false),(3,1,false)],true,4,64,[.int .i64 0,.slice none 0 0,.slice none 0 0,.int .i64 0]⟩,some ⟨.struct [(0,1,false),(1,1,false),(2,1,false),(3,1,false)],true,4,64,[.int .i64 0,.slice none 0 0,.slice none 0 0,.int .i64 0]⟩,some ⟨.bas,false,1,8,[.nilFunc]⟩,some ⟨.bas,false,1,8,[.nilFunc]⟩,some ⟨.bas,false,1,8,[.nilFunc]⟩,some ⟨.bas,false,1,8,[.nilFunc]⟩,some ⟨.struct [(0,1,false),(1,1,false)],true,2,32,[.int .i64 0,.slice none 0 0]⟩,some ⟨.struct [(0,1,false),(1,1,false)],true,2,32,[.int .i64 0,.slice none 0 0]⟩,some ⟨.struct [(0,2,false),(2,2,false)],true,4,64,[.int .i64 0,.slice none 0 0,.int .i64 0,.slice none 0 0]⟩,some ⟨.struct [(0,2,false),(2,2,false)],true,4,64,[.int .i64 0,.slice none 0 0,.int .i64 0,.slice none 0 0]⟩,some ⟨.slice 94,false,1,24,[.slice none 0 0]⟩,some ⟨.struct [(0,1,false),(1,1,false)],true,2,32,[.int .i64 0,.slice none 0 0]⟩,some ⟨.struct [(0,1,false),(1,1,false)],true,2,32,[.int .i64 0,.slice none 0 0]⟩,none,some ⟨.bas,false,1,8,[.nilFunc]⟩,some ⟨.slice 154,false,1,24,[.slice none 0 0]⟩,some ⟨.bas,false,1,8,[.nilFunc]⟩,some ⟨.bas,false,1,8,[.nilFunc]⟩,some ⟨.bas,false,1,8,[.nilFunc]⟩,some ⟨.struct [(0,1,false),(1,1,false),(2,4,false)],true,6,96,[.slice none 0 0,.int .i64 0,.int .i64 0,.slice none 0 0,.int .i64 0,.slice none 0 0]⟩,some ⟨.struct [(0,1,false),(1,1,false),(2,4,false)],true,6,96,[.slice none 0 0,.int .i64 0,.int .i64 0,.slice none 0 0,.int .i64 0,.slice none 0 0]⟩,some ⟨.bas,false,1,8,[.nilFunc]⟩,some ⟨.bas,false,1,8,[.nilFunc]⟩,some ⟨.bas,false,1,8,[.nilFunc]⟩,some ⟨.bas,false,1,8,[.nilFunc]⟩,some ⟨.bas,false,1,8,[.nilFunc]⟩,some ⟨.bas,false,1,8,[.nilFunc]⟩,none,some ⟨.bas,false,1,8,[.nilFunc]⟩,some ⟨.bas,false,1,8,[.nilFunc]⟩,some ⟨.bas,false,1,8,[.nilFunc]⟩,some ⟨.bas,false,1,8,[.nilFunc]⟩,some ⟨.bas,false,1,8,[.nilFunc]⟩,some ⟨.bas,false,1,8,[.nilFunc]⟩,some ⟨.slice 111,false,1,24,[.slice none 0 0]⟩,some ⟨.bas,false,1,8,[.nilFunc]⟩,some ⟨.struct [(0,4,false),(4,1,false),(5,1,false),(6,1,false)],true,7,104,[.int .i64 0,.slice none 0 0,.int .i64 0,.slice none 0 0,.bool false,.slice none 0 0,.int .i64 0]⟩,some ⟨.struct [(0,4,false),(4,1,false),(5,1,false),(6,1,false)],true,7,104,[.int .i64 0,.slice none 0 0,.int .i64 0,.slice none 0 0,.bool false,.slice none 0 0,.int .i64 0]⟩,some ⟨.struct [(0,1,false),(1,1,false),(2,1,false),(3,1,false),(4,1,false),(5,1,false)],true,6,48,[.int .i64 0,.int .i64 0,.int .i64 0,.int .i64 0,.int .i64 0,.bool false]⟩,some ⟨.struct [(0,1,false),(1,1,false),(2,1,false),(3,1,false),(4,1,false),(5,1,false)],true,6,48,[.int .i64 0,.int .i64 0,.int .i64 0,.int .i64 0,.int .i64 0,.bool false]⟩,some ⟨.bas,false,1,8,[.nilFunc]⟩,some ⟨.bas,false,1,8,[.nilFunc]⟩,some ⟨.bas,false,1,8,[.nilFunc]⟩,none,some ⟨.bas,false,1,8,[.nilFunc]⟩,some ⟨.bas,false,1,8,[.nilFunc]⟩,none,some ⟨.bas,false,1,8,[.nilFunc]⟩,some ⟨.bas,false,1,8,[.nilFunc]⟩,some ⟨.struct [(0,1,false),(1,1,false),(2,1,false),(3,1,false)],true,4,32,[.int .i64 0,.int .i64 0,.int .i64 0,.int .i64 0]⟩,some ⟨.struct [(0,1,false),(1,1,false),(2,1,false),(3,1,false)],true,4,32,[.int .i64 0,.int .i64 0,.int .i64 0,.int .i64 0]⟩,some ⟨.struct [(0,1,false),(1,1,false),(2,1,false),(3,1,false),(4,1,false),(5,1,false)],true,6,64,[.int .i64 0,.int .i64 0,.int .i64 0,.int .i64 0,.int .i64 0,.slice none 0 0]⟩,some ⟨.struct [(0,1,false),(1,1,false),(2,1,false),(3,1,false),(4,1,false),(5,1,false)],true,6,64,[.int .i64 0,.int .i64 0,.int .i64 0,.int .i64 0,.int .i64 0,.slice none 0 0]⟩,none,some ⟨.bas,false,1,8,[.nilFunc]⟩,some ⟨.bas,false,1,8,[.nilFunc]⟩,some ⟨.bas,false,1,8,[.nilFunc]⟩,some ⟨.bas,false,1,8,[.nilFunc]⟩,some ⟨.bas,false,1,8,[.nilFunc]⟩,none,some ⟨.bas,false,1,8,[.nilFunc]⟩,none,some ⟨.bas,false,1,8,[.nilFunc]⟩,some ⟨.bas,false,1,8,[.nilFunc]⟩,some ⟨.bas,false,1,8,[.nilFunc]⟩,some ⟨.bas,false,1,8,[.nilFunc]⟩,some ⟨.bas,false,1,8,[.nilFunc]⟩,some ⟨.struct [(0,1,false),(1,1,false),(2,1,false),(3,1,false)],true,4,32,[.int .i64 0,.int .i64 0,.int .i64 0,.int .i64 0]⟩,some ⟨.struct [(0,1,false),(1,1,false),(2,1,false),(3,1,false)],true,4,32,[.int .i64 0,.int .i64 0,.int .i64 0,.int .i64 0]⟩,some ⟨.struct [(0,1,false)],true,1,24,[.slice none 0 0]⟩,some ⟨.struct [(0,1,false)],true,1,24,[.slice none 0 0]⟩,some ⟨.bas,false,1,8,[.nilFunc]⟩,some ⟨.bas,false,1,8,[.nilFunc]⟩,some ⟨.bas,false,1,8,[.nilFunc]⟩,some ⟨.bas,false,1,8,[.nilFunc]⟩,some ⟨.bas,false,1,8,[.nilFunc]⟩,some ⟨.bas,false,1,8,[.nilFunc]⟩,some ⟨.slice 4,false,1,24,[.slice none 0 0]⟩,some ⟨.bas,false,1,8,[.nilFunc]⟩,some ⟨.struct [(0,1,false),(1,4,false)],true,5,72,[.int .i64 0,.int .i64 0,.slice none 0 0,.int .i64 0,.slice none 0 0]⟩,some ⟨.struct [(0,1,false),(1,4,false)],true,5,72,[.int .i64 0,.int .i64 0,.slice none 0 0,.int .i64 0,.slice none 0 0]⟩,some ⟨.bas,false,1,8,[.nilFunc]⟩,some ⟨.bas,false,1,8,[.nilFunc]⟩,some ⟨.bas,false,1,8,[.nilFunc]⟩,some ⟨.bas,false,1,8,[.nilFunc]⟩,some ⟨.bas,false,1,8,[.nilFunc]⟩,some ⟨.bas,false,1,8,[.nilFunc]⟩,some ⟨.bas,false,1,8,[.nilFunc]⟩,some ⟨.bas,false,1,8,[.nilFunc]⟩,none,some ⟨.bas,false,1,8,[.nilFunc]⟩,some ⟨.bas,false,1,8,[.nilFunc]⟩,some ⟨.bas,false,1,8,[.nilFunc]⟩,some ⟨.bas,false,1,8,[.nilFunc]⟩,some ⟨.struct [(0,1,false),(1,1,false),(2,1,false)],true,3,24,[.int .i64 0,.int .i64 0,.int .i64 0]⟩,some ⟨.struct [(0,1,false),(1,1,false),(2,1,false)],true,3,24,[.int .i64 0,.int .i64 0,.int .i64 0]⟩,some ⟨.bas,false,1,8,[.nilFunc]⟩,some ⟨.struct [(0,1,false),(1,1,false)],true,2,16,[.int .i64 0,.int .i64 0]⟩,some ⟨.struct [(0,1,false),(1,1,false)],true,2,16,[.int .i64 0,.int .i64 0]⟩,some ⟨.bas,false,1,8,[.nilFunc]⟩,none,some ⟨.bas,false,1,8,[.nilFunc]⟩,some ⟨.bas,false,1,8,[.nilFunc]⟩,none,some ⟨.bas,false,1,8,[.nilFunc]⟩,some ⟨.bas,false,1,8,[.nilFunc]⟩,some ⟨.bas,false,1,8,[.nilFunc]⟩,some ⟨.struct [(0,1,false),(1,1,false),(2,1,false)],true,3,24,[.int .i64 0,.int .i64 0,.int .i64 0]⟩,some ⟨.struct [(0,1,false),(1,1,false),(2,1,false)],true,3,24,[.int .i64 0,.int .i64 0,.int .i64 0]⟩,some ⟨.bas,false,1,8,[.nilFunc]⟩,some ⟨.bas,false,1,8,[.nilFunc]⟩,some ⟨.bas,false,1,8,[.nilFunc]⟩,some ⟨.bas,false,1,8,[.nilFunc]⟩,some ⟨.bas,false,1,8,[.nilFunc]⟩,some ⟨.struct [(0,1,false),(1,4,false),(5,1,false),(6,1,false),(7,1,false)],true,8,144,[.int .i64 0,.int .i64 0,.slice none 0 0,.int .i64 0,.slice none 0 0,.slice none 0 0,.slice none 0 0,.slice none 0 0]⟩,some ⟨.struct [(0,1,false),(1,4,false),(5,1,false),(6,1,false),(7,1,false)],true,8,144,[.int .i64 0,.int .i64 0,.slice none 0 0,.int .i64 0,.slice none 0 0,.slice none 0 0,.slice none 0 0,.slice none 0 0]⟩,none,some ⟨.bas,false,1,8,[.nilFunc]⟩,some ⟨.bas,false,1,8,[.nilFunc]⟩,some ⟨.bas,false,1,8,[.nilFunc]⟩,some ⟨.bas,false,1,8,[.pointer none]⟩,some ⟨.bas,false,1,8,[.nilFunc]⟩,some ⟨.bas,false,1,8,[.nilFunc]⟩,some ⟨.slice 60,false,1,24,[.slice none 0 0]⟩,some ⟨.bas,false,1,8,[.map none]⟩,some ⟨.struct [(0,2,false),(2,1,false),(3,1,false),(4,1,false),(5,1,false)],true,6,112,[.int .i64 0,.slice none 0 0,.slice none 0 0,.slice none 0 0,.slice none 0 0,.map none]⟩,some ⟨.struct [(0,2,false),(2,1,false),(3,1,false),(4,1,false),(5,1,false)],true,6,112,[.int .i64 0,.slice none 0 0,.slice none 0 0,.slice none 0 0,.slice none 0 0,.map none]⟩,some ⟨.bas,false,1,8,[.pointer none]⟩,some ⟨.bas,false,1,8,[.nilFunc]⟩,some ⟨.bas,false,1,8,[.nilFunc]⟩,some ⟨.bas,false,1,8,[.nilFunc]⟩,some ⟨.bas,false,1,8,[.nilFunc]⟩,some ⟨.bas,false,1,8,[.nilFunc]⟩,some ⟨.bas,false,1,8,[.nilFunc]⟩,some ⟨.bas,false,1,8,[.nilFunc]⟩,some ⟨.bas,false,1,8,[.nilFunc]⟩,some ⟨.bas,false,1,8,[.nilFunc]⟩,some ⟨.slice 269,false,1,24,[.slice none 0 0]⟩,some ⟨.bas,false,1,8,[.nilFunc]⟩,some ⟨.struct [(0,1,false),(1,1,false),(2,1,false)],true,3,56,[.int .i64 0,.slice none 0 0,.slice none 0 0]⟩,some ⟨.struct [(0,1,false),(1,1,false),(2,1,false)],true,3,56,[.int .i64 0,.slice none 0 0,.slice none 0 0]⟩,some ⟨.bas,false,1,8,[.nilFunc]⟩,some ⟨.bas,false,1,8,[.pointer none]⟩,some ⟨.bas,false,1,8,[.nilFunc]⟩,some ⟨.bas,false,1,8,[.nilFunc]⟩,some ⟨.bas,false,1,8,[.nilFunc]⟩,some ⟨.bas,false,1,8,[.nilFunc]⟩,some ⟨.bas,false,1,8,[.nilFunc]⟩,some ⟨.bas,false,1,8,[.nilFunc]⟩,some ⟨.bas,false,1,8,[.nilFunc]⟩,some ⟨.bas,false,1,8,[.nilFunc]⟩,none,some ⟨.bas,false,1,8,[.nilFunc]⟩,some ⟨.bas,false,1,8,[.nilFunc]⟩,none,some ⟨.bas,false,1,8,[.nilFunc]⟩,some ⟨.int .u64,false,1,8,[.int .u64 0]⟩,some ⟨.int .u64,false,1,8,[.int .u64 0]⟩,some ⟨.bas,false,1,8,[.nilFunc]⟩,some ⟨.bas,false,1,8,[.nilFunc]⟩,some ⟨.bas,false,1,8,[.nilFunc]⟩,some ⟨.struct [(0,1,false),(1,1,false),(2,1,false),(3,1,false),(4,1,false),(5,1,false)],true,6,48,[.int .i64 0,.int .i64 0,.int .i64 0,.int .i64 0,.int .i64 0,.int .i64 0]⟩,some ⟨.struct [(0,1,false),(1,1,false),(2,1,false),(3,1,false),(4,1,false),(5,1,false)],true,6,48,[.int .i64 0,.int .i64 0,.int .i64 0,.int .i64 0,.int .i64 0,.int .i64 0]⟩,some ⟨.bas,false,1,8,[.nilFunc]⟩,some ⟨.bas,false,1,8,[.nilFunc]⟩,some ⟨.bas,false,1,8,[.nilFunc]⟩,some ⟨.bas,false,1,8,[.nilFunc]⟩,none,some ⟨.bas,false,1,8,[.nilFunc]⟩,some ⟨.bas,false,1,8,[.pointer none]⟩,some ⟨.bas,false,1,8,[.nilFunc]⟩,none,some ⟨.bas,false,1,8,[.nilFunc]⟩,some ⟨.bas,false,1,8,[.nilFunc]⟩,some ⟨.bas,false,1,8,[.nilFunc]⟩,some ⟨.bas,false,1,8,[.nilFunc]⟩,some ⟨.bas,false,1,8,[.nilFunc]⟩,some ⟨.bas,false,1,8,[.nilFunc]⟩,some ⟨.bas,false,1,8,[.nilFunc]⟩,some ⟨.arr 2 3,true,2,16,[.int .i64 0,.int .i64 0]⟩,none,none,some ⟨.bas,false,1,8,[.nilFunc]⟩,some ⟨.bas,false,1,8,[.nilFunc]⟩,some ⟨.bas,false,1,8,[.nilFunc]⟩,some ⟨.struct [(0,1,false),(1,1,false)],true,2,16,[.int .i64 0,.int .i64 0]⟩,some ⟨.struct [(0,1,false),(1,1,false)],true,2,16,[.int .i64 0,.int .i64 0]⟩,some ⟨.bas,false,1,8,[.nilFunc]⟩,some ⟨.bas,false,1,8,[.nilFunc]⟩,some ⟨.bas,false,1,8,[.nilFunc]⟩,some ⟨.bas,false,1,8,[.pointer none]⟩,none,some ⟨.bas,false,1,8,[.nilFunc]⟩,some ⟨.bas,false,1,8,[.nilFunc]⟩,some ⟨.struct [(0,1,false),(1,1,false),(2,1,false)],true,3,24,[.int .i64 0,.int .i64 0,.int .i64 0]⟩,some ⟨.struct [(0,1,false),(1,1,false),(2,1,false)],true,3,24,[.int .i64 0,.int .i64 0,.int .i64 0]⟩,some ⟨.bas,false,1,8,[.nilFunc]⟩,some ⟨.bas,false,1,8,[.nilFunc]⟩,some ⟨.bas,false,1,8,[.nilFunc]⟩,some ⟨.bas,false,1,8,[.nilFunc]⟩,some ⟨.slice 253,false,1,24,[.slice none 0 0]⟩,some ⟨.bas,false,1,8,[.nilFunc]⟩,some ⟨.struct [(0,1,false),(1,1,false)],true,2,16,[.int .i64 0,.int .i64 0]⟩,some ⟨.struct [(0,1,false),(1,1,false)],true,2,16,[.int .i64 0,.int .i64 0]⟩,some ⟨.struct [(0,1,false),(1,1,false),(2,1,false),(3,1,false)],true,4,32,[.int .i64 0,.int .i64 0,.int .i64 0,.int .i64 0]⟩,some ⟨.struct [(0,1,false),(1,1,false),(2,1,false),(3,1,false)],true,4,32,[.int .i64 0,.int .i64 0,.int .i64 0,.int .i64 0]⟩,none,some ⟨.bas,false,1,8,[.nilFunc]⟩,some ⟨.bas,false,1,8,[.nilFunc]⟩,some ⟨.bas,false,1,8,[.nilFunc]⟩,some ⟨.bas,false,1,8,[.nilFunc]⟩,some ⟨.bas,false,1,8,[.nilFunc]⟩,some ⟨.bas,false,1,8,[.nilFunc]⟩,some ⟨.bas,false,1,8,[.nilFunc]⟩,some ⟨.slice 296,false,1,24,[.slice none 0 0]⟩,some ⟨.slice 324,false,1,24,[.slice none 0 0]⟩,some ⟨.struct [(0,1,false),(1,1,false),(2,1,false),(3,1,false),(4,1,false),(5,1,false)],true,6,128,[.int .i64 0,.slice none 0 0,.slice none 0 0,.slice none 0 0,.slice none 0 0,.slice none 0 0]⟩,some ⟨.struct [(0,1,false),(1,1,false),(2,1,false),(3,1,false),(4,1,false),(5,1,false)],true,6,128,[.int .i64 0,.slice none 0 0,.slice none 0 0,.slice none 0 0,.slice none 0 0,.slice none 0 0]⟩,some ⟨.bas,false,1,8,[.nilFunc]⟩,some ⟨.bas,false,1,8,[.nilFunc]⟩,some ⟨.bas,false,1,8,[.nilFunc]⟩,some ⟨.struct [(0,4,false),(4,1,false)],true,5,88,[.int .i64 0,.slice none 0 0,.int .i64 0,.slice none 0 0,.slice none 0 0]⟩,some ⟨.struct [(0,4,false),(4,1,false)],true,5,88,[.int .i64 0,.slice none 0 0,.int .i64 0,.slice none 0 0,.slice none 0 0]⟩,some ⟨.bas,false,1,8,[.nilFunc]⟩,some ⟨.bas,false,1,8,[.nilFunc]⟩,some ⟨.bas,false,1,8,[.nilFunc]⟩,some ⟨.struct [(0,1,false),(1,1,false),(2,1,false),(3,1,false),(4,1,false)],true,5,72,[.int .i64 0,.int .i64 0,.int .i64 0,.slice none 0 0,.slice none 0 0]⟩,some ⟨.struct [(0,1,false),(1,1,false),(2,1,false),(3,1,false),(4,1,false)],true,5,72,[.int .i64 0,.int .i64 0,.int .i64 0,.slice none 0 0,.slice none 0 0]⟩,some ⟨.bas,false,1,8,[.pointer none]⟩,some ⟨.bas,false,1,8,[.nilFunc]⟩,some ⟨.bas,false,1,8,[.nilFunc]⟩,some ⟨.bas,false,1,8,[.map none]⟩,some ⟨.struct [(0,2,false),(2,6,false),(8,1,false),(9,1,false),(10,1,false)],true,11,152,[.int .i64 0,.slice none 0 0,.int .i64 0,.int .i64 0,.int .i64 0,.int .i64 0,.int .i64 0,.slice none 0 0,.slice none 0 0,.slice none 0 0,.map none]⟩,some ⟨.struct [(0,2,false),(2,6,false),(8,1,false),(9,1,false),(10,1,false)],true,11,152,[.int .i64 0,.slice none 0 0,.int .i64 0,.int .i64 0,.int .i64 0,.int .i64 0,.int .i64 0,.slice none 0 0,.slice none 0 0,.slice none 0 0,.map none]⟩,some ⟨.bas,false,1,8,[.nilFunc]⟩,some ⟨.bas,false,1,8,[.nilFunc]⟩,some ⟨.bas,false,1,8,[.nilFunc]⟩,some ⟨.int .i64,false,1,8,[.int .i64 0]⟩,none,some ⟨.bas,false,1,8,[.nilFunc]⟩,some ⟨.bas,false,1,8,[.nilFunc]⟩,some ⟨.bas,false,1,8,[.nilFunc]⟩,some ⟨.bas,false,1,8,[.nilFunc]⟩,some ⟨.bas,false,1,8,[.nilFunc]⟩,some ⟨.int .u32,false,1,4,[.int .u32 0]⟩,some ⟨.bas,false,1,8,[.nilFunc]⟩,some ⟨.bas,false,1,8,[.nilFunc]⟩,some ⟨.bas,false,1,8,[.nilFunc]⟩,some ⟨.bas,false,1,8,[.nilFunc]⟩,some ⟨.struct [(0,1,false),(1,1,false)],true,2,16,[.int .i64 0,.bool false]⟩,some ⟨.struct [(0,1,false),(1,1,false)],true,2,16,[.int .i64 0,.bool false]⟩,some ⟨.bas,false,1,8,[.pointer none]⟩,some ⟨.bas,false,1,8,[.nilFunc]⟩,some ⟨.bas,false,1,8,[.nilFunc]⟩,some ⟨.bas,false,1,8,[.nilFunc]⟩,some ⟨.bas,false,1,8,[.nilFunc]⟩,some ⟨.bas,false,1,8,[.nilFunc]⟩,none,some ⟨.bas,false,1,8,[.nilFunc]⟩,some ⟨.int .u64,false,1,8,[.int .u64 0]⟩,some ⟨.bas,false,1,8,[.nilFunc]⟩,some ⟨.bas,false,1,8,[.nilFunc]⟩,some ⟨.bas,false,1,8,[.nilFunc]⟩,some ⟨.bas,false,1,8,[.pointer none]⟩,some ⟨.bas,false,1,8,[.nilFunc]⟩,some ⟨.bas,false,1,8,[.nilFunc]⟩,some ⟨.struct [(0,1,false),(1,1,false)],true,2,16,[.int .i64 0,.int .i64 0]⟩,some ⟨.struct [(0,1,false),(1,1,false)],true,2,16,[.int .i64 0,.int .i64 0]⟩,some ⟨.bas,false,1,8,[.nilFunc]⟩,some ⟨.bas,false,1,8,[.nilFunc]⟩,some ⟨.bas,false,1,8,[.nilFunc]⟩,none,some ⟨.bas,false,1,8,[.nilFunc]⟩,none,some ⟨.bas,false,1,8,[.nilFunc]⟩,some ⟨.bas,false,1,8,[.pointer none]⟩,some ⟨.bas,false,1,8,[.nilFunc]⟩,some ⟨.bas,false,1,8,[.nilFunc]⟩,some ⟨.bas,false,1,8,[.nilFunc]⟩,some ⟨.bas,false,1,8,[.map none]⟩,some ⟨.slice 356,false,1,24,[.slice none 0 0]⟩,some ⟨.bas,false,1,8,[.nilFunc]⟩,some ⟨.slice 358,false,1,24,[.slice none 0 0]⟩,some ⟨.struct [(0,1,false),(1,1,false)],true,2,16,[.int .i64 0,.int .i64 0]⟩,some ⟨.struct [(0,1,false),(1,1,false)],true,2,16,[.int .i64 0,.int .i64 0]⟩,some ⟨.bas,false,1,8,[.pointer none]⟩,some ⟨.slice 358,false,1,24,[.slice none 0 0]⟩,some ⟨.bas,false,1,8,[.nilFunc]⟩,none,some ⟨.bas,false,1,8,[.nilFunc]⟩,some ⟨.bas,false,1,8,[.nilFunc]⟩,none,none,some ⟨.bas,false,1,8,[.nilFunc]⟩,some ⟨.bas,false,1,8,[.nilFunc]⟩,some ⟨.bas,false,1,8,[.nilFunc]⟩,some ⟨.bas,false,1,8,[.nilFunc]⟩,some ⟨.bas,false,1,8,[.nilFunc]⟩,none,none,some ⟨.arr 0 16,true,0,0,[]⟩,some ⟨.struct [(0,0,false)],true,0,0,[]⟩,some ⟨.struct [(0,0,false)],true,0,0,[]⟩,some ⟨.int .u8,false,1,1,[.int .u8 0]⟩,some ⟨.int .u8,false,1,1,[.int .u8 0]⟩,some ⟨.bas,false,1,8,[.nilFunc]⟩,some ⟨.bas,false,1,8,[.pointer none]⟩,some ⟨.int .i32,false,1,4,[.int .i32 0]⟩,some ⟨.int .i32,false,1,4,[.int .i32 0]⟩,some ⟨.struct [(0,1,false),(1,1,false),(2,1,false),(3,1,false),(4,1,false),(5,1,false),(6,1,false),(7,1,false),(8,1,false),(9,1,false),(10,1,false)],true,11,48,[.int .u64 0,.int .u64 0,.int .u32 0,.int .u8 0,.int .u8 0,.int .u8 0,.int .u8 0,.nilFunc,.pointer none,.int .i32 0,.int .i32 0]⟩,some ⟨.struct [(0,1,false),(1,1,false),(2,1,false),(3,1,false),(4,1,false),(5,1,false),(6,1,false),(7,1,false),(8,1,false),(9,1,false),(10,1,false)],true,11,48,[.int .u64 0,.int .u64 0,.int .u32 0,.int .u8 0,.int .u8 0,.int .u8 0,.int .u8 0,.nilFunc,.pointer none,.int .i32 0,.int .i32 0]⟩,none]
def tab:Tab:=fun t=>bk3.getD t none
theorem tq {P:Program} {t:TypeId} {d:TD} (h1:b9P P t=some d.k:=by kernel_rfl) (h2:d.agg=bh9 d.k:=by rfl) (h3:(P.info? t).map (fun i=>(i.zero.map (·.cells.toList),i.size,i.bytes))=some (some d.zero,d.size,d.bytes):=by kernel_rfl) (h4:d.zero.all (·.oneCell')=true:=by rfl) (h5:d.zero.length=d.size:=by rfl):az1 P t d:=bh2 h1 h2 h3 h4 h5
theorem c9:v6 Tryz.prog tab:=b74 (l:=bk3) (by kernel_rfl) ⟨tq,tq,tq,tq,tq,tq,tq,tq,tq,tq,tq,tq,tq,tq,tq,tq,tq,tq,tq,tq,tq,tq,tq,tq,tq,tq,tq,tq,tq,tq,tq,tq,tq,tq,tq,tq,tq,tq,tq,tq,tq,tq,tq,tq,tq,tq,tq,tq,tq,tq,tq,tq,tq,tq,tq,tq,tq,tq,tq,tq,tq,tq,tq,tq,tq,tq,tq,tq,tq,tq,tq,tq,tq,tq,tq,tq,tq,tq,tq,tq,tq,tq,tq,tq,tq,tq,tq,tq,tq,tq,tq,tq,tq,tq,tq,tq,tq,tq,tq,tq,tq,tq,tq,tq,tq,tq,tq,tq,tq,tq,tq,tq,tq,tq,tq,tq,tq,tq,tq,tq,tq,tq,tq,tq,tq,tq,tq,tq,tq,tq,tq,tq,tq,tq,tq,tq,tq,tq,tq,tq,tq,tq,tq,tq,tq,tq,tq,tq,tq,tq,tq,tq,tq,tq,tq,tq,tq,tq,tq,tq,tq,tq,tq,tq,tq,tq,tq,tq,tq,tq,tq,tq,tq,tq,tq,tq,tq,tq,tq,tq,tq,tq,tq,tq,tq,tq,tq,tq,tq,tq,tq,tq,tq,tq,tq,tq,tq,tq,tq,tq,tq,tq,tq,tq,tq,tq,tq,tq,tq,tq,tq,tq,tq,tq,tq,tq,tq,tq,tq,tq,tq,tq,tq,tq,tq,tq,tq,tq,tq,tq,tq,tq,tq,tq,tq,tq,tq,tq,tq,tq,tq,tq,tq,tq,tq,tq,tq,tq,tq,tq,tq,tq,tq,tq,tq,tq,tq,tq,tq,tq,tq,tq,tq,tq,tq,tq,tq,tq,tq,tq,tq,tq,tq,tq,tq,tq,tq,tq,tq,tq,tq,tq,tq,tq,tq,tq,tq,tq,tq,tq,tq,tq,tq,tq,tq,tq,tq,tq,tq,tq,tq,tq,tq,tq,tq,tq,tq,tq,tq,tq,tq,tq,tq,tq,tq,tq,tq,tq,tq,tq,tq,tq,tq,tq,tq,tq,tq,tq,tq,tq,tq,tq,tq,tq,tq,tq,tq,tq,tq,tq,tq,tq,tq,tq,tq,tq,trivial⟩
end
section
open Go.RowKit
structure Place where
 kind:Int
 hh:Int
 mat:Int
structure t7 where
 day:Int
 src:Int
 dst:Int
 scale:Int
 reading:Int
 all:Bool
structure L9 where
 scale:Int
 since:Int
 till:Int
 grams:Int
 permille:Int
 drift:Int
structure F0 where
 scale:Int
 since:Int
structure a1Z where
 move:Int
 mat:Int
 least:Int
 most:Int
structure Ev where
 mats:Int
 hhs:Int
 scs:Int
 places:List Place
 moves:List t7
 certs:List L9
 recalls:List F0
 purities:List a1Z
section
variable {α:Type} {k:Nat} {f:α->List Value} {w w':World} {A:Option Addr} {n:Nat} {xs:List α}
end
section
variable {w w':World} {m h s:Int} {A1 A2 A3 A4 A5:Option Addr} {n1 n2 n3 n4 n5:Nat} {e:Ev}
end
end
section
def idx (a b:Int):Bool:=decide (0<=a) && decide (a<b)
def btw (n lo hi:Int):Bool:=decide (lo<=n) && decide (n<=hi)
theorem b7W (a b:Int):btw a 0 (b - 1)=idx a b:=by
 unfold btw idx
 have:decide (a<=b - 1)=decide (a<b):=by simp;omega
 rw [this]
theorem az4 {a b:Int}:idx a b=true↔0<=a∧a<b:=by simp [idx]
theorem a2X {a b c:Int}:btw a b c=true↔b<=a∧a<=c:=by simp [btw]
def al4 (e:Ev):Bool:=
 decide (6<e.mats) || decide (100<e.hhs) || decide (30<e.scs) || decide (100<e.places.length) || decide (200<e.moves.length) ||
  decide (100<e.certs.length) || decide (30<e.recalls.length) || decide (200<e.purities.length)
def a1u (e:Ev) (p:Place):Bool:=
 idx p.kind 7 && (if p.kind=0 then idx p.hh e.hhs && idx p.mat e.mats else decide (p.hh=-1) && decide (p.mat=-1))
def A7 (e:Ev) (i:Int):Int:=((e.places[i.toNat]?).map (·.kind)).getD (-1)
def T7 (e:Ev) (m:t7):Bool:=
 idx m.src e.places.length && idx m.dst e.places.length && decide (m.src≠m.dst) && decide (A7 e m.src≠5) && decide (A7 e m.src≠6) &&
  !(decide (A7 e m.src=0) && m.all) && decide (A7 e m.dst≠0) && (if m.scale=-1 then decide (m.reading=0) else idx m.scale e.scs && btw m.reading 0 1099511627776)
def ab2 (e:Ev) (c:L9):Bool:=
 decide (0<=c.since) && decide (c.since<=c.till) && decide (c.till<=100000) && idx c.scale e.scs && btw c.grams 0 1099511627776 && btw c.permille 0 1000 && btw c.drift 0 10000000
def a45 (e:Ev) (r:F0):Bool:=idx r.scale e.scs && btw r.since 0 100000
def a3R (e:Ev) (p:a1Z):Bool:=
 idx p.move e.moves.length && idx p.mat e.mats && decide (0<=p.least) && decide (p.least<=p.most) && decide (p.most<=1000)
def a2W (e:Ev):Bool:=e.certs.all (ab2 e) && e.recalls.all (a45 e) && e.purities.all (a3R e)
def F5 (e:Ev):Int->List t7->Int
 |_,[]=>0
 |last,m::r=>if m.day<last∨100000<m.day then 17 else if T7 e m then F5 e m.day r else 1
def J4 (e:Ev):Int:=
 if al4 e then 6 else if e.mats<1∨e.hhs<0∨e.scs<0∨e.places.all (a1u e)=false then 1
 else if F5 e 0 e.moves≠0 then F5 e 0 e.moves else if a2W e then 0 else 1
theorem b4g {e:Ev} {i:Nat} {p:Place} (h:e.places[i]? =some p):A7 e (i:Int)=p.kind:=by
 simp [A7,h]
theorem an7 {e:Ev} {l:List t7}:∀{last:Int},F5 e last l=0->∀m ∈ l,T7 e m=true:=by
 induction l with
 |nil=>intro last _ m hm;cases hm
 |cons m r ih=>
  intro last h x hx
  unfold F5 at h
  split at h
  ·simp at h
  ·split at h
   ·rename_i hmk
    rcases lbB.1 hx with rfl|hx
    ·exact hmk
    ·exact ih h x hx
   ·simp at h
theorem a5X {e:Ev} (h:J4 e=0):al4 e=false∧1<=e.mats∧0<=e.hhs∧0<=e.scs∧e.places.all (a1u e)=true∧F5 e 0 e.moves=0∧a2W e=true:=by
 unfold J4 at h
 by_cases h1:al4 e=true
 ·rw [if_pos h1] at h;simp at h
 rw [if_neg h1] at h
 by_cases h2:e.mats<1∨e.hhs<0∨e.scs<0∨e.places.all (a1u e)=false
 ·rw [if_pos h2] at h;simp at h
 rw [if_neg h2] at h
 by_cases h3:F5 e 0 e.moves≠0
 ·rw [if_pos h3] at h;exact absurd h h3
 rw [if_neg h3] at h
 by_cases h4:a2W e=true
 ·refine ⟨by simpa using h1,by omega,by omega,by omega,?_,by simpa using h3,h4⟩
  rw [← Bool.not_eq_false]
  exact fun hq=>h2 (.inr (.inr (.inr hq)))
 ·rw [if_neg h4] at h;simp at h
theorem Y3 {e:Ev} (h:J4 e=0) {m:t7} (hm:m ∈ e.moves):T7 e m=true:=an7 (a5X h).2.2.2.2.2.1 m hm
theorem a2I {e:Ev} {m:t7} (h:T7 e m=true):0<=m.src∧m.src<e.places.length:=by
 simp [T7] at h
 exact az4.1 h.1.1.1.1.1.1.1
theorem b0K {e:Ev} {m:t7} (h:T7 e m=true):0<=m.dst∧m.dst<e.places.length:=by
 simp [T7] at h
 exact az4.1 h.1.1.1.1.1.1.2
def o5 {α:Type} (p:Nat->α->Bool):Nat->List α->List Int
 |_,[]=>[]
 |k,m::r=>if p k m then (k:Int)::o5 p (k+1) r else o5 p (k+1) r
def T4 {α:Type} (p:Nat->α->Bool) (l:List α) (k:Nat):List Int:=o5 p 0 (l.take k)
theorem a95 {α:Type} (p:Nat->α->Bool) (a b:List α):∀k,o5 p k (a++b)=o5 p k a++o5 p (k+a.length) b:=by
 induction a with
 |nil=>intro k;simp [o5]
 |cons m r ih=>
  intro k
  simp only [ag2,o5,ih,lbu]
  rw [show k+1+r.length=k+(r.length+1) from by omega]
  split<;>simp
theorem a8z {α:Type} (p:Nat->α->Bool) {l:List α} {k:Nat} {x:α} (h:l[k]? =some x):T4 p l (k+1)=T4 p l k++(if p k x then [(k:Int)] else []):=by
 obtain ⟨hk,hx⟩:=lbe.1 h
 unfold T4
 rw [aG5 hk,a95,hx]
 have:(l.take k).length=k:=by simp;omega
 rw [this]
 simp only [o5,y3]
theorem ah4 {α:Type} (p:Nat->α->Bool) {l:List α} {k:Nat} {x:α} (h:l[k]? =some x) (hp:p k x=true):T4 p l (k+1)=T4 p l k++[(k:Int)]:=by
 rw [a8z p h,if_pos hp]
theorem av1 {α:Type} (p:Nat->α->Bool) {l:List α} {k:Nat} {x:α} (h:l[k]? =some x) (hp:p k x=false):T4 p l (k+1)=T4 p l k:=by
 rw [a8z p h,if_neg (by simp [hp])];simp
theorem b0g {α:Type} (p:Nat->α->Bool) {l:List α} {k:Nat} (h:l.length<=k):T4 p l k=o5 p 0 l:=by
 unfold T4;rw [lbn h]
theorem ab0 {α:Type} {p q:Nat->α->Bool} (l:List α) (N:Nat) (h:∀k m,k<N->p k m=q k m):∀k,k+l.length<=N->o5 p k l=o5 q k l:=by
 induction l with
 |nil=>intro k _;rfl
 |cons m r ih=>
  intro k hk
  simp only [lbu] at hk
  simp only [o5,h k m (by omega),ih (k+1) (by omega)]
theorem a9a {α:Type} (p:Nat->α->Bool) (l:List α):∀k,(o5 p k l).length<=l.length:=by
 induction l with
 |nil=>intro k;simp [o5]
 |cons m r ih=>
  intro k
  have:=ih (k+1)
  simp only [o5]
  split<;>simp<;>omega
theorem al8 {α:Type} (p:Nat->α->Bool) (l:List α) (k:Nat):(T4 p l k).length<=k:=by
 have:=a9a p (l.take k) 0
 have h2:(l.take k).length<=k:=List.length_take_le _ _
 unfold T4
 omega
def ai6 (e:Ev) (hh mat lo hi:Int) (m:t7):Bool:=
 match e.places[m.src.toNat]? with
 |some p=>decide (p.kind=0) && decide (p.hh=hh) && (decide (mat=-1) || decide (p.mat=mat)) && btw m.day lo hi
 |none=>false
def E6 (e:Ev) (hh mat lo hi:Int):List Int:=if J4 e=0 then o5 (fun _ m=>ai6 e hh mat lo hi m) 0 e.moves else []
end
section
structure Ev.Sized (e:Ev):Prop where
 s1:e.places.length<=1000000
 s2:e.moves.length<=1000000
 s3:e.certs.length<=1000000
 s4:e.recalls.length<=1000000
 s5:e.purities.length<=1000000
end
section
open Go.RowKit
abbrev ti (n:Int):T:=.atm (.int .i64 n)
abbrev tb (b:Bool):T:=.atm (.bool b)
def Place.row (p:Place):List T:=[ti p.kind,ti p.hh,ti p.mat]
def t7.row (m:t7):List T:=[ti m.day,ti m.src,ti m.dst,ti m.scale,ti m.reading,tb m.all]
def L9.row (c:L9):List T:=[ti c.scale,ti c.since,ti c.till,ti c.grams,ti c.permille,ti c.drift]
def F0.row (r:F0):List T:=[ti r.scale,ti r.since]
def a1Z.row (p:a1Z):List T:=[ti p.move,ti p.mat,ti p.least,ti p.most]
def i5 (n:Int):List T:=[ti n]
abbrev a5d (l:List Place):T:=.sl 3 .any (l.map Place.row)
abbrev a2Z (l:List t7):T:=.sl 6 .any (l.map t7.row)
abbrev a1R (l:List L9):T:=.sl 6 .any (l.map L9.row)
abbrev P5 (l:List F0):T:=.sl 2 .any (l.map F0.row)
abbrev a0G (l:List a1Z):T:=.sl 4 .any (l.map a1Z.row)
abbrev I3 (l:List Int):T:=.sl 1 .any (l.map i5)
def evC (e:Ev):List C:=[.t (ti e.mats),.t (ti e.hhs),.t (ti e.scs),.t (a5d e.places),.t (a2Z e.moves),.t (a1R e.certs),.t (P5 e.recalls),.t (a0G e.purities)]
def evT (e:Ev):List T:=[ti e.mats,ti e.hhs,ti e.scs,a5d e.places,a2Z e.moves,a1R e.certs,P5 e.recalls,a0G e.purities]
abbrev evS (e:Ev):S:=.agg (evC e)
abbrev j1 (l:List Int):S:=.c (.t (I3 l))
def Place.cs (p:Place):List C:=p.row.map .t
def t7.cs (m:t7):List C:=m.row.map .t
abbrev b2R (m:t7):S:=.agg m.cs
abbrev evB (e:Ev):Blk:=I8 28 8 [evC e] true
theorem b9 {a b:Bool} {H1:Hp} (h:a=b):Fin 0 (d9 a) H1 (d9 b) []:=l9 (by subst h;exact rfl)
theorem n6 {a b:Int} {k:IntKind} {H1:Hp} (h:a=b):Fin 0 (a7 k a) H1 (a7 k b) []:=l9 (by subst h;exact rfl)
theorem i8 {x y:T} {ρ:List (Option Nat)} {H:Hp} (h:x=y):a5Z ρ H (.c (.t x)) (.c (.t y)):=aD8 h
theorem c7 {a b:Int} {k:IntKind} {ρ:List (Option Nat)} {H:Hp} (h:a=b):a5Z ρ H (a7 k a) (a7 k b):=by subst h;exact rfl
theorem j6 (e:Ev):H4 [evC e]:=by simp [H4,evC,C.isT]
theorem bk4 {H:Hp} {p:Nat->Prop} (e:Ev):VS H p (evS e) (evS e):=bi1 (evT e)
end
section
open Go.RowKit
set_option maxRecDepth 100000
abbrev D4 (l:List Int):Blk:={ mode:=.live,elem:=3,size:=1,rows:=toC (l.map i5),box:=false }
abbrev a3z (id:Nat) (l:List Int):S:=.c (.own id 0 l.length true)
theorem k7 {α:Type} {xs:List α} {f:α->List T} {n:Int} {x:α} {lo:Nat} {K:List C->Prop} (hx:xs[lo+n.toNat]? =some x) (h:K ((f x).map C.t)):∃row,(toC (xs.map f))[lo+n.toNat]? =some row∧K row:=
 ⟨(f x).map C.t,by simp [toC,hx],h⟩
theorem a5q {a b:Int} {n:Nat} {K:Prop} (h0:0<=a) (h1:a<=b) (h2:b<=1000000) (hn:n<=1000) (k:K):(0<=a∧a<=b∧b*((n:Int)+1)<=140737488355328)∧K:=by
 refine ⟨⟨h0,h1,?_⟩,k⟩
 have:b*((n:Int)+1)<=1000000*1001:=a6i h2 (by omega) (by omega) (by omega)
 omega
theorem a2B {α:Type} {xs:List α} {f:α->List T} {i n:Nat} {v:List C} {x:α} {K:List C->Prop} (hne:i≠n) (hx:xs[n]? =some x) (h:K ((f x).map C.t)):∃row,((toC (xs.map f)).set i v)[n]? =some row∧K row:=
 ⟨(f x).map C.t,by rw [List.getElem?_set_ne hne];simp [toC,hx],h⟩
theorem b7Z {α:Type} {f:α->List T} {xs:List α} {x:α}:(toC (xs.map f)).take xs.length++toC [f x]=toC ((xs++[x]).map f):=by
 rw [lbn (by simp [toC])];simp [toC]
theorem ah0 {x:Int} (h1:0<=x) (h2:x<18446744073709551616):IntKind.wrap .u64 x=x:=by
 simp only [IntKind.wrap,IntKind.bits,IntKind.signed]
 simp
 omega
theorem aP4 {k:IntKind} (hk:k.bits=64) (a:Int) (j:Nat) (hj:j<=62):(BitVec.ofInt k.bits a &&& BitVec.ofInt k.bits ((2 ^ j - 1:Nat):Int)).toNat=(a % ((2 ^ j:Nat):Int)).toNat:=by
 rw [hk]
 rw [BitVec.toNat_and,BitVec.toNat_ofInt,BitVec.toNat_ofInt]
 have hp:(2:Nat) ^ j<=2 ^ 62:=aa5 (by decide) hj
 have h0:0<(2:Nat) ^ j:=Nat.pow_pos (by decide)
 have e1:((((2 ^ j - 1:Nat):Int)) % ((2 ^ 64:Nat):Int)).toNat=2 ^ j - 1:=by
  rw [ad2 (by omega) (by omega)];simp
 rw [e1,Nat.and_two_pow_sub_one_eq_mod]
 have hd:(2:Nat) ^ 64=2 ^ j*2 ^ (64 - j):=by rw [← Nat.pow_add];congr 1;omega
 have h2:0<=a % ((2 ^ 64:Nat):Int):=ag1 _ (by decide)
 have e2:((a % ((2 ^ 64:Nat):Int)).toNat % 2 ^ j:Nat)=((a % ((2 ^ 64:Nat):Int)) % ((2 ^ j:Nat):Int)).toNat:=by
  rw [Int.toNat_emod h2 (by omega)];rfl
 rw [e2]
 congr 1
 refine Int.emod_emod_of_dvd _ ?_
 exact ⟨((2 ^ (64 - j):Nat):Int),by exact_mod_cast hd⟩
theorem aE0 {a:Int} (j:Nat) (hj:j<=62):IntKind.wrap .u64 (BitVec.ofInt (IntKind.bits .u64) a &&& BitVec.ofInt (IntKind.bits .u64) ((2 ^ j - 1:Nat):Int)).toNat=a % ((2 ^ j:Nat):Int):=by
 rw [aP4 rfl a j hj]
 have hp:(2:Nat) ^ j<=2 ^ 62:=aa5 (by decide) hj
 have h0:0<(2:Nat) ^ j:=Nat.pow_pos (by decide)
 have h1:0<=a % ((2 ^ j:Nat):Int):=ag1 _ (by omega)
 have h2:a % ((2 ^ j:Nat):Int)<((2 ^ j:Nat):Int):=aC7 _ (by omega)
 rw [lbZ h1,ah0 h1 (by omega)]
theorem aQ8 {x:Int} (h1:0<=x) (h2:x<18446744073709551616):E1 .u64 x x:=by unfold E1;exact (ah0 h1 h2).symm
theorem a5p {α:Type} {l:List α} {f:α->Bool} {k:Nat} {x:α} (h:l[k]? =some x):(l.take (k+1)).any f=((l.take k).any f || f x):=by
 rw [lbH,h];simp
theorem x8 {α:Type} {l:List α} {f:α->Bool} {k:Nat} {x:α} (h:l[k]? =some x):(l.take (k+1)).all f=((l.take k).all f && f x):=by
 rw [lbH,h];simp
theorem ae3 {α:Type} {l:List α} {f:α->Bool} {k:Nat} {x:α} (h:l[k]? =some x) (hf:f x=true):l.any f=true:=lbx.2 ⟨x,lbm h,hf⟩
theorem C2 {α:Type} {l:List α} {f:α->Bool} {k:Nat} {x:α} (h:l[k]? =some x) (hf:f x=false):l.all f=false:=by
 rw [← lbR,lbw];intro h';rw [h' x (lbm h)] at hf;cases hf
theorem b2p {x y:T} {H1:Hp} (h:x=y):Fin 0 (.c (.t x)) H1 (.c (.t y)) []:=by subst h;exact l9 (show a9d [] H1 _ _ from i8 (ρ:=[]) (H:=H1) rfl)
theorem ba3 {n:Nat} {k:SK} {a b:List (List T)} {H1:Hp} (h:a=b) (hk:k=.any):Fin 0 (.c (.t (.sl n k a))) H1 (.c (.t (.sl n .any b))) []:=by subst h hk;exact l9 (show a9d [] H1 _ _ from i8 (ρ:=[]) (H:=H1) rfl)
theorem ax4 {P:Program} {g:FuncId} {args:List S} {H H':Hp} {r:S} (i:Nat) {n:Nat} (hi:args[i]? =some (.c (.t (.sl n .any [])))) (h1:a8 P g (args.set i (.c (.t (.sl n .nul [])))) H r H')
 (h2:a8 P g (args.set i (.c (.t (.sl n .non [])))) H r H'):a8 P g args H r H':=by
 refine ⟨h1.1,fun w ι M vals hl hr hH hM hF=>?_⟩
 have hv:=(hr i _ hi).inv_t
 have hil:=(lbe.1 hi).1
 have key:∀k:SK,RT w M (.sl n k []) (vals.getD i undef)->∀j s,(args.set i (.c (.t (.sl n k []))))[j]? =some s->RS w ι M s (vals.getD j undef):=fun k hk j s hj=>by
  by_cases hji:i=j
  ·subst hji
   rw [List.getElem?_set_self hil] at hj
   injection hj with hj
   subst hj
   exact .c (.t hk)
  ·rw [List.getElem?_set_ne hji] at hj
   exact hr j s hj
 generalize hu:vals.getD i undef=u at hv
 cases hv with
 |@sl _ _ _ b off cap A f hrow hcap hmax hk hn hA hc hr' hx=>
  cases A with
  |none=>exact h1.2 w ι M vals (by simpa using hl) (key .nul (by rw [hu];exact .sl (b:=b) (off:=off) f hrow hcap hmax (by intro h;cases h) (by intro h;cases h) (by simp) hc hr' ⟨(fun _=>⟨rfl,rfl⟩),(fun h=>nomatch h)⟩)) hH hM hF
  |some a=>exact h2.2 w ι M vals (by simpa using hl) (key .non (by rw [hu];exact .sl (b:=b) (off:=off) f hrow hcap hmax (by intro h;cases h) (by intro h;cases h) (by simp) hc hr' ⟨(fun h=>nomatch h),(fun _ h=>nomatch h)⟩)) hH hM hF
theorem aq5 {P:Program} {g:FuncId} {args:List S} {H:Hp} {n:Nat} {b:Blk} {rows:List (List T)} (h:a8 P g args [] (.c (.own 0 0 n true)) [b]) (hargs:args=args.map (a3B [])) (hok:args.all (okS 0)=true)
 (hm:b.mode=.live) (hb:b.rows=toC rows):a8 P g args H (.c (.own H.length 0 n true)) (H++[b]):=by
 refine O0 [] h hargs hok rfl List.nodup_nil (by simp) (by intro k hk;simp at hk;subst hk;rw [hm];simp) (by simp) rfl ?_ (by simp) ?_ ?_
 ·simp [a3B,Q5,a38]
 ·intro i k hk
  match i,hk with
  |0,hk=>
   simp at hk
   subst hk
   exact ⟨b,by simp [a38],C4 hb⟩
 ·intro j hj _
  rw [lbb hj]
theorem b1j {P:Program} {g:FuncId} {args args':List S} {r:S} {H':Hp} (h:a8 P g args' [] r H') (ha:a2A [] (fun _=>False) args args'):a8 P g args [] r H':=by
 refine ⟨h.1,fun w ι M vals hl hv hH hM hf=>?_⟩
 obtain ⟨hlen,hget⟩:=a2A.get ha
 exact h.2 w ι M vals (by omega) (fun j s hj=>by
  obtain ⟨x,hx,hs⟩:=hget j s hj
  exact hs.rs hH (fun _ h=>h) (fun _ _ _ _ _ h _ _ _ _=>h.elim) (hv j x hx)) hH hM hf
end
section
open Go.Shelf Go.Proofs
def al6:Go.Shelf.Ren:=⟨fun|189=>109|125=>158|257=>157|128=>200|129=>201|294=>191|295=>192|296=>193|297=>194|298=>195|299=>196|216=>197|300=>198|301=>199|328=>216|329=>217|330=>218|331=>219|332=>220|215=>172|343=>229|n=>n,fun|28=>60|3=>3|46=>231|0=>0|51=>318|53=>230|4=>4|183=>312|182=>311|131=>228|5=>5|9=>9|218=>333|222=>337|228=>349|229=>245|n=>n,fun|n=>n⟩
theorem au7:Go.Proofs.Lays.n189 Tryz.prog al6:={
 mixed:=by kernel_rfl
 f125:=Tryz.func158.trans (congrArg some (by kernel_rfl))
 f128:=Tryz.func200.trans (congrArg some (by kernel_rfl))
 f129:=Tryz.func201.trans (congrArg some (by kernel_rfl))
 f189:=Tryz.func109.trans (congrArg some (by kernel_rfl))
 f215:=Tryz.func172.trans (congrArg some (by kernel_rfl))
 f216:=Tryz.func197.trans (congrArg some (by kernel_rfl))
 f257:=Tryz.func157.trans (congrArg some (by kernel_rfl))
 f294:=Tryz.func191.trans (congrArg some (by kernel_rfl))
 f295:=Tryz.func192.trans (congrArg some (by kernel_rfl))
 f296:=Tryz.func193.trans (congrArg some (by kernel_rfl))
 f297:=Tryz.func194.trans (congrArg some (by kernel_rfl))
 f298:=Tryz.func195.trans (congrArg some (by kernel_rfl))
 f299:=Tryz.func196.trans (congrArg some (by kernel_rfl))
 f300:=Tryz.func198.trans (congrArg some (by kernel_rfl))
 f301:=Tryz.func199.trans (congrArg some (by kernel_rfl))
 f328:=Tryz.func216.trans (congrArg some (by kernel_rfl))
 f329:=Tryz.func217.trans (congrArg some (by kernel_rfl))
 f330:=Tryz.func218.trans (congrArg some (by kernel_rfl))
 f331:=Tryz.func219.trans (congrArg some (by kernel_rfl))
 f332:=Tryz.func220.trans (congrArg some (by kernel_rfl))
 f343:=Tryz.func229.trans (congrArg some (by kernel_rfl))
 t0:=Tryz.underlying0
 a0:=Tryz.isAgg0
 z0:=Tryz.sizeOf0
 v0:=Tryz.zeroValue0
 t3:=Tryz.underlying3
 a3:=Tryz.isAgg3
 z3:=Tryz.sizeOf3
 v3:=Tryz.zeroValue3
 t4:=Tryz.underlying4
 a4:=Tryz.isAgg4
 z4:=Tryz.sizeOf4
 v4:=Tryz.zeroValue4
 t5:=Tryz.underlying5
 a5:=Tryz.isAgg5
 z5:=Tryz.sizeOf5
 v5:=Tryz.zeroValue5
 t9:=Tryz.underlying9
 a9:=Tryz.isAgg9
 z9:=Tryz.sizeOf9
 v9:=Tryz.zeroValue9
 t28:=Tryz.underlying60
 a28:=Tryz.isAgg60
 z28:=Tryz.sizeOf60
 v28:=Tryz.zeroValue60
 t46:=Tryz.underlying231
 a46:=Tryz.isAgg231
 z46:=Tryz.sizeOf231
 v46:=Tryz.zeroValue231
 t51:=Tryz.underlying318
 a51:=Tryz.isAgg318
 z51:=Tryz.sizeOf318
 v51:=Tryz.zeroValue318
 t53:=Tryz.underlying230
 a53:=Tryz.isAgg230
 z53:=Tryz.sizeOf230
 v53:=Tryz.zeroValue230
 t131:=Tryz.underlying228
 a131:=Tryz.isAgg228
 z131:=Tryz.sizeOf228
 v131:=Tryz.zeroValue228
 t182:=Tryz.underlying311
 a182:=Tryz.isAgg311
 z182:=Tryz.sizeOf311
 v182:=Tryz.zeroValue311
 t183:=Tryz.underlying312
 a183:=Tryz.isAgg312
 z183:=Tryz.sizeOf312
 v183:=Tryz.zeroValue312
 t218:=Tryz.underlying333
 a218:=Tryz.isAgg333
 z218:=Tryz.sizeOf333
 v218:=Tryz.zeroValue333
 t222:=Tryz.underlying337
 a222:=Tryz.isAgg337
 z222:=Tryz.sizeOf337
 v222:=Tryz.zeroValue337
 t228:=Tryz.underlying349
 a228:=Tryz.isAgg349
 z228:=Tryz.sizeOf349
 v228:=Tryz.zeroValue349
 t229:=Tryz.underlying245
 a229:=Tryz.isAgg245
 z229:=Tryz.sizeOf245
 v229:=Tryz.zeroValue245 }
end
section
def bk7 (xs ys:List Int) (k:Nat):Prop:=xs.take k=ys.take k
end
section
open Go.RowKit
theorem St1.zd {p:Prop} [Decidable p] {k:S->Prop} (a:p->k (d9 true)) (b:¬p->k (d9 false)):ac2 p k:=ac2.mk a b
theorem St2.zd {b:Bool} {k:S->Prop} (a:b=true->k (d9 true)) (c:b=false->k (d9 false)):a0Z b k:=a0Z.mk a c
theorem St1.zz {x:Int} {K:Int->Prop} (k:K x) (h1:-9223372036854775808<=x:=by omega) (h2:x<=9223372036854775807:=by omega):∃n,E1 .i64 x n∧K n:=⟨_,a3e h1 h2,k⟩
theorem St2.zz {n m:Int} {K:Prop} (k:K) (h0:0<=n:=by omega) (h1:n<m:=by omega):(0<=n∧n<m)∧K:=⟨⟨h0,h1⟩,k⟩
theorem St3.zz {ops:List Oper} {K:List Oper->Prop} (k:K ops) (h:a5k ops=true:=by decide +kernel):b3W ops K:=aB6 h k
theorem St4.zz {P:Program} {τ:Tab} {env:Env} {H':Hp} {ops:List Oper} {i:Nat} {K:Prop} (k:K) (h:C8 ops i=true:=by decide +kernel) (h2:R2 ops i=[]:=by decide +kernel):C8 ops i=true∧∃L,R2 ops i=L∧a0m P τ ops env H' K L:=b7c h h2 k
theorem St5.zz {s:S} {B:List Blk} {s':S} {K:Prop} (k:K) (h1:B=[]:=by exact rfl) (h2:s=s':=by exact rfl):(B=[]∧s=s')∧K:=b1A h1 h2 k
theorem St6.zz {α:Type} {xs:List α} {a b:Nat} {K:Prop} (k:K) (h:a=b:=by exact rfl):(xs.length=0∨a=b)∧K:=b5T h k
theorem bl0 {P:Program} {τ:Tab} {env:Env} {H':Hp} {ops:List Oper} {i:Nat} {K:Prop} (L:List Nat) (k:a0m P τ ops env H' K L) (h:C8 ops i=true:=by decide +kernel) (h2:R2 ops i=L:=by decide +kernel):C8 ops i=true∧∃L,R2 ops i=L∧a0m P τ ops env H' K L:=a26 L h h2 k
theorem qp {P:Program} {g:FuncId} {args:List S} {H:Hp} {r:S} {K:S->List Blk->Prop} {Q:Prop} (c:a8 P g args [] r []) (k:K r []) (h1:args.all S.isT=true:=by exact rfl) (h2:r.isT=true:=by exact rfl):(∃ r B,N1 P g args H r B∧K r B)∨Q:=.inl ⟨_,_,F9 c h1 h2,k⟩
theorem ac {f:FuncId} {fn:Func} {c:Code} {args:List S} {H:Hp} {s:S} {H':Hp} (hf:Go.Proofs.Tryz.prog.funcs[f]? =some fn) (h:a4d Go.Proofs.Tryz.prog tab H.length c (args++List.replicate (fn.ntmps - args.length) .junk) H fun x env' H1=>match x with
 |.exit _=>False
 | _ => a1L tab fn env' H1 fun r => Fin H.length r H1 s H') (hb : fn.body = some c := by exact rfl) (hn : fn.name ≠ "runtime.NumGoroutine" := by decide) : a8 Go.Proofs.Tryz.prog f args H s H' := b5R c9 hf hb hn h
def Jn (n:Nat):Env:=List.replicate n J
theorem St1.zy {a b c:Prop} (h:a):a9j a b c:=a9j.data h
theorem St2.zy {a b:Prop} (h:b):ai4 a b:=ai4.own h
theorem b0x {a b:Prop} (h:a):ai4 a b:=ai4.data h
theorem St7.zz {k:S->Prop} (h:k (d9 true)):a0Z true k:=⟨fun _=>h,fun e=>(by cases e)⟩
theorem St8.zz {k:S->Prop} (h:k (d9 false)):a0Z false k:=⟨fun e=>(by cases e),fun _=>h⟩
theorem lg0 {α:Type} {l:List α} {i:Nat} (h:i<l.length):l[i]? =some l[i]:=lbf h
theorem lg1 {α:Type} {l:List α} {i:Nat} {a:α} (h:l[i]? =some a):∃h:i<l.length,l[i]=a:=lbe.1 h
theorem lg2 {α:Type} {l:List α} {i:Nat} {a:α} (h:l[i]? =some a):a ∈ l:=lbm h
theorem lg3 {α:Type} (l:List α) (i:Nat) (a:α):l.getD i a=l[i]?.getD a:=lbl
theorem lg4 {α:Type} {l:List α} {i:Nat} (h:l.length<=i):l.take i=l:=lbn h
theorem lg5 {α:Type} {a:α} {l:List α}:a ∈ a::l:=R3 ..
theorem St1.zx {x:Int} {K:Int->Prop} (k:K x) (h1:-9223372036854775808<=x:=by omega) (h2:x<=9223372036854775807:=by omega):∃n,E1 .i64 x n∧K n:=⟨_,a3e h1 h2,k⟩
theorem St2.zx {n m:Int} {K:Prop} (k:K) (h0:0<=n:=by omega) (h1:n<m:=by omega):(0<=n∧n<m)∧K:=⟨⟨h0,h1⟩,k⟩
theorem St3.zx {ops:List Oper} {K:List Oper->Prop} (k:K ops) (h:a5k ops=true:=by decide +kernel):b3W ops K:=aB6 h k
theorem St4.zx {P:Program} {τ:Tab} {env:Env} {H':Hp} {ops:List Oper} {i:Nat} {K:Prop} (k:K) (h:C8 ops i=true:=by decide +kernel) (h2:R2 ops i=[]:=by decide +kernel):C8 ops i=true∧∃L,R2 ops i=L∧a0m P τ ops env H' K L:=b7c h h2 k
theorem St5.zx {s:S} {B:List Blk} {s':S} {K:Prop} (k:K) (h1:B=[]:=by exact rfl) (h2:s=s':=by exact rfl):(B=[]∧s=s')∧K:=b1A h1 h2 k
theorem St6.zx {α:Type} {xs:List α} {a b:Nat} {K:Prop} (k:K) (h:a=b:=by exact rfl):(xs.length=0∨a=b)∧K:=b5T h k
theorem St7.zx {k:S->Prop} (h:k (d9 true)):a0Z true k:=⟨fun _=>h,fun e=>(by cases e)⟩
theorem St8.zx {k:S->Prop} (h:k (d9 false)):a0Z false k:=⟨fun e=>(by cases e),fun _=>h⟩
theorem StA.zx {a b c:Prop} (h:a):a9j a b c:=a9j.data h
theorem StB.zx {a b:Prop} (h:b):ai4 a b:=ai4.own h
end
open St1 St2 St3 St4 St5 St6 St7 St8 StA StB
theorem a3g (i n:Int):a8 Tryz.prog 161 [a7 .i64 i,a7 .i64 n] [] (d9 (idx i n)) []:=by
 (refine ac Tryz.func161 ?_;(conv=>whnf);repeat (refine zy ?_;conv=>whnf))
 repeat' (first|refine zx ?_|refine zd ?_ ?_<;>intro h<;>try omega|fail)<;>conv=>whnf
 all_goals (refine b9 ?_;simp only [idx];simp;omega)
theorem a2u (n lo hi:Int):a8 Tryz.prog 90 [a7 .i64 n,a7 .i64 lo,a7 .i64 hi] [] (d9 (btw n lo hi)) []:=by
 (refine ac Tryz.func90 ?_;(conv=>whnf);repeat (refine zy ?_;conv=>whnf))
 repeat' (first|refine zx ?_|refine zd ?_ ?_<;>intro h<;>try omega|fail)<;>conv=>whnf
 all_goals (refine b9 ?_;simp only [btw];simp;omega)
def b2u (p:Int × Int):List T:=[ti p.1,ti p.2]
def aq8 (e:Ev):List (Int × Int):=[(e.mats,6),(e.hhs,100),(e.scs,30),(e.places.length,100),(e.moves.length,200),(e.certs.length,100),(e.recalls.length,30),(e.purities.length,200)]
theorem aq0 (e:Ev):al4 e=(aq8 e).any fun p=>decide (p.2<p.1):=by
 rw [ae4]
 simp [al4,aq8]
 omega
set_option maxRecDepth 100000 in
theorem bc6 (e:Ev) (hs:e.Sized):a8 Tryz.prog 117 [evS e] [] (d9 (al4 e)) []:=by
 (refine ac Tryz.func117 ?_;(conv=>whnf);repeat (refine zy ?_;conv=>whnf))
 have hl:(aq8 e).length=8:=rfl
 refine i3 c9 (fun k=>(Jn 34++[S.c (C.t (T.sl 2 .full ((aq8 e).map b2u))),a7 .i64 8,a7 .i64 k]++Jn 9,[])) 8 (fun k=>((aq8 e).take k).any (fun p=>decide (p.2<p.1))=false) [] rfl
  ⟨rfl,rfl,trivial,⟨i8 (by simp [aq8,b2u]),rfl,rfl,trivial⟩⟩ ?_
 intro k hk hI
 conv=>whnf
 repeat' (first|refine zx ?_|refine zd ?_ ?_<;>intro h<;>try omega|fail)<;>conv=>whnf
 ·have hlt:k<8:=by omega
  refine d6 (lbf (hl ▸ hlt)) ?_
  conv=>whnf
  repeat' (first|refine zx ?_|refine zd ?_ ?_<;>intro h<;>try omega|fail)<;>conv=>whnf
  ·refine b9 ?_
   rw [aq0,ae3 (lbf (hl ▸ hlt))]
   simpa using ‹_ > _›
  ·refine ⟨hlt,?_,[],rfl,rfl,trivial,⟨rfl,rfl,rfl,trivial⟩⟩
   rw [a5p (lbf (hl ▸ hlt)),hI]
   have h:=‹¬ _ > _›
   simp;omega
 ·refine b9 ?_
  rw [aq0,←hI,lbn (by omega)]
open St1 St2 St3 St4 St5 St6 St7 St8 StA StB
set_option maxRecDepth 100000
theorem b4A (e:Ev) (hs:e.Sized):a8 Tryz.prog 118 [evS e] [] (d9 (e.places.all (a1u e))) []:=by
 have l1:=hs.s1
 have l2:(e.places.map Place.row).length=e.places.length:=by simp
 (refine ac Tryz.func118 ?_;(conv=>whnf);repeat (refine zy ?_;conv=>whnf))
 refine i3 c9 (fun k=>([J,S.c (C.ptr 0 0 0),J,J,J,J,S.c (C.t (a5d e.places)),a7 .i64 e.places.length,a7 .i64 k]++Jn 36,[evB e])) e.places.length (fun k=>(e.places.take k).all (a1u e)=true) [some 0] rfl
  ⟨rfl,rfl,⟨⟨rfl,rfl,rfl,.inl ⟨rfl,j6 e⟩⟩,trivial⟩,⟨⟨rfl,rfl,rfl⟩,i8 rfl,c7 (by simp),c7 rfl,trivial⟩⟩ ?_
 intro k hk hI
 conv=>whnf
 repeat' (first|refine zx ?_|refine zd ?_ ?_<;>intro h<;>try omega|fail)<;>conv=>whnf
 ·have hlt:k<e.places.length:=by omega
  obtain ⟨x,hx⟩:∃x,e.places[k]? =some x:=⟨_,lbf hlt⟩
  refine d6 hx ?_
  conv=>whnf
  repeat' (first|refine zx ?_|refine qp (a3g _ _) ?_|refine zd ?_ ?_<;>intro h<;>try omega|fail)<;>conv=>whnf
  all_goals first
   |(refine ⟨hlt,?_,[some 0],rfl,rfl,⟨⟨rfl,rfl,rfl,.inl ⟨rfl,j6 e⟩⟩,trivial⟩,⟨⟨rfl,rfl,rfl⟩,rfl,rfl,rfl,trivial⟩⟩;rw [x8 hx,hI];simp_all [a1u];done)
   |(refine b9 ?_;rw [C2 hx];simp_all [a1u];done)
 ·refine b9 ?_
  rw [← hI,lbn (by omega)]
theorem aw2 {e:Ev} {i:Int} (h:idx i e.places.length=true):0<=i∧∃x,e.places[i.toNat]? =some x∧A7 e i=x.kind:=by
 have h':=az4.1 h
 have hlt:i.toNat<e.places.length:=by omega
 refine ⟨h'.1,_,lbf hlt,?_⟩
 unfold A7
 rw [lbf hlt];rfl
theorem b9K (e:Ev) (m:t7) (hs:e.Sized):a8 Tryz.prog 119 [evS e,b2R m] [] (d9 (T7 e m)) []:=by
 have l1:=hs.s1
 have l2:(e.places.map Place.row).length=e.places.length:=by simp
 by_cases h1:idx m.src e.places.length=true
 ·obtain ⟨hs0,x,hx,kx⟩:=aw2 h1
  by_cases h2:idx m.dst e.places.length=true
  ·obtain ⟨hd0,y,hy,ky⟩:=aw2 h2
   (refine ac Tryz.func119 ?_;(conv=>whnf);repeat (refine zy ?_;conv=>whnf))
   rw [← l2] at h1 h2
   repeat' (first|refine zx ?_|refine qp (a3g _ _) ?_|refine qp (a2u _ _ _) ?_|refine N3 hs0 hx ?_|refine N3 hd0 hy ?_|refine zd ?_ ?_<;>intro h<;>try omega|fail)<;>conv=>whnf
   all_goals (refine b9 ?_;simp_all [T7];done)
  ·(refine ac Tryz.func119 ?_;(conv=>whnf);repeat (refine zy ?_;conv=>whnf))
   rw [← l2] at h1 h2
   repeat' (first|refine zx ?_|refine qp (a3g _ _) ?_|refine zd ?_ ?_<;>intro h<;>try omega|fail)<;>conv=>whnf
   all_goals first|(exfalso;simp_all;done)|(refine b9 ?_;simp_all [T7];done)
 ·(refine ac Tryz.func119 ?_;(conv=>whnf);repeat (refine zy ?_;conv=>whnf))
  rw [← l2] at h1
  repeat' (first|refine zx ?_|refine qp (a3g _ _) ?_|refine zd ?_ ?_<;>intro h<;>try omega|fail)<;>conv=>whnf
  all_goals first|(exfalso;simp_all;done)|(refine b9 ?_;simp_all [T7];done)
theorem be8 (e:Ev) (hs:e.Sized):a8 Tryz.prog 120 [evS e] [] (d9 (a2W e)) []:=by
 have l1:=hs.s3
 have l2:(e.certs.map L9.row).length=e.certs.length:=by simp
 have l3:=hs.s4
 have l4:(e.recalls.map F0.row).length=e.recalls.length:=by simp
 have l5:=hs.s5
 have l6:(e.purities.map a1Z.row).length=e.purities.length:=by simp
 have l7:=hs.s2
 have l8:(e.moves.map t7.row).length=e.moves.length:=by simp
 (refine ac Tryz.func120 ?_;(conv=>whnf);repeat (refine zy ?_;conv=>whnf))
 refine i3 c9 (fun k=>([J,S.c (C.ptr 0 0 0),J,J,J,J,J,J,J,J,J,S.c (C.t (a1R e.certs)),a7 .i64 e.certs.length,a7 .i64 k]++Jn 107,[evB e])) e.certs.length (fun k=>(e.certs.take k).all (ab2 e)=true) [some 0] rfl
  ⟨rfl,rfl,⟨⟨rfl,rfl,rfl,.inl ⟨rfl,j6 e⟩⟩,trivial⟩,⟨⟨rfl,rfl,rfl⟩,i8 rfl,c7 (by simp),c7 rfl,trivial⟩⟩ ?_
 intro k hk hI
 conv=>whnf
 repeat' (first|refine zx ?_|refine zd ?_ ?_<;>intro h<;>try omega|fail)<;>conv=>whnf
 ·have hlt:k<e.certs.length:=by omega
  obtain ⟨x,hx⟩:∃x,e.certs[k]? =some x:=⟨_,lbf hlt⟩
  refine d6 hx ?_
  conv=>whnf
  repeat' (first|refine zx ?_|refine qp (a3g _ _) ?_|refine qp (a2u _ _ _) ?_|refine zd ?_ ?_<;>intro h<;>try omega|fail)<;>conv=>whnf
  all_goals first
   |(refine ⟨hlt,?_,[some 0],rfl,rfl,⟨⟨rfl,rfl,rfl,.inl ⟨rfl,j6 e⟩⟩,trivial⟩,⟨⟨rfl,rfl,rfl⟩,rfl,rfl,rfl,trivial⟩⟩;rw [x8 hx,hI];simp_all [ab2];done)
   |(refine b9 ?_;rw [a2W,C2 hx];rfl;simp_all [ab2];(try omega);done)
 ·have hc:e.certs.all (ab2 e)=true:=by rw [← hI,lbn (by omega)]
  clear hI h hk
  refine i3 c9 (fun k=>([J,S.c (C.ptr 0 0 0)]++Jn 60++[S.c (C.t (P5 e.recalls)),a7 .i64 e.recalls.length,a7 .i64 k]++Jn 56,[evB e])) e.recalls.length (fun k=>(e.recalls.take k).all (a45 e)=true) [some 0] rfl
   ⟨rfl,rfl,⟨⟨rfl,rfl,rfl,.inl ⟨rfl,j6 e⟩⟩,trivial⟩,⟨⟨rfl,rfl,rfl⟩,i8 rfl,c7 (by simp),c7 rfl,trivial⟩⟩ ?_
  intro k hk hI
  conv=>whnf
  repeat' (first|refine zx ?_|refine zd ?_ ?_<;>intro h<;>try omega|fail)<;>conv=>whnf
  ·have hlt:k<e.recalls.length:=by omega
   obtain ⟨x,hx⟩:∃x,e.recalls[k]? =some x:=⟨_,lbf hlt⟩
   refine d6 hx ?_
   conv=>whnf
   repeat' (first|refine zx ?_|refine qp (a3g _ _) ?_|refine qp (a2u _ _ _) ?_|refine zd ?_ ?_<;>intro h<;>try omega|fail)<;>conv=>whnf
   all_goals first
    |(refine ⟨hlt,?_,[some 0],rfl,rfl,⟨⟨rfl,rfl,rfl,.inl ⟨rfl,j6 e⟩⟩,trivial⟩,⟨⟨rfl,rfl,rfl⟩,rfl,rfl,rfl,trivial⟩⟩;rw [x8 hx,hI];simp_all [a45];done)
    |(refine b9 ?_;rw [a2W,hc,C2 hx];rfl;simp_all [a45];done)
  ·have hr:e.recalls.all (a45 e)=true:=by rw [← hI,lbn (by omega)]
   clear hI h hk
   refine i3 c9 (fun k=>([J,S.c (C.ptr 0 0 0)]++Jn 80++[S.c (C.t (a0G e.purities)),a7 .i64 e.purities.length,a7 .i64 k]++Jn 36,[evB e])) e.purities.length (fun k=>(e.purities.take k).all (a3R e)=true) [some 0] rfl
    ⟨rfl,rfl,⟨⟨rfl,rfl,rfl,.inl ⟨rfl,j6 e⟩⟩,trivial⟩,⟨⟨rfl,rfl,rfl⟩,i8 rfl,c7 (by simp),c7 rfl,trivial⟩⟩ ?_
   intro k hk hI
   conv=>whnf
   repeat' (first|refine zx ?_|refine zd ?_ ?_<;>intro h<;>try omega|fail)<;>conv=>whnf
   ·have hlt:k<e.purities.length:=by omega
    obtain ⟨x,hx⟩:∃x,e.purities[k]? =some x:=⟨_,lbf hlt⟩
    refine d6 hx ?_
    conv=>whnf
    repeat' (first|refine zx ?_|refine qp (a3g _ _) ?_|refine qp (a2u _ _ _) ?_|refine zd ?_ ?_<;>intro h<;>try omega|fail)<;>conv=>whnf
    all_goals first
     |(refine ⟨hlt,?_,[some 0],rfl,rfl,⟨⟨rfl,rfl,rfl,.inl ⟨rfl,j6 e⟩⟩,trivial⟩,⟨⟨rfl,rfl,rfl⟩,rfl,rfl,rfl,trivial⟩⟩;rw [x8 hx,hI];simp_all [a3R];done)
     |(refine b9 ?_;rw [a2W,hc,hr,C2 hx];rfl;simp_all [a3R];(try omega);done)
   ·have hp:e.purities.all (a3R e)=true:=by rw [← hI,lbn (by omega)]
    refine b9 ?_
    rw [a2W,hc,hr,hp];rfl
open St1 St2 St3 St4 St5 St6 St7 St8 StA StB
set_option maxRecDepth 100000
def b1E (e:Ev):Nat->Int
 |0=>0
 |k+1=>((e.moves[k]?).map (·.day)).getD 0
theorem a9N {e:Ev} {k:Nat} {m:t7} (h:e.moves[k]? =some m):b1E e (k+1)=m.day:=by simp [b1E,h]
theorem a3K {α:Type} {l:List α} {k:Nat} {x:α} (h:l[k]? =some x):l.drop k=x::l.drop (k+1):=by
 obtain ⟨h1,h2⟩:=lbe.1 h
 rw [a8p h1,h2]
theorem b2w (e:Ev) (hs:e.Sized):a8 Tryz.prog 76 [evS e] [] (a7 .i64 (J4 e)) []:=by
 have l7:=hs.s2
 have l8:(e.moves.map t7.row).length=e.moves.length:=by simp
 (refine ac Tryz.func76 ?_;(conv=>whnf);repeat (refine zy ?_;conv=>whnf))
 repeat' (first|refine zx ?_|refine qp (bc6 _ hs) ?_|refine qp (b4A _ hs) ?_|refine zd ?_ ?_<;>intro h<;>try omega|fail)<;>conv=>whnf
 case refine_2.refine_2.refine_2.refine_2.refine_1 hf h1 h2 h3=>
  have h4:=h
  clear h
  have hpre:¬(e.mats<1∨e.hhs<0∨e.scs<0∨e.places.all (a1u e)=false):=by
   rintro (h|h|h|h)
   ·omega
   ·omega
   ·omega
   ·rw [h4] at h;cases h
  have hck:J4 e=if F5 e 0 e.moves≠0 then F5 e 0 e.moves else if a2W e then 0 else 1:=by
   unfold J4;rw [if_neg (by simp [hf]),if_neg hpre]
  refine i3 c9 (fun k=>([J,S.c (C.ptr 0 0 0),J,a7 .i64 (b1E e k)]++Jn 25++[S.c (C.t (a2Z e.moves)),a7 .i64 e.moves.length,a7 .i64 k]++Jn 22,[evB e])) e.moves.length (fun k=>F5 e 0 e.moves=F5 e (b1E e k) (e.moves.drop k)) [some 0] rfl
   ⟨rfl,rfl,⟨⟨rfl,rfl,rfl,.inl ⟨rfl,j6 e⟩⟩,trivial⟩,⟨⟨rfl,rfl,rfl⟩,c7 rfl,i8 rfl,c7 (by simp),c7 rfl,trivial⟩⟩ ?_
  intro k hk hI
  conv=>whnf
  repeat' (first|refine zx ?_|refine zd ?_ ?_<;>intro h<;>try omega|fail)<;>conv=>whnf
  ·have hlt:k<e.moves.length:=by omega
   obtain ⟨x,hx⟩:∃x,e.moves[k]? =some x:=⟨_,lbf hlt⟩
   rw [a3K hx,F5] at hI
   refine d6 hx ?_
   conv=>whnf
   repeat' (first|refine zx ?_|refine qp (b9K _ x hs) ?_|refine zd ?_ ?_<;>intro h<;>try omega|fail)<;>conv=>whnf
   all_goals first
    |(refine ⟨hlt,?_,[some 0],rfl,rfl,⟨⟨rfl,rfl,rfl,.inl ⟨rfl,j6 e⟩⟩,trivial⟩,⟨⟨rfl,rfl,rfl⟩,?_,rfl,rfl,rfl,trivial⟩⟩
      ·rw [a9N hx,hI,if_neg (by omega),if_pos (by assumption)]
      ·rw [a9N hx];exact rfl)
    |(have e1:F5 e 0 e.moves=17:=by rw [hI,if_pos (by omega)]
      refine n6 ?_;rw [hck,e1];rfl)
    |(have e1:F5 e 0 e.moves=1:=by rw [hI,if_neg (by omega),if_neg (by simp_all)]
      refine n6 ?_;rw [hck,e1];rfl)
  ·rw [List.drop_eq_nil_of_le (by omega),F5] at hI
   repeat' (first|refine zx ?_|refine qp (be8 _ hs) ?_|refine zd ?_ ?_<;>intro h<;>try omega|fail)<;>conv=>whnf
   all_goals (refine n6 ?_;rw [hck,hI];simp_all)
 all_goals (refine n6 ?_;unfold J4;simp_all;try omega)
open St1 St2 St3 St4 St5 St6 St7 St8 StA StB
abbrev Bs:Int:=1048576
def val:List Int->Int
 |[]=>0
 |d::r=>d+1048576*val r
def Okd (l:List Int):Prop:=∀d ∈ l,0<=d∧d<1048576
def dgF:Nat->Nat->List Int
 |0,_=>[]
 |f+1,n=>if n=0 then [] else ((n % 1048576:Nat):Int)::dgF f (n / 1048576)
def dg (n:Nat):List Int:=dgF n n
def pw (i:Nat):Int:=1048576 ^ i
theorem b7v:pw 0=1:=rfl
theorem G9 (i:Nat):pw (i+1)=pw i*1048576:=Int.pow_succ ..
theorem P3 (i:Nat):0<pw i:=Int.pow_pos (by decide)
theorem a7G (i j:Nat):pw (i+j)=pw i*pw j:=Int.pow_add ..
theorem a1F {i j:Nat} (h:i<=j):pw i<=pw j:=by
 obtain ⟨k,rfl⟩:=Nat.exists_eq_add_of_le h
 rw [a7G]
 have h1:=P3 i
 have h2:=P3 k
 have:=lbW (a:=1) (b:=pw k) (c:=pw i) (by omega) (by omega)
 omega
theorem Okd.nil:Okd []:=fun _ h=>nomatch h
theorem Okd.cons {d:Int} {l:List Int} (h1:0<=d∧d<1048576) (h2:Okd l):Okd (d::l):=by
 intro x hx
 rcases lbB.1 hx with rfl|hx
 ·exact h1
 ·exact h2 x hx
theorem Okd.head {d:Int} {l:List Int} (h:Okd (d::l)):0<=d∧d<1048576:=h d (by simp)
theorem Okd.tail {d:Int} {l:List Int} (h:Okd (d::l)):Okd l:=fun x hx=>h x (by simp [hx])
theorem Okd.take {l:List Int} (h:Okd l) (n:Nat):Okd (l.take n):=fun x hx=>h x (a8x hx)
theorem Okd.drop {l:List Int} (h:Okd l) (n:Nat):Okd (l.drop n):=fun x hx=>h x (aP2 hx)
theorem Okd.append {a b:List Int} (h:Okd a) (h2:Okd b):Okd (a++b):=fun x hx=>by
 rcases lbA.1 hx with hx|hx
 ·exact h x hx
 ·exact h2 x hx
theorem Okd.set {l:List Int} (h:Okd l) {i:Nat} {x:Int} (hx:0<=x∧x<1048576):Okd (l.set i x):=fun y hy=>by
 rcases b4u hy with hy|rfl
 ·exact h y hy
 ·exact hx
theorem Okd.zeros (n:Nat):Okd (List.replicate n 0):=fun x hx=>by rw [List.eq_of_mem_replicate hx];decide
theorem o7 {l:List Int} (h:Okd l):0<=val l:=by
 induction l with
 |nil=>simp [val]
 |cons d l ih=>have:=ih h.tail;have:=h.head;simp only [val];omega
theorem Y1 {l:List Int} (h:Okd l):val l<pw l.length:=by
 induction l with
 |nil=>simp [val,pw]
 |cons d l ih=>
  have:=ih h.tail;have:=h.head
  simp only [val,lbu,G9];omega
theorem O4 (a b:List Int):val (a++b)=val a+pw a.length*val b:=by
 induction a with
 |nil=>simp [val,pw]
 |cons d a ih=>simp only [ag2,val,ih,lbu,G9];grind
theorem a7Y (n:Nat):val (List.replicate n 0)=0:=by
 induction n with
 |zero=>rfl
 |succ n ih=>simp [ad6,val,ih]
theorem a7x (l:List Int) (i:Nat) (h:i<=l.length):val l=val (l.take i)+pw i*val (l.drop i):=by
 have:=O4 (l.take i) (l.drop i)
 rw [lb6] at this
 rw [this]
 rw [lbs,a12 h]
theorem a5g {l:List Int} {i:Nat} {x:Int} (h:l[i]? =some x):val (l.take (i+1))=val (l.take i)+pw i*x:=by
 have hi:i<l.length:=by
  rcases A6 i l.length with h1|h1
  ·exact h1
  ·rw [lbd h1] at h;cases h
 rw [lbH,h,O4,lbs,a12 (by omega)]
 simp [val]
theorem a4F {l:List Int} {i:Nat} {x:Int} (h:l[i]? =some x):val (l.drop i)=x+1048576*val (l.drop (i+1)):=by
 have hi:i<l.length:=by
  rcases A6 i l.length with h1|h1
  ·exact h1
  ·rw [lbd h1] at h;cases h
 rw [a8p hi]
 rw [lbf hi] at h
 injection h with h
 rw [h];rfl
theorem b7j {l:List Int} {i:Nat} {x y:Int} (h:l[i]? =some y):val (l.set i x)=val l+pw i*(x - y):=by
 induction l generalizing i with
 |nil=>simp at h
 |cons d l ih=>
  cases i with
  |zero=>
   simp only [List.getElem?_cons_zero,lb4] at h
   subst h
   simp [val,pw];omega
  |succ i=>
   simp only [List.getElem?_cons_succ] at h
   simp only [List.set_cons_succ,val,ih h,G9];grind
theorem b5w (f n:Nat) (h:n<=f):dgF f n=dg n:=by
 unfold dg
 induction f using Nat.strongRecOn generalizing n with
 |ind f ih=>
  cases f with
  |zero=>cases Nat.le_zero.1 h;rfl
  |succ f=>
   cases n with
   |zero=>rfl
   |succ n=>
    simp only [dgF,Nat.succ_ne_zero,if_false]
    rw [ih f (by omega) _ (by omega),ih n (by omega) _ (by omega)]
theorem a1D:dg 0=[]:=rfl
theorem a6l {n:Nat} (h:0<n):dg n=((n % 1048576:Nat):Int)::dg (n / 1048576):=by
 obtain ⟨m,rfl⟩:∃m,n=m+1:=⟨n - 1,by omega⟩
 show dgF (m+1) (m+1)=_
 simp only [dgF,Nat.succ_ne_zero,if_false]
 rw [b5w _ _ (by omega)]
theorem aZ9 {P:Nat->Prop} (h0:P 0) (h:∀n,0<n->P (n / 1048576)->P n) (n:Nat):P n:=by
 induction n using Nat.strongRecOn with
 |ind n ih=>
  rcases a3U n with rfl|hn
  ·exact h0
  ·exact h n hn (ih _ (by omega))
theorem u7 (n:Nat):val (dg n)=n:=by
 induction n using aZ9 with
 |h0=>rfl
 |h n hn ih=>rw [a6l hn,val,ih];omega
theorem x7 (n:Nat):Okd (dg n):=by
 induction n using aZ9 with
 |h0=>exact .nil
 |h n hn ih=>rw [a6l hn];exact .cons (by omega) ih
theorem Q9 {n:Nat}:dg n=[]↔n=0:=by
 constructor
 ·intro h
  have:=u7 n
  rw [h] at this
  simp only [val] at this;omega
 ·rintro rfl;rfl
def K7:List Int->List Int
 |[]=>[]
 |d::r=>if K7 r=[]∧d=0 then [] else d::K7 r
theorem R7 {l:List Int} (h:Okd l):K7 l=dg (val l).toNat:=by
 induction l with
 |nil=>rfl
 |cons d l ih=>
  have h0:=o7 h.tail
  have h1:=h.head
  have hv:(val (d::l)).toNat=d.toNat+1048576*(val l).toNat:=by simp only [val];omega
  rw [K7,ih h.tail,hv]
  split
  ·rename_i hc
   have:=Q9.1 hc.1
   rw [this,hc.2];rfl
  ·rename_i hc
   rw [a6l (n:=d.toNat+1048576*(val l).toNat)]
   ·congr 1
    ·omega
    ·congr 1;omega
   ·rcases a3U (val l).toNat with h2|h2
    ·have:d≠0:=fun h3=>hc ⟨by rw [h2];rfl,h3⟩
     omega
    ·omega
theorem a5V {l:List Int} {n:Nat} (h1:∀j x,n<=j->l[j]? =some x->x=0) (h2:∀x,0<n->l[n-1]? =some x->x≠0) (hn:n<=l.length):l.take n=K7 l:=by
 induction l generalizing n with
 |nil=>simp [K7]
 |cons d l ih=>
  cases n with
  |zero=>
   have ht:K7 l=[]:=by
    rw [← ih (n:=0) (fun j x _ hx=>h1 (j+1) x (by omega) (by simpa using hx)) (fun x h=>absurd h (by omega)) (by omega)];rfl
   have hd:d=0:=h1 0 d (by omega) (by simp)
   simp [K7,ht,hd]
  |succ n=>
   have ht:K7 l=l.take n:=by
    refine (ih (n:=n) (fun j x hj hx=>h1 (j+1) x (by omega) (by simpa using hx)) (fun x h hx=>h2 x (by omega) ?_) (by simpa using hn)).symm
    obtain ⟨m,rfl⟩:∃m,n=m+1:=⟨n - 1,by omega⟩
    simpa using hx
   rw [K7,ht,List.take_succ_cons,if_neg]
   rintro ⟨h3,h4⟩
   have hn0:n=0:=by
    rcases a3U n with h5|h5
    ·exact h5
    ·have:=congrArg List.length h3
     simp only [lbs,a5n,lbu] at this hn
     omega
   subst hn0
   exact h2 d (by omega) (by simp) h4
theorem M5 {n k:Nat} (h:(n:Int)<pw k):(dg n).length<=k:=by
 induction k generalizing n with
 |zero=>have:n=0:=by simp [pw] at h;omega
        subst this;simp [a1D]
 |succ k ih=>
  rcases a3U n with rfl|hn
  ·simp [a1D]
  ·rw [a6l hn]
   rw [G9] at h
   have:=ih (n:=n / 1048576) (by omega)
   simp;omega
theorem aH6 {n:Nat} (h:0<n):pw ((dg n).length - 1)<=n:=by
 induction n using aZ9 with
 |h0=>omega
 |h n hn ih=>
  rw [a6l hn]
  rcases a3U (n / 1048576) with h1|h1
  ·rw [h1,a1D]
   simp [pw];omega
  ·have h2:=ih h1
   have:(dg (n / 1048576)).length≠0:=by rw [Ne,a22,Q9];omega
   obtain ⟨m,hm⟩:∃m,(dg (n / 1048576)).length=m+1:=⟨(dg (n / 1048576)).length - 1,by omega⟩
   rw [hm] at h2
   rw [lbu,hm]
   simp only [a5T] at h2 ⊢
   rw [G9];omega
theorem N9 (n:Nat):(n:Int)<pw (dg n).length:=by
 have:=Y1 (x7 n);rw [u7] at this;exact this
theorem v7 {m n:Nat} (h:m<=n):(dg m).length<=(dg n).length:=M5 (by have:=N9 n;omega)
theorem az0 {m n:Nat} (h:(dg m).length<(dg n).length):m<n:=by
 rcases A6 m n with h1|h1
 ·exact h1
 ·have:=v7 h1;omega
def Can (l:List Int):Prop:=Okd l∧∀x,l[l.length - 1]? =some x->x≠0
theorem b1b {l:List Int} (h:Can l):l=dg (val l).toNat:=by
 rw [← R7 h.1]
 have:=a5V (l:=l) (n:=l.length) (fun j x hj hx=>by rw [lbd hj] at hx;cases hx) (fun x _ hx=>h.2 x hx) (lbS _)
 rw [Y8] at this
 exact this
theorem a15 (n:Nat):Can (dg n):=by
 refine ⟨x7 n,fun x hx h0=>?_⟩
 subst h0
 have hl:0<(dg n).length:=by
  rcases a3U (dg n).length with h|h
  ·rw [a22.1 h] at hx;simp at hx
  ·exact h
 have hp:0<n:=by
  rcases a3U n with rfl|h
  ·simp [a1D] at hl
  ·exact h
 have h1:=aH6 hp
 have h2:=a5g hx
 rw [show (dg n).length - 1+1=(dg n).length by omega,Y8,u7] at h2
 have h3:=Y1 ((x7 n).take ((dg n).length - 1))
 rw [lbs,a12 (by omega)] at h3
 omega
theorem a8y {a b:List Int} (ha:Okd a) (hb:Okd b) (hl:a.length=b.length) {i:Nat} {x y:Int} (hx:a[i]? =some x) (hy:b[i]? =some y)
 (hd:a.drop (i+1)=b.drop (i+1)) (h:x<y):val a<val b:=by
 have hi:i<a.length:=by
  rcases A6 i a.length with h1|h1
  ·exact h1
  ·rw [lbd h1] at hx;cases hx
 have e1:=a7x a i (by omega)
 have e2:=a7x b i (by omega)
 rw [a4F hx] at e1
 rw [a4F hy] at e2
 rw [hd] at e1
 have h1:=Y1 (ha.take i)
 rw [lbs,a12 (by omega)] at h1
 have h2:=o7 (hb.take i)
 have h3:=P3 i
 have h4:pw i*(x+1048576*val (b.drop (i+1)))+pw i<=pw i*(y+1048576*val (b.drop (i+1))):=by
  have:=lbW (a:=x+1048576*val (b.drop (i+1))+1) (b:=y+1048576*val (b.drop (i+1))) (c:=pw i) (by omega) (by omega)
  rw [Int.mul_add (pw i) _ 1] at this
  omega
 omega
def dat (l:List Int) (i:Nat):Int:=l.getD i 0
theorem a2h {l:List Int} {i:Nat} {x:Int} (h:l[i]? =some x):dat l i=x:=by unfold dat;rw [lbl,h];rfl
theorem a1f {l:List Int} {i:Nat} (h:l.length<=i):dat l i=0:=by unfold dat;rw [lbl,lbd h];rfl
theorem Okd.dat {l:List Int} (h:Okd l) (i:Nat):0<=dat l i∧dat l i<1048576:=by
 rcases A6 i l.length with h1|h1
 ·rw [a2h (lbf h1)]
  exact h _ (lbF h1)
 ·rw [a1f h1];decide
theorem p4 (l:List Int) (i:Nat):val (l.take (i+1))=val (l.take i)+pw i*dat l i:=by
 rcases A6 i l.length with h1|h1
 ·rw [a2h (lbf h1)]
  exact a5g (lbf h1)
 ·rw [a1f h1,lbn (by omega),lbn (by omega)];simp
theorem a6Q (n:Int):0<=n % 1048576∧n % 1048576<1048576:=by omega
structure a7R (a b:List Int) (i:Nat) (out:List Int) (c:Int):Prop where
 len:out.length=a.length+1
 ok:Okd out
 le:i<=a.length
 zero:∀j,i<=j->dat out j=0
 c0:0<=c
 c1:c<=1
 eq:val out+pw i*c=val (a.take i)+val (b.take i)
theorem a7R.init (a b:List Int):a7R a b 0 (List.replicate (a.length+1) 0) 0:=
 ⟨by simp,.zeros _,D5 _,fun j _=>by unfold dat;rw [lbl,lbk];split<;>rfl,by decide,by decide,by rw [a7Y];simp [val]⟩
theorem a4X {l:List Int} {i j:Nat} {x:Int} (h:i≠j):dat (l.set i x) j=dat l j:=by
 unfold dat;rw [lbl,lbl,List.getElem?_set_ne h]
theorem a17 {l:List Int} {i:Nat} {x:Int} (hi:i<l.length):val (l.set i x)=val l+pw i*(x - dat l i):=by
 rw [a2h (lbf hi)];exact b7j (lbf hi)
theorem a7R.step {a b out:List Int} {i:Nat} {c:Int} (h:a7R a b i out c) (ha:Okd a) (hb:Okd b) (hi:i<a.length):
 a7R a b (i+1) (out.set i ((c+dat a i+dat b i) % 1048576)) ((c+dat a i+dat b i) / 1048576):=by
 have h1:=ha.dat i
 have h2:=hb.dat i
 have h3:=h.c0
 have h4:=h.c1
 have hl:=h.len
 refine ⟨by simp [hl],h.ok.set (a6Q _),hi,fun j hj=>?_,by omega,by omega,?_⟩
 ·rw [a4X (by omega)];exact h.zero j (by omega)
 ·rw [a17 (by omega),h.zero i (lbS _),p4,p4,G9]
  have h5:=h.eq
  have h6:(c+dat a i+dat b i) % 1048576=c+dat a i+dat b i - 1048576*((c+dat a i+dat b i) / 1048576):=by omega
  rw [h6]
  grind
theorem a7R.fin {a b out:List Int} {c:Int} (h:a7R a b a.length out c) (hl:b.length<=a.length):K7 (out.set a.length c)=dg (val a+val b).toNat:=by
 have h1:=h.c0
 have h2:=h.c1
 have h3:=h.eq
 have hl:=h.len
 rw [R7 (h.ok.set (by omega)),a17 (by omega),h.zero _ (lbS _)]
 rw [Y8,lbn (by omega)] at h3
 congr 2
 grind
structure am5 (a b:List Int) (i:Nat) (out:List Int) (c:Int):Prop where
 len:out.length=a.length
 ok:Okd out
 le:i<=a.length
 rest:∀j,i<=j->dat out j=dat a j
 c0:0<=c
 c1:c<=1
 eq:val out - pw i*c=val a - val (b.take i)
theorem am5.init {a b:List Int} (ha:Okd a):am5 a b 0 a 0:=⟨rfl,ha,D5 _,fun _ _=>rfl,by decide,by decide,by simp [val]⟩
theorem am5.step {a b out:List Int} {i:Nat} {c:Int} (h:am5 a b i out c) (ha:Okd a) (hb:Okd b) (hi:i<a.length):
 am5 a b (i+1) (out.set i ((dat out i - c - dat b i) % 1048576)) ((dat out i - c - dat b i) / 1048576 % 2):=by
 have h1:=h.ok.dat i
 have h2:=hb.dat i
 have h3:=h.c0
 have h4:=h.c1
 have hl:=h.len
 refine ⟨by simp [hl],h.ok.set (a6Q _),hi,fun j hj=>?_,by omega,by omega,?_⟩
 ·rw [a4X (by omega)];exact h.rest j (by omega)
 ·rw [a17 (by omega),p4,G9]
  have h5:=h.eq
  have h6:(dat out i - c - dat b i) % 1048576=dat out i - c - dat b i+1048576*((dat out i - c - dat b i) / 1048576 % 2):=by omega
  rw [h6]
  grind
theorem am5.fin {a b out:List Int} {c:Int} (h:am5 a b a.length out c) (hl:b.length<=a.length) (hv:val b<=val a):K7 out=dg (val a - val b).toNat:=by
 have h1:=h.c0
 have h2:=h.c1
 have h3:=h.eq
 have hlen:=h.len
 rw [lbn (by omega)] at h3
 have h4:=Y1 h.ok
 rw [hlen] at h4
 rw [R7 h.ok]
 rcases a6m 0 c with h5|h5
 ·have:c=1:=by omega
  subst this;omega
 ·have:c=0:=by omega
  subst this
  congr 2;omega
structure am6 (a b:List Int) (i k:Nat) (out:List Int) (c:Int):Prop where
 len:out.length=a.length+b.length
 ok:Okd out
 le:k<=b.length
 zero:∀j,i+b.length<=j->dat out j=0
 c0:0<=c
 c1:c<1048576
 eq:val out+pw (i+k)*c=val (a.take i)*val b+pw i*dat a i*val (b.take k)
structure a7v (a b:List Int) (i:Nat) (out:List Int):Prop where
 len:out.length=a.length+b.length
 ok:Okd out
 le:i<=a.length
 zero:∀j,i+b.length<=j->dat out j=0
 eq:val out=val (a.take i)*val b
theorem a7v.init (a b:List Int):a7v a b 0 (List.replicate (a.length+b.length) 0):=
 ⟨by simp,.zeros _,D5 _,fun j _=>by unfold dat;rw [lbl,lbk];split<;>rfl,by rw [a7Y];simp [val]⟩
theorem a7v.start {a b out:List Int} {i:Nat} (h:a7v a b i out):am6 a b i 0 out 0:=
 ⟨h.len,h.ok,D5 _,h.zero,by decide,by decide,by rw [h.eq];simp [val]⟩
theorem a4P {x y:Int} (hx:0<=x∧x<1048576) (hy:0<=y∧y<1048576):0<=x*y∧x*y<=1048575*1048575:=
 ⟨lb0 hx.1 hy.1,a6i (by omega) (by omega) hy.1 (by decide)⟩
theorem am6.step {a b out:List Int} {i k:Nat} {c:Int} (h:am6 a b i k out c) (ha:Okd a) (hb:Okd b) (hi:i<a.length) (hk:k<b.length):
 am6 a b i (k+1) (out.set (i+k) ((dat out (i+k)+dat a i*dat b k+c) % 1048576)) ((dat out (i+k)+dat a i*dat b k+c) / 1048576):=by
 have h1:=h.ok.dat (i+k)
 have h2:=a4P (ha.dat i) (hb.dat k)
 have h3:=h.c0
 have h4:=h.c1
 have hl:=h.len
 refine ⟨by simp [hl],h.ok.set (a6Q _),hk,fun j hj=>?_,by omega,by omega,?_⟩
 ·rw [a4X (by omega)];exact h.zero j (by omega)
 ·rw [a17 (by omega),p4,show i+(k+1)=i+k+1 by omega,G9]
  have h5:=h.eq
  have h6:(dat out (i+k)+dat a i*dat b k+c) % 1048576=dat out (i+k)+dat a i*dat b k+c - 1048576*((dat out (i+k)+dat a i*dat b k+c) / 1048576):=by omega
  rw [h6]
  have h7:=a7G i k
  grind
theorem am6.done {a b out:List Int} {i:Nat} {c:Int} (h:am6 a b i b.length out c) (ha:Okd a) (hb:Okd b) (hi:i<a.length):
 a7v a b (i+1) (out.set (i+b.length) (dat out (i+b.length)+c)):=by
 have h3:=h.c0
 have h4:=h.c1
 have hl:=h.len
 have h8:=h.zero _ (lbS _)
 refine ⟨by simp [hl],h.ok.set (by omega),hi,fun j hj=>?_,?_⟩
 ·rw [a4X (by omega)];exact h.zero j (by omega)
 ·rw [a17 (by omega),p4]
  have h5:=h.eq
  rw [Y8] at h5
  grind
theorem a7v.fin {a b out:List Int} (h:a7v a b a.length out):K7 out=dg (val a*val b).toNat:=by
 rw [R7 h.ok,h.eq,Y8]
structure a1Y (a:List Int) (d:Int) (j:Nat) (out:List Int) (r:Int):Prop where
 len:out.length=a.length
 ok:Okd out
 le:j<=a.length
 r0:0<=r
 r1:r<d
 eq:val (a.drop j)=d*val (out.drop j)+r
theorem a1Y.init (a:List Int) {d:Int} (hd:0<d):a1Y a d a.length (List.replicate a.length 0) 0:=
 ⟨by simp,.zeros _,lbS _,by decide,hd,by simp [val]⟩
theorem ah8 {l:List Int} {i:Nat} (h:i<l.length):val (l.drop i)=dat l i+1048576*val (l.drop (i+1)):=by
 rw [a2h (lbf h)];exact a4F (lbf h)
theorem a6P {l:List Int} {i:Nat} {x:Int} (h:i<l.length):dat (l.set i x) i=x:=by
 unfold dat;rw [lbl,List.getElem?_set_self h];rfl
theorem a1Y.step {a out:List Int} {d r:Int} {j:Nat} (h:a1Y a d (j+1) out r) (ha:Okd a) (hd:0<d):
 a1Y a d j (out.set j ((r*1048576+dat a j) / d)) ((r*1048576+dat a j) % d):=by
 have h1:=ha.dat j
 have h3:=h.r0
 have h4:=h.r1
 have hl:=h.len
 have hle:=h.le
 have h6:0<=(r*1048576+dat a j) / d:=Int.ediv_nonneg (by omega) (by omega)
 have h7:(r*1048576+dat a j) / d<1048576:=by
  apply Int.ediv_lt_of_lt_mul hd
  have:=lbW (a:=r+1) (b:=d) (c:=1048576) (by omega) (by omega)
  omega
 refine ⟨by simp [hl],h.ok.set ⟨h6,h7⟩,by omega,ag1 _ (by omega),aC7 _ hd,?_⟩
 rw [ah8 (by omega),ah8 (l:=out.set j _) (by simp;omega),a6P (by omega),List.drop_set_of_lt (by omega),h.eq]
 have h8:=Int.emod_add_mul_ediv (r*1048576+dat a j) d
 grind
theorem a1Y.fin {a out:List Int} {d r:Int} (h:a1Y a d 0 out r) (ha:Okd a) (hd:0<d):K7 out=dg (val a / d).toNat∧r=val a % d:=by
 have h3:=h.r0
 have h4:=h.r1
 have h5:=h.eq
 simp only [ai9] at h5
 rw [R7 h.ok]
 have e1:val a / d=val out:=by rw [h5];rw [af3,Int.add_mul_ediv_left _ _ (by omega),Int.ediv_eq_zero_of_lt h3 h4];omega
 have e2:val a % d=r:=by rw [h5,af3,Int.add_mul_emod_self_left,ad2 h3 h4]
 exact ⟨by rw [e1],e2.symm⟩
structure a94 (w v:List Int) (g:Int) (i:Nat) (out:List Int) (c:Int):Prop where
 len:out.length=w.length
 ok:Okd out
 le:i<=w.length
 rest:∀j,i<=j->dat out j=dat w j
 c0:0<=c
 c1:c<1048576
 eq:val out - pw i*c=val w - g*val (v.take i)
theorem a94.init {w v:List Int} (g:Int) (hw:Okd w):a94 w v g 0 w 0:=⟨rfl,hw,D5 _,fun _ _=>rfl,by decide,by decide,by simp [val]⟩
theorem a94.step {w v out:List Int} {g:Int} {i:Nat} {c:Int} (h:a94 w v g i out c) (hv:Okd v) (hg:0<=g∧g<1048576) (hi:i<w.length):
 a94 w v g (i+1) (out.set i ((dat out i - c - g*dat v i) % 1048576)) (-((dat out i - c - g*dat v i) / 1048576)):=by
 have h1:=h.ok.dat i
 have h2:=a4P hg (hv.dat i)
 have h3:=h.c0
 have h4:=h.c1
 have hl:=h.len
 refine ⟨by simp [hl],h.ok.set (a6Q _),hi,fun j hj=>?_,by omega,by omega,?_⟩
 ·rw [a4X (by omega)];exact h.rest j (by omega)
 ·rw [a17 (by omega),p4,G9]
  have h5:=h.eq
  have h6:(dat out i - c - g*dat v i) % 1048576=dat out i - c - g*dat v i - 1048576*((dat out i - c - g*dat v i) / 1048576):=by omega
  rw [h6]
  grind
structure a6v (w v:List Int) (i:Nat) (out:List Int) (c:Int):Prop where
 len:out.length=w.length
 ok:Okd out
 le:i<=w.length
 rest:∀j,i<=j->dat out j=dat w j
 c0:0<=c
 c1:c<=1
 eq:val out+pw i*c=val w+val (v.take i)
theorem a6v.init {w v:List Int} (hw:Okd w):a6v w v 0 w 0:=⟨rfl,hw,D5 _,fun _ _=>rfl,by decide,by decide,by simp [val]⟩
theorem a6v.step {w v out:List Int} {i:Nat} {c:Int} (h:a6v w v i out c) (hv:Okd v) (hi:i<w.length):
 a6v w v (i+1) (out.set i ((c+dat out i+dat v i) % 1048576)) ((c+dat out i+dat v i) / 1048576):=by
 have h1:=h.ok.dat i
 have h2:=hv.dat i
 have h3:=h.c0
 have h4:=h.c1
 have hl:=h.len
 refine ⟨by simp [hl],h.ok.set (a6Q _),hi,fun j hj=>?_,by omega,by omega,?_⟩
 ·rw [a4X (by omega)];exact h.rest j (by omega)
 ·rw [a17 (by omega),p4,G9]
  have h5:=h.eq
  have h6:(c+dat out i+dat v i) % 1048576=c+dat out i+dat v i - 1048576*((c+dat out i+dat v i) / 1048576):=by omega
  rw [h6]
  grind
theorem a94.zero {w v out:List Int} {g c:Int} (h:a94 w v g w.length out c) (hl:v.length<=w.length) (hw:Okd w) (hv:Okd v) (hg:0<=g):
 (c=0↔g*val v<=val w)∧(c=0->val out=val w - g*val v):=by
 have h3:=h.c0
 have h5:=h.eq
 rw [lbn (by omega)] at h5
 have h6:=Y1 h.ok
 have h7:=o7 h.ok
 rw [h.len] at h6
 have h8:=P3 w.length
 have h9:0<c->pw w.length<=pw w.length*c:=fun hc=>by
  have:=lbW (a:=1) (b:=c) (c:=pw w.length) (by omega) (by omega)
  omega
 constructor
 ·constructor
  ·rintro rfl;omega
  ·intro h10
   rcases a6m 0 c with h11|h11
   ·have:=h9 h11;omega
   ·omega
 ·rintro rfl;omega
theorem a94.back {w v out out':List Int} {g c c':Int} (h:a94 w v g w.length out c) (h':a6v out v w.length out' c') (hl:v.length<=w.length)
 (h1:0<=val w - g*val v+val v) (h2:val w - g*val v+val v<pw w.length):val out'=val w - g*val v+val v:=by
 have h5:=h.eq
 have h6:=h'.eq
 rw [lbn (by omega)] at h5 h6
 have h7:=Y1 h'.ok
 have h8:=o7 h'.ok
 rw [h'.len,h.len] at h7
 have h9:=P3 w.length
 have e:val out'+pw w.length*(c' - c)=val w - g*val v+val v:=by grind
 rcases a8u (c' - c) 0 with hc|hc|hc
 ·have:=lbW (a:=c' - c) (b:=-1) (c:=pw w.length) (by omega) (by omega)
  omega
 ·rw [hc] at e;omega
 ·have:=lbW (a:=1) (b:=c' - c) (c:=pw w.length) (by omega) (by omega)
  omega
structure Win (P V W v1 v2 top u2:Int):Prop where
 P0:0<P
 v1l:524288<=v1
 v1u:v1<1048576
 v20:0<=v2
 v2u:v2<1048576
 u20:0<=u2
 u2u:u2<1048576
 t0:0<=top
 tu:top<1048576*1048576
 Vl:P*(v1*1048576+v2)<=V
 Vu:V<P*(v1*1048576+v2)+P
 Wl:P*(top*1048576+u2)<=W
 Wu:W<P*(top*1048576+u2)+P
 lt:W<V*1048576
theorem Win.V0 {P V W v1 v2 top u2:Int} (h:Win P V W v1 v2 top u2):0<V:=by
 have h1:=h.Vl
 have h2:=h.P0
 have h3:=h.v1l
 have h4:=h.v20
 have:=Int.mul_pos h2 (b:=v1*1048576+v2) (by omega)
 omega
structure U2 (V W v1 top g r:Int):Prop where
 g0:0<=g
 gu:g<=2097152
 r0:0<=r
 ru:r<2097152
 eq:g*v1+r=top
 hi:W<(g+1)*V
theorem U2.init {P V W v1 v2 top u2:Int} (h:Win P V W v1 v2 top u2):U2 V W v1 top (top / v1) (top % v1):=by
 have h1:=h.v1l
 have h2:=h.v1u
 have h3:=h.t0
 have h4:=h.tu
 have h5:=ag1 top (b:=v1) (by omega)
 have h6:=aC7 top (b:=v1) (by omega)
 have h7:=Int.mul_ediv_add_emod top v1
 have h8:0<=top / v1:=Int.ediv_nonneg h3 (by omega)
 have hq:top / v1*v1+top % v1=top:=by rw [ak8];exact h7
 refine ⟨h8,?_,h5,by omega,hq,?_⟩
 ·have h9:=lbW (a:=524288) (b:=v1) (c:=top / v1) h1 h8
  omega
 ·have hW:=h.Wu
  have hV:=h.Vl
  have hP:=h.P0
  have h20:=h.v20
  have hu:=h.u2u
  have e1:(top / v1+1)*(P*(v1*1048576+v2))<=(top / v1+1)*V:=lbW hV (by omega)
  have e2:top*1048576+u2+1<=(top / v1+1)*(v1*1048576+v2):=by
   have:0<=(top / v1+1)*v2:=lb0 (by omega) h20
   have e3:(top / v1+1)*v1≥top+1:=by grind
   grind
  have e4:=lbW (c:=P) e2 (by omega)
  grind
theorem U2.dec {P V W v1 v2 top u2 g r:Int} (h:Win P V W v1 v2 top u2) (hg:U2 V W v1 top g r) (hc:1048576<=g∨(r<1048576∧r*1048576+u2<g*v2)):
 W<g*V:=by
 have hV0:=h.V0
 rcases hc with hc|⟨hr,hc⟩
 ·have:=lbX (a:=1048576) (b:=g) (c:=V) hc (by omega)
  have:=h.lt
  omega
 ·have hW:=h.Wu
  have e1:g*(P*(v1*1048576+v2))<=g*V:=lbW h.Vl hg.g0
  have e2:top*1048576+u2+1<=g*(v1*1048576+v2):=by
   have:=hg.eq
   grind
  have e4:=lbW (c:=P) e2 (J8 h.P0)
  grind
theorem U2.small {P V W v1 v2 top u2 g r:Int} (h:Win P V W v1 v2 top u2) (hg:U2 V W v1 top g r) (hc:1048576<=g):r<1048576:=by
 have h1:=h.Wl
 have h2:=h.lt
 have h3:=h.Vu
 have hP:=h.P0
 have e1:P*(top*1048576+u2)<P*((v1*1048576+v2+1)*1048576):=by grind
 have e2:top*1048576+u2<(v1*1048576+v2+1)*1048576:=b0k e1 (J8 hP)
 have h4:=h.u20
 have h5:=hg.eq
 have h6:=lbX (a:=1048576) (b:=g) (c:=v1) hc (by have:=h.v1l;omega)
 have h7:=h.v2u
 omega
theorem U2.step {P V W v1 v2 top u2 g r:Int} (h:Win P V W v1 v2 top u2) (hg:U2 V W v1 top g r) (hc:1048576<=g∨(r<1048576∧r*1048576+u2<g*v2))
 (hW0:0<=W):U2 V W v1 top (g - 1) (r+v1):=by
 have h1:=U2.dec h hg hc
 have hV0:=h.V0
 have hg0:0<g:=by
  rcases a6m 0 g with h2|h2
  ·exact h2
  ·have:=hg.g0
   have:g=0:=by omega
   subst this;omega
 have h2:=hg.gu
 have h3:=hg.r0
 have h4:=h.v1l
 have h5:=h.v1u
 have h6:=hg.eq
 have h7:r<1048576:=by
  rcases hc with hc|hc
  ·exact U2.small h hg hc
  ·exact hc.1
 exact ⟨by omega,by omega,by omega,by omega,by grind,by grind⟩
theorem U2.fin {P V W v1 v2 top u2 g r:Int} (h:Win P V W v1 v2 top u2) (hg:U2 V W v1 top g r) (hc:¬(1048576<=g∨(r<1048576∧r*1048576+u2<g*v2)))
 (hP:P*1048576<=V):g<1048576∧g*V<=W+V:=by
 have hg1:g<1048576:=by omega
 refine ⟨hg1,?_⟩
 have h0:=hg.g0
 have h20:=h.v20
 have h2u:=h.v2u
 have hu0:=h.u20
 have e1:g*v2<=r*1048576+u2:=by
  rcases a6m r 1048576 with hr|hr
  ·omega
  ·have:=a4P ⟨h0,hg1⟩ ⟨h20,h2u⟩
   omega
 have e2:g*(v1*1048576+v2)<=top*1048576+u2:=by
  have:=hg.eq
  grind
 have e3:=lbW (c:=P) e2 (J8 h.P0)
 have e4:g*V<=g*(P*(v1*1048576+v2)+P):=lbW (J8 h.Vu) h0
 have e5:g*P<=1048576*P:=lbX (J8 hg1) (J8 h.P0)
 have hW:=h.Wl
 grind
structure Bg where
 sg:Int
 dl:List Int
def bz (z:Int):Bg:=⟨z.sign,dg z.natAbs⟩
def inD (d:Int):Bool:=decide (0<=d) && decide (d<=1048575)
def M7 (b:Bg):Bool:=b.dl.all inD && (if b.dl.length=0 then b.sg == 0 else (b.sg == 1 || b.sg == -1) && !(dat b.dl (b.dl.length - 1) == 0))
def bv (b:Bg):Int:=b.sg*val b.dl
theorem b1B {l:List Int}:l.all inD=true↔Okd l:=by
 simp only [lbw,inD,lbO,lbJ]
 exact ⟨fun h d hd=>by have:=h d hd;omega,fun h d hd=>by have:=h d hd;omega⟩
theorem a6B (z:Int):bv (bz z)=z:=by
 unfold bv bz
 rw [u7]
 exact b0A z
theorem b6P {b:Bg} (h:M7 b=true):b=bz (bv b):=by
 unfold M7 at h
 rw [lbO,b1B] at h
 obtain ⟨h1,h2⟩:=h
 obtain ⟨sg,dl⟩:=b
 simp only at h1 h2
 have hv:=o7 h1
 by_cases hl:dl.length=0
 ·rw [if_pos hl] at h2
  have:dl=[]:=lbG hl
  subst this
  have:sg=0:=by simpa using h2
  subst this
  rfl
 ·rw [if_neg hl,lbO] at h2
  have hc:Can dl:=⟨h1,fun x hx=>by rw [a2h hx] at h2;simpa using h2.2⟩
  have h3:=b1b hc
  have hp:0<val dl:=by
   rcases a6m 0 (val dl) with h4|h4
   ·exact h4
   ·have:val dl=0:=by omega
    rw [this] at h3
    rw [h3] at hl
    exact absurd rfl hl
  have hs:sg=1∨sg=-1:=by simpa using h2.1
  have ha:(sg*val dl).natAbs=(val dl).toNat:=by
   rcases hs with rfl|rfl<;>omega
  have hg:(sg*val dl).sign=sg:=by
   rcases hs with rfl|rfl
   ·rw [a82];exact a1T hp
   ·exact a5F (by omega)
  unfold bz bv
  simp only
  rw [ha,hg,←h3]
theorem a2k (z:Int):M7 (bz z)=true:=by
 unfold M7
 rw [lbO,b1B]
 refine ⟨x7 _,?_⟩
 by_cases hl:(bz z).dl.length=0
 ·rw [if_pos hl]
  have h0:dg z.natAbs=[]:=lbG hl
  have:z=0:=by have:=Q9.1 h0;omega
  subst this;rfl
 ·rw [if_neg hl]
  have hz:z≠0:=by rintro rfl;exact hl rfl
  have hl0:(dg z.natAbs).length - 1<(dg z.natAbs).length:=by have:(dg z.natAbs).length≠0:=hl;omega
  have h1:=(a15 z.natAbs).2 _ (lbf hl0)
  have h2:dat (bz z).dl ((bz z).dl.length - 1)≠0:=by
   show dat (dg z.natAbs) ((dg z.natAbs).length - 1)≠0
   rw [a2h (lbf hl0)];exact h1
  rw [lbO]
  refine ⟨?_,by simpa using h2⟩
  show ((z.sign == 1) || (z.sign == -1))=true
  rcases a8u z 0 with h|h|h
  ·rw [a5F h];rfl
  ·exact absurd h hz
  ·rw [a1T h];rfl
theorem aM4 {z:Int}:(bz z).sg=z.sign:=rfl
structure Fr where
 p:Bg
 q:Bg
def fz (x:Rat):Fr:=⟨bz x.num,bz x.den⟩
def o6 (f:Fr):Bool:=M7 f.p && M7 f.q && (f.q.sg == 1) && (Int.gcd (bv f.p) (bv f.q) == 1)
def fv (f:Fr):Rat:=mkRat (bv f.p) (bv f.q).toNat
theorem a9V (x:Rat):o6 (fz x)=true:=by
 unfold o6 fz
 simp only [a2k,a6B,F7,lbO]
 have hd:=x.den_pos
 refine ⟨?_,?_⟩
 ·rw [aM4,a1T (by omega)];rfl
 ·have:=x.reduced
  simp only [Int.gcd,b06]
  rw [this];rfl
theorem bh1 {f:Fr} (h:o6 f=true):f=fz (fv f):=by
 unfold o6 at h
 simp only [lbO,beq_iff_eq] at h
 obtain ⟨⟨⟨h1,h2⟩,h3⟩,h4⟩:=h
 have e1:=b6P h1
 have e2:=b6P h2
 rw [e2,aM4] at h3
 have hq:0<bv f.q:=Int.sign_eq_one_iff_pos.1 h3
 have hr:Nat.Coprime (bv f.p).natAbs (bv f.q).toNat:=by
  have:(bv f.q).natAbs=(bv f.q).toNat:=by omega
  rw [← this];exact h4
 have e3:fv f=⟨bv f.p,(bv f.q).toNat,by omega,hr⟩:=(Rat.mk_eq_mkRat _ _ _ _).symm
 rw [e3]
 unfold fz
 simp only
 rw [← e1,show (((bv f.q).toNat:Nat):Int)=bv f.q by omega,←e2]
theorem bi4 (x:Rat):fv (fz x)=x:=by
 unfold fv fz
 simp only [a6B,lbY]
 exact Rat.mkRat_self x
theorem ar5 {p q g:Int} (hq:0<q) (hg:g=Int.gcd p q):fz (Rat.divInt p q)=⟨bz (p / g),bz (q / g)⟩:=by
 unfold fz
 rw [Rat.num_divInt,Rat.den_divInt,if_neg (by omega),a1T hq,a82,Int.gcd_comm q p,←hg]
 congr 2
 rw [hg]
 have:((q.natAbs / Int.gcd p q:Nat):Int)=(q.natAbs:Int) / (Int.gcd p q:Int):=by simp
 rw [this,show (q.natAbs:Int)=q by omega]
structure a99 (U V N L:Nat) (j:Nat) (u q:List Int):Prop where
 lu:u.length=N
 oku:Okd u
 lq:q.length=N - L
 okq:Okd q
 le:j<=N - L
 eq:val (q.drop j)*pw j*V+val u=U
 lt:val u<V*pw j
theorem a99.init {U V:Nat} (hV:0<V) (hl:(dg V).length<=(dg U).length+1):a99 U V ((dg U).length+1) (dg V).length ((dg U).length+1 - (dg V).length) (dg U++[0]) (List.replicate ((dg U).length+1 - (dg V).length) 0):=by
 have h1:=aH6 hV
 have h2:=N9 U
 have hv:val (dg U++[0])=U:=by rw [O4,u7];simp [val]
 have hL:(dg V).length≠0:=by rw [Ne,a22,Q9];omega
 refine ⟨by simp,(x7 U).append (by intro x hx;simp at hx;omega),by simp,.zeros _,lbS _,?_,?_⟩
 ·rw [lbo (by simp),hv];simp [val]
 ·rw [hv]
  have h3:=lbX (a:=pw ((dg V).length - 1)) (b:=V) (c:=pw ((dg U).length+1 - (dg V).length)) h1 (J8 (P3 _))
  rw [← a7G,show (dg V).length - 1+((dg U).length+1 - (dg V).length)=(dg U).length by omega] at h3
  omega
theorem a99.window {U V N L j:Nat} {u q:List Int} (h:a99 U V N L (j+1) u q) (hL:(dg V).length=L):
 u=u.take j++(u.drop j).take (L+1)++u.drop (j+(L+1))∧((u.drop j).take (L+1)).length=L+1∧(u.take j).length=j∧
 val u=val (u.take j)+pw j*val ((u.drop j).take (L+1))∧val (u.drop (j+(L+1)))=0∧val ((u.drop j).take (L+1))<V*1048576:=by
 have h1:=h.lu
 have h2:=h.le
 have h3:=h.lt
 have hp:=P3 j
 have e0:(u.take j).length=j:=by simp;omega
 have e1:u.drop j=(u.drop j).take (L+1)++u.drop (j+(L+1)):=by rw [← List.drop_drop,lb6]
 have e2:((u.drop j).take (L+1)).length=L+1:=by simp;omega
 have e3:u=u.take j++(u.drop j).take (L+1)++u.drop (j+(L+1)):=by rw [lbE,←e1,lb6]
 have hv:=a7x u j (by omega)
 have hw:=O4 ((u.drop j).take (L+1)) (u.drop (j+(L+1)))
 rw [← e1,e2] at hw
 have h4:=o7 (h.oku.take j)
 have h5:=o7 ((h.oku.drop j).take (L+1))
 have h6:=o7 (h.oku.drop (j+(L+1)))
 have hVp:=N9 V
 rw [hL] at hVp
 have hz:val (u.drop (j+(L+1)))=0:=by
  rcases a6m 0 (val (u.drop (j+(L+1)))) with h7|h7
  ·exfalso
   have a1:=lbW (a:=1) (b:=val (u.drop (j+(L+1)))) (c:=pw (L+1)) (by omega) (J8 (P3 _))
   have a2:=lbW (a:=pw (L+1)) (b:=val (u.drop j)) (c:=pw j) (by omega) (J8 hp)
   have a3:=lbX (a:=(V:Int)) (b:=pw L) (c:=pw (j+1)) (J8 hVp) (J8 (P3 _))
   have a4:pw j*pw (L+1)=pw L*pw (j+1):=by rw [← a7G,←a7G];congr 1;omega
   omega
  ·omega
 rw [hz,Int.mul_zero,Int.add_zero] at hw
 rw [hw] at hv
 refine ⟨e3,e2,e0,hv,hz,?_⟩
 have a5:pw j*val ((u.drop j).take (L+1))<pw j*(V*1048576):=by
  rw [G9] at h3
  have:(V:Int)*(pw j*1048576)=pw j*(V*1048576):=by grind
  omega
 exact b0k a5 (J8 hp)
theorem av9 (l:List Int):K7 l++List.replicate (l.length - (K7 l).length) 0=l:=by
 induction l with
 |nil=>rfl
 |cons d r ih=>
  rw [K7]
  split
  ·rename_i h
   rw [h.1] at ih
   rw [h.2]
   simp only [a8T,a5n,Nat.sub_zero,lbu,ad6] at ih ⊢
   rw [ih]
  ·simp only [ag2,lbu,Nat.add_sub_add_right]
   rw [ih]
def X7 (n:Nat) (l:List Int):List Int:=l++List.replicate (n - l.length) 0
theorem b1Y {l:List Int} (h:Okd l) {n:Nat} (hn:l.length=n):l=X7 n (dg (val l).toNat):=by
 subst hn
 have:=av9 l
 rw [R7 h] at this
 exact this.symm
theorem b8n (n:Nat) (l:List Int):val (X7 n l)=val l:=by unfold X7;rw [O4,a7Y];simp
theorem aw7 {n:Nat} {l:List Int} (h:l.length<=n):(X7 n l).length=n:=by unfold X7;simp;omega
theorem b5O {n:Nat} {l:List Int} (h:Okd l):Okd (X7 n l):=h.append (.zeros _)
theorem Win.of {v w:List Int} {L:Nat} (hv:Okd v) (hw:Okd w) (lv:v.length=L+2) (lw:w.length=L+3) (ht:524288<=dat v (L+1)) (hlt:val w<val v*1048576):
 Win (pw L) (val v) (val w) (dat v (L+1)) (dat v L) (dat w (L+2)*1048576+dat w (L+1)) (dat w L):=by
 have v1:=p4 v (L+1)
 have v2:=p4 v L
 have w1:=p4 w (L+2)
 have w2:=p4 w (L+1)
 have w3:=p4 w L
 rw [lbn (by omega)] at v1 w1
 have a1:=o7 (hv.take L)
 have a2:=Y1 (hv.take L)
 have a3:=o7 (hw.take L)
 have a4:=Y1 (hw.take L)
 rw [lbs,a12 (by omega)] at a2 a4
 have d1:=hv.dat (L+1)
 have d2:=hv.dat L
 have d3:=hw.dat (L+2)
 have d4:=hw.dat (L+1)
 have d5:=hw.dat L
 have p1:=G9 L
 have p2:=G9 (L+1)
 have e1:val v=pw L*(dat v (L+1)*1048576+dat v L)+val (v.take L):=by grind
 have e2:val w=pw L*((dat w (L+2)*1048576+dat w (L+1))*1048576+dat w L)+val (w.take L):=by grind
 exact ⟨P3 L,ht,by omega,by omega,by omega,by omega,by omega,by omega,by omega,by omega,by omega,by omega,by omega,hlt⟩
theorem a99.step {U V N L j:Nat} {u q:List Int} (h:a99 U V N L (j+1) u q) (hL:(dg V).length=L) (hV:0<V) {Q:Int} (hQ:0<=Q∧Q<1048576)
 (hr0:0<=val ((u.drop j).take (L+1)) - Q*V) (hr1:val ((u.drop j).take (L+1)) - Q*V<V):
 a99 U V N L j (u.take j++X7 (L+1) (dg (val ((u.drop j).take (L+1)) - Q*V).toNat)++u.drop (j+(L+1))) (q.set j Q):=by
 obtain ⟨e3,e2,e0,hv,hz,hW⟩:=h.window hL
 have h1:=h.lu
 have h2:=h.le
 have h3:=h.lq
 have hVp:=N9 V
 rw [hL] at hVp
 have hmono:=a1F (Nat.le_succ L)
 have lp:(dg (val ((u.drop j).take (L+1)) - Q*V).toNat).length<=L+1:=M5 (by have:pw L<=pw (L+1):=hmono;omega)
 have hpl:=aw7 lp
 have hvp:val (X7 (L+1) (dg (val ((u.drop j).take (L+1)) - Q*V).toNat))=val ((u.drop j).take (L+1)) - Q*V:=by
  rw [b8n,u7,lbZ hr0]
 have hu':val (u.take j++X7 (L+1) (dg (val ((u.drop j).take (L+1)) - Q*V).toNat)++u.drop (j+(L+1)))=val (u.take j)+pw j*(val ((u.drop j).take (L+1)) - Q*V):=by
  rw [O4,hz,O4,hvp,e0];simp
 have hp:=P3 j
 have hlt:=Y1 (h.oku.take j)
 rw [e0] at hlt
 refine ⟨?_,((h.oku.take j).append (b5O (x7 _))).append (h.oku.drop _),by simp [h3],h.okq.set hQ,by omega,?_,?_⟩
 ·simp only [lbq,hpl,e0,a3Q];omega
 ·rw [hu',ah8 (by simp;omega),a6P (by omega),List.drop_set_of_lt (by omega)]
  have h4:=h.eq
  rw [hv,G9] at h4
  grind
 ·rw [hu']
  have h5:=lbW (a:=val ((u.drop j).take (L+1)) - Q*V) (b:=(V:Int) - 1) (c:=pw j) (by omega) (by omega)
  have h6:pw j*((V:Int) - 1)=V*pw j - pw j:=by grind
  omega
theorem a99.fin {U V N L:Nat} {u q:List Int} (h:a99 U V N L 0 u q) (hV:0<V):val q=(U / V:Nat)∧val u=(U % V:Nat):=by
 have h1:=h.eq
 have h2:=h.lt
 simp only [ai9,b7v,Int.mul_one] at h1 h2
 have h3:=o7 h.oku
 have h4:=o7 h.okq
 obtain ⟨Q,hQ⟩:=a5N h4
 obtain ⟨R,hR⟩:=a5N h3
 rw [hQ,hR] at h1
 rw [hR] at h2
 have e:U=R+Q*V:=by
  have:((R+Q*V:Nat):Int)=(U:Int):=by rw [← h1];simp [af3]
  omega
 have hlt:R<V:=by omega
 rw [hQ,hR,e,Nat.add_mul_div_right _ _ hV,Nat.div_eq_of_lt hlt,Nat.add_mul_mod_self_right,b2l hlt]
 simp
open St1 St2 St3 St4 St5 St6 St7 St8 StA StB
set_option maxRecDepth 100000
abbrev bgC (b:Bg):List C:=[.t (ti b.sg),.t (I3 b.dl)]
abbrev bgS (b:Bg):S:=.agg (bgC b)
abbrev bgB (b:Bg):Blk:={ mode:=.live,elem:=81,size:=2,rows:=[bgC b],box:=true }
theorem a4g (b:Bg):H4 [bgC b]:=by
 intro r hr c hc
 simp at hr
 subst hr
 simp [bgC] at hc
 rcases hc with rfl|rfl<;>rfl
theorem w6 {l:List Int} {i:Nat} (h:i<l.length):l[i]? =some (dat l i):=by
 unfold dat;rw [lbl,lbf h];rfl
theorem a9L {l:List Int} (h:0<l.length):l[((l.length:Int) - 1).toNat]? =some (dat l (l.length - 1)):=by
 rw [show ((l.length:Int) - 1).toNat=l.length - 1 by omega];exact w6 (by omega)
theorem a2d {l:List Int} {n:Nat} (h:0<n) (hn:n<=l.length):l[((n:Int) - 1).toNat]? =some (dat l (n - 1)):=by
 rw [show ((n:Int) - 1).toNat=n - 1 by omega];exact w6 (by omega)
theorem a2y (b:Bg) (hl:b.dl.length<=1000000):a8 Tryz.prog 78 [bgS b] [] (d9 (M7 b)) []:=by
 have l2:(b.dl.map i5).length=b.dl.length:=by simp
 (refine ac Tryz.func78 ?_;(conv=>whnf);repeat (refine zy ?_;conv=>whnf))
 repeat' (first|refine zx ?_|refine zd ?_ ?_<;>intro h<;>try omega|fail)<;>conv=>whnf
 refine i3 c9 (fun k=>([J,S.c (C.ptr 0 0 0),J,a7 .i64 b.dl.length,J,J,J,J,J,J,j1 b.dl,a7 .i64 b.dl.length,a7 .i64 k]++Jn 32,[bgB b])) b.dl.length (fun k=>(b.dl.take k).all inD=true) [some 0] rfl
  ⟨rfl,rfl,⟨⟨rfl,rfl,rfl,.inl ⟨rfl,a4g b⟩⟩,trivial⟩,⟨⟨rfl,rfl,rfl⟩,c7 (by simp),i8 rfl,c7 (by simp),c7 rfl,trivial⟩⟩ ?_
 intro k hk hI
 conv=>whnf
 repeat' (first|refine zx ?_|refine d6 (w6 (by omega)) ?_|refine N3 (by omega) (a9L (by omega)) ?_|refine zd ?_ ?_<;>intro h<;>try omega|fail)<;>conv=>whnf
 all_goals first
  |(have hlt:k<b.dl.length:=by omega
    refine ⟨hlt,?_,[some 0],rfl,rfl,⟨⟨rfl,rfl,rfl,.inl ⟨rfl,a4g b⟩⟩,trivial⟩,⟨⟨rfl,rfl,rfl⟩,rfl,rfl,rfl,rfl,trivial⟩⟩;rw [x8 (w6 hlt),hI];simp [inD];omega)
  |(have hlt:k<b.dl.length:=by omega
    refine b9 ?_;unfold M7;rw [C2 (w6 hlt) (by simp [inD];omega)];rfl)
  |(have ha:b.dl.all inD=true:=by rw [← hI,lbn (by omega)]
    refine b9 ?_;unfold M7;rw [ha];simp_all;done)
theorem a34 (l:List Int) (hl:l.length<=1000000):a8 Tryz.prog 163 [j1 l] [] (j1 (K7 l)) []:=by
 have l2:(l.map i5).length=l.length:=by simp
 (refine ac Tryz.func163 ?_;(conv=>whnf);repeat (refine zy ?_;conv=>whnf))
 repeat' (first|refine zx ?_|refine zd ?_ ?_<;>intro h<;>try omega|fail)<;>conv=>whnf
 refine t8 c9 (σ:=Nat) (fun n=>([j1 l,J,J,a7 .i64 n]++Jn 17,[])) (fun n=>n<=l.length∧∀j x,n<=j->l[j]? =some x->x=0) (fun n=>n) l.length []
  ⟨lbS _,fun j x hj hx=>by rw [lbd hj] at hx;cases hx⟩ ⟨rfl,rfl,trivial,⟨i8 rfl,c7 (by simp),trivial⟩⟩ ?_
 rintro n ⟨hn,hz⟩
 have hn:n<=l.length:=hn
 conv=>whnf
 repeat' (first|refine zx ?_|refine N3 (by omega) (a2d (by omega) hn) ?_|refine a1A (by omega) (by omega) (by omega) ?_|refine zd ?_ ?_<;>intro h<;>try omega|fail)<;>conv=>whnf
 ·have h0:dat l (n - 1)=0:=by assumption
  have h1:0<n:=by omega
  refine ⟨[],n - 1,⟨rfl,rfl,trivial,⟨rfl,c7 (by omega),trivial⟩⟩,⟨by omega,fun j x hj hxj=>?_⟩,by show n - 1<n;omega⟩
  by_cases hj2:j=n - 1
  ·subst hj2;rw [w6 (by omega)] at hxj;injection hxj with hx;rw [← hx];exact h0
  ·exact hz j x (by omega) hxj
 all_goals
  have e:l.take n=K7 l:=a5V hz (fun x h0 hx=>by
   first
    |omega
    |(rw [w6 (by omega)] at hx;injection hx with hx;rw [← hx];assumption)) hn
  refine ba3 ?_ rfl
  rw [← e]
  simp [List.map_take]
open St1 St2 St3 St4 St5 St6 St7 St8 StA StB
set_option maxRecDepth 100000
theorem b8K (l:List Int) (hl:l.length<=1000000):a8 Tryz.prog 163 [a3z 0 l] [D4 l] (.c (.own 0 0 (K7 l).length true)) [D4 l]:=by
 (refine ac Tryz.func163 ?_;(conv=>whnf);repeat (refine zy ?_;conv=>whnf))
 repeat' (first|refine zx ?_|refine zd ?_ ?_<;>intro h<;>try omega|fail)<;>conv=>whnf
 refine t8 c9 (σ:=Nat) (fun n=>([a3z 0 l,J,J,a7 .i64 n]++Jn 17,[D4 l])) (fun n=>n<=l.length∧∀j x,n<=j->l[j]? =some x->x=0) (fun n=>n) l.length [some 0]
  ⟨lbS _,fun j x hj hx=>by rw [lbd hj] at hx;cases hx⟩ ⟨rfl,rfl,⟨b8 rfl rfl rfl rfl rfl,trivial⟩,⟨o4 rfl rfl,c7 rfl,trivial⟩⟩ ?_
 rintro n ⟨hn,hz⟩
 have hn:n<=l.length:=hn
 have hg:0<n->l[0+((n:Int) - 1).toNat]? =some (dat l (n - 1)):=fun h=>by rw [y3];exact a2d h hn
 conv=>whnf
 repeat' (first|refine zx ?_|refine k7 (hg (by omega)) ?_|refine a1A (by omega) (by omega) (by omega) ?_|refine zd ?_ ?_<;>intro h<;>try omega|fail)<;>conv=>whnf
 ·have h0:dat l (n - 1)=0:=by assumption
  have h1:0<n:=by omega
  refine ⟨[some 0],n - 1,⟨rfl,rfl,⟨b8 rfl rfl rfl rfl rfl,trivial⟩,⟨o4 rfl rfl,c7 (by omega),trivial⟩⟩,⟨by omega,fun j x hj hxj=>?_⟩,by show n - 1<n;omega⟩
  by_cases hj2:j=n - 1
  ·subst hj2;rw [w6 (by omega)] at hxj;injection hxj with hx;rw [← hx];exact h0
  ·exact hz j x (by omega) hxj
 all_goals
  have e:l.take n=K7 l:=a5V hz (fun x h0 hx=>by
   first
    |omega
    |(rw [w6 (by omega)] at hx;injection hx with hx;rw [← hx];assumption)) hn
  have e2:(K7 l).length=n:=by rw [← e];simp;omega
  exact ⟨⟨[some 0],rfl,rfl,⟨b8 rfl rfl rfl rfl rfl,trivial⟩,⟨rfl,rfl,by rw [e2];omega,fun h=>h⟩⟩⟩
theorem aC2 {n:Nat} {K:Prop} (h:0<n) (k:K):0<n∧K:=⟨h,k⟩
theorem a9o (l:List Int) (hl:l.length<=1000000):a8 Tryz.prog 58 [j1 l] [] (j1 l) []:=by
 have l2:(l.map i5).length=l.length:=by simp
 cases l with
 |nil=>
  refine ax4 0 rfl ?_ ?_
  ·(refine ac Tryz.func58 ?_;(conv=>whnf);repeat (refine zy ?_;conv=>whnf))
   repeat' (first|refine zx ?_|refine zd ?_ ?_<;>intro h<;>try omega|fail)<;>conv=>whnf
   exact l9 (show a9d [] _ _ _ from rfl)
  ·(refine ac Tryz.func58 ?_;(conv=>whnf);repeat (refine zy ?_;conv=>whnf))
   repeat' (first|refine zx ?_|refine qp toC ?_|refine aC2 (by simp) ?_|refine sl3_ok (by omega) (by omega) rfl (by omega) ?_|refine a35 rfl (by simp [toC]) ?_|refine zd ?_ ?_<;>intro h<;>try omega|fail)<;>conv=>whnf
   exact V5 rfl (by intro h;cases h) rfl rfl (by simp [toC])
 |cons a r=>
  (refine ac Tryz.func58 ?_;(conv=>whnf);repeat (refine zy ?_;conv=>whnf))
  repeat' (first|refine zx ?_|refine qp toC ?_|refine aC2 (by simp) ?_|refine sl3_ok (by omega) (by omega) rfl (by omega) ?_|refine a35 rfl (by simp [toC] at *;omega) ?_|refine zd ?_ ?_<;>intro h<;>try omega|fail)<;>conv=>whnf
  exact V5 rfl (by intro h;cases h) rfl rfl (by simp [toC])
theorem b4z (l:List Int) (hl:l.length<=1000000):a8 Tryz.prog 58 [j1 l] [] (a3z 0 l) [D4 l]:=by
 have l2:(l.map i5).length=l.length:=by simp
 cases l with
 |nil=>
  refine ax4 0 rfl ?_ ?_
  ·(refine ac Tryz.func58 ?_;(conv=>whnf);repeat (refine zy ?_;conv=>whnf))
   repeat' (first|refine zx ?_|refine zd ?_ ?_<;>intro h<;>try omega|fail)<;>conv=>whnf
   exact ⟨⟨[none],rfl,rfl,⟨⟨rfl,rfl⟩,trivial⟩,⟨rfl,rfl,rfl⟩⟩⟩
  ·(refine ac Tryz.func58 ?_;(conv=>whnf);repeat (refine zy ?_;conv=>whnf))
   repeat' (first|refine zx ?_|refine qp toC ?_|refine aC2 (by simp) ?_|refine sl3_ok (by omega) (by omega) rfl (by omega) ?_|refine a35 rfl (by simp [toC]) ?_|refine zd ?_ ?_<;>intro h<;>try omega|fail)<;>conv=>whnf
   exact ⟨⟨[some 0],rfl,rfl,⟨b8 rfl rfl rfl rfl rfl,trivial⟩,⟨rfl,rfl,by simp [toC],fun h=>h⟩⟩⟩
 |cons a r=>
  (refine ac Tryz.func58 ?_;(conv=>whnf);repeat (refine zy ?_;conv=>whnf))
  repeat' (first|refine zx ?_|refine qp toC ?_|refine aC2 (by simp) ?_|refine sl3_ok (by omega) (by omega) rfl (by omega) ?_|refine a35 rfl (by simp [toC] at *;omega) ?_|refine zd ?_ ?_<;>intro h<;>try omega|fail)<;>conv=>whnf
  exact ⟨⟨[some 0],rfl,rfl,⟨b8 rfl rfl rfl rfl rfl,trivial⟩,⟨rfl,rfl,by simp [toC],fun h=>h⟩⟩⟩
theorem b7P (x:Int):a8 Tryz.prog 172 [a7 .i64 x] [] (d9 false) []:=by
 (refine ac Tryz.func172 ?_;(conv=>whnf);repeat (refine zy ?_;conv=>whnf))
 repeat' (first|refine zx ?_|refine zd ?_ ?_<;>intro h<;>try omega|fail)<;>conv=>whnf
 all_goals first
  |omega
  |exact b9 rfl
def R5 (x y:Int):Int:=if x<y then -1 else if x > y then 1 else 0
theorem a3h (x y:Int):a8 Tryz.prog 129 [a7 .i64 x,a7 .i64 y] [] (a7 .i64 (R5 x y)) []:=by
 (refine ac Tryz.func129 ?_;(conv=>whnf);repeat (refine zy ?_;conv=>whnf))
 repeat' (first|refine zx ?_|refine qp (b7P _) ?_|refine zd ?_ ?_<;>intro h<;>try omega|fail)<;>conv=>whnf
 all_goals first
  |(exfalso;simp_all;done)
  |(refine n6 ?_;unfold R5;split<;>first|omega|(split<;>omega))
theorem a2M (x y:Int):a8 Tryz.prog 132 [.c (.t (.sl 1 .full ([x,y].map i5)))] [] (a7 .i64 (if x=0 then y else x)) []:=by
 (refine ac Tryz.func132 ?_;(conv=>whnf);repeat (refine zy ?_;conv=>whnf))
 repeat' (first|refine zx ?_|refine zd ?_ ?_<;>intro h<;>try omega|fail)<;>conv=>whnf
 refine i3 c9 (fun k=>([J,J,J,a7 .i64 0,J,J,S.c (C.t (T.sl 1 .full ([x,y].map i5))),a7 .i64 2,a7 .i64 k]++Jn 9,[])) 2 (fun k=>∀v ∈ [x,y].take k,v=0) [] (by simp)
  ⟨rfl,rfl,trivial,⟨rfl,i8 rfl,c7 rfl,c7 rfl,trivial⟩⟩ ?_
 intro k hk hI
 conv=>whnf
 repeat' (first|refine zx ?_|refine zd ?_ ?_<;>intro h<;>try omega|fail)<;>conv=>whnf
 ·have hlt:k<2:=by omega
  obtain ⟨v,hv⟩:∃v,[x,y][k]? =some v:=⟨_,lbf (by simpa using hlt)⟩
  refine d6 hv ?_
  conv=>whnf
  repeat' (first|refine zx ?_|refine zd ?_ ?_<;>intro h<;>try omega|fail)<;>conv=>whnf
  ·refine n6 ?_
   match k,hlt with
   |0,_=>simp at hv;subst hv;rw [if_neg (by assumption)]
   |1,_=>simp at hv;subst hv;rw [if_pos (hI x (by simp))]
  ·refine ⟨hlt,?_,[],rfl,rfl,trivial,⟨rfl,rfl,rfl,rfl,trivial⟩⟩
   intro u hu
   rw [lbH,hv] at hu
   rcases lbA.1 hu with hu|hu
   ·exact hI u hu
   ·simp at hu;subst hu;omega
 ·have h1:=hI x (by rw [lbn (by simp;omega)];simp)
  have h2:=hI y (by rw [lbn (by simp;omega)];simp)
  refine n6 ?_
  rw [if_pos h1,h2]
def sgn (s:Int) (l:List Int):Bg:=if (K7 l).length=0 then ⟨0,[]⟩ else ⟨s,K7 l⟩
theorem aV0 (s:Int) (l:List Int) (hl:l.length<=1000000):a8 Tryz.prog 123 [a7 .i64 s,j1 l] [] (bgS (sgn s l)) []:=by
 (refine ac Tryz.func123 ?_;(conv=>whnf);repeat (refine zy ?_;conv=>whnf))
 repeat' (first|refine zx ?_|refine qp (a34 l hl) ?_|refine zd ?_ ?_<;>intro h<;>try omega|fail)<;>conv=>whnf
 ·have h0:(K7 l).length=0:=by simp at *;assumption
  unfold sgn
  rw [if_pos h0]
  exact l9 ⟨rfl,rfl,trivial⟩
 ·have h0:¬(K7 l).length=0:=by simp at *;assumption
  unfold sgn
  rw [if_neg h0]
  exact l9 ⟨rfl,rfl,trivial⟩
theorem F4 (r:Bool) (b:Bg):a8 Tryz.prog 121 [d9 r,bgS b] [] (.tup [bgS (if r then b else ⟨0,[]⟩),a7 .i64 (if r then 0 else 1)]) []:=by
 cases r<;>
 ·(refine ac Tryz.func121 ?_;(conv=>whnf);repeat (refine zy ?_;conv=>whnf))
  repeat' (first|refine zx ?_|refine zd ?_ ?_<;>intro h<;>try omega|fail)<;>conv=>whnf
  exact l9 ⟨⟨rfl,rfl,trivial⟩,rfl,trivial⟩
open St1 St2 St3 St4 St5 St6 St7 St8 StA StB
set_option maxRecDepth 100000
theorem a2K {x y:Int} (h:x<y):R5 x y=-1:=by unfold R5;rw [if_pos h]
theorem a9B {x y:Int} (h:y<x):R5 x y=1:=by unfold R5;rw [if_neg (by omega),if_pos h]
theorem b8k {x y:Int} (h:x=y):R5 x y=0:=by unfold R5;rw [if_neg (by omega),if_neg (by omega)]
theorem b4L {s:Int} {l:List Int} (h:Okd l) (hs:s=1∨s=-1∨val l=0):sgn s l=bz (s*val l):=by
 have hv:=o7 h
 unfold sgn bz
 rw [R7 h]
 by_cases h0:val l=0
 ·rw [h0,Int.mul_zero];rfl
 ·have h1:(dg (val l).toNat).length≠0:=by rw [Ne,a22,Q9];omega
  rw [if_neg h1]
  rcases hs with rfl|rfl|h2
  ·rw [a1T (by omega)]
   congr 2;omega
  ·rw [a5F (by omega)]
   congr 2;omega
  ·exact absurd h2 h0
theorem a29 (a b:List Int) (ha:Can a) (hb:Can b) (la:a.length<=1000000) (lb:b.length<=1000000):
 a8 Tryz.prog 130 [j1 a,j1 b] [] (a7 .i64 (R5 (val a) (val b))) []:=by
 have l1:(a.map i5).length=a.length:=by simp
 have l2:(b.map i5).length=b.length:=by simp
 have key:∀{x y:List Int},Can x->Can y->x.length<y.length->val x<val y:=fun {x y} hx hy h=>by
  rw [b1b hx,b1b hy] at h
  have:=az0 h
  have:=o7 hx.1
  omega
 by_cases hl:a.length=b.length
 ·(refine ac Tryz.func130 ?_;(conv=>whnf);repeat (refine zy ?_;conv=>whnf))
  repeat' (first|refine zx ?_|refine zd ?_ ?_<;>intro h<;>try omega|fail)<;>conv=>whnf
  refine t8 c9 (σ:=Nat) (fun k=>([j1 a,j1 b,J,J,J,a7 .i64 ((k:Int) - 1)]++Jn 35,[])) (fun k=>k<=a.length∧a.drop k=b.drop k) (fun k=>k) a.length []
   ⟨lbS _,by rw [lbo (lbS _),lbo (by omega)]⟩ ⟨rfl,rfl,trivial,⟨i8 rfl,i8 rfl,c7 (by simp),trivial⟩⟩ ?_
  rintro k ⟨hk,hd⟩
  have hk:k<=a.length:=hk
  have hd:a.drop k=b.drop k:=hd
  conv=>whnf
  repeat' (first|refine zx ?_|refine qp (a3h _ _) ?_|refine N3 (by omega) (a2d (by omega) hk) ?_|refine N3 (by omega) (a2d (by omega) (hl ▸ hk)) ?_|refine zd ?_ ?_<;>intro h<;>try omega|fail)<;>conv=>whnf
  all_goals first
   |(have hp:0<k:=by omega
     have e:k - 1+1=k:=by omega
     have gx:=w6 (l:=a) (i:=k - 1) (by omega)
     have gy:=w6 (l:=b) (i:=k - 1) (by omega)
     refine n6 ?_
     rcases a8u (dat a (k - 1)) (dat b (k - 1)) with h|h|h
     ·rw [a2K h,a2K (a8y ha.1 hb.1 hl gx gy (by rw [e];exact hd) h)]
     ·exfalso;simp_all;done
     ·rw [a9B h,a9B (a8y hb.1 ha.1 hl.symm gy gx (by rw [e];exact hd.symm) h)])
   |(have hp:0<k:=by omega
     have hq:dat a (k - 1)=dat b (k - 1):=by omega
     refine ⟨[],k - 1,⟨rfl,rfl,trivial,⟨rfl,rfl,c7 (by omega),trivial⟩⟩,⟨by omega,?_⟩,by show k - 1<k;omega⟩
     rw [a8p (by omega:k - 1<a.length),a8p (by omega:k - 1<b.length),show k - 1+1=k by omega,hd]
     congr 1
     have gx:=w6 (l:=a) (i:=k - 1) (by omega)
     have gy:=w6 (l:=b) (i:=k - 1) (by omega)
     rw [lbf (by omega)] at gx gy
     injection gx with gx
     injection gy with gy
     rw [gx,gy,hq])
   |(have:k=0:=by omega
     subst this
     simp only [ai9] at hd
     refine n6 ?_
     rw [hd,b8k rfl])
 ·(refine ac Tryz.func130 ?_;(conv=>whnf);repeat (refine zy ?_;conv=>whnf))
  repeat' (first|refine zx ?_|refine qp (a3h _ _) ?_|refine zd ?_ ?_<;>intro h<;>try omega|fail)<;>conv=>whnf
  all_goals first
   |omega
   |(refine n6 ?_
     rcases at6 hl with h|h
     ·rw [a2K (by omega),a2K (key ha hb h)]
     ·rw [a9B (by omega),a9B (key hb ha h)])
def b3r (a b:Bg):Int:=if M7 a && M7 b then R5 (bv a) (bv b) else 0
theorem b1l (x:Int):Can (bz x).dl:=a15 _
theorem aH9 (x:Int):val (bz x).dl=x.natAbs:=u7 _
theorem L6 (x:Int):x.sign=0∧x=0∨x.sign=1∧0<x∨x.sign=-1∧x<0:=by
 rcases a8u x 0 with h|h|h
 ·exact .inr (.inr ⟨a5F h,h⟩)
 ·subst h;exact .inl ⟨rfl,rfl⟩
 ·exact .inr (.inl ⟨a1T h,h⟩)
theorem b4b {x y:Int} (h:x.sign≠y.sign):R5 x.sign y.sign=R5 x y:=by
 rcases L6 x with ⟨e,h1⟩|⟨e,h1⟩|⟨e,h1⟩<;>rcases L6 y with ⟨f,h2⟩|⟨f,h2⟩|⟨f,h2⟩<;>rw [e,f] at h ⊢<;>unfold R5<;>(repeat' split)<;>omega
theorem b5U {x y:Int} (h:x.sign=y.sign):x.sign*R5 x.natAbs y.natAbs=R5 x y:=by
 rcases L6 x with ⟨e,h1⟩|⟨e,h1⟩|⟨e,h1⟩<;>rcases L6 y with ⟨f,h2⟩|⟨f,h2⟩|⟨f,h2⟩<;>rw [e,f] at h<;>try omega
 all_goals (rw [e];unfold R5;(repeat' split)<;>omega)
theorem b5V (x y:Int):-1<=R5 x y∧R5 x y<=1:=by unfold R5;split<;>(try split)<;>omega
theorem aT5 {b:Bg} (h:M7 b=true):∃z,b=bz z:=⟨_,b6P h⟩
theorem b1h (a b:Bg) (la:a.dl.length<=1000000) (lb:b.dl.length<=1000000):
 a8 Tryz.prog 83 [bgS a,bgS b] [] (a7 .i64 (b3r a b)) []:=by
 have r1:=a2y a la
 have r2:=a2y b lb
 cases ha:M7 a with
 |false=>
  rw [ha] at r1
  (refine ac Tryz.func83 ?_;(conv=>whnf);repeat (refine zy ?_;conv=>whnf))
  repeat' (first|refine zx ?_|refine qp r1 ?_|refine qp r2 ?_|refine zd ?_ ?_<;>intro h<;>try omega|fail)<;>conv=>whnf
  all_goals (first|(exfalso;simp_all;done)|(refine n6 ?_;unfold b3r;rw [ha];rfl))
 |true=>
  rw [ha] at r1
  cases hb:M7 b with
  |false=>
   rw [hb] at r2
   (refine ac Tryz.func83 ?_;(conv=>whnf);repeat (refine zy ?_;conv=>whnf))
   repeat' (first|refine zx ?_|refine qp r1 ?_|refine qp r2 ?_|refine zd ?_ ?_<;>intro h<;>try omega|fail)<;>conv=>whnf
   all_goals (first|(exfalso;simp_all;done)|(refine n6 ?_;unfold b3r;rw [ha,hb];rfl))
  |true=>
   rw [hb] at r2
   obtain ⟨x,rfl⟩:=aT5 ha
   obtain ⟨y,rfl⟩:=aT5 hb
   have c:=a29 (bz x).dl (bz y).dl (b1l x) (b1l y) la lb
   rw [aH9,aH9] at c
   have e:b3r (bz x) (bz y)=R5 x y:=by unfold b3r;rw [ha,hb,a6B,a6B];rfl
   rw [e]
   have hr:=b5V x y
   by_cases hs:x.sign=y.sign
   ·have hs':(bz x).sg=(bz y).sg:=hs
    have e2:=b5U hs
    (refine ac Tryz.func83 ?_;(conv=>whnf);repeat (refine zy ?_;conv=>whnf))
    repeat' (first|refine zx ?_|refine qp r1 ?_|refine qp r2 ?_|refine qp c ?_|refine ⟨_,G8 e2 (by omega) (by omega),?_⟩|refine zd ?_ ?_<;>intro h<;>try omega|fail)<;>conv=>whnf
    all_goals first
     |omega
     |(exfalso;simp_all;done)
     |exact n6 rfl
   ·have hs':(bz x).sg≠(bz y).sg:=hs
    (refine ac Tryz.func83 ?_;(conv=>whnf);repeat (refine zy ?_;conv=>whnf))
    repeat' (first|refine zx ?_|refine qp r1 ?_|refine qp r2 ?_|refine qp (a3h _ _) ?_|refine zd ?_ ?_<;>intro h<;>try omega|fail)<;>conv=>whnf
    all_goals first
     |omega
     |(exfalso;simp_all;done)
     |exact n6 (b4b hs)
def b2Z (a:Bg):Bg:=if M7 a then bz (-bv a) else ⟨0,[]⟩
theorem bb8 (a:Bg) (la:a.dl.length<=1000000):a8 Tryz.prog 85 [bgS a] [] (bgS (b2Z a)) []:=by
 have r1:=a2y a la
 cases ha:M7 a with
 |false=>
  rw [ha] at r1
  have e:b2Z a=⟨0,[]⟩:=by unfold b2Z;rw [ha];rfl
  rw [e]
  (refine ac Tryz.func85 ?_;(conv=>whnf);repeat (refine zy ?_;conv=>whnf))
  repeat' (first|refine zx ?_|refine qp r1 ?_|refine zd ?_ ?_<;>intro h<;>try omega|fail)<;>conv=>whnf
  all_goals (first|(exfalso;simp_all;done)|exact l9 ⟨rfl,rfl,trivial⟩)
 |true=>
  rw [ha] at r1
  obtain ⟨x,rfl⟩:=aT5 ha
  have e:b2Z (bz x)=sgn (0 - (bz x).sg) (bz x).dl:=by
   rw [Int.zero_sub]
   unfold b2Z
   rw [ha,b4L (b1l x).1 (by rcases L6 x with ⟨h,h1⟩|⟨h,h1⟩|⟨h,h1⟩<;>rw [aM4,h]<;>simp [h1,aH9]),a6B,aH9,aM4]
   show bz (-x)=_
   congr 1
   rw [Int.neg_mul,b0A]
  rw [e]
  have hs:-1<=(bz x).sg∧(bz x).sg<=1:=by rcases L6 x with ⟨h,h1⟩|⟨h,h1⟩|⟨h,h1⟩<;>rw [aM4,h]<;>decide
  (refine ac Tryz.func85 ?_;(conv=>whnf);repeat (refine zy ?_;conv=>whnf))
  repeat' (first|refine zx ?_|refine qp r1 ?_|refine qp (a9o _ la) ?_|refine qp (aV0 _ _ la) ?_|refine zd ?_ ?_<;>intro h<;>try omega|fail)<;>conv=>whnf
  all_goals (first|(exfalso;simp_all;done)|exact l9 ⟨rfl,rfl,trivial⟩)
open St1 St2 St3 St4 St5 St6 St7 St8 StA StB
set_option maxRecDepth 100000
theorem a6o {a:Int} (j:Nat) (hj:j<=62):IntKind.wrap .i64 (BitVec.ofInt (IntKind.bits .i64) a &&& BitVec.ofInt (IntKind.bits .i64) ((2 ^ j - 1:Nat):Int)).toNat=a % ((2 ^ j:Nat):Int):=by
 rw [aP4 rfl a j hj]
 have hp:(2:Nat) ^ j<=2 ^ 62:=aa5 (by decide) hj
 have h0:0<(2:Nat) ^ j:=Nat.pow_pos (by decide)
 have h1:0<=a % ((2 ^ j:Nat):Int):=ag1 _ (by omega)
 have h2:a % ((2 ^ j:Nat):Int)<((2 ^ j:Nat):Int):=aC7 _ (by omega)
 rw [lbZ h1]
 exact (show E1 .i64 _ _ from a3e (by omega) (by omega)).symm
structure az8 (m n:Int):Prop where
 ok:∀a:Int,a4G .and .i64 a m (a % n)
theorem a62:az8 1048575 1048576:=⟨fun a=>(a6o (a:=a) 20 (by decide)).symm⟩
theorem ab9:az8 1 2:=⟨fun a=>(a6o (a:=a) 1 (by decide)).symm⟩
theorem ae6 (a:Int):b1F .i64 a 20 (a / 1048576):=by
 show a / 1048576=a.fdiv 1048576
 exact (Int.fdiv_eq_ediv_of_nonneg _ (by decide)).symm
theorem N5 {l:List Int} {i:Nat} {n:Int} {v:Int} (h:0+n.toNat=i):(toC (l.map i5)).set (0+n.toNat) [C.t (ti v)]=toC ((l.set i v).map i5):=by
 rw [h];simp [toC,i5,a2Y]
theorem P4 {l:List Int} {n:Int} {i:Nat} (h:n.toNat=i) (hi:i<l.length):l[0+n.toNat]? =some (dat l i):=by rw [y3,h];exact w6 hi
theorem bb3 (a b:List Int) (ha:Okd a) (hb:Okd b) (la:a.length<=400000) (lb:b.length<=400000) (hab:b.length<=a.length):
 a8 Tryz.prog 133 [j1 a,j1 b] [] (j1 (dg (val a+val b).toNat)) []:=by
 have l1:(a.map i5).length=a.length:=by simp
 have l2:(b.map i5).length=b.length:=by simp
 (refine ac Tryz.func133 ?_;(conv=>whnf);repeat (refine zy ?_;conv=>whnf))
 repeat' (first|refine zx ?_|refine a5q (by omega) (by omega) (by omega) (by decide) ?_|refine zd ?_ ?_<;>intro h<;>try omega|fail)<;>conv=>whnf
 refine t8 c9 (σ:=Nat × List Int × Int) (fun|(k,out,c)=>([j1 a,j1 b,J,J,J,a3z 0 out,a7 .i64 c]++Jn 13++[j1 a,a7 .i64 a.length,a7 .i64 k]++Jn 32,[D4 out])) (fun x=>a7R a b x.1 x.2.1 x.2.2) (fun x=>a.length - x.1) (0,List.replicate (a.length+1) 0,0) [some 0]
  (a7R.init _ _) ⟨rfl,rfl,⟨b8 rfl rfl rfl ?_ rfl,trivial⟩,⟨i8 rfl,i8 rfl,o4 rfl (by simp),rfl,i8 rfl,c7 (by simp),rfl,trivial⟩⟩ ?_
 ·show List.replicate _ _=_
  simp [toC,i5,t6]
 rintro ⟨k,out,c⟩ hI
 have hI:a7R a b k out c:=hI
 have hlen:=hI.len
 have hle:=hI.le
 have hc0:=hI.c0
 have hc1:=hI.c1
 conv=>whnf
 have hda:=ha.dat k
 have hdb:=hb.dat k
 repeat' (first|refine zx ?_|refine d6 (w6 (by omega)) ?_|refine a1z (by omega) (by show _<((out.length:Nat):Int);omega) ?_|refine k7 (P4 rfl (by omega)) ?_|refine ⟨_,az8.ok (by first|exact a62|exact ab9) _,?_⟩|refine ⟨by decide,_,ae6 _,?_⟩|refine zd ?_ ?_<;>intro h<;>try omega|fail)<;>conv=>whnf
 ·refine ⟨[some 0],(k+1,out.set k ((c+dat a k+dat b k) % 1048576),(c+dat a k+dat b k) / 1048576),⟨rfl,rfl,⟨b8 rfl rfl rfl (N5 (by omega)) rfl,trivial⟩,⟨rfl,rfl,o4 rfl (by simp),rfl,rfl,rfl,c7 (by omega),trivial⟩⟩,hI.step ha hb (by omega),?_⟩
  show a.length - (k+1)<a.length - k
  omega
 ·have e:dat b k=0:=a1f (by omega)
  have hst:=hI.step ha hb (by omega)
  rw [e,Int.add_zero] at hst
  refine ⟨[some 0],(k+1,out.set k ((c+dat a k) % 1048576),(c+dat a k) / 1048576),⟨rfl,rfl,⟨b8 rfl rfl rfl (N5 (by omega)) rfl,trivial⟩,⟨rfl,rfl,o4 rfl (by simp),rfl,rfl,rfl,c7 (by omega),trivial⟩⟩,hst,?_⟩
  show a.length - (k+1)<a.length - k
  omega
 ·have hk:k=a.length:=by omega
  subst hk
  have hf:=hI.fin (by omega)
  have t:=a34 (out.set a.length c) (by simp;omega)
  rw [hf] at t
  refine .inr ⟨_,_,C6 [0] t ⟨a5U (y0 (by simp) rfl (by intro h;cases h) rfl (N5 (by omega)) (by simp)),trivial⟩ rfl,?_⟩
  conv=>whnf
  exact b2p (by rw [af3])
theorem bf0 (a b:List Int) (ha:Okd a) (hb:Okd b) (la:a.length<=400000) (lb:b.length<=400000) (hab:a.length<b.length):
 a8 Tryz.prog 133 [j1 a,j1 b] [] (j1 (dg (val a+val b).toNat)) []:=by
 have l1:(a.map i5).length=a.length:=by simp
 have l2:(b.map i5).length=b.length:=by simp
 (refine ac Tryz.func133 ?_;(conv=>whnf);repeat (refine zy ?_;conv=>whnf))
 repeat' (first|refine zx ?_|refine a5q (by omega) (by omega) (by omega) (by decide) ?_|refine zd ?_ ?_<;>intro h<;>try omega|fail)<;>conv=>whnf
 refine t8 c9 (σ:=Nat × List Int × Int) (fun|(k,out,c)=>([j1 b,j1 a,J,J,J,a3z 0 out,a7 .i64 c]++Jn 13++[j1 b,a7 .i64 b.length,a7 .i64 k]++Jn 32,[D4 out])) (fun x=>a7R b a x.1 x.2.1 x.2.2) (fun x=>b.length - x.1) (0,List.replicate (b.length+1) 0,0) [some 0]
  (a7R.init _ _) ⟨rfl,rfl,⟨b8 rfl rfl rfl ?_ rfl,trivial⟩,⟨i8 rfl,i8 rfl,o4 rfl (by simp),rfl,i8 rfl,c7 (by simp),rfl,trivial⟩⟩ ?_
 ·show List.replicate _ _=_
  simp [toC,i5,t6]
 rintro ⟨k,out,c⟩ hI
 have hI:a7R b a k out c:=hI
 have hlen:=hI.len
 have hle:=hI.le
 have hc0:=hI.c0
 have hc1:=hI.c1
 conv=>whnf
 have hda:=hb.dat k
 have hdb:=ha.dat k
 repeat' (first|refine zx ?_|refine d6 (w6 (by omega)) ?_|refine a1z (by omega) (by show _<((out.length:Nat):Int);omega) ?_|refine k7 (P4 rfl (by omega)) ?_|refine ⟨_,az8.ok (by first|exact a62|exact ab9) _,?_⟩|refine ⟨by decide,_,ae6 _,?_⟩|refine zd ?_ ?_<;>intro h<;>try omega|fail)<;>conv=>whnf
 ·refine ⟨[some 0],(k+1,out.set k ((c+dat b k+dat a k) % 1048576),(c+dat b k+dat a k) / 1048576),⟨rfl,rfl,⟨b8 rfl rfl rfl (N5 (by omega)) rfl,trivial⟩,⟨rfl,rfl,o4 rfl (by simp),rfl,rfl,rfl,c7 (by omega),trivial⟩⟩,hI.step hb ha (by omega),?_⟩
  show b.length - (k+1)<b.length - k
  omega
 ·have e:dat a k=0:=a1f (by omega)
  have hst:=hI.step hb ha (by omega)
  rw [e,Int.add_zero] at hst
  refine ⟨[some 0],(k+1,out.set k ((c+dat b k) % 1048576),(c+dat b k) / 1048576),⟨rfl,rfl,⟨b8 rfl rfl rfl (N5 (by omega)) rfl,trivial⟩,⟨rfl,rfl,o4 rfl (by simp),rfl,rfl,rfl,c7 (by omega),trivial⟩⟩,hst,?_⟩
  show b.length - (k+1)<b.length - k
  omega
 ·have hk:k=b.length:=by omega
  subst hk
  have hf:=hI.fin (by omega)
  have t:=a34 (out.set b.length c) (by simp;omega)
  rw [hf] at t
  refine .inr ⟨_,_,C6 [0] t ⟨a5U (y0 (by simp) rfl (by intro h;cases h) rfl (N5 (by omega)) (by simp)),trivial⟩ rfl,?_⟩
  conv=>whnf
  exact b2p (by rw [af3])
theorem bh6 (a b:List Int) (ha:Okd a) (hb:Okd b) (la:a.length<=400000) (lb:b.length<=400000):
 a8 Tryz.prog 133 [j1 a,j1 b] [] (j1 (dg (val a+val b).toNat)) []:=by
 rcases A6 a.length b.length with h|h
 ·exact bf0 a b ha hb la lb h
 ·exact bb3 a b ha hb la lb h
open St1 St2 St3 St4 St5 St6 St7 St8 StA StB
set_option maxRecDepth 100000
theorem bg6 (a b:List Int) (ha:Okd a) (hb:Okd b) (la:a.length<=400000) (lb:b.length<=a.length) (hv:val b<=val a):
 a8 Tryz.prog 134 [j1 a,j1 b] [] (j1 (dg (val a - val b).toNat)) []:=by
 have l1:(a.map i5).length=a.length:=by simp
 have l2:(b.map i5).length=b.length:=by simp
 (refine ac Tryz.func134 ?_;(conv=>whnf);repeat (refine zy ?_;conv=>whnf))
 repeat' (first|refine zx ?_|refine zd ?_ ?_<;>intro h<;>try omega|fail)<;>conv=>whnf
 refine .inr ⟨_,_,aq5 (b4z a (by omega)) rfl rfl rfl rfl,?_⟩
 conv=>whnf
 repeat' (first|refine zx ?_|refine zd ?_ ?_<;>intro h<;>try omega|fail)<;>conv=>whnf
 refine t8 c9 (σ:=Nat × List Int × Int) (fun|(k,out,c)=>([J,j1 b,J,J,J,a3z 0 out,a7 .i64 c,J,J,J,J,J,a7 .i64 a.length,a7 .i64 k]++Jn 29,[D4 out])) (fun x=>am5 a b x.1 x.2.1 x.2.2) (fun x=>a.length - x.1) (0,a,0) [some 0]
  (am5.init ha) ⟨rfl,rfl,⟨b8 rfl rfl rfl rfl rfl,trivial⟩,⟨i8 rfl,o4 rfl rfl,rfl,c7 (by simp),rfl,trivial⟩⟩ ?_
 rintro ⟨k,out,c⟩ hI
 have hI:am5 a b k out c:=hI
 have hlen:=hI.len
 have hle:=hI.le
 have hc0:=hI.c0
 have hc1:=hI.c1
 conv=>whnf
 have hda:=hI.ok.dat k
 have hdb:=hb.dat k
 repeat' (first|refine zx ?_|refine d6 (w6 (by omega)) ?_|refine a1z (by omega) (by show _<((out.length:Nat):Int);omega) ?_|refine k7 (P4 (i:=k) rfl (by omega)) ?_|refine ⟨_,az8.ok (by first|exact a62|exact ab9) _,?_⟩|refine ⟨by decide,_,ae6 _,?_⟩|refine zd ?_ ?_<;>intro h<;>try omega|fail)<;>conv=>whnf
 ·refine ⟨[some 0],(k+1,out.set k ((dat out k - c - dat b k) % 1048576),(dat out k - c - dat b k) / 1048576 % 2),⟨rfl,rfl,⟨b8 rfl rfl rfl (N5 (by omega)) rfl,trivial⟩,⟨rfl,o4 rfl (by simp),rfl,rfl,c7 (by omega),trivial⟩⟩,hI.step ha hb (by omega),?_⟩
  show a.length - (k+1)<a.length - k
  omega
 ·have e:dat b k=0:=a1f (by omega)
  have hst:=hI.step ha hb (by omega)
  rw [e,Int.sub_zero] at hst
  refine ⟨[some 0],(k+1,out.set k ((dat out k - c) % 1048576),(dat out k - c) / 1048576 % 2),⟨rfl,rfl,⟨b8 rfl rfl rfl (N5 (by omega)) rfl,trivial⟩,⟨rfl,o4 rfl (by simp),rfl,rfl,c7 (by omega),trivial⟩⟩,hst,?_⟩
  show a.length - (k+1)<a.length - k
  omega
 ·have hk:k=a.length:=by omega
  subst hk
  have hf:=hI.fin (by omega) hv
  have t:=a34 out (by omega)
  rw [hf] at t
  refine .inr ⟨_,_,C6 [0] t ⟨a5U (y0 (by simp) rfl (by intro h;cases h) rfl rfl (by simp)),trivial⟩ rfl,?_⟩
  conv=>whnf
  exact b2p rfl
set_option maxHeartbeats 1000000 in
theorem b9s (a b:List Int) (ha:Okd a) (hb:Okd b) (la:a.length<=400000) (lb:b.length<=400000):
 a8 Tryz.prog 164 [j1 a,j1 b] [] (j1 (dg (val a*val b).toNat)) []:=by
 have l1:(a.map i5).length=a.length:=by simp
 have l2:(b.map i5).length=b.length:=by simp
 (refine ac Tryz.func164 ?_;(conv=>whnf);repeat (refine zy ?_;conv=>whnf))
 repeat' (first|refine zx ?_|refine a5q (by omega) (by omega) (by omega) (by decide) ?_|refine zd ?_ ?_<;>intro h<;>try omega|fail)<;>conv=>whnf
 refine t8 c9 (σ:=Nat × List Int) (fun|(i,out)=>([J,j1 b,J,J,J,a3z 0 out]++Jn 12++[j1 a,a7 .i64 a.length,a7 .i64 i]++Jn 46,[D4 out])) (fun x=>a7v a b x.1 x.2) (fun x=>a.length - x.1) (0,List.replicate (a.length+b.length) 0) [some 0]
  (a7v.init a b) ⟨rfl,rfl,⟨b8 rfl rfl rfl ?_ rfl,trivial⟩,⟨i8 rfl,o4 rfl (by simp;omega),i8 rfl,c7 (by simp),rfl,trivial⟩⟩ ?_
 ·show List.replicate _ _=_
  rw [show ((((a.map i5).length:Nat):Int)+((b.map i5).length:Nat)).toNat=a.length+b.length by omega]
  simp [toC,i5,t6]
 rintro ⟨i,out⟩ hI
 have hI:a7v a b i out:=hI
 have hlen:=hI.len
 have hle:=hI.le
 conv=>whnf
 repeat' (first|refine zx ?_|refine d6 (w6 (by omega)) ?_|refine zd ?_ ?_<;>intro h<;>try omega|fail)<;>conv=>whnf
 ·have hi:i<a.length:=by omega
  refine t8 c9 (σ:=Nat × List Int × Int) (fun|(k,out,c)=>([J,j1 b,J,J,J,a3z 0 out,a7 .i64 i,a7 .i64 (dat a i),a7 .i64 c,J,J,J,J,J,J,J,J,J,j1 a,a7 .i64 a.length,a7 .i64 i,J,J,J,J,j1 b,a7 .i64 b.length,a7 .i64 k]++Jn 39,[D4 out])) (fun x=>am6 a b i x.1 x.2.1 x.2.2) (fun x=>b.length - x.1) (0,out,0) [some 0]
   hI.start ⟨rfl,rfl,⟨b8 rfl rfl rfl rfl rfl,trivial⟩,⟨i8 rfl,o4 rfl rfl,rfl,rfl,rfl,i8 rfl,rfl,rfl,i8 rfl,c7 (by simp),rfl,trivial⟩⟩ ?_
  rintro ⟨k,out,c⟩ hK
  have hK:am6 a b i k out c:=hK
  have hlen:=hK.len
  have hle:=hK.le
  have hc0:=hK.c0
  have hc1:=hK.c1
  conv=>whnf
  have hdo:=hK.ok.dat (i+k)
  have hm:=a4P (ha.dat i) (hb.dat k)
  have e1:((i:Int)+k).toNat=i+k:=by omega
  have e2:((i:Int)+b.length).toNat=i+b.length:=by omega
  have e3:((i:Int)+((b.map i5).length:Nat)).toNat=i+b.length:=by omega
  have hz:=hK.zero (i+b.length) (lbS _)
  repeat' (first|refine zx ?_|refine d6 (w6 (by omega)) ?_|refine a1z (by omega) (by show _<((out.length:Nat):Int);omega) ?_|refine k7 (P4 e1 (by omega)) ?_|refine k7 (P4 e3 (by omega)) ?_|refine ⟨_,az8.ok (by first|exact a62|exact ab9) _,?_⟩|refine ⟨by decide,_,ae6 _,?_⟩|refine zd ?_ ?_<;>intro h<;>try omega|fail)<;>conv=>whnf
  ·refine ⟨[some 0],(k+1,out.set (i+k) ((dat out (i+k)+dat a i*dat b k+c) % 1048576),(dat out (i+k)+dat a i*dat b k+c) / 1048576),⟨rfl,rfl,⟨b8 rfl rfl rfl (N5 (by omega)) rfl,trivial⟩,⟨rfl,o4 rfl (by simp),rfl,rfl,rfl,rfl,rfl,rfl,rfl,rfl,c7 (by omega),trivial⟩⟩,hK.step ha hb hi (by omega),?_⟩
   show b.length - (k+1)<b.length - k
   omega
  ·have hk:k=b.length:=by omega
   subst hk
   refine ⟨[some 0],(i+1,out.set (i+b.length) (dat out (i+b.length)+c)),⟨rfl,rfl,⟨b8 rfl rfl rfl (N5 (by omega)) rfl,trivial⟩,⟨rfl,o4 rfl (by simp),rfl,rfl,c7 (by omega),trivial⟩⟩,hK.done ha hb hi,?_⟩
   show a.length - (i+1)<a.length - i
   omega
 ·have hi:i=a.length:=by omega
  subst hi
  have hf:=hI.fin
  have t:=a34 out (by omega)
  rw [hf] at t
  refine .inr ⟨_,_,C6 [0] t ⟨a5U (y0 (by simp) rfl (by intro h;cases h) rfl rfl (by simp)),trivial⟩ rfl,?_⟩
  conv=>whnf
  exact b2p rfl
set_option maxHeartbeats 1000000 in
theorem be7 (a b:List Int) (ha:Okd a) (hb:Okd b) (la:a.length<=400000) (lb:b.length<=400000):
 a8 Tryz.prog 164 [j1 a,j1 b] [] (.c (.own 0 0 (dg (val a*val b).toNat).length true)) [D4 (X7 (a.length+b.length) (dg (val a*val b).toNat))]:=by
 have l1:(a.map i5).length=a.length:=by simp
 have l2:(b.map i5).length=b.length:=by simp
 (refine ac Tryz.func164 ?_;(conv=>whnf);repeat (refine zy ?_;conv=>whnf))
 repeat' (first|refine zx ?_|refine a5q (by omega) (by omega) (by omega) (by decide) ?_|refine zd ?_ ?_<;>intro h<;>try omega|fail)<;>conv=>whnf
 refine t8 c9 (σ:=Nat × List Int) (fun|(i,out)=>([J,j1 b,J,J,J,a3z 0 out]++Jn 12++[j1 a,a7 .i64 a.length,a7 .i64 i]++Jn 46,[D4 out])) (fun x=>a7v a b x.1 x.2) (fun x=>a.length - x.1) (0,List.replicate (a.length+b.length) 0) [some 0]
  (a7v.init a b) ⟨rfl,rfl,⟨b8 rfl rfl rfl ?_ rfl,trivial⟩,⟨i8 rfl,o4 rfl (by simp;omega),i8 rfl,c7 (by simp),rfl,trivial⟩⟩ ?_
 ·show List.replicate _ _=_
  rw [show ((((a.map i5).length:Nat):Int)+((b.map i5).length:Nat)).toNat=a.length+b.length by omega]
  simp [toC,i5,t6]
 rintro ⟨i,out⟩ hI
 have hI:a7v a b i out:=hI
 have hlen:=hI.len
 have hle:=hI.le
 conv=>whnf
 repeat' (first|refine zx ?_|refine d6 (w6 (by omega)) ?_|refine zd ?_ ?_<;>intro h<;>try omega|fail)<;>conv=>whnf
 ·have hi:i<a.length:=by omega
  refine t8 c9 (σ:=Nat × List Int × Int) (fun|(k,out,c)=>([J,j1 b,J,J,J,a3z 0 out,a7 .i64 i,a7 .i64 (dat a i),a7 .i64 c,J,J,J,J,J,J,J,J,J,j1 a,a7 .i64 a.length,a7 .i64 i,J,J,J,J,j1 b,a7 .i64 b.length,a7 .i64 k]++Jn 39,[D4 out])) (fun x=>am6 a b i x.1 x.2.1 x.2.2) (fun x=>b.length - x.1) (0,out,0) [some 0]
   hI.start ⟨rfl,rfl,⟨b8 rfl rfl rfl rfl rfl,trivial⟩,⟨i8 rfl,o4 rfl rfl,rfl,rfl,rfl,i8 rfl,rfl,rfl,i8 rfl,c7 (by simp),rfl,trivial⟩⟩ ?_
  rintro ⟨k,out,c⟩ hK
  have hK:am6 a b i k out c:=hK
  have hlen:=hK.len
  have hle:=hK.le
  have hc0:=hK.c0
  have hc1:=hK.c1
  conv=>whnf
  have hdo:=hK.ok.dat (i+k)
  have hm:=a4P (ha.dat i) (hb.dat k)
  have e1:((i:Int)+k).toNat=i+k:=by omega
  have e2:((i:Int)+b.length).toNat=i+b.length:=by omega
  have e3:((i:Int)+((b.map i5).length:Nat)).toNat=i+b.length:=by omega
  have hz:=hK.zero (i+b.length) (lbS _)
  repeat' (first|refine zx ?_|refine d6 (w6 (by omega)) ?_|refine a1z (by omega) (by show _<((out.length:Nat):Int);omega) ?_|refine k7 (P4 e1 (by omega)) ?_|refine k7 (P4 e3 (by omega)) ?_|refine ⟨_,az8.ok (by first|exact a62|exact ab9) _,?_⟩|refine ⟨by decide,_,ae6 _,?_⟩|refine zd ?_ ?_<;>intro h<;>try omega|fail)<;>conv=>whnf
  ·refine ⟨[some 0],(k+1,out.set (i+k) ((dat out (i+k)+dat a i*dat b k+c) % 1048576),(dat out (i+k)+dat a i*dat b k+c) / 1048576),⟨rfl,rfl,⟨b8 rfl rfl rfl (N5 (by omega)) rfl,trivial⟩,⟨rfl,o4 rfl (by simp),rfl,rfl,rfl,rfl,rfl,rfl,rfl,rfl,c7 (by omega),trivial⟩⟩,hK.step ha hb hi (by omega),?_⟩
   show b.length - (k+1)<b.length - k
   omega
  ·have hk:k=b.length:=by omega
   subst hk
   refine ⟨[some 0],(i+1,out.set (i+b.length) (dat out (i+b.length)+c)),⟨rfl,rfl,⟨b8 rfl rfl rfl (N5 (by omega)) rfl,trivial⟩,⟨rfl,o4 rfl (by simp),rfl,rfl,c7 (by omega),trivial⟩⟩,hK.done ha hb hi,?_⟩
   show a.length - (i+1)<a.length - i
   omega
 ·have hi:i=a.length:=by omega
  subst hi
  have hf:=hI.fin
  have t:=b8K out (by omega)
  have hp:=av9 out
  rw [hf] at t hp
  refine .inr ⟨_,_,t,?_⟩
  conv=>whnf
  have hq:X7 (a.length+b.length) (dg (val a*val b).toNat)=out:=by unfold X7;rw [← hlen];exact hp
  rw [hq]
  exact ⟨⟨[some 0],rfl,rfl,⟨b8 rfl rfl rfl rfl rfl,trivial⟩,⟨rfl,rfl,rfl,fun h=>h⟩⟩⟩
open St1 St2 St3 St4 St5 St6 St7 St8 StA StB
set_option maxRecDepth 100000
theorem b6L {r:Int} (h0:0<=r) (h1:r<4398046511104):E1 .i64 (r*2 ^ min (20:Int).toNat (IntKind.bits .i64)) (r*1048576):=by
 show E1 .i64 (r*1048576) (r*1048576)
 exact a3e (by omega) (by omega)
theorem bc9 {k:IntKind} (hk:k.bits=64) (R X:Nat) (h1:R<4398046511104) (hx:X<1048576):(BitVec.ofInt k.bits ((R:Int)*1048576) ||| BitVec.ofInt k.bits (X:Int)).toNat=R*1048576+X:=by
 rw [hk,BitVec.toNat_or,BitVec.toNat_ofInt,BitVec.toNat_ofInt]
 have e1:(((R:Int)*1048576) % ((2 ^ 64:Nat):Int)).toNat=R <<< 20:=by
  rw [Nat.shiftLeft_eq];omega
 have e2:((X:Int) % ((2 ^ 64:Nat):Int)).toNat=X:=by omega
 rw [e1,e2,←Nat.shiftLeft_add_eq_or_of_lt (by omega),Nat.shiftLeft_eq]
theorem bf4 {r x:Int} (h0:0<=r) (h1:r<4398046511104) (hx0:0<=x) (hx1:x<1048576):a4G .or .i64 (r*1048576) x (r*1048576+x):=by
 obtain ⟨R,rfl⟩:=a5N h0
 obtain ⟨X,rfl⟩:=a5N hx0
 unfold a4G
 simp only
 rw [bc9 rfl R X (by omega) (by omega)]
 have e:((R*1048576+X:Nat):Int)=(R:Int)*1048576+X:=by simp
 rw [e]
 exact (show E1 .i64 ((R:Int)*1048576+X) _ from a3e (by omega) (by omega))
theorem b9p {a b:Int} (h0:0<=a) (h1:a<=9223372036854775807) (hb:0<b):E1 .i64 (a.tdiv b) (a / b):=by
 rw [Int.tdiv_eq_ediv_of_nonneg h0]
 have h2:0<=a / b:=Int.ediv_nonneg h0 (by omega)
 have h3:a / b<=a:=Int.ediv_le_self _ h0
 exact a3e (by omega) (by omega)
theorem b3M {l:List Int} {n:Nat} (h:0<n) (hn:n<=l.length):l[0+((n:Int) - 1).toNat]? =some (dat l (n - 1)):=by rw [y3];exact a2d h hn
theorem b2M (a:List Int) (d:Int) (ha:Okd a) (la:a.length<=1000000) (hd:0<d) (hd2:d<1048576):
 a8 Tryz.prog 162 [j1 a,a7 .i64 d] [] (.tup [j1 (dg (val a / d).toNat),a7 .i64 (val a % d)]) []:=by
 have l1:(a.map i5).length=a.length:=by simp
 (refine ac Tryz.func162 ?_;(conv=>whnf);repeat (refine zy ?_;conv=>whnf))
 repeat' (first|refine zx ?_|refine a5q (by omega) (by omega) (by omega) (by decide) ?_|refine zd ?_ ?_<;>intro h<;>try omega|fail)<;>conv=>whnf
 refine t8 c9 (σ:=Nat × List Int × Int) (fun|(j,out,r)=>([j1 a,a7 .i64 d,J,J,J,J,a3z 0 out,a7 .i64 r,a7 .i64 ((j:Int) - 1)]++Jn 29,[D4 out])) (fun x=>a1Y a d x.1 x.2.1 x.2.2) (fun x=>x.1) (a.length,List.replicate a.length 0,0) [some 0]
  (a1Y.init a hd) ⟨rfl,rfl,⟨b8 rfl rfl rfl ?_ rfl,trivial⟩,⟨i8 rfl,rfl,o4 rfl (by simp),rfl,c7 (by simp),trivial⟩⟩ ?_
 ·show List.replicate _ _=_
  simp [toC,i5,t6]
 rintro ⟨j,out,r⟩ hI
 have hI:a1Y a d j out r:=hI
 have hlen:=hI.len
 have hle:=hI.le
 have hr0:=hI.r0
 have hr1:=hI.r1
 have hda:=ha.dat (j - 1)
 conv=>whnf
 repeat' (first|refine zx ?_|refine N3 (by omega) (a2d (by omega) hle) ?_|refine a1z (by omega) (by show _<((out.length:Nat):Int);omega) ?_|refine k7 (b3M (by omega) (by omega)) ?_|refine ⟨by decide,_,b6L (by omega) (by omega),?_⟩|refine ⟨_,bf4 (by omega) (by omega) (by omega) (by omega),?_⟩|refine ⟨by omega,_,b9p (by omega) (by omega) (by omega),?_⟩|refine b9h (by omega) ?_|refine zd ?_ ?_<;>intro h<;>try omega|fail)<;>conv=>whnf
 ·obtain ⟨j,rfl⟩:∃i,j=i+1:=⟨j - 1,by omega⟩
  simp only [a5T] at *
  have hst:=hI.step ha hd
  rw [← Int.tmod_eq_emod_of_nonneg (by omega)] at hst
  refine ⟨[some 0],(j,out.set j ((r*1048576+dat a j) / d),(r*1048576+dat a j).tmod d),⟨rfl,rfl,⟨b8 rfl rfl rfl (N5 (by omega)) rfl,trivial⟩,⟨rfl,rfl,o4 rfl (by simp),rfl,c7 (by omega),trivial⟩⟩,hst,?_⟩
  show j<j+1
  omega
 ·have hj:j=0:=by omega
  subst hj
  obtain ⟨hf,hr⟩:=hI.fin ha hd
  have t:=a34 out (by omega)
  rw [hf] at t
  refine .inr ⟨_,_,C6 [0] t ⟨a5U (y0 (by simp) rfl (by intro h;cases h) rfl rfl (by simp)),trivial⟩ rfl,?_⟩
  conv=>whnf
  repeat' (first|refine zx ?_|refine zd ?_ ?_<;>intro h<;>try omega|fail)<;>conv=>whnf
  exact l9 ⟨rfl,c7 hr,trivial⟩
open St1 St2 St3 St4 St5 St6 St7 St8 StA StB
set_option maxRecDepth 100000
theorem b1I {pre out post:List Int} {k:Nat} (h:k<out.length):(pre++out++post)[pre.length+(k:Int).toNat]? =some (dat out k):=by
 rw [lbE,lbc (by omega),show pre.length+(k:Int).toNat - pre.length=k by omega,lbb h]
 exact w6 h
theorem a7m {pre out post:List Int} {k:Nat} {v:Int} (h:k<out.length):(toC ((pre++out++post).map i5)).set (pre.length+(k:Int).toNat) [C.t (ti v)]=toC ((pre++out.set k v++post).map i5):=by
 have e:(pre++out++post).set (pre.length+k) v=pre++out.set k v++post:=by
  rw [lbE,b1r _ _ (by omega),show pre.length+k - pre.length=k by omega,b28 _ _ h,lbE]
 rw [← e]
 show (toC ((pre++out++post).map i5)).set (pre.length+k) _=_
 simp [toC,i5,a2Y]
def S7 (w v g:Int):Int:=if g*v<=w then g else g - 1
theorem b5Z (pre w post v:List Int) (g:Int) (hw:Okd w) (hv:Okd v) (lw:w.length<=1000000) (lv:v.length<=w.length) (hg:0<=g∧g<1048576) (hgv:g*val v<=val w+val v):
 a8 Tryz.prog 165 [.c (.own 0 pre.length w.length false),j1 v,a7 .i64 g] [D4 (pre++w++post)] (a7 .i64 (S7 (val w) (val v) g))
  [D4 (pre++X7 w.length (dg (val w - S7 (val w) (val v) g*val v).toNat)++post)]:=by
 have l1:(v.map i5).length=v.length:=by simp
 (refine ac Tryz.func165 ?_;(conv=>whnf);repeat (refine zy ?_;conv=>whnf))
 repeat' (first|refine zx ?_|refine zd ?_ ?_<;>intro h<;>try omega|fail)<;>conv=>whnf
 refine t8 c9 (σ:=Nat × List Int × Int) (fun|(k,out,c)=>([S.c (C.own 0 pre.length w.length false),j1 v,a7 .i64 g,J,J,J,J,a7 .i64 c,J,J,J,J,J,a7 .i64 w.length,a7 .i64 k]++Jn 63,[D4 (pre++out++post)])) (fun x=>a94 w v g x.1 x.2.1 x.2.2) (fun x=>w.length - x.1) (0,w,0) [some 0]
  (a94.init g hw) ⟨rfl,rfl,⟨b8 rfl rfl rfl rfl rfl,trivial⟩,⟨⟨rfl,rfl,rfl,fun h=>h⟩,i8 rfl,rfl,rfl,rfl,rfl,trivial⟩⟩ ?_
 rintro ⟨k,out,c⟩ hI
 have hI:a94 w v g k out c:=hI
 have hlen:=hI.len
 have hle:=hI.le
 have hc0:=hI.c0
 have hc1:=hI.c1
 have hdo:=hI.ok.dat k
 have hm:=a4P hg (hv.dat k)
 conv=>whnf
 repeat' (first|refine zx ?_|refine d6 (w6 (by omega)) ?_|refine k7 (b1I (by omega)) ?_|refine ⟨_,az8.ok (by first|exact a62|exact ab9) _,?_⟩|refine ⟨by decide,_,ae6 _,?_⟩|refine zd ?_ ?_<;>intro h<;>try omega|fail)<;>conv=>whnf
 ·have hst:=hI.step hv hg (by omega)
  refine ⟨[some 0],(k+1,out.set k ((dat out k - c - g*dat v k) % 1048576),-((dat out k - c - g*dat v k) / 1048576)),⟨rfl,rfl,⟨b8 rfl rfl rfl (a7m (by omega)) rfl,trivial⟩,⟨⟨rfl,rfl,rfl,fun h=>h⟩,rfl,rfl,c7 (Int.zero_sub _),rfl,c7 (by omega),trivial⟩⟩,hst,?_⟩
  show w.length - (k+1)<w.length - k
  omega
 ·have hst:=hI.step hv hg (by omega)
  rw [a1f (l:=v) (i:=k) (by omega),Int.mul_zero,Int.sub_zero] at hst
  refine ⟨[some 0],(k+1,out.set k ((dat out k - c) % 1048576),-((dat out k - c) / 1048576)),⟨rfl,rfl,⟨b8 rfl rfl rfl (a7m (by omega)) rfl,trivial⟩,⟨⟨rfl,rfl,rfl,fun h=>h⟩,rfl,rfl,c7 (Int.zero_sub _),rfl,c7 (by omega),trivial⟩⟩,hst,?_⟩
  show w.length - (k+1)<w.length - k
  omega
 ·have hk:k=w.length:=by omega
  subst hk
  have hc:c=0:=by assumption
  obtain ⟨h1,h2⟩:=hI.zero lv hw hv hg.1
  have hq:S7 (val w) (val v) g=g:=by unfold S7;rw [if_pos (h1.1 hc)]
  rw [hq,←h2 hc,←b1Y hI.ok hlen]
  exact ⟨⟨[some 0],rfl,rfl,⟨b8 rfl rfl rfl rfl rfl,trivial⟩,rfl⟩⟩
 ·have hk:k=w.length:=by omega
  subst hk
  have hc:¬c=0:=by assumption
  obtain ⟨h1,h2⟩:=hI.zero lv hw hv hg.1
  have hlt:¬g*val v<=val w:=fun h=>hc (h1.2 h)
  have hq:S7 (val w) (val v) g=g - 1:=by unfold S7;rw [if_neg hlt]
  have hvl:=Y1 hv
  have hpw:=a1F lv
  rw [hq]
  refine t8 c9 (σ:=Nat × List Int × Int) (fun|(k,o,c)=>([S.c (C.own 0 pre.length w.length false),j1 v,a7 .i64 g,J,J,J,J,J,J,J,a7 .i64 c]++Jn 37++[a7 .i64 w.length,a7 .i64 k]++Jn 28,[D4 (pre++o++post)])) (fun x=>a6v out v x.1 x.2.1 x.2.2) (fun x=>w.length - x.1) (0,out,0) [some 0]
   (a6v.init hI.ok) ⟨rfl,rfl,⟨b8 rfl rfl rfl rfl rfl,trivial⟩,⟨⟨rfl,rfl,rfl,fun h=>h⟩,i8 rfl,rfl,rfl,rfl,rfl,trivial⟩⟩ ?_
  rintro ⟨k,o,c'⟩ hB
  have hB:a6v out v k o c':=hB
  have hlen2:=hB.len
  have hle2:=hB.le
  have hb0:=hB.c0
  have hb1:=hB.c1
  have hdo:=hB.ok.dat k
  have hdv:=hv.dat k
  conv=>whnf
  repeat' (first|refine zx ?_|refine d6 (w6 (by omega)) ?_|refine k7 (b1I (by omega)) ?_|refine ⟨_,az8.ok (by first|exact a62|exact ab9) _,?_⟩|refine ⟨by decide,_,ae6 _,?_⟩|refine zd ?_ ?_<;>intro h<;>try omega|fail)<;>conv=>whnf
  ·have hst:=hB.step hv (by omega)
   refine ⟨[some 0],(k+1,o.set k ((c'+dat o k+dat v k) % 1048576),(c'+dat o k+dat v k) / 1048576),⟨rfl,rfl,⟨b8 rfl rfl rfl (a7m (by omega)) rfl,trivial⟩,⟨⟨rfl,rfl,rfl,fun h=>h⟩,rfl,rfl,rfl,rfl,c7 (by omega),trivial⟩⟩,hst,?_⟩
   show w.length - (k+1)<w.length - k
   omega
  ·have hst:=hB.step hv (by omega)
   rw [a1f (l:=v) (i:=k) (by omega),Int.add_zero] at hst
   refine ⟨[some 0],(k+1,o.set k ((c'+dat o k) % 1048576),(c'+dat o k) / 1048576),⟨rfl,rfl,⟨b8 rfl rfl rfl (a7m (by omega)) rfl,trivial⟩,⟨⟨rfl,rfl,rfl,fun h=>h⟩,rfl,rfl,rfl,rfl,c7 (by omega),trivial⟩⟩,hst,?_⟩
   show w.length - (k+1)<w.length - k
   omega
  ·have hk:k=w.length:=by omega
   subst hk
   have e:=hI.back hB lv (by omega) (by omega)
   have e2:val w - (g - 1)*val v=val w - g*val v+val v:=by rw [Int.sub_mul];omega
   rw [e2,←e,←b1Y hB.ok (by omega)]
   exact ⟨⟨[some 0],rfl,rfl,⟨b8 rfl rfl rfl rfl rfl,trivial⟩,rfl⟩⟩
open St1 St2 St3 St4 St5 St6 St7 St8 StA StB
set_option maxRecDepth 100000
abbrev b6g (m n:Nat):S:=.tup [j1 (dg (m / n)),j1 (dg (m % n))]
theorem b9x (m n:Nat) (hn:0<n) (h:m<n) (lm:(dg m).length<=400000) (ln:(dg n).length<=400000):
 a8 Tryz.prog 122 [j1 (dg m),j1 (dg n)] [] (b6g m n) []:=by
 have c:=a29 (dg m) (dg n) (a15 m) (a15 n) (by omega) (by omega)
 rw [u7,u7,a2K (by omega)] at c
 have e1:m / n=0:=Nat.div_eq_of_lt h
 have e2:m % n=m:=b2l h
 unfold b6g
 rw [e1,e2,a1D]
 (refine ac Tryz.func122 ?_;(conv=>whnf);repeat (refine zy ?_;conv=>whnf))
 repeat' (first|refine zx ?_|refine qp c ?_|refine qp (a9o _ (by omega)) ?_|refine zd ?_ ?_<;>intro h<;>try omega|fail)<;>conv=>whnf
 exact l9 ⟨rfl,rfl,trivial⟩
theorem b9R (m n:Nat) (hn:0<n) (h:n<=m) (hl:(dg n).length=1) (lm:(dg m).length<=400000):
 a8 Tryz.prog 122 [j1 (dg m),j1 (dg n)] [] (b6g m n) []:=by
 have l2:((dg n).map i5).length=(dg n).length:=by simp
 have c:=a29 (dg m) (dg n) (a15 m) (a15 n) (by omega) (by omega)
 rw [u7,u7] at c
 have hc:0<=R5 m n:=by unfold R5;split<;>(try split)<;>omega
 have hn2:=N9 n
 rw [hl] at hn2
 have hn3:(n:Int)<1048576:=by simpa [pw] using hn2
 have hd:dg n=[(n:Int)]:=by
  rw [a6l hn,show n / 1048576=0 by omega,show n % 1048576=n by omega];rfl
 have sh:=b2M (dg m) n (x7 m) (by omega) (by omega) hn3
 rw [u7] at sh
 have e1:((m:Int) / n).toNat=m / n:=by rw [← Int.natCast_ediv];rfl
 have e2:(m:Int) % n=((m % n:Nat):Int):=by simp
 rw [e1,e2] at sh
 have hr:m % n<n:=ap1 _ hn
 have t:=a34 [((m % n:Nat):Int)] (by simp)
 rw [R7 (by intro x hx;simp at hx;omega)] at t
 have e3:(val [((m % n:Nat):Int)]).toNat=m % n:=by simp only [val];omega
 rw [e3] at t
 (refine ac Tryz.func122 ?_;(conv=>whnf);repeat (refine zy ?_;conv=>whnf))
 repeat' (first|refine zx ?_|refine qp c ?_|refine qp sh ?_|refine qp hd ?_|refine N3 (x:=(n:Int)) (by omega) (by rw [hd];rfl) ?_|refine .inl ⟨_,_,a69 t ⟨a5U (aD0 rfl),trivial⟩ rfl,?_⟩|refine zd ?_ ?_<;>intro h<;>try omega|fail)<;>conv=>whnf
 all_goals (first|omega|exact l9 ⟨rfl,rfl,trivial⟩)
open St1 St2 St3 St4 St5 St6 St7 St8 StA StB
theorem ba7 {n k:Nat} {top:Int} (hn:0<n) (ht:dat (dg n) ((dg n).length - 1)=top) (hk:k<=19) (h1:top*2 ^ k<1048576) (h2:¬top*2 ^ k<524288):
 (dg (n*2 ^ k)).length=(dg n).length∧524288<=dat (dg (n*2 ^ k)) ((dg n).length - 1):=by
 have hl:(dg n).length≠0:=by rw [Ne,a22,Q9];omega
 obtain ⟨l,hl'⟩:∃l,(dg n).length=l+1:=⟨(dg n).length - 1,by omega⟩
 rw [hl',a5T] at ht ⊢
 have e1:=p4 (dg n) l
 rw [lbn (by omega),u7,ht] at e1
 have a1:=o7 ((x7 n).take l)
 have a2:=Y1 ((x7 n).take l)
 rw [lbs,a12 (by omega)] at a2
 have t0:=(x7 n).dat l
 rw [ht] at t0
 obtain ⟨T,rfl⟩:=a5N t0.1
 have hp:(0:Int)<2 ^ k:=Int.pow_pos (by decide)
 have hpp:=P3 l
 have e2:(2:Int) ^ k*2 ^ (20 - k)=1048576:=by rw [← Int.pow_add,show k+(20 - k)=20 by omega];rfl
 have h3:(T:Int)<2 ^ (20 - k):=by
  refine b0k (a:=(2:Int) ^ k) ?_ (J8 hp)
  rw [e2,ak8];exact h1
 have h4:((T:Int)+1)*2 ^ k<=1048576:=by
  have:=lbW (a:=(T:Int)+1) (b:=2 ^ (20 - k)) (c:=2 ^ k) (by omega) (J8 hp)
  rw [e2,ak8] at this;exact this
 have hV:(((n*2 ^ k:Nat)):Int)=n*2 ^ k:=by simp
 have h5:((n*2 ^ k:Nat):Int)<pw (l+1):=by
  rw [hV,G9]
  have b1:(n:Int)+1<=pw l*(T+1):=by rw [Int.mul_add];omega
  have b2:=lbX (c:=(2:Int) ^ k) b1 (J8 hp)
  have b3:=lbW (c:=pw l) h4 (J8 hpp)
  rw [← Int.mul_assoc] at b3
  rw [Int.add_mul] at b2
  omega
 have h6:pw l*524288<=((n*2 ^ k:Nat):Int):=by
  rw [hV]
  have b1:pw l*T<=(n:Int):=by omega
  have b2:=lbX (c:=(2:Int) ^ k) b1 (J8 hp)
  have b3:=lbW (a:=524288) (b:=(T:Int)*2 ^ k) (c:=pw l) (by omega) (J8 hpp)
  rw [← Int.mul_assoc] at b3
  omega
 have h7:(dg (n*2 ^ k)).length=l+1:=by
  have c1:=M5 h5
  rcases A6 (dg (n*2 ^ k)).length (l+1) with c2|c2
  ·have c3:=N9 (n*2 ^ k)
   have c4:=a1F (show (dg (n*2 ^ k)).length<=l by omega)
   omega
  ·omega
 refine ⟨h7,?_⟩
 have f1:=p4 (dg (n*2 ^ k)) l
 rw [lbn (by omega),u7] at f1
 have f2:=Y1 ((x7 (n*2 ^ k)).take l)
 rw [lbs,a12 (by omega)] at f2
 rcases a6m (dat (dg (n*2 ^ k)) l) 524288 with c|c
 ·exfalso
  have:=lbW (a:=dat (dg (n*2 ^ k)) l+1) (b:=524288) (c:=pw l) (by omega) (J8 hpp)
  rw [Int.mul_add] at this
  omega
 ·exact c
open St1 St2 St3 St4 St5 St6 St7 St8 StA StB
set_option maxRecDepth 100000
theorem b6f {a a' b b':Nat} {x y:S} (h1:a=a') (h2:b=b'):[S.c (.own 0 a b false),x,y]=[S.c (.own 0 a' b' false),x,y]:=by rw [h1,h2]
theorem aX5 {V W v1 top g r:Int} (hG:U2 V W v1 top g r) (hV:0<V) (hW:0<=W) (h1:g<1048576) (h2:g*V<=W+V):
 0<=S7 W V g∧S7 W V g<1048576∧0<=W - S7 W V g*V∧W - S7 W V g*V<V:=by
 have h3:=hG.hi
 have h4:=hG.g0
 rw [Int.add_mul,a82] at h3
 unfold S7
 by_cases hc:g*V<=W
 ·rw [if_pos hc];omega
 ·rw [if_neg hc,Int.sub_mul,a82]
  have:g≠0:=by rintro rfl;simp at hc;omega
  omega
set_option maxHeartbeats 4000000 in
theorem b9M (m n:Nat) (hn:0<n) (hmn:n<=m) (hl:2<=(dg n).length) (lm:(dg m).length<=300000) (ln:(dg n).length<=300000):
 a8 Tryz.prog 122 [j1 (dg m),j1 (dg n)] [] (b6g m n) []:=by
 have l1:((dg m).map i5).length=(dg m).length:=by simp
 have l2:((dg n).map i5).length=(dg n).length:=by simp
 have c:=a29 (dg m) (dg n) (a15 m) (a15 n) (by omega) (by omega)
 rw [u7,u7] at c
 have hc:0<=R5 m n:=by unfold R5;split<;>(try split)<;>omega
 have ht0:=(x7 n).dat ((dg n).length - 1)
 have ht1:dat (dg n) ((dg n).length - 1)≠0:=(a15 n).2 _ (w6 (by omega))
 generalize htop:dat (dg n) ((dg n).length - 1)=top at ht0 ht1
 (refine ac Tryz.func122 ?_;(conv=>whnf);repeat (refine zy ?_;conv=>whnf))
 repeat' (first|refine zx ?_|refine qp c ?_|refine zd ?_ ?_<;>intro h<;>try omega|fail)<;>conv=>whnf
 refine t8 c9 (σ:=Nat) (fun k=>([j1 (dg m),j1 (dg n),J,J,J,J,J,J,a7 .i64 (2 ^ k)]++Jn 161,[])) (fun k=>k<=19∧top*2 ^ k<1048576) (fun k=>20 - k) 0 []
  ⟨by omega,by omega⟩ ⟨rfl,rfl,trivial,⟨i8 rfl,i8 rfl,rfl,trivial⟩⟩ ?_
 rintro k ⟨hk1,hk2⟩
 have hk1:k<=19:=hk1
 have hk2:top*2 ^ k<1048576:=hk2
 have hp0:(0:Int)<2 ^ k:=Int.pow_pos (by decide)
 have hpt:0<top*2 ^ k:=Int.mul_pos (by omega) hp0
 have hpk:(2:Int) ^ k<=524288:=by
  have:=aa5 (n:=2) (by decide) hk1
  have e:((2 ^ k:Nat):Int)=2 ^ k:=by simp
  omega
 have hgl:(dg n)[(((((dg n).map i5).length:Nat):Int) - 1).toNat]? =some top:=by rw [l2,←htop];exact a9L (by omega)
 conv=>whnf
 repeat' (first|refine zx ?_|refine N3 (by omega) hgl ?_|refine zd ?_ ?_<;>intro h<;>try omega|fail)<;>conv=>whnf
 ·have hlt:top*2 ^ k<524288:=by omega
  refine ⟨[],k+1,⟨rfl,rfl,trivial,⟨rfl,rfl,c7 (Int.pow_succ _ _).symm,trivial⟩⟩,⟨?_,?_⟩,?_⟩
  ·rcases A6 k 19 with h1|h1
   ·exact h1
   ·have:k=19:=by omega
    subst this
    omega
  ·rw [Int.pow_succ,←Int.mul_assoc];omega
  ·show 20 - (k+1)<20 - k
   omega
 ·have hsh:Okd [(2:Int) ^ k]:=by intro x hx;simp at hx;omega
  have mu:=be7 (dg m) [2 ^ k] (x7 m) hsh (by omega) (by simp)
  have mv:=b9s (dg n) [2 ^ k] (x7 n) hsh (by omega) (by simp)
  have ev:val [(2:Int) ^ k]=2 ^ k:=by simp [val]
  rw [ev,u7] at mu mv
  generalize hU:((m:Int)*2 ^ k).toNat=U at mu
  generalize hV:((n:Int)*2 ^ k).toNat=V at mv
  refine .inr ⟨_,_,aq5 (b1j mu ⟨b1o,a5U (aD0 rfl),trivial⟩) rfl rfl rfl rfl,?_⟩
  conv=>whnf
  have hVe:V=n*2 ^ k:=by
   have e:((n:Int)*2 ^ k)=((n*2 ^ k:Nat):Int):=by simp
   rw [← hV,e];exact lbY _
  have hUe:U=m*2 ^ k:=by
   have e:((m:Int)*2 ^ k)=((m*2 ^ k:Nat):Int):=by simp
   rw [← hU,e];exact lbY _
  obtain ⟨lV,hvt⟩:=ba7 hn htop hk1 hk2 h
  rw [← hVe] at lV hvt
  have hp1:0<2 ^ k:=Nat.pow_pos (by decide)
  have lU3:(dg m).length<=(dg U).length:=v7 (by rw [hUe];exact aw3 m hp1)
  have lU2:(dg U).length<=(dg m).length+1:=M5 (by
   have h1:=N9 m
   rw [G9,hUe]
   have h2:=lbW (a:=2 ^ k) (b:=1048576) (c:=(m:Int)+1) (by omega) (by omega)
   have h3:(((m*2 ^ k:Nat)):Int)=m*2 ^ k:=by simp
   rw [Int.add_mul] at h2
   omega)
  have lU1:(X7 ((dg m).length+[(2:Int) ^ k].length) (dg U)).length<=300001:=by rw [aw7 (by simpa using lU2)];simp;omega
  have l3:((dg V).map i5).length=(dg V).length:=by simp
  have lmn:(dg n).length<=(dg m).length:=v7 hmn
  have l4:(toC [[T.atm (Value.int .i64 0)]]).length=1:=rfl
  repeat' (first|refine zx ?_|refine qp (toC,X7) ?_|refine qp toC ?_|refine D7 (by simp [toC,X7]) (by simp [toC];omega) ?_|refine .inl ⟨_,_,a69 mv ⟨b1o,a5U (aD0 rfl),trivial⟩ rfl,?_⟩|refine a5q (by omega) (by omega) (by omega) (by decide) ?_|refine zd ?_ ?_<;>intro h<;>try omega|fail)<;>conv=>whnf
  have hV0:0<V:=by rw [hVe];exact Nat.mul_pos hn hp1
  refine t8 c9 (σ:=Nat × List Int × List Int) (fun|(j,u,q)=>(Jn 8++[a7 .i64 (2 ^ k),a3z 0 u,j1 (dg V),a7 .i64 (dg V).length,a3z 1 q,a7 .i64 ((j:Int) - 1)]++Jn 156,[D4 u,D4 q])) (fun x=>a99 U V ((dg U).length+1) (dg V).length x.1 x.2.1 x.2.2) (fun x=>x.1)
   ((dg U).length+1 - (dg V).length,dg U++[0],List.replicate ((dg U).length+1 - (dg V).length) 0) [some 1,some 2]
   (a99.init hV0 (by omega)) ⟨rfl,rfl,⟨b8 rfl rfl rfl ?_ rfl,b8 rfl rfl rfl ?_ rfl,trivial⟩,⟨rfl,o4 rfl ?_,i8 rfl,c7 (by omega),o4 rfl ?_,c7 ?_,trivial⟩⟩ ?_
  ·simp [toC,I8,X7,lbD,List.take_append,i5]
  ·show List.replicate _ _=_
   simp [toC,i5,t6]
  ·simp [toC]
  ·simp [toC]
  ·simp [toC]
  rintro ⟨j,u,q⟩ hD
  have hD:a99 U V ((dg U).length+1) (dg V).length j u q:=hD
  have hlu:=hD.lu
  have hlq:=hD.lq
  have hle:=hD.le
  have hdt:0<j->dat u (j - 1+(dg V).length)=dat u (j - 1+(dg V).length):=fun _=>rfl
  have gu0:0<j->u[0+(((j:Int) - 1)+(dg V).length).toNat]? =some (dat u (j - 1+(dg V).length)):=fun h=>P4 (by omega) (by omega)
  have gu1:0<j->u[0+(((j:Int) - 1)+(dg V).length - 1).toNat]? =some (dat u (j - 1+(dg V).length - 1)):=fun h=>P4 (by omega) (by omega)
  have d0:=hD.oku.dat (j - 1+(dg V).length)
  have d1:=hD.oku.dat (j - 1+(dg V).length - 1)
  have dv:=(x7 V).dat ((dg V).length - 1)
  have hvt2:524288<=dat (dg V) ((dg V).length - 1):=by rw [lV];exact hvt
  conv=>whnf
  repeat' (first|refine zx ?_|refine a1z (by omega) (by show _<((u.length:Nat):Int);omega) ?_|refine k7 (gu0 (by omega)) ?_|refine k7 (gu1 (by omega)) ?_|refine ⟨by decide,_,b6L (by omega) (by omega),?_⟩|refine ⟨_,bf4 (by omega) (by omega) (by omega) (by omega),?_⟩|refine N3 (by omega) (a9L (by omega)) ?_|refine ⟨by omega,_,b9p (by omega) (by omega) (by omega),?_⟩|refine b9h (by omega) ?_|refine zd ?_ ?_<;>intro h<;>try omega|fail)<;>conv=>whnf
  ·have hj:0<j:=by omega
   obtain ⟨i,rfl⟩:∃i,j=i+1:=⟨j - 1,by omega⟩
   simp only [a5T] at *
   obtain ⟨L,hL⟩:∃L,(dg V).length=L+2:=⟨(dg V).length - 2,by omega⟩
   obtain ⟨w3,w2,w0,wv,wz,wlt⟩:=hD.window rfl
   generalize hw:(u.drop i).take ((dg V).length+1)=w at w3 w2 wv wlt
   have hwo:Okd w:=by rw [← hw];exact (hD.oku.drop i).take _
   have dw:∀t,t<=(dg V).length->dat w t=dat u (i+t):=fun t ht=>by
    rw [← hw];unfold dat
    rw [lbl,lbi,if_pos (by omega),lbj,←lbl]
   have win:=Win.of (x7 V) hwo hL (by omega) (by rw [hL] at hvt2;exact hvt2) (by rw [u7];exact wlt)
   rw [dw (L+2) (by omega),dw (L+1) (by omega),dw L (by omega),u7] at win
   have eL1:(dg V).length - 1=L+1:=by omega
   have eu0:i+(L+2)=i+(dg V).length:=by omega
   have eu1:i+(L+1)=i+(dg V).length - 1:=by omega
   rw [eu0,eu1] at win
   generalize ht:dat u (i+(dg V).length)*1048576+dat u (i+(dg V).length - 1)=top2 at win
   have win':=win
   have ht0:=win.t0
   refine t8 c9 (σ:=Int × Int) (fun|(g,r)=>(Jn 8++[a7 .i64 (2 ^ k),a3z 0 u,j1 (dg V),a7 .i64 (dg V).length,a3z 1 q,a7 .i64 i,J,a7 .i64 g,a7 .i64 r]++Jn 153,[D4 u,D4 q])) (fun x=>U2 V (val w) (dat (dg V) (L+1)) top2 x.1 x.2) (fun x=>x.1.toNat)
    (top2 / dat (dg V) (L+1),top2 % dat (dg V) (L+1)) [some 0,some 1]
    (U2.init win) ⟨rfl,rfl,⟨b8 rfl rfl rfl rfl rfl,b8 rfl rfl rfl rfl rfl,trivial⟩,⟨rfl,o4 rfl rfl,i8 rfl,rfl,o4 rfl rfl,c7 (by omega),c7 ?_,c7 ?_,trivial⟩⟩ ?_
   ·rw [eL1]
   ·rw [eL1,Int.tmod_eq_emod_of_nonneg ht0]
   rintro ⟨g,r⟩ hG
   have hG:U2 V (val w) (dat (dg V) (L+1)) top2 g r:=hG
   have hg0:=hG.g0
   have hgu:=hG.gu
   have hr0:=hG.r0
   have hru:=hG.ru
   have dv2:=(x7 V).dat L
   have dv1:=(x7 V).dat (L+1)
   have du2:=hD.oku.dat (i+L)
   have hgm:0<=g*dat (dg V) L∧g*dat (dg V) L<=2097152*1048576:=⟨lb0 hg0 dv2.1,a6i hgu (by omega) dv2.1 (by omega)⟩
   have gv2:(dg V)[((((dg V).length:Nat):Int) - 2).toNat]? =some (dat (dg V) L):=by rw [show ((((dg V).length:Nat):Int) - 2).toNat=L by omega];exact w6 (by omega)
   have gv1:(dg V)[((((dg V).length:Nat):Int) - 1).toNat]? =some (dat (dg V) (L+1)):=by rw [show ((((dg V).length:Nat):Int) - 1).toNat=L+1 by omega];exact w6 (by omega)
   have gu2:u[0+((i:Int)+((dg V).length:Nat) - 2).toNat]? =some (dat u (i+L)):=P4 (by omega) (by omega)
   conv=>whnf
   repeat' (first|refine zx ?_|refine a1z (by omega) (by show _<((u.length:Nat):Int);omega) ?_|refine N3 (by omega) gv2 ?_|refine N3 (by omega) gv1 ?_|refine k7 gu2 ?_|refine ⟨by decide,_,b6L (by omega) (by omega),?_⟩|refine ⟨_,bf4 (by omega) (by omega) (by omega) (by omega),?_⟩|refine a1A (by omega) (by omega) (by show _<=((u.length:Nat):Int);omega) ?_|refine zd ?_ ?_<;>intro h<;>try omega|fail)<;>conv=>whnf
   ·have hgc:1048576<=g:=by omega
    have hst:=U2.step win hG (.inl hgc) (o7 hwo)
    exact ⟨[some 0,some 1],(g - 1,r+dat (dg V) (L+1)),⟨rfl,rfl,⟨b8 rfl rfl rfl rfl rfl,b8 rfl rfl rfl rfl rfl,trivial⟩,⟨rfl,o4 rfl rfl,rfl,rfl,o4 rfl rfl,rfl,rfl,rfl,trivial⟩⟩,hst,by have:=hst.g0;show (g - 1).toNat<g.toNat;omega⟩
   ·have hgc:r<1048576∧r*1048576+dat u (i+L)<g*dat (dg V) L:=by omega
    have hst:=U2.step win hG (.inr hgc) (o7 hwo)
    exact ⟨[some 0,some 1],(g - 1,r+dat (dg V) (L+1)),⟨rfl,rfl,⟨b8 rfl rfl rfl rfl rfl,b8 rfl rfl rfl rfl rfl,trivial⟩,⟨rfl,o4 rfl rfl,rfl,rfl,o4 rfl rfl,rfl,rfl,rfl,trivial⟩⟩,hst,by have:=hst.g0;show (g - 1).toNat<g.toNat;omega⟩
   all_goals
    have hgc:¬(1048576<=g∨(r<1048576∧r*1048576+dat u (i+L)<g*dat (dg V) L)):=by omega
    obtain ⟨hg1,hgV⟩:=U2.fin win hG hgc (by
     have h1:=win.Vl
     have h3:=win.v1l
     have h2:=lbW (a:=1048576) (b:=dat (dg V) (L+1)*1048576+dat (dg V) L) (by omega) (J8 win.P0)
     omega)
    have st:=b5Z (u.take i) w (u.drop (i+((dg V).length+1))) (dg V) g hwo (x7 V) (by omega) (by omega) ⟨hg0,hg1⟩ (by rw [u7];exact hgV)
    rw [u7] at st
    obtain ⟨q0,q1,q2,q3⟩:=aX5 hG (by omega) (o7 hwo) hg1 hgV
    have hds:=hD.step rfl hV0 ⟨q0,q1⟩ (by rw [hw];exact q2) (by rw [hw];exact q3)
    rw [hw] at hds
    generalize S7 (val w) V g=Q at st q0 q1 q2 q3 hds
    rw [← w3,w2] at st
    generalize hu':u.take i++X7 ((dg V).length+1) (dg (val w - Q*V).toNat)++u.drop (i+((dg V).length+1))=u' at st hds
    refine .inr ⟨_,_,O0 (H':=[D4 u',D4 q]) [0] st (b6f (by rw [w0];omega) (by omega)) rfl rfl (by decide) ?_ (by simp) (by simp) rfl rfl rfl ?_ ?_,?_⟩
    ·intro i k hk
     match i,hk with
     |0,hk=>
      injection hk with hk
      subst hk
      exact ⟨rfl,rfl,a3d _,_,rfl,C4 rfl⟩
    ·intro i k hk
     match i,hk with
     |0,hk=>
      injection hk with hk
      subst hk
      exact ⟨_,rfl,C4 rfl⟩
    ·intro j hj hn
     match j,hj with
     |0,_=>simp at hn
     |1,_=>rfl
    conv=>whnf
    have hlu':=hds.lu
    refine zz ?_
    conv=>whnf
    repeat' (first|refine zx ?_|refine k7 (P4 rfl (by omega)) ?_|refine zd ?_ ?_<;>intro h<;>try omega|fail)<;>conv=>whnf
    exact ⟨[some 0,some 1],(i,u',q.set i Q),⟨rfl,rfl,⟨b8 rfl rfl rfl rfl rfl,b8 rfl rfl rfl (N5 (i:=i) (n:=(i:Int)) (by simp)) rfl,trivial⟩,⟨rfl,o4 rfl (hlu.trans hlu'.symm),rfl,rfl,o4 rfl (by simp),rfl,trivial⟩⟩,hds,by show i<i+1;omega⟩
  ·have hj:j=0:=by omega
   subst hj
   obtain ⟨fq,fu⟩:=hD.fin hV0
   have tu:=a34 u (by omega)
   rw [R7 hD.oku,fu,lbY] at tu
   have tq:=a34 q (by omega)
   rw [R7 hD.okq,fq,lbY] at tq
   have lUV:(dg (U % V)).length<=(dg U).length:=v7 (Nat.mod_le _ _)
   have sh:=b2M (dg (U % V)) (2 ^ k) (x7 _) (by omega) (by omega) (by omega)
   have e1:U % V / 2 ^ k=m % n:=by rw [hUe,hVe,Nat.mul_mod_mul_right,Nat.mul_div_cancel _ hp1]
   have e2:U / V=m / n:=by rw [hUe,hVe,Nat.mul_div_mul_right _ _ hp1]
   have e3:((U % V:Nat):Int) / 2 ^ k=((m % n:Nat):Int):=by rw [← e1];simp
   rw [u7,e3,lbY] at sh
   rw [e2] at tq
   refine .inr ⟨_,_,C6 [0] tu ⟨a5U (y0 (by simp) rfl (by intro h;cases h) rfl rfl (by simp)),trivial⟩ rfl,?_⟩
   conv=>whnf
   repeat' (first|refine zx ?_|refine qp sh ?_|refine zd ?_ ?_<;>intro h<;>try omega|fail)<;>conv=>whnf
   refine .inr ⟨_,_,C6 [1] tq ⟨a5U (y0 (by simp) rfl (by intro h;cases h) rfl rfl (by simp)),trivial⟩ rfl,?_⟩
   conv=>whnf
   exact l9 ⟨rfl,rfl,trivial⟩
theorem b9l (m n:Nat) (hn:0<n) (lm:(dg m).length<=300000) (ln:(dg n).length<=300000):
 a8 Tryz.prog 122 [j1 (dg m),j1 (dg n)] [] (b6g m n) []:=by
 rcases A6 m n with h|h
 ·exact b9x m n hn h (by omega) (by omega)
 ·have h1:(dg n).length≠0:=by rw [Ne,a22,Q9];omega
  by_cases hl:(dg n).length=1
  ·exact b9R m n hn h hl (by omega)
  ·exact b9M m n hn h (by omega) lm ln
open St1 St2 St3 St4 St5 St6 St7 St8 StA StB
def bl (z:Int):Nat:=(dg z.natAbs).length
theorem a64 (m n:Nat):(dg (m+n)).length<=max (dg m).length (dg n).length+1:=by
 refine M5 ?_
 have h1:=N9 m
 have h2:=N9 n
 have h3:=a1F (Nat.le_max_left (dg m).length (dg n).length)
 have h4:=a1F (Nat.le_max_right (dg m).length (dg n).length)
 rw [G9]
 omega
theorem ag8 (m n:Nat):(dg (m*n)).length<=(dg m).length+(dg n).length:=by
 refine M5 ?_
 have h1:=N9 m
 have h2:=N9 n
 rw [a7G]
 have h3:(m:Int)*n<=m*(pw (dg n).length):=lbW (by omega) (by omega)
 have h4:(m:Int)*pw (dg n).length<pw (dg m).length*pw (dg n).length:=Int.mul_lt_mul_of_pos_right h1 (P3 _)
 have h5:((m*n:Nat):Int)=m*n:=by simp
 omega
theorem a3i (x:Int):bl (-x)=bl x:=by unfold bl;rw [Int.natAbs_neg]
theorem aF8 (x y:Int):bl (x+y)<=max (bl x) (bl y)+1:=lbT (v7 (Int.natAbs_add_le x y)) (a64 _ _)
theorem O1 (x y:Int):bl (x*y)<=bl x+bl y:=by unfold bl;rw [Int.natAbs_mul];exact ag8 _ _
theorem b1Z {x y:Int} (h:x.natAbs<=y.natAbs):bl x<=bl y:=v7 h
theorem a0f {x:Int} (h0:-9223372036854775808<=x) (h1:x<=9223372036854775807):bl x<=4:=M5 (by simp only [pw];omega)
theorem n8 {x:Int} (h0:-1048575<=x) (h1:x<=1048575):bl x<=1:=M5 (by simp only [pw];omega)
theorem b0F (x y:Int) {n:Nat} (lx:bl x<=n) (ly:bl y<=n):bl (Int.gcd x y)<=n:=by
 by_cases h:x=0
 ·subst h;unfold bl at *;rw [Int.gcd_zero_left];simpa using ly
 ·refine lbT (v7 ?_) lx
  simp only [b06]
  exact Int.gcd_le_natAbs_left y h
def rl (x:Rat):Nat:=max (bl x.num) (bl x.den)
theorem O2 (x:Rat):bl x.num<=rl x:=Nat.le_max_left _ _
theorem P1 (x:Rat):bl x.den<=rl x:=Nat.le_max_right _ _
theorem a0y {p q:Int} (hq:q≠0):rl (Rat.divInt p q)<=max (bl p) (bl q):=by
 unfold rl
 rw [Rat.num_divInt,Rat.den_divInt,if_neg hq]
 have h1:bl (q.sign*p / (q.gcd p:Nat))<=bl p:=b1Z (by
  refine lbT (Int.natAbs_ediv_le_natAbs _ _) ?_
  rw [Int.natAbs_mul]
  have:q.sign.natAbs=1:=by
   rcases a8u q 0 with h|h|h
   ·rw [a5F h];rfl
   ·exact absurd h hq
   ·rw [a1T h];rfl
  rw [this,Nat.one_mul];exact lbS _)
 have h2:bl ((q.natAbs / q.gcd p:Nat):Int)<=bl q:=b1Z (by simp only [b06];exact Nat.div_le_self _ _)
 omega
theorem b2i (x y:Rat):x+y=Rat.divInt (x.num*y.den+y.num*x.den) (x.den*y.den):=by rw [Rat.add_def',←Rat.divInt_ofNat,a61]
theorem b1N (x y:Rat):x*y=Rat.divInt (x.num*y.num) (x.den*y.den):=by rw [Rat.mul_def',←Rat.divInt_ofNat,a61]
theorem b7H (x y:Rat):x / y=Rat.divInt (x.num*y.den) (x.den*y.num):=by
 rw [Rat.div_def,Rat.inv_def]
 conv=>lhs;rw [← Rat.num_divInt_den x]
 rw [Rat.divInt_mul_divInt]
theorem b0p (x:Rat):(x.den:Int)≠0:=by have:=x.den_pos;omega
theorem a9E (x y:Rat):(x.den:Int)*y.den≠0:=Int.mul_ne_zero (b0p x) (b0p y)
theorem Y6 (x y:Rat):rl (x+y)<=rl x+rl y+1:=by
 rw [b2i]
 have h1:=aF8 (x.num*y.den) (y.num*x.den)
 have h2:=O1 x.num y.den
 have h3:=O1 y.num x.den
 have h4:=O1 x.den y.den
 have:=a0y (p:=x.num*y.den+y.num*x.den) (a9E x y)
 unfold rl at *
 omega
theorem M9 (x:Rat):rl (-x)=rl x:=by unfold rl;rw [Rat.neg_num,Rat.neg_den,a3i]
theorem b0B (x y:Rat):rl (x - y)<=rl x+rl y+1:=by rw [Rat.sub_eq_add_neg];have:=Y6 x (-y);rw [M9] at this;exact this
theorem a4x (x y:Rat):rl (x*y)<=rl x+rl y:=by
 rw [b1N]
 have h2:=O1 x.num y.num
 have h4:=O1 x.den y.den
 have:=a0y (p:=x.num*y.num) (a9E x y)
 unfold rl at *
 omega
theorem V4 (n:Int):rl (n:Rat)=max (bl n) 1:=by unfold rl;rw [Rat.num_intCast,Rat.den_intCast];rfl
def X4 (x y:Rat):Int:=if x<y then -1 else if y<x then 1 else 0
theorem b6U {x:Rat}:x.num<0↔x<0:=by rw [Rat.lt_iff];simp
theorem b5M {x:Rat}:0<x.num↔0<x:=by rw [Rat.lt_iff];simp
def sgR (x:Rat):Int:=if x<0 then -1 else if 0<x then 1 else 0
theorem aj4 (x:Rat):x.num.sign=sgR x:=by
 unfold sgR
 by_cases h:x<0
 ·rw [if_pos h,a5F (b6U.2 h)]
 ·rw [if_neg h]
  by_cases h2:0<x
  ·rw [if_pos h2,a1T (b5M.2 h2)]
  ·rw [if_neg h2]
   have h3:¬x.num<0:=fun e=>h (b6U.1 e)
   have h4:¬0<x.num:=fun e=>h2 (b5M.1 e)
   rw [show x.num=0 by omega];rfl
end Go.Proofs.YtpjgpclheebhkaaGreat
