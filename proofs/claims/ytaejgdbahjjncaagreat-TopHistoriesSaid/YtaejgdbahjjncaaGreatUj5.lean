/- Part 5. -/
import Derived.Test.YtaejgdbahjjncaaGreatUj4
namespace Go.Proofs.YtaejgdbahjjncaaGreat
set_option linter.unusedVariables false
set_option linter.unusedSimpArgs false
section
open Go.RowKit
mutual
def a09 (σ:List Nat):C->C
 |.t x=>.t x
 |.ptr id r o=>.ptr (σ.getD id 0) r o
 |.own id lo len app=>.own (σ.getD id 0) lo len app
 |.fn f caps=>.fn f (a2I σ caps)
def a2I (σ:List Nat):List C->List C
 |[]=>[]
 |x::r=>a09 σ x::a2I σ r
end
def a7o (σ:List Nat):S->S
 |.junk=>.junk
 |.c x=>.c (a09 σ x)
 |.agg cs=>.agg (a2I σ cs)
 |.tup ss=>.tup (ss.map fun s=>match s with
  |.c x=>.c (a09 σ x)
  |.agg cs=>.agg (a2I σ cs)
  |s=>s)
mutual
def okC (n:Nat):C->Bool
 |.t _=>true
 |.ptr id _ _=>Nat.blt id n
 |.own id _ _ _=>Nat.blt id n
 |.fn _ caps=>okL n caps
def okL (n:Nat):List C->Bool
 |[]=>true
 |x::r=>okC n x && okL n r
end
def okS (n:Nat):S->Bool
 |.junk=>true
 |.c x=>okC n x
 |.agg cs=>okL n cs
 |.tup _=>false
theorem M5 (σ:List Nat):∀l,a2I σ l=l.map (a09 σ)
 |[]=>by simp [a2I]
 |x::r=>by simp [a2I,M5 σ r]
theorem b0S {n:Nat}:∀{l:List C},okL n l=true->∀c ∈ l,okC n c=true
 |[],_,c,h=>by cases h
 |x::r,h,c,hc=>by
  simp only [okL,lbM] at h
  rcases lbA.1 hc with rfl|hc
  ·exact h.1
  ·exact b0S h.2 c hc
theorem ae2 {σ:List Nat} {x:C} (h:x.isT=true):a09 σ x=x:=by
 cases x<;>first|rfl|cases h
def O9 (σ:List Nat) (ι:Io):Io:=fun id=>(σ[id]?).bind ι
mutual
theorem av9 {w:World} {ι:Io} {M:Ms} {σ:List Nat}:∀(x:C) (v:Value),okC σ.length x=true->RC w ι M (a09 σ x) v->RC w (O9 σ ι) M x v
 |.t x,v,_,h=>by
  simp only [a09] at h
  cases h with
  |t h=>exact .t h
 |.ptr id r o,v,hk,h=>by
  simp only [a09] at h
  have hlt:id<σ.length:=by simpa [okC,Nat.blt_eq] using hk
  have e:O9 σ ι id=ι (σ.getD id 0):=by simp [O9,lbf hlt,lbl]
  cases h with
  |ptr h=>exact .ptr (e.trans h)
 |.own id lo len app,v,hk,h=>by
  simp only [a09] at h
  have hlt:id<σ.length:=by simpa [okC,Nat.blt_eq] using hk
  have e:O9 σ ι id=ι (σ.getD id 0):=by simp [O9,lbf hlt,lbl]
  cases h with
  |own h h1 h2 h3 h4 h5=>exact .own (e.trans h) h1 h2 h3 h4 h5
  |nil h=>exact .nil (e.trans h)
 |.fn f caps,v,hk,h=>by
  simp only [a09] at h
  cases h with
  |fn vs hl hr=>
   rw [M5,lbr] at hl
   refine .fn vs hl fun j c hj=>?_
   exact aA3 caps (by simpa [okC] using hk) c (lbm hj) _ (hr j _ (by rw [M5,lba,hj];rfl))
theorem aA3 {w:World} {ι:Io} {M:Ms} {σ:List Nat}:∀(l:List C),okL σ.length l=true->∀c ∈ l,∀v,RC w ι M (a09 σ c) v->RC w (O9 σ ι) M c v
 |[],_,c,h,_,_=>by cases h
 |x::r,hk,c,hc,v,h=>by
  simp only [okL,lbM] at hk
  rcases lbA.1 hc with hcx|hc
  ·rw [hcx] at h ⊢
   exact av9 x v hk.1 h
  ·exact aA3 r hk.2 c hc v h
end
theorem b0N {w:World} {ι:Io} {M:Ms} {σ:List Nat} {s:S} {v:Value} (hk:okS σ.length s=true) (h:RS w ι M (a7o σ s) v):RS w (O9 σ ι) M s v:=by
 cases s with
 |junk=>exact .junk
 |c x=>cases h with
  |c h=>exact .c (av9 x v hk h)
 |agg cs=>
  have h:RS w ι M (.agg (a2I σ cs)) v:=h
  cases h with
  |agg vs hl hr=>
   rw [M5,lbr] at hl
   refine .agg vs hl fun j c hj=>?_
   exact aA3 cs hk c (lbm hj) _ (hr j _ (by rw [M5,lba,hj];rfl))
 |tup ss=>cases hk
theorem RC.ren {w:World} {ι ι':Io} {M:Ms} {σ:List Nat} (hι:∀id l,ι id=some l->ι' (σ.getD id 0)=some l) {x:C} {v:Value} (h:RC w ι M x v):RC w ι' M (a09 σ x) v:=by
 induction h with
 |t h=>simp only [a09];exact .t h
 |ptr h=>simp only [a09];exact .ptr (hι _ _ h)
 |own h h1 h2 h3 h4 h5=>simp only [a09];exact .own (hι _ _ h) h1 h2 h3 h4 h5
 |nil h=>simp only [a09];exact .nil (hι _ _ h)
 |fn vs hl hr ih=>
  simp only [a09]
  refine .fn vs (by rw [M5,lbr];exact hl) fun j c hj=>?_
  rw [M5,lba] at hj
  obtain ⟨c0,hc0,rfl⟩:=Option.map_eq_some_iff.1 hj
  exact ih j c0 hc0
theorem RS.ren1 {w:World} {ι ι':Io} {M:Ms} {σ:List Nat} (hι:∀id l,ι id=some l->ι' (σ.getD id 0)=some l) {x:List C} {v:Value} (h:RS w ι M (.agg x) v):RS w ι' M (.agg (a2I σ x)) v:=by
 cases h with
 |agg vs hl hr=>
  refine .agg vs (by rw [M5,lbr];exact hl) fun j c hj=>?_
  rw [M5,lba] at hj
  obtain ⟨c0,hc0,rfl⟩:=Option.map_eq_some_iff.1 hj
  exact (hr j c0 hc0).ren hι
def bb3:S->Bool
 |.tup _=>false
 |_=>true
def b1e:S->Bool
 |.tup ss=>ss.all bb3
 |_=>true
theorem RS.ren {w:World} {ι ι':Io} {M:Ms} {σ:List Nat} (hι:∀id l,ι id=some l->ι' (σ.getD id 0)=some l) {s:S} {v:Value} (hs:b1e s=true) (h:RS w ι M s v):RS w ι' M (a7o σ s) v:=by
 cases s with
 |junk=>exact .junk
 |c x=>cases h with
  |c h=>exact .c (h.ren hι)
 |agg cs=>exact RS.ren1 hι h
 |tup ss=>
  cases h with
  |tup vs hl hr=>
   refine .tup vs (by simpa using hl) fun j s hj=>?_
   rw [lba] at hj
   obtain ⟨s0,hs0,rfl⟩:=Option.map_eq_some_iff.1 hj
   have h0:=hr j s0 hs0
   have hno:=lbv.1 hs s0 (lbm hs0)
   cases s0 with
   |junk=>exact .junk
   |c x=>cases h0 with
    |c h=>exact .c (h.ren hι)
   |agg cs=>exact RS.ren1 hι h0
   |tup _=>cases hno
def a9q (σ:List Nat) (rows:List (List C)):List (List C):=rows.map (a2I σ)
theorem a43 {σ:List Nat} (rows:List (List T)):a9q σ (toC rows)=toC rows:=by
 unfold a9q toC
 rw [List.map_map]
 apply lbp
 intro r _
 show a2I σ (r.map C.t)=r.map C.t
 rw [M5,List.map_map]
 apply lbp
 intro c _
 simp [a09]
theorem b1d {σ:List Nat} {rows:List (List C)} {i j:Nat}:at2 (a9q σ rows) i j=(at2 rows i j).map (a09 σ):=by
 unfold at2 a9q
 rw [lba]
 cases rows[i]? with
 |none=>rfl
 |some r=>simp [M5]
def aw7 (σ:List Nat) (k k':Blk):Prop:=k'.mode=k.mode∧k'.elem=k.elem∧k'.size=k.size∧k'.app=k.app∧k'.rows=a9q σ k.rows
theorem x9 {σ:List Nat} {k:Blk} {rows:List (List T)} (h:k.rows=toC rows):aw7 σ k k:=⟨rfl,rfl,rfl,rfl,by rw [h,a43]⟩
theorem b5E {n:Nat}:∀l:List T,okL n (l.map C.t)=true
 |[]=>by simp [okL]
 |x::r=>by simp [okL,okC,b5E r]
theorem J6 {n:Nat} (rows:List (List T)):∀r ∈ toC rows,okL n r=true:=by
 intro r hr
 obtain ⟨r',_,rfl⟩:=lbx.1 hr
 exact b5E r'
theorem G4.ren {w:World} {ι ι':Io} {M:Ms} {σ:List Nat} (hι:∀id l,ι id=some l->ι' (σ.getD id 0)=some l) {k k':Blk} (hk:aw7 σ k k') {l:Loc} (h:G4 w ι M k l):G4 w ι' M k' l:=by
 obtain ⟨e1,e2,e3,e4,e5⟩:=hk
 cases l with
 |nil=>
  have h:k.rows=[]:=h
  show k'.rows=[]
  rw [e5,h];rfl
 |blk b cap size=>
  obtain ⟨q1,q2,q3,q4,q5,cur,q6,q7,q8⟩:=h
  refine ⟨by rw [e3];exact q1,q2,by rw [e5];simpa [a9q] using q3,q4,?_,cur,by rw [e2];exact q6,q7,fun i j c hc=>?_⟩
  ·intro r hr
   rw [e5] at hr
   obtain ⟨r0,h0,rfl⟩:=lbx.1 hr
   rw [M5,lbr]
   exact q5 r0 h0
  ·rw [e5,b1d] at hc
   obtain ⟨c0,hc0,rfl⟩:=Option.map_eq_some_iff.1 hc
   obtain ⟨u,h1,h2⟩:=q8 i j c0 hc0
   exact ⟨u,h1,h2.ren hι⟩
theorem G4.ren_in {w:World} {ι:Io} {M:Ms} {σ:List Nat} {k k':Blk} (hk:aw7 σ k k') (hok:∀r ∈ k.rows,okL σ.length r=true) {l:Loc} (h:G4 w ι M k' l):G4 w (O9 σ ι) M k l:=by
 obtain ⟨e1,e2,e3,e4,e5⟩:=hk
 cases l with
 |nil=>
  have h:k'.rows=[]:=h
  show k.rows=[]
  rw [e5] at h
  simpa [a9q] using h
 |blk b cap size=>
  obtain ⟨q1,q2,q3,q4,q5,cur,q6,q7,q8⟩:=h
  refine ⟨by rw [← e3];exact q1,q2,by rw [e5] at q3;simpa [a9q] using q3,q4,?_,cur,by rw [← e2];exact q6,q7,fun i j c hc=>?_⟩
  ·intro r hr
   have:=q5 (a2I σ r) (by rw [e5];exact lbx.2 ⟨r,hr,rfl⟩)
   rw [M5,lbr] at this
   exact this
  ·obtain ⟨u,h1,h2⟩:=q8 i j (a09 σ c) (by rw [e5,b1d,hc];rfl)
   obtain ⟨row,r1,r2⟩:=C1 hc
   exact ⟨u,h1,av9 c u (b0S (hok row (lbm r1)) c (lbm r2)) h2⟩
def a3T (σ:List Nat) (n m:Nat):List Nat:=σ++(List.range m).map (n+·)
theorem N8 {P:Program} {g:FuncId} {args args':List S} {H H' Hs Hs':Hp} {r r':S} (σ:List Nat) (h:b7 P g args Hs r Hs')
 (hargs:args'=args.map (a7o σ)) (hok:args.all (okS σ.length)=true) (hσl:σ.length=Hs.length) (hσn:σ.Nodup)
 (hin:∀i k,Hs[i]? =some k->k.mode=.live∧k.app=false∧(∀ r ∈ k.rows,okL σ.length r=true)∧∃k',H[σ.getD i 0]? =some k'∧aw7 σ k k')
 (hno:∀k ∈ Hs',k.mode≠.old) (hlen:Hs.length<=Hs'.length)
 (hr:b1e r=true) (hr':r'=a7o (a3T σ H.length (Hs'.length - Hs.length)) r)
 (hl':H'.length=H.length+(Hs'.length - Hs.length)) (hout:∀i k,Hs'[i]? =some k->∃k',H'[(a3T σ H.length (Hs'.length - Hs.length)).getD i 0]? =some k'∧aw7 (a3T σ H.length (Hs'.length - Hs.length)) k k')
 (hrest:∀j,j<H.length->j ∉ σ->H'[j]? =H[j]?):b7 P g args' H r' H':=by
 refine ⟨h.1,fun w ι M vals hl hv hH hM hF=>?_⟩
 subst hargs
 have hσlt:∀i,i<σ.length->σ.getD i 0<H.length:=fun i hi=>by
  obtain ⟨_,_,_,k',hk',_⟩:=hin i Hs[i] (lbf (by omega))
  exact (lbe.1 hk').1
 have hsub:∀i,i<σ.length->O9 σ ι i=ι (σ.getD i 0):=fun i hi=>by simp [O9,lbf hi,lbl]
 have hsubn:∀i,σ.length<=i->O9 σ ι i=none:=fun i hi=>by simp [O9,lbd hi]
 have hget:∀i k,Hs[i]? =some k->i<σ.length:=fun i k hk=>by rw [hσl];exact (lbe.1 hk).1
 have hHs:j8 w (O9 σ ι) M Hs:=by
  refine ⟨?_,?_,?_,?_,?_⟩
  ·intro id k hk hd l hl
   obtain ⟨h1,h2,h3,k',hk',hren⟩:=hin id k hk
   rw [hsub id (hget id k hk)] at hl
   exact (hH.blk _ k' hk' (by rw [hren.1];exact hd) l hl).ren_in hren h3
  ·intro id k hk hm b cap size hl
   obtain ⟨h1,h2,h3,k',hk',hren⟩:=hin id k hk
   rw [hsub id (hget id k hk)] at hl
   exact hH.liv _ k' hk' (by rw [hren.1];exact hm) b cap size hl
  ·intro id k hk hm
   obtain ⟨h1,h2,h3,k',hk',hren⟩:=hin id k hk
   rw [h1] at hm;cases hm
  ·intro id id' k k2 hk hk2 hm hm2 b cap size cap' size' hl hl2
   obtain ⟨h1,h2,h3,k',hk',hren⟩:=hin id k hk
   obtain ⟨h1',h2',h3',k2',hk2',hren2⟩:=hin id' k2 hk2
   rw [hsub id (hget id k hk)] at hl
   rw [hsub id' (hget id' k2 hk2)] at hl2
   have:=hH.inj _ _ k' k2' hk' hk2' (by rw [hren.1];exact hm) (by rw [hren2.1];exact hm2) _ _ _ _ _ hl hl2
   have hi:=hget id k hk
   have hi':=hget id' k2 hk2
   rw [lbl,lbl,lbf hi,lbf hi'] at this
   simp only [Option.getD_some] at this
   have hp:=List.pairwise_iff_getElem.1 hσn
   rcases Nat.lt_trichotomy id id' with hlt|heq|hgt
   ·exact absurd this (hp id id' hi hi' hlt)
   ·exact heq
   ·exact absurd this.symm (hp id' id hi' hi hgt)
  ·intro id id' k k2 hk hk2 hm
   obtain ⟨h1,_⟩:=hin id k hk
   rw [h1] at hm;cases hm
 have hlive:∀b,a24 (O9 σ ι) Hs b->∃i k,i<σ.length∧H[σ.getD i 0]? =some k∧k.mode=.live∧k.app=false∧∃cap size,ι (σ.getD i 0)=some (.blk b cap size):=by
  rintro b ⟨i,k,cap,size,hk,hm,hi⟩
  obtain ⟨h1,h2,h3,k',hk',hren⟩:=hin i k hk
  rw [hsub i (hget i k hk)] at hi
  exact ⟨i,k',hget i k hk,hk',by rw [hren.1];exact h1,by rw [hren.2.2.2.1];exact h2,cap,size,hi⟩
 have hliveH:∀b,a24 (O9 σ ι) Hs b->a24 ι H b:=fun b hb=>by
  obtain ⟨i,k,_,hk,hm,_,cap,size,hi⟩:=hlive b hb
  exact ⟨_,k,cap,size,hk,hm,hi⟩
 have hvals:∀j s,args[j]? =some s->RS w (O9 σ ι) M s (vals.getD j undef):=fun j s hj=>
  b0N (lbv.1 hok s (lbm hj)) (hv j _ (by rw [lba,hj];rfl))
 have hcall:=h.2 w (O9 σ ι) M vals (by simpa using hl) hvals hHs hM (fun id hid=>hsubn id (by omega))
 refine Calls.mono hcall ?_
 rintro e w' ⟨v,rfl,ι',M',h1,h2,h3,h4,h5⟩
 refine ⟨v,rfl,?_⟩
 generalize hm:Hs'.length - Hs.length=m at *
 let σ':=a3T σ H.length m
 let ι2:Io:=fun j=>if j<H.length then ι j else ι' (Hs.length+(j - H.length))
 have hσ'l:σ'.length=Hs'.length:=by simp [σ',a3T];omega
 have hσ'1:∀i,i<σ.length->σ'.getD i 0=σ.getD i 0:=fun i hi=>by
  simp only [σ',a3T,lbl,lbb hi]
 have hσ'2:∀i,σ.length<=i->i<Hs'.length->σ'.getD i 0=H.length+(i - σ.length):=fun i hi hi'=>by
  simp only [σ',a3T,lbl]
  rw [lbc hi,lba,lbh (by omega)]
  rfl
 have hι2:∀id l,ι' id=some l->ι2 (σ'.getD id 0)=some l:=fun id l hid=>by
  have hidl:id<Hs'.length:=by
   rcases Nat.lt_or_ge id Hs'.length with h|h
   ·exact h
   ·rw [h4 id h] at hid;cases hid
  show (if _ then _ else _)=_
  by_cases hlt:id<σ.length
  ·rw [hσ'1 id hlt,if_pos (hσlt id hlt),←hsub id hlt,←h5.same id (by omega)]
   exact hid
  ·rw [hσ'2 id (by omega) hidl,if_neg (by omega),show Hs.length+(H.length+(id - σ.length) - H.length)=id by omega]
   exact hid
 have hkeepM:∀b,b<w.heap.size->¬M b->w'.heap[b]? =w.heap[b]?:=fun b hb hnm=>h5.keep b hb fun hl=>hnm (a24.inM hHs hl)
 have hιext:∀id l,ι id=some l->ι2 id=some l:=fun id l hid=>by
  show (if _ then _ else _)=_
  rw [if_pos]
  ·exact hid
  ·rcases Nat.lt_or_ge id H.length with h|h
   ·exact h
   ·rw [hF id h] at hid;cases hid
 -- what lies at a place
 have hcase:∀j k',H'[j]? =some k'->(j<H.length∧j ∉ σ∧H[j]? =some k')∨∃i k,Hs'[i]? =some k∧σ'.getD i 0=j∧aw7 σ' k k'∧ι2 j=ι' i:=fun j k' hj=>by
  have hjl:=(lbe.1 hj).1
  have fromI:∀i,i<Hs'.length->σ'.getD i 0=j->∃i k,Hs'[i]? =some k∧σ'.getD i 0=j∧aw7 σ' k k'∧ι2 j=ι' i:=fun i hi hij=>by
   obtain ⟨k2,hk2,hren⟩:=hout i Hs'[i] (lbf hi)
   have hk2':H'[j]? =some k2:=by rw [← hij];exact hk2
   rw [hj] at hk2'
   injection hk2' with hk2'
   subst hk2'
   refine ⟨i,_,lbf hi,hij,hren,?_⟩
   show (if _ then _ else _)=_
   by_cases hlt:i<σ.length
   ·rw [← hij,hσ'1 i hlt,if_pos (hσlt i hlt),←hsub i hlt,←h5.same i (by omega)]
   ·rw [← hij,hσ'2 i (by omega) hi,if_neg (by omega),show Hs.length+(H.length+(i - σ.length) - H.length)=i by omega]
  by_cases hlt:j<H.length
  ·by_cases hmem:j ∈ σ
   ·obtain ⟨i,hi⟩:=List.mem_iff_getElem?.1 hmem
    have hil:=(lbe.1 hi).1
    refine .inr (fromI i (by omega) ?_)
    rw [hσ'1 i hil,lbl,hi];rfl
   ·rw [hrest j hlt hmem] at hj
    exact .inl ⟨hlt,hmem,hj⟩
  ·refine .inr (fromI (σ.length+(j - H.length)) (by omega) ?_)
   rw [hσ'2 _ (by omega) (by omega)];omega
 have hold2:∀j,j<H.length->ι2 j=ι j:=fun j hj=>by show (if _ then _ else _)=_;rw [if_pos hj]
 have hmodeOut:∀j k',j<H.length->j ∉ σ->H[j]? =some k'->k'.mode=.live->∀b cap size,ι j=some (.blk b cap size)->¬a24 (O9 σ ι) Hs b:=fun j k' hjl hjn hk' hm' b cap size hi hb=>by
  obtain ⟨i,k,hil,hk,hkm,_,c,s,hi2⟩:=hlive b hb
  have:=hH.inj j _ k' k hk' hk hm' hkm _ _ _ _ _ hi hi2
  apply hjn
  rw [this,lbl,lbf hil]
  exact lbE hil
 refine ⟨ι2,M',?_,⟨?_,?_,?_,?_,?_⟩,h3,?_,?_⟩
 ·rw [hr']
  exact h1.ren hι2 hr
 ·intro j k' hj hd l hl2
  rcases hcase j k' hj with ⟨hjl,hjn,hk'⟩|⟨i,k,hk,hij,hren,hιj⟩
  ·rw [hold2 j hjl] at hl2
   have hb:=hH.blk j k' hk' hd l hl2
   cases l with
   |nil=>exact hb
   |blk b cap size=>
    obtain ⟨q1,q2,q3,q4,q5,cur,q6,q7,q8⟩:=hb
    have hnl:¬a24 (O9 σ ι) Hs b:=by
     intro hb
     cases hm':k'.mode with
     |live=>exact hmodeOut j k' hjl hjn hk' hm' b cap size hl2 hb
     |froz=>exact hH.fro j k' hk' hm' _ _ _ hl2 (a24.inM hHs hb)
     |old=>
      obtain ⟨i,k,hil,hk,hkm,hka,c,s,hi2⟩:=hlive b hb
      have:=(hH.old j _ k' k hk' hk hm' hkm _ _ _ _ _ hl2 hi2).1
      rw [hka] at this;cases this
     |dead=>exact hd hm'
    refine ⟨q1,q2,q3,q4,q5,cur,(h5.keep b (B8 q6) hnl).trans q6,q7,fun i j c hc=>?_⟩
    obtain ⟨u,r1,r2⟩:=q8 i j c hc
    exact ⟨u,r1,r2.keep hkeepM h5.mnew hιext⟩
  ·rw [hιj] at hl2
   exact (h2.blk i k hk (by rw [← hren.1];exact hd) l hl2).ren hι2 hren
 ·intro j k' hj hm' b cap size hi
  rcases hcase j k' hj with ⟨hjl,hjn,hk'⟩|⟨i,k,hk,hij,hren,hιj⟩
  ·rw [hold2 j hjl] at hi
   rcases h5.mold b (hH.liv j k' hk' hm' b cap size hi) with h|h
   ·exact h
   ·exact absurd h (hmodeOut j k' hjl hjn hk' hm' b cap size hi)
  ·rw [hιj] at hi
   exact h2.liv i k hk (by rw [← hren.1];exact hm') b cap size hi
 ·intro j k' hj hm' b cap size hi hb
  rcases hcase j k' hj with ⟨hjl,hjn,hk'⟩|⟨i,k,hk,hij,hren,hιj⟩
  ·rw [hold2 j hjl] at hi
   have hlt:b<w.heap.size:=by
    obtain ⟨_,_,_,_,_,cur,q6,_⟩:=hH.blk j k' hk' (by rw [hm'];intro h;cases h) _ hi
    exact B8 q6
   rcases h5.mnew b hb with h|h
   ·exact hH.fro j k' hk' hm' b cap size hi h
   ·omega
  ·rw [hιj] at hi
   exact h2.fro i k hk (by rw [← hren.1];exact hm') b cap size hi hb
 ·have cross:∀j j' k' i k,j<H.length->j ∉ σ->H[j]? =some k'->k'.mode=.live->Hs'[i]? =some k->k.mode=.live->∀b cap size cap' size',ι j=some (.blk b cap size)->ι' i=some (.blk b cap' size')->j=j':=by
   intro j j' k' i k hjl hjn hk' hm' hk hkm b cap size cap' size' hi hi'
   have hlt:b<w.heap.size:=by
    obtain ⟨_,_,_,_,_,cur,q6,_⟩:=hH.blk j k' hk' (by rw [hm'];intro h;cases h) _ hi
    exact B8 q6
   rcases h5.live b ⟨i,k,cap',size',hk,hkm,hi'⟩ with h|h
   ·exact absurd h (hmodeOut j k' hjl hjn hk' hm' b cap size hi)
   ·omega
  intro j j' k1 k2 hj hj' hm1 hm2 b cap size cap' size' hi hi'
  rcases hcase j k1 hj with ⟨hjl,hjn,hk1⟩|⟨i,k,hk,hij,hren,hιj⟩<;>rcases hcase j' k2 hj' with ⟨hjl',hjn',hk2⟩|⟨i',k0,hk0,hij',hren',hιj'⟩
  ·rw [hold2 j hjl] at hi
   rw [hold2 j' hjl'] at hi'
   exact hH.inj j j' k1 k2 hk1 hk2 hm1 hm2 _ _ _ _ _ hi hi'
  ·rw [hold2 j hjl] at hi
   rw [hιj'] at hi'
   exact cross j j' k1 i' k0 hjl hjn hk1 hm1 hk0 (by rw [← hren'.1];exact hm2) _ _ _ _ _ hi hi'
  ·rw [hιj] at hi
   rw [hold2 j' hjl'] at hi'
   exact (cross j' j k2 i k hjl' hjn' hk2 hm2 hk (by rw [← hren.1];exact hm1) _ _ _ _ _ hi' hi).symm
  ·rw [hιj] at hi
   rw [hιj'] at hi'
   have:=h2.inj i i' k k0 hk hk0 (by rw [← hren.1];exact hm1) (by rw [← hren'.1];exact hm2) _ _ _ _ _ hi hi'
   rw [← hij,←hij',this]
 ·intro j j' k1 k2 hj hj' hm1 hm2 b cap size cap' size' hi hi'
  rcases hcase j k1 hj with ⟨hjl,hjn,hk1⟩|⟨i,k,hk,hij,hren,hιj⟩
  ·rw [hold2 j hjl] at hi
   have hlt:b<w.heap.size:=by
    obtain ⟨_,_,_,_,_,cur,q6,_⟩:=hH.blk j k1 hk1 (by rw [hm1];intro h;cases h) _ hi
    exact B8 q6
   rcases hcase j' k2 hj' with ⟨hjl',hjn',hk2⟩|⟨i',k0,hk0,hij',hren',hιj'⟩
   ·rw [hold2 j' hjl'] at hi'
    exact hH.old j j' k1 k2 hk1 hk2 hm1 hm2 _ _ _ _ _ hi hi'
   ·rw [hιj'] at hi'
    rcases h5.live b ⟨i',k0,cap',size',hk0,by rw [← hren'.1];exact hm2,hi'⟩ with h|h
    ·obtain ⟨i,k,hil,hk,hkm,hka,c,s,hi2⟩:=hlive b h
     have:=(hH.old j _ k1 k hk1 hk hm1 hkm _ _ _ _ _ hi hi2).1
     rw [hka] at this;cases this
    ·omega
  ·have:k.mode=.old:=by rw [← hren.1];exact hm1
   exact absurd this (hno k (lbm hk))
 ·intro id hid
  show (if _ then _ else _)=_
  rw [if_neg (by omega)]
  exact h4 _ (by omega)
 ·refine ⟨h5.os,h5.tape,h5.output,h5.size,fun b hb hnl=>h5.keep b hb fun hl=>hnl (hliveH b hl),fun id hid=>hold2 id hid,h5.mnew,fun b hb=>?_,?_,by omega⟩
  ·rcases h5.mold b hb with h|h
   ·exact .inl h
   ·exact .inr (hliveH b h)
  ·rintro b ⟨j,k',cap,size,hj,hm',hi⟩
   rcases hcase j k' hj with ⟨hjl,hjn,hk'⟩|⟨i,k,hk,hij,hren,hιj⟩
   ·rw [hold2 j hjl] at hi
    exact .inl ⟨j,k',cap,size,hk',hm',hi⟩
   ·rw [hιj] at hi
    rcases h5.live b ⟨i,k,cap,size,hk,by rw [← hren.1];exact hm',hi⟩ with h|h
    ·exact .inl (hliveH b h)
    ·exact .inr h
theorem u9 {P:Program} {τ:Tab} (hτ:C0 P τ) {n0:Nat} {c:Code} {env:Env} {H:Hp} {Q:AX->Env->Hp->Prop} {σ:Type} (E:σ->Env × Hp) (I:σ->Prop) (μ:σ->Nat) (x0:σ) (ρ0:List (Option Nat))
 (hI:I x0) (h0:Ent n0 ρ0 env H (E x0).1 (E x0).2)
 (round:∀x,I x->a13 P τ n0 c (E x).1 (E x).2 fun a env' H'=>match a with
   |.normal=>∃ρ x',Ent n0 ρ env' H' (E x').1 (E x').2∧I x'∧μ x'<μ x
   |a=>Q a env' H'):Awp P n0 (.loop c) env H Q:=by
 refine a4V (σ:={ x:σ // I x }) (fun x=>E x.1) (fun x=>μ x.1) ⟨x0,hI⟩ ρ0 h0 ?_
 rintro ⟨x,hx⟩
 refine (n9 hτ c (round x hx)).mono ?_
 intro a env' H' h
 cases a with
 |normal=>
  obtain ⟨ρ,x',h1,h2,h3⟩:=h
  exact ⟨ρ,⟨x',h2⟩,h1,h3⟩
 |exit id=>exact h
 |ret=>exact h
theorem K6 {x y:Int} (h:x=y) (h1:-9223372036854775808<=y) (h2:y<=9223372036854775807):H7 .i64 x y:=by subst h;exact a3C h1 h2
end
section
open Go.RowKit
set_option maxRecDepth 100000
abbrev n7 (l:List Int):Blk:={ mode:=.live,elem:=3,size:=1,rows:=toC (l.map e8),box:=false }
abbrev a4j (id:Nat) (l:List Int):S:=.c (.own id 0 l.length true)
theorem p4 {α:Type} {xs:List α} {f:α->List T} {n:Int} {x:α} {lo:Nat} {K:List C->Prop} (hx:xs[lo+n.toNat]? =some x) (h:K ((f x).map C.t)):∃row,(toC (xs.map f))[lo+n.toNat]? =some row∧K row:=
 ⟨(f x).map C.t,by simp [toC,hx],h⟩
theorem a5S {a b:Int} {n:Nat} {K:Prop} (h0:0<=a) (h1:a<=b) (h2:b<=1000000) (hn:n<=1000) (k:K):(0<=a∧a<=b∧b*((n:Int)+1)<=140737488355328)∧K:=by
 refine ⟨⟨h0,h1,?_⟩,k⟩
 have:b*((n:Int)+1)<=1000000*1001:=Int.mul_le_mul h2 (by omega) (by omega) (by omega)
 omega
theorem ae8 {ρ:List (Option Nat)} {H:Hp} {id len:Nat} {app:Bool} {size:Nat} {k:Blk} {rows:List (List T)} (hp:G3 ρ id=true) (hk:H[id]? =some k) (hd:¬k.mode.gone) (hs:k.size=size) (hc:k.rows=toC rows) (hl:len=rows.length):
 a5G ρ H (.c (.own id 0 len app)) (.c (.t (.sl size .any rows))):=show VC H (fun id=>G3 ρ id=true) _ _ from t8 hp hk hd hs hc hl
theorem ax7 {α:Type} {f:α->List T} {xs:List α} {x:α}:(toC (xs.map f)).take xs.length++toC [f x]=toC ((xs++[x]).map f):=by
 rw [lbn (by simp [toC])];simp [toC]
theorem b59 {α:Type} {l:List α} {i:Nat} {v:α} (h:l[i]? =some v):l.set i v=l:=by
 apply List.ext_getElem?
 intro j
 by_cases hj:i=j
 ·subst hj;rw [List.getElem?_set_self (lbe.1 h).1,h]
 ·rw [List.getElem?_set_ne hj]
theorem ag3 {x:Int} (h1:0<=x) (h2:x<18446744073709551616):IntKind.wrap .u64 x=x:=by
 simp only [IntKind.wrap,IntKind.bits,IntKind.signed]
 simp
 omega
theorem aI6 {k:IntKind} (hk:k.bits=64) (a:Int) (j:Nat) (hj:j<=62):(BitVec.ofInt k.bits a &&& BitVec.ofInt k.bits ((2 ^ j - 1:Nat):Int)).toNat=(a % ((2 ^ j:Nat):Int)).toNat:=by
 rw [hk]
 rw [BitVec.toNat_and,BitVec.toNat_ofInt,BitVec.toNat_ofInt]
 have hp:(2:Nat) ^ j<=2 ^ 62:=Nat.pow_le_pow_right (by decide) hj
 have h0:0<(2:Nat) ^ j:=Nat.pow_pos (by decide)
 have e1:((((2 ^ j - 1:Nat):Int)) % ((2 ^ 64:Nat):Int)).toNat=2 ^ j - 1:=by
  rw [Int.emod_eq_of_lt (by omega) (by omega)];simp
 rw [e1,Nat.and_two_pow_sub_one_eq_mod]
 have hd:(2:Nat) ^ 64=2 ^ j*2 ^ (64 - j):=by rw [← Nat.pow_add];congr 1;omega
 have h2:0<=a % ((2 ^ 64:Nat):Int):=Int.emod_nonneg _ (by decide)
 have e2:((a % ((2 ^ 64:Nat):Int)).toNat % 2 ^ j:Nat)=((a % ((2 ^ 64:Nat):Int)) % ((2 ^ j:Nat):Int)).toNat:=by
  rw [Int.toNat_emod h2 (by omega)];rfl
 rw [e2]
 congr 1
 refine Int.emod_emod_of_dvd _ ?_
 exact ⟨((2 ^ (64 - j):Nat):Int),by exact_mod_cast hd⟩
theorem ay8 {a:Int} (j:Nat) (hj:j<=62):IntKind.wrap .u64 (BitVec.ofInt (IntKind.bits .u64) a &&& BitVec.ofInt (IntKind.bits .u64) ((2 ^ j - 1:Nat):Int)).toNat=a % ((2 ^ j:Nat):Int):=by
 rw [aI6 rfl a j hj]
 have hp:(2:Nat) ^ j<=2 ^ 62:=Nat.pow_le_pow_right (by decide) hj
 have h0:0<(2:Nat) ^ j:=Nat.pow_pos (by decide)
 have h1:0<=a % ((2 ^ j:Nat):Int):=Int.emod_nonneg _ (by omega)
 have h2:a % ((2 ^ j:Nat):Int)<((2 ^ j:Nat):Int):=Int.emod_lt_of_pos _ (by omega)
 rw [lbY h1,ag3 h1 (by omega)]
theorem aJ3 {x:Int} (h1:0<=x) (h2:x<18446744073709551616):H7 .u64 x x:=by unfold H7;exact (ag3 h1 h2).symm
theorem a2F {α:Type} {l:List α} {f:α->Bool} {k:Nat} {x:α} (h:l[k]? =some x):(l.take (k+1)).any f=((l.take k).any f || f x):=by
 rw [lbG,h];simp
theorem A6 {α:Type} {l:List α} {f:α->Bool} {k:Nat} {x:α} (h:l[k]? =some x):(l.take (k+1)).all f=((l.take k).all f && f x):=by
 rw [lbG,h];simp
theorem a6j {α:Type} {l:List α} {f:α->Bool} {k:Nat} {x:α} (h:l[k]? =some x) (hf:f x=true):l.any f=true:=lbw.2 ⟨x,lbm h,hf⟩
theorem B3 {α:Type} {l:List α} {f:α->Bool} {k:Nat} {x:α} (h:l[k]? =some x) (hf:f x=false):l.all f=false:=by
 rw [← lbP,lbv];intro h';rw [h' x (lbm h)] at hf;cases hf
theorem b13 {x y:T} {H1:Hp} (h:x=y):Fin 0 (.c (.t x)) H1 (.c (.t y)) []:=by subst h;exact j3 (show ak9 [] H1 _ _ from i5 (ρ:=[]) (H:=H1) rfl)
theorem b99 {n:Nat} {k:SK} {a b:List (List T)} {H1:Hp} (h:a=b) (hk:k=.any):Fin 0 (.c (.t (.sl n k a))) H1 (.c (.t (.sl n .any b))) []:=by subst h hk;exact j3 (show ak9 [] H1 _ _ from i5 (ρ:=[]) (H:=H1) rfl)
theorem at3 {P:Program} {g:FuncId} {args:List S} {H H':Hp} {r:S} (i:Nat) {n:Nat} (hi:args[i]? =some (.c (.t (.sl n .any [])))) (h1:b7 P g (args.set i (.c (.t (.sl n .nul [])))) H r H')
 (h2:b7 P g (args.set i (.c (.t (.sl n .non [])))) H r H'):b7 P g args H r H':=by
 refine ⟨h1.1,fun w ι M vals hl hr hH hM hF=>?_⟩
 have hv:=(hr i _ hi).inv_t
 have hil:=(lbe.1 hi).1
 have key:∀k:SK,RT w M (.sl n k []) (vals.getD i undef)->∀j s,(args.set i (.c (.t (.sl n k []))))[j]? =some s->RS w ι M s (vals.getD j undef):=fun k hk j s hj=>by
  by_cases hji:i=j
  ·subst hji
   rw [List.getElem?_set_self hil] at hj
   injection hj with hj
   subst hj
   exact .c (.t hk)
  ·rw [List.getElem?_set_ne hji] at hj
   exact hr j s hj
 generalize hu:vals.getD i undef=u at hv
 cases hv with
 |@sl _ _ _ b off cap A f hrow hcap hmax hk hn hA hc hr' hx=>
  cases A with
  |none=>exact h1.2 w ι M vals (by simpa using hl) (key .nul (by rw [hu];exact .sl (b:=b) (off:=off) f hrow hcap hmax (by intro h;cases h) (by intro h;cases h) (by simp) hc hr' ⟨(fun _=>⟨rfl,rfl⟩),(fun h=>nomatch h)⟩)) hH hM hF
  |some a=>exact h2.2 w ι M vals (by simpa using hl) (key .non (by rw [hu];exact .sl (b:=b) (off:=off) f hrow hcap hmax (by intro h;cases h) (by intro h;cases h) (by simp) hc hr' ⟨(fun h=>nomatch h),(fun _ h=>nomatch h)⟩)) hH hM hF
theorem ao1 {P:Program} {g:FuncId} {args:List S} {H:Hp} {n:Nat} {b:Blk} {rows:List (List T)} (h:b7 P g args [] (.c (.own 0 0 n true)) [b]) (hargs:args=args.map (a7o [])) (hok:args.all (okS 0)=true)
 (hm:b.mode=.live) (hb:b.rows=toC rows):b7 P g args H (.c (.own H.length 0 n true)) (H++[b]):=by
 refine N8 [] h hargs hok rfl List.nodup_nil (by simp) (by intro k hk;simp at hk;subst hk;rw [hm];simp) (by simp) rfl ?_ (by simp) ?_ ?_
 ·simp [a7o,a09,a3T]
 ·intro i k hk
  match i,hk with
  |0,hk=>
   simp at hk
   subst hk
   exact ⟨b,by simp [a3T],x9 hb⟩
 ·intro j hj _
  rw [lbb hj]
theorem aZ7 {P:Program} {g:FuncId} {args args':List S} {r:S} {H':Hp} (h:b7 P g args' [] r H') (ha:a3L [] (fun _=>False) args args'):b7 P g args [] r H':=by
 refine ⟨h.1,fun w ι M vals hl hv hH hM hf=>?_⟩
 obtain ⟨hlen,hget⟩:=a3L.get ha
 exact h.2 w ι M vals (by omega) (fun j s hj=>by
  obtain ⟨x,hx,hs⟩:=hget j s hj
  exact hs.rs hH (fun _ h=>h) (fun _ _ _ _ _ h _ _ _ _=>h.elim) (hv j x hx)) hH hM hf
end
section
open Go.RowKit
theorem St1.zd {p:Prop} [Decidable p] {k:S->Prop} (a:p->k (f7 true)) (b:¬p->k (f7 false)):ak1 p k:=ak1.mk a b
theorem St2.zd {b:Bool} {k:S->Prop} (a:b=true->k (f7 true)) (c:b=false->k (f7 false)):a2i b k:=a2i.mk a c
theorem St1.zz {x:Int} {K:Int->Prop} (k:K x) (h1:-9223372036854775808<=x:=by omega) (h2:x<=9223372036854775807:=by omega):∃n,H7 .i64 x n∧K n:=⟨_,a3C h1 h2,k⟩
theorem St2.zz {n m:Int} {K:Prop} (k:K) (h0:0<=n:=by omega) (h1:n<m:=by omega):(0<=n∧n<m)∧K:=⟨⟨h0,h1⟩,k⟩
theorem St3.zz {ops:List Oper} {K:List Oper->Prop} (k:K ops) (h:a95 ops=true:=by decide +kernel):b2E ops K:=b4o h k
theorem St4.zz {P:Program} {τ:Tab} {env:Env} {H':Hp} {ops:List Oper} {i:Nat} {K:Prop} (k:K) (h:I7 ops i=true:=by decide +kernel) (h2:Y0 ops i=[]:=by decide +kernel):I7 ops i=true∧∃L,Y0 ops i=L∧a29 P τ ops env H' K L:=b6d h h2 k
theorem St5.zz {s:S} {B:List Blk} {s':S} {K:Prop} (k:K) (h1:B=[]:=by exact rfl) (h2:s=s':=by exact rfl):(B=[]∧s=s')∧K:=b0d h1 h2 k
theorem St6.zz {α:Type} {xs:List α} {a b:Nat} {K:Prop} (k:K) (h:a=b:=by exact rfl):(xs.length=0∨a=b)∧K:=b4S h k
theorem bl0 {P:Program} {τ:Tab} {env:Env} {H':Hp} {ops:List Oper} {i:Nat} {K:Prop} (L:List Nat) (k:a29 P τ ops env H' K L) (h:I7 ops i=true:=by decide +kernel) (h2:Y0 ops i=L:=by decide +kernel):I7 ops i=true∧∃L,Y0 ops i=L∧a29 P τ ops env H' K L:=B4 L h h2 k
theorem qp {P:Program} {g:FuncId} {args:List S} {H:Hp} {r:S} {K:S->List Blk->Prop} {Q:Prop} (c:b7 P g args [] r []) (k:K r []) (h1:args.all S.isT=true:=by exact rfl) (h2:r.isT=true:=by exact rfl):(∃ r B,Q6 P g args H r B∧K r B)∨Q:=.inl ⟨_,_,G5 c h1 h2,k⟩
theorem ac {f:FuncId} {fn:Func} {c:Code} {args:List S} {H:Hp} {s:S} {H':Hp} (hf:Go.Proofs.Tryz.prog.funcs[f]? =some fn) (h:a13 Go.Proofs.Tryz.prog tab H.length c (args++List.replicate (fn.ntmps - args.length) .junk) H fun x env' H1=>match x with
 |.exit _=>False
 | _ => a7z tab fn env' H1 fun r => Fin H.length r H1 s H') (hb : fn.body = some c := by exact rfl) (hn : fn.name ≠ "runtime.NumGoroutine" := by decide) : b7 Go.Proofs.Tryz.prog f args H s H' := b4P c7 hf hb hn h
def Jn (n:Nat):Env:=List.replicate n J
theorem St1.zy {a b c:Prop} (h:a):a9u a b c:=a9u.data h
theorem St2.zy {a b:Prop} (h:b):ah6 a b:=ah6.own h
theorem b0x {a b:Prop} (h:a):ah6 a b:=ah6.data h
theorem St7.zz {k:S->Prop} (h:k (f7 true)):a2i true k:=⟨fun _=>h,fun e=>(by cases e)⟩
theorem St8.zz {k:S->Prop} (h:k (f7 false)):a2i false k:=⟨fun e=>(by cases e),fun _=>h⟩
theorem lg0 {α:Type} {l:List α} {i:Nat} (h:i<l.length):l[i]? =some l[i]:=lbf h
theorem lg1 {α:Type} {l:List α} {i:Nat} {a:α} (h:l[i]? =some a):∃h:i<l.length,l[i]=a:=lbe.1 h
theorem lg2 {α:Type} {l:List α} {i:Nat} {a:α} (h:l[i]? =some a):a ∈ l:=lbm h
theorem lg3 {α:Type} (l:List α) (i:Nat) (a:α):l.getD i a=l[i]?.getD a:=lbl
theorem lg4 {α:Type} {l:List α} {i:Nat} (h:l.length<=i):l.take i=l:=lbn h
theorem lg5 {α:Type} {a:α} {l:List α}:a ∈ a::l:=List.mem_cons_self ..
theorem St1.zx {x:Int} {K:Int->Prop} (k:K x) (h1:-9223372036854775808<=x:=by omega) (h2:x<=9223372036854775807:=by omega):∃n,H7 .i64 x n∧K n:=⟨_,a3C h1 h2,k⟩
theorem St2.zx {n m:Int} {K:Prop} (k:K) (h0:0<=n:=by omega) (h1:n<m:=by omega):(0<=n∧n<m)∧K:=⟨⟨h0,h1⟩,k⟩
theorem St3.zx {ops:List Oper} {K:List Oper->Prop} (k:K ops) (h:a95 ops=true:=by decide +kernel):b2E ops K:=b4o h k
theorem St4.zx {P:Program} {τ:Tab} {env:Env} {H':Hp} {ops:List Oper} {i:Nat} {K:Prop} (k:K) (h:I7 ops i=true:=by decide +kernel) (h2:Y0 ops i=[]:=by decide +kernel):I7 ops i=true∧∃L,Y0 ops i=L∧a29 P τ ops env H' K L:=b6d h h2 k
theorem St5.zx {s:S} {B:List Blk} {s':S} {K:Prop} (k:K) (h1:B=[]:=by exact rfl) (h2:s=s':=by exact rfl):(B=[]∧s=s')∧K:=b0d h1 h2 k
theorem St6.zx {α:Type} {xs:List α} {a b:Nat} {K:Prop} (k:K) (h:a=b:=by exact rfl):(xs.length=0∨a=b)∧K:=b4S h k
theorem St7.zx {k:S->Prop} (h:k (f7 true)):a2i true k:=⟨fun _=>h,fun e=>(by cases e)⟩
theorem St8.zx {k:S->Prop} (h:k (f7 false)):a2i false k:=⟨fun e=>(by cases e),fun _=>h⟩
theorem StA.zx {a b c:Prop} (h:a):a9u a b c:=a9u.data h
theorem StB.zx {a b:Prop} (h:b):ah6 a b:=ah6.own h
end
open St1 St2 St3 St4 St5 St6 St7 St8 StA StB
theorem a1i (i n:Int):b7 Tryz.prog 50 [a8 .i64 i,a8 .i64 n] [] (f7 (idx i n)) []:=by
 (refine ac Tryz.func50 ?_;(conv=>whnf);repeat (refine zy ?_;conv=>whnf))
 repeat' (first|refine zx ?_|refine zd ?_ ?_<;>intro h<;>try omega|fail)<;>conv=>whnf
 all_goals (refine c9 ?_;simp only [idx];simp;omega)
theorem a5k (n lo hi:Int):b7 Tryz.prog 177 [a8 .i64 n,a8 .i64 lo,a8 .i64 hi] [] (f7 (btw n lo hi)) []:=by
 (refine ac Tryz.func177 ?_;(conv=>whnf);repeat (refine zy ?_;conv=>whnf))
 repeat' (first|refine zx ?_|refine zd ?_ ?_<;>intro h<;>try omega|fail)<;>conv=>whnf
 all_goals (refine c9 ?_;simp only [btw];simp;omega)
def b17 (p:Int × Int):List T:=[ti p.1,ti p.2]
def ao3 (e:Ev):List (Int × Int):=[(e.mats,6),(e.hhs,100),(e.scs,30),(e.places.length,100),(e.moves.length,200),(e.certs.length,100),(e.recalls.length,30),(e.purities.length,200)]
theorem an6 (e:Ev):a9e e=(ao3 e).any fun p=>decide (p.2<p.1):=by
 rw [Bool.eq_iff_iff]
 simp [a9e,ao3]
 omega
set_option maxRecDepth 100000 in
theorem b9z (e:Ev) (hs:e.Sized):b7 Tryz.prog 117 [evS e] [] (f7 (a9e e)) []:=by
 (refine ac Tryz.func117 ?_;(conv=>whnf);repeat (refine zy ?_;conv=>whnf))
 have hl:(ao3 e).length=8:=rfl
 refine f8 c7 (fun k=>(Jn 34++[S.c (C.t (T.sl 2 .full ((ao3 e).map b17))),a8 .i64 8,a8 .i64 k]++Jn 9,[])) 8 (fun k=>((ao3 e).take k).any (fun p=>decide (p.2<p.1))=false) [] rfl
  ⟨rfl,rfl,trivial,⟨i5 (by simp [ao3,b17]),rfl,rfl,trivial⟩⟩ ?_
 intro k hk hI
 conv=>whnf
 repeat' (first|refine zx ?_|refine zd ?_ ?_<;>intro h<;>try omega|fail)<;>conv=>whnf
 ·have hlt:k<8:=by omega
  refine d7 (lbf (hl ▸ hlt)) ?_
  conv=>whnf
  repeat' (first|refine zx ?_|refine zd ?_ ?_<;>intro h<;>try omega|fail)<;>conv=>whnf
  ·refine c9 ?_
   rw [an6,a6j (lbf (hl ▸ hlt))]
   simpa using ‹_ > _›
  ·refine ⟨hlt,?_,[],rfl,rfl,trivial,⟨rfl,rfl,rfl,trivial⟩⟩
   rw [a2F (lbf (hl ▸ hlt)),hI]
   have h:=‹¬ _ > _›
   simp;omega
 ·refine c9 ?_
  rw [an6,←hI,lbn (by omega)]
open St1 St2 St3 St4 St5 St6 St7 St8 StA StB
set_option maxRecDepth 100000
theorem b3q (e:Ev) (hs:e.Sized):b7 Tryz.prog 118 [evS e] [] (f7 (e.places.all (a2d e))) []:=by
 have l1:=hs.s1
 have l2:(e.places.map G2.row).length=e.places.length:=by simp
 (refine ac Tryz.func118 ?_;(conv=>whnf);repeat (refine zy ?_;conv=>whnf))
 refine f8 c7 (fun k=>([J,S.c (C.ptr 0 0 0),J,J,J,J,S.c (C.t (a2r e.places)),a8 .i64 e.places.length,a8 .i64 k]++Jn 36,[evB e])) e.places.length (fun k=>(e.places.take k).all (a2d e)=true) [some 0] rfl
  ⟨rfl,rfl,⟨⟨rfl,rfl,rfl,.inl ⟨rfl,T5 e⟩⟩,trivial⟩,⟨⟨rfl,rfl,rfl⟩,i5 rfl,c6 (by simp),c6 rfl,trivial⟩⟩ ?_
 intro k hk hI
 conv=>whnf
 repeat' (first|refine zx ?_|refine zd ?_ ?_<;>intro h<;>try omega|fail)<;>conv=>whnf
 ·have hlt:k<e.places.length:=by omega
  obtain ⟨x,hx⟩:∃x,e.places[k]? =some x:=⟨_,lbf hlt⟩
  refine d7 hx ?_
  conv=>whnf
  repeat' (first|refine zx ?_|refine qp (a1i _ _) ?_|refine zd ?_ ?_<;>intro h<;>try omega|fail)<;>conv=>whnf
  all_goals first
   |(refine ⟨hlt,?_,[some 0],rfl,rfl,⟨⟨rfl,rfl,rfl,.inl ⟨rfl,T5 e⟩⟩,trivial⟩,⟨⟨rfl,rfl,rfl⟩,rfl,rfl,rfl,trivial⟩⟩;rw [A6 hx,hI];simp_all [a2d];done)
   |(refine c9 ?_;rw [B3 hx];simp_all [a2d];done)
 ·refine c9 ?_
  rw [← hI,lbn (by omega)]
theorem a8H {e:Ev} {i:Int} (h:idx i e.places.length=true):0<=i∧∃x,e.places[i.toNat]? =some x∧F2 e i=x.kind:=by
 have h':=a6O.1 h
 have hlt:i.toNat<e.places.length:=by omega
 refine ⟨h'.1,_,lbf hlt,?_⟩
 unfold F2
 rw [lbf hlt];rfl
theorem b8O (e:Ev) (m:j6) (hs:e.Sized):b7 Tryz.prog 119 [evS e,aj1 m] [] (f7 (O0 e m)) []:=by
 have l1:=hs.s1
 have l2:(e.places.map G2.row).length=e.places.length:=by simp
 by_cases h1:idx m.src e.places.length=true
 ·obtain ⟨hs0,x,hx,kx⟩:=a8H h1
  by_cases h2:idx m.dst e.places.length=true
  ·obtain ⟨hd0,y,hy,ky⟩:=a8H h2
   (refine ac Tryz.func119 ?_;(conv=>whnf);repeat (refine zy ?_;conv=>whnf))
   rw [← l2] at h1 h2
   repeat' (first|refine zx ?_|refine qp (a1i _ _) ?_|refine qp (a5k _ _ _) ?_|refine F3 hs0 hx ?_|refine F3 hd0 hy ?_|refine zd ?_ ?_<;>intro h<;>try omega|fail)<;>conv=>whnf
   all_goals (refine c9 ?_;simp_all [O0];done)
  ·(refine ac Tryz.func119 ?_;(conv=>whnf);repeat (refine zy ?_;conv=>whnf))
   rw [← l2] at h1 h2
   repeat' (first|refine zx ?_|refine qp (a1i _ _) ?_|refine zd ?_ ?_<;>intro h<;>try omega|fail)<;>conv=>whnf
   all_goals first|(exfalso;simp_all;done)|(refine c9 ?_;simp_all [O0];done)
 ·(refine ac Tryz.func119 ?_;(conv=>whnf);repeat (refine zy ?_;conv=>whnf))
  rw [← l2] at h1
  repeat' (first|refine zx ?_|refine qp (a1i _ _) ?_|refine zd ?_ ?_<;>intro h<;>try omega|fail)<;>conv=>whnf
  all_goals first|(exfalso;simp_all;done)|(refine c9 ?_;simp_all [O0];done)
theorem b9X (e:Ev) (hs:e.Sized):b7 Tryz.prog 120 [evS e] [] (f7 (V4 e)) []:=by
 have l1:=hs.s3
 have l2:(e.certs.map E6.row).length=e.certs.length:=by simp
 have l3:=hs.s4
 have l4:(e.recalls.map w7.row).length=e.recalls.length:=by simp
 have l5:=hs.s5
 have l6:(e.purities.map s9.row).length=e.purities.length:=by simp
 have l7:=hs.s2
 have l8:(e.moves.map j6.row).length=e.moves.length:=by simp
 (refine ac Tryz.func120 ?_;(conv=>whnf);repeat (refine zy ?_;conv=>whnf))
 refine f8 c7 (fun k=>([J,S.c (C.ptr 0 0 0),J,J,J,J,J,J,J,J,J,S.c (C.t (a0W e.certs)),a8 .i64 e.certs.length,a8 .i64 k]++Jn 107,[evB e])) e.certs.length (fun k=>(e.certs.take k).all (ab8 e)=true) [some 0] rfl
  ⟨rfl,rfl,⟨⟨rfl,rfl,rfl,.inl ⟨rfl,T5 e⟩⟩,trivial⟩,⟨⟨rfl,rfl,rfl⟩,i5 rfl,c6 (by simp),c6 rfl,trivial⟩⟩ ?_
 intro k hk hI
 conv=>whnf
 repeat' (first|refine zx ?_|refine zd ?_ ?_<;>intro h<;>try omega|fail)<;>conv=>whnf
 ·have hlt:k<e.certs.length:=by omega
  obtain ⟨x,hx⟩:∃x,e.certs[k]? =some x:=⟨_,lbf hlt⟩
  refine d7 hx ?_
  conv=>whnf
  repeat' (first|refine zx ?_|refine qp (a1i _ _) ?_|refine qp (a5k _ _ _) ?_|refine zd ?_ ?_<;>intro h<;>try omega|fail)<;>conv=>whnf
  all_goals first
   |(refine ⟨hlt,?_,[some 0],rfl,rfl,⟨⟨rfl,rfl,rfl,.inl ⟨rfl,T5 e⟩⟩,trivial⟩,⟨⟨rfl,rfl,rfl⟩,rfl,rfl,rfl,trivial⟩⟩;rw [A6 hx,hI];simp_all [ab8];done)
   |(refine c9 ?_;rw [V4,B3 hx];rfl;simp_all [ab8];(try omega);done)
 ·have hc:e.certs.all (ab8 e)=true:=by rw [← hI,lbn (by omega)]
  clear hI h hk
  refine f8 c7 (fun k=>([J,S.c (C.ptr 0 0 0)]++Jn 60++[S.c (C.t (N4 e.recalls)),a8 .i64 e.recalls.length,a8 .i64 k]++Jn 56,[evB e])) e.recalls.length (fun k=>(e.recalls.take k).all (a4m e)=true) [some 0] rfl
   ⟨rfl,rfl,⟨⟨rfl,rfl,rfl,.inl ⟨rfl,T5 e⟩⟩,trivial⟩,⟨⟨rfl,rfl,rfl⟩,i5 rfl,c6 (by simp),c6 rfl,trivial⟩⟩ ?_
  intro k hk hI
  conv=>whnf
  repeat' (first|refine zx ?_|refine zd ?_ ?_<;>intro h<;>try omega|fail)<;>conv=>whnf
  ·have hlt:k<e.recalls.length:=by omega
   obtain ⟨x,hx⟩:∃x,e.recalls[k]? =some x:=⟨_,lbf hlt⟩
   refine d7 hx ?_
   conv=>whnf
   repeat' (first|refine zx ?_|refine qp (a1i _ _) ?_|refine qp (a5k _ _ _) ?_|refine zd ?_ ?_<;>intro h<;>try omega|fail)<;>conv=>whnf
   all_goals first
    |(refine ⟨hlt,?_,[some 0],rfl,rfl,⟨⟨rfl,rfl,rfl,.inl ⟨rfl,T5 e⟩⟩,trivial⟩,⟨⟨rfl,rfl,rfl⟩,rfl,rfl,rfl,trivial⟩⟩;rw [A6 hx,hI];simp_all [a4m];done)
    |(refine c9 ?_;rw [V4,hc,B3 hx];rfl;simp_all [a4m];done)
  ·have hr:e.recalls.all (a4m e)=true:=by rw [← hI,lbn (by omega)]
   clear hI h hk
   refine f8 c7 (fun k=>([J,S.c (C.ptr 0 0 0)]++Jn 80++[S.c (C.t (P4 e.purities)),a8 .i64 e.purities.length,a8 .i64 k]++Jn 36,[evB e])) e.purities.length (fun k=>(e.purities.take k).all (Y6 e)=true) [some 0] rfl
    ⟨rfl,rfl,⟨⟨rfl,rfl,rfl,.inl ⟨rfl,T5 e⟩⟩,trivial⟩,⟨⟨rfl,rfl,rfl⟩,i5 rfl,c6 (by simp),c6 rfl,trivial⟩⟩ ?_
   intro k hk hI
   conv=>whnf
   repeat' (first|refine zx ?_|refine zd ?_ ?_<;>intro h<;>try omega|fail)<;>conv=>whnf
   ·have hlt:k<e.purities.length:=by omega
    obtain ⟨x,hx⟩:∃x,e.purities[k]? =some x:=⟨_,lbf hlt⟩
    refine d7 hx ?_
    conv=>whnf
    repeat' (first|refine zx ?_|refine qp (a1i _ _) ?_|refine qp (a5k _ _ _) ?_|refine zd ?_ ?_<;>intro h<;>try omega|fail)<;>conv=>whnf
    all_goals first
     |(refine ⟨hlt,?_,[some 0],rfl,rfl,⟨⟨rfl,rfl,rfl,.inl ⟨rfl,T5 e⟩⟩,trivial⟩,⟨⟨rfl,rfl,rfl⟩,rfl,rfl,rfl,trivial⟩⟩;rw [A6 hx,hI];simp_all [Y6];done)
     |(refine c9 ?_;rw [V4,hc,hr,B3 hx];rfl;simp_all [Y6];(try omega);done)
   ·have hp:e.purities.all (Y6 e)=true:=by rw [← hI,lbn (by omega)]
    refine c9 ?_
    rw [V4,hc,hr,hp];rfl
open St1 St2 St3 St4 St5 St6 St7 St8 StA StB
set_option maxRecDepth 100000
def b0k (e:Ev):Nat->Int
 |0=>0
 |k+1=>((e.moves[k]?).map (·.day)).getD 0
theorem a9W {e:Ev} {k:Nat} {m:j6} (h:e.moves[k]? =some m):b0k e (k+1)=m.day:=by simp [b0k,h]
theorem aa3 {α:Type} {l:List α} {k:Nat} {x:α} (h:l[k]? =some x):l.drop k=x::l.drop (k+1):=by
 obtain ⟨h1,h2⟩:=lbe.1 h
 rw [List.drop_eq_getElem_cons h1,h2]
theorem S1 (e:Ev) (hs:e.Sized):b7 Tryz.prog 49 [evS e] [] (a8 .i64 (m8 e)) []:=by
 have l7:=hs.s2
 have l8:(e.moves.map j6.row).length=e.moves.length:=by simp
 (refine ac Tryz.func49 ?_;(conv=>whnf);repeat (refine zy ?_;conv=>whnf))
 repeat' (first|refine zx ?_|refine qp (b9z _ hs) ?_|refine qp (b3q _ hs) ?_|refine zd ?_ ?_<;>intro h<;>try omega|fail)<;>conv=>whnf
 case refine_2.refine_2.refine_2.refine_2.refine_1 hf h1 h2 h3=>
  have h4:=h
  clear h
  have hpre:¬(e.mats<1∨e.hhs<0∨e.scs<0∨e.places.all (a2d e)=false):=by
   rintro (h|h|h|h)
   ·omega
   ·omega
   ·omega
   ·rw [h4] at h;cases h
  have hck:m8 e=if J1 e 0 e.moves≠0 then J1 e 0 e.moves else if V4 e then 0 else 1:=by
   unfold m8;rw [if_neg (by simp [hf]),if_neg hpre]
  refine f8 c7 (fun k=>([J,S.c (C.ptr 0 0 0),J,a8 .i64 (b0k e k)]++Jn 25++[S.c (C.t (Q7 e.moves)),a8 .i64 e.moves.length,a8 .i64 k]++Jn 22,[evB e])) e.moves.length (fun k=>J1 e 0 e.moves=J1 e (b0k e k) (e.moves.drop k)) [some 0] rfl
   ⟨rfl,rfl,⟨⟨rfl,rfl,rfl,.inl ⟨rfl,T5 e⟩⟩,trivial⟩,⟨⟨rfl,rfl,rfl⟩,c6 rfl,i5 rfl,c6 (by simp),c6 rfl,trivial⟩⟩ ?_
  intro k hk hI
  conv=>whnf
  repeat' (first|refine zx ?_|refine zd ?_ ?_<;>intro h<;>try omega|fail)<;>conv=>whnf
  ·have hlt:k<e.moves.length:=by omega
   obtain ⟨x,hx⟩:∃x,e.moves[k]? =some x:=⟨_,lbf hlt⟩
   rw [aa3 hx,J1] at hI
   refine d7 hx ?_
   conv=>whnf
   repeat' (first|refine zx ?_|refine qp (b8O _ x hs) ?_|refine zd ?_ ?_<;>intro h<;>try omega|fail)<;>conv=>whnf
   all_goals first
    |(refine ⟨hlt,?_,[some 0],rfl,rfl,⟨⟨rfl,rfl,rfl,.inl ⟨rfl,T5 e⟩⟩,trivial⟩,⟨⟨rfl,rfl,rfl⟩,?_,rfl,rfl,rfl,trivial⟩⟩
      ·rw [a9W hx,hI,if_neg (by omega),if_pos (by assumption)]
      ·rw [a9W hx];exact rfl)
    |(have e1:J1 e 0 e.moves=17:=by rw [hI,if_pos (by omega)]
      refine v8 ?_;rw [hck,e1];rfl)
    |(have e1:J1 e 0 e.moves=1:=by rw [hI,if_neg (by omega),if_neg (by simp_all)]
      refine v8 ?_;rw [hck,e1];rfl)
  ·rw [List.drop_eq_nil_of_le (by omega),J1] at hI
   repeat' (first|refine zx ?_|refine qp (b9X _ hs) ?_|refine zd ?_ ?_<;>intro h<;>try omega|fail)<;>conv=>whnf
   all_goals (refine v8 ?_;rw [hck,hI];simp_all)
 all_goals (refine v8 ?_;unfold m8;simp_all;try omega)
open St1 St2 St3 St4 St5 St6 St7 St8 StA StB
abbrev Bs:Int:=1048576
def val:List Int->Int
 |[]=>0
 |d::r=>d+1048576*val r
def Okd (l:List Int):Prop:=∀d ∈ l,0<=d∧d<1048576
def dgF:Nat->Nat->List Int
 |0,_=>[]
 |f+1,n=>if n=0 then [] else ((n % 1048576:Nat):Int)::dgF f (n / 1048576)
def dg (n:Nat):List Int:=dgF n n
def pw (i:Nat):Int:=1048576 ^ i
theorem b6z:pw 0=1:=rfl
theorem K7 (i:Nat):pw (i+1)=pw i*1048576:=Int.pow_succ ..
theorem R1 (i:Nat):0<pw i:=Int.pow_pos (by decide)
theorem a7Z (i j:Nat):pw (i+j)=pw i*pw j:=Int.pow_add ..
theorem a2o {i j:Nat} (h:i<=j):pw i<=pw j:=by
 obtain ⟨k,rfl⟩:=Nat.exists_eq_add_of_le h
 rw [a7Z]
 have h1:=R1 i
 have h2:=R1 k
 have:=lbV (a:=1) (b:=pw k) (c:=pw i) (by omega) (by omega)
 omega
theorem Okd.nil:Okd []:=fun _ h=>nomatch h
theorem Okd.cons {d:Int} {l:List Int} (h1:0<=d∧d<1048576) (h2:Okd l):Okd (d::l):=by
 intro x hx
 rcases lbA.1 hx with rfl|hx
 ·exact h1
 ·exact h2 x hx
theorem Okd.head {d:Int} {l:List Int} (h:Okd (d::l)):0<=d∧d<1048576:=h d (by simp)
theorem Okd.tail {d:Int} {l:List Int} (h:Okd (d::l)):Okd l:=fun x hx=>h x (by simp [hx])
theorem Okd.take {l:List Int} (h:Okd l) (n:Nat):Okd (l.take n):=fun x hx=>h x (List.mem_of_mem_take hx)
theorem Okd.drop {l:List Int} (h:Okd l) (n:Nat):Okd (l.drop n):=fun x hx=>h x (List.mem_of_mem_drop hx)
theorem Okd.append {a b:List Int} (h:Okd a) (h2:Okd b):Okd (a++b):=fun x hx=>by
 rcases lbz.1 hx with hx|hx
 ·exact h x hx
 ·exact h2 x hx
theorem Okd.set {l:List Int} (h:Okd l) {i:Nat} {x:Int} (hx:0<=x∧x<1048576):Okd (l.set i x):=fun y hy=>by
 rcases List.mem_or_eq_of_mem_set hy with hy|rfl
 ·exact h y hy
 ·exact hx
theorem Okd.get {l:List Int} (h:Okd l) {i:Nat} {x:Int} (hx:l[i]? =some x):0<=x∧x<1048576:=h x (lbm hx)
theorem Okd.zeros (n:Nat):Okd (List.replicate n 0):=fun x hx=>by rw [List.eq_of_mem_replicate hx];decide
theorem s8 {l:List Int} (h:Okd l):0<=val l:=by
 induction l with
 |nil=>simp [val]
 |cons d l ih=>have:=ih h.tail;have:=h.head;simp only [val];omega
theorem a0k {l:List Int} (h:Okd l):val l<pw l.length:=by
 induction l with
 |nil=>simp [val,pw]
 |cons d l ih=>
  have:=ih h.tail;have:=h.head
  simp only [val,lbu,K7];omega
theorem Q4 (a b:List Int):val (a++b)=val a+pw a.length*val b:=by
 induction a with
 |nil=>simp [val,pw]
 |cons d a ih=>simp only [List.cons_append,val,ih,lbu,K7];grind
theorem a8o (n:Nat):val (List.replicate n 0)=0:=by
 induction n with
 |zero=>rfl
 |succ n ih=>simp [List.replicate_succ,val,ih]
theorem a7Q (l:List Int) (i:Nat) (h:i<=l.length):val l=val (l.take i)+pw i*val (l.drop i):=by
 have:=Q4 (l.take i) (l.drop i)
 rw [lb7] at this
 rw [this]
 rw [lbs,Nat.min_eq_left h]
theorem a5N {l:List Int} {i:Nat} {x:Int} (h:l[i]? =some x):val (l.take (i+1))=val (l.take i)+pw i*x:=by
 have hi:i<l.length:=by
  rcases Nat.lt_or_ge i l.length with h1|h1
  ·exact h1
  ·rw [lbd h1] at h;cases h
 rw [lbG,h,Q4,lbs,Nat.min_eq_left (by omega)]
 simp [val]
theorem a4O {l:List Int} {i:Nat} {x:Int} (h:l[i]? =some x):val (l.drop i)=x+1048576*val (l.drop (i+1)):=by
 have hi:i<l.length:=by
  rcases Nat.lt_or_ge i l.length with h1|h1
  ·exact h1
  ·rw [lbd h1] at h;cases h
 rw [List.drop_eq_getElem_cons hi]
 rw [lbf hi] at h
 injection h with h
 rw [h];rfl
theorem b6m {l:List Int} {i:Nat} {x y:Int} (h:l[i]? =some y):val (l.set i x)=val l+pw i*(x - y):=by
 induction l generalizing i with
 |nil=>simp at h
 |cons d l ih=>
  cases i with
  |zero=>
   simp only [List.getElem?_cons_zero,lb3] at h
   subst h
   simp [val,pw];omega
  |succ i=>
   simp only [List.getElem?_cons_succ] at h
   simp only [List.set_cons_succ,val,ih h,K7];grind
theorem b4l (f n:Nat) (h:n<=f):dgF f n=dg n:=by
 unfold dg
 induction f using Nat.strongRecOn generalizing n with
 |ind f ih=>
  cases f with
  |zero=>cases Nat.le_zero.1 h;rfl
  |succ f=>
   cases n with
   |zero=>rfl
   |succ n=>
    simp only [dgF,Nat.succ_ne_zero,if_false]
    rw [ih f (by omega) _ (by omega),ih n (by omega) _ (by omega)]
theorem a2m:dg 0=[]:=rfl
theorem a6H {n:Nat} (h:0<n):dg n=((n % 1048576:Nat):Int)::dg (n / 1048576):=by
 obtain ⟨m,rfl⟩:∃m,n=m+1:=⟨n - 1,by omega⟩
 show dgF (m+1) (m+1)=_
 simp only [dgF,Nat.succ_ne_zero,if_false]
 rw [b4l _ _ (by omega)]
theorem aT2 {P:Nat->Prop} (h0:P 0) (h:∀n,0<n->P (n / 1048576)->P n) (n:Nat):P n:=by
 induction n using Nat.strongRecOn with
 |ind n ih=>
  rcases Nat.eq_zero_or_pos n with rfl|hn
  ·exact h0
  ·exact h n hn (ih _ (by omega))
theorem z7 (n:Nat):val (dg n)=n:=by
 induction n using aT2 with
 |h0=>rfl
 |h n hn ih=>rw [a6H hn,val,ih];omega
theorem C2 (n:Nat):Okd (dg n):=by
 induction n using aT2 with
 |h0=>exact .nil
 |h n hn ih=>rw [a6H hn];exact .cons (by omega) ih
theorem S3 {n:Nat}:dg n=[]↔n=0:=by
 constructor
 ·intro h
  have:=z7 n
  rw [h] at this
  simp only [val] at this;omega
 ·rintro rfl;rfl
def N9:List Int->List Int
 |[]=>[]
 |d::r=>if N9 r=[]∧d=0 then [] else d::N9 r
theorem T4 {l:List Int} (h:Okd l):N9 l=dg (val l).toNat:=by
 induction l with
 |nil=>rfl
 |cons d l ih=>
  have h0:=s8 h.tail
  have h1:=h.head
  have hv:(val (d::l)).toNat=d.toNat+1048576*(val l).toNat:=by simp only [val];omega
  rw [N9,ih h.tail,hv]
  split
  ·rename_i hc
   have:=S3.1 hc.1
   rw [this,hc.2];rfl
  ·rename_i hc
   rw [a6H (n:=d.toNat+1048576*(val l).toNat)]
   ·congr 1
    ·omega
    ·congr 1;omega
   ·rcases Nat.eq_zero_or_pos (val l).toNat with h2|h2
    ·have:d≠0:=fun h3=>hc ⟨by rw [h2];rfl,h3⟩
     omega
    ·omega
theorem a6k {l:List Int} {n:Nat} (h1:∀j x,n<=j->l[j]? =some x->x=0) (h2:∀x,0<n->l[n-1]? =some x->x≠0) (hn:n<=l.length):l.take n=N9 l:=by
 induction l generalizing n with
 |nil=>simp [N9]
 |cons d l ih=>
  cases n with
  |zero=>
   have ht:N9 l=[]:=by
    rw [← ih (n:=0) (fun j x _ hx=>h1 (j+1) x (by omega) (by simpa using hx)) (fun x h=>absurd h (by omega)) (by omega)];rfl
   have hd:d=0:=h1 0 d (by omega) (by simp)
   simp [N9,ht,hd]
  |succ n=>
   have ht:N9 l=l.take n:=by
    refine (ih (n:=n) (fun j x hj hx=>h1 (j+1) x (by omega) (by simpa using hx)) (fun x h hx=>h2 x (by omega) ?_) (by simpa using hn)).symm
    obtain ⟨m,rfl⟩:∃m,n=m+1:=⟨n - 1,by omega⟩
    simpa using hx
   rw [N9,ht,List.take_succ_cons,if_neg]
   rintro ⟨h3,h4⟩
   have hn0:n=0:=by
    rcases Nat.eq_zero_or_pos n with h5|h5
    ·exact h5
    ·have:=congrArg List.length h3
     simp only [lbs,List.length_nil,lbu] at this hn
     omega
   subst hn0
   exact h2 d (by omega) (by simp) h4
theorem P3 {n k:Nat} (h:(n:Int)<pw k):(dg n).length<=k:=by
 induction k generalizing n with
 |zero=>have:n=0:=by simp [pw] at h;omega
        subst this;simp [a2m]
 |succ k ih=>
  rcases Nat.eq_zero_or_pos n with rfl|hn
  ·simp [a2m]
  ·rw [a6H hn]
   rw [K7] at h
   have:=ih (n:=n / 1048576) (by omega)
   simp;omega
theorem aB0 {n:Nat} (h:0<n):pw ((dg n).length - 1)<=n:=by
 induction n using aT2 with
 |h0=>omega
 |h n hn ih=>
  rw [a6H hn]
  rcases Nat.eq_zero_or_pos (n / 1048576) with h1|h1
  ·rw [h1,a2m]
   simp [pw];omega
  ·have h2:=ih h1
   have:(dg (n / 1048576)).length≠0:=by rw [Ne,List.length_eq_zero_iff,S3];omega
   obtain ⟨m,hm⟩:∃m,(dg (n / 1048576)).length=m+1:=⟨(dg (n / 1048576)).length - 1,by omega⟩
   rw [hm] at h2
   rw [lbu,hm]
   simp only [Nat.add_sub_cancel] at h2 ⊢
   rw [K7];omega
theorem O5 (n:Nat):(n:Int)<pw (dg n).length:=by
 have:=a0k (C2 n);rw [z7] at this;exact this
theorem A7 {m n:Nat} (h:m<=n):(dg m).length<=(dg n).length:=P3 (by have:=O5 n;omega)
theorem au9 {m n:Nat} (h:(dg m).length<(dg n).length):m<n:=by
 rcases Nat.lt_or_ge m n with h1|h1
 ·exact h1
 ·have:=A7 h1;omega
def Can (l:List Int):Prop:=Okd l∧∀x,l[l.length - 1]? =some x->x≠0
theorem aZ0 {l:List Int} (h:Can l):l=dg (val l).toNat:=by
 rw [← T4 h.1]
 have:=a6k (l:=l) (n:=l.length) (fun j x hj hx=>by rw [lbd hj] at hx;cases hx) (fun x _ hx=>h.2 x hx) (lbQ _)
 rw [List.take_length] at this
 exact this
theorem a1R (n:Nat):Can (dg n):=by
 refine ⟨C2 n,fun x hx h0=>?_⟩
 subst h0
 have hl:0<(dg n).length:=by
  rcases Nat.eq_zero_or_pos (dg n).length with h|h
  ·rw [List.length_eq_zero_iff.1 h] at hx;simp at hx
  ·exact h
 have hp:0<n:=by
  rcases Nat.eq_zero_or_pos n with rfl|h
  ·simp [a2m] at hl
  ·exact h
 have h1:=aB0 hp
 have h2:=a5N hx
 rw [show (dg n).length - 1+1=(dg n).length by omega,List.take_length,z7] at h2
 have h3:=a0k ((C2 n).take ((dg n).length - 1))
 rw [lbs,Nat.min_eq_left (by omega)] at h3
 omega
theorem a8P {a b:List Int} (ha:Okd a) (hb:Okd b) (hl:a.length=b.length) {i:Nat} {x y:Int} (hx:a[i]? =some x) (hy:b[i]? =some y)
 (hd:a.drop (i+1)=b.drop (i+1)) (h:x<y):val a<val b:=by
 have hi:i<a.length:=by
  rcases Nat.lt_or_ge i a.length with h1|h1
  ·exact h1
  ·rw [lbd h1] at hx;cases hx
 have e1:=a7Q a i (by omega)
 have e2:=a7Q b i (by omega)
 rw [a4O hx] at e1
 rw [a4O hy] at e2
 rw [hd] at e1
 have h1:=a0k (ha.take i)
 rw [lbs,Nat.min_eq_left (by omega)] at h1
 have h2:=s8 (hb.take i)
 have h3:=R1 i
 have h4:pw i*(x+1048576*val (b.drop (i+1)))+pw i<=pw i*(y+1048576*val (b.drop (i+1))):=by
  have:=lbV (a:=x+1048576*val (b.drop (i+1))+1) (b:=y+1048576*val (b.drop (i+1))) (c:=pw i) (by omega) (by omega)
  rw [Int.mul_add (pw i) _ 1] at this
  omega
 omega
def dat (l:List Int) (i:Nat):Int:=l.getD i 0
theorem a2S {l:List Int} {i:Nat} {x:Int} (h:l[i]? =some x):dat l i=x:=by unfold dat;rw [lbl,h];rfl
theorem a1Z {l:List Int} {i:Nat} (h:l.length<=i):dat l i=0:=by unfold dat;rw [lbl,lbd h];rfl
theorem Okd.dat {l:List Int} (h:Okd l) (i:Nat):0<=dat l i∧dat l i<1048576:=by
 rcases Nat.lt_or_ge i l.length with h1|h1
 ·rw [a2S (lbf h1)]
  exact h _ (lbE h1)
 ·rw [a1Z h1];decide
theorem w9 (l:List Int) (i:Nat):val (l.take (i+1))=val (l.take i)+pw i*dat l i:=by
 rcases Nat.lt_or_ge i l.length with h1|h1
 ·rw [a2S (lbf h1)]
  exact a5N (lbf h1)
 ·rw [a1Z h1,lbn (by omega),lbn (by omega)];simp
theorem a7e (n:Int):0<=n % 1048576∧n % 1048576<1048576:=by omega
structure a8f (a b:List Int) (i:Nat) (out:List Int) (c:Int):Prop where
 len:out.length=a.length+1
 ok:Okd out
 le:i<=a.length
 zero:∀j,i<=j->dat out j=0
 c0:0<=c
 c1:c<=1
 eq:val out+pw i*c=val (a.take i)+val (b.take i)
theorem a8f.init (a b:List Int):a8f a b 0 (List.replicate (a.length+1) 0) 0:=
 ⟨by simp,.zeros _,Nat.zero_le _,fun j _=>by unfold dat;rw [lbl,lbk];split<;>rfl,by decide,by decide,by rw [a8o];simp [val]⟩
theorem a5l {l:List Int} {i j:Nat} {x:Int} (h:i≠j):dat (l.set i x) j=dat l j:=by
 unfold dat;rw [lbl,lbl,List.getElem?_set_ne h]
theorem a1S {l:List Int} {i:Nat} {x:Int} (hi:i<l.length):val (l.set i x)=val l+pw i*(x - dat l i):=by
 rw [a2S (lbf hi)];exact b6m (lbf hi)
theorem a8f.step {a b out:List Int} {i:Nat} {c:Int} (h:a8f a b i out c) (ha:Okd a) (hb:Okd b) (hi:i<a.length):
 a8f a b (i+1) (out.set i ((c+dat a i+dat b i) % 1048576)) ((c+dat a i+dat b i) / 1048576):=by
 have h1:=ha.dat i
 have h2:=hb.dat i
 have h3:=h.c0
 have h4:=h.c1
 have hl:=h.len
 refine ⟨by simp [hl],h.ok.set (a7e _),hi,fun j hj=>?_,by omega,by omega,?_⟩
 ·rw [a5l (by omega)];exact h.zero j (by omega)
 ·rw [a1S (by omega),h.zero i (lbQ _),w9,w9,K7]
  have h5:=h.eq
  have h6:(c+dat a i+dat b i) % 1048576=c+dat a i+dat b i - 1048576*((c+dat a i+dat b i) / 1048576):=by omega
  rw [h6]
  grind
theorem a8f.fin {a b out:List Int} {c:Int} (h:a8f a b a.length out c) (hl:b.length<=a.length):N9 (out.set a.length c)=dg (val a+val b).toNat:=by
 have h1:=h.c0
 have h2:=h.c1
 have h3:=h.eq
 have hl:=h.len
 rw [T4 (h.ok.set (by omega)),a1S (by omega),h.zero _ (lbQ _)]
 rw [List.take_length,lbn (by omega)] at h3
 congr 2
 grind
structure ak2 (a b:List Int) (i:Nat) (out:List Int) (c:Int):Prop where
 len:out.length=a.length
 ok:Okd out
 le:i<=a.length
 rest:∀j,i<=j->dat out j=dat a j
 c0:0<=c
 c1:c<=1
 eq:val out - pw i*c=val a - val (b.take i)
theorem ak2.init {a b:List Int} (ha:Okd a):ak2 a b 0 a 0:=⟨rfl,ha,Nat.zero_le _,fun _ _=>rfl,by decide,by decide,by simp [val]⟩
theorem ak2.step {a b out:List Int} {i:Nat} {c:Int} (h:ak2 a b i out c) (ha:Okd a) (hb:Okd b) (hi:i<a.length):
 ak2 a b (i+1) (out.set i ((dat out i - c - dat b i) % 1048576)) ((dat out i - c - dat b i) / 1048576 % 2):=by
 have h1:=h.ok.dat i
 have h2:=hb.dat i
 have h3:=h.c0
 have h4:=h.c1
 have hl:=h.len
 refine ⟨by simp [hl],h.ok.set (a7e _),hi,fun j hj=>?_,by omega,by omega,?_⟩
 ·rw [a5l (by omega)];exact h.rest j (by omega)
 ·rw [a1S (by omega),w9,K7]
  have h5:=h.eq
  have h6:(dat out i - c - dat b i) % 1048576=dat out i - c - dat b i+1048576*((dat out i - c - dat b i) / 1048576 % 2):=by omega
  rw [h6]
  grind
theorem ak2.fin {a b out:List Int} {c:Int} (h:ak2 a b a.length out c) (hl:b.length<=a.length) (hv:val b<=val a):N9 out=dg (val a - val b).toNat:=by
 have h1:=h.c0
 have h2:=h.c1
 have h3:=h.eq
 have hlen:=h.len
 rw [lbn (by omega)] at h3
 have h4:=a0k h.ok
 rw [hlen] at h4
 rw [T4 h.ok]
 rcases Int.lt_or_le 0 c with h5|h5
 ·have:c=1:=by omega
  subst this;omega
 ·have:c=0:=by omega
  subst this
  congr 2;omega
structure ak3 (a b:List Int) (i k:Nat) (out:List Int) (c:Int):Prop where
 len:out.length=a.length+b.length
 ok:Okd out
 le:k<=b.length
 zero:∀j,i+b.length<=j->dat out j=0
 c0:0<=c
 c1:c<1048576
 eq:val out+pw (i+k)*c=val (a.take i)*val b+pw i*dat a i*val (b.take k)
structure a7O (a b:List Int) (i:Nat) (out:List Int):Prop where
 len:out.length=a.length+b.length
 ok:Okd out
 le:i<=a.length
 zero:∀j,i+b.length<=j->dat out j=0
 eq:val out=val (a.take i)*val b
theorem a7O.init (a b:List Int):a7O a b 0 (List.replicate (a.length+b.length) 0):=
 ⟨by simp,.zeros _,Nat.zero_le _,fun j _=>by unfold dat;rw [lbl,lbk];split<;>rfl,by rw [a8o];simp [val]⟩
theorem a7O.start {a b out:List Int} {i:Nat} (h:a7O a b i out):ak3 a b i 0 out 0:=
 ⟨h.len,h.ok,Nat.zero_le _,h.zero,by decide,by decide,by rw [h.eq];simp [val]⟩
theorem a5c {x y:Int} (hx:0<=x∧x<1048576) (hy:0<=y∧y<1048576):0<=x*y∧x*y<=1048575*1048575:=
 ⟨lbZ hx.1 hy.1,Int.mul_le_mul (by omega) (by omega) hy.1 (by decide)⟩
theorem ak3.step {a b out:List Int} {i k:Nat} {c:Int} (h:ak3 a b i k out c) (ha:Okd a) (hb:Okd b) (hi:i<a.length) (hk:k<b.length):
 ak3 a b i (k+1) (out.set (i+k) ((dat out (i+k)+dat a i*dat b k+c) % 1048576)) ((dat out (i+k)+dat a i*dat b k+c) / 1048576):=by
 have h1:=h.ok.dat (i+k)
 have h2:=a5c (ha.dat i) (hb.dat k)
 have h3:=h.c0
 have h4:=h.c1
 have hl:=h.len
 refine ⟨by simp [hl],h.ok.set (a7e _),hk,fun j hj=>?_,by omega,by omega,?_⟩
 ·rw [a5l (by omega)];exact h.zero j (by omega)
 ·rw [a1S (by omega),w9,show i+(k+1)=i+k+1 by omega,K7]
  have h5:=h.eq
  have h6:(dat out (i+k)+dat a i*dat b k+c) % 1048576=dat out (i+k)+dat a i*dat b k+c - 1048576*((dat out (i+k)+dat a i*dat b k+c) / 1048576):=by omega
  rw [h6]
  have h7:=a7Z i k
  grind
theorem ak3.done {a b out:List Int} {i:Nat} {c:Int} (h:ak3 a b i b.length out c) (ha:Okd a) (hb:Okd b) (hi:i<a.length):
 a7O a b (i+1) (out.set (i+b.length) (dat out (i+b.length)+c)):=by
 have h3:=h.c0
 have h4:=h.c1
 have hl:=h.len
 have h8:=h.zero _ (lbQ _)
 refine ⟨by simp [hl],h.ok.set (by omega),hi,fun j hj=>?_,?_⟩
 ·rw [a5l (by omega)];exact h.zero j (by omega)
 ·rw [a1S (by omega),w9]
  have h5:=h.eq
  rw [List.take_length] at h5
  grind
theorem a7O.fin {a b out:List Int} (h:a7O a b a.length out):N9 out=dg (val a*val b).toNat:=by
 rw [T4 h.ok,h.eq,List.take_length]
structure a2D (a:List Int) (d:Int) (j:Nat) (out:List Int) (r:Int):Prop where
 len:out.length=a.length
 ok:Okd out
 le:j<=a.length
 r0:0<=r
 r1:r<d
 eq:val (a.drop j)=d*val (out.drop j)+r
theorem a2D.init (a:List Int) {d:Int} (hd:0<d):a2D a d a.length (List.replicate a.length 0) 0:=
 ⟨by simp,.zeros _,lbQ _,by decide,hd,by simp [val]⟩
theorem ah1 {l:List Int} {i:Nat} (h:i<l.length):val (l.drop i)=dat l i+1048576*val (l.drop (i+1)):=by
 rw [a2S (lbf h)];exact a4O (lbf h)
theorem a7d {l:List Int} {i:Nat} {x:Int} (h:i<l.length):dat (l.set i x) i=x:=by
 unfold dat;rw [lbl,List.getElem?_set_self h];rfl
theorem a2D.step {a out:List Int} {d r:Int} {j:Nat} (h:a2D a d (j+1) out r) (ha:Okd a) (hd:0<d):
 a2D a d j (out.set j ((r*1048576+dat a j) / d)) ((r*1048576+dat a j) % d):=by
 have h1:=ha.dat j
 have h3:=h.r0
 have h4:=h.r1
 have hl:=h.len
 have hle:=h.le
 have h6:0<=(r*1048576+dat a j) / d:=Int.ediv_nonneg (by omega) (by omega)
 have h7:(r*1048576+dat a j) / d<1048576:=by
  apply Int.ediv_lt_of_lt_mul hd
  have:=lbV (a:=r+1) (b:=d) (c:=1048576) (by omega) (by omega)
  omega
 refine ⟨by simp [hl],h.ok.set ⟨h6,h7⟩,by omega,Int.emod_nonneg _ (by omega),Int.emod_lt_of_pos _ hd,?_⟩
 rw [ah1 (by omega),ah1 (l:=out.set j _) (by simp;omega),a7d (by omega),List.drop_set_of_lt (by omega),h.eq]
 have h8:=Int.emod_add_mul_ediv (r*1048576+dat a j) d
 grind
theorem a2D.fin {a out:List Int} {d r:Int} (h:a2D a d 0 out r) (ha:Okd a) (hd:0<d):N9 out=dg (val a / d).toNat∧r=val a % d:=by
 have h3:=h.r0
 have h4:=h.r1
 have h5:=h.eq
 simp only [List.drop_zero] at h5
 rw [T4 h.ok]
 have e1:val a / d=val out:=by rw [h5];rw [Int.add_comm,Int.add_mul_ediv_left _ _ (by omega),Int.ediv_eq_zero_of_lt h3 h4];omega
 have e2:val a % d=r:=by rw [h5,Int.add_comm,Int.add_mul_emod_self_left,Int.emod_eq_of_lt h3 h4]
 exact ⟨by rw [e1],e2.symm⟩
structure a9h (w v:List Int) (g:Int) (i:Nat) (out:List Int) (c:Int):Prop where
 len:out.length=w.length
 ok:Okd out
 le:i<=w.length
 rest:∀j,i<=j->dat out j=dat w j
 c0:0<=c
 c1:c<1048576
 eq:val out - pw i*c=val w - g*val (v.take i)
theorem a9h.init {w v:List Int} (g:Int) (hw:Okd w):a9h w v g 0 w 0:=⟨rfl,hw,Nat.zero_le _,fun _ _=>rfl,by decide,by decide,by simp [val]⟩
theorem a9h.step {w v out:List Int} {g:Int} {i:Nat} {c:Int} (h:a9h w v g i out c) (hv:Okd v) (hg:0<=g∧g<1048576) (hi:i<w.length):
 a9h w v g (i+1) (out.set i ((dat out i - c - g*dat v i) % 1048576)) (-((dat out i - c - g*dat v i) / 1048576)):=by
 have h1:=h.ok.dat i
 have h2:=a5c hg (hv.dat i)
 have h3:=h.c0
 have h4:=h.c1
 have hl:=h.len
 refine ⟨by simp [hl],h.ok.set (a7e _),hi,fun j hj=>?_,by omega,by omega,?_⟩
 ·rw [a5l (by omega)];exact h.rest j (by omega)
 ·rw [a1S (by omega),w9,K7]
  have h5:=h.eq
  have h6:(dat out i - c - g*dat v i) % 1048576=dat out i - c - g*dat v i - 1048576*((dat out i - c - g*dat v i) / 1048576):=by omega
  rw [h6]
  grind
structure a6S (w v:List Int) (i:Nat) (out:List Int) (c:Int):Prop where
 len:out.length=w.length
 ok:Okd out
 le:i<=w.length
 rest:∀j,i<=j->dat out j=dat w j
 c0:0<=c
 c1:c<=1
 eq:val out+pw i*c=val w+val (v.take i)
theorem a6S.init {w v:List Int} (hw:Okd w):a6S w v 0 w 0:=⟨rfl,hw,Nat.zero_le _,fun _ _=>rfl,by decide,by decide,by simp [val]⟩
theorem a6S.step {w v out:List Int} {i:Nat} {c:Int} (h:a6S w v i out c) (hv:Okd v) (hi:i<w.length):
 a6S w v (i+1) (out.set i ((c+dat out i+dat v i) % 1048576)) ((c+dat out i+dat v i) / 1048576):=by
 have h1:=h.ok.dat i
 have h2:=hv.dat i
 have h3:=h.c0
 have h4:=h.c1
 have hl:=h.len
 refine ⟨by simp [hl],h.ok.set (a7e _),hi,fun j hj=>?_,by omega,by omega,?_⟩
 ·rw [a5l (by omega)];exact h.rest j (by omega)
 ·rw [a1S (by omega),w9,K7]
  have h5:=h.eq
  have h6:(c+dat out i+dat v i) % 1048576=c+dat out i+dat v i - 1048576*((c+dat out i+dat v i) / 1048576):=by omega
  rw [h6]
  grind
theorem a9h.zero {w v out:List Int} {g c:Int} (h:a9h w v g w.length out c) (hl:v.length<=w.length) (hw:Okd w) (hv:Okd v) (hg:0<=g):
 (c=0↔g*val v<=val w)∧(c=0->val out=val w - g*val v):=by
 have h3:=h.c0
 have h5:=h.eq
 rw [lbn (by omega)] at h5
 have h6:=a0k h.ok
 have h7:=s8 h.ok
 rw [h.len] at h6
 have h8:=R1 w.length
 have h9:0<c->pw w.length<=pw w.length*c:=fun hc=>by
  have:=lbV (a:=1) (b:=c) (c:=pw w.length) (by omega) (by omega)
  omega
 constructor
 ·constructor
  ·rintro rfl;omega
  ·intro h10
   rcases Int.lt_or_le 0 c with h11|h11
   ·have:=h9 h11;omega
   ·omega
 ·rintro rfl;omega
theorem a9h.back {w v out out':List Int} {g c c':Int} (h:a9h w v g w.length out c) (h':a6S out v w.length out' c') (hl:v.length<=w.length)
 (h1:0<=val w - g*val v+val v) (h2:val w - g*val v+val v<pw w.length):val out'=val w - g*val v+val v:=by
 have h5:=h.eq
 have h6:=h'.eq
 rw [lbn (by omega)] at h5 h6
 have h7:=a0k h'.ok
 have h8:=s8 h'.ok
 rw [h'.len,h.len] at h7
 have h9:=R1 w.length
 have e:val out'+pw w.length*(c' - c)=val w - g*val v+val v:=by grind
 rcases Int.lt_trichotomy (c' - c) 0 with hc|hc|hc
 ·have:=lbV (a:=c' - c) (b:=-1) (c:=pw w.length) (by omega) (by omega)
  omega
 ·rw [hc] at e;omega
 ·have:=lbV (a:=1) (b:=c' - c) (c:=pw w.length) (by omega) (by omega)
  omega
structure Win (P V W v1 v2 top u2:Int):Prop where
 P0:0<P
 v1l:524288<=v1
 v1u:v1<1048576
 v20:0<=v2
 v2u:v2<1048576
 u20:0<=u2
 u2u:u2<1048576
 t0:0<=top
 tu:top<1048576*1048576
 Vl:P*(v1*1048576+v2)<=V
 Vu:V<P*(v1*1048576+v2)+P
 Wl:P*(top*1048576+u2)<=W
 Wu:W<P*(top*1048576+u2)+P
 lt:W<V*1048576
theorem Win.V0 {P V W v1 v2 top u2:Int} (h:Win P V W v1 v2 top u2):0<V:=by
 have h1:=h.Vl
 have h2:=h.P0
 have h3:=h.v1l
 have h4:=h.v20
 have:=Int.mul_pos h2 (b:=v1*1048576+v2) (by omega)
 omega
structure W9 (V W v1 top g r:Int):Prop where
 g0:0<=g
 gu:g<=2097152
 r0:0<=r
 ru:r<2097152
 eq:g*v1+r=top
 hi:W<(g+1)*V
theorem W9.init {P V W v1 v2 top u2:Int} (h:Win P V W v1 v2 top u2):W9 V W v1 top (top / v1) (top % v1):=by
 have h1:=h.v1l
 have h2:=h.v1u
 have h3:=h.t0
 have h4:=h.tu
 have h5:=Int.emod_nonneg top (b:=v1) (by omega)
 have h6:=Int.emod_lt_of_pos top (b:=v1) (by omega)
 have h7:=Int.mul_ediv_add_emod top v1
 have h8:0<=top / v1:=Int.ediv_nonneg h3 (by omega)
 have hq:top / v1*v1+top % v1=top:=by rw [Int.mul_comm];exact h7
 refine ⟨h8,?_,h5,by omega,hq,?_⟩
 ·have h9:=lbV (a:=524288) (b:=v1) (c:=top / v1) h1 h8
  omega
 ·have hW:=h.Wu
  have hV:=h.Vl
  have hP:=h.P0
  have h20:=h.v20
  have hu:=h.u2u
  have e1:(top / v1+1)*(P*(v1*1048576+v2))<=(top / v1+1)*V:=lbV hV (by omega)
  have e2:top*1048576+u2+1<=(top / v1+1)*(v1*1048576+v2):=by
   have:0<=(top / v1+1)*v2:=lbZ (by omega) h20
   have e3:(top / v1+1)*v1≥top+1:=by grind
   grind
  have e4:=lbV (c:=P) e2 (by omega)
  grind
theorem W9.dec {P V W v1 v2 top u2 g r:Int} (h:Win P V W v1 v2 top u2) (hg:W9 V W v1 top g r) (hc:1048576<=g∨(r<1048576∧r*1048576+u2<g*v2)):
 W<g*V:=by
 have hV0:=h.V0
 rcases hc with hc|⟨hr,hc⟩
 ·have:=lbW (a:=1048576) (b:=g) (c:=V) hc (by omega)
  have:=h.lt
  omega
 ·have hW:=h.Wu
  have e1:g*(P*(v1*1048576+v2))<=g*V:=lbV h.Vl hg.g0
  have e2:top*1048576+u2+1<=g*(v1*1048576+v2):=by
   have:=hg.eq
   grind
  have e4:=lbV (c:=P) e2 (Int.le_of_lt h.P0)
  grind
theorem W9.small {P V W v1 v2 top u2 g r:Int} (h:Win P V W v1 v2 top u2) (hg:W9 V W v1 top g r) (hc:1048576<=g):r<1048576:=by
 have h1:=h.Wl
 have h2:=h.lt
 have h3:=h.Vu
 have hP:=h.P0
 have e1:P*(top*1048576+u2)<P*((v1*1048576+v2+1)*1048576):=by grind
 have e2:top*1048576+u2<(v1*1048576+v2+1)*1048576:=Int.lt_of_mul_lt_mul_left e1 (Int.le_of_lt hP)
 have h4:=h.u20
 have h5:=hg.eq
 have h6:=lbW (a:=1048576) (b:=g) (c:=v1) hc (by have:=h.v1l;omega)
 have h7:=h.v2u
 omega
theorem W9.step {P V W v1 v2 top u2 g r:Int} (h:Win P V W v1 v2 top u2) (hg:W9 V W v1 top g r) (hc:1048576<=g∨(r<1048576∧r*1048576+u2<g*v2))
 (hW0:0<=W):W9 V W v1 top (g - 1) (r+v1):=by
 have h1:=W9.dec h hg hc
 have hV0:=h.V0
 have hg0:0<g:=by
  rcases Int.lt_or_le 0 g with h2|h2
  ·exact h2
  ·have:=hg.g0
   have:g=0:=by omega
   subst this;omega
 have h2:=hg.gu
 have h3:=hg.r0
 have h4:=h.v1l
 have h5:=h.v1u
 have h6:=hg.eq
 have h7:r<1048576:=by
  rcases hc with hc|hc
  ·exact W9.small h hg hc
  ·exact hc.1
 exact ⟨by omega,by omega,by omega,by omega,by grind,by grind⟩
theorem W9.fin {P V W v1 v2 top u2 g r:Int} (h:Win P V W v1 v2 top u2) (hg:W9 V W v1 top g r) (hc:¬(1048576<=g∨(r<1048576∧r*1048576+u2<g*v2)))
 (hP:P*1048576<=V):g<1048576∧g*V<=W+V:=by
 have hg1:g<1048576:=by omega
 refine ⟨hg1,?_⟩
 have h0:=hg.g0
 have h20:=h.v20
 have h2u:=h.v2u
 have hu0:=h.u20
 have e1:g*v2<=r*1048576+u2:=by
  rcases Int.lt_or_le r 1048576 with hr|hr
  ·omega
  ·have:=a5c ⟨h0,hg1⟩ ⟨h20,h2u⟩
   omega
 have e2:g*(v1*1048576+v2)<=top*1048576+u2:=by
  have:=hg.eq
  grind
 have e3:=lbV (c:=P) e2 (Int.le_of_lt h.P0)
 have e4:g*V<=g*(P*(v1*1048576+v2)+P):=lbV (Int.le_of_lt h.Vu) h0
 have e5:g*P<=1048576*P:=lbW (Int.le_of_lt hg1) (Int.le_of_lt h.P0)
 have hW:=h.Wl
 grind
structure Bg where
 sg:Int
 dl:List Int
def bz (z:Int):Bg:=⟨z.sign,dg z.natAbs⟩
def inD (d:Int):Bool:=decide (0<=d) && decide (d<=1048575)
def P6 (b:Bg):Bool:=b.dl.all inD && (if b.dl.length=0 then b.sg == 0 else (b.sg == 1 || b.sg == -1) && !(dat b.dl (b.dl.length - 1) == 0))
def bv (b:Bg):Int:=b.sg*val b.dl
theorem b0e {l:List Int}:l.all inD=true↔Okd l:=by
 simp only [lbv,inD,lbM,lbI]
 exact ⟨fun h d hd=>by have:=h d hd;omega,fun h d hd=>by have:=h d hd;omega⟩
theorem a6U (z:Int):bv (bz z)=z:=by
 unfold bv bz
 rw [z7]
 exact Int.sign_mul_natAbs z
theorem b5M {b:Bg} (h:P6 b=true):b=bz (bv b):=by
 unfold P6 at h
 rw [lbM,b0e] at h
 obtain ⟨h1,h2⟩:=h
 obtain ⟨sg,dl⟩:=b
 simp only at h1 h2
 have hv:=s8 h1
 by_cases hl:dl.length=0
 ·rw [if_pos hl] at h2
  have:dl=[]:=lbF hl
  subst this
  have:sg=0:=by simpa using h2
  subst this
  rfl
 ·rw [if_neg hl,lbM] at h2
  have hc:Can dl:=⟨h1,fun x hx=>by rw [a2S hx] at h2;simpa using h2.2⟩
  have h3:=aZ0 hc
  have hp:0<val dl:=by
   rcases Int.lt_or_le 0 (val dl) with h4|h4
   ·exact h4
   ·have:val dl=0:=by omega
    rw [this] at h3
    rw [h3] at hl
    exact absurd rfl hl
  have hs:sg=1∨sg=-1:=by simpa using h2.1
  have ha:(sg*val dl).natAbs=(val dl).toNat:=by
   rcases hs with rfl|rfl<;>omega
  have hg:(sg*val dl).sign=sg:=by
   rcases hs with rfl|rfl
   ·rw [Int.one_mul];exact Int.sign_eq_one_of_pos hp
   ·exact Int.sign_eq_neg_one_of_neg (by omega)
  unfold bz bv
  simp only
  rw [ha,hg,←h3]
theorem a2W (z:Int):P6 (bz z)=true:=by
 unfold P6
 rw [lbM,b0e]
 refine ⟨C2 _,?_⟩
 by_cases hl:(bz z).dl.length=0
 ·rw [if_pos hl]
  have h0:dg z.natAbs=[]:=lbF hl
  have:z=0:=by have:=S3.1 h0;omega
  subst this;rfl
 ·rw [if_neg hl]
  have hz:z≠0:=by rintro rfl;exact hl rfl
  have hl0:(dg z.natAbs).length - 1<(dg z.natAbs).length:=by have:(dg z.natAbs).length≠0:=hl;omega
  have h1:=(a1R z.natAbs).2 _ (lbf hl0)
  have h2:dat (bz z).dl ((bz z).dl.length - 1)≠0:=by
   show dat (dg z.natAbs) ((dg z.natAbs).length - 1)≠0
   rw [a2S (lbf hl0)];exact h1
  rw [lbM]
  refine ⟨?_,by simpa using h2⟩
  show ((z.sign == 1) || (z.sign == -1))=true
  rcases Int.lt_trichotomy z 0 with h|h|h
  ·rw [Int.sign_eq_neg_one_of_neg h];rfl
  ·exact absurd h hz
  ·rw [Int.sign_eq_one_of_pos h];rfl
theorem aE8 {z:Int}:(bz z).sg=z.sign:=rfl
structure Fr where
 p:Bg
 q:Bg
def fz (x:Rat):Fr:=⟨bz x.num,bz x.den⟩
def C9 (f:Fr):Bool:=P6 f.p && P6 f.q && (f.q.sg == 1) && (Int.gcd (bv f.p) (bv f.q) == 1)
def fv (f:Fr):Rat:=mkRat (bv f.p) (bv f.q).toNat
theorem a2P (x:Rat):C9 (fz x)=true:=by
 unfold C9 fz
 simp only [a2W,a6U,Bool.true_and,lbM]
 have hd:=x.den_pos
 refine ⟨?_,?_⟩
 ·rw [aE8,Int.sign_eq_one_of_pos (by omega)];rfl
 ·have:=x.reduced
  simp only [Int.gcd,Int.natAbs_natCast]
  rw [this];rfl
theorem b45 {f:Fr} (h:C9 f=true):f=fz (fv f):=by
 unfold C9 at h
 simp only [lbM,beq_iff_eq] at h
 obtain ⟨⟨⟨h1,h2⟩,h3⟩,h4⟩:=h
 have e1:=b5M h1
 have e2:=b5M h2
 rw [e2,aE8] at h3
 have hq:0<bv f.q:=Int.sign_eq_one_iff_pos.1 h3
 have hr:Nat.Coprime (bv f.p).natAbs (bv f.q).toNat:=by
  have:(bv f.q).natAbs=(bv f.q).toNat:=by omega
  rw [← this];exact h4
 have e3:fv f=⟨bv f.p,(bv f.q).toNat,by omega,hr⟩:=(Rat.mk_eq_mkRat _ _ _ _).symm
 rw [e3]
 unfold fz
 simp only
 rw [← e1,show (((bv f.q).toNat:Nat):Int)=bv f.q by omega,←e2]
theorem b4I (x:Rat):fv (fz x)=x:=by
 unfold fv fz
 simp only [a6U,lbX]
 exact Rat.mkRat_self x
theorem ao7 {p q g:Int} (hq:0<q) (hg:g=Int.gcd p q):fz (Rat.divInt p q)=⟨bz (p / g),bz (q / g)⟩:=by
 unfold fz
 rw [Rat.num_divInt,Rat.den_divInt,if_neg (by omega),Int.sign_eq_one_of_pos hq,Int.one_mul,Int.gcd_comm q p,←hg]
 congr 2
 rw [hg]
 have:((q.natAbs / Int.gcd p q:Nat):Int)=(q.natAbs:Int) / (Int.gcd p q:Int):=by simp
 rw [this,show (q.natAbs:Int)=q by omega]
structure a9n (U V N L:Nat) (j:Nat) (u q:List Int):Prop where
 lu:u.length=N
 oku:Okd u
 lq:q.length=N - L
 okq:Okd q
 le:j<=N - L
 eq:val (q.drop j)*pw j*V+val u=U
 lt:val u<V*pw j
theorem a9n.init {U V:Nat} (hV:0<V) (hl:(dg V).length<=(dg U).length+1):a9n U V ((dg U).length+1) (dg V).length ((dg U).length+1 - (dg V).length) (dg U++[0]) (List.replicate ((dg U).length+1 - (dg V).length) 0):=by
 have h1:=aB0 hV
 have h2:=O5 U
 have hv:val (dg U++[0])=U:=by rw [Q4,z7];simp [val]
 have hL:(dg V).length≠0:=by rw [Ne,List.length_eq_zero_iff,S3];omega
 refine ⟨by simp,(C2 U).append (by intro x hx;simp at hx;omega),by simp,.zeros _,lbQ _,?_,?_⟩
 ·rw [lbo (by simp),hv];simp [val]
 ·rw [hv]
  have h3:=lbW (a:=pw ((dg V).length - 1)) (b:=V) (c:=pw ((dg U).length+1 - (dg V).length)) h1 (Int.le_of_lt (R1 _))
  rw [← a7Z,show (dg V).length - 1+((dg U).length+1 - (dg V).length)=(dg U).length by omega] at h3
  omega
theorem a9n.window {U V N L j:Nat} {u q:List Int} (h:a9n U V N L (j+1) u q) (hL:(dg V).length=L):
 u=u.take j++(u.drop j).take (L+1)++u.drop (j+(L+1))∧((u.drop j).take (L+1)).length=L+1∧(u.take j).length=j∧
 val u=val (u.take j)+pw j*val ((u.drop j).take (L+1))∧val (u.drop (j+(L+1)))=0∧val ((u.drop j).take (L+1))<V*1048576:=by
 have h1:=h.lu
 have h2:=h.le
 have h3:=h.lt
 have hp:=R1 j
 have e0:(u.take j).length=j:=by simp;omega
 have e1:u.drop j=(u.drop j).take (L+1)++u.drop (j+(L+1)):=by rw [← List.drop_drop,lb7]
 have e2:((u.drop j).take (L+1)).length=L+1:=by simp;omega
 have e3:u=u.take j++(u.drop j).take (L+1)++u.drop (j+(L+1)):=by rw [lbD,←e1,lb7]
 have hv:=a7Q u j (by omega)
 have hw:=Q4 ((u.drop j).take (L+1)) (u.drop (j+(L+1)))
 rw [← e1,e2] at hw
 have h4:=s8 (h.oku.take j)
 have h5:=s8 ((h.oku.drop j).take (L+1))
 have h6:=s8 (h.oku.drop (j+(L+1)))
 have hVp:=O5 V
 rw [hL] at hVp
 have hz:val (u.drop (j+(L+1)))=0:=by
  rcases Int.lt_or_le 0 (val (u.drop (j+(L+1)))) with h7|h7
  ·exfalso
   have a1:=lbV (a:=1) (b:=val (u.drop (j+(L+1)))) (c:=pw (L+1)) (by omega) (Int.le_of_lt (R1 _))
   have a2:=lbV (a:=pw (L+1)) (b:=val (u.drop j)) (c:=pw j) (by omega) (Int.le_of_lt hp)
   have a3:=lbW (a:=(V:Int)) (b:=pw L) (c:=pw (j+1)) (Int.le_of_lt hVp) (Int.le_of_lt (R1 _))
   have a4:pw j*pw (L+1)=pw L*pw (j+1):=by rw [← a7Z,←a7Z];congr 1;omega
   omega
  ·omega
 rw [hz,Int.mul_zero,Int.add_zero] at hw
 rw [hw] at hv
 refine ⟨e3,e2,e0,hv,hz,?_⟩
 have a5:pw j*val ((u.drop j).take (L+1))<pw j*(V*1048576):=by
  rw [K7] at h3
  have:(V:Int)*(pw j*1048576)=pw j*(V*1048576):=by grind
  omega
 exact Int.lt_of_mul_lt_mul_left a5 (Int.le_of_lt hp)
theorem as2 (l:List Int):N9 l++List.replicate (l.length - (N9 l).length) 0=l:=by
 induction l with
 |nil=>rfl
 |cons d r ih=>
  rw [N9]
  split
  ·rename_i h
   rw [h.1] at ih
   rw [h.2]
   simp only [List.nil_append,List.length_nil,Nat.sub_zero,lbu,List.replicate_succ] at ih ⊢
   rw [ih]
  ·simp only [List.cons_append,lbu,Nat.add_sub_add_right]
   rw [ih]
def a0d (n:Nat) (l:List Int):List Int:=l++List.replicate (n - l.length) 0
theorem b0G {l:List Int} (h:Okd l) {n:Nat} (hn:l.length=n):l=a0d n (dg (val l).toNat):=by
 subst hn
 have:=as2 l
 rw [T4 h] at this
 exact this.symm
theorem b7q (n:Nat) (l:List Int):val (a0d n l)=val l:=by unfold a0d;rw [Q4,a8o];simp
theorem as7 {n:Nat} {l:List Int} (h:l.length<=n):(a0d n l).length=n:=by unfold a0d;simp;omega
theorem b4M {n:Nat} {l:List Int} (h:Okd l):Okd (a0d n l):=h.append (.zeros _)
theorem Win.of {v w:List Int} {L:Nat} (hv:Okd v) (hw:Okd w) (lv:v.length=L+2) (lw:w.length=L+3) (ht:524288<=dat v (L+1)) (hlt:val w<val v*1048576):
 Win (pw L) (val v) (val w) (dat v (L+1)) (dat v L) (dat w (L+2)*1048576+dat w (L+1)) (dat w L):=by
 have v1:=w9 v (L+1)
 have v2:=w9 v L
 have w1:=w9 w (L+2)
 have w2:=w9 w (L+1)
 have w3:=w9 w L
 rw [lbn (by omega)] at v1 w1
 have a1:=s8 (hv.take L)
 have a2:=a0k (hv.take L)
 have a3:=s8 (hw.take L)
 have a4:=a0k (hw.take L)
 rw [lbs,Nat.min_eq_left (by omega)] at a2 a4
 have d1:=hv.dat (L+1)
 have d2:=hv.dat L
 have d3:=hw.dat (L+2)
 have d4:=hw.dat (L+1)
 have d5:=hw.dat L
 have p1:=K7 L
 have p2:=K7 (L+1)
 have e1:val v=pw L*(dat v (L+1)*1048576+dat v L)+val (v.take L):=by grind
 have e2:val w=pw L*((dat w (L+2)*1048576+dat w (L+1))*1048576+dat w L)+val (w.take L):=by grind
 exact ⟨R1 L,ht,by omega,by omega,by omega,by omega,by omega,by omega,by omega,by omega,by omega,by omega,by omega,hlt⟩
theorem a9n.step {U V N L j:Nat} {u q:List Int} (h:a9n U V N L (j+1) u q) (hL:(dg V).length=L) (hV:0<V) {Q:Int} (hQ:0<=Q∧Q<1048576)
 (hr0:0<=val ((u.drop j).take (L+1)) - Q*V) (hr1:val ((u.drop j).take (L+1)) - Q*V<V):
 a9n U V N L j (u.take j++a0d (L+1) (dg (val ((u.drop j).take (L+1)) - Q*V).toNat)++u.drop (j+(L+1))) (q.set j Q):=by
 obtain ⟨e3,e2,e0,hv,hz,hW⟩:=h.window hL
 have h1:=h.lu
 have h2:=h.le
 have h3:=h.lq
 have hVp:=O5 V
 rw [hL] at hVp
 have hmono:=a2o (Nat.le_succ L)
 have lp:(dg (val ((u.drop j).take (L+1)) - Q*V).toNat).length<=L+1:=P3 (by have:pw L<=pw (L+1):=hmono;omega)
 have hpl:=as7 lp
 have hvp:val (a0d (L+1) (dg (val ((u.drop j).take (L+1)) - Q*V).toNat))=val ((u.drop j).take (L+1)) - Q*V:=by
  rw [b7q,z7,lbY hr0]
 have hu':val (u.take j++a0d (L+1) (dg (val ((u.drop j).take (L+1)) - Q*V).toNat)++u.drop (j+(L+1)))=val (u.take j)+pw j*(val ((u.drop j).take (L+1)) - Q*V):=by
  rw [Q4,hz,Q4,hvp,e0];simp
 have hp:=R1 j
 have hlt:=a0k (h.oku.take j)
 rw [e0] at hlt
 refine ⟨?_,((h.oku.take j).append (b4M (C2 _))).append (h.oku.drop _),by simp [h3],h.okq.set hQ,by omega,?_,?_⟩
 ·simp only [lbq,hpl,e0,List.length_drop];omega
 ·rw [hu',ah1 (by simp;omega),a7d (by omega),List.drop_set_of_lt (by omega)]
  have h4:=h.eq
  rw [hv,K7] at h4
  grind
 ·rw [hu']
  have h5:=lbV (a:=val ((u.drop j).take (L+1)) - Q*V) (b:=(V:Int) - 1) (c:=pw j) (by omega) (by omega)
  have h6:pw j*((V:Int) - 1)=V*pw j - pw j:=by grind
  omega
theorem a9n.fin {U V N L:Nat} {u q:List Int} (h:a9n U V N L 0 u q) (hV:0<V):val q=(U / V:Nat)∧val u=(U % V:Nat):=by
 have h1:=h.eq
 have h2:=h.lt
 simp only [List.drop_zero,b6z,Int.mul_one] at h1 h2
 have h3:=s8 h.oku
 have h4:=s8 h.okq
 obtain ⟨Q,hQ⟩:=Int.eq_ofNat_of_zero_le h4
 obtain ⟨R,hR⟩:=Int.eq_ofNat_of_zero_le h3
 rw [hQ,hR] at h1
 rw [hR] at h2
 have e:U=R+Q*V:=by
  have:((R+Q*V:Nat):Int)=(U:Int):=by rw [← h1];simp [Int.add_comm]
  omega
 have hlt:R<V:=by omega
 rw [hQ,hR,e,Nat.add_mul_div_right _ _ hV,Nat.div_eq_of_lt hlt,Nat.add_mul_mod_self_right,Nat.mod_eq_of_lt hlt]
 simp
open St1 St2 St3 St4 St5 St6 St7 St8 StA StB
set_option maxRecDepth 100000
abbrev bgC (b:Bg):List C:=[.t (ti b.sg),.t (N3 b.dl)]
abbrev bgS (b:Bg):S:=.agg (bgC b)
abbrev bgB (b:Bg):Blk:={ mode:=.live,elem:=33,size:=2,rows:=[bgC b],box:=true }
theorem a4x (b:Bg):E5 [bgC b]:=by
 intro r hr c hc
 simp at hr
 subst hr
 simp [bgC] at hc
 rcases hc with rfl|rfl<;>rfl
theorem A9 {l:List Int} {i:Nat} (h:i<l.length):l[i]? =some (dat l i):=by
 unfold dat;rw [lbl,lbf h];rfl
theorem a9S {l:List Int} (h:0<l.length):l[((l.length:Int) - 1).toNat]? =some (dat l (l.length - 1)):=by
 rw [show ((l.length:Int) - 1).toNat=l.length - 1 by omega];exact A9 (by omega)
theorem a2Q {l:List Int} {n:Nat} (h:0<n) (hn:n<=l.length):l[((n:Int) - 1).toNat]? =some (dat l (n - 1)):=by
 rw [show ((n:Int) - 1).toNat=n - 1 by omega];exact A9 (by omega)
theorem a3b (b:Bg) (hl:b.dl.length<=1000000):b7 Tryz.prog 131 [bgS b] [] (f7 (P6 b)) []:=by
 have l2:(b.dl.map e8).length=b.dl.length:=by simp
 (refine ac Tryz.func131 ?_;(conv=>whnf);repeat (refine zy ?_;conv=>whnf))
 repeat' (first|refine zx ?_|refine zd ?_ ?_<;>intro h<;>try omega|fail)<;>conv=>whnf
 refine f8 c7 (fun k=>([J,S.c (C.ptr 0 0 0),J,a8 .i64 b.dl.length,J,J,J,J,J,J,g8 b.dl,a8 .i64 b.dl.length,a8 .i64 k]++Jn 32,[bgB b])) b.dl.length (fun k=>(b.dl.take k).all inD=true) [some 0] rfl
  ⟨rfl,rfl,⟨⟨rfl,rfl,rfl,.inl ⟨rfl,a4x b⟩⟩,trivial⟩,⟨⟨rfl,rfl,rfl⟩,c6 (by simp),i5 rfl,c6 (by simp),c6 rfl,trivial⟩⟩ ?_
 intro k hk hI
 conv=>whnf
 repeat' (first|refine zx ?_|refine d7 (A9 (by omega)) ?_|refine F3 (by omega) (a9S (by omega)) ?_|refine zd ?_ ?_<;>intro h<;>try omega|fail)<;>conv=>whnf
 all_goals first
  |(have hlt:k<b.dl.length:=by omega
    refine ⟨hlt,?_,[some 0],rfl,rfl,⟨⟨rfl,rfl,rfl,.inl ⟨rfl,a4x b⟩⟩,trivial⟩,⟨⟨rfl,rfl,rfl⟩,rfl,rfl,rfl,rfl,trivial⟩⟩;rw [A6 (A9 hlt),hI];simp [inD];omega)
  |(have hlt:k<b.dl.length:=by omega
    refine c9 ?_;unfold P6;rw [B3 (A9 hlt) (by simp [inD];omega)];rfl)
  |(have ha:b.dl.all inD=true:=by rw [← hI,lbn (by omega)]
    refine c9 ?_;unfold P6;rw [ha];simp_all;done)
theorem a3s (l:List Int) (hl:l.length<=1000000):b7 Tryz.prog 208 [g8 l] [] (g8 (N9 l)) []:=by
 have l2:(l.map e8).length=l.length:=by simp
 (refine ac Tryz.func208 ?_;(conv=>whnf);repeat (refine zy ?_;conv=>whnf))
 repeat' (first|refine zx ?_|refine zd ?_ ?_<;>intro h<;>try omega|fail)<;>conv=>whnf
 refine u9 c7 (σ:=Nat) (fun n=>([g8 l,J,J,a8 .i64 n]++Jn 17,[])) (fun n=>n<=l.length∧∀j x,n<=j->l[j]? =some x->x=0) (fun n=>n) l.length []
  ⟨lbQ _,fun j x hj hx=>by rw [lbd hj] at hx;cases hx⟩ ⟨rfl,rfl,trivial,⟨i5 rfl,c6 (by simp),trivial⟩⟩ ?_
 rintro n ⟨hn,hz⟩
 have hn:n<=l.length:=hn
 conv=>whnf
 repeat' (first|refine zx ?_|refine F3 (by omega) (a2Q (by omega) hn) ?_|refine a14 (by omega) (by omega) (by omega) ?_|refine zd ?_ ?_<;>intro h<;>try omega|fail)<;>conv=>whnf
 ·have h0:dat l (n - 1)=0:=by assumption
  have h1:0<n:=by omega
  refine ⟨[],n - 1,⟨rfl,rfl,trivial,⟨rfl,c6 (by omega),trivial⟩⟩,⟨by omega,fun j x hj hxj=>?_⟩,by show n - 1<n;omega⟩
  by_cases hj2:j=n - 1
  ·subst hj2;rw [A9 (by omega)] at hxj;injection hxj with hx;rw [← hx];exact h0
  ·exact hz j x (by omega) hxj
 all_goals
  have e:l.take n=N9 l:=a6k hz (fun x h0 hx=>by
   first
    |omega
    |(rw [A9 (by omega)] at hx;injection hx with hx;rw [← hx];assumption)) hn
  refine b99 ?_ rfl
  rw [← e]
  simp [List.map_take]
open St1 St2 St3 St4 St5 St6 St7 St8 StA StB
set_option maxRecDepth 100000
theorem b7K (l:List Int) (hl:l.length<=1000000):b7 Tryz.prog 208 [a4j 0 l] [n7 l] (.c (.own 0 0 (N9 l).length true)) [n7 l]:=by
 (refine ac Tryz.func208 ?_;(conv=>whnf);repeat (refine zy ?_;conv=>whnf))
 repeat' (first|refine zx ?_|refine zd ?_ ?_<;>intro h<;>try omega|fail)<;>conv=>whnf
 refine u9 c7 (σ:=Nat) (fun n=>([a4j 0 l,J,J,a8 .i64 n]++Jn 17,[n7 l])) (fun n=>n<=l.length∧∀j x,n<=j->l[j]? =some x->x=0) (fun n=>n) l.length [some 0]
  ⟨lbQ _,fun j x hj hx=>by rw [lbd hj] at hx;cases hx⟩ ⟨rfl,rfl,⟨b8 rfl rfl rfl rfl rfl,trivial⟩,⟨x4 rfl rfl,c6 rfl,trivial⟩⟩ ?_
 rintro n ⟨hn,hz⟩
 have hn:n<=l.length:=hn
 have hg:0<n->l[0+((n:Int) - 1).toNat]? =some (dat l (n - 1)):=fun h=>by rw [Nat.zero_add];exact a2Q h hn
 conv=>whnf
 repeat' (first|refine zx ?_|refine p4 (hg (by omega)) ?_|refine a14 (by omega) (by omega) (by omega) ?_|refine zd ?_ ?_<;>intro h<;>try omega|fail)<;>conv=>whnf
 ·have h0:dat l (n - 1)=0:=by assumption
  have h1:0<n:=by omega
  refine ⟨[some 0],n - 1,⟨rfl,rfl,⟨b8 rfl rfl rfl rfl rfl,trivial⟩,⟨x4 rfl rfl,c6 (by omega),trivial⟩⟩,⟨by omega,fun j x hj hxj=>?_⟩,by show n - 1<n;omega⟩
  by_cases hj2:j=n - 1
  ·subst hj2;rw [A9 (by omega)] at hxj;injection hxj with hx;rw [← hx];exact h0
  ·exact hz j x (by omega) hxj
 all_goals
  have e:l.take n=N9 l:=a6k hz (fun x h0 hx=>by
   first
    |omega
    |(rw [A9 (by omega)] at hx;injection hx with hx;rw [← hx];assumption)) hn
  have e2:(N9 l).length=n:=by rw [← e];simp;omega
  exact ⟨⟨[some 0],rfl,rfl,⟨b8 rfl rfl rfl rfl rfl,trivial⟩,⟨rfl,rfl,by rw [e2];omega,fun h=>h⟩⟩⟩
theorem ax9 {n:Nat} {K:Prop} (h:0<n) (k:K):0<n∧K:=⟨h,k⟩
theorem a58 (l:List Int) (hl:l.length<=1000000):b7 Tryz.prog 164 [g8 l] [] (g8 l) []:=by
 have l2:(l.map e8).length=l.length:=by simp
 cases l with
 |nil=>
  refine at3 0 rfl ?_ ?_
  ·(refine ac Tryz.func164 ?_;(conv=>whnf);repeat (refine zy ?_;conv=>whnf))
   repeat' (first|refine zx ?_|refine zd ?_ ?_<;>intro h<;>try omega|fail)<;>conv=>whnf
   exact j3 (show ak9 [] _ _ _ from rfl)
  ·(refine ac Tryz.func164 ?_;(conv=>whnf);repeat (refine zy ?_;conv=>whnf))
   repeat' (first|refine zx ?_|refine qp toC ?_|refine ax9 (by simp) ?_|refine sl3_ok (by omega) (by omega) rfl (by omega) ?_|refine F0 rfl (by simp [toC]) ?_|refine zd ?_ ?_<;>intro h<;>try omega|fail)<;>conv=>whnf
   exact J7 rfl (by intro h;cases h) rfl rfl (by simp [toC])
 |cons a r=>
  (refine ac Tryz.func164 ?_;(conv=>whnf);repeat (refine zy ?_;conv=>whnf))
  repeat' (first|refine zx ?_|refine qp toC ?_|refine ax9 (by simp) ?_|refine sl3_ok (by omega) (by omega) rfl (by omega) ?_|refine F0 rfl (by simp [toC] at *;omega) ?_|refine zd ?_ ?_<;>intro h<;>try omega|fail)<;>conv=>whnf
  exact J7 rfl (by intro h;cases h) rfl rfl (by simp [toC])
theorem b3m (l:List Int) (hl:l.length<=1000000):b7 Tryz.prog 164 [g8 l] [] (a4j 0 l) [n7 l]:=by
 have l2:(l.map e8).length=l.length:=by simp
 cases l with
 |nil=>
  refine at3 0 rfl ?_ ?_
  ·(refine ac Tryz.func164 ?_;(conv=>whnf);repeat (refine zy ?_;conv=>whnf))
   repeat' (first|refine zx ?_|refine zd ?_ ?_<;>intro h<;>try omega|fail)<;>conv=>whnf
   exact ⟨⟨[none],rfl,rfl,⟨⟨rfl,rfl⟩,trivial⟩,⟨rfl,rfl,rfl⟩⟩⟩
  ·(refine ac Tryz.func164 ?_;(conv=>whnf);repeat (refine zy ?_;conv=>whnf))
   repeat' (first|refine zx ?_|refine qp toC ?_|refine ax9 (by simp) ?_|refine sl3_ok (by omega) (by omega) rfl (by omega) ?_|refine F0 rfl (by simp [toC]) ?_|refine zd ?_ ?_<;>intro h<;>try omega|fail)<;>conv=>whnf
   exact ⟨⟨[some 0],rfl,rfl,⟨b8 rfl rfl rfl rfl rfl,trivial⟩,⟨rfl,rfl,by simp [toC],fun h=>h⟩⟩⟩
 |cons a r=>
  (refine ac Tryz.func164 ?_;(conv=>whnf);repeat (refine zy ?_;conv=>whnf))
  repeat' (first|refine zx ?_|refine qp toC ?_|refine ax9 (by simp) ?_|refine sl3_ok (by omega) (by omega) rfl (by omega) ?_|refine F0 rfl (by simp [toC] at *;omega) ?_|refine zd ?_ ?_<;>intro h<;>try omega|fail)<;>conv=>whnf
  exact ⟨⟨[some 0],rfl,rfl,⟨b8 rfl rfl rfl rfl rfl,trivial⟩,⟨rfl,rfl,by simp [toC],fun h=>h⟩⟩⟩
theorem b6V (x:Int):b7 Tryz.prog 207 [a8 .i64 x] [] (f7 false) []:=by
 (refine ac Tryz.func207 ?_;(conv=>whnf);repeat (refine zy ?_;conv=>whnf))
 repeat' (first|refine zx ?_|refine zd ?_ ?_<;>intro h<;>try omega|fail)<;>conv=>whnf
 all_goals first
  |omega
  |exact c9 rfl
def T2 (x y:Int):Int:=if x<y then -1 else if x > y then 1 else 0
theorem a3E (x y:Int):b7 Tryz.prog 129 [a8 .i64 x,a8 .i64 y] [] (a8 .i64 (T2 x y)) []:=by
 (refine ac Tryz.func129 ?_;(conv=>whnf);repeat (refine zy ?_;conv=>whnf))
 repeat' (first|refine zx ?_|refine qp (b6V _) ?_|refine zd ?_ ?_<;>intro h<;>try omega|fail)<;>conv=>whnf
 all_goals first
  |(exfalso;simp_all;done)
  |(refine v8 ?_;unfold T2;split<;>first|omega|(split<;>omega))
theorem a3k (x y:Int):b7 Tryz.prog 202 [.c (.t (.sl 1 .full ([x,y].map e8)))] [] (a8 .i64 (if x=0 then y else x)) []:=by
 (refine ac Tryz.func202 ?_;(conv=>whnf);repeat (refine zy ?_;conv=>whnf))
 repeat' (first|refine zx ?_|refine zd ?_ ?_<;>intro h<;>try omega|fail)<;>conv=>whnf
 refine f8 c7 (fun k=>([J,J,J,a8 .i64 0,J,J,S.c (C.t (T.sl 1 .full ([x,y].map e8))),a8 .i64 2,a8 .i64 k]++Jn 9,[])) 2 (fun k=>∀v ∈ [x,y].take k,v=0) [] (by simp)
  ⟨rfl,rfl,trivial,⟨rfl,i5 rfl,c6 rfl,c6 rfl,trivial⟩⟩ ?_
 intro k hk hI
 conv=>whnf
 repeat' (first|refine zx ?_|refine zd ?_ ?_<;>intro h<;>try omega|fail)<;>conv=>whnf
 ·have hlt:k<2:=by omega
  obtain ⟨v,hv⟩:∃v,[x,y][k]? =some v:=⟨_,lbf (by simpa using hlt)⟩
  refine d7 hv ?_
  conv=>whnf
  repeat' (first|refine zx ?_|refine zd ?_ ?_<;>intro h<;>try omega|fail)<;>conv=>whnf
  ·refine v8 ?_
   match k,hlt with
   |0,_=>simp at hv;subst hv;rw [if_neg (by assumption)]
   |1,_=>simp at hv;subst hv;rw [if_pos (hI x (by simp))]
  ·refine ⟨hlt,?_,[],rfl,rfl,trivial,⟨rfl,rfl,rfl,rfl,trivial⟩⟩
   intro u hu
   rw [lbG,hv] at hu
   rcases lbz.1 hu with hu|hu
   ·exact hI u hu
   ·simp at hu;subst hu;omega
 ·have h1:=hI x (by rw [lbn (by simp;omega)];simp)
  have h2:=hI y (by rw [lbn (by simp;omega)];simp)
  refine v8 ?_
  rw [if_pos h1,h2]
def sgn (s:Int) (l:List Int):Bg:=if (N9 l).length=0 then ⟨0,[]⟩ else ⟨s,N9 l⟩
theorem aO3 (s:Int) (l:List Int) (hl:l.length<=1000000):b7 Tryz.prog 130 [a8 .i64 s,g8 l] [] (bgS (sgn s l)) []:=by
 (refine ac Tryz.func130 ?_;(conv=>whnf);repeat (refine zy ?_;conv=>whnf))
 repeat' (first|refine zx ?_|refine qp (a3s l hl) ?_|refine zd ?_ ?_<;>intro h<;>try omega|fail)<;>conv=>whnf
 ·have h0:(N9 l).length=0:=by simp at *;assumption
  unfold sgn
  rw [if_pos h0]
  exact j3 ⟨rfl,rfl,trivial⟩
 ·have h0:¬(N9 l).length=0:=by simp at *;assumption
  unfold sgn
  rw [if_neg h0]
  exact j3 ⟨rfl,rfl,trivial⟩
theorem I9 (r:Bool) (b:Bg):b7 Tryz.prog 201 [f7 r,bgS b] [] (.tup [bgS (if r then b else ⟨0,[]⟩),a8 .i64 (if r then 0 else 1)]) []:=by
 cases r<;>
 ·(refine ac Tryz.func201 ?_;(conv=>whnf);repeat (refine zy ?_;conv=>whnf))
  repeat' (first|refine zx ?_|refine zd ?_ ?_<;>intro h<;>try omega|fail)<;>conv=>whnf
  exact j3 ⟨⟨rfl,rfl,trivial⟩,rfl,trivial⟩
open St1 St2 St3 St4 St5 St6 St7 St8 StA StB
set_option maxRecDepth 100000
theorem a3i {x y:Int} (h:x<y):T2 x y=-1:=by unfold T2;rw [if_pos h]
theorem a9D {x y:Int} (h:y<x):T2 x y=1:=by unfold T2;rw [if_neg (by omega),if_pos h]
theorem b7n {x y:Int} (h:x=y):T2 x y=0:=by unfold T2;rw [if_neg (by omega),if_neg (by omega)]
theorem b3B {s:Int} {l:List Int} (h:Okd l) (hs:s=1∨s=-1∨val l=0):sgn s l=bz (s*val l):=by
 have hv:=s8 h
 unfold sgn bz
 rw [T4 h]
 by_cases h0:val l=0
 ·rw [h0,Int.mul_zero];rfl
 ·have h1:(dg (val l).toNat).length≠0:=by rw [Ne,List.length_eq_zero_iff,S3];omega
  rw [if_neg h1]
  rcases hs with rfl|rfl|h2
  ·rw [Int.sign_eq_one_of_pos (by omega)]
   congr 2;omega
  ·rw [Int.sign_eq_neg_one_of_neg (by omega)]
   congr 2;omega
  ·exact absurd h2 h0
theorem a2N (a b:List Int) (ha:Can a) (hb:Can b) (la:a.length<=1000000) (lb:b.length<=1000000):
 b7 Tryz.prog 148 [g8 a,g8 b] [] (a8 .i64 (T2 (val a) (val b))) []:=by
 have l1:(a.map e8).length=a.length:=by simp
 have l2:(b.map e8).length=b.length:=by simp
 have key:∀{x y:List Int},Can x->Can y->x.length<y.length->val x<val y:=fun {x y} hx hy h=>by
  rw [aZ0 hx,aZ0 hy] at h
  have:=au9 h
  have:=s8 hx.1
  omega
 by_cases hl:a.length=b.length
 ·(refine ac Tryz.func148 ?_;(conv=>whnf);repeat (refine zy ?_;conv=>whnf))
  repeat' (first|refine zx ?_|refine zd ?_ ?_<;>intro h<;>try omega|fail)<;>conv=>whnf
  refine u9 c7 (σ:=Nat) (fun k=>([g8 a,g8 b,J,J,J,a8 .i64 ((k:Int) - 1)]++Jn 35,[])) (fun k=>k<=a.length∧a.drop k=b.drop k) (fun k=>k) a.length []
   ⟨lbQ _,by rw [lbo (lbQ _),lbo (by omega)]⟩ ⟨rfl,rfl,trivial,⟨i5 rfl,i5 rfl,c6 (by simp),trivial⟩⟩ ?_
  rintro k ⟨hk,hd⟩
  have hk:k<=a.length:=hk
  have hd:a.drop k=b.drop k:=hd
  conv=>whnf
  repeat' (first|refine zx ?_|refine qp (a3E _ _) ?_|refine F3 (by omega) (a2Q (by omega) hk) ?_|refine F3 (by omega) (a2Q (by omega) (hl ▸ hk)) ?_|refine zd ?_ ?_<;>intro h<;>try omega|fail)<;>conv=>whnf
  all_goals first
   |(have hp:0<k:=by omega
     have e:k - 1+1=k:=by omega
     have gx:=A9 (l:=a) (i:=k - 1) (by omega)
     have gy:=A9 (l:=b) (i:=k - 1) (by omega)
     refine v8 ?_
     rcases Int.lt_trichotomy (dat a (k - 1)) (dat b (k - 1)) with h|h|h
     ·rw [a3i h,a3i (a8P ha.1 hb.1 hl gx gy (by rw [e];exact hd) h)]
     ·exfalso;simp_all;done
     ·rw [a9D h,a9D (a8P hb.1 ha.1 hl.symm gy gx (by rw [e];exact hd.symm) h)])
   |(have hp:0<k:=by omega
     have hq:dat a (k - 1)=dat b (k - 1):=by omega
     refine ⟨[],k - 1,⟨rfl,rfl,trivial,⟨rfl,rfl,c6 (by omega),trivial⟩⟩,⟨by omega,?_⟩,by show k - 1<k;omega⟩
     rw [List.drop_eq_getElem_cons (by omega:k - 1<a.length),List.drop_eq_getElem_cons (by omega:k - 1<b.length),show k - 1+1=k by omega,hd]
     congr 1
     have gx:=A9 (l:=a) (i:=k - 1) (by omega)
     have gy:=A9 (l:=b) (i:=k - 1) (by omega)
     rw [lbf (by omega)] at gx gy
     injection gx with gx
     injection gy with gy
     rw [gx,gy,hq])
   |(have:k=0:=by omega
     subst this
     simp only [List.drop_zero] at hd
     refine v8 ?_
     rw [hd,b7n rfl])
 ·(refine ac Tryz.func148 ?_;(conv=>whnf);repeat (refine zy ?_;conv=>whnf))
  repeat' (first|refine zx ?_|refine qp (a3E _ _) ?_|refine zd ?_ ?_<;>intro h<;>try omega|fail)<;>conv=>whnf
  all_goals first
   |omega
   |(refine v8 ?_
     rcases Nat.lt_or_gt_of_ne hl with h|h
     ·rw [a3i (by omega),a3i (key ha hb h)]
     ·rw [a9D (by omega),a9D (key hb ha h)])
def b2c (a b:Bg):Int:=if P6 a && P6 b then T2 (bv a) (bv b) else 0
theorem b00 (x:Int):Can (bz x).dl:=a1R _
theorem aB3 (x:Int):val (bz x).dl=x.natAbs:=z7 _
theorem O4 (x:Int):x.sign=0∧x=0∨x.sign=1∧0<x∨x.sign=-1∧x<0:=by
 rcases Int.lt_trichotomy x 0 with h|h|h
 ·exact .inr (.inr ⟨Int.sign_eq_neg_one_of_neg h,h⟩)
 ·subst h;exact .inl ⟨rfl,rfl⟩
 ·exact .inr (.inl ⟨Int.sign_eq_one_of_pos h,h⟩)
theorem b35 {x y:Int} (h:x.sign≠y.sign):T2 x.sign y.sign=T2 x y:=by
 rcases O4 x with ⟨e,h1⟩|⟨e,h1⟩|⟨e,h1⟩<;>rcases O4 y with ⟨f,h2⟩|⟨f,h2⟩|⟨f,h2⟩<;>rw [e,f] at h ⊢<;>unfold T2<;>(repeat' split)<;>omega
theorem b4U {x y:Int} (h:x.sign=y.sign):x.sign*T2 x.natAbs y.natAbs=T2 x y:=by
 rcases O4 x with ⟨e,h1⟩|⟨e,h1⟩|⟨e,h1⟩<;>rcases O4 y with ⟨f,h2⟩|⟨f,h2⟩|⟨f,h2⟩<;>rw [e,f] at h<;>try omega
 all_goals (rw [e];unfold T2;(repeat' split)<;>omega)
theorem b4V (x y:Int):-1<=T2 x y∧T2 x y<=1:=by unfold T2;split<;>(try split)<;>omega
theorem aM3 {b:Bg} (h:P6 b=true):∃z,b=bz z:=⟨_,b5M h⟩
theorem aZ6 (a b:Bg) (la:a.dl.length<=1000000) (lb:b.dl.length<=1000000):
 b7 Tryz.prog 80 [bgS a,bgS b] [] (a8 .i64 (b2c a b)) []:=by
 have r1:=a3b a la
 have r2:=a3b b lb
 cases ha:P6 a with
 |false=>
  rw [ha] at r1
  (refine ac Tryz.func80 ?_;(conv=>whnf);repeat (refine zy ?_;conv=>whnf))
  repeat' (first|refine zx ?_|refine qp r1 ?_|refine qp r2 ?_|refine zd ?_ ?_<;>intro h<;>try omega|fail)<;>conv=>whnf
  all_goals (first|(exfalso;simp_all;done)|(refine v8 ?_;unfold b2c;rw [ha];rfl))
 |true=>
  rw [ha] at r1
  cases hb:P6 b with
  |false=>
   rw [hb] at r2
   (refine ac Tryz.func80 ?_;(conv=>whnf);repeat (refine zy ?_;conv=>whnf))
   repeat' (first|refine zx ?_|refine qp r1 ?_|refine qp r2 ?_|refine zd ?_ ?_<;>intro h<;>try omega|fail)<;>conv=>whnf
   all_goals (first|(exfalso;simp_all;done)|(refine v8 ?_;unfold b2c;rw [ha,hb];rfl))
  |true=>
   rw [hb] at r2
   obtain ⟨x,rfl⟩:=aM3 ha
   obtain ⟨y,rfl⟩:=aM3 hb
   have c:=a2N (bz x).dl (bz y).dl (b00 x) (b00 y) la lb
   rw [aB3,aB3] at c
   have e:b2c (bz x) (bz y)=T2 x y:=by unfold b2c;rw [ha,hb,a6U,a6U];rfl
   rw [e]
   have hr:=b4V x y
   by_cases hs:x.sign=y.sign
   ·have hs':(bz x).sg=(bz y).sg:=hs
    have e2:=b4U hs
    (refine ac Tryz.func80 ?_;(conv=>whnf);repeat (refine zy ?_;conv=>whnf))
    repeat' (first|refine zx ?_|refine qp r1 ?_|refine qp r2 ?_|refine qp c ?_|refine ⟨_,K6 e2 (by omega) (by omega),?_⟩|refine zd ?_ ?_<;>intro h<;>try omega|fail)<;>conv=>whnf
    all_goals first
     |omega
     |(exfalso;simp_all;done)
     |exact v8 rfl
   ·have hs':(bz x).sg≠(bz y).sg:=hs
    (refine ac Tryz.func80 ?_;(conv=>whnf);repeat (refine zy ?_;conv=>whnf))
    repeat' (first|refine zx ?_|refine qp r1 ?_|refine qp r2 ?_|refine qp (a3E _ _) ?_|refine zd ?_ ?_<;>intro h<;>try omega|fail)<;>conv=>whnf
    all_goals first
     |omega
     |(exfalso;simp_all;done)
     |exact v8 (b35 hs)
def b1J (a:Bg):Bg:=if P6 a then bz (-bv a) else ⟨0,[]⟩
theorem b9o (a:Bg) (la:a.dl.length<=1000000):b7 Tryz.prog 135 [bgS a] [] (bgS (b1J a)) []:=by
 have r1:=a3b a la
 cases ha:P6 a with
 |false=>
  rw [ha] at r1
  have e:b1J a=⟨0,[]⟩:=by unfold b1J;rw [ha];rfl
  rw [e]
  (refine ac Tryz.func135 ?_;(conv=>whnf);repeat (refine zy ?_;conv=>whnf))
  repeat' (first|refine zx ?_|refine qp r1 ?_|refine zd ?_ ?_<;>intro h<;>try omega|fail)<;>conv=>whnf
  all_goals (first|(exfalso;simp_all;done)|exact j3 ⟨rfl,rfl,trivial⟩)
 |true=>
  rw [ha] at r1
  obtain ⟨x,rfl⟩:=aM3 ha
  have e:b1J (bz x)=sgn (0 - (bz x).sg) (bz x).dl:=by
   rw [Int.zero_sub]
   unfold b1J
   rw [ha,b3B (b00 x).1 (by rcases O4 x with ⟨h,h1⟩|⟨h,h1⟩|⟨h,h1⟩<;>rw [aE8,h]<;>simp [h1,aB3]),a6U,aB3,aE8]
   show bz (-x)=_
   congr 1
   rw [Int.neg_mul,Int.sign_mul_natAbs]
  rw [e]
  have hs:-1<=(bz x).sg∧(bz x).sg<=1:=by rcases O4 x with ⟨h,h1⟩|⟨h,h1⟩|⟨h,h1⟩<;>rw [aE8,h]<;>decide
  (refine ac Tryz.func135 ?_;(conv=>whnf);repeat (refine zy ?_;conv=>whnf))
  repeat' (first|refine zx ?_|refine qp r1 ?_|refine qp (a58 _ la) ?_|refine qp (aO3 _ _ la) ?_|refine zd ?_ ?_<;>intro h<;>try omega|fail)<;>conv=>whnf
  all_goals (first|(exfalso;simp_all;done)|exact j3 ⟨rfl,rfl,trivial⟩)
end Go.Proofs.YtaejgdbahjjncaaGreat
