/- Part 2. -/
import Derived.Orders
import Derived.Test.YtaejgdbahjjncaaGreatUj1
namespace Go.Proofs.YtaejgdbahjjncaaGreat
set_option linter.unusedVariables false
set_option linter.unusedSimpArgs false
section
open Go.RowKit
def a2H (w:World) (ι:Io) (M:Ms) (cs:List C) (vs:Array Value):Prop:=vs.size=cs.length∧∀(j:Nat) (c:C),cs[j]? =some c->∃u,vs[j]? =some u∧RC w ι M c u
theorem RS.cells {w:World} {ι:Io} {M:Ms} {s:S} {v:Value} (h:RS w ι M s v) {cs:List C} (hc:(∃ c,s=.c c∧cs=[c])∨s=.agg cs):a2H w ι M cs v.cells:=by
 rcases hc with ⟨c,rfl,rfl⟩|rfl
 ·have hr:=h.inv_c
  have h1:=hr.one
  have:v.cells=#[v]:=by cases v<;>first|rfl|(simp [Value.oneCell'] at h1)
  rw [this]
  refine ⟨rfl,fun j c' hj=>?_⟩
  cases j with
  |zero=>simp at hj;subst hj;exact ⟨v,rfl,hr⟩
  |succ j=>simp at hj
 ·cases h with
  |agg vs hl hr=>
   refine ⟨by simpa [Value.cells] using hl,fun j c hj=>?_⟩
   have hlt:j<vs.length:=by rw [hl];exact (lbe.1 hj).1
   have:=hr j c hj
   rw [lbl,lbf hlt] at this
   exact ⟨vs[j],by simp [Value.cells,hlt],this⟩
theorem a2H.agg {w:World} {ι:Io} {M:Ms} {cs:List C} {vs:Array Value} (h:a2H w ι M cs vs):RS w ι M (.agg cs) (.agg vs):=by
 have:RS w ι M (.agg cs) (.agg vs.toList.toArray):=.agg vs.toList (by simpa using h.1) fun j c hj=>by
  obtain ⟨u,h1,h2⟩:=h.2 j c hj
  rw [lbl]
  simpa [h1] using h2
 simpa using this
theorem a2H.const {w:World} {ι:Io} {M:Ms} {vs:Array Value} (h:∀v ∈ vs.toList,v.oneCell'=true):a2H w ι M (vs.toList.map E3) vs:=
 ⟨by simp,fun j c hj=>by
   rw [lba] at hj
   cases hv:vs.toList[j]? with
   |none=>rw [hv] at hj;cases hj
   |some v=>
    rw [hv] at hj
    injection hj with hj
    subst hj
    exact ⟨v,by simpa using hv,RC.const (h v (lbm hv))⟩⟩
theorem a2H.one {w:World} {ι:Io} {M:Ms} {cs:List C} {vs:Array Value} (h:a2H w ι M cs vs):∀v ∈ vs.toList,v.oneCell'=true:=fun v hv=>by
 obtain ⟨j,hj⟩:=List.mem_iff_getElem?.1 hv
 have hlt:j<cs.length:=by
  have:=(lbe.1 hj).1
  rw [← h.1];simpa using this
 obtain ⟨u,h1,h2⟩:=h.2 j _ (lbf hlt)
 have:u=v:=by
  have hj':vs[j]? =some v:=by simpa using hj
  rw [hj'] at h1;injection h1 with h1;exact h1.symm
 exact this ▸ h2.one
theorem ac7 (off:Nat) (vs:Array Value) (cells:Array Value) (h:off+vs.size<=cells.size):
 ∃r,vs.zipIdx.foldl (fun cs (x:Value × Nat)=>cs.setIfInBounds (off+x.2) x.1) cells=r∧r.size=cells.size∧
  ∀m,r[m]? =if off<=m∧m<off+vs.size then vs[m - off]? else cells[m]?:=by
 refine ⟨_,rfl,?_⟩
 rw [← Array.foldl_toList,Array.toList_zipIdx]
 have key:∀(l:List Value) (j:Nat) (c:Array Value),off+j+l.length<=c.size->
  ((l.zipIdx j).foldl (fun cs (x:Value × Nat)=>cs.setIfInBounds (off+x.2) x.1) c).size=c.size∧
  ∀m,((l.zipIdx j).foldl (fun cs (x:Value × Nat)=>cs.setIfInBounds (off+x.2) x.1) c)[m]? =if off+j<=m∧m<off+j+l.length then l[m - (off+j)]? else c[m]?:=by
  intro l
  induction l with
  |nil=>intro j c hc;simp
        intro m h1 h2;omega
  |cons v l ih=>
   intro j c hc
   simp only [lbu] at hc
   obtain ⟨h1,h2⟩:=ih (j+1) (c.setIfInBounds (off+j) v) (by rw [Array.size_setIfInBounds];omega)
   simp only [List.zipIdx_cons,List.foldl_cons]
   refine ⟨by rw [h1];simp,fun m=>?_⟩
   rw [h2]
   by_cases hm:m=off+j
   ·subst hm
    rw [if_neg (by omega),if_pos (by simp)]
    simp [show off+j<c.size by omega]
   ·by_cases hm2:off+(j+1)<=m∧m<off+(j+1)+l.length
    ·rw [if_pos hm2,if_pos (by simp only [lbu];omega),show m - (off+j)=(m - (off+(j+1)))+1 by omega]
     simp
    ·rw [if_neg hm2,if_neg (by simp only [lbu];omega),Array.getElem?_setIfInBounds_ne (by omega)]
 have:=key vs.toList 0 cells (by simpa using h)
 simpa using this
theorem a2H.over {w:World} {ι:Io} {M:Ms} {cells cs:List C} {arr vs:Array Value} (h:a2H w ι M cells arr) (h':a2H w ι M cs vs) {off:Nat} (hl:off+cs.length<=cells.length):
 a2H w ι M (cells.take off++cs++cells.drop (off+cs.length)) (vs.zipIdx.foldl (fun cs (x:Value × Nat)=>cs.setIfInBounds (off+x.2) x.1) arr):=by
 obtain ⟨r,hr,hs,hm⟩:=ac7 off vs arr (by rw [h.1,h'.1];exact hl)
 rw [hr]
 refine ⟨by rw [hs,h.1];simp;omega,fun j c hj=>?_⟩
 rw [hm,h'.1]
 by_cases h1:j<off
 ·rw [if_neg (by omega)]
  rw [lbD,lbb (by simp;omega),List.getElem?_take_of_lt h1] at hj
  exact h.2 j c hj
 ·by_cases h2:j<off+cs.length
  ·rw [if_pos (by omega)]
   rw [lbb (by simp;omega),lbc (by simp;omega)] at hj
   have:(cells.take off).length=off:=by simp;omega
   rw [this] at hj
   exact h'.2 _ c hj
  ·rw [if_neg (by omega)]
   rw [lbc (by simp;omega),lbj] at hj
   have:(cells.take off++cs).length=off+cs.length:=by simp;omega
   rw [this,show off+cs.length+(j - (off+cs.length))=j by omega] at hj
   exact h.2 j c hj
section
variable {P:Program} {τ:Tab} {o:Oper} {ev:Operand->S} {H:Hp}
theorem ar6 {w:World} {ι:Io} {M:Ms} {a:Act} (he:S4 w ι M ev a) {fs:List (Nat × Nat × Bool)}:∀(parts:List (Nat × Operand)) (cells:List C) (arr:Array Value) {k:List C->Prop},
 a2H w ι M cells arr->aL9 fs cells (parts.map fun p=>(p.1,ev p.2)) k->
 ∃cells',k cells'∧∃r,Instr.fill ((fs.map (fun x=>(x.1,x.2.1)))[·]?) arr (parts.map fun p=>(p.1,a.eval p.2))=some r∧a2H w ι M cells' r
 |[],cells,arr,k,hr,h=>⟨cells,h,arr,rfl,hr⟩
 |(i,x)::rest,cells,arr,k,hr,h=>by
  obtain ⟨cs,h,hcs⟩:=a1K h
  unfold a9E at h
  split at h
  ·rename_i off size ag hf
   obtain ⟨hb,h⟩:=C5 h
   have hb:cs.length=size∧0<size:=by simpa [Nat.blt_eq] using hb
   obtain ⟨hlen,h⟩:=a7J h (by intro e;subst e;simp at hb;omega)
   have hv:=(he x).cells hcs
   obtain ⟨cells',hk,r,hr1,hr2⟩:=ar6 he rest _ _ (hr.over hv hlen) h
   refine ⟨cells',hk,r,?_,hr2⟩
   simp only [List.map_cons,Instr.fill]
   rw [lba,hf]
   simp only [Option.map_some]
   rw [if_neg (by have q1:=hv.1;have q2:=hr.1;have q3:=hlen;simp at q3 ⊢;omega)]
   exact hr1
  ·exact h.elim
theorem ao9 {w:World} {ι:Io} {M:Ms} {a:Act} (he:S4 w ι M ev a) {size:Nat}:∀(parts:List (Nat × Operand)) (cells:List C) (arr:Array Value) {k:List C->Prop},
 a2H w ι M cells arr->aM5 size cells (parts.map fun p=>(p.1,ev p.2)) k->
 ∃cells',k cells'∧∃r,Instr.fill (fun i=>some (i*size,size)) arr (parts.map fun p=>(p.1,a.eval p.2))=some r∧a2H w ι M cells' r
 |[],cells,arr,k,hr,h=>⟨cells,h,arr,rfl,hr⟩
 |(i,x)::rest,cells,arr,k,hr,h=>by
  obtain ⟨cs,h,hcs⟩:=a1K h
  obtain ⟨hb,h⟩:=C5 h
  have hb:cs.length=size∧0<size:=by simpa [Nat.blt_eq] using hb
  obtain ⟨hlen,h⟩:=a7J h (by intro e;subst e;simp at hb;omega)
  have hv:=(he x).cells hcs
  obtain ⟨cells',hk,r,hr1,hr2⟩:=ao9 he rest _ _ (hr.over hv hlen) h
  refine ⟨cells',hk,r,?_,hr2⟩
  simp only [List.map_cons,Instr.fill]
  rw [if_neg (by have q1:=hv.1;have q2:=hr.1;have q3:=hlen;simp at q3 ⊢;omega)]
  exact hr1
theorem a64 {s:S} {k:List C->Prop} (h:a2B s k):∃cs,k cs∧a2B s (·=cs):=by
 cases s<;>first|exact ⟨_,h,rfl⟩|exact h.elim
theorem a3Z {s:S} {k k':List C->Prop} (h:a2B s k) (hk:∀cs,k cs->k' cs):a2B s k':=by
 cases s<;>first|exact hk _ h|exact h.elim
theorem an1 {fs:List (Nat × Nat × Bool)}:∀(parts:List (Nat × S)) (cells:List C) {k:List C->Prop},aL9 fs cells parts k->∃c,k c∧aL9 fs cells parts (·=c)
 |[],cells,k,h=>⟨cells,h,rfl⟩
 |(i,s)::rest,cells,k,h=>by
  obtain ⟨cs,h,hcs⟩:=a64 h
  unfold a9E at h
  split at h
  ·rename_i off size ag hf
   obtain ⟨hb,h⟩:=C5 h
   have hb':cs.length=size∧0<size:=by simpa [Nat.blt_eq] using hb
   have hne:cs≠[]:=by intro e;subst e;simp at hb';omega
   obtain ⟨hlen,h⟩:=a7J h hne
   obtain ⟨c,h1,h2⟩:=an1 rest _ h
   refine ⟨c,h1,a3Z hcs ?_⟩
   rintro _ rfl
   unfold a9E
   rw [hf]
   simp only [hb,cond_true]
   exact aN9 hlen hne h2
  ·exact h.elim
theorem ao0 {size:Nat}:∀(parts:List (Nat × S)) (cells:List C) {k:List C->Prop},aM5 size cells parts k->∃c,k c∧aM5 size cells parts (·=c)
 |[],cells,k,h=>⟨cells,h,rfl⟩
 |(i,s)::rest,cells,k,h=>by
  obtain ⟨cs,h,hcs⟩:=a64 h
  obtain ⟨hb,h⟩:=C5 h
  have hb':cs.length=size∧0<size:=by simpa [Nat.blt_eq] using hb
  have hne:cs≠[]:=by intro e;subst e;simp at hb';omega
  obtain ⟨hlen,h⟩:=a7J h hne
  obtain ⟨c,h1,h2⟩:=ao0 rest _ h
  refine ⟨c,h1,a3Z hcs ?_⟩
  rintro _ rfl
  simp only [hb,cond_true]
  exact aN9 hlen hne h2
theorem a8B (a:Act) (parts:Array (Nat × Operand)):(parts.map fun (i,x)=>(i,a.eval x)).toList=parts.toList.map fun p=>(p.1,a.eval p.2):=by simp
theorem aB1 (hτ:C0 P τ) {t:TypeId} {parts:Array (Nat × Operand)} (ho:o.op=.build t parts) {K:S->Prop} (h:ax2 τ ev t parts.toList K):∃s,K s∧QOp P o ev H s []:=by
 unfold ax2 at h
 split at h
 ·rename_i fs _ _ _ z ht
  rw [a0I] at h
  obtain ⟨u,hu,_,fields,rfl,_,_,hm⟩:=(hτ.td _ _ ht).und
  obtain ⟨i,hi,_,_,z',hz,hzs,hone,_⟩:=(hτ.td _ _ ht).info
  simp only at hzs hone
  subst hzs
  obtain ⟨cs,hk,hd⟩:=an1 _ _ h
  refine ⟨_,hk,l9 fun a w ι M he hh=>?_⟩
  obtain ⟨cs',rfl,r,h1,h2⟩:=ar6 he parts.toList _ z'.cells (a2H.const hone) hd
  refine ⟨.agg r,?_,h2.agg⟩
  have hb:P.built t (parts.map fun (i,x)=>(i,a.eval x)).toList=some r:=by
   rw [a8B]
   simp only [Program.built,hi,hu,hz,hm]
   simpa using h1
  simp only [execOp,ho,Sem.run_bind,run_build w t _ r hb,Result.andThen_ok]
  rfl
 ·rename_i n e _ _ _ z ht
  obtain ⟨d,hd,h,_⟩:=S2 hτ h
  rw [a0I] at h
  have hu:=aC1 hτ ht
  obtain ⟨i,hi,_,_,z',hz,hzs,hone,_⟩:=(hτ.td _ _ ht).info
  obtain ⟨ie,hie,hse,_⟩:=(hτ.td _ _ hd).info
  simp only at hzs hone
  subst hzs
  obtain ⟨cs,hk,hd'⟩:=ao0 _ _ h
  refine ⟨_,hk,l9 fun a w ι M he hh=>?_⟩
  obtain ⟨cs',rfl,r,h1,h2⟩:=ao9 he parts.toList _ z'.cells (a2H.const hone) hd'
  refine ⟨.agg r,?_,h2.agg⟩
  have hb:P.built t (parts.map fun (i,x)=>(i,a.eval x)).toList=some r:=by
   rw [a8B]
   simp only [Program.built,hi,hu,hz,hie,hse]
   exact h1
  simp only [execOp,ho,Sem.run_bind,run_build w t _ r hb,Result.andThen_ok]
  rfl
 ·exact h.elim
theorem I0.new {w w':World} {ι:Io} {M:Ms} {n:Nat} {s:S} {v:Value} {e:TypeId} {size cap:Nat} {rows:List (List C)} {box ap:Bool} {cur:Array Value}
 (hos:w'.os=w.os) (htape:w'.tape=w.tape) (hout:w'.output=w.output) (hheap:w'.heap=w.heap.push (.cells cur e (0,0)))
 (hn:ι n=none) (h0:0<size) (hl:rows.length<=cap) (hm:cap<=maxLen) (hrow:∀r ∈ rows,r.length=size) (hsz:cur.size=cap*size)
 (hc:∀i j c,at2 rows i j=some c->∃u,cur[i*size+j]? =some u∧RC w ι M c u)
 (hs:∀(ι':Io) (M':Ms),ι' n=some (.blk w.heap.size cap size)->RS w' ι' M' s v):I0 w ι M n s [⟨.live,e,size,rows,box,ap⟩] v w':=by
 have hsize:w'.heap.size=w.heap.size+1:=by rw [hheap];simp
 have hold:∀b,b<w.heap.size->w'.heap[b]? =w.heap[b]?:=fun b hb=>by rw [hheap,Array.getElem?_push,if_neg (by omega)]
 have hnew:w'.heap[w.heap.size]? =some (.cells cur e (0,0)):=by rw [hheap];simp
 refine ⟨fun _=>.blk w.heap.size cap size,hs _ _ ?_,⟨hos,htape,hout,by omega,hold⟩,?_,?_,?_⟩
 ·unfold B7;rw [if_pos (by simp)]
 ·intro k blk hk
  cases k with
  |succ k=>simp at hk
  |zero=>
   simp at hk
   subst hk
   refine ⟨rfl,rfl,h0,hl,hm,hrow,cur,hnew,hsz,fun i j c hij=>?_⟩
   obtain ⟨u,h1,h2⟩:=hc i j c hij
   refine ⟨u,h1,h2.keep (fun b hb _=>hold b hb) ?_ (fun id l hid=>?_)⟩
   ·rintro b (hb|⟨k,hk,c',s',he⟩)
    ·exact .inl hb
    ·injection he with he;exact .inr (by omega)
   ·unfold B7
    split
    ·rename_i hc'
     have:id=n:=by simp at hc';omega
     subst this
     rw [hn] at hid
     cases hid
    ·exact hid
 ·intro k b c s' hk he
  injection he with he
  omega
 ·intro k k' b c s' c' s'' hk hk' _ _
  simp at hk hk'
  omega
theorem ad5 {cs:List C} {i j:Nat} {c:C} (h:at2 [cs] i j=some c):i=0∧cs[j]? =some c:=by
 obtain ⟨row,h1,h2⟩:=C1 h
 cases i with
 |zero=>simp at h1;subst h1;exact ⟨rfl,h2⟩
 |succ i=>simp at h1
theorem aV5 {t:TypeId} {x:Operand} (ho:o.op=.box t x) {K:S->List Blk->Prop} (h:b7a ev H.length t x K):∃s B,K s B∧QOp P o ev H s B:=by
 unfold b7a at h
 obtain ⟨cs,h,hcs⟩:=a1K h
 split at h
 ·exact h.elim
 rename_i c r
 have hown:K (.c (.ptr H.length 0 0)) [J8 t (c::r).length [c::r] true]->∃s B,K s B∧QOp P o ev H s B:=fun h=>by
  refine ⟨_,_,h,fun a w ι M he hh hm hf=>?_⟩
  obtain ⟨ha1,ha2⟩:=(he x).cells hcs
  refine p5 (w':=w.alloc (.cells (a.eval x).cells t)) (v:=.pointer (some ⟨w.heap.size,0,none⟩)) (by simp [execOp,ho,Instr.box,newVar,newRow]) ?_
  refine I0.new (cap:=1) (cur:=(a.eval x).cells) rfl rfl rfl rfl (hf 0 (by simp)) (by simp) (by simp) (by unfold maxLen;omega) (by simp) (by rw [ha1];simp) ?_ ?_
  ·intro i j c' hij
   obtain ⟨rfl,hj⟩:=ad5 hij
   obtain ⟨u,h1,h2⟩:=ha2 j c' hj
   exact ⟨u,by simpa using h1,h2⟩
  ·intro ι' M' hi
   have:=RC.ptr (w:=w.alloc (.cells (a.eval x).cells t)) (M:=M') (r:=0) (o:=0) hi
   simp only [Nat.zero_mul,Nat.zero_add] at this
   exact .c this
 split at h
 ·rename_i ts hts
  have hts:=a84 hts
  obtain ⟨h|h⟩:=h
  rotate_left
  ·exact hown h
  refine ⟨_,_,h,fun a w ι M he hh hm hf=>?_⟩
  obtain ⟨ha1,ha2⟩:=(he x).cells hcs
  refine p5 (w':=w.alloc (.cells (a.eval x).cells t)) (v:=.pointer (some ⟨w.heap.size,0,none⟩)) (by simp [execOp,ho,Instr.box,newVar,newRow]) ?_
  have hext:Ext w (w.alloc (.cells (a.eval x).cells t)):=⟨rfl,rfl,rfl,by simp,fun b hb=>heap_alloc_old w _ hb⟩
  refine I0.of_none ?_ hext
  have hat:∀j c',ts[j]? =some c'->∃u,(a.eval x).cells[j]? =some u∧RT w M c' u:=fun j c' hj=>by
   obtain ⟨u,h1,h2⟩:=ha2 j (.t c') (by rw [hts,lba,hj];rfl)
   refine ⟨u,by simpa using h1,?_⟩
   cases h2 with
   |t h2=>exact h2
  refine .c (.t (.ptr (b:=w.heap.size) (off:=0) (fun j=>(a.eval x).cells.getD j undef) ?_ ?_))
  ·intro j c' hj
   obtain ⟨u,s1,s2⟩:=hat j c' hj
   refine ⟨?_,fun hM=>absurd (hm _ hM) (by omega)⟩
   have hn:=heap_alloc_new w (.cells (a.eval x).cells t)
   simp only [World.cell?]
   rw [hn]
   simp [s1]
  ·intro j c' hj
   obtain ⟨u,s1,s2⟩:=hat j c' hj
   have:(a.eval x).cells.getD j undef=u:=by simp [s1]
   show RT _ M c' ((a.eval x).cells.getD j undef)
   rw [this]
   exact s2.keep (fun b hb _=>hext.keep b hb) (fun b h=>.inl h)
 ·exact hown h
theorem aB8 (hτ:C0 P τ) {t:TypeId} (ho:o.op=.alloc t) {K:S->List Blk->Prop} (h:aS8 τ H.length t K):∃s B,K s B∧QOp P o ev H s B:=by
 unfold aS8 at h
 split at h
 ·rename_i d hd
  rw [a0I] at h
  obtain ⟨hb,h⟩:=W7 h
  have hb:d.zero.length≠0:=by intro e;simp [e] at hb
  refine ⟨_,_,h,fun a w ι M he hh hm hf=>?_⟩
  obtain ⟨i,hi,_,_,z,hz,hzs,hone,_⟩:=(hτ.td _ _ hd).info
  obtain ⟨ha1,ha2⟩:=a2H.const (w:=w) (ι:=ι) (M:=M) (vs:=z.cells) (by rw [hzs];exact hone)
  rw [hzs] at ha1 ha2
  refine p5 (w':=w.alloc (.cells z.cells t)) (v:=.pointer (some ⟨w.heap.size,0,none⟩)) (by simp [execOp,ho,Instr.alloc,zeroValue,typeInfo,hi,hz,newVar,newRow]) ?_
  refine I0.new (cap:=1) (cur:=z.cells) rfl rfl rfl rfl (hf 0 (by simp)) (by simp;omega) (by simp) (by unfold maxLen;omega) (by simp) (by rw [ha1];simp) ?_ ?_
  ·intro i j c' hij
   obtain ⟨rfl,hj⟩:=ad5 hij
   obtain ⟨u,h1,h2⟩:=ha2 j c' hj
   exact ⟨u,by simpa using h1,h2⟩
  ·intro ι' M' hi
   have:=RC.ptr (w:=w.alloc (.cells z.cells t)) (M:=M') (r:=0) (o:=0) hi
   simp only [Nat.zero_mul,Nat.zero_add] at this
   exact .c this
 ·exact h.elim
theorem a2K {z:Array Value} {size n i j:Nat} (hz:z.size=size) (hi:i<n) (hj:j<size):(madeCells z (n*size))[i*size+j]? =z[j]?:=by
 have hlt:i*size+j<n*size:=by
  have:i*size+size<=n*size:=by rw [← lbU];exact lbT _ hi
  omega
 unfold madeCells
 rw [Array.getElem?_map,Array.getElem?_range,if_pos hlt]
 have hmod:(i*size+j) % z.size=j:=by rw [hz,Nat.mul_comm,Nat.mul_add_mod];exact Nat.mod_eq_of_lt hj
 simp only [Option.map_some,hmod]
 rw [Array.getElem?_eq_getElem (by omega),getElem!_pos]
theorem aE5 (hτ:C0 P τ) {t:TypeId} {l c:Operand} (ho:o.op=.makeSlice t l c) {K:S->List Blk->Prop} (h:b0c τ ev H.length t l c K):∃s B,K s B∧QOp P o ev H s B:=by
 unfold b0c at h
 split at h
 ·rename_i k1 p k2 q e _ _ _ _ hl hc ht
  split at h
  ·rename_i d hd
   obtain ⟨hb,⟨h0,h1,h2⟩,h⟩:=W7 h
   rw [a0I] at h
   have hb:d.size≠0:=by intro e;simp [e] at hb
   refine ⟨_,_,h,fun a w ι M he hh hm hf=>?_⟩
   obtain ⟨i,hi,hs,hby,z,hz,hzs,hone,hzl⟩:=(hτ.td _ _ hd).info
   have hu:=K5 hτ ht
   have hq:q*(i.bytes:Int)<=q*((d.bytes:Int)+1):=lbV (by omega) (by omega)
   have hq1:q<=q*((d.bytes:Int)+1):=by
    have:q*1<=q*((d.bytes:Int)+1):=lbV (by omega) (by omega)
    omega
   have hmk:=run_make (P:=P) w t e i z hu hi hz k1 k2 p q h0 h1 (by rw [Int.mul_comm];omega) (by omega)
   have hsz:z.cells.size=i.size:=by
    rw [hs,←hzl,←hzs];simp
   refine p5 (w':=w.alloc (.cells (madeCells z.cells (q.toNat*i.size)) e)) (v:=.slice (some ⟨w.heap.size,0,none⟩) p.toNat q.toNat)
    (by simp only [execOp,ho,(he.to hl).inv_atm,(he.to hc).inv_atm,Sem.run_bind,hmk,Result.andThen_ok];rfl) ?_
   obtain ⟨ha1,ha2⟩:=a2H.const (w:=w) (ι:=ι) (M:=M) (vs:=z.cells) (by rw [hzs];exact hone)
   rw [hzs] at ha1 ha2
   refine I0.new (cap:=q.toNat) (cur:=madeCells z.cells (q.toNat*i.size)) rfl rfl rfl rfl (hf 0 (by simp)) (by omega) (by simp;omega) (by unfold maxLen;omega) ?_ (by rw [size_madeCells,hs]) ?_ ?_
   ·intro r hr
    rw [(List.mem_replicate.1 hr).2,←ha1,hsz,hs]
   ·intro i' j c' hij
    obtain ⟨row,hr1,hr2⟩:=C1 hij
    rw [lbk] at hr1
    split at hr1
    ·rename_i hlt
     injection hr1 with hr1
     subst hr1
     obtain ⟨u,q1,q2⟩:=ha2 j c' hr2
     have hj:j<i.size:=by rw [← hsz];exact (lb4.1 q1).1
     exact ⟨u,by rw [← hs,a2K hsz (by omega) hj,q1],q2⟩
    ·cases hr1
   ·intro ι' M' hi
    exact .c (.own hi (by omega) (fun _=>by rw [Nat.zero_mul]) (by omega) (by unfold maxLen;omega) (fun _=>⟨rfl,rfl,rfl⟩))
  ·exact h.elim
 ·exact h.elim
end
end
section
open Go.RowKit
structure y8 (w:World) (ι:Io) (M:Ms) (size:Nat) (rows:List (List C)) (vals:List Value):Prop where
 len:vals.length=rows.length*size
 row:∀r ∈ rows,r.length=size
 cell:∀i j c,at2 rows i j=some c->∃u,vals[i*size+j]? =some u∧RC w ι M c u
theorem y8.at {w:World} {ι:Io} {M:Ms} {size:Nat} {rows:List (List C)} {vals:List Value} (h:y8 w ι M size rows vals) {q:Nat} {u:Value} (hu:vals[q]? =some u):
 ∃i j c,q=i*size+j∧at2 rows i j=some c∧RC w ι M c u:=by
 have hq:q<rows.length*size:=by rw [← h.len];exact (lbe.1 hu).1
 have h0:0<size:=by
  rcases Nat.eq_zero_or_pos size with h|h
  ·subst h;simp at hq
  ·exact h
 have hi:q / size<rows.length:=by rw [Nat.div_lt_iff_lt_mul h0];exact hq
 have hj:q % size<size:=Nat.mod_lt _ h0
 have hr:=h.row rows[q / size] (lbE hi)
 have hc:at2 rows (q / size) (q % size)=some (rows[q / size][q % size]'(by omega)):=B1 (lbf hi) (lbf (by omega))
 have e:q=q / size*size+q % size:=by rw [Nat.mul_comm];exact (Nat.div_add_mod q size).symm
 obtain ⟨u',h1,h2⟩:=h.cell _ _ _ hc
 rw [← e,hu] at h1
 injection h1 with h1
 subst h1
 exact ⟨_,_,_,e,hc,h2⟩
theorem y8.one {w:World} {ι:Io} {M:Ms} {size:Nat} {rows:List (List C)} {vals:List Value} (h:y8 w ι M size rows vals):∀u ∈ vals,u.oneCell'=true:=fun u hu=>by
 obtain ⟨q,hq⟩:=List.mem_iff_getElem?.1 hu
 obtain ⟨_,_,_,_,_,h⟩:=h.at hq
 exact h.one
theorem y8.nil (w:World) (ι:Io) (M:Ms) (size:Nat):y8 w ι M size [] []:=⟨by simp,by simp,by simp [at2]⟩
theorem y8.append {w:World} {ι:Io} {M:Ms} {size:Nat} {r1 r2:List (List C)} {v1 v2:List Value} (h1:y8 w ι M size r1 v1) (h2:y8 w ι M size r2 v2):
 y8 w ι M size (r1++r2) (v1++v2):=by
 refine ⟨by rw [lbq,lbq,h1.len,h2.len,Nat.add_mul],?_,?_⟩
 ·intro r hr
  rcases lbz.1 hr with hr|hr
  ·exact h1.row r hr
  ·exact h2.row r hr
 ·intro i j c hc
  obtain ⟨row,hr1,hr2⟩:=C1 hc
  by_cases hi:i<r1.length
  ·rw [lbb hi] at hr1
   obtain ⟨u,q1,q2⟩:=h1.cell i j c (B1 hr1 hr2)
   exact ⟨u,by rw [lbb (lbe.1 q1).1];exact q1,q2⟩
  ·rw [lbc (by omega)] at hr1
   obtain ⟨u,q1,q2⟩:=h2.cell _ j c (B1 hr1 hr2)
   refine ⟨u,?_,q2⟩
   have e:i*size+j=r1.length*size+((i - r1.length)*size+j):=by
    rw [← Nat.add_assoc,←Nat.add_mul,show r1.length+(i - r1.length)=i by omega]
   rw [lbc (by rw [h1.len,e];omega),h1.len,show i*size+j - r1.length*size=(i - r1.length)*size+j by omega]
   exact q1
theorem aO8 {w:World} {ι:Io} {M:Ms} {size:Nat} {k:SK} {rows:List (List T)} {A:Option Addr} {n cap:Nat} (h:RT w M (.sl size k rows) (.slice A n cap)):
 n=rows.length∧∃vals,y8 w ι M size (toC rows) vals∧(rows≠[]->∃b off,A=some ⟨b,off,none⟩∧∀q u,vals[q]? =some u->w.cell? ⟨b,off+q,none⟩=some u):=by
 cases h with
 |@sl _ _ _ b off _ _ f hrow hcap hmax hk hn hA hc hr=>
  refine ⟨rfl,(List.range (rows.length*size)).map (fun q=>f (q / size) (q % size)),?_,fun hne=>⟨b,off,hA hne,fun q u hq=>?_⟩⟩
  ·refine ⟨by simp [toC],?_,?_⟩
   ·intro r hr'
    obtain ⟨r',h1,rfl⟩:=lbx.1 hr'
    rw [lbr]
    exact hrow r' h1
   ·intro i j c hij
    obtain ⟨row,h1,h2⟩:=C1 hij
    unfold toC at h1
    rw [lba] at h1
    cases hri:rows[i]? with
    |none=>rw [hri] at h1;cases h1
    |some row'=>
     rw [hri] at h1
     injection h1 with h1
     subst h1
     rw [lba] at h2
     cases hrj:row'[j]? with
     |none=>rw [hrj] at h2;cases h2
     |some c'=>
      rw [hrj] at h2
      injection h2 with h2
      subst h2
      have hi:i<rows.length:=(lbe.1 hri).1
      have hj:j<size:=by rw [← hrow row' (lbm hri)];exact (lbe.1 hrj).1
      have hlt:i*size+j<rows.length*size:=by
       have:i*size+size<=rows.length*size:=by rw [← lbU];exact lbT _ hi
       omega
      have e1:(i*size+j) / size=i:=by
       rw [Nat.mul_comm,Nat.mul_add_div (by omega),Nat.div_eq_of_lt hj,Nat.add_zero]
      have e2:(i*size+j) % size=j:=by
       rw [Nat.mul_comm,Nat.mul_add_mod];exact Nat.mod_eq_of_lt hj
      refine ⟨f i j,?_,.t (hr i j c' (B1 hri hrj))⟩
      rw [lba,lbh hlt]
      simp [e1,e2]
  ·have hlt:q<rows.length*size:=by have:=(lbe.1 hq).1;simpa using this
   rw [lba,lbh hlt] at hq
   injection hq with hq
   subst hq
   have h0:0<size:=by
    rcases Nat.eq_zero_or_pos size with h|h
    ·subst h;simp at hlt
    ·exact h
   have hi:q / size<rows.length:=by rw [Nat.div_lt_iff_lt_mul h0];exact hlt
   have hj:q % size<size:=Nat.mod_lt _ h0
   have hrl:=hrow rows[q / size] (lbE hi)
   have:=(hc (q / size) (q % size) _ (B1 (lbf hi) (lbf (by omega)))).1
   rw [show q / size*size+q % size=q by rw [Nat.mul_comm];exact Nat.div_add_mod q size] at this
   exact this
theorem a5a {w:World} {ι:Io} {M:Ms} {k:Blk} {b cap size:Nat} (h:G4 w ι M k (.blk b cap size)) {lo len:Nat} (hl:lo+len<=k.rows.length):
 ∃vals,y8 w ι M size ((k.rows.drop lo).take len) vals∧∀q u,vals[q]? =some u->w.cell? ⟨b,lo*size+q,none⟩=some u:=by
 obtain ⟨h1,h2,h3,h4,h5,cur,h6,h7,h8⟩:=h
 have hmul:lo*size+len*size<=cap*size:=by rw [← Nat.add_mul];exact lbT _ (by omega)
 refine ⟨(cur.toList.drop (lo*size)).take (len*size),⟨?_,?_,?_⟩,?_⟩
 ·rw [lbs,List.length_drop,Array.length_toList,h7,lbs,List.length_drop]
  rw [Nat.min_eq_left (by omega),Nat.min_eq_left (by omega)]
 ·intro r hr
  exact h5 r (List.mem_of_mem_drop (List.mem_of_mem_take hr))
 ·intro i j c hij
  obtain ⟨row,q1,q2⟩:=C1 hij
  rw [lbi] at q1
  split at q1
  ·rename_i hi
   rw [lbj] at q1
   obtain ⟨u,r1,r2⟩:=h8 _ _ _ (B1 q1 q2)
   refine ⟨u,?_,r2⟩
   have hj:j<size:=by rw [← h5 row (lbm q1)];exact (lbe.1 q2).1
   have hlt:i*size+j<len*size:=by
    have:i*size+size<=len*size:=by rw [← lbU];exact lbT _ hi
    omega
   rw [List.getElem?_take_of_lt hlt,lbj,←Nat.add_assoc,←Nat.add_mul]
   simpa using r1
  ·cases q1
 ·intro q u hq
  rw [lbi] at hq
  split at hq
  ·rw [lbj] at hq
   simp [World.cell?,h6]
   simpa using hq
  ·cases hq
section
variable {P:Program} {τ:Tab} {o:Oper} {ev:Operand->S} {H:Hp}
theorem aK9 (hτ:C0 P τ) {size:Nat} {t e:TypeId} (hu:P.underlying t=some (.slice e)) {x:Operand} {k:List (List C)->Prop} (h:b7N size H (ev x) k):
 ∃xr,k xr∧∀(a:Act) (w:World) (ι:Io) (M:Ms),S4 w ι M ev a->j8 w ι M H->∃news,y8 w ι M size xr news∧Src P size t (a.eval x) xr.length news w∧
  (xr.length=0∨∃ad c,a.eval x=.slice (some ad) xr.length c∧∀j v,news[j]? =some v->w.cell? (ad.add j)=some v):=by
 unfold b7N at h
 split at h
 ·rename_i s sk rows hx
  refine ⟨_,h.2,fun a w ι M he hh=>?_⟩
  have hr:=(he.to hx).inv_t
  generalize a.eval x=v at *
  by_cases hne:rows=[]
  ·subst hne
   cases hr with
   |@sl _ _ _ b off cap A f hrow hcap hmax hk hn hA hc hr=>
    refine ⟨[],y8.nil w ι M size,?_,.inl rfl⟩
    cases A with
    |none=>exact Src.ofNil w hu _
    |some ad=>exact Src.ofSlice w hu ad 0 _ [] (by simp) (by simp) (by simp)
  ·have hs:s=size:=by
    rcases h.1 with h|h
    ·exact absurd (lbF h) hne
    ·exact h
   subst hs
   cases hr with
   |@sl _ _ _ b off cap A f hrow hcap hmax hk hn hA hc hr hxx=>
    obtain ⟨_,vals,h1,h2⟩:=aO8 (ι:=ι) (RT.sl f hrow hcap hmax hk hn hA hc hr hxx)
    obtain ⟨b,off,rfl,h3⟩:=h2 hne
    have h3':∀j v,vals[j]? =some v->w.cell? ((⟨b,off,none⟩:Addr).add j)=some v:=fun j v hj=>by rw [Addr.add_none];exact h3 j v hj
    have e:rows.length=(toC rows).length:=by simp [toC]
    rw [e]
    exact ⟨vals,h1,Src.ofSlice w hu _ _ _ vals h1.len h3' h1.one,.inr ⟨_,_,rfl,h3'⟩⟩
 ·rename_i id lo len app hx
  obtain ⟨bk,hbk,h⟩:=N1 h
  obtain ⟨hdead,h⟩:=Z7 h
  obtain ⟨hs,hl,h⟩:=C5 h
  have hs:bk.size=size:=by simpa using hs
  refine ⟨_,h,fun a w ι M he hh=>?_⟩
  have hr:=(he.to hx).inv_c
  generalize a.eval x=v at *
  have hlen:((bk.rows.drop lo).take len).length=len:=by simp;omega
  cases hr with
  |@own _ _ _ _ b cap sz A cap' h' q1 q2 q3 q4 q5=>
   have hb:=hh.blk id bk hbk hdead _ h'
   obtain rfl:sz=size:=hb.1.symm.trans hs
   obtain ⟨vals,h1,h2⟩:=a5a hb hl
   rw [hlen]
   by_cases h0:len=0
   ·subst h0
    have:vals=[]:=lbF (by rw [h1.len];simp)
    subst this
    refine ⟨[],h1,?_,.inl rfl⟩
    cases A with
    |none=>exact Src.ofNil w hu _
    |some ad=>exact Src.ofSlice w hu ad 0 _ [] (by simp) (by simp) (by simp)
   ·obtain rfl:=q2 (by omega)
    have h3':∀j v,vals[j]? =some v->w.cell? ((⟨b,lo*sz,none⟩:Addr).add j)=some v:=fun j v hj=>by rw [Addr.add_none];exact h2 j v hj
    have hvl:=h1.len
    rw [hlen] at hvl
    exact ⟨vals,h1,Src.ofSlice w hu _ _ _ vals hvl h3' h1.one,.inr ⟨_,_,rfl,h3'⟩⟩
  |nil h'=>
   have hb:=hh.blk id bk hbk hdead _ h'
   have hb':bk.rows=[]:=hb
   refine ⟨[],by rw [hb'];exact y8.nil w ι M size,?_,.inl (by simp)⟩
   rw [hb']
   cases ‹Option Addr› with
   |none=>exact Src.ofNil w hu _
   |some ad=>exact Src.ofSlice w hu ad 0 _ [] (by simp) (by simp) (by simp)
 ·exact h.elim
end
end
section
open Go.RowKit
section
variable {P:Program} {τ:Tab} {o:Oper} {ev:Operand->S} {H:Hp}
theorem L6 {c:Call} (ho:o.op=.call c) (hc:c.callee=.builtin .append) {t:TypeId} {s x:Operand} (ht:c.argTypes.toList=[t,t]) (ha:c.args.toList=[s,x]) {a:Act} {w w':World} {v:Value}
 (h:(Builtin.append_ #[t,t] o.type #[a.eval s,a.eval x]).run P w=.ok v w'):(execOp a.eval o).run P w=.ok (.value v) w':=by
 obtain ⟨callee,args,argTypes⟩:=c
 simp only at hc ht ha
 subst hc
 obtain rfl:argTypes=#[t,t]:=by apply Array.ext';simpa using ht
 obtain rfl:args=#[s,x]:=by apply Array.ext';simpa using ha
 simp [execOp,ho,resolve,invoke,builtin,h]
theorem aH6 {size:Nat} {cur:Array Value} {vals rest:List Value} {i j:Nat} {u:Value} (hcur:cur.toList=vals++rest) (h:vals[i*size+j]? =some u):cur[i*size+j]? =some u:=by
 have:cur.toList[i*size+j]? =some u:=by rw [hcur,lbb (lbe.1 h).1];exact h
 simpa using this
theorem a2k (hτ:C0 P τ) {t e:TypeId} {d:TD} (hu:P.underlying t=some (.slice e)) (hd:τ e=some d) (h0:d.size≠0) {w:World} {ι:Io} {M:Ms} {ty:TypeId}
 {base:Option Addr} {sLen sCap:Nat} {r1 r2:List (List C)} {olds news:List Value} {x:Value} (h1:y8 w ι M d.size r1 olds) (h2:y8 w ι M d.size r2 news) (hl:r1.length=sLen)
 (hold:(Builtin.firstCells d.size sLen (.slice base sLen sCap)).run P w.drew=.ok olds.toArray w.drew) (hs:Src P d.size t x r2.length news w) (hg:sCap<sLen+r2.length)
 (hb:(r1.length+r2.length)*(d.bytes+1)<=140737488355328):
 ∃cap cur,(Builtin.append_ #[t,t] ty #[.slice base sLen sCap,x]).run P w=.ok (.slice (some ⟨w.heap.size,0,none⟩) (sLen+r2.length) cap) (w.drew.alloc (.cells cur e))∧
  cur.size=cap*d.size∧sLen+r2.length<=cap∧cap<=maxLen∧∀i j c,at2 (r1++r2) i j=some c->∃u,cur[i*d.size+j]? =some u∧RC w ι M c u:=by
 obtain ⟨i,hi,hsz,hby,z,hz,hzs,hone,hzl⟩:=(hτ.td _ _ hd).info
 rw [← hsz] at h0 h1 h2 hold hs
 have hb1:(sLen+r2.length)*i.bytes<=140737488355328:=by
  refine lbR (Nat.mul_le_mul_left _ (Nat.le_succ _)) ?_
  rw [hby,←hl];exact hb
 have hb2:sLen+r2.length<=140737488355328:=by
  refine lbR (Nat.le_mul_of_pos_right _ (Nat.succ_pos d.bytes)) ?_
  rw [← hl];exact hb
 have hmx:sLen+r2.length<=maxLen:=by unfold maxLen;omega
 have hrun:=run_append_grow_src (P:=P) w t t ty e i z hu hi hz base sLen sCap olds hold x r2.length news hs hg (by omega) (growslice_fits hg hb1)
 refine ⟨_,_,hrun,?_,grownCap_ge _ _ _ _,grownCap_le_maxLen _ _ _ _ hmx,?_⟩
 ·have hzc:z.cells.size=i.size:=by rw [hsz,←hzl,←hzs];simp
  simp only [Array.size_append,List.size_toArray,size_zeroCells,hzc,lbq,h1.len,h2.len,hl,←Nat.add_mul,←hsz]
  congr 1
  have:=grownCap_ge w (sLen+r2.length) sCap e
  omega
 ·intro i' j c hc
  obtain ⟨u,q1,q2⟩:=(h1.append h2).cell i' j c hc
  exact ⟨u,by rw [← hsz];exact aH6 (rest:=(Builtin.zeroCells z.cells (grownCap w (sLen+r2.length) sCap e - (sLen+r2.length))).toList) (by simp) q1,q2⟩
theorem aY3 {n:Nat} (h:n<=140737488355328):n<=maxLen:=by unfold maxLen;omega
theorem I0.nil {w:World} {ι:Io} {M:Ms} {n:Nat} {e:TypeId} {size:Nat} {box ap:Bool} {A:Option Addr}:I0 w ι M n (.c (.own n 0 0 true)) [⟨.live,e,size,[],box,ap⟩] (.slice A 0 0) w:=by
 refine ⟨fun _=>.nil,.c (.nil ?_),Ext.refl w,?_,?_,?_⟩
 ·unfold B7;rw [if_pos (by simp)]
 ·intro k blk hk
  cases k with
  |succ k=>simp at hk
  |zero=>simp at hk;subst hk;exact ⟨rfl,rfl⟩
 ·intro k b c s _ h;cases h
 ·intro k k' b c s c' s' _ _ h;cases h
theorem U6 {w:World} {size n cap:Nat} {A:Option Addr} {vals:List Value} (hl:vals.length=n*size) (h:vals=[]∨∃b off,A=some ⟨b,off,none⟩∧∀q u,vals[q]? =some u->w.cell? ⟨b,off+q,none⟩=some u):
 (Builtin.firstCells size n (.slice A n cap)).run P w.drew=.ok vals.toArray w.drew:=by
 rcases h with rfl|⟨b,off,rfl,h⟩
 ·cases A with
  |none=>exact run_firstCells_none w.drew size n n cap
  |some ad=>exact run_firstCells_some w.drew size n ad n cap [] hl (by simp)
 ·exact run_firstCells_some w.drew size n _ n cap vals hl (fun j v hj=>by rw [Addr.add_none];simpa using h j v hj)
theorem a0p {w:World} {ι:Io} {M:Ms} {n b cap size len:Nat} (hi:ι n=some (.blk b cap size)) (hl:len<=cap) (hm:cap<=maxLen):RS w ι M (.c (.own n 0 len true)) (.slice (some ⟨b,0,none⟩) len cap):=
 .c (.own hi (by omega) (fun _=>by rw [Nat.zero_mul]) hl hm (fun _=>⟨rfl,rfl,rfl⟩))
theorem j8.other {w w':World} {ι ι':Io} {M M':Ms} (hH:j8 w ι M H) {id b cap size:Nat} {k:Blk} (hk:H[id]? =some k) (hl:k.mode=.live) (hi:ι id=some (.blk b cap size)) (hap:k.app=false)
 (hkeep:∀b',b'<w.heap.size->b'≠b->w'.heap[b']? =w.heap[b']?) (hm:∀b,M' b->M b∨w.heap.size<=b) (he:∀id l,ι id=some l->ι' id=some l):
 ∀id' k',id'≠id->H[id']? =some k'->k'.mode≠.dead->∀l,ι id'=some l->G4 w' ι' M' k' l:=by
 intro id' k' hne hk' hd l hl'
 have hb:=hH.blk id' k' hk' hd l hl'
 have hMb:M b:=hH.liv id k hk hl b cap size hi
 cases l with
 |nil=>exact hb
 |blk b' cap' size'=>
  obtain ⟨q1,q2,q3,q4,q5,cur,q6,q7,q8⟩:=hb
  have hne':b'≠b:=by
   intro e
   subst e
   cases hm':k'.mode with
   |live=>exact hne (hH.inj id' id k' k hk' hk hm' hl _ _ _ _ _ hl' hi)
   |froz=>exact hH.fro id' k' hk' hm' _ _ _ hl' hMb
   |old=>
    have:=(hH.old id' id k' k hk' hk hm' hl _ _ _ _ _ hl' hi).1
    rw [hap] at this;cases this
   |dead=>exact hd hm'
  refine ⟨q1,q2,q3,q4,q5,cur,(hkeep b' (B8 q6) hne').trans q6,q7,fun i j c hc=>?_⟩
  obtain ⟨u,r1,r2⟩:=q8 i j c hc
  refine ⟨u,r1,r2.keep (fun b'' hb'' hM=>hkeep b'' hb'' (by rintro rfl;exact hM hMb)) hm he⟩
theorem getElem?_set_ne' {l:List Blk} {i j:Nat} {v:Blk} (h:j≠i):(l.set i v)[j]? =l[j]?:=by rw [List.getElem?_set_ne (Ne.symm h)]
theorem G4.grow {w w':World} {ι ι':Io} {M M':Ms} {kk:Blk} {b cap size:Nat} {e:TypeId} {cur0 cur:Array Value} (h:G4 w ι M kk (.blk b cap size)) (h0:w.heap[b]? =some (.cells cur0 e (0,0)))
 (h1:w'.heap[b]? =some (.cells cur e (0,0))) (h2:cur.size=cur0.size) (h3:∀q,q<kk.rows.length*size->cur[q]? =cur0[q]?) (hr:∀c u,RC w ι M c u->RC w' ι' M' c u):
 G4 w' ι' M' kk (.blk b cap size):=by
 obtain ⟨q1,q2,q3,q4,q5,cur',q6,q7,q8⟩:=h
 rw [h0] at q6
 injection q6 with q6
 injection q6 with e1 e2
 subst e1 e2
 refine ⟨q1,q2,q3,q4,q5,cur,h1,by rw [h2];exact q7,fun i j c hc=>?_⟩
 obtain ⟨u,r1,r2⟩:=q8 i j c hc
 obtain ⟨row,s1,s2⟩:=C1 hc
 have hi:=(lbe.1 s1).1
 have hj:j<size:=by rw [← q5 row (lbm s1)];exact (lbe.1 s2).1
 have hlt:i*size+j<kk.rows.length*size:=by
  have:i*size+size<=kk.rows.length*size:=by rw [← lbU];exact lbT _ hi
  omega
 exact ⟨u,by rw [h3 _ hlt];exact r1,hr c u r2⟩
def b7y (w w':World) (k kd:Blk) (ap:Bool) (b bn size:Nat) (n:Nat) (e:TypeId) (cur:Array Value):Prop:=
 (kd.mode=.dead∧k.app=false)∨(kd=a42 k∧ap=true∧k.rows.length<=n∧
   ((bn≠b∧w'.heap[b]? =w.heap[b]?)∨(bn=b∧∃cur0,w.heap[b]? =some (.cells cur0 e (0,0))∧cur.size=cur0.size∧∀q,q<k.rows.length*size->cur[q]? =cur0[q]?)))
theorem F4.append {w w':World} {ι:Io} {M:Ms} (hH:j8 w ι M H) (hM:MB w M) (hF:a0f ι H.length) {id b cap size:Nat} {k kd:Blk} (hk:H[id]? =some k) (hl:k.mode=.live)
 (hi:ι id=some (.blk b cap size)) {bn cap' len:Nat} {ap:Bool} {e:TypeId} {rows:List (List C)} {cur:Array Value} (hdead:b7y w w' k kd ap b bn size rows.length e cur) (hos:w'.os=w.os) (htape:w'.tape=w.tape) (hout:w'.output=w.output)
 (hsize:w.heap.size<=w'.heap.size) (hkeep:∀b',b'<w.heap.size->b'≠b->w'.heap[b']? =w.heap[b']?) (hbn:bn=b∨w.heap.size<=bn) (hnew:w'.heap[bn]? =some (.cells cur e (0,0)))
 (h0:0<size) (hlen:rows.length=len) (hle:len<=cap') (hm:cap'<=maxLen) (hrow:∀r ∈ rows,r.length=size) (hsz:cur.size=cap'*size)
 (hc:∀i j c,at2 rows i j=some c->∃u,cur[i*size+j]? =some u∧RC w ι M c u):
 F4 w ι M H (.c (.own H.length 0 len true)) ((H.set id kd)++[⟨.live,e,size,rows,false,ap⟩]) (.slice (some ⟨bn,0,none⟩) len cap') w':=by
 have hidl:id<H.length:=(lbe.1 hk).1
 have hMb:M b:=hH.liv id k hk hl b cap size hi
 have hblt:b<w.heap.size:=hM b hMb
 let ι':Io:=fun j=>if j=H.length then some (.blk bn cap' size) else ι j
 let M':Ms:=fun b'=>M b'∨b'=bn
 have hext:∀id l,ι id=some l->ι' id=some l:=fun j l hj=>by
  show (if j=H.length then _ else _)=_
  rw [if_neg (by rintro rfl;rw [hF _ (lbQ _)] at hj;cases hj),hj]
 have hMn:∀b',M' b'->M b'∨w.heap.size<=b':=by
  rintro b' (h|rfl)
  ·exact .inl h
  ·rcases hbn with rfl|h
   ·exact .inl hMb
   ·exact .inr h
 have hnl:ι' H.length=some (.blk bn cap' size):=by show (if _ then _ else _)=_;rw [if_pos rfl]
 have hold:∀j,j<H.length->ι' j=ι j:=fun j hj=>by show (if _ then _ else _)=_;rw [if_neg (by omega)]
 have hkdl:kd.mode≠.live∧kd.mode≠.froz:=by
  rcases hdead with ⟨h,_⟩|⟨rfl,_⟩
  ·rw [h];exact ⟨(by intro h;cases h),(by intro h;cases h)⟩
  ·exact ⟨(by intro h;cases h),(by intro h;cases h)⟩
 have hget:∀j kk,((H.set id kd)++[(⟨.live,e,size,rows,false,ap⟩:Blk)])[j]? =some kk->
  (j=id∧kk=kd)∨(j≠id∧j<H.length∧H[j]? =some kk)∨(j=H.length∧kk=⟨.live,e,size,rows,false,ap⟩):=by
  intro j kk hj
  by_cases hjl:j<H.length
  ·rw [lbb (by simpa using hjl)] at hj
   by_cases hjd:j=id
   ·subst hjd
    rw [List.getElem?_set_self (by simpa using hjl)] at hj
    injection hj with hj
    exact .inl ⟨rfl,hj.symm⟩
   ·rw [getElem?_set_ne' hjd] at hj
    exact .inr (.inl ⟨hjd,hjl,hj⟩)
  ·rw [lbc (by simpa using hjl)] at hj
   have:j=H.length:=by
    have:=(lbe.1 hj).1
    simp at this
    omega
   subst this
   simp at hj
   exact .inr (.inr ⟨rfl,hj.symm⟩)
 have hkeepR:∀c u,RC w ι M c u->RC w' ι' M' c u:=fun c u h=>h.keep (fun b'' hb'' hM'=>hkeep b'' hb'' (by rintro rfl;exact hM' hMb)) hMn hext
 have hsame:∀kk cap0,kk.rows.length<=k.rows.length->k.app=true->G4 w ι M kk (.blk b cap0 size)->G4 w' ι' M' kk (.blk b cap0 size):=by
  intro kk cap0 hle' hka hb
  rcases hdead with ⟨_,h⟩|⟨_,_,_,h|⟨rfl,cur0,h1,h2,h3⟩⟩
  ·rw [hka] at h;cases h
  ·have hb2:=hb;obtain ⟨q1,q2,q3,q4,q5,cur',q6,q7,q8⟩:=hb2
   exact hb.grow q6 (h.2.trans q6) rfl (fun _ _=>rfl) hkeepR
  ·exact hb.grow h1 hnew h2 (fun q hq=>h3 q (Nat.lt_of_lt_of_le hq (lbT _ hle'))) hkeepR
 refine ⟨ι',M',a0p hnl hle hm,⟨?_,?_,?_,?_,?_⟩,?_,?_,⟨hos,htape,hout,hsize,?_,hold,hMn,fun b' h=>.inl (.inl h),?_,by simp⟩⟩
 ·intro j kk hj hd l hl'
  rcases hget j kk hj with ⟨rfl,rfl⟩|⟨h1,h2,h3⟩|⟨rfl,rfl⟩
  ·have hdead2:=hdead;rcases hdead2 with ⟨h,_⟩|⟨rfl,_⟩
   ·exact absurd h hd
   ·rw [hold j hidl,hi] at hl'
    injection hl' with hl'
    subst hl'
    have hb:=hH.blk j k hk (by rw [hl];intro h;cases h) _ hi
    cases hka:k.app with
    |true=>exact hsame (a42 k) cap (lbQ _) hka hb
    |false=>
     rcases hdead with ⟨h,_⟩|⟨_,_,_,h|⟨rfl,cur0,h1,h2,h3⟩⟩
     ·cases h
     ·have hb2:=hb;obtain ⟨q1,q2,q3,q4,q5,cur',q6,q7,q8⟩:=hb2
      exact G4.grow (kk:=a42 k) hb q6 (h.2.trans q6) rfl (fun _ _=>rfl) hkeepR
     ·exact G4.grow (kk:=a42 k) hb h1 hnew h2 h3 hkeepR
  ·rw [hold j h2] at hl'
   cases hka:k.app with
   |false=>exact hH.other hk hl hi hka hkeep hMn hext j kk h1 h3 hd l hl'
   |true=>
    have hb:=hH.blk j kk h3 hd l hl'
    cases l with
    |nil=>exact hb
    |blk b' c' s'=>
     by_cases hbb:b'=b
     ·subst hbb
      cases hm':kk.mode with
      |live=>exact absurd (hH.inj j id kk k h3 hk hm' hl _ _ _ _ _ hl' hi) h1
      |froz=>exact absurd hMb (hH.fro j kk h3 hm' _ _ _ hl')
      |dead=>exact absurd hm' hd
      |old=>
       obtain ⟨_,rfl,h5⟩:=hH.old j id kk k h3 hk hm' hl _ _ _ _ _ hl' hi
       exact hsame kk c' h5 hka hb
     ·have hb2:=hb;obtain ⟨q1,q2,q3,q4,q5,cur',q6,q7,q8⟩:=hb2
      exact hb.grow q6 ((hkeep b' (B8 q6) hbb).trans q6) rfl (fun _ _=>rfl) hkeepR
  ·rw [hnl] at hl'
   injection hl' with hl'
   subst hl'
   refine ⟨rfl,h0,(show rows.length<=cap' by omega),hm,hrow,cur,hnew,hsz,fun i j c hij=>?_⟩
   obtain ⟨u,r1,r2⟩:=hc i j c hij
   exact ⟨u,r1,hkeepR c u r2⟩
 ·intro j kk hj hlv b' c' s' hij
  rcases hget j kk hj with ⟨rfl,rfl⟩|⟨h1,h2,h3⟩|⟨rfl,rfl⟩
  ·exact absurd hlv hkdl.1
  ·rw [hold j h2] at hij
   exact .inl (hH.liv j kk h3 hlv _ _ _ hij)
  ·rw [hnl] at hij
   injection hij with hij
   injection hij with hij
   exact .inr hij.symm
 ·intro j kk hj hlv b' c' s' hij
  rcases hget j kk hj with ⟨rfl,rfl⟩|⟨h1,h2,h3⟩|⟨rfl,rfl⟩
  ·exact absurd hlv hkdl.2
  ·rw [hold j h2] at hij
   have hnm:=hH.fro j kk h3 hlv _ _ _ hij
   have hbl:b'<w.heap.size:=by
    obtain ⟨_,_,_,_,_,cur',q,_⟩:=hH.blk j kk h3 (by rw [hlv];intro h;cases h) _ hij
    exact B8 q
   rintro (h|rfl)
   ·exact hnm h
   ·rcases hbn with rfl|h
    ·exact hnm hMb
    ·omega
  ·cases hlv
 ·intro j j' kk kk' hj hj' hlv hlv' b' c' s' c'' s'' hij hij'
  rcases hget j kk hj with ⟨rfl,rfl⟩|⟨h1,h2,h3⟩|⟨rfl,rfl⟩
  ·exact absurd hlv hkdl.1
  ·rcases hget j' kk' hj' with ⟨rfl,rfl⟩|⟨h1',h2',h3'⟩|⟨rfl,rfl⟩
   ·exact absurd hlv' hkdl.1
   ·rw [hold j h2] at hij
    rw [hold j' h2'] at hij'
    exact hH.inj j j' kk kk' h3 h3' hlv hlv' _ _ _ _ _ hij hij'
   ·rw [hold j h2] at hij
    rw [hnl] at hij'
    injection hij' with hij'
    injection hij' with hij'
    subst hij'
    have hbl:bn<w.heap.size:=by
     obtain ⟨_,_,_,_,_,cur',q,_⟩:=hH.blk j kk h3 (by rw [hlv];intro h;cases h) _ hij
     exact B8 q
    rcases hbn with rfl|h
    ·exact absurd (hH.inj j id kk k h3 hk hlv hl _ _ _ _ _ hij hi) h1
    ·omega
  ·rcases hget j' kk' hj' with ⟨rfl,rfl⟩|⟨h1',h2',h3'⟩|⟨rfl,rfl⟩
   ·exact absurd hlv' hkdl.1
   ·rw [hold j' h2'] at hij'
    rw [hnl] at hij
    injection hij with hij
    injection hij with hij
    subst hij
    have hbl:bn<w.heap.size:=by
     obtain ⟨_,_,_,_,_,cur',q,_⟩:=hH.blk j' kk' h3' (by rw [hlv'];intro h;cases h) _ hij'
     exact B8 q
    rcases hbn with rfl|h
    ·exact absurd (hH.inj j' id kk' k h3' hk hlv' hl _ _ _ _ _ hij' hi) h1'
    ·omega
   ·rfl
 ·intro j j' kk kk' hj hj' hlv hlv' b' c' s' c'' s'' hij hij'
  rcases hget j' kk' hj' with ⟨rfl,rfl⟩|⟨h1',h2',h3'⟩|⟨rfl,rfl⟩
  ·exact absurd hlv' hkdl.1
  ·rw [hold j' h2'] at hij'
   rcases hget j kk hj with ⟨rfl,rfl⟩|⟨h1,h2,h3⟩|⟨rfl,rfl⟩
   ·rw [hold j hidl,hi] at hij
    injection hij with hij
    injection hij with e1 e2 e3
    subst e1
    exact absurd (hH.inj j' j kk' k h3' hk hlv' hl _ _ _ _ _ hij' hi) h1'
   ·rw [hold j h2] at hij
    exact hH.old j j' kk kk' h3 h3' hlv hlv' _ _ _ _ _ hij hij'
   ·cases hlv
  ·rw [hnl] at hij'
   injection hij' with hij'
   injection hij' with e1 e2 e3
   subst e1 e2 e3
   rcases hget j kk hj with ⟨rfl,rfl⟩|⟨h1,h2,h3⟩|⟨rfl,rfl⟩
   ·rw [hold j hidl,hi] at hij
    injection hij with hij
    injection hij with e1 e2 e3
    subst e1 e3
    rcases hdead with ⟨h,_⟩|⟨rfl,hap,hle',_⟩
    ·rw [h] at hlv;cases hlv
    ·exact ⟨hap,rfl,hle'⟩
   ·rw [hold j h2] at hij
    have hbl:bn<w.heap.size:=by
     obtain ⟨_,_,_,_,_,cur',q,_⟩:=hH.blk j kk h3 (by rw [hlv];intro h;cases h) _ hij
     exact B8 q
    rcases hbn with rfl|h
    ·obtain ⟨q1,q2,q3⟩:=hH.old j id kk k h3 hk hlv hl _ _ _ _ _ hij hi
     rcases hdead with ⟨_,h⟩|⟨rfl,hap,hle',_⟩
     ·rw [q1] at h;cases h
     ·exact ⟨hap,q2,lbR q3 hle'⟩
    ·omega
   ·cases hlv
 ·rintro b' (h|rfl)
  ·exact Nat.lt_of_lt_of_le (hM b' h) hsize
  ·exact B8 hnew
 ·intro j hj
  rw [lbq,List.length_set] at hj
  simp at hj
  show (if _ then _ else _)=_
  rw [if_neg (by omega)]
  exact hF j (by omega)
 ·intro b' hb' hnl'
  exact hkeep b' hb' (by rintro rfl;exact hnl' ⟨id,k,cap,size,hk,hl,hi⟩)
 ·rintro b' ⟨j,kk,c',s',hj,hlv,hij⟩
  rcases hget j kk hj with ⟨rfl,rfl⟩|⟨h1,h2,h3⟩|⟨rfl,rfl⟩
  ·exact absurd hlv hkdl.1
  ·rw [hold j h2] at hij
   exact .inl ⟨j,kk,c',s',h3,hlv,hij⟩
  ·rw [hnl] at hij
   injection hij with hij
   injection hij with hij
   subst hij
   rcases hbn with rfl|h
   ·exact .inl ⟨id,k,cap,size,hk,hl,hi⟩
   ·exact .inr h
end
end
section
open Go.RowKit
section
variable {P:Program} {τ:Tab} {o:Oper} {ev:Operand->S} {H:Hp}
theorem L5 {id:Nat} {kd:Blk} {H:Hp} {j:Nat} {kk:Blk} (hj:(H.set id kd)[j]? =some kk):(j=id∧kk=kd)∨(j≠id∧H[j]? =some kk):=by
 by_cases h:j=id
 ·subst h
  have hlt:j<H.length:=by have:=(lbe.1 hj).1;simpa using this
  rw [List.getElem?_set_self hlt] at hj
  injection hj with hj
  exact .inl ⟨rfl,hj.symm⟩
 ·rw [getElem?_set_ne' h] at hj
  exact .inr ⟨h,hj⟩
theorem F4.kill {w w':World} {ι:Io} {M:Ms} {H H':Hp} {s:S} {v:Value} {kd:Blk} (hd:kd.mode=.dead) (id:Nat) (h:F4 w ι M H s H' v w'):F4 w ι M H s (H'.set id kd) v w':=by
 obtain ⟨ι',M',h1,h2,h3,h4,h5⟩:=h
 refine ⟨ι',M',h1,⟨?_,?_,?_,?_,?_⟩,h3,by simpa using h4,⟨h5.os,h5.tape,h5.output,h5.size,h5.keep,h5.same,h5.mnew,h5.mold,?_,by simpa using h5.len⟩⟩
 ·intro j kk hj hm l hl
  rcases L5 hj with ⟨_,rfl⟩|⟨_,hj⟩
  ·exact absurd hd hm
  ·exact h2.blk j kk hj hm l hl
 ·intro j kk hj hm
  rcases L5 hj with ⟨_,rfl⟩|⟨_,hj⟩
  ·rw [hd] at hm;cases hm
  ·exact h2.liv j kk hj hm
 ·intro j kk hj hm
  rcases L5 hj with ⟨_,rfl⟩|⟨_,hj⟩
  ·rw [hd] at hm;cases hm
  ·exact h2.fro j kk hj hm
 ·intro j j' kk kk' hj hj' hm hm'
  rcases L5 hj with ⟨_,rfl⟩|⟨_,hj⟩
  ·rw [hd] at hm;cases hm
  ·rcases L5 hj' with ⟨_,rfl⟩|⟨_,hj'⟩
   ·rw [hd] at hm';cases hm'
   ·exact h2.inj j j' kk kk' hj hj' hm hm'
 ·intro j j' kk kk' hj hj' hm hm'
  rcases L5 hj with ⟨_,rfl⟩|⟨_,hj⟩
  ·rw [hd] at hm;cases hm
  ·rcases L5 hj' with ⟨_,rfl⟩|⟨_,hj'⟩
   ·rw [hd] at hm';cases hm'
   ·exact h2.old j j' kk kk' hj hj' hm hm'
 ·rintro b ⟨j,kk,c,sz,hj,hm,hi⟩
  rcases L5 hj with ⟨_,rfl⟩|⟨_,hj⟩
  ·rw [hd] at hm;cases hm
  ·exact h5.live b ⟨j,kk,c,sz,hj,hm,hi⟩
theorem F4.age {w w':World} {ι:Io} {M:Ms} {H H':Hp} {s:S} {v:Value} {kd:Blk} (hd:kd.mode=.old) (hr:kd.rows=[]) {id:Nat} (hid:id<H.length) (hi:ι id=some .nil) (h:F4 w ι M H s H' v w'):F4 w ι M H s (H'.set id kd) v w':=by
 obtain ⟨ι',M',h1,h2,h3,h4,h5⟩:=h
 have hi':ι' id=some .nil:=(h5.same id hid).trans hi
 refine ⟨ι',M',h1,⟨?_,?_,?_,?_,?_⟩,h3,by simpa using h4,⟨h5.os,h5.tape,h5.output,h5.size,h5.keep,h5.same,h5.mnew,h5.mold,?_,by simpa using h5.len⟩⟩
 ·intro j kk hj hm l hl
  rcases L5 hj with ⟨rfl,rfl⟩|⟨_,hj⟩
  ·rw [hi'] at hl;injection hl with hl;subst hl;exact hr
  ·exact h2.blk j kk hj hm l hl
 ·intro j kk hj hm
  rcases L5 hj with ⟨_,rfl⟩|⟨_,hj⟩
  ·rw [hd] at hm;cases hm
  ·exact h2.liv j kk hj hm
 ·intro j kk hj hm
  rcases L5 hj with ⟨_,rfl⟩|⟨_,hj⟩
  ·rw [hd] at hm;cases hm
  ·exact h2.fro j kk hj hm
 ·intro j j' kk kk' hj hj' hm hm'
  rcases L5 hj with ⟨_,rfl⟩|⟨_,hj⟩
  ·rw [hd] at hm;cases hm
  ·rcases L5 hj' with ⟨_,rfl⟩|⟨_,hj'⟩
   ·rw [hd] at hm';cases hm'
   ·exact h2.inj j j' kk kk' hj hj' hm hm'
 ·intro j j' kk kk' hj hj' hm hm' b c s' c' s'' hij hij'
  rcases L5 hj with ⟨rfl,rfl⟩|⟨_,hj⟩
  ·rw [hi'] at hij;cases hij
  ·rcases L5 hj' with ⟨_,rfl⟩|⟨_,hj'⟩
   ·rw [hd] at hm';cases hm'
   ·exact h2.old j j' kk kk' hj hj' hm hm' b c s' c' s'' hij hij'
 ·rintro b ⟨j,kk,c,sz,hj,hm,hi⟩
  rcases L5 hj with ⟨_,rfl⟩|⟨_,hj⟩
  ·rw [hd] at hm;cases hm
  ·exact h5.live b ⟨j,kk,c,sz,hj,hm,hi⟩
set_option maxHeartbeats 1000000 in
theorem a8X (hτ:C0 P τ) {c:Call} (ho:o.op=.call c) (hc:c.callee=.builtin .append) {t:TypeId} {s x:Operand} (ht:c.argTypes.toList=[t,t]) (ha:c.args.toList=[s,x])
 {e:TypeId} (hu:P.underlying t=some (.slice e)) {d:TD} (hd:τ e=some d) (h0:d.size≠0) {xr:List (List C)}
 (hx:∀(a:Act) (w:World) (ι:Io) (M:Ms),S4 w ι M ev a->j8 w ι M H->∃news,y8 w ι M d.size xr news∧Src P d.size t (a.eval x) xr.length news w∧
   (xr.length=0∨∃ad c,a.eval x=.slice (some ad) xr.length c∧∀j v,news[j]? =some v->w.cell? (ad.add j)=some v))
 {id lo len:Nat} (hs:ev s=.c (.own id lo len true)) {k:Blk} (hk:H[id]? =some k) (hlv:k.mode=.live) (hlen:len<=k.rows.length) (hbd:(len+xr.length)*(d.bytes+1)<=140737488355328)
 (hbk:k.size=d.size∧k.elem=e) {kd:Blk} {ap:Bool} (hkd:(kd.mode=.dead∧k.app=false)∨(kd=a42 k∧ap=true∧len=k.rows.length)):
 GOp P o ev H (.c (.own H.length 0 (len+xr.length) true)) ((H.set id kd)++[⟨.live,e,d.size,k.rows.take len++xr,false,ap⟩]):=by
 obtain ⟨i,hi,hsz,hby,z,hz,hzs,hone,hzl⟩:=(hτ.td _ _ hd).info
 have hidl:id<H.length:=(lbe.1 hk).1
 have htl:(k.rows.take len).length=len:=by simp;omega
 intro a w ι M he hh hm hF
 obtain ⟨news,hn1,hn2,hn3⟩:=hx a w ι M he hh
 have hr:=(he.to hs).inv_c
 generalize hv:a.eval s=v at *
 cases hr with
 |@own _ _ _ _ b cap size A cap' hι q1 q2 q3 q4 q5=>
  obtain ⟨rfl,rfl,rfl⟩:=q5 rfl
  have hbr:=hh.blk id k hk (by rw [hlv];intro h;cases h) _ hι
  obtain rfl:size=d.size:=hbr.1.symm.trans hbk.1
  obtain ⟨olds,ho1,ho2⟩:=a5a hbr (lo:=0) (len:=len) (by omega)
  rw [List.drop_zero] at ho1
  have hall:=ho1.append hn1
  have hlall:(k.rows.take len++xr).length=len+xr.length:=by rw [lbq,htl]
  by_cases hxr:xr.length=0
  ·have hxr':xr=[]:=lbF hxr
   subst hxr'
   have:news=[]:=lbF (by rw [hn1.len];simp)
   subst this
   rw [← hsz] at hn2
   have hrun:=run_append_nothing (P:=P) w t t o.type e i hu hi (some ⟨b,0,none⟩) len cap' q3 (a.eval x) hn2
   obtain ⟨r1,r2,r3,r4,r5,cur,r6,r7,r8⟩:=hbr
   refine p5 (L6 ho hc ht ha (by rw [hv];exact hrun)) ?_
   have hleft:b7y w w k kd ap b b d.size (k.rows.take len++[]).length e cur:=by
    rcases hkd with h|⟨h1,h2,h3⟩
    ·exact .inl h
    ·exact .inr ⟨h1,h2,by rw [hlall];omega,.inr ⟨rfl,cur,by rw [r6,hbk.2],rfl,fun _ _=>rfl⟩⟩
   exact F4.append hh hm hF hk hlv hι hleft rfl rfl rfl (lbQ _) (fun _ _ _=>rfl) (.inl rfl) (by rw [r6,hbk.2]) (by omega) hlall q3 r4 hall.row r7 (fun i' j c' hc'=>by
    obtain ⟨row,s1,s2⟩:=C1 hc'
    rw [List.append_nil,lbi] at s1
    split at s1
    ·exact r8 _ _ _ (B1 s1 s2)
    ·cases s1)
  ·obtain ⟨ad,c',hxe,hxc⟩:=hn3.resolve_left hxr
   by_cases hroom:len+xr.length<=cap'
   ·obtain ⟨r1,r2,r3,r4,r5,cur,r6,r7,r8⟩:=hbr
    have hfit:len*i.size+news.length<=cur.size:=by
     rw [hn1.len,r7,hsz,←Nat.add_mul];exact lbT _ hroom
    have hg:w.heap[b]? =some (.cells cur e (0,0)):=by rw [r6,hbk.2]
    have hrun:=run_append_room (P:=P) w t o.type e i hu hi b len cap' cur hg ad xr.length c' news (by rw [hn1.len,hsz]) hxc hn1.one hroom hfit
    refine p5 (L6 ho hc ht ha (by rw [hv,hxe];exact hrun)) ?_
    have holds:olds=cur.toList.take (len*i.size):=by
     apply List.ext_getElem?
     intro q
     by_cases hq:q<len*i.size
     ·have hlt:q<olds.length:=by rw [ho1.len,htl,←hsz];exact hq
      have e1:=ho2 q _ (lbf hlt)
      simp only [World.cell?,hg,Nat.zero_mul,Nat.zero_add] at e1
      rw [lbf hlt,List.getElem?_take_of_lt hq,←e1]
      simp
     ·rw [lbd (by rw [ho1.len,htl,←hsz];omega),lbd (by simp;omega)]
    have hcs:(cur.toList.take (len*i.size)++news++cur.toList.drop (len*i.size+news.length)).toArray.size=cur.size:=by
     simp only [List.size_toArray,lbq,lbs,List.length_drop,Array.length_toList]
     omega
    have hleft:b7y w (w.setRow b (cur.toList.take (len*i.size)++news++cur.toList.drop (len*i.size+news.length)).toArray) k kd ap b b d.size (k.rows.take len++xr).length e (cur.toList.take (len*i.size)++news++cur.toList.drop (len*i.size+news.length)).toArray:=by
     rcases hkd with h|⟨h1,h2,h3⟩
     ·exact .inl h
     ·refine .inr ⟨h1,h2,by rw [hlall];omega,.inr ⟨rfl,cur,hg,hcs,fun q hq=>?_⟩⟩
      rw [← h3,←hsz] at hq
      rw [List.getElem?_toArray,lbD,lbb (by simp;omega),List.getElem?_take_of_lt hq]
      simp
    refine F4.append (cur:=(cur.toList.take (len*i.size)++news++cur.toList.drop (len*i.size+news.length)).toArray) hh hm hF hk hlv hι hleft rfl rfl rfl (by simp) (fun b' _ hb'=>setRow_other w b b' _ hb') (.inl rfl) (setRow_heap w b cur _ e _ hg) (by omega) hlall hroom r4 hall.row ?_ (fun i' j c'' hc''=>?_)
    ·simp only [List.size_toArray,lbq,lbs,List.length_drop,Array.length_toList]
     omega
    ·obtain ⟨u,s1,s2⟩:=hall.cell _ _ _ hc''
     refine ⟨u,aH6 (rest:=cur.toList.drop (len*i.size+news.length)) ?_ s1,s2⟩
     rw [holds]
   ·obtain ⟨cap2,cur,r1,r2,r3,r4,r5⟩:=a2k (ty:=o.type) hτ hu hd h0 ho1 hn1 htl (base:=some ⟨b,0,none⟩) (sCap:=cap') (U6 (by rw [ho1.len,htl]) (.inr ⟨b,0,rfl,fun q u hq=>by have:=ho2 q u hq;simpa using this⟩)) hn2 (by omega) (by rw [htl];exact hbd)
    refine p5 (L6 ho hc ht ha (by rw [hv];exact r1)) ?_
    have hblt:b<w.heap.size:=B8 hbr.2.2.2.2.2.choose_spec.1
    have hleft:b7y w (w.drew.alloc (.cells cur e)) k kd ap b w.heap.size d.size (k.rows.take len++xr).length e cur:=by
     rcases hkd with h|⟨h1,h2,h3⟩
     ·exact .inl h
     ·exact .inr ⟨h1,h2,by rw [hlall];omega,.inl ⟨by omega,heap_alloc_old w.drew _ hblt⟩⟩
    exact F4.append hh hm hF hk hlv hι hleft rfl rfl rfl (by simp) (fun b' hb' _=>heap_alloc_old w.drew _ hb') (.inr (lbQ _)) (heap_alloc_new w.drew _) (by omega) hlall r3 r4 hall.row r2 r5
 |nil hι=>
  rename_i A
  have hbr:=hh.blk id k hk (by rw [hlv];intro h;cases h) _ hι
  have hkr:k.rows=[]:=hbr
  have hset:∀nb:Blk,(H.set id kd)++[nb]=(H++[nb]).set id kd:=fun nb=>by
   rw [List.set_append_left _ _ hidl]
  rw [hset,hkr]
  have hfr:∀j,j<[J8 e d.size xr false].length->ι (H.length+j)=none:=fun j _=>hF _ (by omega)
  have hkill:∀{w':World} {s:S} {H':Hp} {v:Value},F4 w ι M H s H' v w'->F4 w ι M H s (H'.set id kd) v w':=fun h=>by
   rcases hkd with ⟨h1,_⟩|⟨rfl,_,_⟩
   ·exact F4.kill h1 id h
   ·exact F4.age (kd:=a42 k) rfl hkr hidl hι h
  by_cases hxr:xr=[]
  ·subst hxr
   have:news=[]:=lbF (by rw [hn1.len];simp)
   subst this
   rw [← hsz] at hn2
   have hrun:=run_append_nothing (P:=P) w t t o.type e i hu hi A 0 0 (lbQ _) (a.eval x) hn2
   refine p5 (L6 ho hc ht ha (by rw [hv];exact hrun)) ?_
   exact hkill (I0.gpost hh hm hF I0.nil)
  ·have hpos:0<xr.length:=List.length_pos_iff.2 hxr
   obtain ⟨cap,cur,q1,q2,q3,q4,q5⟩:=a2k (ty:=o.type) hτ hu hd h0 (y8.nil w ι M d.size) hn1 rfl (base:=A) (sLen:=0) (sCap:=0) (U6 (by simp) (.inl rfl)) hn2 (by simp;omega) (by simpa using hbd)
   refine p5 (L6 ho hc ht ha (by rw [hv];exact q1)) ?_
   simp only [List.length_nil,Nat.zero_add,List.nil_append,List.take_nil] at q3 q5 ⊢
   exact hkill (I0.gpost hh hm hF (I0.new rfl rfl rfl rfl (hfr 0 (by simp)) (by omega) q3 q4 hn1.row q2 q5 fun ι' M' hi'=>a0p hi' q3 q4))
set_option maxHeartbeats 1000000 in
theorem ak6 (hτ:C0 P τ) {c:Call} (ho:o.op=.call c) (hc:c.callee=.builtin .append) {t:TypeId} {s x:Operand} (ht:c.argTypes.toList=[t,t]) (ha:c.args.toList=[s,x])
 {Kq:S->List Blk->Prop} {Kg:S->Hp->Prop} (h:a9z τ ev H H.length t s x Kq Kg):(∃ s B,Kq s B∧QOp P o ev H s B)∨(∃ s H',Kg s H'∧GOp P o ev H s H'):=by
 unfold a9z at h
 split at h
 rotate_left
 ·exact h.elim
 rename_i e _ _ _ _ hte
 have hu:=K5 hτ hte
 split at h
 rotate_left
 ·exact h.elim
 rename_i d hd
 obtain ⟨hb,h⟩:=W7 h
 have h0:d.size≠0:=by intro e;simp [e] at hb
 obtain ⟨xr,h,hx⟩:=aK9 hτ hu h
 obtain ⟨i,hi,hsz,hby,z,hz,hzs,hone,hzl⟩:=(hτ.td _ _ hd).info
 split at h
 ·rename_i sz rows hs
  obtain ⟨hbd,h⟩:=h
  refine .inl ⟨_,_,h,fun a w ι M he hh hm hf=>?_⟩
  obtain ⟨news,hn1,hn2,_⟩:=hx a w ι M he hh
  have hr:=(he.to hs).inv_t
  generalize hv:a.eval s=v at *
  cases hr with
  |@sl _ _ _ b off cap A f hrow hcap hmax hk hnil hA hc' hr=>
   obtain ⟨rfl,rfl,rfl⟩:=hnil rfl
   by_cases hxr:xr=[]
   ·subst hxr
    have:news=[]:=lbF (by rw [hn1.len];simp)
    subst this
    rw [← hsz] at hn2
    have hrun:=run_append_nothing (P:=P) w t t o.type e i hu hi none 0 0 (lbQ _) (a.eval x) hn2
    exact p5 (L6 ho hc ht ha (by rw [hv];exact hrun)) I0.nil
   ·have hpos:0<xr.length:=List.length_pos_iff.2 hxr
    obtain ⟨cap,cur,q1,q2,q3,q4,q5⟩:=a2k (ty:=o.type) hτ hu hd h0 (y8.nil w ι M d.size) hn1 rfl (base:=none) (sLen:=0) (sCap:=0) (U6 (by simp) (.inl rfl)) hn2 (by omega) (by simpa using hbd)
    refine p5 (L6 ho hc ht ha (by rw [hv];exact q1)) ?_
    simp only [Nat.zero_add,List.nil_append] at q3 q5 ⊢
    exact I0.new rfl rfl rfl rfl (hf 0 (by simp)) (by omega) q3 q4 hn1.row q2 q5 fun ι' M' hi'=>a0p hi' q3 q4
 ·rename_i sz rows hs
  obtain ⟨⟨hcd,hbd⟩,h⟩:=h
  refine .inl ⟨_,_,h,fun a w ι M he hh hm hf=>?_⟩
  obtain ⟨news,hn1,hn2,_⟩:=hx a w ι M he hh
  have hr:=(he.to hs).inv_t
  generalize hv:a.eval s=v at *
  cases hr with
  |@sl _ _ _ b off cap A f hrow hcap hmax hk hnil hA hc' hr=>
   obtain rfl:=hk rfl
   by_cases hxr:xr=[]
   ·subst hxr
    have hr0:rows=[]:=by
     rcases hcd with h|⟨h,_⟩
     ·exact lbF h
     ·simp at h
    subst hr0
    have:news=[]:=lbF (by rw [hn1.len];simp)
    subst this
    rw [← hsz] at hn2
    have hrun:=run_append_nothing (P:=P) w t t o.type e i hu hi A 0 0 (lbQ _) (a.eval x) hn2
    exact p5 (L6 ho hc ht ha (by rw [hv];exact hrun)) I0.nil
   ·have hpos:0<xr.length:=List.length_pos_iff.2 hxr
    have hbase:∃vals,y8 w ι M d.size (toC rows) vals∧(vals=[]∨∃b off,A=some ⟨b,off,none⟩∧∀q u,vals[q]? =some u->w.cell? ⟨b,off+q,none⟩=some u):=by
     by_cases hr0:rows=[]
     ·subst hr0;exact ⟨[],y8.nil w ι M d.size,.inl rfl⟩
     ·have hsz':sz=d.size:=by
       rcases hcd with h|⟨_,h⟩
       ·exact absurd (lbF h) hr0
       ·exact h
      subst hsz'
      obtain ⟨_,vals,h1,h2⟩:=aO8 (ι:=ι) (RT.sl f hrow hcap hmax hk hnil hA hc' hr)
      exact ⟨vals,h1,.inr (h2 hr0)⟩
    obtain ⟨vals,hv1,hv2⟩:=hbase
    have hl:(toC rows).length=rows.length:=by simp [toC]
    obtain ⟨cap,cur,q1,q2,q3,q4,q5⟩:=a2k (ty:=o.type) hτ hu hd h0 hv1 hn1 hl (base:=A) (sCap:=rows.length) (U6 (by rw [hv1.len,hl]) hv2) hn2 (by omega) (by rw [hl];exact hbd)
    refine p5 (L6 ho hc ht ha (by rw [hv];exact q1)) ?_
    exact I0.new rfl rfl rfl rfl (hf 0 (by simp)) (by omega) (by rw [lbq,hl];exact q3) q4 (hv1.append hn1).row q2 q5 fun ι' M' hi'=>a0p hi' q3 q4
 ·rename_i id lo len hs
  obtain ⟨k,hk,h⟩:=N1 h
  obtain ⟨hbk,h⟩:=C5 h
  have hbk:k.size=d.size∧k.elem=e:=by simpa using hbk
  obtain ⟨hlv,⟨hap,⟨hlen,hbd⟩,h⟩|⟨hap,⟨hlen,hbd⟩,h⟩⟩:=ay5 h
  ·rw [L4,a38] at h
   have:=a8X hτ ho hc ht ha hu hd h0 hx hs hk hlv (Nat.le_of_eq hlen) hbd hbk (kd:=a42 k) (ap:=true) (.inr ⟨rfl,rfl,hlen⟩)
   rw [hlen,lbn (lbQ _)] at this
   rw [hlen] at h
   exact .inr ⟨_,_,h,this⟩
  ·rw [L4,a38] at h
   exact .inr ⟨_,_,h,a8X hτ ho hc ht ha hu hd h0 hx hs hk hlv hlen hbd hbk (.inl ⟨rfl,hap⟩)⟩
 ·exact h.elim
theorem al1 {z:Array Value} {size n i j:Nat} (hz:z.size=size) (hi:i<n) (hj:j<size):(Builtin.zeroCells z n)[i*size+j]? =z[j]?:=by
 rw [← a2K hz hi hj,←hz];rfl
theorem a9f {w:World} {t tx ty e:TypeId} {k:IntKind} {i:TypeInfo} {z:Value} (ht:P.underlying t=some (.slice e)) (hx:P.underlying tx=some (.int k)) (hi:P.info? e=some i) (hz:i.zero=some z) (h0:i.size≠0)
 {m:Nat} (h1:1<=m) (hb:m*(i.bytes+1)<=140737488355328):
 (Builtin.append_ #[t,tx] ty #[.slice none 0 0,.int .i64 m]).run P w=
   .ok (.slice (some ⟨w.heap.size,0,none⟩) m (grownCap w m 0 e)) (w.drew.alloc (.cells (Builtin.zeroCells z.cells m++Builtin.zeroCells z.cells (grownCap w m 0 e - m)) e)):=by
 have hb1:m*i.bytes<=140737488355328:=lbR (Nat.mul_le_mul_left _ (Nat.le_succ _)) hb
 have hb2:m<=140737488355328:=lbR (Nat.le_mul_of_pos_right _ (Nat.succ_pos i.bytes)) hb
 have hfit:=growslice_fits (need:=m) (old:=0) (by omega) hb1
 have h48':¬(281474976710656<Builtin.nextslicecap m 0*i.bytes):=by omega
 have h63':¬(9223372036854775807<(m:Int)):=by omega
 have hbi:(m:Int)*(i.bytes:Int)<=140737488355328:=by
  have:=Int.ofNat_le.2 hb1
  simpa using this
 have h47:¬(281474976710656<(m:Int)*(i.bytes:Int)):=by omega
 have hw:IntKind.i64.wrap (m:Int)=m:=IntWalk.i64_in m ⟨by omega,by omega⟩
 have hm0:¬m=0:=by omega
 have hneg:¬((m:Int)<0):=by omega
 simp [asIntOf,Builtin.append_,run_underlying ht,run_underlying hx,sizeOf,typeInfo,zeroValue,hi,hz,hw,h0,hm0,hneg,h47,h63',h48',Question.forced,Builtin.firstCells,newRow,grownCap,asInt]
 intro h
 rcases Nat.mul_eq_zero.1 h with h|h<;>omega
theorem aI7 (hτ:C0 P τ) {c:Call} (ho:o.op=.call c) (hc:c.callee=.builtin .append) {t t':TypeId} {s x:Operand} (ht:c.argTypes.toList=[t,t']) (ha:c.args.toList=[s,x])
 {Kq:S->List Blk->Prop} (h:b1l τ ev H.length t t' s x Kq):∃s B,Kq s B∧QOp P o ev H s B:=by
 unfold b1l at h
 split at h
 rotate_left
 ·exact h.elim
 rename_i e _ _ _ _ k _ _ _ _ hte htx
 have hu:=K5 hτ hte
 have hux:P.underlying t'=some (.int k):=by
  obtain ⟨u,h1,h2⟩:=(hτ.td _ _ htx).und
  obtain ⟨_,rfl⟩:=h2
  exact h1
 split at h
 rotate_left
 ·exact h.elim
 rename_i d hd
 obtain ⟨hb,h⟩:=W7 h
 have h0:d.size≠0:=by intro e;simp [e] at hb
 obtain ⟨i,hi,hsz,hby,z,hz,hzs,hone,hzl⟩:=(hτ.td _ _ hd).info
 split at h
 rotate_left
 ·exact h.elim
 rename_i sz rows m hs hx
 obtain ⟨⟨hm1,hbd⟩,h⟩:=h
 rw [a0I] at h
 refine ⟨_,_,h,fun a w ι M he hh hm hf=>?_⟩
 have hr:=(he.to hs).inv_t
 have hxv:=(he.to hx).inv_atm
 generalize hv:a.eval s=v at *
 cases hr with
 |@sl _ _ _ b off cap A f hrow hcap hmax hk hnil hA hc' hr=>
  obtain ⟨rfl,rfl,rfl⟩:=hnil rfl
  obtain ⟨q,rfl⟩:∃q:Nat,m=q:=⟨m.toNat,by omega⟩
  simp only [lbX] at hbd
  have hrun:=a9f (P:=P) (w:=w) (ty:=o.type) hu hux hi hz (by omega) (m:=q) (by omega) (by rw [hby];exact hbd)
  have hzc:z.cells.size=i.size:=by rw [hsz,←hzl,←hzs];simp
  have hb2:q<=140737488355328:=lbR (Nat.le_mul_of_pos_right _ (Nat.succ_pos d.bytes)) hbd
  have hge:=grownCap_ge w q 0 e
  have hmx:=grownCap_le_maxLen w q 0 e (aY3 hb2)
  obtain ⟨ha1,ha2⟩:=a2H.const (w:=w) (ι:=ι) (M:=M) (vs:=z.cells) (by rw [hzs];exact hone)
  rw [hzs] at ha1 ha2
  refine p5 (w':=w.drew.alloc (.cells (Builtin.zeroCells z.cells q++Builtin.zeroCells z.cells (grownCap w q 0 e - q)) e)) (v:=.slice (some ⟨w.heap.size,0,none⟩) q (grownCap w q 0 e)) ?_ ?_
  ·obtain ⟨callee,args,argTypes⟩:=c
   simp only at hc ht ha
   subst hc
   obtain rfl:argTypes=#[t,t']:=by apply Array.ext';simpa using ht
   obtain rfl:args=#[s,x]:=by apply Array.ext';simpa using ha
   simp [execOp,ho,resolve,invoke,builtin,hv,hxv,hrun]
  ·simp only [lbX]
   refine I0.new (cap:=grownCap w q 0 e) rfl rfl rfl rfl (hf 0 (by simp)) (by omega) (by simpa using hge) hmx ?_ ?_ ?_ fun ι' M' hi'=>a0p hi' hge hmx
   ·intro r hr
    rw [(List.mem_replicate.1 hr).2,←ha1,hzc,hsz]
   ·rw [Array.size_append,size_zeroCells,size_zeroCells,hzc,hsz,←Nat.add_mul]
    congr 1;omega
   ·intro i' j c' hij
    obtain ⟨row,hr1,hr2⟩:=C1 hij
    rw [lbk] at hr1
    split at hr1
    ·rename_i hlt
     injection hr1 with hr1
     subst hr1
     obtain ⟨u,q1,q2⟩:=ha2 j c' hr2
     have hj:j<i.size:=by rw [← hzc];exact (lb4.1 q1).1
     refine ⟨u,?_,q2⟩
     have hlt2:i'*d.size+j<q*d.size:=by
      have:i'*d.size+d.size<=q*d.size:=by rw [← lbU];exact lbT _ hlt
      omega
     rw [Array.getElem?_append_left (by rw [size_zeroCells,hzc,hsz];exact hlt2),←hsz,al1 hzc hlt hj,q1]
    ·cases hr1
theorem aQ3 (hτ:C0 P τ) {c:Call} (ho:o.op=.call c) (hc:c.callee=.builtin .cap) {t:TypeId} {x:Operand} (ht:c.argTypes.toList=[t]) (ha:c.args.toList=[x]) {K:S->Prop}
 (h:b9R τ t (ev x) K):∃s,K s∧QOp P o ev H s []:=by
 obtain ⟨callee,args,argTypes⟩:=c
 simp only at hc ht ha
 subst hc
 obtain rfl:argTypes=#[t]:=by apply Array.ext';simpa using ht
 obtain rfl:args=#[x]:=by apply Array.ext';simpa using ha
 unfold b9R at h
 split at h
 ·rename_i e _ _ _ _ hte
  have hu:=K5 hτ hte
  split at h
  ·rename_i sz rows hx
   refine ⟨_,h,l9 fun a w ι M he hh=>⟨.int .i64 0,?_,.int⟩⟩
   have hr:=(he.to hx).inv_t
   generalize hv:a.eval x=v at *
   cases hr with
   |@sl _ _ _ b off cap A f hrow hcap hmax hk hnil hA hc' hr=>
    obtain ⟨rfl,rfl,rfl⟩:=hnil rfl
    simp [execOp,ho,resolve,invoke,builtin,Builtin.cap_,hv,run_underlying hu,goInt]
  ·exact h.elim
 ·exact h.elim
end
end
section
open Go.RowKit
section
variable {P:Program} {τ:Tab} {o:Oper} {ev:Operand->S} {H:Hp}
theorem F4.store {w w':World} {ι:Io} {M:Ms} (hH:j8 w ι M H) (hM:MB w M) (hF:a0f ι H.length) {id b cap size:Nat} {k k':Blk} (hk:H[id]? =some k) (hl:k.mode=.live) (hap:k.app=false)
 (hi:ι id=some (.blk b cap size)) (hl':k'.mode=.live) (hos:w'.os=w.os) (htape:w'.tape=w.tape) (hout:w'.output=w.output)
 (hsize:w'.heap.size=w.heap.size) (hkeep:∀b',b'≠b->w'.heap[b']? =w.heap[b']?) (hnew:G4 w' ι M k' (.blk b cap size)):
 F4 w ι M H .junk (H.set id k') undef w':=by
 have hMb:M b:=hH.liv id k hk hl b cap size hi
 have hget:∀j kk,(H.set id k')[j]? =some kk->(j=id∧kk=k')∨(j≠id∧H[j]? =some kk):=fun j kk hj=>L5 hj
 refine ⟨ι,M,.junk,⟨?_,?_,?_,?_,?_⟩,fun b' h=>by rw [hsize];exact hM b' h,by simpa using hF,⟨hos,htape,hout,by omega,?_,fun _ _=>rfl,fun b' h=>.inl h,fun b' h=>.inl h,?_,by simp⟩⟩
 ·intro j kk hj hd l hl2
  rcases hget j kk hj with ⟨rfl,rfl⟩|⟨h1,h2⟩
  ·rw [hi] at hl2;injection hl2 with hl2;subst hl2;exact hnew
  ·exact hH.other hk hl hi hap (fun b' _ h=>hkeep b' h) (fun b' h=>.inl h) (fun _ _ h=>h) j kk h1 h2 hd l hl2
 ·intro j kk hj hm
  rcases hget j kk hj with ⟨rfl,rfl⟩|⟨h1,h2⟩
  ·exact hH.liv j k hk hl
  ·exact hH.liv j kk h2 hm
 ·intro j kk hj hm
  rcases hget j kk hj with ⟨rfl,rfl⟩|⟨h1,h2⟩
  ·rw [hl'] at hm;cases hm
  ·exact hH.fro j kk h2 hm
 ·intro j j' kk kk' hj hj' hm hm'
  rcases hget j kk hj with ⟨rfl,rfl⟩|⟨h1,h2⟩<;>rcases hget j' kk' hj' with ⟨rfl,rfl⟩|⟨h1',h2'⟩
  ·intros;rfl
  ·exact hH.inj _ _ _ _ hk h2' hl hm'
  ·exact hH.inj _ _ _ _ h2 hk hm hl
  ·exact hH.inj _ _ _ _ h2 h2' hm hm'
 ·intro j j' kk kk' hj hj' hm hm' b' c s c' s' hij hij'
  rcases hget j kk hj with ⟨rfl,rfl⟩|⟨h1,h2⟩
  ·rw [hl'] at hm;cases hm
  ·rcases hget j' kk' hj' with ⟨rfl,rfl⟩|⟨h1',h2'⟩
   ·have:=(hH.old _ _ _ _ h2 hk hm hl _ _ _ _ _ hij hij').1
    rw [hap] at this;cases this
   ·exact hH.old _ _ _ _ h2 h2' hm hm' _ _ _ _ _ hij hij'
 ·intro b' _ hnl
  exact hkeep b' (by rintro rfl;exact hnl ⟨id,k,cap,size,hk,hl,hi⟩)
 ·rintro b' ⟨j,kk,c',s',hj,hm,hi'⟩
  rcases hget j kk hj with ⟨rfl,rfl⟩|⟨h1,h2⟩
  ·exact .inl ⟨j,k,c',s',hk,hl,hi'⟩
  ·exact .inl ⟨j,kk,c',s',h2,hm,hi'⟩
theorem a9r {t:TypeId} {d:TD} (h:av0 P t d) {w:World} {b off:Nat} {e:TypeId} {cur:Array Value} {v:Value} (hg:w.heap[b]? =some (.cells cur e (0,0))) (hs:v.cells.size=d.size)
 (hl:off+v.cells.size<=cur.size) (h1:∀u ∈ v.cells.toList,u.oneCell'=true):
 (Instr.storeAt t (.pointer (some ⟨b,off,none⟩)) v).run P w=.ok () (w.setRow b (cur.toList.take off++v.cells.toList++cur.toList.drop (off+v.cells.size)).toArray):=by
 have:=run_storeCells_at P b off e v.cells.toList 0 cur w hg (by simpa using hl) h1
 simp only [Nat.add_zero,Array.length_toList] at this
 simp [Instr.storeAt,Instr.sureAddr,storeVar,a3f h,hs,this]
theorem av6 (hτ:C0 P τ) {t:TypeId} {x v:Operand} (ho:o.op=.store t x v) {K:Hp->Prop} (h:aA5 τ ev H t x v K):∃H',K H'∧GOp P o ev H .junk H':=by
 unfold aA5 at h
 split at h
 ·exact h.elim
 rename_i d hd
 split at h
 rotate_left
 ·exact h.elim
 rename_i id r o' hx
 obtain ⟨k,hk,h⟩:=N1 h
 obtain ⟨hlv,hap,h⟩:=a3x h
 obtain ⟨cs,h,hcs⟩:=a1K h
 obtain ⟨hsz,h⟩:=C5 h
 have hsz:cs.length=d.size:=by simpa using hsz
 obtain ⟨row,hrow,h,hbox⟩:=aK6 h
 by_cases hne:cs=[]
 · -- nothing is stored
   subst hne
   have hov:∀{kk:List C->Prop},a4f o' [] row kk->kk row:=fun {kk} hh=>by cases row<;>cases o'<;>exact hh
   have h:=hov h
   have hsame:∀rows,q9 k rows=k↔rows=k.rows:=fun rows=>⟨fun e=>by rw [← congrArg Blk.rows e];rfl,fun e=>by subst e;cases k;rfl⟩
   have hset:H.set id k=H:=by
    apply List.ext_getElem?
    intro j
    by_cases hj:j=id
    ·subst hj;rw [List.getElem?_set_self (lbe.1 hk).1,hk]
    ·rw [getElem?_set_ne' hj]
   have hK:K H:=by
    split at h
    ·rename_i hb
     rw [L4,(hsame _).2 (by rw [(hbox hb).1]),hset] at h
     exact h
    ·rw [L4,(hsame _).2 (by
      apply List.ext_getElem?
      intro j
      by_cases hj:j=r
      ·subst hj;rw [List.getElem?_set_self (lbe.1 hrow).1,hrow]
      ·rw [List.getElem?_set_ne (Ne.symm hj)]),hset] at h
     exact h
   refine ⟨H,hK,fun a w ι M he hh hm hF=>?_⟩
   have hv:=(he v).cells hcs
   generalize hvx:a.eval x=vx
   have hr:=(he.to hx).inv_c
   rw [hvx] at hr
   cases hr with
   |@ptr _ _ _ b cap size hi=>
    have hbr:=hh.blk id k hk (by rw [hlv];intro h;cases h) _ hi
    obtain ⟨q1,q2,q3,q4,q5,cur,q6,q7,q8⟩:=hbr
    have hc0:(a.eval v).cells.toList=[]:=lbF (by simpa using hv.1)
    have hrun:(Instr.storeAt t (.pointer (some ⟨b,r*size+o',none⟩)) (a.eval v)).run P w=.ok () w:=by
     simp [Instr.storeAt,Instr.sureAddr,storeVar,a3f (hτ.td t d hd),hc0,storeCells,show (a.eval v).cells.size=d.size by rw [hv.1];exact hsz]
    refine an3 (by simp only [execOp,ho,hvx,Sem.run_bind,hrun,Result.andThen_ok];rfl) ⟨ι,M,.junk,hh,hm,hF,a3R.refl w ι M H⟩
 ·obtain ⟨hlen,h'⟩:=a7J h hne
  clear h
  revert h'
  intro h
  have hH':∃rows',K (H.set id (q9 k rows'))∧rows'.length=k.rows.length∧rows'=k.rows.set r (row.take o'++cs++row.drop (o'+cs.length)):=by
   split at h
   ·rename_i hb
    rw [L4] at h
    obtain ⟨e1,e2⟩:=hbox hb
    exact ⟨_,h,by rw [e1];rfl,by rw [e1,e2];rfl⟩
   ·rw [L4] at h
    exact ⟨_,h,by simp,rfl⟩
  obtain ⟨rows',hK,hrl,hrows'⟩:=hH'
  refine ⟨_,hK,fun a w ι M he hh hm hF=>?_⟩
  have hv:=(he v).cells hcs
  generalize hvx:a.eval x=vx
  have hr:=(he.to hx).inv_c
  rw [hvx] at hr
  cases hr with
  |@ptr _ _ _ b cap size hi=>
   have hbr:=hh.blk id k hk (by rw [hlv];intro h;cases h) _ hi
   have hMb:=hh.liv id k hk hlv _ _ _ hi
   obtain ⟨q1,q2,q3,q4,q5,cur,q6,q7,q8⟩:=hbr
   have hrlen:row.length=size:=q5 row (lbm hrow)
   have hr0:r<k.rows.length:=(lbe.1 hrow).1
   have hmul:r*size+size<=cap*size:=by rw [← lbU];exact lbT _ (by omega)
   have hfit:r*size+o'+(a.eval v).cells.size<=cur.size:=by rw [hv.1,q7];omega
   have hrun:=a9r (hτ.td t d hd) (b:=b) (off:=r*size+o') q6 (by rw [hv.1];exact hsz) hfit hv.one
   refine an3 (by simp only [execOp,ho,hvx,Sem.run_bind,hrun,Result.andThen_ok];rfl) ?_
   have hkeep:∀b',b'≠b->(w.setRow b (cur.toList.take (r*size+o')++(a.eval v).cells.toList++cur.toList.drop (r*size+o'+(a.eval v).cells.size)).toArray).heap[b']? =w.heap[b']?:=fun b' hb'=>setRow_other w b b' _ hb'
   refine F4.store hh hm hF hk hlv hap hi (by exact hlv) rfl rfl rfl (by simp) hkeep ⟨q1,q2,by show rows'.length<=cap;omega,q4,?_,_,setRow_heap w b cur _ k.elem _ q6,?_,?_⟩
   ·show ∀r ∈ rows',r.length=size
    rw [hrows']
    intro r' hr'
    rcases List.mem_or_eq_of_mem_set hr' with h|rfl
    ·exact q5 r' h
    ·simp;omega
   ·simp only [List.size_toArray,lbq,lbs,List.length_drop,Array.length_toList]
    omega
   ·intro i j c hc
    obtain ⟨row',s1,s2⟩:=C1 hc
    have s1':rows'[i]? =some row':=s1
    rw [hrows'] at s1'
    have keepc:∀{c:C} {u:Value},RC w ι M c u->RC (w.setRow b (cur.toList.take (r*size+o')++(a.eval v).cells.toList++cur.toList.drop (r*size+o'+(a.eval v).cells.size)).toArray) ι M c u:=
     fun h=>h.keep (fun b' _ hb'=>hkeep b' (by rintro rfl;exact hb' hMb)) (fun b' h=>.inl h) (fun _ _ h=>h)
    have hlt:i<k.rows.length:=by have:=(lbe.1 s1).1;rw [← hrl];exact this
    by_cases hir:i=r
    ·subst hir
     rw [List.getElem?_set_self hlt] at s1'
     injection s1' with s1'
     subst s1'
     have hj:j<size:=by have:=(lbe.1 s2).1;simp at this;omega
     by_cases hj1:j<o'
     ·rw [lbD,lbb (by simp;omega),List.getElem?_take_of_lt hj1] at s2
      obtain ⟨u,t1,t2⟩:=q8 i j c (B1 hrow s2)
      refine ⟨u,?_,keepc t2⟩
      rw [List.getElem?_toArray,lbD,lbb (by simp;omega),List.getElem?_take_of_lt (by omega)]
      simpa using t1
     ·by_cases hj2:j<o'+cs.length
      ·rw [lbb (by simp;omega),lbc (by simp;omega)] at s2
       rw [show (row.take o').length=o' by simp;omega] at s2
       obtain ⟨u,t1,t2⟩:=hv.2 _ _ s2
       refine ⟨u,?_,keepc t2⟩
       have hvl:=hv.1
       rw [List.getElem?_toArray,lbb (by simp;omega),lbc (by simp;omega)]
       rw [show (cur.toList.take (i*size+o')).length=i*size+o' by simp;omega,show i*size+j - (i*size+o')=j - o' by omega]
       simpa using t1
      ·rw [lbc (by simp;omega),lbj] at s2
       rw [show (row.take o'++cs).length=o'+cs.length by simp;omega,show o'+cs.length+(j - (o'+cs.length))=j by omega] at s2
       obtain ⟨u,t1,t2⟩:=q8 i j c (B1 hrow s2)
       refine ⟨u,?_,keepc t2⟩
       have hvl:=hv.1
       rw [List.getElem?_toArray,lbc (by simp;omega),lbj]
       rw [show (cur.toList.take (i*size+o')++(a.eval v).cells.toList).length=i*size+o'+(a.eval v).cells.size by simp;omega,
        show i*size+o'+(a.eval v).cells.size+(i*size+j - (i*size+o'+(a.eval v).cells.size))=i*size+j by omega]
       simpa using t1
    ·rw [List.getElem?_set_ne (Ne.symm hir)] at s1'
     obtain ⟨u,t1,t2⟩:=q8 i j c (B1 s1' s2)
     refine ⟨u,?_,keepc t2⟩
     have hj:j<size:=by rw [← q5 row' (lbm s1')];exact (lbe.1 s2).1
     have hvl:=hv.1
     rcases Nat.lt_or_gt_of_ne hir with hlt'|hgt'
     ·have:i*size+size<=r*size:=by rw [← lbU];exact lbT _ hlt'
      rw [List.getElem?_toArray,lbD,lbb (by simp;omega),List.getElem?_take_of_lt (by omega)]
      simpa using t1
     ·have:r*size+size<=i*size:=by rw [← lbU];exact lbT _ hgt'
      rw [List.getElem?_toArray,lbc (by simp;omega),lbj]
      rw [show (cur.toList.take (r*size+o')++(a.eval v).cells.toList).length=r*size+o'+(a.eval v).cells.size by simp;omega,
       show r*size+o'+(a.eval v).cells.size+(i*size+j - (r*size+o'+(a.eval v).cells.size))=i*size+j by omega]
      simpa using t1
theorem an4 {size:Nat}:∀(parts:List (Nat × S)) (rows:List (List C)) {k:List (List C)->Prop},aG1 size rows parts k->∃c,k c∧aG1 size rows parts (·=c)
 |[],rows,k,h=>⟨rows,h,rfl⟩
 |(i,s)::rest,rows,k,h=>by
  obtain ⟨cs,h,hcs⟩:=a64 h
  obtain ⟨hb,h⟩:=C5 h
  rw [L4] at h
  obtain ⟨c,h1,h2⟩:=an4 rest _ h
  refine ⟨c,h1,a3Z hcs ?_⟩
  rintro _ rfl
  simp only [hb,cond_true]
  rw [L4]
  exact h2
theorem as6 {w:World} {ι:Io} {M:Ms} {a:Act} (he:S4 w ι M ev a) {size:Nat} (h0:0<size):∀(parts:List (Nat × Operand)) (rows:List (List C)) (arr:Array Value) {k:List (List C)->Prop},
 y8 w ι M size rows arr.toList->aG1 size rows (parts.map fun p=>(p.1,ev p.2)) k->
 ∃rows',k rows'∧rows'.length=rows.length∧∃r,Instr.fill (fun i=>some (i*size,size)) arr (parts.map fun p=>(p.1,a.eval p.2))=some r∧y8 w ι M size rows' r.toList
 |[],rows,arr,k,hr,h=>⟨rows,h,rfl,arr,rfl,hr⟩
 |(i,x)::rest,rows,arr,k,hr,h=>by
  obtain ⟨cs,h,hcs⟩:=a1K h
  obtain ⟨hb,h⟩:=C5 h
  rw [L4] at h
  have hb:cs.length=size∧i<rows.length:=by simpa [Nat.blt_eq] using hb
  have hv:=(he x).cells hcs
  have hlen:=hr.len
  rw [Array.length_toList] at hlen
  have hmul:i*size+size<=rows.length*size:=by rw [← lbU];exact lbT _ hb.2
  obtain ⟨r0,hr0,hs0,hm0⟩:=ac7 (i*size) (a.eval x).cells arr (by rw [hv.1,hb.1,hlen];exact hmul)
  have hok:y8 w ι M size (rows.set i cs) r0.toList:=by
   refine ⟨by rw [Array.length_toList,hs0,hlen,List.length_set],?_,?_⟩
   ·intro r hr'
    rcases List.mem_or_eq_of_mem_set hr' with h|rfl
    ·exact hr.row r h
    ·exact hb.1
   ·intro i' j c hc
    obtain ⟨row,s1,s2⟩:=C1 hc
    rw [Array.getElem?_toList,hm0,hv.1,hb.1]
    by_cases hi:i'=i
    ·subst hi
     rw [List.getElem?_set_self hb.2] at s1
     injection s1 with s1
     subst s1
     have hj:j<size:=by rw [← hb.1];exact (lbe.1 s2).1
     rw [if_pos (by omega),show i'*size+j - i'*size=j by omega]
     exact hv.2 j c s2
    ·rw [List.getElem?_set_ne (Ne.symm hi)] at s1
     have hj:j<size:=by rw [← hr.row row (lbm s1)];exact (lbe.1 s2).1
     have hno:¬(i*size<=i'*size+j∧i'*size+j<i*size+size):=by
      rintro ⟨h1,h2⟩
      rcases Nat.lt_or_gt_of_ne hi with h|h
      ·have:i'*size+size<=i*size:=by rw [← lbU];exact lbT _ h
       omega
      ·have:i*size+size<=i'*size:=by rw [← lbU];exact lbT _ h
       omega
     rw [if_neg hno]
     have:=hr.cell i' j c (B1 s1 s2)
     simpa using this
  obtain ⟨rows',hk,hl',r,q1,q2⟩:=as6 he h0 rest _ r0 hok h
  refine ⟨rows',hk,by simpa using hl',r,?_,q2⟩
  simp only [List.map_cons,Instr.fill]
  rw [if_neg (by have q1:=hv.1;simp;omega),hr0]
  exact q1
theorem b1g {w:World} {ι:Io} {M:Ms} {z:Array Value} {size n:Nat} (hz:z.size=size) (hone:∀v ∈ z.toList,v.oneCell'=true):y8 w ι M size (List.replicate n (z.toList.map E3)) (madeCells z (n*size)).toList:=by
 refine ⟨by simp [madeCells],?_,?_⟩
 ·intro r hr
  rw [(List.mem_replicate.1 hr).2];simp [hz]
 ·intro i j c hc
  obtain ⟨row,s1,s2⟩:=C1 hc
  rw [lbk] at s1
  split at s1
  ·rename_i hi
   injection s1 with s1
   subst s1
   obtain ⟨u,q1,q2⟩:=(a2H.const (w:=w) (ι:=ι) (M:=M) hone).2 j c s2
   have hj:j<size:=by rw [← hz];exact (lb4.1 q1).1
   exact ⟨u,by rw [Array.getElem?_toList,a2K hz hi hj];exact q1,q2⟩
  ·cases s1
theorem a7w (hτ:C0 P τ) {t:TypeId} {len:Nat} {parts:Array (Nat × Operand)} (ho:o.op=.buildSlice t len parts) {K:S->List Blk->Prop} (h:a2e τ ev H.length t len parts.toList K):
 ∃s B,K s B∧QOp P o ev H s B:=by
 unfold a2e at h
 split at h
 rotate_left
 ·exact h.elim
 rename_i e _ _ _ _ ht
 have hu:=K5 hτ ht
 split at h
 rotate_left
 ·exact h.elim
 rename_i d hd
 obtain ⟨hb,h⟩:=W7 h
 rw [a0I] at h
 have hb:d.size≠0∧len*d.size<16777216:=by
  rw [Bool.or_eq_false_iff] at hb
  refine ⟨by intro e;simp [e] at hb,?_⟩
  have:=hb.2
  rw [← lbP,Nat.ble_eq] at this
  omega
 obtain ⟨i,hi,hsz,hby,z,hz,hzs,hone,hzl⟩:=(hτ.td _ _ hd).info
 have hzsz:z.cells.size=d.size:=by rw [← hzl,←hzs];simp
 obtain ⟨rows,h,hdet⟩:=an4 _ _ h
 have key:∀(a:Act) (w:World) (ι:Io) (M:Ms),S4 w ι M ev a->∃r:Array Value,(Instr.buildSlice t len (parts.map fun (i,x)=>(i,a.eval x))).run P w=.ok (.slice (some ⟨w.heap.size,0,none⟩) len len) (w.alloc (.cells r e))∧
  y8 w ι M d.size rows r.toList∧rows.length=len:=by
  intro a w ι M he
  obtain ⟨rows',rfl,hl,r,q1,q2⟩:=as6 he (size:=d.size) (by omega) parts.toList _ (madeCells z.cells (len*d.size)) (by
   have:=b1g (w:=w) (ι:=ι) (M:=M) (n:=len) hzsz (by rw [hzs];exact hone)
   rw [hzs] at this
   exact this) hdet
  by_cases hl0:len=0
  ·subst hl0
   have hr0:r=#[]:=by
    have:=q2.len
    rw [hl] at this
    simp at this
    exact this
   refine ⟨r,?_,q2,by simpa using hl⟩
   have q1':Instr.fill (fun i=>some (i*d.size,d.size)) #[] (parts.toList.map fun p=>(p.1,a.eval p.2))=some r:=by
    simpa [madeCells,Array.range_zero'] using q1
   simp [Instr.buildSlice,run_underlying hu,sizeOf,typeInfo,hi,hsz,newRow,q1',Array.range_zero']
  ·refine ⟨r,?_,q2,by simpa using hl⟩
   refine run_buildSlice w t e len _ r i z hu hi hz (by rw [hsz];omega) (by rw [hsz];intro h;rcases Nat.mul_eq_zero.1 h with h|h<;>omega) ?_
   rw [a8B,hsz]
   exact q1
 have hown:K (.c (.own H.length 0 len true)) [J8 e d.size rows false]->∃s B,K s B∧QOp P o ev H s B:=fun h=>by
  refine ⟨_,_,h,fun a w ι M he hh hm hf=>?_⟩
  obtain ⟨r,q1,q2,q3⟩:=key a w ι M he
  have hmx:len<=maxLen:=by
   have:len<=len*d.size:=Nat.le_mul_of_pos_right _ (by omega)
   unfold maxLen;omega
  refine p5 (by simp only [execOp,ho,Sem.run_bind,q1,Result.andThen_ok];rfl) ?_
  refine I0.new (cap:=len) (cur:=r) rfl rfl rfl rfl (hf 0 (by simp)) (by omega) (by omega) hmx q2.row (by have:=q2.len;rw [q3] at this;simpa using this) (fun i j c hc=>by
   obtain ⟨u,s1,s2⟩:=q2.cell i j c hc
   exact ⟨u,by simpa using s1,s2⟩) fun ι' M' hi'=>a0p hi' (lbQ _) hmx
 split at h
 ·rename_i rs hrs
  have hrs:=aT6 hrs
  have hdata:∀sk:SK,sk=.full∨sk=.any->K (.c (.t (.sl d.size sk rs))) []->∃s B,K s B∧QOp P o ev H s B:=fun sk hsk h=>by
   refine ⟨_,_,h,fun a w ι M he hh hm hf=>?_⟩
   obtain ⟨r,q1,q2,q3⟩:=key a w ι M he
   refine p5 (by simp only [execOp,ho,Sem.run_bind,q1,Result.andThen_ok];rfl) ?_
   have hext:Ext w (w.alloc (.cells r e)):=⟨rfl,rfl,rfl,by simp,fun b hb=>heap_alloc_old w _ hb⟩
   refine I0.of_none ?_ hext
   have hlen:rs.length=len:=by rw [← q3,hrs];simp [toC]
   have hmx:len<=maxLen:=by
    have:len<=len*d.size:=Nat.le_mul_of_pos_right _ (by omega)
    unfold maxLen;omega
   rw [← hlen]
   have hat:∀i j c,at2 rs i j=some c->at2 rows i j=some (.t c):=fun i j c hc=>by
    obtain ⟨row,s1,s2⟩:=C1 hc
    rw [hrs]
    exact B1 (row:=row.map C.t) (by simp [toC,s1]) (by simp [s2])
   refine .c (.t (.sl (b:=w.heap.size) (off:=0) (fun i j=>r.getD (i*d.size+j) undef) ?_ (lbQ _) (by omega) (fun _=>rfl) (by rcases hsk with rfl|rfl<;>(intro h;cases h)) (fun _=>rfl) ?_ ?_ (by rcases hsk with rfl|rfl<;>exact ⟨(fun h=>nomatch h),(fun h=>nomatch h)⟩)))
   ·intro r' hr'
    have:=q2.row (r'.map C.t) (by rw [hrs];exact lbx.2 ⟨r',hr',rfl⟩)
    simpa using this
   ·intro i j c hc
    obtain ⟨u,s1,s2⟩:=q2.cell _ _ _ (hat i j c hc)
    rw [Array.getElem?_toList] at s1
    refine ⟨?_,fun hM=>absurd (hm _ hM) (by omega)⟩
    have hn:=heap_alloc_new w (.cells r e)
    simp only [World.cell?]
    rw [hn]
    simp [s1]
   ·intro i j c hc
    obtain ⟨u,s1,s2⟩:=q2.cell _ _ _ (hat i j c hc)
    rw [Array.getElem?_toList] at s1
    have:r.getD (i*d.size+j) undef=u:=by simp [s1]
    show RT _ M c (r.getD (i*d.size+j) undef)
    rw [this]
    cases s2 with
    |t s2=>exact s2.keep (fun b hb _=>hext.keep b hb) (fun b h=>.inl h)
  obtain ⟨h|h|h⟩:=h
  ·exact hdata _ (.inl rfl) h
  ·exact hown h
  ·exact hdata _ (.inr rfl) h
 ·exact hown h
theorem a8C {c:Call} (ho:o.op=.call c) (hc:c.callee=.builtin .copy) {t:TypeId} {x s:Operand} (ht:c.argTypes.toList=[t,t]) (ha:c.args.toList=[x,s]) {a:Act} {w w':World} {v:Value}
 (h:(Builtin.copy_ #[t,t] o.type #[a.eval x,a.eval s]).run P w=.ok v w'):(execOp a.eval o).run P w=.ok (.value v) w':=by
 obtain ⟨callee,args,argTypes⟩:=c
 simp only at hc ht ha
 subst hc
 obtain rfl:argTypes=#[t,t]:=by apply Array.ext';simpa using ht
 obtain rfl:args=#[x,s]:=by apply Array.ext';simpa using ha
 simp [execOp,ho,resolve,invoke,builtin,h]
theorem F4.result {w w':World} {ι:Io} {M:Ms} {H H':Hp} {s:S} {v u:Value} {x:Value} (hv:x.oneCell'=true) (h:F4 w ι M H s H' v w'):F4 w ι M H (.c (.t (.atm x))) H' x w':=by
 obtain ⟨ι',M',_,h⟩:=h
 exact ⟨ι',M',.c (.t (.atm hv)),h⟩
theorem aM4 {w:World} {ι:Io} {M:Ms} {k:Blk} {b cap size lo len:Nat} {xr:List (List C)} {news:List Value} {cur:Array Value} (hb:G4 w ι M k (.blk b cap size)) (hcur:w.heap[b]? =some (.cells cur k.elem (0,0)))
 (hl:lo+len<=k.rows.length) (hn:y8 w ι M size xr news) (hcl:cur.size=cap*size) (hlc:k.rows.length<=cap):
 y8 w ι M size (E0 lo len k.rows xr) ((cur.toList.take (lo*size)++news.take ((xr.take len).length*size)++cur.toList.drop (lo*size+(xr.take len).length*size)).take (k.rows.length*size)):=by
 have hxl:(xr.take len).length<=len:=by simp;omega
 generalize hm:(xr.take len).length=m at *
 have m1:lo*size+m*size<=k.rows.length*size:=by rw [← Nat.add_mul];exact lbT _ (by omega)
 have m2:k.rows.length*size<=cap*size:=lbT _ hlc
 have hnl:(news.take (m*size)).length=m*size:=by
  rw [lbs,hn.len]
  refine Nat.min_eq_left (lbT _ ?_)
  rw [← hm];simp;omega
 obtain ⟨o1,a1,a2⟩:=a5a hb (lo:=0) (len:=lo) (by omega)
 obtain ⟨o3,c1,c2⟩:=a5a hb (lo:=lo+m) (len:=k.rows.length - (lo+m)) (by omega)
 rw [List.drop_zero] at a1
 have e3:(k.rows.drop (lo+m)).take (k.rows.length - (lo+m))=k.rows.drop (lo+m):=lbn (by simp)
 rw [e3] at c1
 have hmid:y8 w ι M size (xr.take len) (news.take (m*size)):=by
  refine ⟨by rw [hnl,hm],fun r hr=>hn.row r (List.mem_of_mem_take hr),fun i j c hc=>?_⟩
  obtain ⟨row,s1,s2⟩:=C1 hc
  rw [lbi] at s1
  split at s1
  ·rename_i hi
   obtain ⟨u,t1,t2⟩:=hn.cell _ _ _ (B1 s1 s2)
   have hj:j<size:=by rw [← hn.row row (lbm s1)];exact (lbe.1 s2).1
   have him:i<m:=by rw [← hm];have:=(lbe.1 s1).1;simp;omega
   have hlt:i*size+j<m*size:=by
    have:i*size+size<=m*size:=by rw [← lbU];exact lbT _ him
    omega
   exact ⟨u,by rw [List.getElem?_take_of_lt hlt];exact t1,t2⟩
  ·cases s1
 have hall:=a1.append (hmid.append c1)
 have ho1:o1=cur.toList.take (lo*size):=by
  apply List.ext_getElem?
  intro q
  have hlen:o1.length=lo*size:=by rw [a1.len,lbs,Nat.min_eq_left (by omega)]
  by_cases hq:q<lo*size
  ·have e1:=a2 q _ (lbf (by omega))
   simp only [World.cell?,hcur,Nat.zero_mul,Nat.zero_add] at e1
   rw [lbf (by omega),List.getElem?_take_of_lt hq,←e1]
   simp
  ·rw [lbd (by omega),lbd (by simp;omega)]
 have hl3:o3.length=k.rows.length*size - (lo*size+m*size):=by
  rw [c1.len,List.length_drop,←Nat.add_mul,←Nat.sub_mul]
 have ho3:o3=(cur.toList.drop (lo*size+m*size)).take (k.rows.length*size - (lo*size+m*size)):=by
  apply List.ext_getElem?
  intro q
  by_cases hq:q<k.rows.length*size - (lo*size+m*size)
  ·have e1:=c2 q _ (lbf (by omega))
   simp only [World.cell?,hcur,Nat.add_mul] at e1
   rw [lbf (by omega),List.getElem?_take_of_lt hq,lbj,←e1]
   simp
  ·rw [lbd (by omega),lbd (by simp;omega)]
 have hfin:o1++(news.take (m*size)++o3)=(cur.toList.take (lo*size)++news.take (m*size)++cur.toList.drop (lo*size+m*size)).take (k.rows.length*size):=by
  rw [ho1,ho3,List.take_append,lbn (l:=cur.toList.take (lo*size)++news.take (m*size)) (by rw [lbq,hnl];simp;omega),lbD]
  congr 3
  rw [lbq,hnl]
  simp only [lbs,Array.length_toList]
  rw [Nat.min_eq_left (by omega)]
 rw [← hfin]
 unfold E0
 rw [hm]
 exact hall
theorem aJ7 (hτ:C0 P τ) {c:Call} (ho:o.op=.call c) (hc:c.callee=.builtin .copy) {t:TypeId} {x s:Operand} (ht:c.argTypes.toList=[t,t]) (ha:c.args.toList=[x,s])
 {Kg:S->Hp->Prop} (h:b0E τ ev H t x s Kg):∃s H',Kg s H'∧GOp P o ev H s H':=by
 unfold b0E at h
 split at h
 rotate_left
 ·exact h.elim
 rename_i e _ _ _ _ hte
 have hu:=K5 hτ hte
 split at h
 rotate_left
 ·exact h.elim
 rename_i d hd
 obtain ⟨hb0,h⟩:=W7 h
 have h0:d.size≠0:=by intro e;simp [e] at hb0
 obtain ⟨xr,h,hx⟩:=aK9 hτ hu h
 obtain ⟨i,hi,hsz,hby,z,hz,hzs,hone,hzl⟩:=(hτ.td _ _ hd).info
 split at h
 rotate_left
 ·exact h.elim
 rename_i id lo len app hs
 obtain ⟨k,hk,h⟩:=N1 h
 obtain ⟨hlv,hap,h⟩:=a3x h
 obtain ⟨hbk,hlen,h⟩:=C5 h
 have hbk:k.size=d.size∧k.elem=e:=by simpa using hbk
 rw [L4] at h
 refine ⟨_,_,h,fun a w ι M he hh hm hF=>?_⟩
 obtain ⟨news,hn1,hn2,hn3⟩:=hx a w ι M he hh
 have hr:=(he.to hs).inv_c
 generalize hv:a.eval x=v at *
 have hmin:(xr.take len).length=Nat.min xr.length len:=by rw [lbs];exact Nat.min_comm _ _
 have hload:(Builtin.firstCells i.size (Nat.min xr.length len) (a.eval s)).run P w=.ok (news.take ((xr.take len).length*d.size)).toArray w:=by
  rw [← hmin]
  rcases hn3 with h0'|⟨ad,c',hxe,hxc⟩
  ·have hz0:(xr.take len).length=0:=by rw [lbs];omega
   have hxr:xr=[]:=lbF h0'
   subst hxr
   have:=hn2.cells
   have hnn:news=[]:=lbF (by rw [hn1.len];simp)
   subst hnn
   rw [← hsz] at this
   simpa using this
  ·rw [hxe]
   have hl:=run_loadCells_list (P:=P) w ad (news.take ((xr.take len).length*d.size)) (fun j v hj=>by
    rw [lbi] at hj
    split at hj
    ·exact hxc j v hj
    ·cases hj)
   have hln:(news.take ((xr.take len).length*d.size)).length=(xr.take len).length*i.size:=by
    rw [lbs,hn1.len,hsz]
    refine Nat.min_eq_left (lbT _ ?_)
    rw [lbs];exact Nat.min_le_right _ _
   rw [hln] at hl
   simpa [Builtin.firstCells] using hl
 cases hr with
 |@own _ _ _ _ b cap size A cap' hι q1 q2 q3 q4 q5=>
  have hbr:=hh.blk id k hk (by rw [hlv];intro h;cases h) _ hι
  have hMb:=hh.liv id k hk hlv _ _ _ hι
  obtain rfl:size=d.size:=hbr.1.symm.trans hbk.1
  have hbr2:=hbr
  obtain ⟨r1,r2,r3,r4,r5,cur,r6,r7,r8⟩:=hbr2
  have hcp:=aM4 hbr r6 hlen hn1 r7 r3
  generalize hvals:news.take ((xr.take len).length*d.size)=vals at *
  have hvl:vals.length=(xr.take len).length*d.size:=by
   rw [← hvals,lbs,hn1.len]
   refine Nat.min_eq_left (lbT _ ?_)
   rw [lbs];exact Nat.min_le_right _ _
  have hfit:lo*d.size+vals.length<=cur.size:=by
   rw [hvl,r7,←Nat.add_mul]
   refine lbT _ ?_
   have:(xr.take len).length<=len:=by rw [lbs];exact Nat.min_le_left _ _
   omega
  have hone':∀u ∈ vals,u.oneCell'=true:=fun u hu=>hn1.one u (by rw [← hvals] at hu;exact List.mem_of_mem_take hu)
  have hrows:(E0 lo len k.rows xr).length=k.rows.length:=by
   have:(xr.take len).length<=len:=by rw [lbs];exact Nat.min_le_left _ _
   unfold E0
   simp only [lbq,lbs,List.length_drop]
   simp only [lbs] at this
   omega
  have hst:(storeCells ⟨b,lo*d.size,none⟩ vals).run P w=.ok () (w.setRow b (cur.toList.take (lo*d.size)++vals++cur.toList.drop (lo*d.size+vals.length)).toArray):=by
   have:=run_storeCells_at P b (lo*d.size) k.elem vals 0 cur w r6 (by simpa using hfit) hone'
   simpa using this
  rw [← hvl] at hcp
  have hkeep:∀b',b'≠b->(w.setRow b (cur.toList.take (lo*d.size)++vals++cur.toList.drop (lo*d.size+vals.length)).toArray).heap[b']? =w.heap[b']?:=fun b' hb'=>setRow_other w b b' _ hb'
  have hpost:F4 w ι M H (a8 .i64 (xr.take len).length) (H.set id (q9 k (E0 lo len k.rows xr))) (goInt (xr.take len).length) (w.setRow b (cur.toList.take (lo*d.size)++vals++cur.toList.drop (lo*d.size+vals.length)).toArray):=by
   refine F4.result (u:=undef) rfl (F4.store hh hm hF hk hlv hap hι (by exact hlv) rfl rfl rfl (by simp) hkeep ⟨r1,r2,by show (E0 lo len k.rows xr).length<=cap;rw [hrows];exact r3,r4,hcp.row,_,setRow_heap w b cur _ k.elem _ r6,?_,fun i' j c' hc'=>?_⟩)
   ·simp only [List.size_toArray,lbq,lbs,List.length_drop,Array.length_toList]
    omega
   ·obtain ⟨u,s1,s2⟩:=hcp.cell i' j c' hc'
    rw [lbi] at s1
    split at s1
    ·exact ⟨u,by rw [List.getElem?_toArray];exact s1,s2.keep (fun b' _ hb'=>hkeep b' (by rintro rfl;exact hb' hMb)) (fun b' h=>.inl h) (fun _ _ h=>h)⟩
    ·cases s1
  have hlo:=hn2.len
  by_cases hlz:len=0
  ·subst hlz
   have hv0:vals=[]:=lbF (by rw [hvl];simp)
   subst hv0
   have hw:w.setRow b (cur.toList.take (lo*d.size)++[]++cur.toList.drop (lo*d.size+([]:List Value).length)).toArray=w:=by
    simp only [storeCells,Sem.run_pure] at hst
    injection hst with _ hst
    exact hst.symm
   rw [hw] at hpost
   refine p5 (a8C ho hc ht ha ?_) hpost
   rw [hv]
   have hload0:(Builtin.firstCells i.size 0 (a.eval s)).run P w=.ok #[] w:=by simpa using hload
   cases A<;>simp [Builtin.copy_,run_underlying hu,hlo,sizeOf,typeInfo,hi,hload0,storeCells]
  ·obtain rfl:=q2 (by omega)
   refine p5 (a8C ho hc ht ha ?_) hpost
   rw [hv]
   simp [Builtin.copy_,run_underlying hu,hlo,sizeOf,typeInfo,hi,hload,hst,hmin]
 |@nil _ _ A hι=>
  have hbr:=hh.blk id k hk (by rw [hlv];intro h;cases h) _ hι
  have hkr:k.rows=[]:=hbr
  have e1:xr.take 0=[]:=List.take_zero
  have e2:E0 0 0 k.rows xr=k.rows:=by unfold E0;simp
  have e3:H.set id (q9 k (E0 0 0 k.rows xr))=H:=by
   rw [e2]
   apply List.ext_getElem?
   intro j
   by_cases hj:j=id
   ·subst hj;rw [List.getElem?_set_self (lbe.1 hk).1,hk];rfl
   ·rw [getElem?_set_ne' hj]
  rw [e3,e1] at *
  have hlo:=hn2.len
  refine p5 (v:=goInt 0) (w':=w) (a8C ho hc ht ha ?_) ⟨ι,M,.c (.t (.atm rfl)),hh,hm,hF,a3R.refl w ι M H⟩
  rw [hv]
  have hload0:(Builtin.firstCells i.size 0 (a.eval s)).run P w=.ok #[] w:=by simpa using hload
  cases A<;>simp [Builtin.copy_,run_underlying hu,hlo,sizeOf,typeInfo,hi,hload0,storeCells]
theorem a63 {c:Call} (ho:o.op=.call c) (hc:c.callee=.builtin .clear) {t:TypeId} {x:Operand} (ht:c.argTypes.toList=[t]) (ha:c.args.toList=[x]) {a:Act} {w w':World} {v:Value}
 (h:(Builtin.clear_ #[t] o.type #[a.eval x]).run P w=.ok v w'):(execOp a.eval o).run P w=.ok (.value v) w':=by
 obtain ⟨callee,args,argTypes⟩:=c
 simp only at hc ht ha
 subst hc
 obtain rfl:argTypes=#[t]:=by apply Array.ext';simpa using ht
 obtain rfl:args=#[x]:=by apply Array.ext';simpa using ha
 simp [execOp,ho,resolve,invoke,builtin,h]
theorem F4.junk {w w':World} {ι:Io} {M:Ms} {H H':Hp} {s:S} {v u:Value} (h:F4 w ι M H s H' v w'):F4 w ι M H .junk H' u w':=by
 obtain ⟨ι',M',_,h⟩:=h
 exact ⟨ι',M',.junk,h⟩
theorem au8 (hτ:C0 P τ) {c:Call} (ho:o.op=.call c) (hc:c.callee=.builtin .clear) {t:TypeId} {x:Operand} (ht:c.argTypes.toList=[t]) (ha:c.args.toList=[x])
 {Kg:S->Hp->Prop} (h:aB7 τ ev H t x Kg):∃s H',Kg s H'∧GOp P o ev H s H':=by
 unfold aB7 at h
 split at h
 rotate_left
 ·exact h.elim
 rename_i e _ _ _ _ hte
 have hu:=K5 hτ hte
 split at h
 rotate_left
 ·exact h.elim
 rename_i d hd
 obtain ⟨hb0,h⟩:=W7 h
 rw [a0I] at h
 obtain ⟨i,hi,hsz,hby,z,hz,hzs,hone,hzl⟩:=(hτ.td _ _ hd).info
 have hzsz:z.cells.size=d.size:=by rw [← hzl,←hzs];simp
 split at h
 rotate_left
 ·exact h.elim
 rename_i id lo len app hs
 obtain ⟨k,hk,h⟩:=N1 h
 obtain ⟨hlv,hap,h⟩:=a3x h
 obtain ⟨hbk,hlen,h⟩:=C5 h
 have hbk:k.size=d.size∧k.elem=e:=by simpa using hbk
 rw [L4] at h
 refine ⟨_,_,h,fun a w ι M he hh hm hF=>?_⟩
 have hr:=(he.to hs).inv_c
 generalize hv:a.eval x=v at *
 have hzr:d.zero.map E3=z.cells.toList.map E3:=by rw [hzs]
 generalize hxr:List.replicate len (d.zero.map E3)=xr at *
 have hxl:xr.length=len:=by rw [← hxr];simp
 have hxt:xr.take len=xr:=lbn (by omega)
 have hn1:y8 w ι M d.size xr (madeCells z.cells (len*d.size)).toList:=by
  rw [← hxr,hzr]
  exact b1g hzsz (by rw [hzs];exact hone)
 generalize hvals:(madeCells z.cells (len*d.size)).toList=vals at *
 have hvl:vals.length=len*d.size:=by rw [hn1.len,hxl]
 have hvt:vals.take ((xr.take len).length*d.size)=vals:=lbn (by rw [hxt,hxl];omega)
 cases hr with
 |@own _ _ _ _ b cap size A cap' hι q1 q2 q3 q4 q5=>
  have hbr:=hh.blk id k hk (by rw [hlv];intro h;cases h) _ hι
  have hMb:=hh.liv id k hk hlv _ _ _ hι
  obtain rfl:size=d.size:=hbr.1.symm.trans hbk.1
  have hbr2:=hbr
  obtain ⟨r1,r2,r3,r4,r5,cur,r6,r7,r8⟩:=hbr2
  have hcp:=aM4 hbr r6 hlen hn1 r7 r3
  rw [hvt] at hcp
  have hmm:(xr.take len).length*d.size=vals.length:=by rw [hxt,hxl,hvl]
  rw [hmm] at hcp
  have hfit:lo*d.size+vals.length<=cur.size:=by
   rw [hvl,r7,←Nat.add_mul]
   exact lbT _ (by omega)
  have hone':∀u ∈ vals,u.oneCell'=true:=fun u hu=>hn1.one u hu
  have hrows:(E0 lo len k.rows xr).length=k.rows.length:=by
   unfold E0
   rw [hxt]
   simp only [lbq,lbs,List.length_drop]
   omega
  have hst:(storeCells ⟨b,lo*d.size,none⟩ vals).run P w=.ok () (w.setRow b (cur.toList.take (lo*d.size)++vals++cur.toList.drop (lo*d.size+vals.length)).toArray):=by
   have:=run_storeCells_at P b (lo*d.size) k.elem vals 0 cur w r6 (by simpa using hfit) hone'
   simpa using this
  have hkeep:∀b',b'≠b->(w.setRow b (cur.toList.take (lo*d.size)++vals++cur.toList.drop (lo*d.size+vals.length)).toArray).heap[b']? =w.heap[b']?:=fun b' hb'=>setRow_other w b b' _ hb'
  have hpost:F4 w ι M H .junk (H.set id (q9 k (E0 lo len k.rows xr))) (.tuple #[]) (w.setRow b (cur.toList.take (lo*d.size)++vals++cur.toList.drop (lo*d.size+vals.length)).toArray):=by
   refine F4.junk (u:=.tuple #[]) (F4.store hh hm hF hk hlv hap hι (by exact hlv) rfl rfl rfl (by simp) hkeep ⟨r1,r2,by show (E0 lo len k.rows xr).length<=cap;rw [hrows];exact r3,r4,hcp.row,_,setRow_heap w b cur _ k.elem _ r6,?_,fun i' j c' hc'=>?_⟩)
   ·simp only [List.size_toArray,lbq,lbs,List.length_drop,Array.length_toList]
    omega
   ·obtain ⟨u,s1,s2⟩:=hcp.cell i' j c' hc'
    rw [lbi] at s1
    split at s1
    ·exact ⟨u,by rw [List.getElem?_toArray];exact s1,s2.keep (fun b' _ hb'=>hkeep b' (by rintro rfl;exact hb' hMb)) (fun b' h=>.inl h) (fun _ _ h=>h)⟩
    ·cases s1
  by_cases hlz:len=0
  ·subst hlz
   have hv0:vals=[]:=lbF (by rw [hvl];simp)
   subst hv0
   have hw:w.setRow b (cur.toList.take (lo*d.size)++[]++cur.toList.drop (lo*d.size+([]:List Value).length)).toArray=w:=by
    simp only [storeCells,Sem.run_pure] at hst
    injection hst with _ hst
    exact hst.symm
   rw [hw] at hpost
   refine p5 (a63 ho hc ht ha ?_) hpost
   rw [hv]
   cases A<;>simp [Builtin.clear_,run_underlying hu]
  ·obtain rfl:=q2 (by omega)
   refine p5 (a63 ho hc ht ha ?_) hpost
   rw [hv]
   have hzc:(Builtin.zeroCells z.cells len).toList=vals:=by
    rw [← hvals,←hzsz];rfl
   cases len with
   |zero=>exact absurd rfl hlz
   |succ n=>simp [Builtin.clear_,run_underlying hu,zeroValue,typeInfo,hi,hz,hzc,hst]
 |@nil _ _ A hι=>
  have hbr:=hh.blk id k hk (by rw [hlv];intro h;cases h) _ hι
  have hkr:k.rows=[]:=hbr
  have hx0:xr=[]:=lbF hxl
  have e2:E0 0 0 k.rows xr=k.rows:=by unfold E0;simp
  have e3:H.set id (q9 k (E0 0 0 k.rows xr))=H:=by
   rw [e2]
   apply List.ext_getElem?
   intro j
   by_cases hj:j=id
   ·subst hj;rw [List.getElem?_set_self (lbe.1 hk).1,hk];rfl
   ·rw [getElem?_set_ne' hj]
  rw [e3] at *
  refine p5 (v:=.tuple #[]) (w':=w) (a63 ho hc ht ha ?_) ⟨ι,M,.junk,hh,hm,hF,a3R.refl w ι M H⟩
  rw [hv]
  cases A<;>simp [Builtin.clear_,run_underlying hu]
end
end
end Go.Proofs.YtaejgdbahjjncaaGreat
