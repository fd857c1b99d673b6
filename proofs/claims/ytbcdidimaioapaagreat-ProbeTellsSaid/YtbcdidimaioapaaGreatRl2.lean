/- Part 2. -/
import Derived.Orders
import Derived.Test.YtbcdidimaioapaaGreatRl1
namespace Go.Proofs.YtbcdidimaioapaaGreat
open Go.RowKit
set_option linter.all false
def a4a (w:World) (ι:Io) (M:Ms) (cs:List C) (vs:Array Value):Prop:=vs.size=cs.length/\∀(j:Nat) (c:C),cs[j]? =some c->∃u,vs[j]? =some u/\RC w ι M c u
def RS.cells {w:World} {ι:Io} {M:Ms} {s:S} {v:Value} (h:RS w ι M s v) {cs:List C} (hc:(∃ c,s=.c c/\cs=[c])\/s=.agg cs):a4a w ι M cs v.cells:=by
 rcases hc with ⟨c,rfl,rfl⟩|rfl
 ·have hr:=h.inv_c;have h1:=hr.one;have:v.cells=#[v]:=by cases v<;>first|rfl|(simp [Value.oneCell'] at h1)
  rw [this];refine ⟨rfl,fun j c' hj=>?_⟩;cases j with
  |zero=>simp at hj;subst hj;exact ⟨v,rfl,hr⟩
  |succ j=>simp at hj
 ·cases h with
  |agg vs hl hr=>
   refine ⟨by simpa [Value.cells] using hl,fun j c hj=>?_⟩;have hlt:j<vs.length:=by rw [hl];exact (lbe.1 hj).1
   have:=hr j c hj;rw [lbl,lbf hlt] at this;exact ⟨vs[j],by simp [Value.cells,hlt],this⟩
def a4a.agg {w:World} {ι:Io} {M:Ms} {cs:List C} {vs:Array Value} (h:a4a w ι M cs vs):RS w ι M (.agg cs) (.agg vs):=by
 have:RS w ι M (.agg cs) (.agg vs.toList.toArray):=.agg vs.toList (by simpa using h.1) fun j c hj=>by
  have ⟨u,h1,h2⟩:=h.2 j c hj;rw [lbl];simpa [h1] using h2
 simpa using this
def a4a.const {w:World} {ι:Io} {M:Ms} {vs:Array Value} (h:∀v ∈ vs.toList,v.oneCell'=true):a4a w ι M (vs.toList.map F7) vs:=
 ⟨zq,fun j c hj=>by
   rw [lba] at hj;cases hv:vs.toList[j]? with
   |none=>rw [hv] at hj;cases hj
   |some v=>
    rw [hv] at hj;injection hj with hj;subst hj;exact ⟨v,by simpa using hv,RC.const (h v (lbm hv))⟩⟩
def a4a.one {w:World} {ι:Io} {M:Ms} {cs:List C} {vs:Array Value} (h:a4a w ι M cs vs):∀v ∈ vs.toList,v.oneCell'=true:=fun v hv=>by
 have ⟨j,hj⟩:=as3.1 hv;have hlt:j<cs.length:=by
  have:=(lbe.1 hj).1;rw [← h.1];simpa using this
 have ⟨u,h1,h2⟩:=h.2 j _ (lbf hlt);have:u=v:=by
  have hj':vs[j]? =some v:=by simpa using hj
  rw [hj'] at h1;injection h1 with h1;exact h1.symm
 exact this ▸ h2.one
def au2 (off:Nat) (vs:Array Value) (cells:Array Value) (h:off+vs.size<=cells.size):
 ∃r,vs.zipIdx.foldl (fun cs (x:Value × Nat)=>cs.setIfInBounds (off+x.2) x.1) cells=r/\r.size=cells.size/\
  ∀m,r[m]? =if off<=m/\m<off+vs.size then vs[m - off]? else cells[m]?:=by
 refine ⟨_,rfl,?_⟩;rw [← Array.foldl_toList,Array.toList_zipIdx];have key:∀(l:List Value) (j:Nat) (c:Array Value),off+j+l.length<=c.size->
  ((l.zipIdx j).foldl (fun cs (x:Value × Nat)=>cs.setIfInBounds (off+x.2) x.1) c).size=c.size/\
  ∀m,((l.zipIdx j).foldl (fun cs (x:Value × Nat)=>cs.setIfInBounds (off+x.2) x.1) c)[m]? =if off+j<=m/\m<off+j+l.length then l[m - (off+j)]? else c[m]?:=by
  intro l;induction l with
  |nil=>intro j c hc;simp
        intro m h1 h2;omega
  |cons v l ih=>
   intro j c hc;simp only [lbu] at hc;have ⟨h1,h2⟩:=ih (j+1) (c.setIfInBounds (off+j) v) (by rw [Array.size_setIfInBounds];omega);simp only [List.zipIdx_cons,List.foldl_cons];refine ⟨by rw [h1];simp,fun m=>?_⟩;rw [h2];by_cases hm:m=off+j
   ·subst hm;rw [iC om,iB zq];simp [show off+j<c.size by omega]
   ·by_cases hm2:off+(j+1)<=m/\m<off+(j+1)+l.length
    ·rw [iB hm2,iB (by simp only [lbu];omega),show m - (off+j)=(m - (off+(j+1)))+1 by omega];simp
    ·rw [iC hm2,iC (by simp only [lbu];omega),Array.getElem?_setIfInBounds_ne om]
 have:=key vs.toList 0 cells (by simpa using h);simpa using this
def a4a.over {w:World} {ι:Io} {M:Ms} {cells cs:List C} {arr vs:Array Value} (h:a4a w ι M cells arr) (h':a4a w ι M cs vs) {off:Nat} (hl:off+cs.length<=cells.length):
 a4a w ι M (cells.take off++cs++cells.drop (off+cs.length)) (vs.zipIdx.foldl (fun cs (x:Value × Nat)=>cs.setIfInBounds (off+x.2) x.1) arr):=by
 have ⟨r,hr,hs,hm⟩:=au2 off vs arr (by rw [h.1,h'.1];exact hl);rw [hr];refine ⟨by rw [hs,h.1];simp;omega,fun j c hj=>?_⟩;rw [hm,h'.1];by_cases h1:j<off
 ·rw [iC om];rw [lbD,lbb zo,List.getElem?_take_of_lt h1] at hj;exact h.2 j c hj
 ·by_cases h2:j<off+cs.length
  ·rw [iB om];rw [lbb zo,lbc zo] at hj;have:(cells.take off).length=off:=zo;rw [this] at hj;exact h'.2 _ c hj
  ·rw [iC om];rw [lbc zo,lbj] at hj;have:(cells.take off++cs).length=off+cs.length:=zo;rw [this,show off+cs.length+(j - (off+cs.length))=j by omega] at hj;exact h.2 j c hj
section
variable {P:Program} {τ:Tab} {o:Oper} {ev:Operand->S} {H:Hp}
def aM2 {w:World} {ι:Io} {M:Ms} {a:Act} (he:a0J w ι M ev a) {fs:List (Nat × Nat × Bool)}:∀(parts:List (Nat × Operand)) (cells:List C) (arr:Array Value) {k:List C->Prop},
 a4a w ι M cells arr->b1D fs cells (parts.map fun p=>(p.1,ev p.2)) k->
 ∃cells',k cells'/\∃r,Instr.fill ((fs.map (fun x=>(x.1,x.2.1)))[·]?) arr (parts.map fun p=>(p.1,a.eval p.2))=some r/\a4a w ι M cells' r
 |[],cells,arr,k,hr,h=>⟨cells,h,arr,rfl,hr⟩
 |(i,x)::rest,cells,arr,k,hr,h=>by
  have ⟨cs,h,hcs⟩:=a3c h;unfold an4 at h;split at h
  ·rename_i off size ag hf;have ⟨hb,h⟩:=I2 h;have hb:cs.length=size/\0<size:=by simpa [a1o] using hb
   have ⟨hlen,h⟩:=a9K h (by intro e;subst e;simp at hb;omega);have hv:=(he x).cells hcs;have ⟨cells',hk,r,hr1,hr2⟩:=aM2 he rest _ _ (hr.over hv hlen) h;refine ⟨cells',hk,r,?_,hr2⟩;simp only [az3,Instr.fill];rw [lba,hf];simp only [a6G];rw [iC (by have q1:=hv.1;have q2:=hr.1;have q3:=hlen;simp at q3 ⊢;omega)];exact hr1
  ·exact h.elim
def aJ4 {w:World} {ι:Io} {M:Ms} {a:Act} (he:a0J w ι M ev a) {size:Nat}:∀(parts:List (Nat × Operand)) (cells:List C) (arr:Array Value) {k:List C->Prop},
 a4a w ι M cells arr->b1I size cells (parts.map fun p=>(p.1,ev p.2)) k->
 ∃cells',k cells'/\∃r,Instr.fill (fun i=>some (i*size,size)) arr (parts.map fun p=>(p.1,a.eval p.2))=some r/\a4a w ι M cells' r
 |[],cells,arr,k,hr,h=>⟨cells,h,arr,rfl,hr⟩
 |(i,x)::rest,cells,arr,k,hr,h=>by
  have ⟨cs,h,hcs⟩:=a3c h;have ⟨hb,h⟩:=I2 h;have hb:cs.length=size/\0<size:=by simpa [a1o] using hb
  have ⟨hlen,h⟩:=a9K h (by intro e;subst e;simp at hb;omega);have hv:=(he x).cells hcs;have ⟨cells',hk,r,hr1,hr2⟩:=aJ4 he rest _ _ (hr.over hv hlen) h;refine ⟨cells',hk,r,?_,hr2⟩;simp only [az3,Instr.fill];rw [iC (by have q1:=hv.1;have q2:=hr.1;have q3:=hlen;simp at q3 ⊢;omega)];exact hr1
def a88 {s:S} {k:List C->Prop} (h:a46 s k):∃cs,k cs/\a46 s (·=cs):=by
 cases s<;>first|exact ⟨_,h,rfl⟩|exact h.elim
def a6e {s:S} {k k':List C->Prop} (h:a46 s k) (hk:∀cs,k cs->k' cs):a46 s k':=by
 cases s<;>first|exact hk _ h|exact h.elim
def aH3 {fs:List (Nat × Nat × Bool)}:∀(parts:List (Nat × S)) (cells:List C) {k:List C->Prop},b1D fs cells parts k->∃c,k c/\b1D fs cells parts (·=c)
 |[],cells,k,h=>⟨cells,h,rfl⟩
 |(i,s)::rest,cells,k,h=>by
  have ⟨cs,h,hcs⟩:=a88 h;unfold an4 at h;split at h
  ·rename_i off size ag hf;have ⟨hb,h⟩:=I2 h;have hb':cs.length=size/\0<size:=by simpa [a1o] using hb
   have hne:cs≠[]:=by intro e;subst e;simp at hb';omega
   have ⟨hlen,h⟩:=a9K h hne;have ⟨c,h1,h2⟩:=aH3 rest _ h;refine ⟨c,h1,a6e hcs ?_⟩;rintro _ rfl;unfold an4;rw [hf];simp only [hb,cond_true];exact b1Q hlen hne h2
  ·exact h.elim
def aI2 {size:Nat}:∀(parts:List (Nat × S)) (cells:List C) {k:List C->Prop},b1I size cells parts k->∃c,k c/\b1I size cells parts (·=c)
 |[],cells,k,h=>⟨cells,h,rfl⟩
 |(i,s)::rest,cells,k,h=>by
  have ⟨cs,h,hcs⟩:=a88 h;have ⟨hb,h⟩:=I2 h;have hb':cs.length=size/\0<size:=by simpa [a1o] using hb
  have hne:cs≠[]:=by intro e;subst e;simp at hb';omega
  have ⟨hlen,h⟩:=a9K h hne;have ⟨c,h1,h2⟩:=aI2 rest _ h;refine ⟨c,h1,a6e hcs ?_⟩;rintro _ rfl;simp only [hb,cond_true];exact b1Q hlen hne h2
def ae1 (a:Act) (parts:Array (Nat × Operand)):(parts.map fun (i,x)=>(i,a.eval x)).toList=parts.toList.map fun p=>(p.1,a.eval p.2):=by simp
def aZ2 (hτ:G7 P τ) {t:TypeId} {parts:Array (Nat × Operand)} (ho:o.op=.build t parts) {K:S->Prop} (h:aS7 τ ev t parts.toList K):∃s,K s/\QOp P o ev H s []:=by
 unfold aS7 at h;split at h
 ·rename_i fs _ _ _ z ht;rw [a2c] at h;obtain ⟨u,hu,_,fields,rfl,_,_,hm⟩:=(hτ.td _ _ ht).und;have ⟨i,hi,_,_,z',hz,hzs,hone,_⟩:=(hτ.td _ _ ht).info;simp only at hzs hone;subst hzs;have ⟨cs,hk,hd⟩:=aH3 _ _ h;refine ⟨_,hk,A6 fun a w ι M he hh=>?_⟩;obtain ⟨cs',rfl,r,h1,h2⟩:=aM2 he parts.toList _ z'.cells (a4a.const hone) hd;refine ⟨.agg r,?_,h2.agg⟩;have hb:P.built t (parts.map fun (i,x)=>(i,a.eval x)).toList=some r:=by
   rw [ae1];simp only [Program.built,hi,hu,hz,hm];simpa using h1
  simp only [execOp,ho,Sem.run_bind,run_build w t _ r hb,Result.andThen_ok]
  rfl
 ·rename_i n e _ _ _ z ht;have ⟨d,hd,h,_⟩:=a0u hτ h;rw [a2c] at h;have hu:=b06 hτ ht;have ⟨i,hi,_,_,z',hz,hzs,hone,_⟩:=(hτ.td _ _ ht).info;have ⟨ie,hie,hse,_⟩:=(hτ.td _ _ hd).info;simp only at hzs hone;subst hzs;have ⟨cs,hk,hd'⟩:=aI2 _ _ h;refine ⟨_,hk,A6 fun a w ι M he hh=>?_⟩;obtain ⟨cs',rfl,r,h1,h2⟩:=aJ4 he parts.toList _ z'.cells (a4a.const hone) hd';refine ⟨.agg r,?_,h2.agg⟩;have hb:P.built t (parts.map fun (i,x)=>(i,a.eval x)).toList=some r:=by
   rw [ae1];simp only [Program.built,hi,hu,hz,hie,hse];exact h1
  simp only [execOp,ho,Sem.run_bind,run_build w t _ r hb,Result.andThen_ok]
  rfl
 ·exact h.elim
def P4.new {w w':World} {ι:Io} {M:Ms} {n:Nat} {s:S} {v:Value} {e:TypeId} {size cap:Nat} {rows:List (List C)} {box ap:Bool} {cur:Array Value}
 (hos:w'.os=w.os) (htape:w'.tape=w.tape) (hout:w'.output=w.output) (hheap:w'.heap=w.heap.push (.cells cur e (0,0)))
 (hn:ι n=none) (h0:0<size) (hl:rows.length<=cap) (hm:cap<=maxLen) (hrow:∀r ∈ rows,r.length=size) (hsz:cur.size=cap*size)
 (hc:∀i j c,at2 rows i j=some c->∃u,cur[i*size+j]? =some u/\RC w ι M c u)
 (hs:∀(ι':Io) (M':Ms),ι' n=some (.blk w.heap.size cap size)->RS w' ι' M' s v):P4 w ι M n s [⟨.live,e,size,rows,box,ap⟩] v w':=by
 have hsize:w'.heap.size=w.heap.size+1:=by rw [hheap];simp
 have hold:∀b,b<w.heap.size->w'.heap[b]? =w.heap[b]?:=fun b hb=>by rw [hheap,Array.getElem?_push,iC om]
 have hnew:w'.heap[w.heap.size]? =some (.cells cur e (0,0)):=by rw [hheap];simp
 refine ⟨fun _=>.blk w.heap.size cap size,hs _ _ ?_,⟨hos,htape,hout,om,hold⟩,?_,?_,?_⟩
 ·unfold G1;rw [iB zq]
 ·intro k blk hk;cases k with
  |succ k=>simp at hk
  |zero=>
   simp at hk;subst hk;refine ⟨rfl,rfl,h0,hl,hm,hrow,cur,hnew,hsz,fun i j c hij=>?_⟩;have ⟨u,h1,h2⟩:=hc i j c hij;refine ⟨u,h1,h2.keep (fun b hb _=>hold b hb) ?_ (fun id l hid=>?_)⟩
   ·rintro b (hb|⟨k,hk,c',s',he⟩)
    ·exact .inl hb
    ·injection he with he;exact .inr om
   ·unfold G1;split
    ·rename_i hc';have:id=n:=by simp at hc';omega
     subst this;rw [hn] at hid;cases hid
    ·exact hid
 ·intro k b c s' hk he;injection he with he;omega
 ·intro k k' b c s' c' s'' hk hk' _ _;simp at hk hk';omega
def av3 {cs:List C} {i j:Nat} {c:C} (h:at2 [cs] i j=some c):i=0/\cs[j]? =some c:=by
 have ⟨row,h1,h2⟩:=J4 h;cases i with
 |zero=>simp at h1;subst h1;exact ⟨rfl,h2⟩
 |succ i=>simp at h1
def b39 {t:TypeId} {x:Operand} (ho:o.op=.box t x) {K:S->List Blk->Prop} (h:bo4 ev H.length t x K):∃s B,K s B/\QOp P o ev H s B:=by
 unfold bo4 at h;have ⟨cs,h,hcs⟩:=a3c h;split at h
 ·exact h.elim
 rename_i c r;have hown:K (.c (.ptr H.length 0 0)) [D8 t (c::r).length [c::r] true]->∃s B,K s B/\QOp P o ev H s B:=fun h=>by
  refine ⟨_,_,h,fun a w ι M he hh hm hf=>?_⟩;have ⟨ha1,ha2⟩:=(he x).cells hcs;refine C1 (w':=w.alloc (.cells (a.eval x).cells t)) (v:=.pointer (some ⟨w.heap.size,0,none⟩)) (by simp [execOp,ho,Instr.box,newVar,newRow]) ?_;refine P4.new (cap:=1) (cur:=(a.eval x).cells) rfl rfl rfl rfl (hf 0 zq) zq zq (by unfold maxLen;omega) zq (by rw [ha1];simp) ?_ ?_
  ·intro i j c' hij;obtain ⟨rfl,hj⟩:=av3 hij;have ⟨u,h1,h2⟩:=ha2 j c' hj;exact ⟨u,by simpa using h1,h2⟩
  ·intro ι' M' hi;have:=RC.ptr (w:=w.alloc (.cells (a.eval x).cells t)) (M:=M') (r:=0) (o:=0) hi;simp only [aN8,W7] at this;exact .c this
 split at h
 ·rename_i ts hts;have hts:=aa2 hts;obtain ⟨h|h⟩:=h
  rotate_left
  ·exact hown h
  refine ⟨_,_,h,fun a w ι M he hh hm hf=>?_⟩;have ⟨ha1,ha2⟩:=(he x).cells hcs;refine C1 (w':=w.alloc (.cells (a.eval x).cells t)) (v:=.pointer (some ⟨w.heap.size,0,none⟩)) (by simp [execOp,ho,Instr.box,newVar,newRow]) ?_;have hext:Ext w (w.alloc (.cells (a.eval x).cells t)):=⟨rfl,rfl,rfl,zq,fun b hb=>heap_alloc_old w _ hb⟩;refine P4.of_none ?_ hext;have hat:∀j c',ts[j]? =some c'->∃u,(a.eval x).cells[j]? =some u/\RT w M c' u:=fun j c' hj=>by
   have ⟨u,h1,h2⟩:=ha2 j (.t c') (by rw [hts,lba,hj];rfl);refine ⟨u,by simpa using h1,?_⟩;cases h2 with
   |t h2=>exact h2
  refine .c (.t (.ptr (b:=w.heap.size) (off:=0) (fun j=>(a.eval x).cells.getD j undef) ?_ ?_))
  ·intro j c' hj;have ⟨u,s1,s2⟩:=hat j c' hj;refine ⟨?_,fun hM=>absurd (hm _ hM) om⟩;have hn:=heap_alloc_new w (.cells (a.eval x).cells t);simp only [World.cell?];rw [hn];simp [s1]
  ·intro j c' hj;have ⟨u,s1,s2⟩:=hat j c' hj;have:(a.eval x).cells.getD j undef=u:=by simp [s1]
   show RT _ M c' ((a.eval x).cells.getD j undef);rw [this];exact s2.keep (fun b hb _=>hext.keep b hb) (fun b h=>.inl h)
 ·exact hown h
def b00 (hτ:G7 P τ) {t:TypeId} (ho:o.op=.alloc t) {K:S->List Blk->Prop} (h:b2D τ H.length t K):∃s B,K s B/\QOp P o ev H s B:=by
 unfold b2D at h;split at h
 ·rename_i d hd;rw [a2c] at h;have ⟨hb,h⟩:=a11 h;have hb:d.zero.length≠0:=by intro e;simp [e] at hb
  refine ⟨_,_,h,fun a w ι M he hh hm hf=>?_⟩;have ⟨i,hi,_,_,z,hz,hzs,hone,_⟩:=(hτ.td _ _ hd).info;have ⟨ha1,ha2⟩:=a4a.const (w:=w) (ι:=ι) (M:=M) (vs:=z.cells) (by rw [hzs];exact hone);rw [hzs] at ha1 ha2;refine C1 (w':=w.alloc (.cells z.cells t)) (v:=.pointer (some ⟨w.heap.size,0,none⟩)) (by simp [execOp,ho,Instr.alloc,zeroValue,typeInfo,hi,hz,newVar,newRow]) ?_;refine P4.new (cap:=1) (cur:=z.cells) rfl rfl rfl rfl (hf 0 zq) zo zq (by unfold maxLen;omega) zq (by rw [ha1];simp) ?_ ?_
  ·intro i j c' hij;obtain ⟨rfl,hj⟩:=av3 hij;have ⟨u,h1,h2⟩:=ha2 j c' hj;exact ⟨u,by simpa using h1,h2⟩
  ·intro ι' M' hi;have:=RC.ptr (w:=w.alloc (.cells z.cells t)) (M:=M') (r:=0) (o:=0) hi;simp only [aN8,W7] at this;exact .c this
 ·exact h.elim
def a4c {z:Array Value} {size n i j:Nat} (hz:z.size=size) (hi:i<n) (hj:j<size):(madeCells z (n*size))[i*size+j]? =z[j]?:=by
 have hlt:i*size+j<n*size:=by
  have:i*size+size<=n*size:=by rw [← lbV];exact lbU _ hi
  omega
 unfold madeCells;rw [Array.getElem?_map,Array.getElem?_range,iB hlt];have hmod:(i*size+j) % z.size=j:=by rw [hz,ag5,Nat.mul_add_mod];exact b4e hj
 simp only [a6G,hmod];rw [Array.getElem?_eq_getElem om,getElem!_pos]
def b0r (hτ:G7 P τ) {t:TypeId} {l c:Operand} (ho:o.op=.makeSlice t l c) {K:S->List Blk->Prop} (h:b4b τ ev H.length t l c K):∃s B,K s B/\QOp P o ev H s B:=by
 unfold b4b at h;split at h
 ·rename_i k1 p k2 q e _ _ _ _ hl hc ht;split at h
  ·rename_i d hd;have ⟨hb,⟨h0,h1,h2⟩,h⟩:=a11 h;rw [a2c] at h;have hb:d.size≠0:=by intro e;simp [e] at hb
   refine ⟨_,_,h,fun a w ι M he hh hm hf=>?_⟩;have ⟨i,hi,hs,hby,z,hz,hzs,hone,hzl⟩:=(hτ.td _ _ hd).info;have hu:=R0 hτ ht;have hq:q*(i.bytes:Int)<=q*((d.bytes:Int)+1):=lbW om om;have hq1:q<=q*((d.bytes:Int)+1):=by
    have:q*1<=q*((d.bytes:Int)+1):=lbW om om;omega
   have hmk:=run_make (P:=P) w t e i z hu hi hz k1 k2 p q h0 h1 (by rw [a7P];omega) om;have hsz:z.cells.size=i.size:=by
    rw [hs,←hzl,←hzs];simp
   refine C1 (w':=w.alloc (.cells (madeCells z.cells (q.toNat*i.size)) e)) (v:=.slice (some ⟨w.heap.size,0,none⟩) p.toNat q.toNat)
    (by simp only [execOp,ho,(he.to hl).inv_atm,(he.to hc).inv_atm,Sem.run_bind,hmk,Result.andThen_ok];rfl) ?_
   have ⟨ha1,ha2⟩:=a4a.const (w:=w) (ι:=ι) (M:=M) (vs:=z.cells) (by rw [hzs];exact hone);rw [hzs] at ha1 ha2;refine P4.new (cap:=q.toNat) (cur:=madeCells z.cells (q.toNat*i.size)) rfl rfl rfl rfl (hf 0 zq) om zo (by unfold maxLen;omega) ?_ (by rw [size_madeCells,hs]) ?_ ?_
   ·intro r hr;rw [(a95.1 hr).2,←ha1,hsz,hs]
   ·intro i' j c' hij;have ⟨row,hr1,hr2⟩:=J4 hij;rw [lbk] at hr1;split at hr1
    ·rename_i hlt;injection hr1 with hr1;subst hr1;have ⟨u,q1,q2⟩:=ha2 j c' hr2;have hj:j<i.size:=by rw [← hsz];exact (lb6.1 q1).1
     exact ⟨u,by rw [← hs,a4c hsz om hj,q1],q2⟩
    ·cases hr1
   ·intro ι' M' hi;exact .c (.own hi om (fun _=>by rw [aN8]) om (by unfold maxLen;omega) (fun _=>rz))
  ·exact h.elim
 ·exact h.elim
end
structure F4 (w:World) (ι:Io) (M:Ms) (size:Nat) (rows:List (List C)) (vals:List Value):Prop where
 len:vals.length=rows.length*size
 row:∀r ∈ rows,r.length=size
 cell:∀i j c,at2 rows i j=some c->∃u,vals[i*size+j]? =some u/\RC w ι M c u
def F4.at {w:World} {ι:Io} {M:Ms} {size:Nat} {rows:List (List C)} {vals:List Value} (h:F4 w ι M size rows vals) {q:Nat} {u:Value} (hu:vals[q]? =some u):
 ∃i j c,q=i*size+j/\at2 rows i j=some c/\RC w ι M c u:=by
 have hq:q<rows.length*size:=by rw [← h.len];exact (lbe.1 hu).1
 have h0:0<size:=by
  rcases a4t size with h|h
  ·subst h;simp at hq
  ·exact h
 have hi:q / size<rows.length:=by rw [Nat.div_lt_iff_lt_mul h0];exact hq
 have hj:q % size<size:=a9G _ h0;have hr:=h.row rows[q / size] (lbE hi);have hc:at2 rows (q / size) (q % size)=some (rows[q / size][q % size]' om):=G5 (lbf hi) (lbf om);have e:q=q / size*size+q % size:=by rw [ag5];exact (b51 q size).symm
 have ⟨u',h1,h2⟩:=h.cell _ _ _ hc;rw [← e,hu] at h1;injection h1 with h1;subst h1;exact ⟨_,_,_,e,hc,h2⟩
def F4.one {w:World} {ι:Io} {M:Ms} {size:Nat} {rows:List (List C)} {vals:List Value} (h:F4 w ι M size rows vals):∀u ∈ vals,u.oneCell'=true:=fun u hu=>by
 have ⟨q,hq⟩:=as3.1 hu;have ⟨_,_,_,_,_,h⟩:=h.at hq;exact h.one
def F4.nil (w:World) (ι:Io) (M:Ms) (size:Nat):F4 w ι M size [] []:=⟨zq,zq,by simp [at2]⟩
def F4.append {w:World} {ι:Io} {M:Ms} {size:Nat} {r1 r2:List (List C)} {v1 v2:List Value} (h1:F4 w ι M size r1 v1) (h2:F4 w ι M size r2 v2):
 F4 w ι M size (r1++r2) (v1++v2):=by
 refine ⟨by rw [lbq,lbq,h1.len,h2.len,Y3],?_,?_⟩
 ·intro r hr;rcases lbz.1 hr with hr|hr
  ·exact h1.row r hr
  ·exact h2.row r hr
 ·intro i j c hc;have ⟨row,hr1,hr2⟩:=J4 hc;by_cases hi:i<r1.length
  ·rw [lbb hi] at hr1;have ⟨u,q1,q2⟩:=h1.cell i j c (G5 hr1 hr2);exact ⟨u,by rw [lbb (lbe.1 q1).1];exact q1,q2⟩
  ·rw [lbc om] at hr1;have ⟨u,q1,q2⟩:=h2.cell _ j c (G5 hr1 hr2);refine ⟨u,?_,q2⟩;have e:i*size+j=r1.length*size+((i - r1.length)*size+j):=by
    rw [← a3w,←Y3,show r1.length+(i - r1.length)=i by omega]
   rw [lbc (by rw [h1.len,e];omega),h1.len,show i*size+j - r1.length*size=(i - r1.length)*size+j by omega];exact q1
def b21 {w:World} {ι:Io} {M:Ms} {size:Nat} {k:SK} {rows:List (List T)} {A:Option Addr} {n cap:Nat} (h:RT w M (.sl size k rows) (.slice A n cap)):
 n=rows.length/\∃vals,F4 w ι M size (toC rows) vals/\(rows≠[]->∃b off,A=some ⟨b,off,none⟩/\∀q u,vals[q]? =some u->w.cell? ⟨b,off+q,none⟩=some u):=by
 cases h with
 |@sl _ _ _ b off _ _ f hrow hcap hmax hk hn hA hc hr=>
  refine ⟨rfl,(List.range (rows.length*size)).map (fun q=>f (q / size) (q % size)),?_,fun hne=>⟨b,off,hA hne,fun q u hq=>?_⟩⟩
  ·refine ⟨by simp [toC],?_,?_⟩
   ·intro r hr';obtain ⟨r',h1,rfl⟩:=lbx.1 hr';rw [lbr];exact hrow r' h1
   ·intro i j c hij;have ⟨row,h1,h2⟩:=J4 hij;unfold toC at h1;rw [lba] at h1;cases hri:rows[i]? with
    |none=>rw [hri] at h1;cases h1
    |some row'=>
     rw [hri] at h1;injection h1 with h1;subst h1;rw [lba] at h2;cases hrj:row'[j]? with
     |none=>rw [hrj] at h2;cases h2
     |some c'=>
      rw [hrj] at h2;injection h2 with h2;subst h2;have hi:i<rows.length:=(lbe.1 hri).1;have hj:j<size:=by rw [← hrow row' (lbm hri)];exact (lbe.1 hrj).1
      have hlt:i*size+j<rows.length*size:=by
       have:i*size+size<=rows.length*size:=by rw [← lbV];exact lbU _ hi
       omega
      have e1:(i*size+j) / size=i:=by
       rw [ag5,Nat.mul_add_div om,Nat.div_eq_of_lt hj,b0I]
      have e2:(i*size+j) % size=j:=by
       rw [ag5,Nat.mul_add_mod];exact b4e hj
      refine ⟨f i j,?_,.t (hr i j c' (G5 hri hrj))⟩;rw [lba,lbh hlt];simp [e1,e2]
  ·have hlt:q<rows.length*size:=by have:=(lbe.1 hq).1;simpa using this
   rw [lba,lbh hlt] at hq;injection hq with hq;subst hq;have h0:0<size:=by
    rcases a4t size with h|h
    ·subst h;simp at hlt
    ·exact h
   have hi:q / size<rows.length:=by rw [Nat.div_lt_iff_lt_mul h0];exact hlt
   have hj:q % size<size:=a9G _ h0;have hrl:=hrow rows[q / size] (lbE hi);have:=(hc (q / size) (q % size) _ (G5 (lbf hi) (lbf om))).1;rw [show q / size*size+q % size=q by rw [ag5];exact b51 q size] at this;exact this
def a7d {w:World} {ι:Io} {M:Ms} {k:Blk} {b cap size:Nat} (h:S7 w ι M k (.blk b cap size)) {lo len:Nat} (hl:lo+len<=k.rows.length):
 ∃vals,F4 w ι M size ((k.rows.drop lo).take len) vals/\∀q u,vals[q]? =some u->w.cell? ⟨b,lo*size+q,none⟩=some u:=by
 have ⟨h1,h2,h3,h4,h5,cur,h6,h7,h8⟩:=h;have hmul:lo*size+len*size<=cap*size:=by rw [← Y3];exact lbU _ om
 refine ⟨(cur.toList.drop (lo*size)).take (len*size),⟨?_,?_,?_⟩,?_⟩
 ·rw [lbs,a3S,a7M,h7,lbs,a3S];rw [a3q om,a3q om]
 ·intro r hr;exact h5 r (b1G (ah1 hr))
 ·intro i j c hij;have ⟨row,q1,q2⟩:=J4 hij;rw [lbi] at q1;split at q1
  ·rename_i hi;rw [lbj] at q1;have ⟨u,r1,r2⟩:=h8 _ _ _ (G5 q1 q2);refine ⟨u,?_,r2⟩;have hj:j<size:=by rw [← h5 row (lbm q1)];exact (lbe.1 q2).1
   have hlt:i*size+j<len*size:=by
    have:i*size+size<=len*size:=by rw [← lbV];exact lbU _ hi
    omega
   rw [List.getElem?_take_of_lt hlt,lbj,←a3w,←Y3];simpa using r1
  ·cases q1
 ·intro q u hq;rw [lbi] at hq;split at hq
  ·rw [lbj] at hq;simp [World.cell?,h6];simpa using hq
  ·cases hq
section
variable {P:Program} {τ:Tab} {o:Oper} {ev:Operand->S} {H:Hp}
theorem zt {p:Prop} (h:p:=by simp [toC]):p:=h
def b1v (hτ:G7 P τ) {size:Nat} {t e:TypeId} (hu:P.underlying t=some (.slice e)) {x:Operand} {k:List (List C)->Prop} (h:bu4 size H (ev x) k):
 ∃xr,k xr/\∀(a:Act) (w:World) (ι:Io) (M:Ms),a0J w ι M ev a->v5 w ι M H->∃news,F4 w ι M size xr news/\Src P size t (a.eval x) xr.length news w/\
  (xr.length=0\/∃ad c,a.eval x=.slice (some ad) xr.length c/\∀j v,news[j]? =some v->w.cell? (ad.add j)=some v):=by
 unfold bu4 at h;split at h
 ·rename_i s sk rows hx;refine ⟨_,h.2,fun a w ι M he hh=>?_⟩;have hr:=(he.to hx).inv_t;generalize a.eval x=v at *;by_cases hne:rows=[]
  ·subst hne;cases hr with
   |@sl _ _ _ b off cap A f hrow hcap hmax hk hn hA hc hr=>
    refine ⟨[],F4.nil w ι M size,?_,.inl rfl⟩;cases A with
    |none=>exact Src.ofNil w hu _
    |some ad=>exact Src.ofSlice w hu ad 0 _ [] zq zq zq
  ·have hs:s=size:=by
    rcases h.1 with h|h
    ·exact absurd (lbF h) hne
    ·exact h
   subst hs;cases hr with
   |@sl _ _ _ b off cap A f hrow hcap hmax hk hn hA hc hr hxx=>
    have ⟨_,vals,h1,h2⟩:=b21 (ι:=ι) (RT.sl f hrow hcap hmax hk hn hA hc hr hxx);obtain ⟨b,off,rfl,h3⟩:=h2 hne;have h3':∀j v,vals[j]? =some v->w.cell? ((⟨b,off,none⟩:Addr).add j)=some v:=fun j v hj=>by rw [Addr.add_none];exact h3 j v hj
    have e:rows.length=(toC rows).length:=zt;rw [e];exact ⟨vals,h1,Src.ofSlice w hu _ _ _ vals h1.len h3' h1.one,.inr ⟨_,_,rfl,h3'⟩⟩
 ·rename_i id lo len app hx;have ⟨bk,hbk,h⟩:=U9 h;have ⟨hdead,h⟩:=a1q h;have ⟨hs,hl,h⟩:=I2 h;have hs:bk.size=size:=by simpa using hs
  refine ⟨_,h,fun a w ι M he hh=>?_⟩;have hr:=(he.to hx).inv_c;generalize a.eval x=v at *;have hlen:((bk.rows.drop lo).take len).length=len:=zo;cases hr with
  |@own _ _ _ _ b cap sz A cap' h' q1 q2 q3 q4 q5=>
   have hb:=hh.blk id bk hbk hdead _ h';obtain rfl:sz=size:=hb.1.symm.trans hs;have ⟨vals,h1,h2⟩:=a7d hb hl;rw [hlen];by_cases h0:len=0
   ·subst h0;have:vals=[]:=lbF (by rw [h1.len];simp);subst this;refine ⟨[],h1,?_,.inl rfl⟩;cases A with
    |none=>exact Src.ofNil w hu _
    |some ad=>exact Src.ofSlice w hu ad 0 _ [] zq zq zq
   ·obtain rfl:=q2 om;have h3':∀j v,vals[j]? =some v->w.cell? ((⟨b,lo*sz,none⟩:Addr).add j)=some v:=fun j v hj=>by rw [Addr.add_none];exact h2 j v hj
    have hvl:=h1.len;rw [hlen] at hvl;exact ⟨vals,h1,Src.ofSlice w hu _ _ _ vals hvl h3' h1.one,.inr ⟨_,_,rfl,h3'⟩⟩
  |nil h'=>
   have hb:=hh.blk id bk hbk hdead _ h';have hb':bk.rows=[]:=hb;refine ⟨[],by rw [hb'];exact F4.nil w ι M size,?_,.inl zq⟩;rw [hb'];cases ‹Option Addr› with
   |none=>exact Src.ofNil w hu _
   |some ad=>exact Src.ofSlice w hu ad 0 _ [] zq zq zq
 ·exact h.elim
end
section
variable {P:Program} {τ:Tab} {o:Oper} {ev:Operand->S} {H:Hp}
def S4 {c:Call} (ho:o.op=.call c) (hc:c.callee=.builtin .append) {t:TypeId} {s x:Operand} (ht:c.argTypes.toList=[t,t]) (ha:c.args.toList=[s,x]) {a:Act} {w w':World} {v:Value}
 (h:(Builtin.append_ #[t,t] o.type #[a.eval s,a.eval x]).run P w=.ok v w'):(execOp a.eval o).run P w=.ok (.value v) w':=by
 have ⟨callee,args,argTypes⟩:=c;simp only at hc ht ha;subst hc;obtain rfl:argTypes=#[t,t]:=by apply Array.ext';simpa using ht
 obtain rfl:args=#[s,x]:=by apply Array.ext';simpa using ha
 simp [execOp,ho,resolve,invoke,builtin,h]
def b0R {size:Nat} {cur:Array Value} {vals rest:List Value} {i j:Nat} {u:Value} (hcur:cur.toList=vals++rest) (h:vals[i*size+j]? =some u):cur[i*size+j]? =some u:=by
 have:cur.toList[i*size+j]? =some u:=by rw [hcur,lbb (lbe.1 h).1];exact h
 simpa using this
def a3N (hτ:G7 P τ) {t e:TypeId} {d:TD} (hu:P.underlying t=some (.slice e)) (hd:τ e=some d) (h0:d.size≠0) {w:World} {ι:Io} {M:Ms} {ty:TypeId}
 {base:Option Addr} {sLen sCap:Nat} {r1 r2:List (List C)} {olds news:List Value} {x:Value} (h1:F4 w ι M d.size r1 olds) (h2:F4 w ι M d.size r2 news) (hl:r1.length=sLen)
 (hold:(Builtin.firstCells d.size sLen (.slice base sLen sCap)).run P w.drew=.ok olds.toArray w.drew) (hs:Src P d.size t x r2.length news w) (hg:sCap<sLen+r2.length)
 (hb:(r1.length+r2.length)*(d.bytes+1)<=140737488355328):
 ∃cap cur,(Builtin.append_ #[t,t] ty #[.slice base sLen sCap,x]).run P w=.ok (.slice (some ⟨w.heap.size,0,none⟩) (sLen+r2.length) cap) (w.drew.alloc (.cells cur e))/\
  cur.size=cap*d.size/\sLen+r2.length<=cap/\cap<=maxLen/\∀i j c,at2 (r1++r2) i j=some c->∃u,cur[i*d.size+j]? =some u/\RC w ι M c u:=by
 have ⟨i,hi,hsz,hby,z,hz,hzs,hone,hzl⟩:=(hτ.td _ _ hd).info;rw [← hsz] at h0 h1 h2 hold hs;have hb1:(sLen+r2.length)*i.bytes<=140737488355328:=by
  refine lbS (Nat.mul_le_mul_left _ (Nat.le_succ _)) ?_;rw [hby,←hl];exact hb
 have hb2:sLen+r2.length<=140737488355328:=by
  refine lbS (aK2 _ (Nat.succ_pos d.bytes)) ?_;rw [← hl];exact hb
 have hmx:sLen+r2.length<=maxLen:=by unfold maxLen;omega
 have hrun:=run_append_grow_src (P:=P) w t t ty e i z hu hi hz base sLen sCap olds hold x r2.length news hs hg om (growslice_fits hg hb1);refine ⟨_,_,hrun,?_,grownCap_ge _ _ _ _,grownCap_le_maxLen _ _ _ _ hmx,?_⟩
 ·have hzc:z.cells.size=i.size:=by rw [hsz,←hzl,←hzs];simp
  simp only [Array.size_append,a6J,size_zeroCells,hzc,lbq,h1.len,h2.len,hl,←Y3,←hsz]
  congr 1
  have:=grownCap_ge w (sLen+r2.length) sCap e;omega
 ·intro i' j c hc;have ⟨u,q1,q2⟩:=(h1.append h2).cell i' j c hc;exact ⟨u,by rw [← hsz];exact b0R (rest:=(Builtin.zeroCells z.cells (grownCap w (sLen+r2.length) sCap e - (sLen+r2.length))).toList) zq q1,q2⟩
def b3L {n:Nat} (h:n<=140737488355328):n<=maxLen:=by unfold maxLen;omega
def P4.nil {w:World} {ι:Io} {M:Ms} {n:Nat} {e:TypeId} {size:Nat} {box ap:Bool} {A:Option Addr}:P4 w ι M n (.c (.own n 0 0 true)) [⟨.live,e,size,[],box,ap⟩] (.slice A 0 0) w:=by
 refine ⟨fun _=>.nil,.c (.nil ?_),Ext.refl w,?_,?_,?_⟩
 ·unfold G1;rw [iB zq]
 ·intro k blk hk;cases k with
  |succ k=>simp at hk
  |zero=>simp at hk;subst hk;exact rz
 ·intro k b c s _ h;cases h
 ·intro k k' b c s c' s' _ _ h;cases h
def a0R {w:World} {size n cap:Nat} {A:Option Addr} {vals:List Value} (hl:vals.length=n*size) (h:vals=[]\/∃b off,A=some ⟨b,off,none⟩/\∀q u,vals[q]? =some u->w.cell? ⟨b,off+q,none⟩=some u):
 (Builtin.firstCells size n (.slice A n cap)).run P w.drew=.ok vals.toArray w.drew:=by
 rcases h with rfl|⟨b,off,rfl,h⟩
 ·cases A with
  |none=>exact run_firstCells_none w.drew size n n cap
  |some ad=>exact run_firstCells_some w.drew size n ad n cap [] hl zq
 ·exact run_firstCells_some w.drew size n _ n cap vals hl (fun j v hj=>by rw [Addr.add_none];simpa using h j v hj)
def a1S {w:World} {ι:Io} {M:Ms} {n b cap size len:Nat} (hi:ι n=some (.blk b cap size)) (hl:len<=cap) (hm:cap<=maxLen):RS w ι M (.c (.own n 0 len true)) (.slice (some ⟨b,0,none⟩) len cap):=
 .c (.own hi om (fun _=>by rw [aN8]) hl hm (fun _=>rz))
def v5.other {w w':World} {ι ι':Io} {M M':Ms} (hH:v5 w ι M H) {id b cap size:Nat} {k:Blk} (hk:H[id]? =some k) (hl:k.mode=.live) (hi:ι id=some (.blk b cap size)) (hap:k.app=false)
 (hkeep:∀b',b'<w.heap.size->b'≠b->w'.heap[b']? =w.heap[b']?) (hm:∀b,M' b->M b\/w.heap.size<=b) (he:∀id l,ι id=some l->ι' id=some l):
 ∀id' k',id'≠id->H[id']? =some k'->k'.mode≠.dead->∀l,ι id'=some l->S7 w' ι' M' k' l:=by
 intro id' k' hne hk' hd l hl';have hb:=hH.blk id' k' hk' hd l hl';have hMb:M b:=hH.liv id k hk hl b cap size hi;cases l with
 |nil=>exact hb
 |blk b' cap' size'=>
  have ⟨q1,q2,q3,q4,q5,cur,q6,q7,q8⟩:=hb;have hne':b'≠b:=by
   intro e;subst e;cases hm':k'.mode with
   |live=>exact hne (hH.inj id' id k' k hk' hk hm' hl _ _ _ _ _ hl' hi)
   |froz=>exact hH.fro id' k' hk' hm' _ _ _ hl' hMb
   |old=>
    have:=(hH.old id' id k' k hk' hk hm' hl _ _ _ _ _ hl' hi).1;rw [hap] at this;cases this
   |dead=>exact hd hm'
  refine ⟨q1,q2,q3,q4,q5,cur,(hkeep b' (C2 q6) hne').trans q6,q7,fun i j c hc=>?_⟩;have ⟨u,r1,r2⟩:=q8 i j c hc;refine ⟨u,r1,r2.keep (fun b'' hb'' hM=>hkeep b'' hb'' (by rintro rfl;exact hM hMb)) hm he⟩
def getElem?_set_ne' {l:List Blk} {i j:Nat} {v:Blk} (h:j≠i):(l.set i v)[j]? =l[j]?:=by rw [List.getElem?_set_ne (Ne.symm h)]
def S7.grow {w w':World} {ι ι':Io} {M M':Ms} {kk:Blk} {b cap size:Nat} {e:TypeId} {cur0 cur:Array Value} (h:S7 w ι M kk (.blk b cap size)) (h0:w.heap[b]? =some (.cells cur0 e (0,0)))
 (h1:w'.heap[b]? =some (.cells cur e (0,0))) (h2:cur.size=cur0.size) (h3:∀q,q<kk.rows.length*size->cur[q]? =cur0[q]?) (hr:∀c u,RC w ι M c u->RC w' ι' M' c u):
 S7 w' ι' M' kk (.blk b cap size):=by
 have ⟨q1,q2,q3,q4,q5,cur',q6,q7,q8⟩:=h;rw [h0] at q6;injection q6 with q6;injection q6 with e1 e2;subst e1 e2;refine ⟨q1,q2,q3,q4,q5,cur,h1,by rw [h2];exact q7,fun i j c hc=>?_⟩;have ⟨u,r1,r2⟩:=q8 i j c hc;have ⟨row,s1,s2⟩:=J4 hc;have hi:=(lbe.1 s1).1;have hj:j<size:=by rw [← q5 row (lbm s1)];exact (lbe.1 s2).1
 have hlt:i*size+j<kk.rows.length*size:=by
  have:i*size+size<=kk.rows.length*size:=by rw [← lbV];exact lbU _ hi
  omega
 exact ⟨u,by rw [h3 _ hlt];exact r1,hr c u r2⟩
def br8 (w w':World) (k kd:Blk) (ap:Bool) (b bn size:Nat) (n:Nat) (e:TypeId) (cur:Array Value):Prop:=
 (kd.mode=.dead/\k.app=false)\/(kd=a6g k/\ap=true/\k.rows.length<=n/\
   ((bn≠b/\w'.heap[b]? =w.heap[b]?)\/(bn=b/\∃cur0,w.heap[b]? =some (.cells cur0 e (0,0))/\cur.size=cur0.size/\∀q,q<k.rows.length*size->cur[q]? =cur0[q]?)))
def K7.append {w w':World} {ι:Io} {M:Ms} (hH:v5 w ι M H) (hM:MB w M) (hF:a17 ι H.length) {id b cap size:Nat} {k kd:Blk} (hk:H[id]? =some k) (hl:k.mode=.live)
 (hi:ι id=some (.blk b cap size)) {bn cap' len:Nat} {ap:Bool} {e:TypeId} {rows:List (List C)} {cur:Array Value} (hdead:br8 w w' k kd ap b bn size rows.length e cur) (hos:w'.os=w.os) (htape:w'.tape=w.tape) (hout:w'.output=w.output)
 (hsize:w.heap.size<=w'.heap.size) (hkeep:∀b',b'<w.heap.size->b'≠b->w'.heap[b']? =w.heap[b']?) (hbn:bn=b\/w.heap.size<=bn) (hnew:w'.heap[bn]? =some (.cells cur e (0,0)))
 (h0:0<size) (hlen:rows.length=len) (hle:len<=cap') (hm:cap'<=maxLen) (hrow:∀r ∈ rows,r.length=size) (hsz:cur.size=cap'*size)
 (hc:∀i j c,at2 rows i j=some c->∃u,cur[i*size+j]? =some u/\RC w ι M c u):
 K7 w ι M H (.c (.own H.length 0 len true)) ((H.set id kd)++[⟨.live,e,size,rows,false,ap⟩]) (.slice (some ⟨bn,0,none⟩) len cap') w':=by
 have hidl:id<H.length:=(lbe.1 hk).1;have hMb:M b:=hH.liv id k hk hl b cap size hi;have hblt:b<w.heap.size:=hM b hMb
 let ι':Io:=fun j=>if j=H.length then some (.blk bn cap' size) else ι j
 let M':Ms:=fun b'=>M b'\/b'=bn
 have hext:∀id l,ι id=some l->ι' id=some l:=fun j l hj=>by
  show (if j=H.length then _ else _)=_;rw [iC (by rintro rfl;rw [hF _ (lbR _)] at hj;cases hj),hj]
 have hMn:∀b',M' b'->M b'\/w.heap.size<=b':=by
  rintro b' (h|rfl)
  ·exact .inl h
  ·rcases hbn with rfl|h
   ·exact .inl hMb
   ·exact .inr h
 have hnl:ι' H.length=some (.blk bn cap' size):=by show (if _ then _ else _)=_;rw [iB rfl]
 have hold:∀j,j<H.length->ι' j=ι j:=fun j hj=>by show (if _ then _ else _)=_;rw [iC om]
 have hkdl:kd.mode≠.live/\kd.mode≠.froz:=by
  rcases hdead with ⟨h,_⟩|⟨rfl,_⟩
  ·rw [h];exact ⟨zi,zi⟩
  ·exact ⟨zi,zi⟩
 have hget:∀j kk,((H.set id kd)++[(⟨.live,e,size,rows,false,ap⟩:Blk)])[j]? =some kk->
  (j=id/\kk=kd)\/(j≠id/\j<H.length/\H[j]? =some kk)\/(j=H.length/\kk=⟨.live,e,size,rows,false,ap⟩):=by
  intro j kk hj;by_cases hjl:j<H.length
  ·rw [lbb (by simpa using hjl)] at hj;by_cases hjd:j=id
   ·subst hjd;rw [List.getElem?_set_self (by simpa using hjl)] at hj;injection hj with hj;exact .inl ⟨rfl,hj.symm⟩
   ·rw [getElem?_set_ne' hjd] at hj;exact .inr (.inl ⟨hjd,hjl,hj⟩)
  ·rw [lbc (by simpa using hjl)] at hj;have:j=H.length:=by
    have:=(lbe.1 hj).1;simp at this;omega
   subst this;simp at hj;exact .inr (.inr ⟨rfl,hj.symm⟩)
 have hkeepR:∀c u,RC w ι M c u->RC w' ι' M' c u:=fun c u h=>h.keep (fun b'' hb'' hM'=>hkeep b'' hb'' (by rintro rfl;exact hM' hMb)) hMn hext
 have hsame:∀kk cap0,kk.rows.length<=k.rows.length->k.app=true->S7 w ι M kk (.blk b cap0 size)->S7 w' ι' M' kk (.blk b cap0 size):=by
  intro kk cap0 hle' hka hb;rcases hdead with ⟨_,h⟩|⟨_,_,_,h|⟨rfl,cur0,h1,h2,h3⟩⟩
  ·rw [hka] at h;cases h
  ·have hb2:=hb;have ⟨q1,q2,q3,q4,q5,cur',q6,q7,q8⟩:=hb2;exact hb.grow q6 (h.2.trans q6) rfl (fun _ _=>rfl) hkeepR
  ·exact hb.grow h1 hnew h2 (fun q hq=>h3 q (a6P hq (lbU _ hle'))) hkeepR
 refine ⟨ι',M',a1S hnl hle hm,⟨?_,?_,?_,?_,?_⟩,?_,?_,⟨hos,htape,hout,hsize,?_,hold,hMn,fun b' h=>.inl (.inl h),?_,zq⟩⟩
 ·intro j kk hj hd l hl';rcases hget j kk hj with ⟨rfl,rfl⟩|⟨h1,h2,h3⟩|⟨rfl,rfl⟩
  ·have hdead2:=hdead;rcases hdead2 with ⟨h,_⟩|⟨rfl,_⟩
   ·exact absurd h hd
   ·rw [hold j hidl,hi] at hl';injection hl' with hl';subst hl';have hb:=hH.blk j k hk (by rw [hl];intro h;cases h) _ hi;cases hka:k.app with
    |true=>exact hsame (a6g k) cap (lbR _) hka hb
    |false=>
     rcases hdead with ⟨h,_⟩|⟨_,_,_,h|⟨rfl,cur0,h1,h2,h3⟩⟩
     ·cases h
     ·have hb2:=hb;have ⟨q1,q2,q3,q4,q5,cur',q6,q7,q8⟩:=hb2;exact S7.grow (kk:=a6g k) hb q6 (h.2.trans q6) rfl (fun _ _=>rfl) hkeepR
     ·exact S7.grow (kk:=a6g k) hb h1 hnew h2 h3 hkeepR
  ·rw [hold j h2] at hl';cases hka:k.app with
   |false=>exact hH.other hk hl hi hka hkeep hMn hext j kk h1 h3 hd l hl'
   |true=>
    have hb:=hH.blk j kk h3 hd l hl';cases l with
    |nil=>exact hb
    |blk b' c' s'=>
     by_cases hbb:b'=b
     ·subst hbb;cases hm':kk.mode with
      |live=>exact absurd (hH.inj j id kk k h3 hk hm' hl _ _ _ _ _ hl' hi) h1
      |froz=>exact absurd hMb (hH.fro j kk h3 hm' _ _ _ hl')
      |dead=>exact absurd hm' hd
      |old=>
       obtain ⟨_,rfl,h5⟩:=hH.old j id kk k h3 hk hm' hl _ _ _ _ _ hl' hi;exact hsame kk c' h5 hka hb
     ·have hb2:=hb;have ⟨q1,q2,q3,q4,q5,cur',q6,q7,q8⟩:=hb2;exact hb.grow q6 ((hkeep b' (C2 q6) hbb).trans q6) rfl (fun _ _=>rfl) hkeepR
  ·rw [hnl] at hl';injection hl' with hl';subst hl';refine ⟨rfl,h0,(show rows.length<=cap' by omega),hm,hrow,cur,hnew,hsz,fun i j c hij=>?_⟩;have ⟨u,r1,r2⟩:=hc i j c hij;exact ⟨u,r1,hkeepR c u r2⟩
 ·intro j kk hj hlv b' c' s' hij;rcases hget j kk hj with ⟨rfl,rfl⟩|⟨h1,h2,h3⟩|⟨rfl,rfl⟩
  ·exact absurd hlv hkdl.1
  ·rw [hold j h2] at hij;exact .inl (hH.liv j kk h3 hlv _ _ _ hij)
  ·rw [hnl] at hij;injection hij with hij;injection hij with hij;exact .inr hij.symm
 ·intro j kk hj hlv b' c' s' hij;rcases hget j kk hj with ⟨rfl,rfl⟩|⟨h1,h2,h3⟩|⟨rfl,rfl⟩
  ·exact absurd hlv hkdl.2
  ·rw [hold j h2] at hij;have hnm:=hH.fro j kk h3 hlv _ _ _ hij;have hbl:b'<w.heap.size:=by
    have ⟨_,_,_,_,_,cur',q,_⟩:=hH.blk j kk h3 (by rw [hlv];intro h;cases h) _ hij;exact C2 q
   rintro (h|rfl)
   ·exact hnm h
   ·rcases hbn with rfl|h
    ·exact hnm hMb
    ·omega
  ·cases hlv
 ·intro j j' kk kk' hj hj' hlv hlv' b' c' s' c'' s'' hij hij';rcases hget j kk hj with ⟨rfl,rfl⟩|⟨h1,h2,h3⟩|⟨rfl,rfl⟩
  ·exact absurd hlv hkdl.1
  ·rcases hget j' kk' hj' with ⟨rfl,rfl⟩|⟨h1',h2',h3'⟩|⟨rfl,rfl⟩
   ·exact absurd hlv' hkdl.1
   ·rw [hold j h2] at hij;rw [hold j' h2'] at hij';exact hH.inj j j' kk kk' h3 h3' hlv hlv' _ _ _ _ _ hij hij'
   ·rw [hold j h2] at hij;rw [hnl] at hij';injection hij' with hij';injection hij' with hij';subst hij';have hbl:bn<w.heap.size:=by
     have ⟨_,_,_,_,_,cur',q,_⟩:=hH.blk j kk h3 (by rw [hlv];intro h;cases h) _ hij;exact C2 q
    rcases hbn with rfl|h
    ·exact absurd (hH.inj j id kk k h3 hk hlv hl _ _ _ _ _ hij hi) h1
    ·omega
  ·rcases hget j' kk' hj' with ⟨rfl,rfl⟩|⟨h1',h2',h3'⟩|⟨rfl,rfl⟩
   ·exact absurd hlv' hkdl.1
   ·rw [hold j' h2'] at hij';rw [hnl] at hij;injection hij with hij;injection hij with hij;subst hij;have hbl:bn<w.heap.size:=by
     have ⟨_,_,_,_,_,cur',q,_⟩:=hH.blk j' kk' h3' (by rw [hlv'];intro h;cases h) _ hij';exact C2 q
    rcases hbn with rfl|h
    ·exact absurd (hH.inj j' id kk' k h3' hk hlv' hl _ _ _ _ _ hij' hi) h1'
    ·omega
   ·rfl
 ·intro j j' kk kk' hj hj' hlv hlv' b' c' s' c'' s'' hij hij';rcases hget j' kk' hj' with ⟨rfl,rfl⟩|⟨h1',h2',h3'⟩|⟨rfl,rfl⟩
  ·exact absurd hlv' hkdl.1
  ·rw [hold j' h2'] at hij';rcases hget j kk hj with ⟨rfl,rfl⟩|⟨h1,h2,h3⟩|⟨rfl,rfl⟩
   ·rw [hold j hidl,hi] at hij;injection hij with hij;injection hij with e1 e2 e3;subst e1;exact absurd (hH.inj j' j kk' k h3' hk hlv' hl _ _ _ _ _ hij' hi) h1'
   ·rw [hold j h2] at hij;exact hH.old j j' kk kk' h3 h3' hlv hlv' _ _ _ _ _ hij hij'
   ·cases hlv
  ·rw [hnl] at hij';injection hij' with hij';injection hij' with e1 e2 e3;subst e1 e2 e3;rcases hget j kk hj with ⟨rfl,rfl⟩|⟨h1,h2,h3⟩|⟨rfl,rfl⟩
   ·rw [hold j hidl,hi] at hij;injection hij with hij;injection hij with e1 e2 e3;subst e1 e3;rcases hdead with ⟨h,_⟩|⟨rfl,hap,hle',_⟩
    ·rw [h] at hlv;cases hlv
    ·exact ⟨hap,rfl,hle'⟩
   ·rw [hold j h2] at hij;have hbl:bn<w.heap.size:=by
     have ⟨_,_,_,_,_,cur',q,_⟩:=hH.blk j kk h3 (by rw [hlv];intro h;cases h) _ hij;exact C2 q
    rcases hbn with rfl|h
    ·have ⟨q1,q2,q3⟩:=hH.old j id kk k h3 hk hlv hl _ _ _ _ _ hij hi;rcases hdead with ⟨_,h⟩|⟨rfl,hap,hle',_⟩
     ·rw [q1] at h;cases h
     ·exact ⟨hap,q2,lbS q3 hle'⟩
    ·omega
   ·cases hlv
 ·rintro b' (h|rfl)
  ·exact a6P (hM b' h) hsize
  ·exact C2 hnew
 ·intro j hj;rw [lbq,List.length_set] at hj;simp at hj;show (if _ then _ else _)=_;rw [iC om];exact hF j om
 ·intro b' hb' hnl';exact hkeep b' hb' (by rintro rfl;exact hnl' ⟨id,k,cap,size,hk,hl,hi⟩)
 ·rintro b' ⟨j,kk,c',s',hj,hlv,hij⟩;rcases hget j kk hj with ⟨rfl,rfl⟩|⟨h1,h2,h3⟩|⟨rfl,rfl⟩
  ·exact absurd hlv hkdl.1
  ·rw [hold j h2] at hij;exact .inl ⟨j,kk,c',s',h3,hlv,hij⟩
  ·rw [hnl] at hij;injection hij with hij;injection hij with hij;subst hij;rcases hbn with rfl|h
   ·exact .inl ⟨id,k,cap,size,hk,hl,hi⟩
   ·exact .inr h
end
section
variable {P:Program} {τ:Tab} {o:Oper} {ev:Operand->S} {H:Hp}
def S3 {id:Nat} {kd:Blk} {H:Hp} {j:Nat} {kk:Blk} (hj:(H.set id kd)[j]? =some kk):(j=id/\kk=kd)\/(j≠id/\H[j]? =some kk):=by
 by_cases h:j=id
 ·subst h;have hlt:j<H.length:=by have:=(lbe.1 hj).1;simpa using this
  rw [List.getElem?_set_self hlt] at hj;injection hj with hj;exact .inl ⟨rfl,hj.symm⟩
 ·rw [getElem?_set_ne' h] at hj;exact .inr ⟨h,hj⟩
def K7.kill {w w':World} {ι:Io} {M:Ms} {H H':Hp} {s:S} {v:Value} {kd:Blk} (hd:kd.mode=.dead) (id:Nat) (h:K7 w ι M H s H' v w'):K7 w ι M H s (H'.set id kd) v w':=by
 have ⟨ι',M',h1,h2,h3,h4,h5⟩:=h;refine ⟨ι',M',h1,⟨?_,?_,?_,?_,?_⟩,h3,by simpa using h4,⟨h5.os,h5.tape,h5.output,h5.size,h5.keep,h5.same,h5.mnew,h5.mold,?_,by simpa using h5.len⟩⟩
 ·intro j kk hj hm l hl;rcases S3 hj with ⟨_,rfl⟩|⟨_,hj⟩
  ·exact absurd hd hm
  ·exact h2.blk j kk hj hm l hl
 ·intro j kk hj hm;rcases S3 hj with ⟨_,rfl⟩|⟨_,hj⟩
  ·rw [hd] at hm;cases hm
  ·exact h2.liv j kk hj hm
 ·intro j kk hj hm;rcases S3 hj with ⟨_,rfl⟩|⟨_,hj⟩
  ·rw [hd] at hm;cases hm
  ·exact h2.fro j kk hj hm
 ·intro j j' kk kk' hj hj' hm hm';rcases S3 hj with ⟨_,rfl⟩|⟨_,hj⟩
  ·rw [hd] at hm;cases hm
  ·rcases S3 hj' with ⟨_,rfl⟩|⟨_,hj'⟩
   ·rw [hd] at hm';cases hm'
   ·exact h2.inj j j' kk kk' hj hj' hm hm'
 ·intro j j' kk kk' hj hj' hm hm';rcases S3 hj with ⟨_,rfl⟩|⟨_,hj⟩
  ·rw [hd] at hm;cases hm
  ·rcases S3 hj' with ⟨_,rfl⟩|⟨_,hj'⟩
   ·rw [hd] at hm';cases hm'
   ·exact h2.old j j' kk kk' hj hj' hm hm'
 ·rintro b ⟨j,kk,c,sz,hj,hm,hi⟩;rcases S3 hj with ⟨_,rfl⟩|⟨_,hj⟩
  ·rw [hd] at hm;cases hm
  ·exact h5.live b ⟨j,kk,c,sz,hj,hm,hi⟩
def K7.age {w w':World} {ι:Io} {M:Ms} {H H':Hp} {s:S} {v:Value} {kd:Blk} (hd:kd.mode=.old) (hr:kd.rows=[]) {id:Nat} (hid:id<H.length) (hi:ι id=some .nil) (h:K7 w ι M H s H' v w'):K7 w ι M H s (H'.set id kd) v w':=by
 have ⟨ι',M',h1,h2,h3,h4,h5⟩:=h;have hi':ι' id=some .nil:=(h5.same id hid).trans hi;refine ⟨ι',M',h1,⟨?_,?_,?_,?_,?_⟩,h3,by simpa using h4,⟨h5.os,h5.tape,h5.output,h5.size,h5.keep,h5.same,h5.mnew,h5.mold,?_,by simpa using h5.len⟩⟩
 ·intro j kk hj hm l hl;rcases S3 hj with ⟨rfl,rfl⟩|⟨_,hj⟩
  ·rw [hi'] at hl;injection hl with hl;subst hl;exact hr
  ·exact h2.blk j kk hj hm l hl
 ·intro j kk hj hm;rcases S3 hj with ⟨_,rfl⟩|⟨_,hj⟩
  ·rw [hd] at hm;cases hm
  ·exact h2.liv j kk hj hm
 ·intro j kk hj hm;rcases S3 hj with ⟨_,rfl⟩|⟨_,hj⟩
  ·rw [hd] at hm;cases hm
  ·exact h2.fro j kk hj hm
 ·intro j j' kk kk' hj hj' hm hm';rcases S3 hj with ⟨_,rfl⟩|⟨_,hj⟩
  ·rw [hd] at hm;cases hm
  ·rcases S3 hj' with ⟨_,rfl⟩|⟨_,hj'⟩
   ·rw [hd] at hm';cases hm'
   ·exact h2.inj j j' kk kk' hj hj' hm hm'
 ·intro j j' kk kk' hj hj' hm hm' b c s' c' s'' hij hij';rcases S3 hj with ⟨rfl,rfl⟩|⟨_,hj⟩
  ·rw [hi'] at hij;cases hij
  ·rcases S3 hj' with ⟨_,rfl⟩|⟨_,hj'⟩
   ·rw [hd] at hm';cases hm'
   ·exact h2.old j j' kk kk' hj hj' hm hm' b c s' c' s'' hij hij'
 ·rintro b ⟨j,kk,c,sz,hj,hm,hi⟩;rcases S3 hj with ⟨_,rfl⟩|⟨_,hj⟩
  ·rw [hd] at hm;cases hm
  ·exact h5.live b ⟨j,kk,c,sz,hj,hm,hi⟩
def ah0 (hτ:G7 P τ) {c:Call} (ho:o.op=.call c) (hc:c.callee=.builtin .append) {t:TypeId} {s x:Operand} (ht:c.argTypes.toList=[t,t]) (ha:c.args.toList=[s,x])
 {e:TypeId} (hu:P.underlying t=some (.slice e)) {d:TD} (hd:τ e=some d) (h0:d.size≠0) {xr:List (List C)}
 (hx:∀(a:Act) (w:World) (ι:Io) (M:Ms),a0J w ι M ev a->v5 w ι M H->∃news,F4 w ι M d.size xr news/\Src P d.size t (a.eval x) xr.length news w/\
   (xr.length=0\/∃ad c,a.eval x=.slice (some ad) xr.length c/\∀j v,news[j]? =some v->w.cell? (ad.add j)=some v))
 {id lo len:Nat} (hs:ev s=.c (.own id lo len true)) {k:Blk} (hk:H[id]? =some k) (hlv:k.mode=.live) (hlen:len<=k.rows.length) (hbd:(len+xr.length)*(d.bytes+1)<=140737488355328)
 (hbk:k.size=d.size/\k.elem=e) {kd:Blk} {ap:Bool} (hkd:(kd.mode=.dead/\k.app=false)\/(kd=a6g k/\ap=true/\len=k.rows.length)):
 GOp P o ev H (.c (.own H.length 0 (len+xr.length) true)) ((H.set id kd)++[⟨.live,e,d.size,k.rows.take len++xr,false,ap⟩]):=by
 have ⟨i,hi,hsz,hby,z,hz,hzs,hone,hzl⟩:=(hτ.td _ _ hd).info;have hidl:id<H.length:=(lbe.1 hk).1;have htl:(k.rows.take len).length=len:=zo;intro a w ι M he hh hm hF;have ⟨news,hn1,hn2,hn3⟩:=hx a w ι M he hh;have hr:=(he.to hs).inv_c;generalize hv:a.eval s=v at *;cases hr with
 |@own _ _ _ _ b cap size A cap' hι q1 q2 q3 q4 q5=>
  obtain ⟨rfl,rfl,rfl⟩:=q5 rfl;have hbr:=hh.blk id k hk (by rw [hlv];intro h;cases h) _ hι;obtain rfl:size=d.size:=hbr.1.symm.trans hbk.1;have ⟨olds,ho1,ho2⟩:=a7d hbr (lo:=0) (len:=len) om;rw [a9m] at ho1;have hall:=ho1.append hn1;have hlall:(k.rows.take len++xr).length=len+xr.length:=by rw [lbq,htl]
  by_cases hxr:xr.length=0
  ·have hxr':xr=[]:=lbF hxr;subst hxr';have:news=[]:=lbF (by rw [hn1.len];simp);subst this;rw [← hsz] at hn2;have hrun:=run_append_nothing (P:=P) w t t o.type e i hu hi (some ⟨b,0,none⟩) len cap' q3 (a.eval x) hn2;have ⟨r1,r2,r3,r4,r5,cur,r6,r7,r8⟩:=hbr;refine C1 (S4 ho hc ht ha (by rw [hv];exact hrun)) ?_;have hleft:br8 w w k kd ap b b d.size (k.rows.take len++[]).length e cur:=by
    rcases hkd with h|⟨h1,h2,h3⟩
    ·exact .inl h
    ·exact .inr ⟨h1,h2,by rw [hlall];omega,.inr ⟨rfl,cur,by rw [r6,hbk.2],rfl,fun _ _=>rfl⟩⟩
   exact K7.append hh hm hF hk hlv hι hleft rfl rfl rfl (lbR _) (fun _ _ _=>rfl) (.inl rfl) (by rw [r6,hbk.2]) om hlall q3 r4 hall.row r7 (fun i' j c' hc'=>by
    have ⟨row,s1,s2⟩:=J4 hc';rw [a05,lbi] at s1;split at s1
    ·exact r8 _ _ _ (G5 s1 s2)
    ·cases s1)
  ·have ⟨ad,c',hxe,hxc⟩:=hn3.resolve_left hxr;by_cases hroom:len+xr.length<=cap'
   ·have ⟨r1,r2,r3,r4,r5,cur,r6,r7,r8⟩:=hbr;have hfit:len*i.size+news.length<=cur.size:=by
     rw [hn1.len,r7,hsz,←Y3];exact lbU _ hroom
    have hg:w.heap[b]? =some (.cells cur e (0,0)):=by rw [r6,hbk.2]
    have hrun:=run_append_room (P:=P) w t o.type e i hu hi b len cap' cur hg ad xr.length c' news (by rw [hn1.len,hsz]) hxc hn1.one hroom hfit;refine C1 (S4 ho hc ht ha (by rw [hv,hxe];exact hrun)) ?_;have holds:olds=cur.toList.take (len*i.size):=by
     apply a16;intro q;by_cases hq:q<len*i.size
     ·have hlt:q<olds.length:=by rw [ho1.len,htl,←hsz];exact hq
      have e1:=ho2 q _ (lbf hlt);simp only [World.cell?,hg,aN8,W7] at e1;rw [lbf hlt,List.getElem?_take_of_lt hq,←e1];simp
     ·rw [lbd (by rw [ho1.len,htl,←hsz];omega),lbd zo]
    have hcs:(cur.toList.take (len*i.size)++news++cur.toList.drop (len*i.size+news.length)).toArray.size=cur.size:=by
     simp only [a6J,lbq,lbs,a3S,a7M];omega
    have hleft:br8 w (w.setRow b (cur.toList.take (len*i.size)++news++cur.toList.drop (len*i.size+news.length)).toArray) k kd ap b b d.size (k.rows.take len++xr).length e (cur.toList.take (len*i.size)++news++cur.toList.drop (len*i.size+news.length)).toArray:=by
     rcases hkd with h|⟨h1,h2,h3⟩
     ·exact .inl h
     ·refine .inr ⟨h1,h2,by rw [hlall];omega,.inr ⟨rfl,cur,hg,hcs,fun q hq=>?_⟩⟩;rw [← h3,←hsz] at hq;rw [List.getElem?_toArray,lbD,lbb zo,List.getElem?_take_of_lt hq];simp
    refine K7.append (cur:=(cur.toList.take (len*i.size)++news++cur.toList.drop (len*i.size+news.length)).toArray) hh hm hF hk hlv hι hleft rfl rfl rfl zq (fun b' _ hb'=>setRow_other w b b' _ hb') (.inl rfl) (setRow_heap w b cur _ e _ hg) om hlall hroom r4 hall.row ?_ (fun i' j c'' hc''=>?_)
    ·simp only [a6J,lbq,lbs,a3S,a7M];omega
    ·have ⟨u,s1,s2⟩:=hall.cell _ _ _ hc'';refine ⟨u,b0R (rest:=cur.toList.drop (len*i.size+news.length)) ?_ s1,s2⟩;rw [holds]
   ·have ⟨cap2,cur,r1,r2,r3,r4,r5⟩:=a3N (ty:=o.type) hτ hu hd h0 ho1 hn1 htl (base:=some ⟨b,0,none⟩) (sCap:=cap') (a0R (by rw [ho1.len,htl]) (.inr ⟨b,0,rfl,fun q u hq=>by have:=ho2 q u hq;simpa using this⟩)) hn2 om (by rw [htl];exact hbd);refine C1 (S4 ho hc ht ha (by rw [hv];exact r1)) ?_;have hblt:b<w.heap.size:=C2 hbr.2.2.2.2.2.choose_spec.1;have hleft:br8 w (w.drew.alloc (.cells cur e)) k kd ap b w.heap.size d.size (k.rows.take len++xr).length e cur:=by
     rcases hkd with h|⟨h1,h2,h3⟩
     ·exact .inl h
     ·exact .inr ⟨h1,h2,by rw [hlall];omega,.inl ⟨om,heap_alloc_old w.drew _ hblt⟩⟩
    exact K7.append hh hm hF hk hlv hι hleft rfl rfl rfl zq (fun b' hb' _=>heap_alloc_old w.drew _ hb') (.inr (lbR _)) (heap_alloc_new w.drew _) om hlall r3 r4 hall.row r2 r5
 |nil hι=>
  rename_i A;have hbr:=hh.blk id k hk (by rw [hlv];intro h;cases h) _ hι;have hkr:k.rows=[]:=hbr;have hset:∀nb:Blk,(H.set id kd)++[nb]=(H++[nb]).set id kd:=fun nb=>by
   rw [b4S _ _ hidl]
  rw [hset,hkr];have hfr:∀j,j<[D8 e d.size xr false].length->ι (H.length+j)=none:=fun j _=>hF _ om
  have hkill:∀{w':World} {s:S} {H':Hp} {v:Value},K7 w ι M H s H' v w'->K7 w ι M H s (H'.set id kd) v w':=fun h=>by
   rcases hkd with ⟨h1,_⟩|⟨rfl,_,_⟩
   ·exact K7.kill h1 id h
   ·exact K7.age (kd:=a6g k) rfl hkr hidl hι h
  by_cases hxr:xr=[]
  ·subst hxr;have:news=[]:=lbF (by rw [hn1.len];simp);subst this;rw [← hsz] at hn2;have hrun:=run_append_nothing (P:=P) w t t o.type e i hu hi A 0 0 (lbR _) (a.eval x) hn2;refine C1 (S4 ho hc ht ha (by rw [hv];exact hrun)) ?_;exact hkill (P4.gpost hh hm hF P4.nil)
  ·have hpos:0<xr.length:=a7N.2 hxr;have ⟨cap,cur,q1,q2,q3,q4,q5⟩:=a3N (ty:=o.type) hτ hu hd h0 (F4.nil w ι M d.size) hn1 rfl (base:=A) (sLen:=0) (sCap:=0) (a0R zq (.inl rfl)) hn2 zo (by simpa using hbd);refine C1 (S4 ho hc ht ha (by rw [hv];exact q1)) ?_;simp only [a15,W7,a6A,List.take_nil] at q3 q5 ⊢;exact hkill (P4.gpost hh hm hF (P4.new rfl rfl rfl rfl (hfr 0 zq) om q3 q4 hn1.row q2 q5 fun ι' M' hi'=>a1S hi' q3 q4))
def aF0 (hτ:G7 P τ) {c:Call} (ho:o.op=.call c) (hc:c.callee=.builtin .append) {t:TypeId} {s x:Operand} (ht:c.argTypes.toList=[t,t]) (ha:c.args.toList=[s,x])
 {Kq:S->List Blk->Prop} {Kg:S->Hp->Prop} (h:am0 τ ev H H.length t s x Kq Kg):(∃ s B,Kq s B/\QOp P o ev H s B)\/(∃ s H',Kg s H'/\GOp P o ev H s H'):=by
 unfold am0 at h;split at h
 rotate_left
 ·exact h.elim
 rename_i e _ _ _ _ hte;have hu:=R0 hτ hte;split at h
 rotate_left
 ·exact h.elim
 rename_i d hd;have ⟨hb,h⟩:=a11 h;have h0:d.size≠0:=by intro e;simp [e] at hb
 have ⟨xr,h,hx⟩:=b1v hτ hu h;have ⟨i,hi,hsz,hby,z,hz,hzs,hone,hzl⟩:=(hτ.td _ _ hd).info;split at h
 ·rename_i sz rows hs;have ⟨hbd,h⟩:=h;refine .inl ⟨_,_,h,fun a w ι M he hh hm hf=>?_⟩;have ⟨news,hn1,hn2,_⟩:=hx a w ι M he hh;have hr:=(he.to hs).inv_t;generalize hv:a.eval s=v at *;cases hr with
  |@sl _ _ _ b off cap A f hrow hcap hmax hk hnil hA hc' hr=>
   obtain ⟨rfl,rfl,rfl⟩:=hnil rfl;by_cases hxr:xr=[]
   ·subst hxr;have:news=[]:=lbF (by rw [hn1.len];simp);subst this;rw [← hsz] at hn2;have hrun:=run_append_nothing (P:=P) w t t o.type e i hu hi none 0 0 (lbR _) (a.eval x) hn2;exact C1 (S4 ho hc ht ha (by rw [hv];exact hrun)) P4.nil
   ·have hpos:0<xr.length:=a7N.2 hxr;have ⟨cap,cur,q1,q2,q3,q4,q5⟩:=a3N (ty:=o.type) hτ hu hd h0 (F4.nil w ι M d.size) hn1 rfl (base:=none) (sLen:=0) (sCap:=0) (a0R zq (.inl rfl)) hn2 om (by simpa using hbd);refine C1 (S4 ho hc ht ha (by rw [hv];exact q1)) ?_;simp only [W7,a6A] at q3 q5 ⊢;exact P4.new rfl rfl rfl rfl (hf 0 zq) om q3 q4 hn1.row q2 q5 fun ι' M' hi'=>a1S hi' q3 q4
 ·rename_i sz rows hs;have ⟨⟨hcd,hbd⟩,h⟩:=h;refine .inl ⟨_,_,h,fun a w ι M he hh hm hf=>?_⟩;have ⟨news,hn1,hn2,_⟩:=hx a w ι M he hh;have hr:=(he.to hs).inv_t;generalize hv:a.eval s=v at *;cases hr with
  |@sl _ _ _ b off cap A f hrow hcap hmax hk hnil hA hc' hr=>
   obtain rfl:=hk rfl;by_cases hxr:xr=[]
   ·subst hxr;have hr0:rows=[]:=by
     rcases hcd with h|⟨h,_⟩
     ·exact lbF h
     ·simp at h
    subst hr0;have:news=[]:=lbF (by rw [hn1.len];simp);subst this;rw [← hsz] at hn2;have hrun:=run_append_nothing (P:=P) w t t o.type e i hu hi A 0 0 (lbR _) (a.eval x) hn2;exact C1 (S4 ho hc ht ha (by rw [hv];exact hrun)) P4.nil
   ·have hpos:0<xr.length:=a7N.2 hxr;have hbase:∃vals,F4 w ι M d.size (toC rows) vals/\(vals=[]\/∃b off,A=some ⟨b,off,none⟩/\∀q u,vals[q]? =some u->w.cell? ⟨b,off+q,none⟩=some u):=by
     by_cases hr0:rows=[]
     ·subst hr0;exact ⟨[],F4.nil w ι M d.size,.inl rfl⟩
     ·have hsz':sz=d.size:=by
       rcases hcd with h|⟨_,h⟩
       ·exact absurd (lbF h) hr0
       ·exact h
      subst hsz';have ⟨_,vals,h1,h2⟩:=b21 (ι:=ι) (RT.sl f hrow hcap hmax hk hnil hA hc' hr);exact ⟨vals,h1,.inr (h2 hr0)⟩
    have ⟨vals,hv1,hv2⟩:=hbase;have hl:(toC rows).length=rows.length:=zt;have ⟨cap,cur,q1,q2,q3,q4,q5⟩:=a3N (ty:=o.type) hτ hu hd h0 hv1 hn1 hl (base:=A) (sCap:=rows.length) (a0R (by rw [hv1.len,hl]) hv2) hn2 om (by rw [hl];exact hbd);refine C1 (S4 ho hc ht ha (by rw [hv];exact q1)) ?_;exact P4.new rfl rfl rfl rfl (hf 0 zq) om (by rw [lbq,hl];exact q3) q4 (hv1.append hn1).row q2 q5 fun ι' M' hi'=>a1S hi' q3 q4
 ·rename_i id lo len hs;have ⟨k,hk,h⟩:=U9 h;have ⟨hbk,h⟩:=I2 h;have hbk:k.size=d.size/\k.elem=e:=by simpa using hbk
  obtain ⟨hlv,⟨hap,⟨hlen,hbd⟩,h⟩|⟨hap,⟨hlen,hbd⟩,h⟩⟩:=aV1 h
  ·rw [S0,a4z] at h;have:=ah0 hτ ho hc ht ha hu hd h0 hx hs hk hlv (Nat.le_of_eq hlen) hbd hbk (kd:=a6g k) (ap:=true) (.inr ⟨rfl,rfl,hlen⟩);rw [hlen,lbn (lbR _)] at this;rw [hlen] at h;exact .inr ⟨_,_,h,this⟩
  ·rw [S0,a4z] at h;exact .inr ⟨_,_,h,ah0 hτ ho hc ht ha hu hd h0 hx hs hk hlv hlen hbd hbk (.inl ⟨rfl,hap⟩)⟩
 ·exact h.elim
def aF2 {z:Array Value} {size n i j:Nat} (hz:z.size=size) (hi:i<n) (hj:j<size):(Builtin.zeroCells z n)[i*size+j]? =z[j]?:=by
 rw [← a4c hz hi hj,←hz];rfl
def aj5 {w:World} {t tx ty e:TypeId} {k:IntKind} {i:TypeInfo} {z:Value} (ht:P.underlying t=some (.slice e)) (hx:P.underlying tx=some (.int k)) (hi:P.info? e=some i) (hz:i.zero=some z) (h0:i.size≠0)
 {m:Nat} (h1:1<=m) (hb:m*(i.bytes+1)<=140737488355328):
 (Builtin.append_ #[t,tx] ty #[.slice none 0 0,.int .i64 m]).run P w=
   .ok (.slice (some ⟨w.heap.size,0,none⟩) m (grownCap w m 0 e)) (w.drew.alloc (.cells (Builtin.zeroCells z.cells m++Builtin.zeroCells z.cells (grownCap w m 0 e - m)) e)):=by
 have hb1:m*i.bytes<=140737488355328:=lbS (Nat.mul_le_mul_left _ (Nat.le_succ _)) hb;have hb2:m<=140737488355328:=lbS (aK2 _ (Nat.succ_pos i.bytes)) hb;have hfit:=growslice_fits (need:=m) (old:=0) om hb1;have h48':¬(281474976710656<Builtin.nextslicecap m 0*i.bytes):=om;have h63':¬(9223372036854775807<(m:Int)):=om;have hbi:(m:Int)*(i.bytes:Int)<=140737488355328:=by
  have:=Int.ofNat_le.2 hb1;simpa using this
 have h47:¬(281474976710656<(m:Int)*(i.bytes:Int)):=om;have hw:IntKind.i64.wrap (m:Int)=m:=IntWalk.i64_in m ⟨om,om⟩;have hm0:¬m=0:=om;have hneg:¬((m:Int)<0):=om;simp [asIntOf,Builtin.append_,run_underlying ht,run_underlying hx,sizeOf,typeInfo,zeroValue,hi,hz,hw,h0,hm0,hneg,h47,h63',h48',Question.forced,Builtin.firstCells,newRow,grownCap,asInt];intro h;rcases Nat.mul_eq_zero.1 h with h|h<;>omega
def b1a (hτ:G7 P τ) {c:Call} (ho:o.op=.call c) (hc:c.callee=.builtin .append) {t t':TypeId} {s x:Operand} (ht:c.argTypes.toList=[t,t']) (ha:c.args.toList=[s,x])
 {Kq:S->List Blk->Prop} (h:b5y τ ev H.length t t' s x Kq):∃s B,Kq s B/\QOp P o ev H s B:=by
 unfold b5y at h;split at h
 rotate_left
 ·exact h.elim
 rename_i e _ _ _ _ k _ _ _ _ hte htx;have hu:=R0 hτ hte;have hux:P.underlying t'=some (.int k):=by
  have ⟨u,h1,h2⟩:=(hτ.td _ _ htx).und;obtain ⟨_,rfl⟩:=h2;exact h1
 split at h
 rotate_left
 ·exact h.elim
 rename_i d hd;have ⟨hb,h⟩:=a11 h;have h0:d.size≠0:=by intro e;simp [e] at hb
 have ⟨i,hi,hsz,hby,z,hz,hzs,hone,hzl⟩:=(hτ.td _ _ hd).info;split at h
 rotate_left
 ·exact h.elim
 rename_i sz rows m hs hx;have ⟨⟨hm1,hbd⟩,h⟩:=h;rw [a2c] at h;refine ⟨_,_,h,fun a w ι M he hh hm hf=>?_⟩;have hr:=(he.to hs).inv_t;have hxv:=(he.to hx).inv_atm;generalize hv:a.eval s=v at *;cases hr with
 |@sl _ _ _ b off cap A f hrow hcap hmax hk hnil hA hc' hr=>
  obtain ⟨rfl,rfl,rfl⟩:=hnil rfl;obtain ⟨q,rfl⟩:∃q:Nat,m=q:=⟨m.toNat,om⟩;simp only [lbY] at hbd;have hrun:=aj5 (P:=P) (w:=w) (ty:=o.type) hu hux hi hz om (m:=q) om (by rw [hby];exact hbd);have hzc:z.cells.size=i.size:=by rw [hsz,←hzl,←hzs];simp
  have hb2:q<=140737488355328:=lbS (aK2 _ (Nat.succ_pos d.bytes)) hbd;have hge:=grownCap_ge w q 0 e;have hmx:=grownCap_le_maxLen w q 0 e (b3L hb2);have ⟨ha1,ha2⟩:=a4a.const (w:=w) (ι:=ι) (M:=M) (vs:=z.cells) (by rw [hzs];exact hone);rw [hzs] at ha1 ha2;refine C1 (w':=w.drew.alloc (.cells (Builtin.zeroCells z.cells q++Builtin.zeroCells z.cells (grownCap w q 0 e - q)) e)) (v:=.slice (some ⟨w.heap.size,0,none⟩) q (grownCap w q 0 e)) ?_ ?_
  ·have ⟨callee,args,argTypes⟩:=c;simp only at hc ht ha;subst hc;obtain rfl:argTypes=#[t,t']:=by apply Array.ext';simpa using ht
   obtain rfl:args=#[s,x]:=by apply Array.ext';simpa using ha
   simp [execOp,ho,resolve,invoke,builtin,hv,hxv,hrun]
  ·simp only [lbY];refine P4.new (cap:=grownCap w q 0 e) rfl rfl rfl rfl (hf 0 zq) om (by simpa using hge) hmx ?_ ?_ ?_ fun ι' M' hi'=>a1S hi' hge hmx
   ·intro r hr;rw [(a95.1 hr).2,←ha1,hzc,hsz]
   ·rw [Array.size_append,size_zeroCells,size_zeroCells,hzc,hsz,←Y3]
    congr 1;omega
   ·intro i' j c' hij;have ⟨row,hr1,hr2⟩:=J4 hij;rw [lbk] at hr1;split at hr1
    ·rename_i hlt;injection hr1 with hr1;subst hr1;have ⟨u,q1,q2⟩:=ha2 j c' hr2;have hj:j<i.size:=by rw [← hzc];exact (lb6.1 q1).1
     refine ⟨u,?_,q2⟩;have hlt2:i'*d.size+j<q*d.size:=by
      have:i'*d.size+d.size<=q*d.size:=by rw [← lbV];exact lbU _ hlt
      omega
     rw [Array.getElem?_append_left (by rw [size_zeroCells,hzc,hsz];exact hlt2),←hsz,aF2 hzc hlt hj,q1]
    ·cases hr1
def b2d (hτ:G7 P τ) {c:Call} (ho:o.op=.call c) (hc:c.callee=.builtin .cap) {t:TypeId} {x:Operand} (ht:c.argTypes.toList=[t]) (ha:c.args.toList=[x]) {K:S->Prop}
 (h:bL6 τ t (ev x) K):∃s,K s/\QOp P o ev H s []:=by
 have ⟨callee,args,argTypes⟩:=c;simp only at hc ht ha;subst hc;obtain rfl:argTypes=#[t]:=by apply Array.ext';simpa using ht
 obtain rfl:args=#[x]:=by apply Array.ext';simpa using ha
 unfold bL6 at h;split at h
 ·rename_i e _ _ _ _ hte;have hu:=R0 hτ hte;split at h
  ·rename_i sz rows hx;refine ⟨_,h,A6 fun a w ι M he hh=>⟨.int .i64 0,?_,.int⟩⟩;have hr:=(he.to hx).inv_t;generalize hv:a.eval x=v at *;cases hr with
   |@sl _ _ _ b off cap A f hrow hcap hmax hk hnil hA hc' hr=>
    obtain ⟨rfl,rfl,rfl⟩:=hnil rfl;simp [execOp,ho,resolve,invoke,builtin,Builtin.cap_,hv,run_underlying hu,goInt]
  ·exact h.elim
 ·exact h.elim
end
section
variable {P:Program} {τ:Tab} {o:Oper} {ev:Operand->S} {H:Hp}
def K7.store {w w':World} {ι:Io} {M:Ms} (hH:v5 w ι M H) (hM:MB w M) (hF:a17 ι H.length) {id b cap size:Nat} {k k':Blk} (hk:H[id]? =some k) (hl:k.mode=.live) (hap:k.app=false)
 (hi:ι id=some (.blk b cap size)) (hl':k'.mode=.live) (hos:w'.os=w.os) (htape:w'.tape=w.tape) (hout:w'.output=w.output)
 (hsize:w'.heap.size=w.heap.size) (hkeep:∀b',b'≠b->w'.heap[b']? =w.heap[b']?) (hnew:S7 w' ι M k' (.blk b cap size)):
 K7 w ι M H .junk (H.set id k') undef w':=by
 have hMb:M b:=hH.liv id k hk hl b cap size hi;have hget:∀j kk,(H.set id k')[j]? =some kk->(j=id/\kk=k')\/(j≠id/\H[j]? =some kk):=fun j kk hj=>S3 hj
 refine ⟨ι,M,.junk,⟨?_,?_,?_,?_,?_⟩,fun b' h=>by rw [hsize];exact hM b' h,by simpa using hF,⟨hos,htape,hout,om,?_,fun _ _=>rfl,fun b' h=>.inl h,fun b' h=>.inl h,?_,zq⟩⟩
 ·intro j kk hj hd l hl2;rcases hget j kk hj with ⟨rfl,rfl⟩|⟨h1,h2⟩
  ·rw [hi] at hl2;injection hl2 with hl2;subst hl2;exact hnew
  ·exact hH.other hk hl hi hap (fun b' _ h=>hkeep b' h) (fun b' h=>.inl h) (fun _ _ h=>h) j kk h1 h2 hd l hl2
 ·intro j kk hj hm;rcases hget j kk hj with ⟨rfl,rfl⟩|⟨h1,h2⟩
  ·exact hH.liv j k hk hl
  ·exact hH.liv j kk h2 hm
 ·intro j kk hj hm;rcases hget j kk hj with ⟨rfl,rfl⟩|⟨h1,h2⟩
  ·rw [hl'] at hm;cases hm
  ·exact hH.fro j kk h2 hm
 ·intro j j' kk kk' hj hj' hm hm';rcases hget j kk hj with ⟨rfl,rfl⟩|⟨h1,h2⟩<;>rcases hget j' kk' hj' with ⟨rfl,rfl⟩|⟨h1',h2'⟩
  ·intros;rfl
  ·exact hH.inj _ _ _ _ hk h2' hl hm'
  ·exact hH.inj _ _ _ _ h2 hk hm hl
  ·exact hH.inj _ _ _ _ h2 h2' hm hm'
 ·intro j j' kk kk' hj hj' hm hm' b' c s c' s' hij hij';rcases hget j kk hj with ⟨rfl,rfl⟩|⟨h1,h2⟩
  ·rw [hl'] at hm;cases hm
  ·rcases hget j' kk' hj' with ⟨rfl,rfl⟩|⟨h1',h2'⟩
   ·have:=(hH.old _ _ _ _ h2 hk hm hl _ _ _ _ _ hij hij').1;rw [hap] at this;cases this
   ·exact hH.old _ _ _ _ h2 h2' hm hm' _ _ _ _ _ hij hij'
 ·intro b' _ hnl;exact hkeep b' (by rintro rfl;exact hnl ⟨id,k,cap,size,hk,hl,hi⟩)
 ·rintro b' ⟨j,kk,c',s',hj,hm,hi'⟩;rcases hget j kk hj with ⟨rfl,rfl⟩|⟨h1,h2⟩
  ·exact .inl ⟨j,k,c',s',hk,hl,hi'⟩
  ·exact .inl ⟨j,kk,c',s',h2,hm,hi'⟩
def ak4 {t:TypeId} {d:TD} (h:aQ3 P t d) {w:World} {b off:Nat} {e:TypeId} {cur:Array Value} {v:Value} (hg:w.heap[b]? =some (.cells cur e (0,0))) (hs:v.cells.size=d.size)
 (hl:off+v.cells.size<=cur.size) (h1:∀u ∈ v.cells.toList,u.oneCell'=true):
 (Instr.storeAt t (.pointer (some ⟨b,off,none⟩)) v).run P w=.ok () (w.setRow b (cur.toList.take off++v.cells.toList++cur.toList.drop (off+v.cells.size)).toArray):=by
 have:=run_storeCells_at P b off e v.cells.toList 0 cur w hg (by simpa using hl) h1;simp only [b0I,a7M] at this;simp [Instr.storeAt,Instr.sureAddr,storeVar,a4Q h,hs,this]
def aR2 (hτ:G7 P τ) {t:TypeId} {x v:Operand} (ho:o.op=.store t x v) {K:Hp->Prop} (h:aY0 τ ev H t x v K):∃H',K H'/\GOp P o ev H .junk H':=by
 unfold aY0 at h;split at h
 ·exact h.elim
 rename_i d hd;split at h
 rotate_left
 ·exact h.elim
 rename_i id r o' hx;have ⟨k,hk,h⟩:=U9 h;have ⟨hlv,hap,h⟩:=a5B h;have ⟨cs,h,hcs⟩:=a3c h;have ⟨hsz,h⟩:=I2 h;have hsz:cs.length=d.size:=by simpa using hsz
 have ⟨row,hrow,h,hbox⟩:=b1o h;by_cases hne:cs=[]
 · -- nothing is stored
   subst hne;have hov:∀{kk:List C->Prop},a6o o' [] row kk->kk row:=fun {kk} hh=>by cases row<;>cases o'<;>exact hh
   have h:=hov h;have hsame:∀rows,D6 k rows=k↔rows=k.rows:=fun rows=>⟨fun e=>by rw [← congrArg Blk.rows e];rfl,fun e=>by subst e;cases k;rfl⟩
   have hset:H.set id k=H:=by
    apply a16;intro j;by_cases hj:j=id
    ·subst hj;rw [List.getElem?_set_self (lbe.1 hk).1,hk]
    ·rw [getElem?_set_ne' hj]
   have hK:K H:=by
    split at h
    ·rename_i hb;rw [S0,(hsame _).2 (by rw [(hbox hb).1]),hset] at h;exact h
    ·rw [S0,(hsame _).2 (by
      apply a16;intro j;by_cases hj:j=r
      ·subst hj;rw [List.getElem?_set_self (lbe.1 hrow).1,hrow]
      ·rw [List.getElem?_set_ne (Ne.symm hj)]),hset] at h
     exact h
   refine ⟨H,hK,fun a w ι M he hh hm hF=>?_⟩;have hv:=(he v).cells hcs;generalize hvx:a.eval x=vx;have hr:=(he.to hx).inv_c;rw [hvx] at hr;cases hr with
   |@ptr _ _ _ b cap size hi=>
    have hbr:=hh.blk id k hk (by rw [hlv];intro h;cases h) _ hi;have ⟨q1,q2,q3,q4,q5,cur,q6,q7,q8⟩:=hbr;have hc0:(a.eval v).cells.toList=[]:=lbF (by simpa using hv.1);have hrun:(Instr.storeAt t (.pointer (some ⟨b,r*size+o',none⟩)) (a.eval v)).run P w=.ok () w:=by
     simp [Instr.storeAt,Instr.sureAddr,storeVar,a4Q (hτ.td t d hd),hc0,storeCells,show (a.eval v).cells.size=d.size by rw [hv.1];exact hsz]
    refine aH6 (by simp only [execOp,ho,hvx,Sem.run_bind,hrun,Result.andThen_ok];rfl) ⟨ι,M,.junk,hh,hm,hF,a4n.refl w ι M H⟩
 ·have ⟨hlen,h'⟩:=a9K h hne;clear h
  revert h'
  intro h;have hH':∃rows',K (H.set id (D6 k rows'))/\rows'.length=k.rows.length/\rows'=k.rows.set r (row.take o'++cs++row.drop (o'+cs.length)):=by
   split at h
   ·rename_i hb;rw [S0] at h;have ⟨e1,e2⟩:=hbox hb;exact ⟨_,h,by rw [e1];rfl,by rw [e1,e2];rfl⟩
   ·rw [S0] at h;exact ⟨_,h,zq,rfl⟩
  have ⟨rows',hK,hrl,hrows'⟩:=hH';refine ⟨_,hK,fun a w ι M he hh hm hF=>?_⟩;have hv:=(he v).cells hcs;generalize hvx:a.eval x=vx;have hr:=(he.to hx).inv_c;rw [hvx] at hr;cases hr with
  |@ptr _ _ _ b cap size hi=>
   have hbr:=hh.blk id k hk (by rw [hlv];intro h;cases h) _ hi;have hMb:=hh.liv id k hk hlv _ _ _ hi;have ⟨q1,q2,q3,q4,q5,cur,q6,q7,q8⟩:=hbr;have hrlen:row.length=size:=q5 row (lbm hrow);have hr0:r<k.rows.length:=(lbe.1 hrow).1;have hmul:r*size+size<=cap*size:=by rw [← lbV];exact lbU _ om
   have hfit:r*size+o'+(a.eval v).cells.size<=cur.size:=by rw [hv.1,q7];omega
   have hrun:=ak4 (hτ.td t d hd) (b:=b) (off:=r*size+o') q6 (by rw [hv.1];exact hsz) hfit hv.one;refine aH6 (by simp only [execOp,ho,hvx,Sem.run_bind,hrun,Result.andThen_ok];rfl) ?_;have hkeep:∀b',b'≠b->(w.setRow b (cur.toList.take (r*size+o')++(a.eval v).cells.toList++cur.toList.drop (r*size+o'+(a.eval v).cells.size)).toArray).heap[b']? =w.heap[b']?:=fun b' hb'=>setRow_other w b b' _ hb'
   refine K7.store hh hm hF hk hlv hap hi (by exact hlv) rfl rfl rfl zq hkeep ⟨q1,q2,by show rows'.length<=cap;omega,q4,?_,_,setRow_heap w b cur _ k.elem _ q6,?_,?_⟩
   ·show ∀r ∈ rows',r.length=size;rw [hrows'];intro r' hr';rcases b2Q hr' with h|rfl
    ·exact q5 r' h
    ·simp;omega
   ·simp only [a6J,lbq,lbs,a3S,a7M];omega
   ·intro i j c hc;have ⟨row',s1,s2⟩:=J4 hc;have s1':rows'[i]? =some row':=s1;rw [hrows'] at s1';have keepc:∀{c:C} {u:Value},RC w ι M c u->RC (w.setRow b (cur.toList.take (r*size+o')++(a.eval v).cells.toList++cur.toList.drop (r*size+o'+(a.eval v).cells.size)).toArray) ι M c u:=
     fun h=>h.keep (fun b' _ hb'=>hkeep b' (by rintro rfl;exact hb' hMb)) (fun b' h=>.inl h) (fun _ _ h=>h)
    have hlt:i<k.rows.length:=by have:=(lbe.1 s1).1;rw [← hrl];exact this
    by_cases hir:i=r
    ·subst hir;rw [List.getElem?_set_self hlt] at s1';injection s1' with s1';subst s1';have hj:j<size:=by have:=(lbe.1 s2).1;simp at this;omega
     by_cases hj1:j<o'
     ·rw [lbD,lbb zo,List.getElem?_take_of_lt hj1] at s2;have ⟨u,t1,t2⟩:=q8 i j c (G5 hrow s2);refine ⟨u,?_,keepc t2⟩;rw [List.getElem?_toArray,lbD,lbb zo,List.getElem?_take_of_lt om];simpa using t1
     ·by_cases hj2:j<o'+cs.length
      ·rw [lbb zo,lbc zo] at s2;rw [show (row.take o').length=o' by simp;omega] at s2;have ⟨u,t1,t2⟩:=hv.2 _ _ s2;refine ⟨u,?_,keepc t2⟩;have hvl:=hv.1;rw [List.getElem?_toArray,lbb zo,lbc zo];rw [show (cur.toList.take (i*size+o')).length=i*size+o' by simp;omega,show i*size+j - (i*size+o')=j - o' by omega];simpa using t1
      ·rw [lbc zo,lbj] at s2;rw [show (row.take o'++cs).length=o'+cs.length by simp;omega,show o'+cs.length+(j - (o'+cs.length))=j by omega] at s2;have ⟨u,t1,t2⟩:=q8 i j c (G5 hrow s2);refine ⟨u,?_,keepc t2⟩;have hvl:=hv.1;rw [List.getElem?_toArray,lbc zo,lbj];rw [show (cur.toList.take (i*size+o')++(a.eval v).cells.toList).length=i*size+o'+(a.eval v).cells.size by simp;omega,
        show i*size+o'+(a.eval v).cells.size+(i*size+j - (i*size+o'+(a.eval v).cells.size))=i*size+j by omega]
       simpa using t1
    ·rw [List.getElem?_set_ne (Ne.symm hir)] at s1';have ⟨u,t1,t2⟩:=q8 i j c (G5 s1' s2);refine ⟨u,?_,keepc t2⟩;have hj:j<size:=by rw [← q5 row' (lbm s1')];exact (lbe.1 s2).1
     have hvl:=hv.1;rcases au4 hir with hlt'|hgt'
     ·have:i*size+size<=r*size:=by rw [← lbV];exact lbU _ hlt'
      rw [List.getElem?_toArray,lbD,lbb zo,List.getElem?_take_of_lt om];simpa using t1
     ·have:r*size+size<=i*size:=by rw [← lbV];exact lbU _ hgt'
      rw [List.getElem?_toArray,lbc zo,lbj];rw [show (cur.toList.take (r*size+o')++(a.eval v).cells.toList).length=r*size+o'+(a.eval v).cells.size by simp;omega,
       show r*size+o'+(a.eval v).cells.size+(i*size+j - (r*size+o'+(a.eval v).cells.size))=i*size+j by omega]
      simpa using t1
def aH7 {size:Nat}:∀(parts:List (Nat × S)) (rows:List (List C)) {k:List (List C)->Prop},b0F size rows parts k->∃c,k c/\b0F size rows parts (·=c)
 |[],rows,k,h=>⟨rows,h,rfl⟩
 |(i,s)::rest,rows,k,h=>by
  have ⟨cs,h,hcs⟩:=a88 h;have ⟨hb,h⟩:=I2 h;rw [S0] at h;have ⟨c,h1,h2⟩:=aH7 rest _ h;refine ⟨c,h1,a6e hcs ?_⟩;rintro _ rfl;simp only [hb,cond_true];rw [S0];exact h2
def aN4 {w:World} {ι:Io} {M:Ms} {a:Act} (he:a0J w ι M ev a) {size:Nat} (h0:0<size):∀(parts:List (Nat × Operand)) (rows:List (List C)) (arr:Array Value) {k:List (List C)->Prop},
 F4 w ι M size rows arr.toList->b0F size rows (parts.map fun p=>(p.1,ev p.2)) k->
 ∃rows',k rows'/\rows'.length=rows.length/\∃r,Instr.fill (fun i=>some (i*size,size)) arr (parts.map fun p=>(p.1,a.eval p.2))=some r/\F4 w ι M size rows' r.toList
 |[],rows,arr,k,hr,h=>⟨rows,h,rfl,arr,rfl,hr⟩
 |(i,x)::rest,rows,arr,k,hr,h=>by
  have ⟨cs,h,hcs⟩:=a3c h;have ⟨hb,h⟩:=I2 h;rw [S0] at h;have hb:cs.length=size/\i<rows.length:=by simpa [a1o] using hb
  have hv:=(he x).cells hcs;have hlen:=hr.len;rw [a7M] at hlen;have hmul:i*size+size<=rows.length*size:=by rw [← lbV];exact lbU _ hb.2
  have ⟨r0,hr0,hs0,hm0⟩:=au2 (i*size) (a.eval x).cells arr (by rw [hv.1,hb.1,hlen];exact hmul);have hok:F4 w ι M size (rows.set i cs) r0.toList:=by
   refine ⟨by rw [a7M,hs0,hlen,List.length_set],?_,?_⟩
   ·intro r hr';rcases b2Q hr' with h|rfl
    ·exact hr.row r h
    ·exact hb.1
   ·intro i' j c hc;have ⟨row,s1,s2⟩:=J4 hc;rw [Array.getElem?_toList,hm0,hv.1,hb.1];by_cases hi:i'=i
    ·subst hi;rw [List.getElem?_set_self hb.2] at s1;injection s1 with s1;subst s1;have hj:j<size:=by rw [← hb.1];exact (lbe.1 s2).1
     rw [iB om,show i'*size+j - i'*size=j by omega];exact hv.2 j c s2
    ·rw [List.getElem?_set_ne (Ne.symm hi)] at s1;have hj:j<size:=by rw [← hr.row row (lbm s1)];exact (lbe.1 s2).1
     have hno:¬(i*size<=i'*size+j/\i'*size+j<i*size+size):=by
      rintro ⟨h1,h2⟩;rcases au4 hi with h|h
      ·have:i'*size+size<=i*size:=by rw [← lbV];exact lbU _ h
       omega
      ·have:i*size+size<=i'*size:=by rw [← lbV];exact lbU _ h
       omega
     rw [iC hno];have:=hr.cell i' j c (G5 s1 s2);simpa using this
  have ⟨rows',hk,hl',r,q1,q2⟩:=aN4 he h0 rest _ r0 hok h;refine ⟨rows',hk,by simpa using hl',r,?_,q2⟩;simp only [az3,Instr.fill];rw [iC (by have q1:=hv.1;simp;omega),hr0];exact q1
def b5r {w:World} {ι:Io} {M:Ms} {z:Array Value} {size n:Nat} (hz:z.size=size) (hone:∀v ∈ z.toList,v.oneCell'=true):F4 w ι M size (List.replicate n (z.toList.map F7)) (madeCells z (n*size)).toList:=by
 refine ⟨by simp [madeCells],?_,?_⟩
 ·intro r hr;rw [(a95.1 hr).2];simp [hz]
 ·intro i j c hc;have ⟨row,s1,s2⟩:=J4 hc;rw [lbk] at s1;split at s1
  ·rename_i hi;injection s1 with s1;subst s1;have ⟨u,q1,q2⟩:=(a4a.const (w:=w) (ι:=ι) (M:=M) hone).2 j c s2;have hj:j<size:=by rw [← hz];exact (lb6.1 q1).1
   exact ⟨u,by rw [Array.getElem?_toList,a4c hz hi hj];exact q1,q2⟩
  ·cases s1
def a9v (hτ:G7 P τ) {t:TypeId} {len:Nat} {parts:Array (Nat × Operand)} (ho:o.op=.buildSlice t len parts) {K:S->List Blk->Prop} (h:a3J τ ev H.length t len parts.toList K):
 ∃s B,K s B/\QOp P o ev H s B:=by
 unfold a3J at h;split at h
 rotate_left
 ·exact h.elim
 rename_i e _ _ _ _ ht;have hu:=R0 hτ ht;split at h
 rotate_left
 ·exact h.elim
 rename_i d hd;have ⟨hb,h⟩:=a11 h;rw [a2c] at h;have hb:d.size≠0/\len*d.size<16777216:=by
  rw [a2t] at hb;refine ⟨by intro e;simp [e] at hb,?_⟩;have:=hb.2;rw [← lbQ,Nat.ble_eq] at this;omega
 have ⟨i,hi,hsz,hby,z,hz,hzs,hone,hzl⟩:=(hτ.td _ _ hd).info;have hzsz:z.cells.size=d.size:=by rw [← hzl,←hzs];simp
 have ⟨rows,h,hdet⟩:=aH7 _ _ h;have key:∀(a:Act) (w:World) (ι:Io) (M:Ms),a0J w ι M ev a->∃r:Array Value,(Instr.buildSlice t len (parts.map fun (i,x)=>(i,a.eval x))).run P w=.ok (.slice (some ⟨w.heap.size,0,none⟩) len len) (w.alloc (.cells r e))/\
  F4 w ι M d.size rows r.toList/\rows.length=len:=by
  intro a w ι M he;obtain ⟨rows',rfl,hl,r,q1,q2⟩:=aN4 he (size:=d.size) om parts.toList _ (madeCells z.cells (len*d.size)) (by
   have:=b5r (w:=w) (ι:=ι) (M:=M) (n:=len) hzsz (by rw [hzs];exact hone);rw [hzs] at this;exact this) hdet
  by_cases hl0:len=0
  ·subst hl0;have hr0:r=#[]:=by
    have:=q2.len;rw [hl] at this;simp at this;exact this
   refine ⟨r,?_,q2,by simpa using hl⟩;have q1':Instr.fill (fun i=>some (i*d.size,d.size)) #[] (parts.toList.map fun p=>(p.1,a.eval p.2))=some r:=by
    simpa [madeCells,Array.range_zero'] using q1
   simp [Instr.buildSlice,run_underlying hu,sizeOf,typeInfo,hi,hsz,newRow,q1',Array.range_zero']
  ·refine ⟨r,?_,q2,by simpa using hl⟩;refine run_buildSlice w t e len _ r i z hu hi hz (by rw [hsz];omega) (by rw [hsz];intro h;rcases Nat.mul_eq_zero.1 h with h|h<;>omega) ?_;rw [ae1,hsz];exact q1
 have hown:K (.c (.own H.length 0 len true)) [D8 e d.size rows false]->∃s B,K s B/\QOp P o ev H s B:=fun h=>by
  refine ⟨_,_,h,fun a w ι M he hh hm hf=>?_⟩;have ⟨r,q1,q2,q3⟩:=key a w ι M he;have hmx:len<=maxLen:=by
   have:len<=len*d.size:=aK2 _ om;unfold maxLen;omega
  refine C1 (by simp only [execOp,ho,Sem.run_bind,q1,Result.andThen_ok];rfl) ?_;refine P4.new (cap:=len) (cur:=r) rfl rfl rfl rfl (hf 0 zq) om om hmx q2.row (by have:=q2.len;rw [q3] at this;simpa using this) (fun i j c hc=>by
   have ⟨u,s1,s2⟩:=q2.cell i j c hc;exact ⟨u,by simpa using s1,s2⟩) fun ι' M' hi'=>a1S hi' (lbR _) hmx
 split at h
 ·rename_i rs hrs;have hrs:=b2N hrs;have hdata:∀sk:SK,sk=.full\/sk=.any->K (.c (.t (.sl d.size sk rs))) []->∃s B,K s B/\QOp P o ev H s B:=fun sk hsk h=>by
   refine ⟨_,_,h,fun a w ι M he hh hm hf=>?_⟩;have ⟨r,q1,q2,q3⟩:=key a w ι M he;refine C1 (by simp only [execOp,ho,Sem.run_bind,q1,Result.andThen_ok];rfl) ?_;have hext:Ext w (w.alloc (.cells r e)):=⟨rfl,rfl,rfl,zq,fun b hb=>heap_alloc_old w _ hb⟩;refine P4.of_none ?_ hext;have hlen:rs.length=len:=by rw [← q3,hrs];simp [toC]
   have hmx:len<=maxLen:=by
    have:len<=len*d.size:=aK2 _ om;unfold maxLen;omega
   rw [← hlen];have hat:∀i j c,at2 rs i j=some c->at2 rows i j=some (.t c):=fun i j c hc=>by
    have ⟨row,s1,s2⟩:=J4 hc;rw [hrs];exact G5 (row:=row.map C.t) (by simp [toC,s1]) (by simp [s2])
   refine .c (.t (.sl (b:=w.heap.size) (off:=0) (fun i j=>r.getD (i*d.size+j) undef) ?_ (lbR _) om (fun _=>rfl) (by rcases hsk with rfl|rfl<;>(intro h;cases h)) (fun _=>rfl) ?_ ?_ (by rcases hsk with rfl|rfl<;>exact ⟨(fun h=>nomatch h),(fun h=>nomatch h)⟩)))
   ·intro r' hr';have:=q2.row (r'.map C.t) (by rw [hrs];exact lbx.2 ⟨r',hr',rfl⟩);simpa using this
   ·intro i j c hc;have ⟨u,s1,s2⟩:=q2.cell _ _ _ (hat i j c hc);rw [Array.getElem?_toList] at s1;refine ⟨?_,fun hM=>absurd (hm _ hM) om⟩;have hn:=heap_alloc_new w (.cells r e);simp only [World.cell?];rw [hn];simp [s1]
   ·intro i j c hc;have ⟨u,s1,s2⟩:=q2.cell _ _ _ (hat i j c hc);rw [Array.getElem?_toList] at s1;have:r.getD (i*d.size+j) undef=u:=by simp [s1]
    show RT _ M c (r.getD (i*d.size+j) undef);rw [this];cases s2 with
    |t s2=>exact s2.keep (fun b hb _=>hext.keep b hb) (fun b h=>.inl h)
  obtain ⟨h|h|h⟩:=h
  ·exact hdata _ (.inl rfl) h
  ·exact hown h
  ·exact hdata _ (.inr rfl) h
 ·exact hown h
def ae3 {c:Call} (ho:o.op=.call c) (hc:c.callee=.builtin .copy) {t:TypeId} {x s:Operand} (ht:c.argTypes.toList=[t,t]) (ha:c.args.toList=[x,s]) {a:Act} {w w':World} {v:Value}
 (h:(Builtin.copy_ #[t,t] o.type #[a.eval x,a.eval s]).run P w=.ok v w'):(execOp a.eval o).run P w=.ok (.value v) w':=by
 have ⟨callee,args,argTypes⟩:=c;simp only at hc ht ha;subst hc;obtain rfl:argTypes=#[t,t]:=by apply Array.ext';simpa using ht
 obtain rfl:args=#[x,s]:=by apply Array.ext';simpa using ha
 simp [execOp,ho,resolve,invoke,builtin,h]
def K7.result {w w':World} {ι:Io} {M:Ms} {H H':Hp} {s:S} {v u:Value} {x:Value} (hv:x.oneCell'=true) (h:K7 w ι M H s H' v w'):K7 w ι M H (.c (.t (.atm x))) H' x w':=by
 have ⟨ι',M',_,h⟩:=h;exact ⟨ι',M',.c (.t (.atm hv)),h⟩
def b1H {w:World} {ι:Io} {M:Ms} {k:Blk} {b cap size lo len:Nat} {xr:List (List C)} {news:List Value} {cur:Array Value} (hb:S7 w ι M k (.blk b cap size)) (hcur:w.heap[b]? =some (.cells cur k.elem (0,0)))
 (hl:lo+len<=k.rows.length) (hn:F4 w ι M size xr news) (hcl:cur.size=cap*size) (hlc:k.rows.length<=cap):
 F4 w ι M size (K8 lo len k.rows xr) ((cur.toList.take (lo*size)++news.take ((xr.take len).length*size)++cur.toList.drop (lo*size+(xr.take len).length*size)).take (k.rows.length*size)):=by
 have hxl:(xr.take len).length<=len:=zo;generalize hm:(xr.take len).length=m at *;have m1:lo*size+m*size<=k.rows.length*size:=by rw [← Y3];exact lbU _ om
 have m2:k.rows.length*size<=cap*size:=lbU _ hlc;have hnl:(news.take (m*size)).length=m*size:=by
  rw [lbs,hn.len];refine a3q (lbU _ ?_);rw [← hm];simp;omega
 have ⟨o1,a1,a2⟩:=a7d hb (lo:=0) (len:=lo) om;have ⟨o3,c1,c2⟩:=a7d hb (lo:=lo+m) (len:=k.rows.length - (lo+m)) om;rw [a9m] at a1;have e3:(k.rows.drop (lo+m)).take (k.rows.length - (lo+m))=k.rows.drop (lo+m):=lbn zq;rw [e3] at c1;have hmid:F4 w ι M size (xr.take len) (news.take (m*size)):=by
  refine ⟨by rw [hnl,hm],fun r hr=>hn.row r (ah1 hr),fun i j c hc=>?_⟩;have ⟨row,s1,s2⟩:=J4 hc;rw [lbi] at s1;split at s1
  ·rename_i hi;have ⟨u,t1,t2⟩:=hn.cell _ _ _ (G5 s1 s2);have hj:j<size:=by rw [← hn.row row (lbm s1)];exact (lbe.1 s2).1
   have him:i<m:=by rw [← hm];have:=(lbe.1 s1).1;simp;omega
   have hlt:i*size+j<m*size:=by
    have:i*size+size<=m*size:=by rw [← lbV];exact lbU _ him
    omega
   exact ⟨u,by rw [List.getElem?_take_of_lt hlt];exact t1,t2⟩
  ·cases s1
 have hall:=a1.append (hmid.append c1);have ho1:o1=cur.toList.take (lo*size):=by
  apply a16;intro q;have hlen:o1.length=lo*size:=by rw [a1.len,lbs,a3q om]
  by_cases hq:q<lo*size
  ·have e1:=a2 q _ (lbf om);simp only [World.cell?,hcur,aN8,W7] at e1;rw [lbf om,List.getElem?_take_of_lt hq,←e1];simp
  ·rw [lbd om,lbd zo]
 have hl3:o3.length=k.rows.length*size - (lo*size+m*size):=by
  rw [c1.len,a3S,←Y3,←Nat.sub_mul]
 have ho3:o3=(cur.toList.drop (lo*size+m*size)).take (k.rows.length*size - (lo*size+m*size)):=by
  apply a16;intro q;by_cases hq:q<k.rows.length*size - (lo*size+m*size)
  ·have e1:=c2 q _ (lbf om);simp only [World.cell?,hcur,Y3] at e1;rw [lbf om,List.getElem?_take_of_lt hq,lbj,←e1];simp
  ·rw [lbd om,lbd zo]
 have hfin:o1++(news.take (m*size)++o3)=(cur.toList.take (lo*size)++news.take (m*size)++cur.toList.drop (lo*size+m*size)).take (k.rows.length*size):=by
  rw [ho1,ho3,List.take_append,lbn (l:=cur.toList.take (lo*size)++news.take (m*size)) (by rw [lbq,hnl];simp;omega),lbD]
  congr 3
  rw [lbq,hnl];simp only [lbs,a7M];rw [a3q om]
 rw [← hfin];unfold K8;rw [hm];exact hall
def b1j (hτ:G7 P τ) {c:Call} (ho:o.op=.call c) (hc:c.callee=.builtin .copy) {t:TypeId} {x s:Operand} (ht:c.argTypes.toList=[t,t]) (ha:c.args.toList=[x,s])
 {Kg:S->Hp->Prop} (h:b4D τ ev H t x s Kg):∃s H',Kg s H'/\GOp P o ev H s H':=by
 unfold b4D at h;split at h
 rotate_left
 ·exact h.elim
 rename_i e _ _ _ _ hte;have hu:=R0 hτ hte;split at h
 rotate_left
 ·exact h.elim
 rename_i d hd;have ⟨hb0,h⟩:=a11 h;have h0:d.size≠0:=by intro e;simp [e] at hb0
 have ⟨xr,h,hx⟩:=b1v hτ hu h;have ⟨i,hi,hsz,hby,z,hz,hzs,hone,hzl⟩:=(hτ.td _ _ hd).info;split at h
 rotate_left
 ·exact h.elim
 rename_i id lo len app hs;have ⟨k,hk,h⟩:=U9 h;have ⟨hlv,hap,h⟩:=a5B h;have ⟨hbk,hlen,h⟩:=I2 h;have hbk:k.size=d.size/\k.elem=e:=by simpa using hbk
 rw [S0] at h;refine ⟨_,_,h,fun a w ι M he hh hm hF=>?_⟩;have ⟨news,hn1,hn2,hn3⟩:=hx a w ι M he hh;have hr:=(he.to hs).inv_c;generalize hv:a.eval x=v at *;have hmin:(xr.take len).length=Nat.min xr.length len:=by rw [lbs];exact Nat.min_comm _ _
 have hload:(Builtin.firstCells i.size (Nat.min xr.length len) (a.eval s)).run P w=.ok (news.take ((xr.take len).length*d.size)).toArray w:=by
  rw [← hmin];rcases hn3 with h0'|⟨ad,c',hxe,hxc⟩
  ·have hz0:(xr.take len).length=0:=by rw [lbs];omega
   have hxr:xr=[]:=lbF h0';subst hxr;have:=hn2.cells;have hnn:news=[]:=lbF (by rw [hn1.len];simp);subst hnn;rw [← hsz] at this;simpa using this
  ·rw [hxe];have hl:=run_loadCells_list (P:=P) w ad (news.take ((xr.take len).length*d.size)) (fun j v hj=>by
    rw [lbi] at hj;split at hj
    ·exact hxc j v hj
    ·cases hj)
   have hln:(news.take ((xr.take len).length*d.size)).length=(xr.take len).length*i.size:=by
    rw [lbs,hn1.len,hsz];refine a3q (lbU _ ?_);rw [lbs];exact Nat.min_le_right _ _
   rw [hln] at hl;simpa [Builtin.firstCells] using hl
 cases hr with
 |@own _ _ _ _ b cap size A cap' hι q1 q2 q3 q4 q5=>
  have hbr:=hh.blk id k hk (by rw [hlv];intro h;cases h) _ hι;have hMb:=hh.liv id k hk hlv _ _ _ hι;obtain rfl:size=d.size:=hbr.1.symm.trans hbk.1;have hbr2:=hbr;have ⟨r1,r2,r3,r4,r5,cur,r6,r7,r8⟩:=hbr2;have hcp:=b1H hbr r6 hlen hn1 r7 r3;generalize hvals:news.take ((xr.take len).length*d.size)=vals at *;have hvl:vals.length=(xr.take len).length*d.size:=by
   rw [← hvals,lbs,hn1.len];refine a3q (lbU _ ?_);rw [lbs];exact Nat.min_le_right _ _
  have hfit:lo*d.size+vals.length<=cur.size:=by
   rw [hvl,r7,←Y3];refine lbU _ ?_;have:(xr.take len).length<=len:=by rw [lbs];exact Nat.min_le_left _ _
   omega
  have hone':∀u ∈ vals,u.oneCell'=true:=fun u hu=>hn1.one u (by rw [← hvals] at hu;exact ah1 hu)
  have hrows:(K8 lo len k.rows xr).length=k.rows.length:=by
   have:(xr.take len).length<=len:=by rw [lbs];exact Nat.min_le_left _ _
   unfold K8;simp only [lbq,lbs,a3S];simp only [lbs] at this;omega
  have hst:(storeCells ⟨b,lo*d.size,none⟩ vals).run P w=.ok () (w.setRow b (cur.toList.take (lo*d.size)++vals++cur.toList.drop (lo*d.size+vals.length)).toArray):=by
   have:=run_storeCells_at P b (lo*d.size) k.elem vals 0 cur w r6 (by simpa using hfit) hone';simpa using this
  rw [← hvl] at hcp;have hkeep:∀b',b'≠b->(w.setRow b (cur.toList.take (lo*d.size)++vals++cur.toList.drop (lo*d.size+vals.length)).toArray).heap[b']? =w.heap[b']?:=fun b' hb'=>setRow_other w b b' _ hb'
  have hpost:K7 w ι M H (e7 .i64 (xr.take len).length) (H.set id (D6 k (K8 lo len k.rows xr))) (goInt (xr.take len).length) (w.setRow b (cur.toList.take (lo*d.size)++vals++cur.toList.drop (lo*d.size+vals.length)).toArray):=by
   refine K7.result (u:=undef) rfl (K7.store hh hm hF hk hlv hap hι (by exact hlv) rfl rfl rfl zq hkeep ⟨r1,r2,by show (K8 lo len k.rows xr).length<=cap;rw [hrows];exact r3,r4,hcp.row,_,setRow_heap w b cur _ k.elem _ r6,?_,fun i' j c' hc'=>?_⟩)
   ·simp only [a6J,lbq,lbs,a3S,a7M];omega
   ·have ⟨u,s1,s2⟩:=hcp.cell i' j c' hc';rw [lbi] at s1;split at s1
    ·exact ⟨u,by rw [List.getElem?_toArray];exact s1,s2.keep (fun b' _ hb'=>hkeep b' (by rintro rfl;exact hb' hMb)) (fun b' h=>.inl h) (fun _ _ h=>h)⟩
    ·cases s1
  have hlo:=hn2.len;by_cases hlz:len=0
  ·subst hlz;have hv0:vals=[]:=lbF (by rw [hvl];simp);subst hv0;have hw:w.setRow b (cur.toList.take (lo*d.size)++[]++cur.toList.drop (lo*d.size+([]:List Value).length)).toArray=w:=by
    simp only [storeCells,Sem.run_pure] at hst;injection hst with _ hst;exact hst.symm
   rw [hw] at hpost;refine C1 (ae3 ho hc ht ha ?_) hpost;rw [hv];have hload0:(Builtin.firstCells i.size 0 (a.eval s)).run P w=.ok #[] w:=by simpa using hload
   cases A<;>simp [Builtin.copy_,run_underlying hu,hlo,sizeOf,typeInfo,hi,hload0,storeCells]
  ·obtain rfl:=q2 om;refine C1 (ae3 ho hc ht ha ?_) hpost;rw [hv];simp [Builtin.copy_,run_underlying hu,hlo,sizeOf,typeInfo,hi,hload,hst,hmin]
 |@nil _ _ A hι=>
  have hbr:=hh.blk id k hk (by rw [hlv];intro h;cases h) _ hι;have hkr:k.rows=[]:=hbr;have e1:xr.take 0=[]:=a85;have e2:K8 0 0 k.rows xr=k.rows:=by unfold K8;simp
  have e3:H.set id (D6 k (K8 0 0 k.rows xr))=H:=by
   rw [e2];apply a16;intro j;by_cases hj:j=id
   ·subst hj;rw [List.getElem?_set_self (lbe.1 hk).1,hk];rfl
   ·rw [getElem?_set_ne' hj]
  rw [e3,e1] at *;have hlo:=hn2.len;refine C1 (v:=goInt 0) (w':=w) (ae3 ho hc ht ha ?_) ⟨ι,M,.c (.t (.atm rfl)),hh,hm,hF,a4n.refl w ι M H⟩;rw [hv];have hload0:(Builtin.firstCells i.size 0 (a.eval s)).run P w=.ok #[] w:=by simpa using hload
  cases A<;>simp [Builtin.copy_,run_underlying hu,hlo,sizeOf,typeInfo,hi,hload0,storeCells]
def a87 {c:Call} (ho:o.op=.call c) (hc:c.callee=.builtin .clear) {t:TypeId} {x:Operand} (ht:c.argTypes.toList=[t]) (ha:c.args.toList=[x]) {a:Act} {w w':World} {v:Value}
 (h:(Builtin.clear_ #[t] o.type #[a.eval x]).run P w=.ok v w'):(execOp a.eval o).run P w=.ok (.value v) w':=by
 have ⟨callee,args,argTypes⟩:=c;simp only at hc ht ha;subst hc;obtain rfl:argTypes=#[t]:=by apply Array.ext';simpa using ht
 obtain rfl:args=#[x]:=by apply Array.ext';simpa using ha
 simp [execOp,ho,resolve,invoke,builtin,h]
def K7.junk {w w':World} {ι:Io} {M:Ms} {H H':Hp} {s:S} {v u:Value} (h:K7 w ι M H s H' v w'):K7 w ι M H .junk H' u w':=by
 have ⟨ι',M',_,h⟩:=h;exact ⟨ι',M',.junk,h⟩
def aQ1 (hτ:G7 P τ) {c:Call} (ho:o.op=.call c) (hc:c.callee=.builtin .clear) {t:TypeId} {x:Operand} (ht:c.argTypes.toList=[t]) (ha:c.args.toList=[x])
 {Kg:S->Hp->Prop} (h:aZ9 τ ev H t x Kg):∃s H',Kg s H'/\GOp P o ev H s H':=by
 unfold aZ9 at h;split at h
 rotate_left
 ·exact h.elim
 rename_i e _ _ _ _ hte;have hu:=R0 hτ hte;split at h
 rotate_left
 ·exact h.elim
 rename_i d hd;have ⟨hb0,h⟩:=a11 h;rw [a2c] at h;have ⟨i,hi,hsz,hby,z,hz,hzs,hone,hzl⟩:=(hτ.td _ _ hd).info;have hzsz:z.cells.size=d.size:=by rw [← hzl,←hzs];simp
 split at h
 rotate_left
 ·exact h.elim
 rename_i id lo len app hs;have ⟨k,hk,h⟩:=U9 h;have ⟨hlv,hap,h⟩:=a5B h;have ⟨hbk,hlen,h⟩:=I2 h;have hbk:k.size=d.size/\k.elem=e:=by simpa using hbk
 rw [S0] at h;refine ⟨_,_,h,fun a w ι M he hh hm hF=>?_⟩;have hr:=(he.to hs).inv_c;generalize hv:a.eval x=v at *;have hzr:d.zero.map F7=z.cells.toList.map F7:=by rw [hzs]
 generalize hxr:List.replicate len (d.zero.map F7)=xr at *;have hxl:xr.length=len:=by rw [← hxr];simp
 have hxt:xr.take len=xr:=lbn om;have hn1:F4 w ι M d.size xr (madeCells z.cells (len*d.size)).toList:=by
  rw [← hxr,hzr];exact b5r hzsz (by rw [hzs];exact hone)
 generalize hvals:(madeCells z.cells (len*d.size)).toList=vals at *;have hvl:vals.length=len*d.size:=by rw [hn1.len,hxl]
 have hvt:vals.take ((xr.take len).length*d.size)=vals:=lbn (by rw [hxt,hxl];omega);cases hr with
 |@own _ _ _ _ b cap size A cap' hι q1 q2 q3 q4 q5=>
  have hbr:=hh.blk id k hk (by rw [hlv];intro h;cases h) _ hι;have hMb:=hh.liv id k hk hlv _ _ _ hι;obtain rfl:size=d.size:=hbr.1.symm.trans hbk.1;have hbr2:=hbr;have ⟨r1,r2,r3,r4,r5,cur,r6,r7,r8⟩:=hbr2;have hcp:=b1H hbr r6 hlen hn1 r7 r3;rw [hvt] at hcp;have hmm:(xr.take len).length*d.size=vals.length:=by rw [hxt,hxl,hvl]
  rw [hmm] at hcp;have hfit:lo*d.size+vals.length<=cur.size:=by
   rw [hvl,r7,←Y3];exact lbU _ om
  have hone':∀u ∈ vals,u.oneCell'=true:=fun u hu=>hn1.one u hu
  have hrows:(K8 lo len k.rows xr).length=k.rows.length:=by
   unfold K8;rw [hxt];simp only [lbq,lbs,a3S];omega
  have hst:(storeCells ⟨b,lo*d.size,none⟩ vals).run P w=.ok () (w.setRow b (cur.toList.take (lo*d.size)++vals++cur.toList.drop (lo*d.size+vals.length)).toArray):=by
   have:=run_storeCells_at P b (lo*d.size) k.elem vals 0 cur w r6 (by simpa using hfit) hone';simpa using this
  have hkeep:∀b',b'≠b->(w.setRow b (cur.toList.take (lo*d.size)++vals++cur.toList.drop (lo*d.size+vals.length)).toArray).heap[b']? =w.heap[b']?:=fun b' hb'=>setRow_other w b b' _ hb'
  have hpost:K7 w ι M H .junk (H.set id (D6 k (K8 lo len k.rows xr))) (.tuple #[]) (w.setRow b (cur.toList.take (lo*d.size)++vals++cur.toList.drop (lo*d.size+vals.length)).toArray):=by
   refine K7.junk (u:=.tuple #[]) (K7.store hh hm hF hk hlv hap hι (by exact hlv) rfl rfl rfl zq hkeep ⟨r1,r2,by show (K8 lo len k.rows xr).length<=cap;rw [hrows];exact r3,r4,hcp.row,_,setRow_heap w b cur _ k.elem _ r6,?_,fun i' j c' hc'=>?_⟩)
   ·simp only [a6J,lbq,lbs,a3S,a7M];omega
   ·have ⟨u,s1,s2⟩:=hcp.cell i' j c' hc';rw [lbi] at s1;split at s1
    ·exact ⟨u,by rw [List.getElem?_toArray];exact s1,s2.keep (fun b' _ hb'=>hkeep b' (by rintro rfl;exact hb' hMb)) (fun b' h=>.inl h) (fun _ _ h=>h)⟩
    ·cases s1
  by_cases hlz:len=0
  ·subst hlz;have hv0:vals=[]:=lbF (by rw [hvl];simp);subst hv0;have hw:w.setRow b (cur.toList.take (lo*d.size)++[]++cur.toList.drop (lo*d.size+([]:List Value).length)).toArray=w:=by
    simp only [storeCells,Sem.run_pure] at hst;injection hst with _ hst;exact hst.symm
   rw [hw] at hpost;refine C1 (a87 ho hc ht ha ?_) hpost;rw [hv];cases A<;>simp [Builtin.clear_,run_underlying hu]
  ·obtain rfl:=q2 om;refine C1 (a87 ho hc ht ha ?_) hpost;rw [hv];have hzc:(Builtin.zeroCells z.cells len).toList=vals:=by
    rw [← hvals,←hzsz];rfl
   cases len with
   |zero=>exact absurd rfl hlz
   |succ n=>simp [Builtin.clear_,run_underlying hu,zeroValue,typeInfo,hi,hz,hzc,hst]
 |@nil _ _ A hι=>
  have hbr:=hh.blk id k hk (by rw [hlv];intro h;cases h) _ hι;have hkr:k.rows=[]:=hbr;have hx0:xr=[]:=lbF hxl;have e2:K8 0 0 k.rows xr=k.rows:=by unfold K8;simp
  have e3:H.set id (D6 k (K8 0 0 k.rows xr))=H:=by
   rw [e2];apply a16;intro j;by_cases hj:j=id
   ·subst hj;rw [List.getElem?_set_self (lbe.1 hk).1,hk];rfl
   ·rw [getElem?_set_ne' hj]
  rw [e3] at *;refine C1 (v:=.tuple #[]) (w':=w) (a87 ho hc ht ha ?_) ⟨ι,M,.junk,hh,hm,hF,a4n.refl w ι M H⟩;rw [hv];cases A<;>simp [Builtin.clear_,run_underlying hu]
end
section
variable {P:Program} {τ:Tab} {o:Oper} {ev:Operand->S} {H:Hp}
def aI9 {w:World} {ι:Io} {M:Ms} {a:Act} (he:a0J w ι M ev a) {args:Array Operand} {caps:List S} {vs:List Value} (hl:vs.length=caps.length)
 (hr:∀j s,caps[j]? =some s->RS w ι M s (vs.getD j undef)):
 (args.toList.map a.eval++vs).length=(args.toList.map ev++caps).length/\∀j s,(args.toList.map ev++caps)[j]? =some s->RS w ι M s ((args.toList.map a.eval++vs).getD j undef):=by
 refine ⟨by simp [hl],fun j s hj=>?_⟩;by_cases h:j<args.toList.length
 ·rw [lbb (by simpa using h),lba,lbf h] at hj;injection hj with hj;subst hj;rw [lbl,lbb (by simpa using h),lba,lbf h];exact he _
 ·rw [lbc (by simpa using h)] at hj;have:=hr _ s hj;rw [lbl] at this ⊢;rw [lbc (by simpa using h)];simpa using this
def ai6 {c:Call} (ho:o.op=.call c) {f:Operand} (hc:c.callee=.value f) {g:FuncId} {caps:List S}
 (hf:∀(a:Act) (w:World) (ι:Io) (M:Ms),a0J w ι M ev a->∃vs:List Value,a.eval f=.func (.func g) #[] vs.toArray/\vs.length=caps.length/\∀j s,caps[j]? =some s->RS w ι M s (vs.getD j undef))
 {Kq:S->List Blk->Prop} {Kg:S->Hp->Prop} (h:ba4 P g (c.args.toList.map ev++caps) H Kq Kg):
 (∃ s B,Kq s B/\QOp P o ev H s B)\/(∃ s H',Kg s H'/\GOp P o ev H s H'):=by
 have ⟨callee,args,argTypes⟩:=c;simp only at hc h;subst hc;have hex:b3r P g->∀(a:Act) (w:World) (vs:List Value),a.eval f=.func (.func g) #[] vs.toArray->(execOp a.eval o).run P w=.ok (.enter g (args.toList.map a.eval++vs).toArray) w:=by
  rintro ⟨fn,hfn,hb,hnm⟩ a w vs hv;have hn:fn.body≠none:=by intro e;rw [e] at hb;cases hb
  have e:(args.map a.eval++vs.toArray)=(args.toList.map a.eval++vs).toArray:=by apply Array.ext';simp
  simp [execOp,ho,resolve,hv,Deferred.ofValue,invoke,callFunc,hfn,hn,hnm,e]
 rcases h with ⟨r,B,hq,hk⟩|⟨r,H',hq,hk⟩
 ·refine .inl ⟨r,B,a76 hk,fun a w ι M he hh hm hfr=>?_⟩;have ⟨vs,h1,h2,h3⟩:=hf a w ι M he;have ⟨q1,q2⟩:=aI9 he (args:=args) h2 h3;exact aC8 (hex hq.1 a w vs h1) (hq.2 w ι M _ q1 q2 hh hm hfr)
 ·refine .inr ⟨r,H',a76 hk,fun a w ι M he hh hm hfr=>?_⟩;have ⟨vs,h1,h2,h3⟩:=hf a w ι M he;have ⟨q1,q2⟩:=aI9 he (args:=args) h2 h3;exact aC8 (hex hq.1 a w vs h1) (hq.2 w ι M _ q1 q2 hh hm hfr)
def af0 (hτ:G7 P τ) {Kq:S->List Blk->Prop} {Kg:S->Hp->Prop} (h:aop P τ ev H o.op Kq Kg):(∃ s B,Kq s B/\QOp P o ev H s B)\/(∃ s H',Kg s H'/\GOp P o ev H s H'):=by
 have one:∀{K:S->Prop},(∀ s,K s->Kq s [])->(∃ s,K s/\QOp P o ev H s [])->(∃ s B,Kq s B/\QOp P o ev H s B)\/(∃ s H',Kg s H'/\GOp P o ev H s H'):=fun hK ⟨s,h1,h2⟩=>.inl ⟨s,[],hK s h1,h2⟩
 generalize hop:o.op=op at h;unfold aop at h;split at h
 case h_1 x=>rw [a3k] at h;exact .inl ⟨_,_,h,b1e x (.inl hop)⟩
 case h_2 x=>rw [a3k] at h;exact .inl ⟨_,_,h,b1e x (.inr hop)⟩
 case h_3 c x y=>
  split at h
  ·rename_i t hc;rw [a3k,a3k] at h;have:=b7s (P:=P) (H:=H) c x y t hop hc;cases t<;>exact .inl ⟨_,_,h,this⟩
  ·exact h.elim
 case h_4 t x=>exact one (fun _ h=>a76 h) (b1g hτ hop h)
 case h_5 t x v=>have ⟨H',h1,h2⟩:=aR2 hτ hop h;exact .inr ⟨_,_,h1,h2⟩
 case h_6 s x f=>exact one (fun _ h=>h) (ab2 hτ hop h)
 case h_7 t x i=>exact one (fun _ h=>h) (aa7 hτ hop h)
 case h_8 t x lo hi max=>exact one (fun _ h=>h) (aP2 hτ hop h)
 case h_9 op t x y yt=>exact one (fun _ h=>h) (b2V hτ hop h)
 case h_10 op t x=>exact one (fun _ h=>h) (b6m hop h)
 case h_11 src dst x=>exact one (fun _ h=>h) (b1c hτ hop h)
 case h_12 t l c=>
  rw [a2d,W7] at h;exact .inl (b0r hτ hop h)
 case h_13 t parts=>exact one (fun _ h=>h) (aZ2 hτ hop h)
 case h_14 t n parts=>
  rw [a2d,W7] at h;exact .inl (a9v hτ hop h)
 case h_15 t x=>
  rw [a2d,W7] at h;exact .inl (b39 hop h)
 case h_16 t=>
  rw [a2d,W7] at h;exact .inl (b00 hτ hop h)
 case h_17 x i=>
  split at h
  ·rename_i ss hx;have ⟨s,h1,h2⟩:=U9 h;exact .inl ⟨_,_,a76 h2,aq6 hop hx h1⟩
  ·exact h.elim
 case h_18 fn first caps=>
  split at h
  ·rename_i cs hf hcs;have hcs:=b5W hcs;split at h
   ·rename_i ts hts;rw [aa2 hts] at hcs;exact .inl ⟨_,_,h,ad8 hop hf hcs⟩
   ·exact .inl ⟨_,_,h,ak3 hop hf hcs⟩
  ·exact h.elim
 case h_19 c=>
  split at h
  ·rename_i hc;split at h
   ·rename_i t ts x xs ht hx;exact one (fun _ h=>h) (b2S hτ hop hc ht hx h)
   ·exact h.elim
  ·rename_i hc;split at h
   ·rename_i t t' s x ht hx;cases hb:Nat.beq t t' with
    |true=>
     rw [hb,cond_true] at h;obtain rfl:t=t':=by simpa using hb
     rw [a2d,W7] at h;exact aF0 hτ hop hc ht hx h
    |false=>
     rw [hb,cond_false,a2d,W7] at h;exact .inl (b1a hτ hop hc ht hx h)
   ·exact h.elim
  ·rename_i hc;split at h
   ·rename_i t x ht hx;exact one (fun _ h=>h) (b2d hτ hop hc ht hx h)
   ·exact h.elim
  ·rename_i hc;split at h
   ·rename_i t t' s x ht hx;have ⟨hb,h'⟩:=I2 h;obtain rfl:t=t':=by simpa using hb
    exact .inr (b1j hτ hop hc ht hx h')
   ·exact h.elim
  ·rename_i hc;split at h
   ·rename_i t x ht hx;exact .inr (aQ1 hτ hop hc ht hx h)
   ·exact h.elim
  ·rename_i hc;exact one (fun _ h=>h) (aA2 false hop hc h)
  ·rename_i hc;exact one (fun _ h=>h) (aA2 true hop hc h)
  ·rename_i f hc;split at h
   ·rename_i g caps hf;refine ai6 hop hc (fun a w ι M he=>?_) h;have hr:=(he.to hf).inv_t;generalize a.eval f=v at *;cases hr with
    |fn vs hl hr=>
     refine ⟨vs,rfl,by simpa using hl,fun j s hj=>?_⟩;rw [lba] at hj;cases hj':caps[j]? with
     |none=>rw [hj'] at hj;cases hj
     |some c=>
      rw [hj'] at hj;injection hj with hj;subst hj;exact .c (.t (hr j c hj'))
   ·rename_i g caps hf;refine ai6 hop hc (fun a w ι M he=>?_) h;have hr:=(he.to hf).inv_c;generalize a.eval f=v at *;cases hr with
    |fn vs hl hr=>
     refine ⟨vs,rfl,by simpa using hl,fun j s hj=>?_⟩;rw [lba] at hj;cases hj':caps[j]? with
     |none=>rw [hj'] at hj;cases hj
     |some c=>
      rw [hj'] at hj;injection hj with hj;subst hj;exact .c (hr j c hj')
   ·exact h.elim
  ·exact h.elim
 case h_20 x=>exact one (fun _ h=>h) (b3M hop h)
 case h_21=>exact h.elim
end
def aD5 (dst:Option Tmp) (s:S) (env:Env) (k:Env->Prop):Prop:=
 match dst with
 |none=>k env
 |some d=>a7F d s env k
def b0Z (dst:Option Tmp) (s:S) (env:Env):Env:=
 match dst with
 |none=>env
 |some d=>env.set d s
def a4e {dst:Option Tmp} {s:S} {env:Env} {k:Env->Prop}:aD5 dst s env k↔k (b0Z dst s env):=by
 cases dst with
 |none=>rfl
 |some d=>exact S0
abbrev b1M:S:=.tup []
def RS.skip {w:World} {ι:Io} {M:Ms}:RS w ι M b1M undef:=.tup [] rfl zq
def b3l (ops:List Oper) (o:Oper) (env:Env) (X Y:Prop):Prop:=
 match o.guard with
 |none=>X
 |some (j,want)=>match ops[j]? with
  |none=>False
  |some oj=>match oj.dst with
   |none=>False
   |some d=>match M4 env (.tmp d) with
    |.c (.t (.atm (.bool b)))=>match want with
     |true=>cond b X Y
     |false=>cond b Y X
    |.tup _=>Y
    |_=>False
def a6a (acc:List Nat) (o:Oper):Nat:=o.after.toList.foldl (fun s e=>cond (Region.binds .any e) (s ||| (1 <<< e.on) ||| acc.getD e.on 0) s) 0
def a3H:List Oper->List Nat->List Nat
 |[],acc=>acc
 |o::r,acc=>a3H r (acc++[a6a acc o])
def a1G (ops:List Oper):List Nat:=a3H ops []
def a1x (ops:List Oper) (o:Oper):List Nat:=
 (o.op.operands.toList.filterMap fun x=>match x with|.tmp t=>some t|_=>none)++
 (match o.guard with
  |some (j,_)=>match ops[j]? with
   |some oj=>oj.dst.toList
   |none=>[]
  |none=>[])
def a18 (ops:List Oper) (i:Nat):List Nat:=(List.range i).filter fun j=>!((a1G ops).getD i 0).testBit j
def a2k (ops:List Oper) (i j:Nat):Bool:=match ops[j]? with
 |some o=>o.guard.isNone && o.dst.isSome && (a1x ops o).all fun t=>ops.zipIdx.all fun y=>match y.1.dst with
  |some d=>!(Nat.beq d t) || Nat.blt y.2 j || Nat.blt i y.2
  |none=>true
 |none=>false
def N8 (ops:List Oper) (i:Nat):Bool:=
 ((List.range ops.length).all fun j=>cond (Nat.blt i j) (((a1G ops).getD j 0).testBit i) true) && (a18 ops i).all (a2k ops i)
def a3C (P:Program) (τ:Tab) (ops:List Oper) (env:Env) (H':Hp) (K:Prop):List Nat->Prop
 |[]=>K
 |j::r=>match ops[j]? with
  |some o=>match o.dst with
   |some d=>aop P τ (M4 env) H' o.op (fun s B=>(B=[]/\s=M4 env (.tmp d))/\a3C P τ ops env H' K r) (fun _ _=>False)
   |none=>False
  |none=>False
def b8U (P:Program) (τ:Tab) (ops:List Oper) (drawn:Bool) (o:Oper) (ih:Nat->Env->Hp->(Env->Hp->Prop)->Prop) (i:Nat) (env:Env) (H:Hp) (K:Env->Hp->Prop):Prop:=
 b3l ops o env
  (aop P τ (M4 env) H o.op (fun s B=>aD5 o.dst s env fun env'=>av9 H B fun H'=>ih (i+1) env' H' K)
    (fun s H'=>match drawn with
      |true=>N8 ops i=true/\∃L,a18 ops i=L/\a3C P τ ops env H' (aD5 o.dst s env fun env'=>ih (i+1) env' H' K) L
      |false=>aD5 o.dst s env fun env'=>ih (i+1) env' H' K))
  (aD5 o.dst b1M env fun env'=>ih (i+1) env' H K)
def bx1 (_:Nat) (env:Env) (H:Hp) (K:Env->Hp->Prop):Prop:=K env H
noncomputable def bS0 (P:Program) (τ:Tab) (ops:List Oper) (drawn:Bool) (rest:List Oper):Nat->Env->Hp->(Env->Hp->Prop)->Prop:=
 List.rec (motive:=fun _=>Nat->Env->Hp->(Env->Hp->Prop)->Prop) bx1 (fun o _ ih=>b8U P τ ops drawn o ih) rest
noncomputable def a8V (P:Program) (τ:Tab) (ops:List Oper) (drawn:Bool) (i:Nat) (rest:List Oper) (env:Env) (H:Hp) (K:Env->Hp->Prop):Prop:=bS0 P τ ops drawn rest i env H K
abbrev a42 (w:World) (ι:Io) (M:Ms) (env:Env) (a:Act):Prop:=∀(t:Nat) (s:S),env[t]? =some s->RS w ι M s (a.tmps.getD t undef)
def Sim (w0:World) (ι0:Io) (M0:Ms) (H0:Hp) (a:Act) (w:World) (env:Env) (H:Hp):Prop:=
 ∃(ι:Io) (M:Ms),a.defers=[]/\a.tmps.size=env.length/\a42 w ι M env a/\v5 w ι M H/\MB w M/\a17 ι H.length/\a4n w0 ι0 M0 H0 w ι M H
def a42.ev {w:World} {ι:Io} {M:Ms} {env:Env} {a:Act} (h:a42 w ι M env a):a0J w ι M (M4 env) a:=by
 intro x;cases x with
 |tmp t=>
  show RS w ι M (env.getD t .junk) (a.tmps.getD t undef);rw [lbl];cases ht:env[t]? with
  |none=>exact .junk
  |some s=>exact h t s ht
 |const v=>exact RS.const v
 |global g=>exact .junk
 |func f=>exact .c (.t (.fn [] rfl zq))
def a42.put {w:World} {ι:Io} {M:Ms} {env:Env} {a:Act} (h:a42 w ι M env a) (hsz:a.tmps.size=env.length) {s:S} {v:Value} (hs:RS w ι M s v) (dst:Option Tmp):a42 w ι M (b0Z dst s env) (a.put dst v):=by
 cases dst with
 |none=>exact h
 |some d=>
  intro t s' ht;simp only [b0Z] at ht;by_cases htd:t=d
  ·subst htd;have hlt:t<env.length:=by have:=(lbe.1 ht).1;simpa using this
   rw [List.getElem?_set_self hlt] at ht;injection ht with ht;subst ht;show RS w ι M s ((a.tmps.setIfInBounds t v).getD t undef);simpa [show t<a.tmps.size by omega] using hs
  ·rw [List.getElem?_set_ne (Ne.symm htd)] at ht;show RS w ι M s' ((a.tmps.setIfInBounds d v).getD t undef);have:=h t s' ht;rw [T3] at this ⊢;rwa [Array.getElem?_setIfInBounds_ne (Ne.symm htd)]
def a3I (dst:Option Tmp) (s:S) (env:Env):(b0Z dst s env).length=env.length:=by cases dst<;>simp [b0Z]
def a6k (a:Act) (dst:Option Tmp) (v:Value):(a.put dst v).tmps.size=a.tmps.size:=by cases dst<;>simp [Act.put]
def a2j (a:Act) (dst:Option Tmp) (v:Value):(a.put dst v).defers=a.defers:=by cases dst<;>rfl
def a7V (ops:List Oper) (o:Oper) (env:Env) (y:Bool):Prop:=
 match o.guard with
 |none=>y=true
 |some (j,want)=>∃oj d,ops[j]? =some oj/\oj.dst=some d/\((∃ b,M4 env (.tmp d)=n7 b/\y=(b == want))\/∃ss,M4 env (.tmp d)=.tup ss/\y=false)
def aw8 {ops:List Oper} {o:Oper} {env:Env} {X Y:Prop} (h:b3l ops o env X Y):∃y,a7V ops o env y/\cond y X Y:=by
 unfold b3l at h;unfold a7V;split at h
 ·exact ⟨true,rfl,h⟩
 ·rename_i j want _;split at h
  ·exact h.elim
  ·rename_i oj hj;split at h
   ·exact h.elim
   ·rename_i d hd;split at h
    ·rename_i b hb;refine ⟨b == want,⟨oj,d,hj,hd,.inl ⟨b,hb,rfl⟩⟩,?_⟩;cases want<;>cases b<;>exact h
    ·rename_i ss hb;exact ⟨false,⟨oj,d,hj,hd,.inr ⟨ss,hb,rfl⟩⟩,h⟩
    ·exact h.elim
def a5K {w:World} {ι:Io} {M:Ms} {env:Env} {a:Act} {ops:Array Oper} {o:Oper} {y:Bool} (hsz:a.tmps.size=env.length) (h:a7V ops.toList o env y)
 (he:∀j want oj d,o.guard=some (j,want)->ops[j]? =some oj->oj.dst=some d->RS w ι M (M4 env (.tmp d)) (a.tmps.getD d undef)):
 Region.wanted o (yielded ops a.tmps)=y:=by
 unfold a7V at h;unfold Region.wanted;cases hg:o.guard with
 |none=>rw [hg] at h;exact h.symm
 |some jw=>
  have ⟨j,want⟩:=jw;rw [hg] at h;have ⟨oj,d,h1,h2,h3⟩:=h;have h1':ops[j]? =some oj:=by simpa using h1
  have hr:=he j want oj d hg h1' h2;have hne:M4 env (.tmp d)≠.junk:=by
   rcases h3 with ⟨b,h3,-⟩|⟨ss,h3,-⟩<;>rw [h3]<;>intro h<;>cases h
  have hlt:d<a.tmps.size:=by
   rcases I0 d a.tmps.size with hlt|hge
   ·exact hlt
   ·have:M4 env (.tmp d)=.junk:=by
     show env.getD d .junk=_;rw [lbl,lbd om];rfl
    exact absurd this hne
  have hy:yielded ops a.tmps j=match a.tmps.getD d undef with|.bool b=>some b|_=>none:=by
   unfold yielded;rw [h1'];simp only [Option.bind_some,h2];rw [T3,Array.getElem?_eq_getElem hlt];simp only [az7];split<;>rename_i hv
   ·injection hv with hv;rw [hv]
   ·split<;>rename_i hv'
    ·exact absurd (congrArg some hv') (hv _)
    ·rfl
  simp only [hy];rcases h3 with ⟨b,h3,rfl⟩|⟨ss,h3,rfl⟩
  ·rw [h3] at hr;rw [hr.inv_atm];cases b<;>cases want<;>rfl
  ·rw [h3] at hr;generalize a.tmps.getD d undef=v at *;cases hr with
   |tup vs hl hr=>rfl
section
variable {P:Program} {τ:Tab}
def Sim.post {w0:World} {ι0:Io} {M0:Ms} {H0:Hp} (hM0:MB w0 M0) {a:Act} {w w':World} {ι:Io} {M:Ms} {env:Env} {H H':Hp} {s:S} {v:Value} (hd:a.defers=[]) (hsz:a.tmps.size=env.length)
 (he:a42 w ι M env a) (hH:v5 w ι M H) (hM:MB w M) (hF:a17 ι H.length) (hst:a4n w0 ι0 M0 H0 w ι M H) (hp:K7 w ι M H s H' v w') (dst:Option Tmp):
 Sim w0 ι0 M0 H0 (a.put dst v) w' (b0Z dst s env) H':=by
 have ⟨ι',M',h1,h2,h3,h4,h5⟩:=hp;have hk:∀b,b<w.heap.size->¬M b->w'.heap[b]? =w.heap[b]?:=fun b hb hnm=>h5.keep b hb fun hl=>hnm (a4k.inM hH hl)
 have hi:∀id l,ι id=some l->ι' id=some l:=fun id l hl=>by
  have hlt:id<H.length:=by
   rcases I0 id H.length with h|h
   ·exact h
   ·rw [hF id h] at hl;cases hl
  rw [h5.same id hlt,hl]
 refine ⟨ι',M',by rw [a2j,hd],by rw [a6k,a3I,hsz],a42.put (fun t s ht=>(he t s ht).keep hk h5.mnew hi) hsz h1 dst,h2,h3,h4,hst.trans hM0 h5⟩
def bb4 (hτ:G7 P τ) {ops:Array Oper} {Q:Exit->Act->World->Prop} {K:Env->Hp->Prop} {w0:World} {ι0:Io} {M0:Ms} {H0:Hp} (hM0:MB w0 M0)
 (hK:∀env H a w,K env H->Sim w0 ι0 M0 H0 a w env H->Q .normal a w):
 ∀(rest:List Oper) (i:Nat) (env:Env) (H:Hp) (a:Act) (w:World),ops.toList.drop i=rest->a8V P τ ops.toList false i rest env H K->Sim w0 ι0 M0 H0 a w env H->
  wpOps P ops Q (List.range' i rest.length) a w:=by
 intro rest;induction rest with
 |nil=>intro i env H a w _ h hs;exact hK env H a w h hs
 |cons o rest ih=>
  intro i env H a w hd h hs;have hget:ops[i]? =some o:=by
   have:(ops.toList.drop i)[0]? =some o:=by rw [hd];rfl
   rw [lbj] at this;simpa using this
  have hd':ops.toList.drop (i+1)=rest:=by
   rw [← List.drop_drop,hd];rfl
  have ⟨ι,M,hdf,hsz,he,hH,hM,hF,hst⟩:=hs;have ⟨y,hw,h⟩:=aw8 h;have hwr:=a5K hsz hw (fun j want oj d _ _ _=>he.ev (.tmp d));simp only [lbu,List.range'_succ,wpOps,hget];rw [hwr];cases y with
  |false=>
   simp only [a7S,if_false];rw [cond_false,a4e] at h;exact ih (i+1) _ H _ w hd' h ⟨ι,M,by rw [a2j,hdf],by rw [a6k,a3I,hsz],he.put hsz .skip o.dst,hH,hM,hF,hst⟩
  |true=>
   simp only [if_true];refine .inl ?_;rw [cond_true] at h;rcases af0 hτ h with ⟨s,B,h,hq⟩|⟨s,H',h,hg⟩
   ·rw [a4e,a4z] at h;refine hq a w ι M he.ev hH hM (fun k _=>hF _ om) _ _ fun v w' hp=>?_
    exact ih (i+1) _ _ _ w' hd' h (Sim.post hM0 hdf hsz he hH hM hF hst (hp.gpost hH hM hF) o.dst)
   ·have h':aD5 o.dst s env fun env'=>a8V P τ ops.toList false (i+1) rest env' H' K:=h
    rw [a4e] at h';refine hg a w ι M he.ev hH hM hF _ _ fun v w' hp=>?_
    exact ih (i+1) _ _ _ w' hd' h' (Sim.post hM0 hdf hsz he hH hM hF hst hp o.dst)
end
def a1V (ops:List Oper):Bool:=ops.zipIdx.all fun x=>x.1.after.toList.all fun e=>!(Region.binds .any e) || Nat.blt e.on x.2
def a8R (ops:List Oper):Bool:=ops.zipIdx.all fun x=>ops.zipIdx.all fun y=>Nat.beq x.2 y.2 || (match x.1.dst,y.1.dst with|some a,some b=>!(Nat.beq a b)|_,_=>true)
def b1K (ops:List Oper):Bool:=
 ops.zipIdx.all fun x=>(a1x ops x.1).all fun t=>ops.zipIdx.all fun y=>match y.1.dst with
  |some d=>!(Nat.beq d t) || Nat.beq x.2 y.2 || cond (Nat.blt y.2 x.2) (((a1G ops).getD x.2 0).testBit y.2) (((a1G ops).getD y.2 0).testBit x.2)
  |none=>true
def a9f (ops:List Oper):Bool:=a1V ops && a8R ops && b1K ops
def a9A:∀(r:List Oper) (acc:List Nat),∃s,a3H r acc=acc++s/\s.length=r.length/\∀i o,r[i]? =some o->s[i]? =some (a6a ((a3H r acc).take (acc.length+i)) o)
 |[],acc=>⟨[],by simp [a3H],rfl,zq⟩
 |o::r,acc=>by
  have ⟨s,h1,h2,h3⟩:=a9A r (acc++[a6a acc o]);refine ⟨a6a acc o::s,by rw [a3H,h1];simp,by simp [h2],fun i o' hi=>?_⟩;cases i with
  |zero=>
   simp at hi;subst hi;rw [a3H,h1];simp
  |succ i=>
   have:=h3 i o' (by simpa using hi);rw [a3H];simp only [lbq,List.length_singleton] at this;rw [show acc.length+(i+1)=acc.length+1+i by omega];simpa using this
def aG2 {ops:List Oper} {i:Nat} {o:Oper} (h:ops[i]? =some o):(a1G ops).getD i 0=a6a ((a1G ops).take i) o:=by
 have ⟨s,h1,h2,h3⟩:=a9A ops [];have:=h3 i o h;simp only [a6A] at h1;have e:a1G ops=s:=h1;rw [lbl,e,this];simp only [a15,W7,az7];rw [← h1]
def a3Z (acc:List Nat) (j:Nat):∀(es:List Edge) (s0:Nat),
 (es.foldl (fun s e=>cond (Region.binds .any e) (s ||| (1 <<< e.on) ||| acc.getD e.on 0) s) s0).testBit j=true->s0.testBit j=true\/∃e ∈ es,Region.binds .any e=true/\(e.on=j\/(acc.getD e.on 0).testBit j=true)
 |[],s0,h=>.inl h
 |e::es,s0,h=>by
  rw [List.foldl_cons] at h;rcases a3Z acc j es _ h with h|⟨e',h1,h2⟩
  ·cases hb:Region.binds .any e with
   |false=>rw [hb] at h;exact .inl h
   |true=>
    rw [hb] at h;simp only [cond_true,Nat.testBit_or,lbO,Nat.testBit_shiftLeft] at h;rcases h with (h|h)|h
    ·exact .inl h
    ·refine .inr ⟨e,zq,hb,.inl ?_⟩;simp only [lbN,lbI] at h;have ⟨h1,h2⟩:=h;have:j - e.on=0:=by
      rcases a4t (j - e.on) with h|h
      ·exact h
      ·rw [Nat.testBit_one_eq_true_iff_self_eq_zero] at h2;exact h2
     omega
    ·exact .inr ⟨e,zq,hb,.inr h⟩
  ·exact .inr ⟨e',by simp [h1],h2⟩
def a8L {ops:List Oper} (hb:a1V ops=true) {i:Nat} {o:Oper} (h:ops[i]? =some o) {e:Edge} (he:e ∈ o.after.toList) (hbi:Region.binds .any e=true):e.on<i:=by
 have:=lbv.1 hb (o,i) (by rw [a5a];exact h);have:=lbv.1 this e he;simp only [hbi,at0,a8C,a1o] at this;exact this
def aw4 {ops:List Oper} (hb:a1V ops=true) {S:Nat->Prop} (hS:∀i o,ops[i]? =some o->S i->∀e ∈ o.after.toList,Region.binds .any e=true->S e.on):
 ∀(i:Nat) (o:Oper) (j:Nat),ops[i]? =some o->((a1G ops).getD i 0).testBit j=true->S i->S j:=by
 intro i;induction i using Nat.strongRecOn with
 |_ i ih=>
  intro o j ho hj hi;rw [aG2 ho] at hj;rcases a3Z _ j _ _ hj with h|⟨e,he,hbi,h⟩
  ·simp at h
  ·have hlt:=a8L hb ho he hbi;have hs:=hS i o ho hi e he hbi;rcases h with rfl|h
   ·exact hs
   ·have hio:i<ops.length:=(lbe.1 ho).1;refine ih e.on hlt ops[e.on] j (lbf om) ?_ hs;rw [lbl,List.getElem?_take_of_lt hlt] at h;rw [lbl];exact h
def a0V {ops:List Oper} (hb:a1V ops=true) {S:Nat->Prop} (hS:∀i o,ops[i]? =some o->S i->∀e ∈ o.after.toList,Region.binds .any e=true->S e.on)
 {i:Nat} {o:Oper} {j:Nat} (ho:ops[i]? =some o) (hr:∀e ∈ o.after.toList,Region.binds .any e=true->S e.on) (hj:((a1G ops).getD i 0).testBit j=true):S j:=by
 rw [aG2 ho] at hj;rcases a3Z _ j _ _ hj with h|⟨e,he,hbi,h⟩
 ·simp at h
 ·have hlt:=a8L hb ho he hbi;have hs:=hr e he hbi;rcases h with rfl|h
  ·exact hs
  ·have hio:i<ops.length:=(lbe.1 ho).1;refine aw4 hb hS e.on ops[e.on] j (lbf om) ?_ hs;rw [lbl,List.getElem?_take_of_lt hlt] at h;rw [lbl];exact h
def a9F {ev ev':Operand->S} {x:Option Operand} {d:Int} {k:Int->Prop} (h:∀y,x=some y->ev y=ev' y):X8 ev x d k=X8 ev' x d k:=by
 cases x with
 |none=>rfl
 |some y=>simp only [X8,h y rfl]
theorem zp {p:Prop} (h:p:=by simp [Op.operands]):p:=h
def aN1 {P:Program} {τ:Tab} {ev ev':Operand->S} {H:Hp} {op:Op} {Kq:S->List Blk->Prop} {Kg:S->Hp->Prop} (h:∀x ∈ op.operands.toList,ev x=ev' x):
 aop P τ ev H op Kq Kg=aop P τ ev' H op Kq Kg:=by
 cases op with
 |move x=>simp only [aop,h x zp]
 |assign x=>simp only [aop,h x zp]
 |pick c a b=>simp only [aop,h c zp,h a zp,h b zp]
 |load t x=>simp only [aop,aK7,h x zp]
 |store t x v=>simp only [aop,aY0,h x zp,h v zp]
 |fieldAddr s x f=>simp only [aop,a8F,h x zp]
 |indexAddr t x i=>simp only [aop,a5p,h x zp,h i zp]
 |slice t x lo hi mx=>
  have e1:∀d k,X8 ev lo d k=X8 ev' lo d k:=fun d k=>a9F fun y hy=>h y (by subst hy;simp [Op.operands])
  have e2:∀d k,X8 ev hi d k=X8 ev' hi d k:=fun d k=>a9F fun y hy=>h y (by subst hy;simp [Op.operands])
  cases mx with
  |none=>simp only [aop,a72,h x zp,e1,e2]
  |some y=>simp only [aop,a72,h x zp,h y zp,e1,e2]
 |binOp op t x y yt=>simp only [aop,h x zp,h y zp]
 |unOp op t x=>simp only [aop,h x zp]
 |convert s d x=>simp only [aop,h x zp]
 |makeSlice t l c=>simp only [aop,b4b,h l zp,h c zp]
 |build t parts=>
  have e:(parts.toList.map fun p=>(p.1,ev p.2))=parts.toList.map fun p=>(p.1,ev' p.2):=lbp fun p hp=>by rw [h p.2 (by simp only [Op.operands];exact lbx.2 ⟨p,hp,rfl⟩)]
  simp only [aop,aS7,e]
 |buildSlice t n parts=>
  have e:(parts.toList.map fun p=>(p.1,ev p.2))=parts.toList.map fun p=>(p.1,ev' p.2):=lbp fun p hp=>by rw [h p.2 (by simp only [Op.operands];exact lbx.2 ⟨p,hp,rfl⟩)]
  simp only [aop,a3J,e]
 |box t x=>simp only [aop,bo4,h x zp]
 |alloc t=>rfl
 |extract x i=>simp only [aop,h x zp]
 |nilCheck x=>simp only [aop,h x zp]
 |makeFunc fn first caps=>
  have e:caps.toList.map ev=caps.toList.map ev':=lbp fun x hx=>h x (by simp [Op.operands];exact .inr (by simpa using hx))
  simp only [aop,e]
 |call c=>
  have ⟨callee,args,ats⟩:=c;have ea:∀x ∈ args.toList,ev x=ev' x:=fun x hx=>h x (by simp [Op.operands,Call.operands];exact .inr (by simpa using hx))
  have em:args.toList.map ev=args.toList.map ev':=lbp ea;cases callee with
  |value f=>
   have ef:=h f (by simp [Op.operands,Call.operands]);simp only [aop,ef,em]
  |invoke r m=>rfl
  |builtin b=>
   cases b with
   |len=>
    simp only [aop];split
    ·rename_i t ts x xs h1 h2;rw [ea x (by rw [h2];simp)]
    ·rfl
   |append=>
    simp only [aop];split
    ·rename_i t t' s x h1 h2;simp only [am0,b5y,ea s (by rw [h2];simp),ea x (by rw [h2];simp)]
    ·rfl
   |cap=>
    simp only [aop];split
    ·rename_i t x h1 h2;rw [ea x (by rw [h2];simp)]
    ·rfl
   |copy=>
    simp only [aop];split
    ·rename_i t t' x s h1 h2;simp only [b4D,ea x (by rw [h2];simp),ea s (by rw [h2];simp)]
    ·rfl
   |clear=>
    simp only [aop];split
    ·rename_i t x h1 h2;simp only [aZ9,ea x (by rw [h2];simp)]
    ·rfl
   |min=>simp only [aop,em]
   |max=>simp only [aop,em]
   |_=>rfl
 |_=>rfl
def evR (o:Oper) (env:Env):Operand->S:=fun x=>
 match x with
 |.tmp t=>cond ((o.op.operands.toList.filterMap fun x=>match x with|.tmp t=>some t|_=>none).contains t) (M4 env (.tmp t)) .junk
 |x=>M4 env x
def b7z {o:Oper} {env:Env} {x:Operand} (h:x ∈ o.op.operands.toList):M4 env x=evR o env x:=by
 cases x with
 |tmp t=>
  have:(o.op.operands.toList.filterMap fun x=>match x with|.tmp t=>some t|_=>none).contains t=true:=by
   rw [aY5,List.mem_filterMap];exact ⟨.tmp t,h,rfl⟩
  simp only [evR,this,cond_true]
 |_=>rfl
inductive Kd where
 |skip
 |quiet (B:List Blk)
 |gen
def b0l (P:Program) (ops:List Oper) (envs:Nat->Env) (hs:Nat->Hp) (rs:Nat->S) (kd:Nat->Kd) (i:Nat):Prop:=
 ∃o,ops[i]? =some o/\envs (i+1)=b0Z o.dst (rs i) (envs i)/\match kd i with
  |.skip=>a7V ops o (envs i) false/\rs i=b1M/\hs (i+1)=hs i
  |.quiet B=>a7V ops o (envs i) true/\QOp P o (evR o (envs i)) (hs i) (rs i) B/\hs (i+1)=hs i++B
  |.gen=>a7V ops o (envs i) true/\GOp P o (evR o (envs i)) (hs i) (rs i) (hs (i+1))/\N8 ops i=true/\∀j ∈ a18 ops i,∃oj d,ops[j]? =some oj/\oj.dst=some d/\QOp P oj (evR oj (envs i)) (hs (i+1)) (M4 (envs i) (.tmp d)) []
def aK5 {P:Program} {τ:Tab} (hτ:G7 P τ) {ops:List Oper} {env:Env} {H':Hp} {K:Prop}:∀{L:List Nat},a3C P τ ops env H' K L->K/\∀j ∈ L,∃oj d,ops[j]? =some oj/\oj.dst=some d/\QOp P oj (evR oj env) H' (M4 env (.tmp d)) []
 |[],h=>⟨h,zq⟩
 |j::r,h=>by
  unfold a3C at h;split at h
  ·rename_i o ho;split at h
   ·rename_i d hd;have hcong:=aN1 (P:=P) (τ:=τ) (H:=H') (op:=o.op) (ev:=M4 env) (ev':=evR o env) (fun x hx=>b7z hx)
     (Kq:=fun s B=>(B=[]/\s=M4 env (.tmp d))/\a3C P τ ops env H' K r) (Kg:=fun _ _=>False)
    rw [hcong] at h;rcases af0 hτ h with ⟨s,B,⟨⟨rfl,rfl⟩,h⟩,hq⟩|⟨s,H2,h,hg⟩
    ·have ⟨h1,h2⟩:=aK5 hτ h;refine ⟨h1,fun i hi=>?_⟩;rcases lbA.1 hi with rfl|hi
     ·exact ⟨o,d,ho,hd,hq⟩
     ·exact h2 i hi
    ·exact h.elim
   ·exact h.elim
  ·exact h.elim
def aq4 {P:Program} {τ:Tab} (hτ:G7 P τ) {ops:List Oper} {K:Env->Hp->Prop}:∀(rest:List Oper) (i:Nat) (env:Env) (H:Hp),ops.drop i=rest->a8V P τ ops true i rest env H K->
 ∃(envs:Nat->Env) (hs:Nat->Hp) (rs:Nat->S) (kd:Nat->Kd),envs i=env/\hs i=H/\K (envs ops.length) (hs ops.length)/\∀j,i<=j->j<ops.length->b0l P ops envs hs rs kd j
 |[],i,env,H,hd,h=>⟨fun _=>env,fun _=>H,fun _=>.junk,fun _=>.skip,rfl,rfl,h,fun j h1 h2=>by
    have:=congrArg List.length hd;simp at this;omega⟩
 |o::rest,i,env,H,hd,h=>by
  have hget:ops[i]? =some o:=by
   have:(ops.drop i)[0]? =some o:=by rw [hd];rfl
   rw [lbj] at this;simpa using this
  have hil:i<ops.length:=(lbe.1 hget).1;have hd':ops.drop (i+1)=rest:=by rw [← List.drop_drop,hd];rfl
  have build:∀(r:S) (k:Kd) (env':Env) (H':Hp),a8V P τ ops true (i+1) rest env' H' K->env'=b0Z o.dst r env->
   (match k with
     |.skip=>a7V ops o env false/\r=b1M/\H'=H
     |.quiet B=>a7V ops o env true/\QOp P o (evR o env) H r B/\H'=H++B
     |.gen=>a7V ops o env true/\GOp P o (evR o env) H r H'/\N8 ops i=true/\∀j ∈ a18 ops i,∃oj d,ops[j]? =some oj/\oj.dst=some d/\QOp P oj (evR oj env) H' (M4 env (.tmp d)) [])->
   ∃(envs:Nat->Env) (hs:Nat->Hp) (rs:Nat->S) (kd:Nat->Kd),envs i=env/\hs i=H/\K (envs ops.length) (hs ops.length)/\∀j,i<=j->j<ops.length->b0l P ops envs hs rs kd j:=by
   intro r k env' H' hrest henv hk;have ⟨envs,hs,rs,kd,h1,h2,h3,h4⟩:=aq4 hτ rest (i+1) env' H' hd' hrest;refine ⟨fun j=>if j=i then env else envs j,fun j=>if j=i then H else hs j,fun j=>if j=i then r else rs j,fun j=>if j=i then k else kd j,zq,zq,?_,fun j hj hjl=>?_⟩
   ·simp only [show ¬ops.length=i by omega,if_false];exact h3
   ·by_cases hji:j=i
    ·subst hji;refine ⟨o,hget,?_,?_⟩
     ·simp only [show ¬j+1=j by omega,if_false,if_true,h1,henv]
     ·simp only [if_true,show ¬j+1=j by omega,if_false,h2];exact hk
    ·have ⟨o',q1,q2,q3⟩:=h4 j om hjl;refine ⟨o',q1,?_,?_⟩
     ·simp only [hji,show ¬j+1=i by omega,if_false];exact q2
     ·simp only [hji,show ¬j+1=i by omega,if_false];exact q3
  have ⟨y,hw,h⟩:=aw8 h;cases y with
  |false=>
   rw [cond_false,a4e] at h;exact build b1M .skip _ H h rfl ⟨hw,rz⟩
  |true=>
   rw [cond_true] at h;have hcong:=aN1 (P:=P) (τ:=τ) (H:=H) (op:=o.op) (ev:=M4 env) (ev':=evR o env) (fun x hx=>b7z hx)
    (Kq:=fun s B=>aD5 o.dst s env fun env'=>av9 H B fun H'=>a8V P τ ops true (i+1) rest env' H' K)
    (Kg:=fun s H'=>N8 ops i=true/\∃L,a18 ops i=L/\a3C P τ ops env H' (aD5 o.dst s env fun env'=>a8V P τ ops true (i+1) rest env' H' K) L)
   have h0:aop P τ (M4 env) H o.op (fun s B=>aD5 o.dst s env fun env'=>av9 H B fun H'=>a8V P τ ops true (i+1) rest env' H' K)
    (fun s H'=>N8 ops i=true/\∃L,a18 ops i=L/\a3C P τ ops env H' (aD5 o.dst s env fun env'=>a8V P τ ops true (i+1) rest env' H' K) L):=h
   rw [hcong] at h0;rcases af0 hτ h0 with ⟨s,B,h,hq⟩|⟨s,H',⟨hb,L,hL,h⟩,hg⟩
   ·rw [a4e,a4z] at h;exact build s (.quiet B) _ _ h rfl ⟨hw,hq,rfl⟩
   ·have ⟨h,hl⟩:=aK5 hτ h;rw [a4e] at h;exact build s .gen _ H' h rfl ⟨hw,hg,hb,by rw [hL];exact hl⟩
def v5.pre1 {w:World} {ι:Io} {M:Ms} {H X:Hp} (h:v5 w ι M (H++X)):v5 w ι M H:=by
 have e:∀(id:Nat) (k:Blk),H[id]? =some k->(H++X)[id]? =some k:=fun id k hk=>by
  rw [lbb (lbe.1 hk).1];exact hk
 exact ⟨fun id k hk=>h.blk id k (e id k hk),fun id k hk=>h.liv id k (e id k hk),fun id k hk=>h.fro id k (e id k hk),fun id id' k k' hk hk'=>h.inj id id' k k' (e id k hk) (e id' k' hk'),fun id id' k k' hk hk'=>h.old id id' k k' (e id k hk) (e id' k' hk')⟩
def v5.extend {w:World} {ι:Io} {M:Ms} {H X:Hp} (h:v5 w ι M H) (hF:a17 ι H.length):v5 w ι M (H++X):=by
 have e:∀(id:Nat) (k:Blk),(H++X)[id]? =some k->∀l,ι id=some l->H[id]? =some k:=fun id k hk l hl=>by
  by_cases hid:id<H.length
  ·rw [lbb hid] at hk;exact hk
  ·rw [hF id om] at hl;cases hl
 exact ⟨fun id k hk hd l hl=>h.blk id k (e id k hk l hl) hd l hl,fun id k hk hm b c s hl=>h.liv id k (e id k hk _ hl) hm b c s hl,fun id k hk hm b c s hl=>h.fro id k (e id k hk _ hl) hm b c s hl,
  fun id id' k k' hk hk' hm hm' b c s c' s' hl hl'=>h.inj id id' k k' (e id k hk _ hl) (e id' k' hk' _ hl') hm hm' b c s c' s' hl hl',
  fun id id' k k' hk hk' hm hm' b c s c' s' hl hl'=>h.old id id' k k' (e id k hk _ hl) (e id' k' hk' _ hl') hm hm' b c s c' s' hl hl'⟩
def P4.insert {w:World} {ι:Io} {M:Ms} {H:Hp} {n:Nat} {s:S} {B:List Blk} {v:Value} {w':World} (hH:v5 w ι M H) (hM:MB w M) (hB:∀k,k<B.length->H[n+k]? =B[k]?)
 (hf:∀k,k<B.length->ι (n+k)=none) (h:P4 w ι M n s B v w'):
 ∃new:Nat->Loc,RS w' (G1 ι n B.length new) (a6U M B.length new) s v/\Ext w w'/\v5 w' (G1 ι n B.length new) (a6U M B.length new) H/\MB w' (a6U M B.length new)/\
  (∀ b,a6U M B.length new b->M b\/w.heap.size<=b)/\(∀ b,a4k (G1 ι n B.length new) H b->a4k ι H b\/w.heap.size<=b):=by
 have ⟨new,h1,h2,h3,h4,h5⟩:=h;have hM':∀b,a6U M B.length new b->M b\/w.heap.size<=b:=by
  rintro b (hb|⟨k,hk,cap,size,he⟩)
  ·exact .inl hb
  ·exact .inr (h4 k b cap size hk he).1
 have hcase:∀id l,G1 ι n B.length new id=some l->(ι id=some l/\¬(n<=id/\id<n+B.length))\/∃k,k<B.length/\id=n+k/\l=new k:=by
  intro id l hl;unfold G1 at hl;split at hl
  ·injection hl with hl;exact .inr ⟨id - n,om,om,hl.symm⟩
  ·rename_i hc;exact .inl ⟨hl,hc⟩
 have hext:∀id l,ι id=some l->G1 ι n B.length new id=some l:=fun id l hl=>ad1 hf hl
 have hlt:∀id b cap size,ι id=some (.blk b cap size)->∀k,H[id]? =some k->k.mode≠.dead->b<w.heap.size:=fun id b cap size hi k hk hd=>by
  have ⟨_,_,_,_,_,cur,hc,_⟩:=hH.blk id k hk hd _ hi;exact C2 hc
 refine ⟨new,h1,h2,⟨?_,?_,?_,?_,?_⟩,?_,hM',?_⟩
 ·intro id k hk hd l hl;rcases hcase id l hl with ⟨hl,_⟩|⟨j,hj,rfl,rfl⟩
  ·have hb:=hH.blk id k hk hd l hl;cases l with
   |nil=>exact hb
   |blk b cap size=>
    have ⟨q1,q2,q3,q4,q5,cur,q6,q7,q8⟩:=hb;refine ⟨q1,q2,q3,q4,q5,cur,(h2.keep b (C2 q6)).trans q6,q7,fun i j c hc=>?_⟩;have ⟨u,hu,hr⟩:=q8 i j c hc;exact ⟨u,hu,hr.keep (fun b hb _=>h2.keep b hb) hM' hext⟩
  ·rw [hB j hj] at hk;exact (h3 j k hk).2
 ·intro id k hk hm b cap size hl;rcases hcase id _ hl with ⟨hl,_⟩|⟨j,hj,rfl,he⟩
  ·exact .inl (hH.liv id k hk hm b cap size hl)
  ·exact .inr ⟨j,hj,cap,size,he.symm⟩
 ·intro id k hk hm b cap size hl;rcases hcase id _ hl with ⟨hl,_⟩|⟨j,hj,rfl,he⟩
  ·have hb:=hlt id b cap size hl k hk (by rw [hm];intro h;cases h);rintro (h|⟨k',hk',cap',size',he⟩)
   ·exact hH.fro id k hk hm b cap size hl h
   ·have:=(h4 _ _ _ _ hk' he).1;omega
  ·rw [hB j hj] at hk;have:=(h3 j k hk).1;rw [hm] at this;cases this
 ·intro id id' k k' hk hk' hm hm' b cap size cap' size' hl hl';rcases hcase id _ hl with ⟨hl,_⟩|⟨j,hj,rfl,he⟩<;>rcases hcase id' _ hl' with ⟨hl',_⟩|⟨j',hj',rfl,he'⟩
  ·exact hH.inj id id' k k' hk hk' hm hm' b cap size cap' size' hl hl'
  ·have:=hlt id b cap size hl k hk (by rw [hm];intro h;cases h);have:=(h4 _ _ _ _ hj' he'.symm).1;omega
  ·have:=hlt id' b cap' size' hl' k' hk' (by rw [hm'];intro h;cases h);have:=(h4 _ _ _ _ hj he.symm).1;omega
  ·have:=h5 _ _ _ _ _ _ _ hj hj' he.symm he'.symm;omega
 ·intro id id' k k' hk hk' hm hm' b cap size cap' size' hl hl';rcases hcase id _ hl with ⟨hl,_⟩|⟨j,hj,rfl,he⟩
  ·rcases hcase id' _ hl' with ⟨hl',_⟩|⟨j',hj',rfl,he'⟩
   ·exact hH.old id id' k k' hk hk' hm hm' b cap size cap' size' hl hl'
   ·have:=hlt id b cap size hl k hk (by rw [hm];intro h;cases h);have:=(h4 _ _ _ _ hj' he'.symm).1;omega
  ·rw [hB j hj] at hk;have:=(h3 j k hk).1;rw [hm] at this;cases this
 ·rintro b (hb|⟨k,hk,cap,size,he⟩)
  ·exact a6P (hM b hb) h2.size
  ·exact (h4 k b cap size hk he).2
 ·rintro b ⟨id,k,cap,size,hk,hm,hl⟩;rcases hcase id _ hl with ⟨hl,_⟩|⟨j,hj,rfl,he⟩
  ·exact .inl ⟨id,k,cap,size,hk,hm,hl⟩
  ·exact .inr (h4 _ _ _ _ hj he.symm).1
section
variable {P:Program} {ops:Array Oper} {envs:Nat->Env} {hs:Nat->Hp} {rs:Nat->S} {kd:Nat->Kd}
def J0 (ops:Array Oper) (i:Nat):Option Nat:=(ops[i]?).bind (·.dst)
def a4u (hd:a8R ops.toList=true) {i j t:Nat} (hi:J0 ops i=some t) (hj:J0 ops j=some t):i=j:=by
 unfold J0 at hi hj;cases hoi:ops[i]? with
 |none=>rw [hoi] at hi;cases hi
 |some oi=>
  cases hoj:ops[j]? with
  |none=>rw [hoj] at hj;cases hj
  |some oj=>
   rw [hoi] at hi;rw [hoj] at hj;have hi:oi.dst=some t:=hi;have hj:oj.dst=some t:=hj;have:=lbv.1 hd (oi,i) (by rw [a5a];simpa using hoi);have:=lbv.1 this (oj,j) (by rw [a5a];simpa using hoj);simp only [hi,hj,aw1,at0,Bool.or_false] at this;exact a1A this
def a9t (hd:b1K ops.toList=true) {i j t:Nat} {oi:Oper} (hi:ops[i]? =some oi) (hr:t ∈ a1x ops.toList oi) (hj:J0 ops j=some t) (hne:i≠j):
 (j<i->((a1G ops.toList).getD i 0).testBit j=true)/\(i<j->((a1G ops.toList).getD j 0).testBit i=true):=by
 unfold J0 at hj;cases hoj:ops[j]? with
 |none=>rw [hoj] at hj;cases hj
 |some oj=>
  rw [hoj] at hj;have hj:oj.dst=some t:=hj;have:=lbv.1 hd (oi,i) (by rw [a5a];simpa using hi);have:=lbv.1 this t hr;have:=lbv.1 this (oj,j) (by rw [a5a];simpa using hoj);simp only [hj,aw1,at0,a8C,lbO] at this;have this:=this.resolve_left (fun h=>hne (a1A h));refine ⟨fun hlt=>?_,fun hlt=>?_⟩
  ·rw [show Nat.blt j i=true by rw [a1o];exact hlt] at this;simpa using this
  ·rw [show Nat.blt j i=false by rw [← lbQ,a1o];omega] at this;simpa using this
def aE9 {i j:Nat} (hb:N8 ops.toList i=true) (hj:j<ops.size) (hlt:i<j):((a1G ops.toList).getD j 0).testBit i=true:=by
 unfold N8 at hb;rw [lbN] at hb;have:=lbv.1 hb.1 j (by simpa using hj);rw [show Nat.blt i j=true by rw [a1o];exact hlt] at this;simpa using this
def aB3 {i j:Nat} (hlt:j<i) (hno:j ∉ a18 ops.toList i):((a1G ops.toList).getD i 0).testBit j=true:=by
 unfold a18 at hno;rw [lby] at hno;cases h:((a1G ops.toList).getD i 0).testBit j with
 |true=>rfl
 |false=>exact absurd ⟨lbB.2 hlt,by rw [h];rfl⟩ hno
def aY2 {i j:Nat} (hb:N8 ops.toList i=true) (hj:j ∈ a18 ops.toList i):a2k ops.toList i j=true:=by
 unfold N8 at hb;rw [lbN] at hb;exact lbv.1 hb.2 j hj
def a6B {i j y t d:Nat} {oj:Oper} (hf:a2k ops.toList i j=true) (hoj:ops[j]? =some oj) (ht:t ∈ a1x ops.toList oj) (hy:J0 ops y=some t):y<j\/i<y:=by
 unfold a2k at hf;have hoj':ops.toList[j]? =some oj:=by simpa using hoj
 rw [hoj'] at hf;simp only [lbN] at hf;have:=lbv.1 hf.2 t ht;unfold J0 at hy;cases hoy:ops[y]? with
 |none=>rw [hoy] at hy;cases hy
 |some oy=>
  rw [hoy] at hy;have hy:oy.dst=some t:=hy;have:=lbv.1 this (oy,y) (by rw [a5a];simpa using hoy);simp only [hy,aw1,at0,a8C,lbO,a1o] at this;exact this
def b2G {i j:Nat} {oj:Oper} (hf:a2k ops.toList i j=true) (hoj:ops[j]? =some oj):oj.guard=none:=by
 unfold a2k at hf;have hoj':ops.toList[j]? =some oj:=by simpa using hoj
 rw [hoj'] at hf;simp only [lbN] at hf;simpa using hf.1.1
variable (hT:∀j,j<ops.size->b0l P ops.toList envs hs rs kd j)
include hT
def a9W {p j:Nat} (hpj:p<=j) (hj:j<=ops.size):(envs j).length=(envs p).length:=by
 induction j with
 |zero=>obtain rfl:p=0:=by omega
        rfl
 |succ j ih=>
  by_cases h:p=j+1
  ·subst h;rfl
  ·have ⟨o,_,h1,_⟩:=hT j om;rw [h1,a3I,ih om om]
def a6t {p j t:Nat} (hpj:p<=j) (hj:j<=ops.size) (hno:∀i,p<=i->i<j->J0 ops i≠some t):(envs j)[t]? =(envs p)[t]?:=by
 induction j with
 |zero=>obtain rfl:p=0:=by omega
        rfl
 |succ j ih=>
  by_cases h:p=j+1
  ·subst h;rfl
  ·have ⟨o,ho,h1,_⟩:=hT j om;have hn:=hno j om om;have ho':ops[j]? =some o:=by simpa using ho
   unfold J0 at hn;rw [ho'] at hn;rw [h1,←ih om om (fun i h1 h2=>hno i h1 om)];cases hd:o.dst with
   |none=>rfl
   |some d=>
    have:d≠t:=fun e=>hn (by show o.dst=some t;rw [hd,e])
    show ((envs j).set d (rs j))[t]? =_;rw [List.getElem?_set_ne this]
def b2A (hdo:a8R ops.toList=true) {p i j t:Nat} (hpi:p<=i) (hij:i<j) (hj:j<=ops.size) (hd:J0 ops i=some t) (ht:t<(envs p).length):(envs j)[t]? =some (rs i):=by
 have h0:(envs j)[t]? =(envs (i+1))[t]?:=a6t hT om hj fun i' h1 h2 he=>by
  have:=a4u hdo hd he;omega
 have ⟨o,ho,h1,_⟩:=hT i om;have ho':ops[i]? =some o:=by simpa using ho
 unfold J0 at hd;rw [ho'] at hd;have hd:o.dst=some t:=hd;rw [h0,h1,hd];show ((envs i).set t (rs i))[t]? =_;rw [List.getElem?_set_self (by rw [a9W hT hpi om];exact ht)]
def Y9 {i j:Nat} (hij:i<=j) (hj:j<=ops.size) (hno:∀k,i<=k->k<j->kd k≠.gen):∃X,hs j=hs i++X:=by
 induction j with
 |zero=>obtain rfl:i=0:=by omega
        exact ⟨[],zq⟩
 |succ j ih=>
  by_cases h:i=j+1
  ·subst h;exact ⟨[],zq⟩
  ·have ⟨X,hX⟩:=ih om om (fun k h1 h2=>hno k h1 om);have ⟨o,_,_,h2⟩:=hT j om;have hg:=hno j om om;cases hk:kd j with
   |skip=>rw [hk] at h2;exact ⟨X,by rw [h2.2.2,hX]⟩
   |quiet B=>rw [hk] at h2;exact ⟨X++B,by rw [h2.2.2,hX,lbD]⟩
   |gen=>exact absurd hk hg
end
def bX1 (P:Program) (ops:Array Oper) (envs:Nat->Env) (hs:Nat->Hp) (j p:Nat):Prop:=
 (∃ q,p=q+1/\a2k ops.toList q j=true)/\∃oj d,ops[j]? =some oj/\oj.dst=some d/\QOp P oj (evR oj (envs p)) (hs p) (M4 (envs p) (.tmp d)) []
structure a8i (P:Program) (ops:Array Oper) (envs:Nat->Env) (hs:Nat->Hp) (rs:Nat->S) (kd:Nat->Kd) (w0:World) (ι0:Io) (M0:Ms) (H0:Hp) (listed:Array Bool) (a:Act) (w:World) (p q:Nat):Prop where
 hpq:p<=q
 hqn:q<=ops.size
 seg:∀j,p<=j->j<q->kd j≠.gen
 fin:q=ops.size\/kd q=.gen
 h0:H0.length<=(hs p).length
 lsz:listed.size=ops.size
 low:∀j,j<p->listed.getD j false=true\/bX1 P ops envs hs j p
 high:∀j,q<=j->listed.getD j false=false
 closed:∀i o,ops[i]? =some o->listed.getD i false=true->∀e ∈ o.after.toList,Region.binds .any e=true->listed.getD e.on false=true
 rel:∃(ι:Io) (M:Ms),a.defers=[]/\a.tmps.size=(envs p).length/\
  (∀ i t,p<=i->listed.getD i false=true->J0 ops i=some t->t<(envs p).length->RS w ι M (rs i) (a.tmps.getD t undef))/\
  (∀ t s,(∀ i,p<=i->listed.getD i false=true->J0 ops i≠some t)->(∀ i,i<p->listed.getD i false=false->J0 ops i≠some t)->(envs p)[t]? =some s->RS w ι M s (a.tmps.getD t undef))/\
  v5 w ι M (hs q)/\MB w M/\(∀ i B,p<=i->i<q->listed.getD i false=false->kd i=.quiet B->∀k,k<B.length->ι ((hs i).length+k)=none)/\
  a17 ι (hs q).length/\a4n w0 ι0 M0 H0 w ι M (hs q)
section
variable {P:Program} {ops:Array Oper} {envs:Nat->Env} {hs:Nat->Hp} {rs:Nat->S} {kd:Nat->Kd}
variable {w0:World} {ι0:Io} {M0:Ms} {H0:Hp} {listed:Array Bool} {a:Act} {w:World} {p q:Nat}
def a8i.full (hT:∀j,j<ops.size->b0l P ops.toList envs hs rs kd j) (hdo:a8R ops.toList=true) (hI:a8i P ops envs hs rs kd w0 ι0 M0 H0 listed a w p q) (hall:∀j,j<q->listed.getD j false=true):
 Sim w0 ι0 M0 H0 a w (envs q) (hs q):=by
 have ⟨ι,M,hd,hsz,h1,h2,hH,hM,hf,hF,hst⟩:=hI.rel;refine ⟨ι,M,hd,by rw [hsz,a9W hT hI.hpq hI.hqn],fun t s ht=>?_,hH,hM,hF,hst⟩;have htl:t<(envs p).length:=by rw [← a9W hT hI.hpq hI.hqn];exact (lbe.1 ht).1
 by_cases hex:∃i,p<=i/\i<q/\J0 ops i=some t
 ·have ⟨i,h3,h4,h5⟩:=hex;rw [b2A hT hdo h3 h4 hI.hqn h5 htl] at ht;injection ht with ht;subst ht;exact h1 i t h3 (hall i h4) h5 htl
 ·have hno:∀i,p<=i->i<q->J0 ops i≠some t:=fun i h3 h4 h5=>hex ⟨i,h3,h4,h5⟩
  rw [a6t hT hI.hpq hI.hqn hno] at ht;refine h2 t s (fun i h3 h4=>hno i h3 ?_) (fun i h3 h4=>?_) ht
  ·rcases I0 i q with h|h
   ·exact h
   ·rw [hI.high i h] at h4;cases h4
  ·have:=hI.hpq;rw [hall i om] at h4;cases h4
def a8i.reads (hT:∀j,j<ops.size->b0l P ops.toList envs hs rs kd j) (hb:a1V ops.toList=true) (hdo:a8R ops.toList=true) (hdep:b1K ops.toList=true)
 (hI:a8i P ops envs hs rs kd w0 ι0 M0 H0 listed a w p q) {ι:Io} {M:Ms}
 (h1:∀i t,p<=i->listed.getD i false=true->J0 ops i=some t->t<(envs p).length->RS w ι M (rs i) (a.tmps.getD t undef))
 (h2:∀t s,(∀ i,p<=i->listed.getD i false=true->J0 ops i≠some t)->(∀ i,i<p->listed.getD i false=false->J0 ops i≠some t)->(envs p)[t]? =some s->RS w ι M s (a.tmps.getD t undef))
 {i:Nat} {o:Oper} (ho:ops[i]? =some o) (hpi:p<=i) (hiN:i<=ops.size) (hun:listed.getD i false=false) (hready:∀e ∈ o.after.toList,Region.binds .any e=true->listed.getD e.on false=true)
 {t:Nat} (ht:t ∈ a1x ops.toList o):RS w ι M (M4 (envs i) (.tmp t)) (a.tmps.getD t undef):=by
 show RS w ι M ((envs i).getD t .junk) _;rw [lbl];have ho':ops.toList[i]? =some o:=by simpa using ho
 have hS:∀i o,ops.toList[i]? =some o->(listed.getD i false=true)->∀e ∈ o.after.toList,Region.binds .any e=true->listed.getD e.on false=true:=fun i o h=>hI.closed i o (by simpa using h)
 have hlow:∀j,j<p->listed.getD j false=false->J0 ops j≠some t:=fun j hj hl hd=>by
  have ⟨m1,m2⟩:=a9t hdep ho ht hd om;have:=a0V hb hS ho' hready (m1 om);rw [hl] at this;cases this
 cases hg:(envs i)[t]? with
 |none=>exact .junk
 |some s=>
  have htl:t<(envs p).length:=by rw [← a9W hT hpi hiN];exact (lbe.1 hg).1
  show RS w ι M s _;by_cases hex:∃j,p<=j/\j≠i/\J0 ops j=some t
  ·have ⟨j,hpj,hne,hj⟩:=hex;have ⟨m1,m2⟩:=a9t hdep ho ht hj (Ne.symm hne);rcases au4 hne with hlt|hgt
   ·have hl:=a0V hb hS ho' hready (m1 hlt);rw [b2A hT hdo hpj hlt hiN hj htl] at hg;injection hg with hg;subst hg;exact h1 j t hpj hl hj htl
   ·have hjl:listed.getD j false≠true:=fun hjl=>by
     have hoj:∃oj,ops.toList[j]? =some oj:=by
      unfold J0 at hj;cases h:ops[j]? with
      |none=>rw [h] at hj;cases hj
      |some oj=>exact ⟨oj,by simpa using h⟩
     have ⟨oj,hoj⟩:=hoj;have:=aw4 hb hS j oj i hoj (m2 hgt) hjl;rw [hun] at this;cases this
    rw [a6t hT hpi hiN (fun i' h3 h4 h5=>by have:=a4u hdo hj h5;omega)] at hg;refine h2 t s (fun i' h3 h4 h5=>?_) hlow hg;have:=a4u hdo hj h5;subst this;exact hjl h4
  ·have hno:∀i',p<=i'->i'≠i->J0 ops i'≠some t:=fun i' h3 h4 h5=>hex ⟨i',h3,h4,h5⟩
   rw [a6t hT hpi hiN (fun i' h3 h4=>hno i' h3 om)] at hg;refine h2 t s (fun i' h3 h4=>hno i' h3 ?_) hlow hg;rintro rfl;rw [hun] at h4;cases h4
def a8i.reads_late (hb:a1V ops.toList=true) (hdo:a8R ops.toList=true) (hdep:b1K ops.toList=true)
 (hI:a8i P ops envs hs rs kd w0 ι0 M0 H0 listed a w p q) {ι:Io} {M:Ms}
 (h2:∀t s,(∀ i,p<=i->listed.getD i false=true->J0 ops i≠some t)->(∀ i,i<p->listed.getD i false=false->J0 ops i≠some t)->(envs p)[t]? =some s->RS w ι M s (a.tmps.getD t undef))
 {i r:Nat} {o:Oper} (ho:ops[i]? =some o) (hip:i<p) (hr:p=r+1) (hf:a2k ops.toList r i=true) (hun:listed.getD i false=false) (hready:∀e ∈ o.after.toList,Region.binds .any e=true->listed.getD e.on false=true)
 {t:Nat} (ht:t ∈ a1x ops.toList o):RS w ι M (M4 (envs p) (.tmp t)) (a.tmps.getD t undef):=by
 show RS w ι M ((envs p).getD t .junk) _;rw [lbl];have ho':ops.toList[i]? =some o:=by simpa using ho
 have hS:∀i o,ops.toList[i]? =some o->(listed.getD i false=true)->∀e ∈ o.after.toList,Region.binds .any e=true->listed.getD e.on false=true:=fun i o h=>hI.closed i o (by simpa using h)
 cases hg:(envs p)[t]? with
 |none=>exact .junk
 |some s=>
  refine h2 t s (fun j h3 h4 h5=>?_) (fun j h3 h4 h5=>?_) hg
  ·have hoj:∃oj,ops.toList[j]? =some oj:=by
    unfold J0 at h5;cases h:ops[j]? with
    |none=>rw [h] at h5;cases h5
    |some oj=>exact ⟨oj,by simpa using h⟩
   have ⟨oj,hoj⟩:=hoj;have:=aw4 hb hS j oj i hoj ((a9t hdep ho ht h5 om).2 om) h4;rw [hun] at this;cases this
  ·by_cases hji:j=i
   ·subst hji;rcases a6B (d:=0) hf ho ht h5 with h|h<;>omega
   have hlt:j<i:=by
    rcases a6B (d:=0) hf ho ht h5 with h|h
    ·exact h
    ·omega
   have:=a0V hb hS ho' hready ((a9t hdep ho ht h5 om).1 hlt);rw [h4] at this;cases this
def a0K {listed:Array Bool} {i:Nat} (h:i<listed.size):(listed.setIfInBounds i true).getD i false=true:=by simp [h]
def a0e {listed:Array Bool} {i j:Nat} (h:(listed.setIfInBounds i true).getD j false=true):j=i\/listed.getD j false=true:=by
 by_cases hij:i=j
 ·exact .inl hij.symm
 ·rw [getD_set_ne false hij] at h;exact .inr h
def a8i.step (hT:∀j,j<ops.size->b0l P ops.toList envs hs rs kd j) (hI:a8i P ops envs hs rs kd w0 ι0 M0 H0 listed a w p q) (hd:a.defers=[]) (hsz:a.tmps.size=(envs p).length)
 {i:Nat} {o:Oper} (ho:ops[i]? =some o) (hpi:p<=i) (hiq:i<q) (hun:listed.getD i false=false) (hready:∀e ∈ o.after.toList,Region.binds .any e=true->listed.getD e.on false=true)
 (hdo:a8R ops.toList=true) {v:Value} {w':World} {ι':Io} {M':Ms}
 (h1:∀i t,p<=i->listed.getD i false=true->J0 ops i=some t->t<(envs p).length->RS w' ι' M' (rs i) (a.tmps.getD t undef))
 (h2:∀t s,(∀ i,p<=i->listed.getD i false=true->J0 ops i≠some t)->(∀ i,i<p->listed.getD i false=false->J0 ops i≠some t)->(envs p)[t]? =some s->RS w' ι' M' s (a.tmps.getD t undef))
 (hr:RS w' ι' M' (rs i) v) (hH:v5 w' ι' M' (hs q)) (hM:MB w' M')
 (hf:∀j B,p<=j->j<q->j≠i->listed.getD j false=false->kd j=.quiet B->∀k,k<B.length->ι' ((hs j).length+k)=none) (hF:a17 ι' (hs q).length) (hst:a4n w0 ι0 M0 H0 w' ι' M' (hs q)):
 a8i P ops envs hs rs kd w0 ι0 M0 H0 (listed.setIfInBounds i true) (a.put o.dst v) w' p q:=by
 have hil:i<listed.size:=by rw [hI.lsz];exact (lb6.1 ho).1
 have hdi:J0 ops i=o.dst:=by unfold J0;rw [ho];rfl
 refine ⟨hI.hpq,hI.hqn,hI.seg,hI.fin,hI.h0,by simpa using hI.lsz,fun j hj=>?_,fun j hj=>?_,?_,ι',M',by rw [a2j,hd],by rw [a6k,hsz],?_,?_,hH,hM,?_,hF,hst⟩
 ·exact (hI.low j hj).imp (fun h=>getD_set_true h) id
 ·rw [getD_set_ne false om];exact hI.high j hj
 ·intro j oj hoj hl e he hb;rcases a0e hl with rfl|hl
  ·rw [ho] at hoj;injection hoj with hoj;subst hoj;exact getD_set_true (hready e he hb)
  ·exact getD_set_true (hI.closed j oj hoj hl e he hb)
 ·intro j t hpj hl hdj htl;by_cases hji:j=i
  ·subst hji;rw [hdi] at hdj;rw [hdj];show RS w' ι' M' (rs j) ((a.tmps.setIfInBounds t v).getD t undef);simpa [show t<a.tmps.size by omega] using hr
  ·have hl':=(a0e hl).resolve_left hji;have hne:o.dst≠some t:=fun h=>by rw [← hdi] at h;exact hji (a4u hdo hdj h)
   have:=h1 j t hpj hl' hdj htl;cases hdd:o.dst with
   |none=>exact this
   |some d=>
    have:d≠t:=fun e=>hne (by rw [hdd,e])
    show RS w' ι' M' (rs j) ((a.tmps.setIfInBounds d v).getD t undef);rw [T3,Array.getElem?_setIfInBounds_ne this];rw [T3] at *;assumption
 ·intro t s hno hno2 hs';have hne:o.dst≠some t:=fun h=>hno i hpi (a0K hil) (by rw [hdi,h])
  have:=h2 t s (fun j h3 h4=>hno j h3 (getD_set_true h4)) (fun j h3 h4=>hno2 j h3 (by rw [getD_set_ne false om];exact h4)) hs';cases hdd:o.dst with
  |none=>exact this
  |some d=>
   have hdt:d≠t:=fun e=>hne (by rw [hdd,e])
   show RS w' ι' M' s ((a.tmps.setIfInBounds d v).getD t undef);rw [T3,Array.getElem?_setIfInBounds_ne hdt];rw [T3] at this;exact this
 ·intro j B hpj hjq hl hk;have hji:j≠i:=by rintro rfl;rw [a0K hil] at hl;cases hl
  rw [getD_set_ne false (Ne.symm hji)] at hl;exact hf j B hpj hjq hji hl hk
def a8i.late (hI:a8i P ops envs hs rs kd w0 ι0 M0 H0 listed a w p q) (hd:a.defers=[]) (hsz:a.tmps.size=(envs p).length)
 {i:Nat} {o:Oper} {d:Nat} (ho:ops[i]? =some o) (hod:o.dst=some d) (hip:i<p) (hready:∀e ∈ o.after.toList,Region.binds .any e=true->listed.getD e.on false=true)
 (hdo:a8R ops.toList=true) {v:Value} {w':World} {ι':Io} {M':Ms}
 (h1:∀i t,p<=i->listed.getD i false=true->J0 ops i=some t->t<(envs p).length->RS w' ι' M' (rs i) (a.tmps.getD t undef))
 (h2:∀t s,(∀ i,p<=i->listed.getD i false=true->J0 ops i≠some t)->(∀ i,i<p->listed.getD i false=false->J0 ops i≠some t)->(envs p)[t]? =some s->RS w' ι' M' s (a.tmps.getD t undef))
 (hr:RS w' ι' M' (M4 (envs p) (.tmp d)) v) (hH:v5 w' ι' M' (hs q)) (hM:MB w' M')
 (hf:∀j B,p<=j->j<q->listed.getD j false=false->kd j=.quiet B->∀k,k<B.length->ι' ((hs j).length+k)=none) (hF:a17 ι' (hs q).length) (hst:a4n w0 ι0 M0 H0 w' ι' M' (hs q)):
 a8i P ops envs hs rs kd w0 ι0 M0 H0 (listed.setIfInBounds i true) (a.put o.dst v) w' p q:=by
 have hil:i<listed.size:=by rw [hI.lsz];exact (lb6.1 ho).1
 have hdi:J0 ops i=some d:=by unfold J0;rw [ho];exact hod
 have hpq:=hI.hpq;refine ⟨hI.hpq,hI.hqn,hI.seg,hI.fin,hI.h0,by simpa using hI.lsz,fun j hj=>?_,fun j hj=>?_,?_,ι',M',by rw [a2j,hd],by rw [a6k,hsz],?_,?_,hH,hM,?_,hF,hst⟩
 ·exact (hI.low j hj).imp (fun h=>getD_set_true h) id
 ·rw [getD_set_ne false om];exact hI.high j hj
 ·intro j oj hoj hl e he hb;rcases a0e hl with rfl|hl
  ·rw [ho] at hoj;injection hoj with hoj;subst hoj;exact getD_set_true (hready e he hb)
  ·exact getD_set_true (hI.closed j oj hoj hl e he hb)
 ·intro j t hpj hl hdj htl;have hji:j≠i:=om;have hl':=(a0e hl).resolve_left hji;have:=h1 j t hpj hl' hdj htl;have hdt:d≠t:=fun e=>hji (a4u hdo hdj (by rw [← e];exact hdi))
  rw [hod];show RS w' ι' M' (rs j) ((a.tmps.setIfInBounds d v).getD t undef);rw [T3,Array.getElem?_setIfInBounds_ne hdt];rw [T3] at this;exact this
 ·intro t s hno hno2 hs';rw [hod];show RS w' ι' M' s ((a.tmps.setIfInBounds d v).getD t undef);by_cases hdt:d=t
  ·subst hdt;have htl:=(lbe.1 hs').1;have he:M4 (envs p) (.tmp d)=s:=by
    show (envs p).getD d .junk=s;rw [lbl,hs'];rfl
   rw [he] at hr;simpa [show d<a.tmps.size by omega] using hr
  ·have:=h2 t s (fun j h3 h4=>hno j h3 (getD_set_true h4)) (fun j h3 h4 h5=>by
    by_cases hji:j=i
    ·subst hji;rw [hdi] at h5;injection h5 with h5;exact hdt h5
    ·exact hno2 j h3 (by rw [getD_set_ne false (Ne.symm hji)];exact h4) h5) hs'
   rw [T3,Array.getElem?_setIfInBounds_ne hdt];rw [T3] at this;exact this
 ·intro j B hpj hjq hl hk;rw [getD_set_ne false om] at hl;exact hf j B hpj hjq hl hk
def b1P (kd:Nat->Kd) (p n:Nat) (h:p<=n):∃q,p<=q/\q<=n/\(∀ j,p<=j->j<q->kd j≠.gen)/\(q=n\/kd q=.gen):=by
 obtain ⟨m,hm⟩:∃m,m=n - p:=⟨_,rfl⟩;induction m generalizing p with
 |zero=>exact ⟨p,lbR _,h,fun j _ _=>om,.inl om⟩
 |succ m ih=>
  cases hk:kd p with
  |gen=>exact ⟨p,lbR _,h,fun j _ _=>om,.inr hk⟩
  |skip=>
   have ⟨q,h1,h2,h3,h4⟩:=ih (p+1) om om;refine ⟨q,om,h2,fun j h5 h6=>?_,h4⟩;by_cases hj:j=p
   ·subst hj;rw [hk];intro h;cases h
   ·exact h3 j om h6
  |quiet B=>
   have ⟨q,h1,h2,h3,h4⟩:=ih (p+1) om om;refine ⟨q,om,h2,fun j h5 h6=>?_,h4⟩;by_cases hj:j=p
   ·subst hj;rw [hk];intro h;cases h
   ·exact h3 j om h6
def unl (n:Nat) (listed:Array Bool):Nat:=((List.range n).filter fun j=>!listed.getD j false).length
def bi5 {n:Nat} {listed:Array Bool} {i:Nat} (hi:i<n) (hs:listed.size=n) (hu:listed.getD i false=false):unl n (listed.setIfInBounds i true)<unl n listed:=by
 unfold unl;have h1:((List.range n).filter fun j=>!(listed.setIfInBounds i true).getD j false)=((List.range n).filter fun j=>!listed.getD j false).filter fun j=>j≠i:=by
  rw [List.filter_filter];apply aP3;intro j hj;by_cases hji:j=i
  ·subst hji;simp [hs,hi]
  ·rw [getD_set_ne false (Ne.symm hji)];simp [hji]
 rw [h1];have hmem:i ∈ (List.range n).filter fun j=>!listed.getD j false:=by simp [hi];simpa using hu
 have:∀(l:List Nat),i ∈ l->(l.filter fun j=>j≠i).length<l.length:=by
  intro l;induction l with
  |nil=>intro h;cases h
  |cons x l ih=>
   intro h;by_cases hx:x=i
   ·subst hx;simp only [au9,ne_eq,not_true_eq_false,decide_false,a7S,if_false,lbu];have:=lbt (fun j=>decide ¬j=x) l;exact Nat.lt_succ_of_le this
   ·rcases lbA.1 h with h|h
    ·exact absurd h.symm hx
    ·simp [au9,hx];simpa using ih h
 exact this _ hmem
def a0k (hb:a1V ops.toList=true) (hsz:listed.size=ops.size) (h:Region.ready .any ops listed=[]):∀i,i<ops.size->listed.getD i false=true:=by
 intro i;induction i using Nat.strongRecOn with
 |_ i ih=>
  intro hi;cases hl:listed.getD i false with
  |true=>rfl
  |false=>
   have:i ∈ Region.ready .any ops listed:=by
    rw [mem_ready];refine ⟨by simp [hsz,hi] at hl ⊢;exact hl,ops[i],zq,fun e he hbi=>?_⟩;have hlt:=a8L hb (i:=i) (o:=ops[i]) zq (by simpa using he) hbi;exact ih e.on hlt om
   rw [h] at this;cases this
def b2O {n:Nat} (h:unl n listed=0):∀i,i<n->listed.getD i false=true:=by
 intro i hi;unfold unl at h;have:=lbF h;rw [List.filter_eq_nil_iff] at this;have:=this i (by simpa using hi);simpa using this
def bd9 (hI:a8i P ops envs hs rs kd w0 ι0 M0 H0 listed a w p q) (hall:∀i,i<ops.size->listed.getD i false=true):q=ops.size:=by
 rcases I0 q ops.size with h|h
 ·have:=hI.high q (lbR _);rw [hall q h] at this;cases this
 ·have:=hI.hqn;omega
def b8m (hM0:MB w0 M0) (hT:∀j,j<ops.size->b0l P ops.toList envs hs rs kd j) (hb:a1V ops.toList=true) (hdo:a8R ops.toList=true) (hdep:b1K ops.toList=true) {Q:Exit->Act->World->Prop}
 (hK:∀a w,Sim w0 ι0 M0 H0 a w (envs ops.size) (hs ops.size)->Q .normal a w):∀(fuel:Nat) (listed:Array Bool) (a:Act) (w:World) (p q:Nat),a8i P ops envs hs rs kd w0 ι0 M0 H0 listed a w p q->unl ops.size listed<=fuel->
   wpAny P .any ops Q fuel listed a w:=by
 have hend:∀(listed:Array Bool) (a:Act) (w:World) (p q:Nat),a8i P ops envs hs rs kd w0 ι0 M0 H0 listed a w p q->(∀ i,i<ops.size->listed.getD i false=true)->Q .normal a w:=fun listed a w p q hI hall=>by
  obtain rfl:=bd9 hI hall;exact hK a w (hI.full hT hdo hall)
 intro fuel;induction fuel with
 |zero=>
  intro listed a w p q hI hu;have hall:=b2O (listed:=listed) (n:=ops.size) om;refine ⟨?_,hend listed a w p q hI hall⟩;cases hr:Region.ready .any ops listed with
  |nil=>rfl
  |cons i l=>
   have hi:i ∈ Region.ready .any ops listed:=by rw [hr];simp
   rw [mem_ready] at hi;have ⟨h1,o,ho,_⟩:=hi;have hlt:=(lb6.1 ho).1;have h2:=hall i hlt;have hsz:=hI.lsz;simp [hsz,hlt] at h1 h2;rw [h1] at h2;cases h2
 |succ fuel ih=>
  intro listed a w p q hI hu;refine ⟨fun hr=>hend listed a w p q hI (a0k hb hI.lsz hr),fun i hi=>?_⟩;rw [mem_ready] at hi;have ⟨hl,o,ho,hready⟩:=hi;have hiN:=(lb6.1 ho).1;have hsz0:=hI.lsz;have hun:listed.getD i false=false:=by simp [hsz0,hiN] at hl ⊢;exact hl
  have hready':∀e ∈ o.after.toList,Region.binds .any e=true->listed.getD e.on false=true:=fun e he=>hready e (by simpa using he)
  have hu':unl ops.size (listed.setIfInBounds i true)<=fuel:=by
   have:=bi5 hiN hsz0 hun;omega
  have hS:∀i o,ops.toList[i]? =some o->(listed.getD i false=true)->∀e ∈ o.after.toList,Region.binds .any e=true->listed.getD e.on false=true:=fun i o h=>hI.closed i o (by simpa using h)
  unfold wpOp;rw [ho];simp only;have ⟨ι,M,hd,hsz,h1,h2,hH,hM,hf,hF,hst⟩:=hI.rel;by_cases hip:i<p
  · -- one that came late
    rcases hI.low i hip with h|⟨⟨r,hpr,hfine⟩,oj,d,hoj,hod,hq⟩
    ·rw [h] at hun;cases hun
    rw [ho] at hoj;injection hoj with hoj;subst hoj;have hgd:=b2G hfine ho;have hreads:=fun t ht=>hI.reads_late hb hdo hdep h2 ho hip hpr hfine hun hready' (t:=t) ht
    rw [show Region.wanted o (yielded ops a.tmps)=true by unfold Region.wanted;rw [hgd]];simp only [if_true];refine .inl ?_;have ⟨X,hX⟩:=Y9 hT hI.hpq hI.hqn hI.seg;have hHp:v5 w ι M (hs p):=by rw [hX] at hH;exact hH.pre1
    have hev:a0J w ι M (evR o (envs p)) a:=by
     intro x;cases x with
     |tmp t=>
      show RS w ι M (cond _ _ _) _;cases hc:(o.op.operands.toList.filterMap fun x=>match x with|.tmp t=>some t|_=>none).contains t with
      |true=>
       refine hreads t ?_;unfold a1x;rw [lbz];exact .inl (aY5.1 hc)
      |false=>exact .junk
     |const v=>exact RS.const v
     |global g=>exact .junk
     |func f=>exact .c (.t (.fn [] rfl zq))
    refine hq a w ι M hev hHp hM zq _ _ fun v w' hp=>?_
    have ⟨new,q1,q2,q3,q4,q5,q6⟩:=hp.insert hH hM zq zq;have hsame:∀id,G1 ι (hs p).length ([]:List Blk).length new id=ι id:=fun id=>by unfold G1;rw [iC zq]
    have keep:∀{s v},RS w ι M s v->RS w' (G1 ι (hs p).length ([]:List Blk).length new) (a6U M ([]:List Blk).length new) s v:=fun h=>h.keep (fun b hb _=>q2.keep b hb) q5 (fun id l hl=>by rw [hsame];exact hl)
    refine ih _ _ _ p q (hI.late hd hsz ho hod hip hready' hdo (fun j t h3 h4 h5 h6=>keep (h1 j t h3 h4 h5 h6)) (fun t s h3 h4 h5=>keep (h2 t s h3 h4 h5)) q1 q3 q4 ?_ ?_ ?_) hu'
    ·intro j B' h3 h4 h6 h7 k hk;rw [hsame];exact hf j B' h3 h4 h6 h7 k hk
    ·intro id hid;rw [hsame];exact hF id hid
    ·refine ⟨q2.os.trans hst.os,q2.tape.trans hst.tape,q2.output.trans hst.output,lbS hst.size q2.size,fun b hb' hl'=>(q2.keep b (a6P hb' hst.size)).trans (hst.keep b hb' hl'),?_,?_,?_,?_,hst.len⟩
     ·intro id hid;rw [hsame];exact hst.same id hid
     ·intro b hb';rcases q5 b hb' with h|h
      ·exact hst.mnew b h
      ·exact .inr (lbS hst.size h)
     ·intro b hb';rcases hst.mold b hb' with h|h
      ·exact .inl (.inl h)
      ·exact .inr h
     ·intro b hb';rcases q6 b hb' with h|h
      ·exact hst.live b h
      ·exact .inr (lbS hst.size h)
  have hpi:p<=i:=om;have hiq:i<=q:=by
   rcases I0 q i with h|h
   ·have hkq:kd q=.gen:=hI.fin.resolve_left om;have ⟨oq,hoq,_,h3⟩:=hT q om;rw [hkq] at h3;have:=a0V hb hS (by simpa using ho) hready' (aE9 h3.2.2.1 hiN h);rw [hI.high q (lbR _)] at this;cases this
   ·exact h
  have ⟨o',ho',henv,hk⟩:=hT i hiN;have:o'=o:=by
   have:ops[i]? =some o':=by simpa using ho'
   rw [ho] at this;injection this with this;exact this.symm
  subst this;have hreads:=fun t ht=>hI.reads hT hb hdo hdep h1 h2 ho hpi (a9U hiN) hun hready' (t:=t) ht
  have hlenI:a.tmps.size=(envs i).length:=by rw [hsz,a9W hT hpi om]
  have hguard:∀j want oj d,o'.guard=some (j,want)->ops[j]? =some oj->oj.dst=some d->RS w ι M (M4 (envs i) (.tmp d)) (a.tmps.getD d undef):=fun j want oj d hg hoj hdj=>by
   refine hreads d ?_;unfold a1x;rw [lbz];refine .inr ?_;have hoj':ops.toList[j]? =some oj:=by simpa using hoj
   rw [hg];simp [hoj',hdj]
  have hev:a0J w ι M (evR o' (envs i)) a:=by
   intro x;cases x with
   |tmp t=>
    show RS w ι M (cond _ _ _) _;cases hc:(o'.op.operands.toList.filterMap fun x=>match x with|.tmp t=>some t|_=>none).contains t with
    |true=>
     refine hreads t ?_;unfold a1x;rw [lbz];exact .inl (aY5.1 hc)
    |false=>exact .junk
   |const v=>exact RS.const v
   |global g=>exact .junk
   |func f=>exact .c (.t (.fn [] rfl zq))
  by_cases hlt:i<q
  ·have ⟨X,hX⟩:=Y9 hT (a9U hlt) hI.hqn (fun k h3 h4=>hI.seg k om h4);cases hkd:kd i with
   |skip=>
    rw [hkd] at hk;have ⟨hw,hr,_⟩:=hk;rw [a5K hlenI hw hguard];simp only [a7S,if_false];refine ih _ _ _ p q (hI.step hT hd hsz ho hpi hlt hun hready' hdo h1 h2 (by rw [hr];exact .skip) hH hM (fun j B h3 h4 _ h5 h6=>hf j B h3 h4 h5 h6) hF hst) hu'
   |quiet B=>
    rw [hkd] at hk;have ⟨hw,hqop,hB⟩:=hk;rw [a5K hlenI hw hguard];simp only [if_true];refine .inl ?_;have hfi:=hf i B hpi hlt hun hkd;have hHi:v5 w ι M (hs i):=by rw [hX] at hH;exact hH.pre1
    refine hqop a w ι M hev hHi hM hfi _ _ fun v w' hp=>?_
    have ⟨X1,hX1⟩:=Y9 hT (show i+1<=q by omega) hI.hqn (fun k h3 h4=>hI.seg k om h4);have hBq:∀k,k<B.length->(hs q)[(hs i).length+k]? =B[k]?:=fun k hk=>by
     rw [hX1,hB,lbD,lbc om,lbb om]
     congr 1;omega
    have ⟨new,q1,q2,q3,q4,q5,q6⟩:=hp.insert hH hM hBq hfi;have hext:∀id l,ι id=some l->G1 ι (hs i).length B.length new id=some l:=fun id l hl=>ad1 hfi hl
    have keep:∀{s v},RS w ι M s v->RS w' (G1 ι (hs i).length B.length new) (a6U M B.length new) s v:=fun h=>h.keep (fun b hb _=>q2.keep b hb) q5 hext
    have hqlen:(hs i).length+B.length<=(hs q).length:=by rw [hX1,hB];simp
    have hH0:H0.length<=(hs i).length:=by
     have ⟨Z,hZ⟩:=Y9 hT hpi om (fun k h3 h4=>hI.seg k h3 om);have:=hI.h0;rw [hZ];simp;omega
    refine ih _ _ _ p q (hI.step hT hd hsz ho hpi hlt hun hready' hdo (fun j t h3 h4 h5 h6=>keep (h1 j t h3 h4 h5 h6)) (fun t s h3 h4 h5=>keep (h2 t s h3 h4 h5)) q1 q3 q4 ?_ ?_ ?_) hu'
    ·intro j B' h3 h4 h5 h6 h7 k hk;have hfj:=hf j B' h3 h4 h6 h7 k hk;unfold G1;rw [iC ?_,hfj];rintro ⟨r1,r2⟩;rcases au4 h5 with hji|hji
     ·have ⟨Y,hY⟩:=Y9 hT (show j+1<=i by omega) om (fun k h3' h4'=>hI.seg k om om);have ⟨oj,_,_,hkj⟩:=hT j om;rw [h7] at hkj;rw [hY,hkj.2.2] at r1;simp at r1;omega
     ·have ⟨Y,hY⟩:=Y9 hT (show i+1<=j by omega) (by have:=hI.hqn;omega) (fun k h3' h4'=>hI.seg k om om);rw [hY,hB] at r2;simp at r2;omega
    ·intro id hid;unfold G1;rw [iC om];exact hF id hid
    ·refine ⟨q2.os.trans hst.os,q2.tape.trans hst.tape,q2.output.trans hst.output,lbS hst.size q2.size,fun b hb' hl'=>(q2.keep b (a6P hb' hst.size)).trans (hst.keep b hb' hl'),?_,?_,?_,?_,hst.len⟩
     ·intro id hid;unfold G1;rw [iC om];exact hst.same id hid
     ·intro b hb';rcases q5 b hb' with h|h
      ·exact hst.mnew b h
      ·exact .inr (lbS hst.size h)
     ·intro b hb';rcases hst.mold b hb' with h|h
      ·exact .inl (.inl h)
      ·exact .inr h
     ·intro b hb';rcases q6 b hb' with h|h
      ·exact hst.live b h
      ·exact .inr (lbS hst.size h)
   |gen=>exact absurd hkd (hI.seg i hpi hlt)
  · -- a general operation: the segment before it is done
    obtain rfl:i=q:=om;have hkq:kd i=.gen:=hI.fin.resolve_left om;rw [hkq] at hk;have ⟨hw,hg,hbar,hlate⟩:=hk;rw [a5K hlenI hw hguard];simp only [if_true];refine .inl ?_;refine hg a w ι M hev hH hM hF _ _ fun v w' hp=>?_
    have ⟨ι1,M1,g1,hH1,hM1,hF1,g5⟩:=hp;have hkb:∀b,b<w.heap.size->¬M b->w'.heap[b]? =w.heap[b]?:=fun b hb hnm=>g5.keep b hb fun hl=>hnm (a4k.inM hH hl)
    have hki:∀id l,ι id=some l->ι1 id=some l:=fun id l hl=>by
     have hlt:id<(hs i).length:=by
      rcases I0 id (hs i).length with h|h
      ·exact h
      ·rw [hF id h] at hl;cases hl
     rw [g5.same id hlt,hl]
    have keep:∀{s v},RS w ι M s v->RS w' ι1 M1 s v:=fun h=>h.keep hkb g5.mnew hki
    have hst1:=hst.trans hM0 g5;have hlen1:(envs (i+1)).length=(envs i).length:=by rw [henv,a3I]
    have ⟨q',r1,r2,r3,r4⟩:=b1P kd (i+1) ops.size om;have ⟨X,hX⟩:=Y9 hT r1 r2 r3;have hdi:J0 ops i=o'.dst:=by unfold J0;rw [ho];rfl
    have henvne:∀t,o'.dst≠some t->(envs (i+1))[t]? =(envs i)[t]?:=fun t hne=>by
     rw [henv];cases hdd:o'.dst with
     |none=>rfl
     |some d=>
      have hdt:d≠t:=fun e=>hne (by rw [hdd,e])
      show ((envs i).set d (rs i))[t]? =_;rw [List.getElem?_set_ne hdt]
    refine ih _ _ _ (i+1) q' ⟨r1,r2,r3,r4,hst1.len,by simpa using hsz0,fun j hj=>?_,fun j hj=>?_,?_,ι1,M1,by rw [a2j,hd],by rw [a6k,hlenI,hlen1],?_,?_,?_,hM1,?_,?_,?_⟩ hu'
    ·by_cases hji:j=i
     ·subst hji;exact .inl (a0K om)
     ·cases hl:listed.getD j false with
      |true=>exact .inl (getD_set_true hl)
      |false=>
       by_cases hjl:j ∈ a18 ops.toList i
       ·have hfine:=aY2 hbar hjl;have ⟨oj,d,hoj,hod,hq⟩:=hlate j hjl;have hoj':ops[j]? =some oj:=by simpa using hoj
        refine .inr ⟨⟨i,rfl,hfine⟩,oj,d,hoj',hod,?_⟩;have hev1:evR oj (envs (i+1))=evR oj (envs i):=by
         funext x;cases x with
         |tmp t=>
          show cond _ _ _=cond _ _ _;cases hc:(oj.op.operands.toList.filterMap fun x=>match x with|.tmp t=>some t|_=>none).contains t with
          |false=>rfl
          |true=>
           have ht:t ∈ a1x ops.toList oj:=by
            unfold a1x;rw [lbz];exact .inl (aY5.1 hc)
           have hne:o'.dst≠some t:=fun he=>by
            have:=a6B (d:=0) hfine hoj' ht (hdi.trans he);omega
           show (envs (i+1)).getD t .junk=(envs i).getD t .junk;rw [lbl,lbl,henvne t hne]
         |const v=>rfl
         |global g=>rfl
         |func f=>rfl
        have hne:o'.dst≠some d:=fun he=>hji (a4u hdo (show J0 ops j=some d by unfold J0;rw [hoj'];exact hod) (hdi.trans he))
        have hd1:M4 (envs (i+1)) (.tmp d)=M4 (envs i) (.tmp d):=by
         show (envs (i+1)).getD d .junk=(envs i).getD d .junk;rw [lbl,lbl,henvne d hne]
        rw [hev1,hd1];exact hq
       ·have:=a0V hb hS (by simpa using ho) hready' (aB3 om hjl);rw [hl] at this;cases this
    ·rw [getD_set_ne false om];exact hI.high j om
    ·intro j oj hoj hl' e he' hb';rcases a0e hl' with rfl|hl'
     ·rw [ho] at hoj;injection hoj with hoj;subst hoj;exact getD_set_true (hready' e he' hb')
     ·exact getD_set_true (hI.closed j oj hoj hl' e he' hb')
    ·intro j t hj hl' _ _;rcases a0e hl' with rfl|hl'
     ·omega
     ·rw [hI.high j om] at hl';cases hl'
    ·intro t s _ hno2 hs';have htl:t<(envs i).length:=by rw [← hlen1];exact (lbe.1 hs').1
     by_cases hdt:o'.dst=some t
     ·have:(envs (i+1))[t]? =some (rs i):=by
       rw [henv,hdt];show ((envs i).set t (rs i))[t]? =_;rw [List.getElem?_set_self htl]
      rw [this] at hs';injection hs' with hs';subst hs';rw [hdt];show RS w' ι1 M1 (rs i) ((a.tmps.setIfInBounds t v).getD t undef);simpa [show t<a.tmps.size by omega] using g1
     ·rw [henvne t hdt] at hs';have hold:RS w ι M s (a.tmps.getD t undef):=by
       by_cases hex:∃j,p<=j/\j<i/\J0 ops j=some t
       ·have ⟨j,h3,h4,h5⟩:=hex;have htp:t<(envs p).length:=by rw [← a9W hT hpi om];exact htl
        rw [b2A hT hdo h3 h4 om h5 htp] at hs';injection hs' with hs';subst hs';refine h1 j t h3 ?_ h5 htp;cases hl:listed.getD j false with
        |true=>rfl
        |false=>exact absurd h5 (hno2 j om (by rw [getD_set_ne false om];exact hl))
       ·rw [a6t hT hpi om (fun j h3 h4 h5=>hex ⟨j,h3,h4,h5⟩)] at hs';refine h2 t s (fun j h3 h4 h5=>?_) (fun j h3 h4 h5=>?_) hs'
        ·rcases I0 j i with h|h
         ·exact hex ⟨j,h3,h,h5⟩
         ·rw [hI.high j h] at h4;cases h4
        ·exact hno2 j om (by rw [getD_set_ne false om];exact h4) h5
      cases hdd:o'.dst with
      |none=>exact keep hold
      |some d=>
       have hdt':d≠t:=fun e=>hdt (by rw [hdd,e])
       show RS w' ι1 M1 s ((a.tmps.setIfInBounds d v).getD t undef);have:=keep hold;rw [T3,Array.getElem?_setIfInBounds_ne hdt'];rw [T3] at this;exact this
    ·rw [hX];exact hH1.extend hF1
    ·intro j B h3 h4 _ _ k hk;have ⟨Y,hY⟩:=Y9 hT h3 om (fun k h3' h4'=>r3 k h3' om);exact hF1 _ (by rw [hY];simp;omega)
    ·intro id hid;exact hF1 id (by rw [hX] at hid;simp at hid;omega)
    ·refine ⟨hst1.os,hst1.tape,hst1.output,hst1.size,hst1.keep,hst1.same,hst1.mnew,hst1.mold,?_,by rw [hX];have:=hst1.len;simp;omega⟩;rintro b ⟨id,k,cap,size,hk,hm,hi'⟩;have hid:id<(hs (i+1)).length:=by
      rcases I0 id (hs (i+1)).length with h|h
      ·exact h
      ·rw [hF1 id h] at hi';cases hi'
     rw [hX,lbb hid] at hk;exact hst1.live b ⟨id,k,cap,size,hk,hm,hi'⟩
end
def a6v {P:Program} {τ:Tab} (hτ:G7 P τ) {ops:Array Oper} {Q:Exit->Act->World->Prop} {K:Env->Hp->Prop} {w0:World} {ι0:Io} {M0:Ms} {H0:Hp} (hM0:MB w0 M0)
 (hK:∀env H a w,K env H->Sim w0 ι0 M0 H0 a w env H->Q .normal a w) {env:Env} {H:Hp} {a:Act} {w:World}
 (hr:a9f ops.toList=true) (h:a8V P τ ops.toList true 0 ops.toList env H K) (hs:Sim w0 ι0 M0 H0 a w env H):wpAny P .any ops Q ops.size (Array.replicate ops.size false) a { w with drawn:=w.drawn+1 }:=by
 simp only [a9f,lbN] at hr;have ⟨⟨hb,hdo⟩,hdep⟩:=hr;have ⟨envs,hps,rs,kd,h1,h2,h3,h4⟩:=aq4 hτ ops.toList 0 env H rfl h;have hT:∀j,j<ops.size->b0l P ops.toList envs hps rs kd j:=fun j hj=>h4 j (G0 _) (by simpa using hj)
 have ⟨q,q1,q2,q3,q4⟩:=b1P kd 0 ops.size (G0 _);have ⟨X,hX⟩:=Y9 hT q1 q2 q3;have ⟨ι,M,hd,hsz,he,hH,hM,hF,hst⟩:=hs;have hnone:∀j,(Array.replicate ops.size false).getD j false=false:=fun j=>by
  by_cases hj:j<ops.size
  ·simp [hj]
  ·simp [hj]
 refine b8m hM0 hT hb hdo hdep (fun a w hs=>hK _ _ a w (by simpa using h3) hs) ops.size _ a _ 0 q ?_ ?_
 ·refine ⟨q1,q2,q3,q4,by rw [h2];exact hst.len,zq,fun j hj=>om,fun j _=>hnone j,(fun i o _ hl=>absurd hl (by rw [hnone i];simp)),⟨ι,M,hd,by rw [h1];exact hsz,(fun i t _ hl=>absurd hl (by rw [hnone i];simp)),?_,?_,hM,?_,?_,?_⟩⟩
  ·intro t s _ _ ht;rw [h1] at ht;exact (he t s ht).keep (w:=w) (w':={ w with drawn:=w.drawn+1 }) (fun _ _ _=>rfl) (fun b h=>.inl h) (fun _ _ h=>h)
  ·rw [hX,h2];have:=v5.extend (X:=X) hH hF;exact ⟨fun id k hk hd l hl=>by
    have hb:=this.blk id k hk hd l hl;cases l with
    |nil=>exact hb
    |blk b cap size=>
     have ⟨r1,r2,r3,r4,r5,cur,r6,r7,r8⟩:=hb;exact ⟨r1,r2,r3,r4,r5,cur,r6,r7,fun i j c hc=>by
      have ⟨u,s1,s2⟩:=r8 i j c hc;exact ⟨u,s1,s2.keep (w:=w) (w':={ w with drawn:=w.drawn+1 }) (fun _ _ _=>rfl) (fun b h=>.inl h) (fun _ _ h=>h)⟩⟩,this.liv,this.fro,this.inj,this.old⟩
  ·intro i B _ hi _ hk k hkB;have ⟨Y,hY⟩:=Y9 hT (G0 i) om (fun k h1 h2=>q3 k h1 om);exact hF _ (by rw [hY,h2];simp;omega)
  ·intro id hid;exact hF id (by rw [hX,h2] at hid;simp at hid;omega)
  ·rw [hX,h2];refine ⟨hst.os,hst.tape,hst.output,hst.size,hst.keep,hst.same,hst.mnew,hst.mold,?_,by have:=hst.len;simp;omega⟩;rintro b ⟨id,k,cap,size,hk,hm,hi⟩;have hid:id<H.length:=by
    rcases I0 id H.length with h|h
    ·exact h
    ·rw [hF id h] at hi;cases hi
   rw [lbb hid] at hk;exact hst.live b ⟨id,k,cap,size,hk,hm,hi⟩
 ·unfold unl;have:=lbt (fun j=>!(Array.replicate ops.size false).getD j false) (List.range ops.size);simpa using this
def a9D (i:Nat):List Nat->Nat
 |[]=>0
 |x::r=>cond (Nat.beq x i) 0 (a9D i r+1)
def a8l (π:List Nat) (o:Oper):Oper:={ o with after:=(o.after.toList.map fun e=>{ e with on:=a9D e.on π }).toArray,guard:=o.guard.map fun g=>(a9D g.1 π,g.2) }
def a0M (π:List Nat) (ops:List Oper):List Oper:=π.filterMap fun i=>(ops[i]?).map (a8l π)
def aP0 (π:List Nat) (n:Nat):Bool:=Nat.beq π.length n && π.all (fun i=>Nat.blt i n) && (List.range n).all (fun p=>match π[p]? with|some i=>Nat.beq (a9D i π) p|none=>false) && (List.range n).all (fun i=>match π[a9D i π]? with|some j=>Nat.beq j i|none=>false)
def a9I (o:Option (List Nat)) (ops:List Oper):List Oper:=match o with
 |none=>ops
 |some π=>a0M π ops
def b4s (o:Option (List Nat)) (n:Nat):Bool:=match o with
 |none=>true
 |some π=>aP0 π n
structure b6S (ops:List Oper) (K:List Oper->Prop):Prop where
 out:∃o,b4s o ops.length=true/\a9f (a9I o ops)=true/\K (a9I o ops)
structure a5W (π:List Nat) (n:Nat):Prop where
 len:π.length=n
 lt:∀p i:Nat,π[p]? =some i->i<n
 pos:∀i:Nat,i<n->π[a9D i π]? =some i
 inv:∀p i:Nat,π[p]? =some i->a9D i π=p
def b0J {π:List Nat} {n:Nat} (h:aP0 π n=true):a5W π n:=by
 unfold aP0 at h;simp only [lbN] at h;have ⟨⟨⟨h1,h2⟩,h3⟩,h4⟩:=h;have hl:=a1A h1;refine ⟨hl,fun p i hp=>?_,fun i hi=>?_,fun p i hp=>?_⟩
 ·have:=lbv.1 h2 i (lbm hp);simpa using this
 ·have:=lbv.1 h4 i (lbB.2 hi);split at this
  ·rename_i j hj;rw [hj,a1A this]
  ·cases this
 ·have hlt:=(lbe.1 hp).1;have:=lbv.1 h3 p (lbB.2 om);rw [hp] at this;exact a1A this
def aU1 {i:Nat}:∀{π:List Nat},i ∉ π->a9D i π=π.length
 |[],_=>rfl
 |x::r,h=>by
  unfold a9D;have h1:Nat.beq x i=false:=by
   cases hb:Nat.beq x i with
   |false=>rfl
   |true=>exact absurd (by rw [a1A hb];simp) h
  rw [h1,cond_false,aU1 (fun hm=>h (by simp [hm]))];rfl
def a7J {α β:Type} {f:α->Option β}:∀{l:List α},(∀ x ∈ l,(f x).isSome=true)->∀p:Nat,(l.filterMap f)[p]? =(l[p]?).bind f
 |[],_,p=>zq
 |x::r,h,p=>by
  have ⟨y,hy⟩:=b4c.1 (h x zq);rw [List.filterMap_cons_some hy];cases p with
  |zero=>simp [hy]
  |succ p=>simpa using a7J (fun x hx=>h x (by simp [hx])) p
def a7Y {α β:Type} {f:α->Option β}:∀{l:List α},(∀ x ∈ l,(f x).isSome=true)->(l.filterMap f).length=l.length
 |[],_=>rfl
 |x::r,h=>by
  have ⟨y,hy⟩:=b4c.1 (h x zq);rw [List.filterMap_cons_some hy,lbu,lbu,a7Y fun x hx=>h x (by simp [hx])]
def b1d {π:List Nat} {ops:List Oper} (hP:a5W π ops.length) {p i:Nat} (hp:π[p]? =some i):(a0M π ops)[p]? =(ops[i]?).map (a8l π):=by
 unfold a0M;rw [a7J (fun x hx=>?_),hp]
 ·rfl
 ·have ⟨q,hq⟩:=List.getElem?_of_mem hx;have:=hP.lt q x hq;rw [lbf this];rfl
def a9g {π:List Nat} {ops:List Oper} (hP:a5W π ops.length):(a0M π ops).length=ops.length:=by
 rw [← hP.len];unfold a0M;refine a7Y fun x hx=>?_
 have ⟨q,hq⟩:=List.getElem?_of_mem hx;have:=hP.lt q x hq;rw [lbf this];rfl
section
variable {P:Program} {Q:Exit->Act->World->Prop} {md:Region.Mode} {π:List Nat} {ops ops':Array Oper}
structure b0j (π:List Nat) (n:Nat) (listed listed':Array Bool):Prop where
 s:listed.size=n
 s':listed'.size=n
 eq:∀p i:Nat,π[p]? =some i->listed'.getD p false=listed.getD i false
def b9R {n p i:Nat} (hP:a5W π n) {listed listed':Array Bool} (h:b0j π n listed listed') (hp:π[p]? =some i):b0j π n (listed.setIfInBounds i true) (listed'.setIfInBounds p true):=by
 refine ⟨by simp [h.s],by simp [h.s'],fun q j hq=>?_⟩;have h1:=hP.lt p i hp;have h2:=hP.lt q j hq;have h3:p<n:=by rw [← hP.len];exact (lbe.1 hp).1
 have h4:q<n:=by rw [← hP.len];exact (lbe.1 hq).1
 have he:=h.eq q j hq;by_cases hqp:q=p
 ·subst hqp;rw [hp] at hq;injection hq with hq;subst hq;simp [h.s,h.s',h1,h3]
 ·have hji:j≠i:=fun e=>by
   subst e;have a:=hP.inv p j hp;have b:=hP.inv q j hq;omega
  rw [T3] at he ⊢;rw [T3] at he ⊢;rw [Array.getElem?_setIfInBounds_ne (Ne.symm hqp),Array.getElem?_setIfInBounds_ne (Ne.symm hji)];exact he
def a8v (hP:a5W π ops.size) (ho:ops'.toList=a0M π ops.toList) {listed listed':Array Bool} (h:b0j π ops.size listed listed') {p i:Nat} (hp:π[p]? =some i):
 p ∈ Region.ready md ops' listed'↔i ∈ Region.ready md ops listed:=by
 have hP':a5W π ops.toList.length:=by simpa using hP
 have hlen:ops'.size=ops.size:=by
  have:=congrArg List.length ho;rw [a9g hP'] at this;simpa using this
 have hi:=hP.lt p i hp;have hpn:p<ops.size:=by rw [← hP.len];exact (lbe.1 hp).1
 have hop:ops'[p]? =(ops[i]?).map (a8l π):=by
  have:=b1d hP' hp;rw [← ho] at this;simpa using this
 have hoi:ops[i]? =some ops[i]:=Array.getElem?_eq_getElem hi;have hl:=h.eq p i hp;have hD:∀(l:Array Bool) (j:Nat),j<l.size->l.getD j true=l.getD j false:=fun l j hj=>by simp [hj]
 unfold Region.ready;rw [lby,lby,lbB,lbB,hop,hoi];simp only [a6G,az7];rw [hD listed i (by rw [h.s];exact hi),hD listed' p (by rw [h.s'];exact hpn),hl,hlen];have e:(a8l π ops[i]).after.all (fun e=>!Region.binds md e || listed'.getD e.on false)=ops[i].after.all (fun e=>!Region.binds md e || listed.getD e.on false):=by
  rw [← Array.all_toList,←Array.all_toList];show ((ops[i].after.toList.map fun e=>({ e with on:=a9D e.on π }:Edge)).toArray.toList).all _=_;rw [List.all_map]
  congr 1
  funext e;show (!Region.binds md { e with on:=a9D e.on π } || listed'.getD (a9D e.on π) false)=_;have hb:Region.binds md { e with on:=a9D e.on π }=Region.binds md e:=rfl;rw [hb]
  congr 1
  by_cases hn:e.on<ops.size
  ·exact h.eq _ _ (hP.pos _ hn)
  ·have hm:e.on ∉ π:=fun hm=>by
    have ⟨q,hq⟩:=List.getElem?_of_mem hm;exact hn (hP.lt q _ hq)
   rw [aU1 hm,hP.len];simp [h.s,h.s',hn]
 rw [e];simp [hi,hpn]
def b6U (hP:a5W π ops.size) (ho:ops'.toList=a0M π ops.toList) {p i:Nat} (hp:π[p]? =some i) {K K':Act->World->Prop} (hK:∀a w,K' a w->K a w) {a:Act} {w:World} (h:wpOp P ops' Q p K' a w):wpOp P ops Q i K a w:=by
 have hP':a5W π ops.toList.length:=by simpa using hP
 have hi:=hP.lt p i hp;have hget:∀q j,π[q]? =some j->ops'[q]? =(ops[j]?).map (a8l π):=fun q j hq=>by
  have:=b1d hP' hq;rw [← ho] at this;simpa using this
 have hlen:ops'.size=ops.size:=by
  have:=congrArg List.length ho;rw [a9g hP'] at this;simpa using this
 have hoi:ops[i]? =some ops[i]:=Array.getElem?_eq_getElem hi;have hy:∀j,yielded ops' a.tmps (a9D j π)=yielded ops a.tmps j:=fun j=>by
  unfold yielded;by_cases hn:j<ops.size
  ·rw [hget _ _ (hP.pos j hn),Array.getElem?_eq_getElem hn];rfl
  ·have hm:j ∉ π:=fun hm=>by
    have ⟨q,hq⟩:=List.getElem?_of_mem hm;exact hn (hP.lt q _ hq)
   rw [aU1 hm,hP.len,Array.getElem?_eq_none om,Array.getElem?_eq_none om]
 have hw:Region.wanted (a8l π ops[i]) (yielded ops' a.tmps)=Region.wanted ops[i] (yielded ops a.tmps):=by
  unfold Region.wanted a8l;cases ops[i].guard with
  |none=>rfl
  |some g=>simp only [a6G];rw [hy]
 have h2:wpOp P ops Q i K' a w:=by
  unfold wpOp at h ⊢;rw [hget p i hp,hoi] at h;rw [hoi];simp only [a6G] at h;rw [hw] at h;exact h
 exact wpOp_mono hK h2
def b2p (hP:a5W π ops.size) (ho:ops'.toList=a0M π ops.toList):∀(fuel:Nat) (listed listed':Array Bool) (a:Act) (w:World),b0j π ops.size listed listed'->wpAny P md ops' Q fuel listed' a w->wpAny P md ops Q fuel listed a w:=by
 have hP':a5W π ops.toList.length:=by simpa using hP
 have hlen:ops'.size=ops.size:=by
  have:=congrArg List.length ho;rw [a9g hP'] at this;simpa using this
 have hnil:∀listed listed',b0j π ops.size listed listed'->(Region.ready md ops' listed'=[]↔Region.ready md ops listed=[]):=fun listed listed' h=>by
  constructor
  ·intro he;cases hr:Region.ready md ops listed with
   |nil=>rfl
   |cons i r=>
    have hm:i ∈ Region.ready md ops listed:=by rw [hr];simp
    have hi:i<ops.size:=by unfold Region.ready at hm;exact lbB.1 (lby.1 hm).1
    have:=(a8v hP ho h (hP.pos i hi)).2 hm;rw [he] at this;cases this
  ·intro he;cases hr:Region.ready md ops' listed' with
   |nil=>rfl
   |cons p r=>
    have hm:p ∈ Region.ready md ops' listed':=by rw [hr];simp
    have hpn:p<ops'.size:=by unfold Region.ready at hm;exact lbB.1 (lby.1 hm).1
    have:=(a8v hP ho h (lbf (by rw [hP.len];omega))).1 hm;rw [he] at this;cases this
 intro fuel;induction fuel with
 |zero=>intro listed listed' a w h hh;exact ⟨(hnil _ _ h).1 hh.1,hh.2⟩
 |succ fuel ih=>
  intro listed listed' a w h hh;refine ⟨fun he=>hh.1 ((hnil _ _ h).2 he),fun i hi=>?_⟩;have hin:i<ops.size:=by unfold Region.ready at hi;exact lbB.1 (lby.1 hi).1
  have hp:=hP.pos i hin;exact b6U hP ho hp (fun a w hk=>ih _ _ a w (b9R hP h hp) hk) (hh.2 _ ((a8v hP ho h hp).2 hi))
end
def b45 {P:Program} {τ:Tab} (hτ:G7 P τ) {ops:Array Oper} {Q:Exit->Act->World->Prop} {K:Env->Hp->Prop} {w0:World} {ι0:Io} {M0:Ms} {H0:Hp} (hM0:MB w0 M0)
 (hK:∀env H a w,K env H->Sim w0 ι0 M0 H0 a w env H->Q .normal a w) {env:Env} {H:Hp} {a:Act} {w:World} {id:Nat} {o:Option (List Nat)}
 (ho:b4s o ops.toList.length=true) (hr:a9f (a9I o ops.toList)=true) (h:a8V P τ (a9I o ops.toList) true 0 (a9I o ops.toList) env H K) (hs:Sim w0 ι0 M0 H0 a w env H):(Code.region id ops true).wp P Q a w:=by
 refine wp_region_any hτ.mixed ?_;cases o with
 |none=>exact a6v hτ hM0 hK hr h hs
 |some π=>
  have hP:a5W π ops.toList.length:=b0J ho;have hP2:a5W π ops.size:=by simpa using hP
  have h1:=a6v (ops:=(a0M π ops.toList).toArray) hτ hM0 hK hr h hs;have hl:(a0M π ops.toList).toArray.size=ops.size:=by simp [a9g hP]
  rw [hl] at h1;exact b2p hP2 rfl _ _ _ _ _ ⟨zq,zq,fun p i hp=>by
   have a1:=hP2.lt p i hp;have a2:p<ops.size:=by rw [← hP2.len];exact (lbe.1 hp).1
   simp [a1,a2]⟩ h1
inductive AX where
 |normal
 |exit (id:Nat)
 |ret
def AX.real:AX->Exit
 |.normal=>.normal
 |.exit id=>.exit id
 |.ret=>.ret
structure Awp (P:Program) (n0:Nat) (c:Code) (env:Env) (H:Hp) (Q:AX->Env->Hp->Prop):Prop where
 out:∀(w0:World) (ι0:Io) (M0:Ms) (H0:Hp) (a:Act) (w:World),H0.length=n0->MB w0 M0->Sim w0 ι0 M0 H0 a w env H->
  c.wp P (fun e a' w'=>∃x env' H',e=AX.real x/\Q x env' H'/\Sim w0 ι0 M0 H0 a' w' env' H') a w
abbrev AQ:=AX->Env->Hp->Prop
abbrev AC:=Env->Hp->AQ->Prop
def bb3:AC:=fun env H Q=>Q .normal env H
noncomputable def b7V (P:Program) (τ:Tab) (_:Nat) (ops:Array Oper) (draw:Bool):AC:=fun env H Q=>match draw with
 |true=>b6S ops.toList fun ops=>a8V P τ ops true 0 ops env H (Q .normal)
 |false=>a8V P τ ops.toList false 0 ops.toList env H (Q .normal)
def bN1 (b:AC) (Q:AQ):AQ:=fun x env' H'=>match x with
    |.normal=>b env' H' Q
    |.exit j=>Q (.exit j) env' H'
    |.ret=>Q .ret env' H'
def bP9 (_ _:Code) (a b:AC):AC:=fun env H Q=>a env H (bN1 b Q)
def bL8 (c:Operand) (_ _:Code) (t e:AC):AC:=fun env H Q=>match M4 env c with
    |.c (.t (.atm (.bool b)))=>cond b (t env H Q) (e env H Q)
    |_=>False
def bO1 (id:Nat) (Q:AQ):AQ:=fun x env' H'=>match x with
    |.exit j=>cond (Nat.beq j id) (Q .normal env' H') (Q (.exit j) env' H')
    |.normal=>Q .normal env' H'
    |.ret=>Q .ret env' H'
def bs8 (id:Nat) (_:Code) (b:AC):AC:=fun env H Q=>b env H (bO1 id Q)
def bF4 (P:Program) (n0:Nat) (c:Code) (_:AC):AC:=fun env H Q=>Awp P n0 (.loop c) env H Q
def bD2 (id:Nat):AC:=fun env H Q=>Q (.exit id) env H
def bQ7:AC:=fun env H Q=>Q .ret env H
def bt0:AC:=fun _ _ _=>False
noncomputable def a5V (P:Program) (τ:Tab) (n0:Nat) (c:Code):Env->Hp->(AX->Env->Hp->Prop)->Prop:=
 Code.rec (motive:=fun _=>AC) bb3 (b7V P τ) bP9 bL8 bs8 (bF4 P n0) (fun _ _ _ _ _ _=>bt0) bD2 (fun _ _=>bt0) (fun _=>bb3) (fun _=>bt0) bQ7 (fun _=>bt0) c
def t4 {P:Program} {τ:Tab} {n0:Nat} (hτ:G7 P τ) (c:Code):∀{env:Env} {H:Hp} {Q:AX->Env->Hp->Prop},a5V P τ n0 c env H Q->Awp P n0 c env H Q:=by
 induction c with
 |skip=>intro env H Q h;refine ⟨fun w0 ι0 M0 H0 a w hn hM hs=>?_⟩;exact wp_skip ⟨.normal,env,H,rfl,h,hs⟩
 |region id ops draw=>
  intro env H Q h;refine ⟨fun w0 ι0 M0 H0 a w hn hM hs=>?_⟩;cases draw with
  |false=>
   refine wp_region ?_;have:=bb4 hτ hM (Q:=fun e a' w'=>∃x env' H',e=AX.real x/\Q x env' H'/\Sim w0 ι0 M0 H0 a' w' env' H') (K:=Q .normal)
    (fun env H a w hk hs=>⟨.normal,env,H,rfl,hk,hs⟩) ops.toList 0 env H a w rfl h hs
   rw [List.range_eq_range'];simpa using this
  |true=>
   have h:b6S ops.toList fun ops=>a8V P τ ops true 0 ops env H (Q .normal):=h
   have ⟨π,h1,h2,h3⟩:=h.out;exact b45 hτ hM (fun env H a w hk hs=>⟨.normal,env,H,rfl,hk,hs⟩) h1 h2 h3 hs
 |seq x y ihx ihy=>
  intro env H Q h;refine ⟨fun w0 ι0 M0 H0 a w hn hM hs=>?_⟩;refine wp_seq (wp_mono ((ihx h).out w0 ι0 M0 H0 a w hn hM hs) ?_);rintro e a' w' ⟨x,env',H',rfl,hq,hs'⟩;cases x with
  |normal=>exact (ihy hq).out w0 ι0 M0 H0 a' w' hn hM hs'
  |exit id=>exact ⟨_,env',H',rfl,hq,hs'⟩
  |ret=>exact ⟨_,env',H',rfl,hq,hs'⟩
 |cond c t e iht ihe=>
  intro env H Q h;refine ⟨fun w0 ι0 M0 H0 a w hn hM hs=>?_⟩;have h:(match M4 env c with
   |.c (.t (.atm (.bool b)))=>cond b (a5V P τ n0 t env H Q) (a5V P τ n0 e env H Q)
   |_=>False):=h
  split at h
  ·rename_i b hb;have ⟨ι,M,hd,hsz,he,hH,hMB,hF,hst⟩:=hs;have hv:=(he.ev.to hb).inv_atm;have hs:Sim w0 ι0 M0 H0 a w env H:=⟨ι,M,hd,hsz,he,hH,hMB,hF,hst⟩;refine wp_cond hv ?_;cases b with
   |true=>exact (iht h).out w0 ι0 M0 H0 a w hn hM hs
   |false=>exact (ihe h).out w0 ι0 M0 H0 a w hn hM hs
  ·exact h.elim
 |block id c ih=>
  intro env H Q h;refine ⟨fun w0 ι0 M0 H0 a w hn hM hs=>?_⟩;refine wp_block (wp_mono ((ih h).out w0 ι0 M0 H0 a w hn hM hs) ?_);rintro e a' w' ⟨x,env',H',rfl,hq,hs'⟩;cases x with
  |normal=>exact ⟨_,env',H',rfl,hq,hs'⟩
  |exit j=>
   have hq:cond (Nat.beq j id) (Q .normal env' H') (Q (.exit j) env' H'):=hq;show if j=id then _ else _
   by_cases hj:j=id
   ·subst hj;rw [iB rfl];simp only [aw1,cond_true] at hq;exact ⟨_,env',H',rfl,hq,hs'⟩
   ·rw [iC hj];have:Nat.beq j id=false:=by
     cases hb:Nat.beq j id with
     |false=>rfl
     |true=>exact absurd (a1A hb) hj
    simp only [this,cond_false] at hq;exact ⟨_,env',H',rfl,hq,hs'⟩
  |ret=>exact ⟨_,env',H',rfl,hq,hs'⟩
 |loop c ih=>intro env H Q h;exact h
 |exit id=>intro env H Q h;refine ⟨fun w0 ι0 M0 H0 a w hn hM hs=>?_⟩;exact wp_exit ⟨.exit id,env,H,rfl,h,hs⟩
 |ret=>intro env H Q h;refine ⟨fun w0 ι0 M0 H0 a w hn hM hs=>?_⟩;exact wp_ret ⟨.ret,env,H,rfl,h,hs⟩
 |label l=>intro env H Q h;refine ⟨fun w0 ι0 M0 H0 a w hn hM hs=>?_⟩;exact wp_label ⟨.normal,env,H,rfl,h,hs⟩
 |_=>intros;rename_i h;exact False.elim h
def b6H (τ:Tab) (env:Env) (H:Hp):List ResultVar->(List S->Prop)->Prop
 |[],k=>k []
 |.tmp t::r,k=>ay4 (M4 env (.tmp t)) fun s=>b6H τ env H r fun l=>k (s::l)
 |.cell x t::r,k=>aK7 τ (M4 env) H t (.tmp x) fun s=>b6H τ env H r fun l=>k (s::l)
def a9x (τ:Tab) (fn:Func) (env:Env) (H:Hp) (k:S->Prop):Prop:=
 b6H τ env H fn.results.toList fun l=>match l with
  |[s]=>k s
  |l=>k (.tup l)
def Sim.init {w:World} {ι:Io} {M:Ms} {H:Hp} {vals:List Value} {args:List S} (hl:vals.length=args.length) (hr:∀j s,args[j]? =some s->RS w ι M s (vals.getD j undef))
 (hH:v5 w ι M H) (hM:MB w M) (hF:a17 ι H.length) (n:Nat):
 Sim w ι M H { tmps:=vals.toArray++Array.replicate n undef,defers:=[] } w (args++List.replicate n .junk) H:=by
 refine ⟨ι,M,rfl,by simp [hl],fun t s ht=>?_,hH,hM,hF,a4n.refl w ι M H⟩;by_cases h:t<args.length
 ·rw [lbb h] at ht;have:=hr t s ht;have hlt:t<vals.length:=om;rw [lbl,lbf hlt] at this;rw [T3,Array.getElem?_append_left (by simpa using hlt)];simpa [hlt] using this
 ·rw [lbc om,lbk] at ht;split at ht
  ·injection ht with ht;subst ht;exact .junk
  ·cases ht
def a8O {P:Program} {τ:Tab} (hτ:G7 P τ) {w:World} {ι:Io} {M:Ms} {env:Env} {H:Hp} {a:Act} (he:a42 w ι M env a) (hH:v5 w ι M H):∀(rs:List ResultVar) {k:List S->Prop},b6H τ env H rs k->
 ∃l,k l/\∃vs:List Value,(rs.mapM fun|.tmp t=>pure (a.tmps.getD t undef)|.cell x t=>do loadVar t (← asAddr (a.tmps.getD x undef)):Sem (List Value)).run P w=.ok vs w/\vs.length=l.length/\
  ∀(j:Nat) (s:S),l[j]? =some s->RS w ι M s (vs.getD j undef)
 |[],k,h=>⟨[],h,[],zq,rfl,zq⟩
 |.tmp t::r,k,h=>by
  simp only [b6H] at h;rw [a3k] at h;have ⟨l,hk,vs,h1,h2,h3⟩:=a8O hτ he hH r h;refine ⟨_,hk,a.tmps.getD t undef::vs,?_,by simp [h2],fun j s hj=>?_⟩
  ·simp only [List.mapM_cons,Sem.run_bind,Sem.run_pure,Result.andThen_ok,h1]
  ·cases j with
   |zero=>simp at hj;subst hj;exact he.ev (.tmp t)
   |succ j=>simpa using h3 j s (by simpa using hj)
 |.cell x t::r,k,h=>by
  simp only [b6H] at h;have ⟨s,hs,hv⟩:=aG6 hτ h;have ⟨v,ad,g0,g1,g2⟩:=hv a w ι M he.ev hH;have ⟨l,hk,vs,h1,h2,h3⟩:=a8O hτ he hH r hs;have g0':a.tmps.getD x undef=.pointer (some ad):=g0;have e:(do loadVar t (← asAddr (a.tmps.getD x undef)):Sem Value).run P w=.ok v w:=by
   rw [g0] at g1;rw [g0'];simpa [asAddr,Instr.loadAt,Instr.sureAddr] using g1
  refine ⟨_,hk,v::vs,?_,by simp [h2],fun j s hj=>?_⟩
  ·simp only [List.mapM_cons,Sem.run_bind,Sem.run_pure,Result.andThen_ok] at e ⊢;rw [e];simp only [Result.andThen_ok,h1]
  ·cases j with
   |zero=>simp at hj;subst hj;exact g2
   |succ j=>simpa using h3 j s (by simpa using hj)
def bE2 (P:Program) (t:TypeId):Option TK:=
 match P.underlying t with
 |some .bool=>some .bool
 |some (.int k)=>some (.int k)
 |some (.slice e)=>some (.slice e)
 |some (.array n e)=>some (.arr n e)
 |some (.struct fs)=>cond (fs.toList.all fun f=>(P.info? f.type).isSome) (some (.struct (fs.toList.map fun f=>(f.offset,P.cellsOf f.type,false)))) none
 |some _=>some .bas
 |none=>none
def bR2:TK->Bool
 |.arr _ _=>true
 |.struct _=>true
 |_=>false
def aN3 {P:Program}:∀(fs:List Field),(fs.all fun f=>(P.info? f.type).isSome)=true->
 fs.mapM (fun f=>(P.info? f.type).map fun i=>(f.offset,i.size))=some ((fs.map fun f=>(f.offset,P.cellsOf f.type,false)).map (fun x=>(x.1,x.2.1)))
 |[],_=>rfl
 |f::fs,h=>by
  simp only [aQ7,lbN] at h;have ⟨i,hi⟩:=b4c.1 h.1;have ih:=aN3 fs h.2;have hc:P.cellsOf f.type=i.size:=by simp [Program.cellsOf,hi]
  simp only [List.mapM_cons,hi,ih,az3,hc,a6G]
  rfl
def bP4 {P:Program} {t:TypeId} {d:TD} (h1:bE2 P t=some d.k) (h2:d.agg=bR2 d.k)
 (h3:(P.info? t).map (fun i=>(i.zero.map (·.cells.toList),i.size,i.bytes))=some (some d.zero,d.size,d.bytes)) (h4:d.zero.all (·.oneCell')=true) (h5:d.zero.length=d.size):aQ3 P t d:=by
 constructor
 ·cases hi:P.info? t with
  |none=>rw [hi] at h3;cases h3
  |some i=>
   rw [hi] at h3;simp only [a6G,lb5,Prod.mk.injEq] at h3;cases hz:i.zero with
   |none=>rw [hz] at h3;cases h3.1
   |some z=>
    rw [hz] at h3;simp only [a6G,lb5] at h3;exact ⟨i,rfl,h3.2.1,h3.2.2,z,hz,h3.1,fun v hv=>lbv.1 h4 v hv,h5⟩
 ·unfold bE2 at h1;cases hu:P.underlying t with
  |none=>rw [hu] at h1;cases h1
  |some u=>
   rw [hu] at h1;refine ⟨u,rfl,?_⟩;rw [h2];cases u with
   |struct fs=>
    simp only at h1;cases hb:(fs.toList.all fun f=>(P.info? f.type).isSome) with
    |false=>rw [hb] at h1;cases h1
    |true=>
     rw [hb] at h1;simp only [cond_true,lb5] at h1;rw [← h1];refine ⟨rfl,fs,rfl,?_,fun f hf=>lbv.1 hb f hf,aN3 _ hb⟩;simp
   |_=>simp only [lb5] at h1<;>rw [← h1]<;>exact ⟨rfl,by first|trivial|rfl⟩
def b5v (P:Program):Nat->List (Option TD)->Prop
 |_,[]=>True
 |t,none::r=>b5v P (t+1) r
 |t,some d::r=>aQ3 P t d/\b5v P (t+1) r
def ae7 {P:Program}:∀(l:List (Option TD)) (t0:Nat),b5v P t0 l->∀i d,l.getD i none=some d->aQ3 P (t0+i) d
 |[],_,_,i,d,h=>by simp at h
 |none::r,t0,hr,i,d,h=>by
  cases i with
  |zero=>simp at h
  |succ i=>have:=ae7 r (t0+1) hr i d (by simpa using h);rwa [show t0+1+i=t0+(i+1) by omega] at this
 |some e::r,t0,hr,i,d,h=>by
  cases i with
  |zero=>simp at h;subst h;exact hr.1
  |succ i=>have:=ae7 r (t0+1) hr.2 i d (by simpa using h);rwa [show t0+1+i=t0+(i+1) by omega] at this
def be6 {P:Program} {l:List (Option TD)} (hm:P.follows .mixedOrders=true) (h:b5v P 0 l):G7 P (fun t=>l.getD t none):=⟨hm,fun t d hd=>by
 have:=ae7 l 0 h t d hd;rwa [W7] at this⟩
end Go.Proofs.YtbcdidimaioapaaGreat
