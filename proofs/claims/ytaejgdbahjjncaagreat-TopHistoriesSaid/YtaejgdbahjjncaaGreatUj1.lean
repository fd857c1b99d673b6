/- Part 1. -/
import Derived.WalkKit
import Derived.WalkSpells
import Derived.Lib.Hide
import Derived.Laws.OwnMore
import Derived.Deep.Draws
import Derived.Laws.Small
import Derived.Laws.StructEq
import Derived.Laws.Pointers
import Derived.Great.BuildSlice
import Derived.Laws.MakeOwn
import Derived.Laws.Tables
import Derived.Deep.Upon
namespace Go.Proofs.YtaejgdbahjjncaaGreat
set_option linter.unusedVariables false
set_option linter.unusedSimpArgs false
section
abbrev lba:=@List.getElem?_map
abbrev lbb:=@List.getElem?_append_left
abbrev lbc:=@List.getElem?_append_right
abbrev lbd:=@List.getElem?_eq_none
abbrev lbe:=@List.getElem?_eq_some_iff
abbrev lbf:=@List.getElem?_eq_getElem
abbrev lbg:=@List.getElem?_set
abbrev lbh:=@List.getElem?_range
abbrev lbi:=@List.getElem?_take
abbrev lbj:=@List.getElem?_drop
abbrev lbk:=@List.getElem?_replicate
abbrev lbl:=@List.getD_eq_getElem?_getD
abbrev lbm:=@List.mem_of_getElem?
abbrev lbn:=@List.take_of_length_le
abbrev lbo:=@List.drop_of_length_le
abbrev lbp:=@List.map_congr_left
abbrev lbq:=@List.length_append
abbrev lbr:=@List.length_map
abbrev lbs:=@List.length_take
abbrev lbt:=@List.length_filter_le
abbrev lbu:=@List.length_cons
abbrev lbv:=@List.all_eq_true
abbrev lbw:=@List.any_eq_true
abbrev lbx:=@List.mem_map
abbrev lby:=@List.mem_filter
abbrev lbz:=@List.mem_append
abbrev lbA:=@List.mem_cons
abbrev lbB:=@List.mem_range
abbrev lbC:=@List.map_append
abbrev lbD:=@List.append_assoc
abbrev lbE:=@List.getElem_mem
abbrev lbF:=@List.eq_nil_of_length_eq_zero
abbrev lbG:=@List.take_add_one
abbrev lbH:=@decide_eq_true
abbrev lbI:=@decide_eq_true_eq
abbrev lbJ:=@decide_eq_false
abbrev lbK:=@decide_eq_false_iff_not
abbrev lbL:=@of_decide_eq_true
abbrev lbM:=@Bool.and_eq_true
abbrev lbN:=@Bool.or_eq_true
abbrev lbO:=@Bool.and_eq_false_iff
abbrev lbP:=@Bool.not_eq_true
abbrev lbQ:=@Nat.le_refl
abbrev lbR:=@Nat.le_trans
abbrev lbS:=@Nat.mul_le_mul
abbrev lbT:=@Nat.mul_le_mul_right
abbrev lbU:=@Nat.succ_mul
abbrev lbV:=@Int.mul_le_mul_of_nonneg_left
abbrev lbW:=@Int.mul_le_mul_of_nonneg_right
abbrev lbX:=@Int.toNat_natCast
abbrev lbY:=@Int.toNat_of_nonneg
abbrev lbZ:=@Int.mul_nonneg
abbrev lb0:=@Rat.mul_nonneg
abbrev lb1:=@Rat.le_refl
abbrev lb2:=@Rat.not_lt
abbrev lb3:=@Option.some.injEq
abbrev lb4:=@Array.getElem?_eq_some_iff
abbrev lb5:=@List.getD_cons_zero
abbrev lb6:=@List.getD_cons_succ
abbrev lb7:=@List.take_append_drop
abbrev lb8:=@List.filter_append
abbrev lb9:=@List.not_mem_nil
abbrev aL1:=@Classical.byContradiction
end
section
open Go.RowKit
inductive SK where
 |any|full|nil|nul|non
inductive T where
 |atm (v:Value)
 |sl (size:Nat) (k:SK) (rows:List (List T))
 |ptr (cells:List T)
 |fn (f:Fn) (caps:List T)
inductive C where
 |t (x:T)
 |ptr (id row off:Nat)
 |own (id lo len:Nat) (app:Bool)
 |fn (f:Fn) (caps:List C)
inductive S where
 |junk
 |c (x:C)
 |agg (cs:List C)
 |tup (ss:List S)
abbrev J:S:=.junk
inductive BM where
 |live|froz|old|dead
def BM.gone:BM->Prop
 |.dead=>True
 |.old=>True
 |_=>False
structure Blk where
 mode:BM
 elem:TypeId
 size:Nat
 rows:List (List C)
 box:Bool
 app:Bool:=false
inductive Loc where
 |nil
 |blk (b cap size:Nat)
abbrev Hp:=List Blk
abbrev Io:=Nat->Option Loc
abbrev Ms:=Nat->Prop
def at2 {α:Type} (rows:List (List α)) (i j:Nat):Option α:=(rows[i]?).bind (·[j]?)
inductive RT (w:World) (M:Ms):T->Value->Prop
 |atm {v:Value} (h:v.oneCell'=true):RT w M (.atm v) v
 |sl {size:Nat} {k:SK} {rows:List (List T)} {b off cap:Nat} {A:Option Addr} (f:Nat->Nat->Value)
   (hrow:∀r ∈ rows,r.length=size) (hcap:rows.length<=cap) (hmax:cap<=maxLen) (hk:k=.full->cap=rows.length)
   (hn:k=.nil->rows=[]∧A=none∧cap=0) (hA:rows≠[]->A=some ⟨b,off,none⟩)
   (hc:∀i j c,at2 rows i j=some c->w.cell? ⟨b,off+(i*size+j),none⟩=some (f i j)∧¬M b)
   (hr:∀i j c,at2 rows i j=some c->RT w M c (f i j)) (hx:(k=.nul->rows=[]∧A=none)∧(k=.non->A≠none):=by exact ⟨(fun h=>nomatch h),(fun h=>nomatch h)⟩):RT w M (.sl size k rows) (.slice A rows.length cap)
 |ptr {cells:List T} {b off:Nat} (f:Nat->Value)
   (hc:∀j c,cells[j]? =some c->w.cell? ⟨b,off+j,none⟩=some (f j)∧¬M b)
   (hr:∀j c,cells[j]? =some c->RT w M c (f j)):RT w M (.ptr cells) (.pointer (some ⟨b,off,none⟩))
 |fn {f:Fn} {caps:List T} (vs:List Value) (hl:vs.length=caps.length)
   (hr:∀j c,caps[j]? =some c->RT w M c (vs.getD j undef)):RT w M (.fn f caps) (.func f #[] vs.toArray)
inductive RC (w:World) (ι:Io) (M:Ms):C->Value->Prop
 |t {x:T} {v:Value} (h:RT w M x v):RC w ι M (.t x) v
 |ptr {id r o b cap size:Nat} (h:ι id=some (.blk b cap size)):RC w ι M (.ptr id r o) (.pointer (some ⟨b,r*size+o,none⟩))
 |own {id lo len:Nat} {app:Bool} {b cap size:Nat} {A:Option Addr} {cap':Nat} (h:ι id=some (.blk b cap size)) (h1:lo+len<=cap)
   (h2:0<len->A=some ⟨b,lo*size,none⟩) (h3:len<=cap') (h4:cap'<=maxLen)
   (h5:app=true->lo=0∧A=some ⟨b,0,none⟩∧cap'=cap):RC w ι M (.own id lo len app) (.slice A len cap')
 |nil {id:Nat} {app:Bool} {A:Option Addr} (h:ι id=some .nil):RC w ι M (.own id 0 0 app) (.slice A 0 0)
 |fn {f:Fn} {caps:List C} (vs:List Value) (hl:vs.length=caps.length)
   (hr:∀j c,caps[j]? =some c->RC w ι M c (vs.getD j undef)):RC w ι M (.fn f caps) (.func f #[] vs.toArray)
inductive RS (w:World) (ι:Io) (M:Ms):S->Value->Prop
 |junk {v:Value}:RS w ι M .junk v
 |c {x:C} {v:Value} (h:RC w ι M x v):RS w ι M (.c x) v
 |agg {cs:List C} (vs:List Value) (hl:vs.length=cs.length)
   (hr:∀j c,cs[j]? =some c->RC w ι M c (vs.getD j undef)):RS w ι M (.agg cs) (.agg vs.toArray)
 |tup {ss:List S} (vs:List Value) (hl:vs.length=ss.length)
   (hr:∀j s,ss[j]? =some s->RS w ι M s (vs.getD j undef)):RS w ι M (.tup ss) (.tuple vs.toArray)
theorem RT.one {w:World} {M:Ms} {x:T} {v:Value} (h:RT w M x v):v.oneCell'=true:=by
 cases h<;>first|assumption|rfl
theorem RC.one {w:World} {ι:Io} {M:Ms} {x:C} {v:Value} (h:RC w ι M x v):v.oneCell'=true:=by
 cases h<;>first|exact RT.one ‹_›|rfl
def G4 (w:World) (ι:Io) (M:Ms) (k:Blk):Loc->Prop
 |.nil=>k.rows=[]
 |.blk b cap size=>k.size=size∧0<size∧k.rows.length<=cap∧cap<=maxLen∧(∀ r ∈ k.rows,r.length=size)∧
   ∃cur:Array Value,w.heap[b]? =some (.cells cur k.elem (0,0))∧cur.size=cap*size∧
    ∀i j c,at2 k.rows i j=some c->∃u,cur[i*size+j]? =some u∧RC w ι M c u
structure j8 (w:World) (ι:Io) (M:Ms) (H:Hp):Prop where
 blk:∀(id:Nat) (k:Blk),H[id]? =some k->k.mode≠.dead->∀l,ι id=some l->G4 w ι M k l
 liv:∀(id:Nat) (k:Blk),H[id]? =some k->k.mode=.live->∀b cap size,ι id=some (.blk b cap size)->M b
 fro:∀(id:Nat) (k:Blk),H[id]? =some k->k.mode=.froz->∀b cap size,ι id=some (.blk b cap size)->¬M b
 inj:∀(id id':Nat) (k k':Blk),H[id]? =some k->H[id']? =some k'->k.mode=.live->k'.mode=.live->
  ∀b cap size cap' size',ι id=some (.blk b cap size)->ι id'=some (.blk b cap' size')->id=id'
 old:∀(id id':Nat) (k k':Blk),H[id]? =some k->H[id']? =some k'->k.mode=.old->k'.mode=.live->
  ∀b cap size cap' size',ι id=some (.blk b cap size)->ι id'=some (.blk b cap' size')->k'.app=true∧size=size'∧k.rows.length<=k'.rows.length
def a24 (ι:Io) (H:Hp) (b:Nat):Prop:=∃id k cap size,H[id]? =some k∧k.mode=.live∧ι id=some (.blk b cap size)
def MB (w:World) (M:Ms):Prop:=∀b,M b->b<w.heap.size
def a0f (ι:Io) (n:Nat):Prop:=∀id,n<=id->ι id=none
structure a3R (w:World) (ι:Io) (M:Ms) (H:Hp) (w':World) (ι':Io) (M':Ms) (H':Hp):Prop where
 os:w'.os=w.os
 tape:w'.tape=w.tape
 output:w'.output=w.output
 size:w.heap.size<=w'.heap.size
 keep:∀b,b<w.heap.size->¬a24 ι H b->w'.heap[b]? =w.heap[b]?
 same:∀id,id<H.length->ι' id=ι id
 mnew:∀b,M' b->M b∨w.heap.size<=b
 mold:∀b,M b->M' b∨a24 ι H b
 live:∀b,a24 ι' H' b->a24 ι H b∨w.heap.size<=b
 len:H.length<=H'.length
theorem B8 {w:World} {b:Nat} {o:Obj} (h:w.heap[b]? =some o):b<w.heap.size:=(lb4.1 h).1
theorem a7L {w:World} {a:Addr} {u:Value} (h:w.cell? a=some u):a.block<w.heap.size:=World.block_lt_of_cell? w a h
theorem RT.keep {w w':World} {M M':Ms} (hk:∀b,b<w.heap.size->¬M b->w'.heap[b]? =w.heap[b]?) (hm:∀b,M' b->M b∨w.heap.size<=b)
 {x:T} {v:Value} (h:RT w M x v):RT w' M' x v:=by
 induction h with
 |atm h=>exact .atm h
 |sl f hrow hcap hmax hk1 hn hA hc hr hx ih=>
  refine .sl f hrow hcap hmax hk1 hn hA (fun i j c hc'=>?_) ih hx
  obtain ⟨h1,h2⟩:=hc i j c hc'
  have hlt:=a7L h1
  refine ⟨(World.cell?_of_block (hk _ hlt h2)).trans h1,fun hM=>?_⟩
  rcases hm _ hM with h3|h3
  ·exact h2 h3
  ·exact absurd h3 (by simpa using hlt)
 |ptr f hc hr ih=>
  refine .ptr f (fun j c hc'=>?_) ih
  obtain ⟨h1,h2⟩:=hc j c hc'
  have hlt:=a7L h1
  refine ⟨(World.cell?_of_block (hk _ hlt h2)).trans h1,fun hM=>?_⟩
  rcases hm _ hM with h3|h3
  ·exact h2 h3
  ·exact absurd h3 (by simpa using hlt)
 |fn vs hl hr ih=>exact .fn vs hl ih
theorem RC.keep {w w':World} {ι ι':Io} {M M':Ms} (hk:∀b,b<w.heap.size->¬M b->w'.heap[b]? =w.heap[b]?) (hm:∀b,M' b->M b∨w.heap.size<=b)
 (hi:∀id l,ι id=some l->ι' id=some l) {x:C} {v:Value} (h:RC w ι M x v):RC w' ι' M' x v:=by
 induction h with
 |t h=>exact .t (h.keep hk hm)
 |ptr h=>exact .ptr (hi _ _ h)
 |own h h1 h2 h3 h4 h5=>exact .own (hi _ _ h) h1 h2 h3 h4 h5
 |nil h=>exact .nil (hi _ _ h)
 |fn vs hl hr ih=>exact .fn vs hl ih
theorem RS.keep {w w':World} {ι ι':Io} {M M':Ms} (hk:∀b,b<w.heap.size->¬M b->w'.heap[b]? =w.heap[b]?) (hm:∀b,M' b->M b∨w.heap.size<=b)
 (hi:∀id l,ι id=some l->ι' id=some l) {x:S} {v:Value} (h:RS w ι M x v):RS w' ι' M' x v:=by
 induction h with
 |junk=>exact .junk
 |c h=>exact .c (h.keep hk hm hi)
 |agg vs hl hr=>exact .agg vs hl fun j c hc=>(hr j c hc).keep hk hm hi
 |tup vs hl hr ih=>exact .tup vs hl ih
theorem a24.inM {w:World} {ι:Io} {M:Ms} {H:Hp} (h:j8 w ι M H) {b:Nat} (hl:a24 ι H b):M b:=by
 obtain ⟨id,k,cap,size,h1,h2,h3⟩:=hl
 exact h.liv id k h1 h2 b cap size h3
theorem a3R.refl (w:World) (ι:Io) (M:Ms) (H:Hp):a3R w ι M H w ι M H:=
 ⟨rfl,rfl,rfl,lbQ _,fun _ _ _=>rfl,fun _ _=>rfl,fun _ h=>.inl h,fun _ h=>.inl h,fun _ h=>.inl h,lbQ _⟩
theorem a3R.trans {w w1 w2:World} {ι ι1 ι2:Io} {M M1 M2:Ms} {H H1 H2:Hp} (hb:MB w M) (a:a3R w ι M H w1 ι1 M1 H1) (c:a3R w1 ι1 M1 H1 w2 ι2 M2 H2):
 a3R w ι M H w2 ι2 M2 H2 where
 os:=c.os.trans a.os
 tape:=c.tape.trans a.tape
 output:=c.output.trans a.output
 size:=lbR a.size c.size
 keep:=fun k hk hl=>(c.keep k (Nat.lt_of_lt_of_le hk a.size) fun h=>by rcases a.live k h with h|h;exact hl h;omega).trans (a.keep k hk hl)
 same:=fun id hid=>(c.same id (Nat.lt_of_lt_of_le hid a.len)).trans (a.same id hid)
 mnew:=fun k h=>by
  rcases c.mnew k h with h|h
  ·exact a.mnew k h
  ·exact .inr (lbR a.size h)
 mold:=fun k h=>by
  rcases a.mold k h with h1|h1
  ·rcases c.mold k h1 with h2|h2
   ·exact .inl h2
   ·rcases a.live k h2 with h3|h3
    ·exact .inr h3
    ·have:=hb k h;omega
  ·exact .inr h1
 live:=fun k h=>by
  rcases c.live k h with h|h
  ·exact a.live k h
  ·exact .inr (lbR a.size h)
 len:=lbR a.len c.len
structure Ext (w w':World):Prop where
 os:w'.os=w.os
 tape:w'.tape=w.tape
 output:w'.output=w.output
 size:w.heap.size<=w'.heap.size
 keep:∀b,b<w.heap.size->w'.heap[b]? =w.heap[b]?
theorem Ext.refl (w:World):Ext w w:=⟨rfl,rfl,rfl,lbQ _,fun _ _=>rfl⟩
def B7 (ι:Io) (n m:Nat) (new:Nat->Loc):Io:=fun id=>if n<=id∧id<n+m then some (new (id - n)) else ι id
def a5T (M:Ms) (m:Nat) (new:Nat->Loc):Ms:=fun b=>M b∨∃k,k<m∧∃cap size,new k=.blk b cap size
def I0 (w:World) (ι:Io) (M:Ms) (n:Nat) (s:S) (B:List Blk) (v:Value) (w':World):Prop:=
 ∃new:Nat->Loc,RS w' (B7 ι n B.length new) (a5T M B.length new) s v∧Ext w w'∧
  (∀ k blk,B[k]? =some blk->blk.mode=.live∧G4 w' (B7 ι n B.length new) (a5T M B.length new) blk (new k))∧
  (∀ k b cap size,k<B.length->new k=.blk b cap size->w.heap.size<=b∧b<w'.heap.size)∧
  (∀ k k' b cap size cap' size',k<B.length->k'<B.length->new k=.blk b cap size->new k'=.blk b cap' size'->k=k')
def F4 (w:World) (ι:Io) (M:Ms) (H:Hp) (s:S) (H':Hp) (v:Value) (w':World):Prop:=
 ∃(ι':Io) (M':Ms),RS w' ι' M' s v∧j8 w' ι' M' H'∧MB w' M'∧a0f ι' H'.length∧a3R w ι M H w' ι' M' H'
theorem a8r {ι:Io} {n m:Nat} {new:Nat->Loc} (hf:∀k,k<m->ι (n+k)=none) {id:Nat} {l:Loc} (h:ι id=some l):B7 ι n m new id=some l:=by
 unfold B7
 split
 ·rename_i hc
  have:=hf (id - n) (by omega)
  rw [show n+(id - n)=id by omega,h] at this
  cases this
 ·exact h
theorem I0.gpost {w:World} {ι:Io} {M:Ms} {H:Hp} {s:S} {B:List Blk} {v:Value} {w':World} (hH:j8 w ι M H) (hM:MB w M) (hF:a0f ι H.length)
 (h:I0 w ι M H.length s B v w'):F4 w ι M H s (H++B) v w':=by
 obtain ⟨new,h1,h2,h3,h4,h5⟩:=h
 have hnone:∀k,k<B.length->ι (H.length+k)=none:=fun k _=>hF _ (by omega)
 have hold:∀id,id<H.length->B7 ι H.length B.length new id=ι id:=fun id hid=>by
  unfold B7;rw [if_neg (by omega)]
 have hnew:∀k,k<B.length->B7 ι H.length B.length new (H.length+k)=some (new k):=fun k hk=>by
  unfold B7;rw [if_pos (by omega)];congr 2;omega
 have hdist:∀id b cap size,ι id=some (.blk b cap size)->∀k,H[id]? =some k->k.mode≠.dead->b<w.heap.size:=fun id b cap size hi k hk hd=>by
  have:=hH.blk id k hk hd _ hi
  obtain ⟨_,_,_,_,_,cur,hc,_⟩:=this
  exact B8 hc
 refine ⟨_,_,h1,⟨?_,?_,?_,?_,?_⟩,?_,?_,?_⟩
 ·intro id k hk hd l hl
  by_cases hid:id<H.length
  ·rw [lbb hid] at hk
   rw [hold id hid] at hl
   have hb:=hH.blk id k hk hd l hl
   cases l with
   |nil=>exact hb
   |blk b cap size=>
    obtain ⟨q1,q2,q3,q4,q5,cur,q6,q7,q8⟩:=hb
    refine ⟨q1,q2,q3,q4,q5,cur,(h2.keep b (B8 q6)).trans q6,q7,fun i j c hc=>?_⟩
    obtain ⟨u,hu,hr⟩:=q8 i j c hc
    refine ⟨u,hu,hr.keep (fun b hb _=>h2.keep b hb) (fun b hb=>?_) (fun id l=>a8r hnone)⟩
    rcases hb with hb|⟨k,hk,cap,size,he⟩
    ·exact .inl hb
    ·exact .inr (h4 k b cap size hk he).1
  ·rw [lbc (by omega)] at hk
   have hlt:=(lbe.1 hk).1
   have e:B7 ι H.length B.length new id=some (new (id - H.length)):=by
    unfold B7;rw [if_pos (by omega)]
   rw [e] at hl
   injection hl with hl
   subst hl
   exact (h3 _ _ hk).2
 ·intro id k hk hl b cap size hi
  by_cases hid:id<H.length
  ·rw [lbb hid] at hk
   rw [hold id hid] at hi
   exact .inl (hH.liv id k hk hl b cap size hi)
  ·rw [lbc (by omega)] at hk
   have hlt:=(lbe.1 hk).1
   have e:B7 ι H.length B.length new id=some (new (id - H.length)):=by
    unfold B7;rw [if_pos (by omega)]
   rw [e] at hi
   injection hi with hi
   exact .inr ⟨_,hlt,cap,size,hi⟩
 ·intro id k hk hl b cap size hi
  by_cases hid:id<H.length
  ·rw [lbb hid] at hk
   rw [hold id hid] at hi
   have hb:=hdist _ _ _ _ hi k hk (by rw [hl];intro h;cases h)
   rintro (hM'|⟨k',hk',cap',size',he⟩)
   ·exact hH.fro id k hk hl b cap size hi hM'
   ·have:=(h4 _ _ _ _ hk' he).1
    omega
  ·rw [lbc (by omega)] at hk
   have:=(h3 _ _ hk).1
   rw [hl] at this
   cases this
 ·intro id id' k k' hk hk' hl hl' b cap size cap' size' hi hi'
  by_cases hid:id<H.length<;>by_cases hid':id'<H.length
  ·rw [lbb hid] at hk
   rw [lbb hid'] at hk'
   rw [hold _ hid] at hi
   rw [hold _ hid'] at hi'
   exact hH.inj id id' k k' hk hk' hl hl' b cap size cap' size' hi hi'
  ·rw [lbb hid] at hk
   rw [hold _ hid] at hi
   have:=hdist _ _ _ _ hi k hk (by rw [hl];intro h;cases h)
   rw [lbc (by omega)] at hk'
   have hlt:=(lbe.1 hk').1
   have e:B7 ι H.length B.length new id'=some (new (id' - H.length)):=by
    unfold B7;rw [if_pos (by omega)]
   rw [e] at hi'
   injection hi' with hi'
   have:=(h4 _ _ _ _ hlt hi').1
   omega
  ·rw [lbb hid'] at hk'
   rw [hold _ hid'] at hi'
   have:=hdist _ _ _ _ hi' k' hk' (by rw [hl'];intro h;cases h)
   rw [lbc (by omega)] at hk
   have hlt:=(lbe.1 hk).1
   have e:B7 ι H.length B.length new id=some (new (id - H.length)):=by
    unfold B7;rw [if_pos (by omega)]
   rw [e] at hi
   injection hi with hi
   have:=(h4 _ _ _ _ hlt hi).1
   omega
  ·rw [lbc (by omega)] at hk hk'
   have hlt:=(lbe.1 hk).1
   have hlt':=(lbe.1 hk').1
   have e:B7 ι H.length B.length new id=some (new (id - H.length)):=by
    unfold B7;rw [if_pos (by omega)]
   have e':B7 ι H.length B.length new id'=some (new (id' - H.length)):=by
    unfold B7;rw [if_pos (by omega)]
   rw [e] at hi
   rw [e'] at hi'
   injection hi with hi
   injection hi' with hi'
   have:=h5 _ _ _ _ _ _ _ hlt hlt' hi hi'
   omega
 ·intro id id' k k' hk hk' hl hl' b cap size cap' size' hi hi'
  by_cases hid:id<H.length
  ·rw [lbb hid] at hk
   rw [hold _ hid] at hi
   by_cases hid':id'<H.length
   ·rw [lbb hid'] at hk'
    rw [hold _ hid'] at hi'
    exact hH.old id id' k k' hk hk' hl hl' b cap size cap' size' hi hi'
   ·have:=hdist _ _ _ _ hi k hk (by rw [hl];intro h;cases h)
    rw [lbc (by omega)] at hk'
    have hlt:=(lbe.1 hk').1
    have e:B7 ι H.length B.length new id'=some (new (id' - H.length)):=by
     unfold B7;rw [if_pos (by omega)]
    rw [e] at hi'
    injection hi' with hi'
    have:=(h4 _ _ _ _ hlt hi').1
    omega
  ·rw [lbc (by omega)] at hk
   have:=(h3 _ _ hk).1
   rw [hl] at this
   cases this
 ·intro b hb
  rcases hb with hb|⟨k,hk,cap,size,he⟩
  ·exact Nat.lt_of_lt_of_le (hM b hb) h2.size
  ·exact (h4 k b cap size hk he).2
 ·intro id hid
  rw [lbq] at hid
  unfold B7
  rw [if_neg (by omega)]
  exact hF id (by omega)
 ·refine ⟨h2.os,h2.tape,h2.output,h2.size,fun b hb _=>h2.keep b hb,fun id hid=>hold id hid,?_,fun b hb=>.inl (.inl hb),?_,by simp⟩
  ·intro b hb
   rcases hb with hb|⟨k,hk,cap,size,he⟩
   ·exact .inl hb
   ·exact .inr (h4 k b cap size hk he).1
  ·rintro b ⟨id,k,cap,size,hk,hl,hi⟩
   by_cases hid:id<H.length
   ·rw [lbb hid] at hk
    rw [hold _ hid] at hi
    exact .inl ⟨id,k,cap,size,hk,hl,hi⟩
   ·rw [lbc (by omega)] at hk
    have hlt:=(lbe.1 hk).1
    have e:B7 ι H.length B.length new id=some (new (id - H.length)):=by
     unfold B7;rw [if_pos (by omega)]
    rw [e] at hi
    injection hi with hi
    exact .inr (h4 _ _ _ _ hlt hi).1
def a8p (P : Program) (g : FuncId) : Prop := ∃ fn, P.funcs[g]? = some fn ∧ fn.body.isSome = true ∧ fn.name ≠ "runtime.NumGoroutine"
def Q6 (P:Program) (g:FuncId) (args:List S) (H:Hp) (s:S) (B:List Blk):Prop:=
 a8p P g∧∀(w:World) (ι:Io) (M:Ms) (vals:List Value),vals.length=args.length->(∀ j s,args[j]? =some s->RS w ι M s (vals.getD j undef))->j8 w ι M H->MB w M->
  (∀ k,k<B.length->ι (H.length+k)=none)->Calls P g vals.toArray w fun e w'=>∃v,e=.returned v∧I0 w ι M H.length s B v w'
def b7 (P:Program) (g:FuncId) (args:List S) (H:Hp) (s:S) (H':Hp):Prop:=
 a8p P g∧∀(w:World) (ι:Io) (M:Ms) (vals:List Value),vals.length=args.length->(∀ j s,args[j]? =some s->RS w ι M s (vals.getD j undef))->j8 w ι M H->MB w M->
  a0f ι H.length->Calls P g vals.toArray w fun e w'=>∃v,e=.returned v∧F4 w ι M H s H' v w'
end
section
open Go.RowKit
inductive TK where
 |bas
 |bool
 |int (k:IntKind)
 |slice (e:TypeId)
 |arr (n:Nat) (e:TypeId)
 |struct (fs:List (Nat × Nat × Bool))
structure TD where
 k:TK
 agg:Bool
 size:Nat
 bytes:Nat
 zero:List Value
abbrev Tab:=Nat->Option TD
abbrev Env:=List S
def E3 (v:Value):C:=
 match v with
 |.slice none 0 0=>.t (.sl 0 .nil [])
 |v=>.t (.atm v)
def aW1 (v:Value):S:=
 match v with
 |.agg cs=>cond (cs.toList.all (·.oneCell')) (.agg (cs.toList.map E3)) .junk
 |.tuple _=>.junk
 |.slice none 0 0=>.c (.t (.sl 0 .nil []))
 |v=>.c (.t (.atm v))
def H4 (env:Env):Operand->S
 |.tmp t=>env.getD t .junk
 |.const v=>aW1 v
 |.global _=>.junk
 |.func f=>.c (.t (.fn (.func f) []))
section
variable {α β:Type}
def aL8:Nat->List α->(List α->Prop)->Prop
 |0,_,k=>k []
 |_+1,[],_=>False
 |n+1,x::l,k=>aL8 n l fun r=>k (x::r)
def am2:Nat->List α->(List α->Prop)->Prop
 |0,l,k=>k l
 |_+1,[],_=>False
 |n+1,_::l,k=>am2 n l k
def a3e (n:Nat) (l:List α) (k:α->Prop):Prop:=
 List.rec (motive:=fun _=>Nat->Prop) (fun _=>False) (fun x _ ih n=>Nat.rec (motive:=fun _=>Prop) (k x) (fun n _=>ih n) n) l n
def a5E (n:Nat) (v:α) (l:List α) (k:List α->Prop):Prop:=
 List.rec (motive:=fun _=>Nat->(List α->Prop)->Prop) (fun _ k=>k []) (fun x r ih n k=>Nat.rec (motive:=fun _=>Prop) (k (v::r)) (fun n _=>ih n fun q=>k (x::q)) n) l n k
def a4f:Nat->List α->List α->(List α->Prop)->Prop
 |_,[],l,k=>k l
 |_,_::_,[],_=>False
 |0,x::xs,_::l,k=>a4f 0 xs l fun r=>k (x::r)
 |n+1,x::xs,y::l,k=>a4f n (x::xs) l fun r=>k (y::r)
def a9v (f:α->β):List α->(List β->Prop)->Prop
 |[],k=>k []
 |x::l,k=>a9v f l fun r=>k (f x::r)
def ad7 (l r:List α) (k:List α->Prop):Prop:=
 List.rec (motive:=fun _=>(List α->Prop)->Prop) (fun k=>k r) (fun x _ ih k=>ih fun q=>k (x::q)) l k
def a9s (l:List α) (n:Nat) (k:Nat->Prop):Prop:=
 List.rec (motive:=fun _=>Nat->Prop) (fun n=>k n) (fun _ _ ih n=>ih (n+1)) l n
end
def aV9:List C->Option (List T)
 |[]=>some []
 |.t x::r=>match aV9 r with
  |some xs=>some (x::xs)
  |none=>none
 |_::_=>none
def aF7:List (List C)->Option (List (List T))
 |[]=>some []
 |x::r=>match aV9 x,aF7 r with
  |some a,some b=>some (a::b)
  |_,_=>none
def a8 (k:IntKind) (n:Int):S:=.c (.t (.atm (.int k n)))
def f7 (b:Bool):S:=.c (.t (.atm (.bool b)))
def ag0 (s:S) (k:S->Prop):Prop:=
 match s with
 |.junk=>k .junk
 |.c x=>k (.c x)
 |.agg cs=>k (.agg cs)
 |.tup ss=>k (.tup ss)
structure a2i (b:Bool) (k:S->Prop):Prop where
 yes:b=true->k (f7 true)
 no:b=false->k (f7 false)
structure ak1 (p:Prop) [Decidable p] (k:S->Prop):Prop where
 yes:p->k (f7 true)
 no:¬p->k (f7 false)
def aJ8 (s:S) (k:S->Prop):Prop:=
 match s with
 |.junk=>k .junk
 |.c x=>match x with
  |.t y=>match y with
   |.atm v=>match v with
    |.bool b=>a2i b k
    |v=>k (.c (.t (.atm v)))
   |y=>k (.c (.t y))
  |x=>k (.c x)
 |.agg cs=>k (.agg cs)
 |.tup ss=>k (.tup ss)
def a2B (s:S) (k:List C->Prop):Prop:=
 match s with
 |.c x=>k [x]
 |.agg cs=>k cs
 |_=>False
def H7 (k:IntKind) (x n:Int):Prop:=n=k.wrap x
def b16 (d:TD) (row:List C) (o:Nat) (K:S->Prop):Prop:=
 am2 o row fun r=>cond d.agg (aL8 d.size r fun cs=>K (.agg cs)) (a3e 0 r fun c=>K (.c c))
def aG5 (d:TD) (row:List T) (K:S->Prop):Prop:=
 cond d.agg (aL8 d.size row fun cs=>a9v C.t cs fun cs=>K (.agg cs)) (a3e 0 row fun c=>K (.c (.t c)))
def b7z (b:Blk) (r:Nat) (k:List C->Prop):Prop:=
 match b.box with
 |true=>match b.rows,r with
  |[row],0=>k row
  |_,_=>False
 |false=>∃row,b.rows[r]? =some row∧k row
def a1O (b:Blk) (k:Prop):Prop:=match b.mode with|.dead=>False|_=>k
def a4c (b:Blk) (k:Prop):Prop:=match b.mode,b.app with|.live,false=>k|_,_=>False
def ah4 (b:Blk) (k k':Prop):Prop:=match b.mode with|.live=>cond b.app k k'|_=>False
structure a9u (a b c:Prop):Prop where
 out:a∨b∨c
theorem a9u.data {a b c:Prop} (h:a):a9u a b c:=⟨.inl h⟩
theorem a9u.own {a b c:Prop} (h:b):a9u a b c:=⟨.inr (.inl h)⟩
theorem a9u.weak {a b c:Prop} (h:c):a9u a b c:=⟨.inr (.inr h)⟩
structure ah6 (a b:Prop):Prop where
 out:a∨b
theorem ah6.data {a b:Prop} (h:a):ah6 a b:=⟨.inl h⟩
theorem ah6.own {a b:Prop} (h:b):ah6 a b:=⟨.inr h⟩
def ap8 (τ:Tab) (ev:Operand->S) (H:Hp) (t:TypeId) (x:Operand) (K:S->Prop):Prop:=
 match τ t with
 |none=>False
 |some d=>match ev x with
  |.c (.ptr id r o)=>a3e id H fun b=>a1O b (b7z b r fun row=>b16 d row o K)
  |.c (.t (.ptr cells))=>aG5 d cells K
  |_=>False
def q9 (b:Blk) (rows:List (List C)):Blk:=⟨b.mode,b.elem,b.size,rows,b.box,b.app⟩
def aA5 (τ:Tab) (ev:Operand->S) (H:Hp) (t:TypeId) (x v:Operand) (K:Hp->Prop):Prop:=
 match τ t with
 |none=>False
 |some d=>match ev x with
  |.c (.ptr id r o)=>a3e id H fun b=>a4c b <| a2B (ev v) fun cs=>cond (Nat.beq cs.length d.size)
    (b7z b r fun row=>a4f o cs row fun row'=>
      match b.box with
      |true=>a5E id (q9 b [row']) H K
      |false=>a5E id (q9 b (b.rows.set r row')) H K) False
  |_=>False
def ac9 (τ:Tab) (s:TypeId) (f:Nat) (k:Nat->Prop):Prop:=
 match τ s with
 |some ⟨.struct fs,_,_,_,_⟩=>match fs[f]? with
  |some (off,size,_)=>cond (Nat.beq size 0) False (k off)
  |none=>False
 |_=>False
def a6F (τ:Tab) (ev:Operand->S) (s:TypeId) (x:Operand) (f:Nat) (K:S->Prop):Prop:=
 ac9 τ s f fun off=>match ev x with
  |.c (.ptr id r o)=>K (.c (.ptr id r (o+off)))
  |.c (.t (.ptr cells))=>am2 off cells fun cs=>K (.c (.t (.ptr cs)))
  |_=>False
def a4d (τ:Tab) (e:TypeId) (k:Nat->Prop):Prop:=match τ e with|some d=>k d.size|none=>False
def a3q (τ:Tab) (ev:Operand->S) (H:Hp) (t:TypeId) (x i:Operand) (K:S->Prop):Prop:=
 match ev i with
 |.c (.t (.atm (.int _ n)))=>match τ t with
  |some ⟨.slice e,_,_,_,_⟩=>match ev x with
   |.c (.t (.sl size k rows))=>a4d τ e fun s=>cond (Nat.beq s size) (∃ row,0<=n∧rows[n.toNat]? =some row∧K (.c (.t (.ptr row)))) False
   |.c (.own id lo len app)=>a4d τ e fun s=>a3e id H fun b=>a1O b (cond (Nat.beq s b.size) ((0<=n∧n<(len:Int))∧K (.c (.ptr id (lo+n.toNat) 0))) False)
   |_=>False
  |some ⟨.arr m e,_,_,_,_⟩=>a4d τ e fun s=>match ev x with
   |.c (.ptr id r o)=>(0<=n∧n<(m:Int))∧K (.c (.ptr id r (o+n.toNat*s)))
   |.c (.t (.ptr cells))=>(0<=n∧n<(m:Int))∧am2 (n.toNat*s) cells fun cs=>K (.c (.t (.ptr cs)))
   |_=>False
  |_=>False
 |_=>False
def O3 (ev:Operand->S) (x:Option Operand) (dflt:Int) (k:Int->Prop):Prop:=
 match x with
 |none=>k dflt
 |some x=>match ev x with
  |.c (.t (.atm (.int _ n)))=>k n
  |_=>False
def X2 (k:SK) (hi max:Option Operand):SK:=
 match k,hi,max with
 |.full,none,none=>.full
 |_,_,_=>.any
def a4J (τ:Tab) (ev:Operand->S) (H:Hp) (t:TypeId) (x:Operand) (lo hi max:Option Operand) (K:S->Prop):Prop:=
 match τ t with
 |some ⟨.slice e,_,_,_,_⟩=>match max with
  |none=>match ev x with
   |.c (.t (.sl 0 .nil _))=>O3 ev lo 0 fun l=>O3 ev hi 0 fun h=>a4d τ e fun s=>(0<=l∧l<=h∧h<=0)∧K (.c (.t (.sl 0 .nil [])))
   |.c (.t (.sl size k rows))=>O3 ev lo 0 fun l=>O3 ev hi rows.length fun h=>a4d τ e fun s=>
     cond (Nat.beq s size) ((0<=l∧l<=h∧h<=rows.length)∧K (.c (.t (.sl size (X2 k hi max) ((rows.take h.toNat).drop l.toNat))))) False
   |.c (.own id l0 len app)=>O3 ev lo 0 fun l=>O3 ev hi len fun h=>
     a4d τ e fun s=>a3e id H fun b=>a1O b <| cond (Nat.beq s b.size) (((0<=l∧l<=h∧h<=(len:Int))∧K (.c (.own id (l0+l.toNat) (h - l).toNat (app && lo.isNone))))) False
   |_=>False
  |some y=>match ev y with
   |.c (.t (.atm (.int _ m)))=>match ev x with
    |.c (.t (.sl size k rows))=>O3 ev lo 0 fun l=>O3 ev hi 0 fun h=>a4d τ e fun s=>cond hi.isSome
      (cond (Nat.beq s size) ((0<=l∧l<=h∧m=h∧h<=rows.length)∧K (.c (.t (.sl size .full ((rows.take h.toNat).drop l.toNat))))) False) False
    |.c (.own id l0 len app)=>O3 ev lo 0 fun l=>O3 ev hi 0 fun h=>cond hi.isSome
      (a4d τ e fun s=>a3e id H fun b=>a1O b <| cond (Nat.beq s b.size) (((0<=l∧l<=h∧m=h∧h<=(len:Int))∧K (.c (.own id (l0+l.toNat) (h - l).toNat false)))) False) False
    |_=>False
   |_=>False
 |_=>False
def b0l (k:IntKind) (a b n:Int):Prop:=n=a.fdiv (2 ^ min b.toNat k.bits)
def a4R (op:BinOp) (k:IntKind) (a b n:Int):Prop:=
 match op with
 |.and=>n=k.wrap (BitVec.ofInt k.bits a &&& BitVec.ofInt k.bits b).toNat
 |.or=>n=k.wrap (BitVec.ofInt k.bits a ||| BitVec.ofInt k.bits b).toNat
 |.xor=>n=k.wrap (BitVec.ofInt k.bits a ^^^ BitVec.ofInt k.bits b).toNat
 |.andNot=>n=k.wrap (BitVec.ofInt k.bits a &&& ~~~ BitVec.ofInt k.bits b).toNat
 |_=>False
def b9r (op:BinOp) (k k':IntKind) (a b:Int) (K:S->Prop):Prop:=
 match op with
 |.shl=>0<=b∧∃n,H7 k (a*2 ^ min b.toNat k.bits) n∧K (a8 k n)
 |.shr=>0<=b∧∃n,b0l k a b n∧K (a8 k n)
 |op=>cond (decide (k=k')) (match op with
  |.add=>∃n,H7 k (a+b) n∧K (a8 k n)
  |.sub=>∃n,H7 k (a - b) n∧K (a8 k n)
  |.mul=>∃n,H7 k (a*b) n∧K (a8 k n)
  |.quo=>b≠0∧∃n,H7 k (a.tdiv b) n∧K (a8 k n)
  |.rem=>b≠0∧K (a8 k (a.tmod b))
  |.eql=>ak1 (a=b) K
  |.neq=>ak1 (a≠b) K
  |.lss=>ak1 (a<b) K
  |.leq=>ak1 (a<=b) K
  |.gtr=>ak1 (a > b) K
  |.geq=>ak1 (a≥b) K
  |op=>∃n,a4R op k a b n∧K (a8 k n)) False
def aA4 (x:C) (k:Bool->Prop):Prop:=
 match x with
 |.t (.sl _ .nil _)=>k true
 |.t (.sl _ .nul _)=>k true
 |.t (.sl _ .non _)=>k false
 |.t (.sl _ _ rows)=>0<rows.length∧k false
 |.own _ _ len _=>0<len∧k false
 |_=>False
def EqS (P:Program) (t:TypeId) (n:Nat):Prop:=P.eqGuardType P.depth t=false∧∀(ul bs:List Int) (w:World),ul.length=n->bs.length=n->
 (Op.equalIn 10000 t (.agg (ul.map (Value.int .i64)).toArray) (.agg (bs.map (Value.int .i64)).toArray)).run P w=.ok (ul == bs) w
def aN5:List C->(List Int->Prop)->Prop
 |[],k=>k []
 |.t (.atm (.int .i64 a))::cs,k=>aN5 cs fun l=>k (a::l)
 |_,_=>False
def bd7 (P:Program) (op:BinOp) (t:TypeId) (cs ds:List C) (K:S->Prop):Prop:=
 aN5 cs fun ul=>aN5 ds fun bs=>(EqS P t ul.length∧bs.length=ul.length)∧match op with
  |.eql=>a2i (ul == bs) K
  |.neq=>a2i (!(ul == bs)) K
  |_=>False
def b8I (P:Program) (τ:Tab) (op:BinOp) (t:TypeId) (x y:S) (K:S->Prop):Prop:=
 match x,y with
 |.c (.t (.atm (.int k a))),.c (.t (.atm (.int k' b)))=>b9r op k k' a b K
 |.c (.t (.atm (.bool a))),.c (.t (.atm (.bool b)))=>match τ t with
  |some ⟨.bool,_,_,_,_⟩=>match op with
   |.eql=>a2i (a == b) K
   |.neq=>a2i (!(a == b)) K
   |_=>False
  |_=>False
 |.c x,.c (.t (.sl _ .nil []))=>match τ t with
  |some ⟨.slice _,_,_,_,_⟩=>match op with
   |.eql=>aA4 x fun b=>K (f7 b)
   |.neq=>aA4 x fun b=>K (f7 (!b))
   |_=>False
  |_=>False
 |.c (.t (.ptr _)),.c (.t (.atm (.pointer none)))=>P.underlying t=some (.pointer (P.pointee t))∧match op with
  |.eql=>K (f7 false)
  |.neq=>K (f7 true)
  |_=>False
 |.agg cs,.agg ds=>bd7 P op t cs ds K
 |_,_=>False
def aun (op:UnOp) (x:S) (K:S->Prop):Prop:=
 match op,x with
 |.neg,.c (.t (.atm (.int k a)))=>∃n,H7 k (0 - a) n∧K (a8 k n)
 |.not,.c (.t (.atm (.bool b)))=>K (f7 (!b))
 |_,_=>False
def b4O (τ:Tab) (src dst:TypeId) (x:S) (K:S->Prop):Prop:=
 match x,τ src,τ dst with
 |.c (.t (.atm (.int _ a))),some _,some ⟨.int k,_,_,_,_⟩=>∃n,H7 k a n∧K (a8 k n)
 |_,_,_=>False
def J8 (e:TypeId) (size:Nat) (rows:List (List C)) (box:Bool):Blk:=⟨.live,e,size,rows,box,false⟩
def b9t (e:TypeId) (size:Nat) (rows:List (List C)):Blk:=⟨.live,e,size,rows,false,true⟩
def a42 (b:Blk):Blk:=⟨.old,b.elem,b.size,b.rows,b.box,true⟩
def b0c (τ:Tab) (ev:Operand->S) (n:Nat) (t:TypeId) (l c:Operand) (K:S->List Blk->Prop):Prop:=
 match ev l,ev c,τ t with
 |.c (.t (.atm (.int _ a))),.c (.t (.atm (.int _ b))),some ⟨.slice e,_,_,_,_⟩=>match τ e with
  |some d=>cond (Nat.beq d.size 0) False ((0<=a∧a<=b∧b*(d.bytes+1)<=140737488355328)∧
    a9v E3 d.zero fun z=>K (.c (.own n 0 a.toNat true)) [J8 e d.size (List.replicate a.toNat z) false])
  |none=>False
 |_,_,_=>False
def a9E (fs:List (Nat × Nat × Bool)) (i:Nat) (cs:List C) (k:Nat->Prop):Prop:=
 match fs[i]? with
 |some (off,size,_)=>cond (Nat.beq cs.length size && Nat.blt 0 size) (k off) False
 |none=>False
def aL9 (fs:List (Nat × Nat × Bool)) (cells:List C):List (Nat × S)->(List C->Prop)->Prop
 |[],k=>k cells
 |(i,s)::rest,k=>a2B s fun cs=>a9E fs i cs fun off=>a4f off cs cells fun cells'=>aL9 fs cells' rest k
def aM5 (size:Nat) (cells:List C):List (Nat × S)->(List C->Prop)->Prop
 |[],k=>k cells
 |(i,s)::rest,k=>a2B s fun cs=>cond (Nat.beq cs.length size && Nat.blt 0 size) (a4f (i*size) cs cells fun cells'=>aM5 size cells' rest k) False
def ax2 (τ:Tab) (ev:Operand->S) (t:TypeId) (parts:List (Nat × Operand)) (K:S->Prop):Prop:=
 match τ t with
 |some ⟨.struct fs,_,_,_,z⟩=>a9v E3 z fun z=>aL9 fs z (parts.map fun p=>(p.1,ev p.2)) fun cs=>K (.agg cs)
 |some ⟨.arr _ e,_,_,_,z⟩=>a4d τ e fun s=>a9v E3 z fun z=>aM5 s z (parts.map fun p=>(p.1,ev p.2)) fun cs=>K (.agg cs)
 |_=>False
def aG1 (size:Nat) (rows:List (List C)):List (Nat × S)->(List (List C)->Prop)->Prop
 |[],k=>k rows
 |(i,s)::rest,k=>a2B s fun cs=>cond (Nat.beq cs.length size && Nat.blt i rows.length) (a5E i cs rows fun rows'=>aG1 size rows' rest k) False
def a2e (τ:Tab) (ev:Operand->S) (n:Nat) (t:TypeId) (len:Nat) (parts:List (Nat × Operand)) (K:S->List Blk->Prop):Prop:=
 match τ t with
 |some ⟨.slice e,_,_,_,_⟩=>match τ e with
  |some d=>cond (Nat.beq d.size 0 || Nat.ble 16777216 (len*d.size)) False (a9v E3 d.zero fun z=>aG1 d.size (List.replicate len z) (parts.map fun p=>(p.1,ev p.2)) fun rows=>
    match aF7 rows with
    |some rs=>a9u (K (.c (.t (.sl d.size .full rs))) []) (K (.c (.own n 0 len true)) [J8 e d.size rows false]) (K (.c (.t (.sl d.size .any rs))) [])
    |none=>K (.c (.own n 0 len true)) [J8 e d.size rows false])
  |none=>False
 |_=>False
def b7a (ev:Operand->S) (n:Nat) (t:TypeId) (x:Operand) (K:S->List Blk->Prop):Prop:=
 a2B (ev x) fun cs=>match cs with
  |[]=>False
  |c::r=>match aV9 (c::r) with
   |some ts=>ah6 (K (.c (.t (.ptr ts))) []) (K (.c (.ptr n 0 0)) [J8 t (c::r).length [c::r] true])
   |none=>K (.c (.ptr n 0 0)) [J8 t (c::r).length [c::r] true]
def aS8 (τ:Tab) (n:Nat) (t:TypeId) (K:S->List Blk->Prop):Prop:=
 match τ t with
 |some d=>a9v E3 d.zero fun z=>cond (Nat.beq z.length 0) False (K (.c (.ptr n 0 0)) [J8 t z.length [z] true])
 |none=>False
def b8A (τ:Tab) (t:TypeId) (x:S) (K:S->Prop):Prop:=
 match τ t with
 |some ⟨.slice _,_,_,_,_⟩=>match x with
  |.c (.t (.sl _ _ rows))=>K (a8 .i64 rows.length)
  |.c (.own _ _ len _)=>K (a8 .i64 len)
  |_=>False
 |some ⟨.arr n _,_,_,_,_⟩=>K (a8 .i64 n)
 |_=>False
def toC (rows:List (List T)):List (List C):=rows.map (·.map C.t)
def b7N (size:Nat) (H:Hp) (x:S) (k:List (List C)->Prop):Prop:=
 match x with
 |.c (.t (.sl s _ rows))=>(rows.length=0∨s=size)∧k (toC rows)
 |.c (.own id lo len _)=>a3e id H fun b=>a1O b (cond (Nat.beq b.size size) (lo+len<=b.rows.length∧k ((b.rows.drop lo).take len)) False)
 |_=>False
def a9z (τ:Tab) (ev:Operand->S) (H:Hp) (n:Nat) (t:TypeId) (s x:Operand) (Kq:S->List Blk->Prop) (Kg:S->Hp->Prop):Prop:=
 match τ t with
 |some ⟨.slice e,_,_,_,_⟩=>match τ e with
  |some d=>cond (Nat.beq d.size 0) False (b7N d.size H (ev x) fun xr=>
    match ev s with
    |.c (.t (.sl _ .nil _))=>xr.length*(d.bytes+1)<=140737488355328∧Kq (.c (.own n 0 xr.length true)) [J8 e d.size xr false]
    |.c (.t (.sl sz .full rows))=>((rows.length=0∨(0<xr.length∧sz=d.size))∧(rows.length+xr.length)*(d.bytes+1)<=140737488355328)∧
      Kq (.c (.own n 0 (rows.length+xr.length) true)) [J8 e d.size (toC rows++xr) false]
    |.c (.own id _ len true)=>a3e id H fun b=>cond (Nat.beq b.size d.size && Nat.beq b.elem e) (ah4 b
      ((len=b.rows.length∧(len+xr.length)*(d.bytes+1)<=140737488355328)∧
        a5E id (a42 b) H fun H1=>ad7 H1 [b9t e d.size (b.rows++xr)] fun H'=>Kg (.c (.own n 0 (len+xr.length) true)) H')
      ((len<=b.rows.length∧(len+xr.length)*(d.bytes+1)<=140737488355328)∧
        a5E id ⟨.dead,e,d.size,[],false,false⟩ H fun H1=>ad7 H1 [J8 e d.size (b.rows.take len++xr) false] fun H'=>Kg (.c (.own n 0 (len+xr.length) true)) H')) False
    |_=>False)
  |none=>False
 |_=>False
def b1l (τ:Tab) (ev:Operand->S) (n:Nat) (t t':TypeId) (s x:Operand) (Kq:S->List Blk->Prop):Prop:=
 match τ t,τ t' with
 |some ⟨.slice e,_,_,_,_⟩,some ⟨.int _,_,_,_,_⟩=>match τ e with
  |some d=>cond (Nat.beq d.size 0) False (match ev s,ev x with
    |.c (.t (.sl _ .nil _)),.c (.t (.atm (.int .i64 m)))=>(1<=m∧m.toNat*(d.bytes+1)<=140737488355328)∧
      a9v E3 d.zero fun z=>Kq (.c (.own n 0 m.toNat true)) [J8 e d.size (List.replicate m.toNat z) false]
    |_,_=>False)
  |none=>False
 |_,_=>False
def b9R (τ:Tab) (t:TypeId) (x:S) (K:S->Prop):Prop:=
 match τ t with
 |some ⟨.slice _,_,_,_,_⟩=>match x with
  |.c (.t (.sl _ .nil _))=>K (a8 .i64 0)
  |_=>False
 |_=>False
def E0 (lo len:Nat) (rows xr:List (List C)):List (List C):=rows.take lo++(xr.take len++rows.drop (lo+(xr.take len).length))
def b0E (τ:Tab) (ev:Operand->S) (H:Hp) (t:TypeId) (x s:Operand) (Kg:S->Hp->Prop):Prop:=
 match τ t with
 |some ⟨.slice e,_,_,_,_⟩=>match τ e with
  |some d=>cond (Nat.beq d.size 0) False (b7N d.size H (ev s) fun xr=>
    match ev x with
    |.c (.own id lo len _)=>a3e id H fun b=>a4c b (cond (Nat.beq b.size d.size && Nat.beq b.elem e) (lo+len<=b.rows.length∧
      a5E id (q9 b (E0 lo len b.rows xr)) H fun H'=>Kg (a8 .i64 (xr.take len).length) H') False)
    |_=>False)
  |none=>False
 |_=>False
def aB7 (τ:Tab) (ev:Operand->S) (H:Hp) (t:TypeId) (x:Operand) (Kg:S->Hp->Prop):Prop:=
 match τ t with
 |some ⟨.slice e,_,_,_,_⟩=>match τ e with
  |some d=>cond (Nat.beq d.size 0) False (a9v E3 d.zero fun z=>
    match ev x with
    |.c (.own id lo len _)=>a3e id H fun b=>a4c b (cond (Nat.beq b.size d.size && Nat.beq b.elem e) (lo+len<=b.rows.length∧
      a5E id (q9 b (E0 lo len b.rows (List.replicate len z))) H fun H'=>Kg .junk H') False)
    |_=>False)
  |none=>False
 |_=>False
def b4h:List S->Option (List C)
 |[]=>some []
 |.c x::r=>match b4h r with
  |some xs=>some (x::xs)
  |none=>none
 |_::_=>none
def b73 (max:Bool):List S->(S->Prop)->Prop
 |[.c (.t (.atm (.int k a))),.c (.t (.atm (.int _ b)))],K=>K (a8 k (cond max (if b > a then b else a) (if b<a then b else a)))
 |_,_=>False
def b5u (P:Program) (g:FuncId) (args:List S) (H:Hp) (Kq:S->List Blk->Prop) (Kg:S->Hp->Prop):Prop:=
 (∃ r B,Q6 P g args H r B∧aJ8 r fun r=>Kq r B)∨(∃ r H',b7 P g args H r H'∧aJ8 r fun r=>Kg r H')
def aV6 (s:S) (k:S->Prop):Prop:=match s with
 |.c (.ptr id r o)=>k (.c (.ptr id r o))
 |.c (.t (.ptr cs))=>k (.c (.t (.ptr cs)))
 |_=>False
def aop (P:Program) (τ:Tab) (ev:Operand->S) (H:Hp) (op:Op) (Kq:S->List Blk->Prop) (Kg:S->Hp->Prop):Prop:=
 match op with
 |.move x|.assign x=>ag0 (ev x) fun s=>Kq s []
 |.pick c a b=>match ev c with
  |.c (.t (.atm (.bool t)))=>cond t (ag0 (ev a) fun s=>Kq s []) (ag0 (ev b) fun s=>Kq s [])
  |_=>False
 |.load t x=>ap8 τ ev H t x fun s=>aJ8 s fun s=>Kq s []
 |.store t x v=>aA5 τ ev H t x v fun H'=>Kg .junk H'
 |.fieldAddr s x f=>a6F τ ev s x f fun s=>Kq s []
 |.indexAddr t x i=>a3q τ ev H t x i fun s=>Kq s []
 |.slice t x lo hi max=>a4J τ ev H t x lo hi max fun s=>Kq s []
 |.binOp op t x y _=>b8I P τ op t (ev x) (ev y) fun s=>Kq s []
 |.unOp op _ x=>aun op (ev x) fun s=>Kq s []
 |.convert src dst x=>b4O τ src dst (ev x) fun s=>Kq s []
 |.makeSlice t l c=>a9s H 0 fun n=>b0c τ ev n t l c Kq
 |.build t parts=>ax2 τ ev t parts.toList fun s=>Kq s []
 |.buildSlice t n parts=>a9s H 0 fun m=>a2e τ ev m t n parts.toList Kq
 |.box t x=>a9s H 0 fun n=>b7a ev n t x Kq
 |.alloc t=>a9s H 0 fun n=>aS8 τ n t Kq
 |.extract x i=>match ev x with
  |.tup ss=>a3e i ss fun s=>aJ8 s fun s=>Kq s []
  |_=>False
 |.makeFunc fn first caps=>match first.toList,b4h (caps.toList.map ev) with
  |[],some cs=>match aV9 cs with
   |some ts=>Kq (.c (.t (.fn fn ts))) []
   |none=>Kq (.c (.fn fn cs)) []
  |_,_=>False
 |.call c=>match c.callee with
  |.builtin .len=>match c.argTypes.toList,c.args.toList with
   |t::_,x::_=>b8A τ t (ev x) fun s=>Kq s []
   |_,_=>False
  |.builtin .append=>match c.argTypes.toList,c.args.toList with
   |[t,t'],[s,x]=>cond (Nat.beq t t') (a9s H 0 fun n=>a9z τ ev H n t s x Kq Kg) (a9s H 0 fun n=>b1l τ ev n t t' s x Kq)
   |_,_=>False
  |.builtin .cap=>match c.argTypes.toList,c.args.toList with
   |[t],[x]=>b9R τ t (ev x) fun s=>Kq s []
   |_,_=>False
  |.builtin .copy=>match c.argTypes.toList,c.args.toList with
   |[t,t'],[x,s]=>cond (Nat.beq t t') (b0E τ ev H t x s Kg) False
   |_,_=>False
  |.builtin .clear=>match c.argTypes.toList,c.args.toList with
   |[t],[x]=>aB7 τ ev H t x Kg
   |_,_=>False
  |.builtin .min=>b73 false (c.args.toList.map ev) fun s=>Kq s []
  |.builtin .max=>b73 true (c.args.toList.map ev) fun s=>Kq s []
  |.value f=>match ev f with
   |.c (.t (.fn (.func g) caps))=>b5u P g (c.args.toList.map ev++caps.map fun x=>.c (.t x)) H Kq Kg
   |.c (.fn (.func g) caps)=>b5u P g (c.args.toList.map ev++caps.map .c) H Kq Kg
   |_=>False
  |_=>False
 |.nilCheck x=>aV6 (ev x) fun s=>Kq s []
 |_=>False
end
section
open Go.RowKit
section
variable {α β:Type}
theorem aq7 {n:Nat} {l:List α} {k:List α->Prop} (h:aL8 n l k):n<=l.length∧k (l.take n):=by
 induction n generalizing l k with
 |zero=>exact ⟨Nat.zero_le _,by simpa [aL8] using h⟩
 |succ n ih=>cases l with
  |nil=>exact h.elim
  |cons x l=>obtain ⟨h1,h2⟩:=ih h;exact ⟨by simp;omega,by simpa using h2⟩
theorem a85 {n:Nat} {l:List α} {k:List α->Prop} (h:am2 n l k):n<=l.length∧k (l.drop n):=by
 induction n generalizing l with
 |zero=>cases l<;>exact ⟨Nat.zero_le _,by simpa [am2] using h⟩
 |succ n ih=>cases l with
  |nil=>exact h.elim
  |cons x l=>obtain ⟨h1,h2⟩:=ih h;exact ⟨by simp;omega,by simpa using h2⟩
theorem N1 {n:Nat} {l:List α} {k:α->Prop} (h:a3e n l k):∃x,l[n]? =some x∧k x:=by
 induction n generalizing l with
 |zero=>cases l with
  |nil=>exact h.elim
  |cons x l=>exact ⟨x,rfl,h⟩
 |succ n ih=>cases l with
  |nil=>exact h.elim
  |cons x l=>obtain ⟨y,h1,h2⟩:=ih h;exact ⟨y,by simpa using h1,h2⟩
theorem L4 {n:Nat} {v:α} {l:List α} {k:List α->Prop}:a5E n v l k↔k (l.set n v):=by
 induction l generalizing n k with
 |nil=>show k []↔_;simp
 |cons x l ih=>cases n with
  |zero=>exact Iff.rfl
  |succ n=>show a5E n v l (fun q=>k (x::q))↔_;rw [ih];rfl
theorem b2z {o:Nat} {xs l:List α} {k:List α->Prop} (h:a4f o xs l k):o+xs.length<=l.length∨xs=[]:=by
 induction l generalizing o xs k with
 |nil=>cases xs with
  |nil=>exact .inr rfl
  |cons x xs=>cases o<;>exact h.elim
 |cons y l ih=>cases xs with
  |nil=>exact .inr rfl
  |cons x xs=>
   refine .inl ?_
   cases o with
   |zero=>rcases ih h with h|h<;>(try subst h)<;>simp at *;omega
   |succ o=>rcases ih h with h|h<;>simp at *;omega
theorem a7J {o:Nat} {xs l:List α} {k:List α->Prop} (h:a4f o xs l k) (h0:xs≠[]):o+xs.length<=l.length∧k (l.take o++xs++l.drop (o+xs.length)):=by
 refine ⟨(b2z h).resolve_right h0,?_⟩
 induction l generalizing o xs k with
 |nil=>cases xs with
  |nil=>exact absurd rfl h0
  |cons x xs=>cases o<;>exact h.elim
 |cons y l ih=>cases xs with
  |nil=>exact absurd rfl h0
  |cons x xs=>
   cases o with
   |zero=>
    cases xs with
    |nil=>cases l<;>simpa [a4f] using h
    |cons x' xs=>simpa using ih (o:=0) h (by simp)
   |succ o=>simpa [show o+1+(xs.length+1)=(o+(xs.length+1))+1 by omega] using ih (o:=o) h (by simp)
theorem aN9 {o:Nat} {xs l:List α} {k:List α->Prop} (hl:o+xs.length<=l.length) (h0:xs≠[]) (h:k (l.take o++xs++l.drop (o+xs.length))):a4f o xs l k:=by
 induction l generalizing o xs k with
 |nil=>cases xs with
  |nil=>exact absurd rfl h0
  |cons x xs=>simp at hl
 |cons y l ih=>cases xs with
  |nil=>exact absurd rfl h0
  |cons x xs=>
   cases o with
   |zero=>
    cases xs with
    |nil=>cases l<;>simpa [a4f] using h
    |cons x' xs=>exact ih (o:=0) (by simp at hl ⊢;omega) (by simp) (by simpa using h)
   |succ o=>exact ih (o:=o) (by simp at hl ⊢;omega) (by simp) (by simpa [show o+1+(xs.length+1)=(o+(xs.length+1))+1 by omega] using h)
theorem a0I {f:α->β} {l:List α} {k:List β->Prop}:a9v f l k↔k (l.map f):=by
 induction l generalizing k with
 |nil=>simp [a9v]
 |cons x l ih=>simp [a9v,ih]
theorem a38 {a l:List α} {k:List α->Prop}:ad7 a l k↔k (a++l):=by
 induction a generalizing k with
 |nil=>exact Iff.rfl
 |cons x a ih=>show ad7 a l (fun q=>k (x::q))↔_;rw [ih];rfl
theorem a0K {l:List α} {n:Nat} {k:Nat->Prop}:a9s l n k↔k (n+l.length):=by
 induction l generalizing n with
 |nil=>exact Iff.rfl
 |cons x l ih=>show a9s l (n+1) k↔_;rw [ih,Nat.add_assoc,Nat.add_comm 1];rfl
end
theorem a1V {s:S} {k:S->Prop}:ag0 s k↔k s:=by cases s<;>rfl
theorem a2i.get {b:Bool} {k:S->Prop} (h:a2i b k):k (f7 b):=by cases b<;>first|exact h.yes rfl|exact h.no rfl
theorem ak1.get {p:Prop} [Decidable p] {k:S->Prop} (h:ak1 p k):k (f7 (decide p)):=by
 by_cases hp:p
 ·rw [lbH hp];exact h.yes hp
 ·rw [lbJ hp];exact h.no hp
theorem a4U {s:S} {k:S->Prop} (h:aJ8 s k):k s:=by
 cases s with
 |c x=>cases x with
  |t y=>cases y with
   |atm v=>cases v<;>first|exact a2i.get h|exact h
   |_=>exact h
  |_=>exact h
 |_=>exact h
theorem a1K {s:S} {k:List C->Prop} (h:a2B s k):∃cs,k cs∧((∃ c,s=.c c∧cs=[c])∨s=.agg cs):=by
 cases s with
 |c x=>exact ⟨_,h,.inl ⟨x,rfl,rfl⟩⟩
 |agg cs=>exact ⟨_,h,.inr rfl⟩
 |_=>exact h.elim
theorem C5 {b:Bool} {x:Prop} (h:cond b x False):b=true∧x:=by cases b with|true=>exact ⟨rfl,h⟩|false=>exact h.elim
theorem W7 {b:Bool} {x:Prop} (h:cond b False x):b=false∧x:=by cases b with|false=>exact ⟨rfl,h⟩|true=>exact h.elim
structure av0 (P:Program) (t:TypeId) (d:TD):Prop where
 info:∃i,P.info? t=some i∧i.size=d.size∧i.bytes=d.bytes∧∃z,i.zero=some z∧z.cells.toList=d.zero∧(∀ v ∈ d.zero,v.oneCell'=true)∧d.zero.length=d.size
 und:∃u,P.underlying t=some u∧match d.k with
  |.bas=>d.agg=false∧(match u with|.struct _|.array _ _=>False|_=>True)
  |.bool=>d.agg=false∧u=.bool
  |.int k=>d.agg=false∧u=.int k
  |.slice e=>d.agg=false∧u=.slice e
  |.arr n e=>d.agg=true∧u=.array n e
  |.struct fs=>d.agg=true∧∃fields,u=.struct fields∧fs.map (fun x=>(x.1,x.2.1))=fields.toList.map (fun f=>(f.offset,P.cellsOf f.type))∧(∀ f ∈ fields.toList,(P.info? f.type).isSome=true)∧
    fields.toList.mapM (fun f=>(P.info? f.type).map fun i=>(f.offset,i.size))=some (fs.map (fun x=>(x.1,x.2.1)))
structure C0 (P:Program) (τ:Tab):Prop where
 mixed:P.follows .mixedOrders=true
 td:∀t d,τ t=some d->av0 P t d
def b4y (P:Program) (o:Oper) (a:Act) (w:World) (R:Value->World->Prop):Prop:=
 ∀(K:Act->World->Prop) (Q:Exit->Act->World->Prop),(∀ v w',R v w'->K (a.put o.dst v) w')->o.wp P a w K Q
theorem p5 {P:Program} {o:Oper} {a:Act} {w w':World} {R:Value->World->Prop} {v:Value} (h:(execOp a.eval o).run P w=.ok (.value v) w') (hr:R v w'):b4y P o a w R:=by
 intro K Q hK
 unfold Oper.wp
 rw [h]
 exact hK _ _ hr
theorem an3 {P:Program} {o:Oper} {a:Act} {w w':World} {R:Value->World->Prop} (h:(execOp a.eval o).run P w=.ok .skip w') (hr:R undef w'):b4y P o a w R:=by
 intro K Q hK
 unfold Oper.wp
 rw [h]
 exact hK _ _ hr
theorem aj2 {P:Program} {o:Oper} {a:Act} {w w':World} {R:Value->World->Prop} {f:FuncId} {args:Array Value} (h:(execOp a.eval o).run P w=.ok (.enter f args) w')
 (hr:Calls P f args w' fun e w''=>∃v,e=.returned v∧R v w''):b4y P o a w R:=by
 intro K Q hK
 unfold Oper.wp
 rw [h]
 refine Calls.mono hr ?_
 rintro e w'' ⟨v,rfl,hv⟩
 exact hK _ _ hv
abbrev S4 (w:World) (ι:Io) (M:Ms) (ev:Operand->S) (a:Act):Prop:=∀x,RS w ι M (ev x) (a.eval x)
def QOp (P:Program) (o:Oper) (ev:Operand->S) (H:Hp) (s:S) (B:List Blk):Prop:=
 ∀(a:Act) (w:World) (ι:Io) (M:Ms),S4 w ι M ev a->j8 w ι M H->MB w M->(∀ k,k<B.length->ι (H.length+k)=none)->b4y P o a w (I0 w ι M H.length s B)
def GOp (P:Program) (o:Oper) (ev:Operand->S) (H:Hp) (s:S) (H':Hp):Prop:=
 ∀(a:Act) (w:World) (ι:Io) (M:Ms),S4 w ι M ev a->j8 w ι M H->MB w M->a0f ι H.length->b4y P o a w (F4 w ι M H s H')
theorem I0.of_none {w w':World} {ι:Io} {M:Ms} {n:Nat} {s:S} {v:Value} (h:RS w' ι M s v) (he:Ext w w'):I0 w ι M n s [] v w':=by
 refine ⟨fun _=>.nil,h.keep (fun _ _ _=>rfl) ?_ (fun id l hl=>?_),he,by simp,by simp,by simp⟩
 ·rintro b (hb|⟨k,hk,_⟩)
  ·exact .inl hb
  ·simp at hk
 ·unfold B7;rw [if_neg (by simp),hl]
theorem l9 {P:Program} {o:Oper} {ev:Operand->S} {H:Hp} {s:S}
 (h:∀(a:Act) (w:World) (ι:Io) (M:Ms),S4 w ι M ev a->j8 w ι M H->∃v,(execOp a.eval o).run P w=.ok (.value v) w∧RS w ι M s v):QOp P o ev H s []:=by
 intro a w ι M he hh hm _
 obtain ⟨v,h1,h2⟩:=h a w ι M he hh
 exact p5 h1 (I0.of_none h2 (Ext.refl w))
theorem RS.inv_c {w:World} {ι:Io} {M:Ms} {x:C} {v:Value} (h:RS w ι M (.c x) v):RC w ι M x v:=by cases h;assumption
theorem RS.inv_t {w:World} {ι:Io} {M:Ms} {x:T} {v:Value} (h:RS w ι M (.c (.t x)) v):RT w M x v:=by cases h with|c h=>cases h;assumption
theorem RS.inv_atm {w:World} {ι:Io} {M:Ms} {x v:Value} (h:RS w ι M (.c (.t (.atm x))) v):v=x:=by cases h.inv_t;rfl
theorem RS.mk_atm {w:World} {ι:Io} {M:Ms} {v:Value} (h:v.oneCell'=true):RS w ι M (.c (.t (.atm v))) v:=.c (.t (.atm h))
theorem RS.int {w:World} {ι:Io} {M:Ms} {k:IntKind} {n:Int}:RS w ι M (a8 k n) (.int k n):=.mk_atm rfl
theorem RS.bool {w:World} {ι:Io} {M:Ms} {b:Bool}:RS w ι M (f7 b) (.bool b):=.mk_atm rfl
theorem RC.const {w:World} {ι:Io} {M:Ms} {v:Value} (h:v.oneCell'=true):RC w ι M (E3 v) v:=by
 unfold E3
 split
 ·exact .t (.sl (b:=0) (off:=0) (fun _ _=>undef) (by simp) (by simp) (by unfold maxLen;omega) (by simp) (by simp) (by simp) (by simp [at2]) (by simp [at2]))
 ·exact .t (.atm h)
theorem RS.const {w:World} {ι:Io} {M:Ms} (v:Value):RS w ι M (aW1 v) v:=by
 unfold aW1
 split
 ·rename_i cs
  cases hb:cs.toList.all (·.oneCell') with
  |false=>exact .junk
  |true=>
   have:RS w ι M (.agg (cs.toList.map E3)) (.agg cs.toList.toArray):=.agg cs.toList (by simp) fun j c hc=>by
    rw [lba] at hc
    cases hj:cs.toList[j]? with
    |none=>rw [hj] at hc;cases hc
    |some u=>
     rw [hj] at hc
     injection hc with hc
     subst hc
     rw [lbl,hj]
     exact RC.const (lbv.1 hb u (lbm hj))
   simpa using this
 ·exact .junk
 ·exact .c (.t (.sl (b:=0) (off:=0) (fun _ _=>undef) (by simp) (by simp) (by unfold maxLen;omega) (by simp) (by simp) (by simp) (by simp [at2]) (by simp [at2])))
 ·rename_i h1 h2 h3
  refine .c (.t (.atm ?_))
  cases v<;>first|rfl|(exact absurd rfl (h1 _))|(exact absurd rfl (h2 _))
end
section
open Go.RowKit
section
variable {P:Program} {τ:Tab} {o:Oper} {ev:Operand->S} {H:Hp}
theorem S4.to {w:World} {ι:Io} {M:Ms} {a:Act} (h:S4 w ι M ev a) {x:Operand} {s:S} (e:ev x=s):RS w ι M s (a.eval x):=e ▸ h x
theorem aJ2 (x:Operand) (ho:o.op=.move x∨o.op=.assign x):QOp P o ev H (ev x) []:=
 l9 fun a w ι M he hh=>⟨a.eval x,by rcases ho with ho|ho<;>simp [execOp,ho],he x⟩
theorem b3s (c x y:Operand) (t:Bool) (ho:o.op=.pick c x y) (hc:ev c=f7 t):QOp P o ev H (cond t (ev x) (ev y)) []:=
 l9 fun a w ι M he hh=>⟨cond t (a.eval x) (a.eval y),by
  have h:=(he.to hc).inv_atm
  cases t<;>simp [execOp,ho,h,asBool],by cases t<;>exact he _⟩
def bg5:TypeDesc->Bool
 |.struct _=>true
 |.array _ _=>true
 |_=>false
theorem al9 {t:TypeId} {d:TD} (h:av0 P t d) (w:World):(isAgg t).run P w=.ok d.agg w:=by
 obtain ⟨u,hu,hk⟩:=h.und
 have hr:(isAgg t).run P w=.ok (bg5 u) w:=by
  clear hk
  simp only [isAgg,Sem.run_bind,run_underlying hu,Result.andThen_ok]
  cases u<;>rfl
 rw [hr]
 cases hd:d.k<;>rw [hd] at hk<;>simp only at hk
 ·obtain ⟨h1,h2⟩:=hk
  rw [h1]
  cases u<;>first|exact h2.elim|rfl
 ·obtain ⟨h1,rfl⟩:=hk;rw [h1];rfl
 ·obtain ⟨h1,rfl⟩:=hk;rw [h1];rfl
 ·obtain ⟨h1,rfl⟩:=hk;rw [h1];rfl
 ·obtain ⟨h1,rfl⟩:=hk;rw [h1];rfl
 ·obtain ⟨h1,_,rfl,_⟩:=hk;rw [h1];rfl
theorem a3f {t:TypeId} {d:TD} (h:av0 P t d) (w:World):(sizeOf t).run P w=.ok d.size w:=by
 obtain ⟨i,hi,hs,_⟩:=h.info
 simp [sizeOf,typeInfo,hi,hs]
theorem a4p {t:TypeId} {d:TD} (h:av0 P t d) {w:World} {ι:Io} {M:Ms} {b off:Nat} {cells:List C}
 (hc:∀j c,cells[j]? =some c->∃u,w.cell? ⟨b,off+j,none⟩=some u∧RC w ι M c u) {s:S}
 (hs:(d.agg=true∧d.size<=cells.length∧s=.agg (cells.take d.size))∨(d.agg=false∧∃c,cells[0]? =some c∧s=.c c)):
 ∃v,(Instr.loadAt t (.pointer (some ⟨b,off,none⟩))).run P w=.ok v w∧RS w ι M s v:=by
 rcases hs with ⟨ha,hl,rfl⟩|⟨ha,c,h0,rfl⟩
 ·have hex:∀j,j<d.size->∃u,w.cell? ⟨b,off+j,none⟩=some u∧∃c,cells[j]? =some c∧RC w ι M c u:=fun j hj=>by
   obtain ⟨u,h1,h2⟩:=hc j _ (lbf (by omega))
   exact ⟨u,h1,_,lbf (by omega),h2⟩
  refine ⟨.agg ((List.range d.size).map fun j=>(w.cell? ⟨b,off+j,none⟩).getD undef).toArray,?_,?_⟩
  ·have:=run_loadCells (P:=P) w ⟨b,off,none⟩ d.size (fun j=>(w.cell? ⟨b,off+j,none⟩).getD undef) (fun j hj=>by
    obtain ⟨u,h1,_⟩:=hex j hj
    have e:(⟨b,off,none⟩:Addr).add j=⟨b,off+j,none⟩:=by unfold Addr.add;split<;>simp_all
    rw [e,h1];rfl)
   simp [Instr.loadAt,Instr.sureAddr,loadVar,al9 h,a3f h,ha,this]
  ·refine .agg _ (by simp;omega) fun j c hj=>?_
   have hlt:j<d.size:=by have:=(lbe.1 hj).1;simp at this;omega
   obtain ⟨u,h1,c',h2,h3⟩:=hex j hlt
   rw [List.getElem?_take_of_lt hlt,h2] at hj
   injection hj with hj
   subst hj
   rw [lbl,lba,lbh hlt]
   simp [h1,h3]
 ·obtain ⟨u,h1,h2⟩:=hc 0 c h0
  refine ⟨u,?_,.c h2⟩
  simp only [Nat.add_zero] at h1
  simp [Instr.loadAt,Instr.sureAddr,loadVar,al9 h,ha,h1]
theorem b7Q {rows:List (List C)} {r:Nat} {row:List C} (h:rows[r]? =some row) (j:Nat):at2 rows r j=row[j]?:=by simp [at2,h]
theorem G4.row {w:World} {ι:Io} {M:Ms} {k:Blk} {b cap size:Nat} (h:G4 w ι M k (.blk b cap size)) {r:Nat} {row:List C} (hr:k.rows[r]? =some row):
 ∀j c,row[j]? =some c->∃u,w.cell? ⟨b,r*size+j,none⟩=some u∧RC w ι M c u:=fun j c hj=>by
 obtain ⟨_,_,_,_,_,cur,hb,_,h8⟩:=h
 obtain ⟨u,h1,h2⟩:=h8 r j c (by rw [b7Q hr];exact hj)
 exact ⟨u,by simp [World.cell?,hb,h1],h2⟩
theorem aK6 {b:Blk} {r:Nat} {k:List C->Prop} (h:b7z b r k):∃row,b.rows[r]? =some row∧k row∧(b.box=true->b.rows=[row]∧r=0):=by
 unfold b7z at h
 split at h
 ·split at h
  ·rename_i hb _ _ row hr
   exact ⟨row,by rw [hr];rfl,h,fun _=>⟨hr,rfl⟩⟩
  ·exact h.elim
 ·obtain ⟨row,h1,h2⟩:=h
  rename_i hb
  exact ⟨row,h1,h2,fun h=>by rw [hb] at h;cases h⟩
theorem Z7 {b:Blk} {k:Prop} (h:a1O b k):b.mode≠.dead∧k:=by
 unfold a1O at h
 cases hb:b.mode<;>rw [hb] at h<;>first|exact h.elim|exact ⟨by simp,h⟩
theorem a3x {b:Blk} {k:Prop} (h:a4c b k):b.mode=.live∧b.app=false∧k:=by
 unfold a4c at h
 cases hb:b.mode<;>cases ha:b.app<;>rw [hb,ha] at h<;>first|exact h.elim|exact ⟨rfl,rfl,h⟩
theorem ay5 {b:Blk} {k k':Prop} (h:ah4 b k k'):b.mode=.live∧((b.app=true∧k)∨(b.app=false∧k')):=by
 unfold ah4 at h
 cases hb:b.mode<;>cases ha:b.app<;>rw [hb] at h<;>first|exact h.elim|(simp only [ha] at h;first|exact ⟨rfl,.inl ⟨rfl,h⟩⟩|exact ⟨rfl,.inr ⟨rfl,h⟩⟩)
theorem aO4 {d:TD} {row:List C} {o:Nat} {K:S->Prop} (h:b16 d row o K):
 ∃s,K s∧((d.agg=true∧d.size<=(row.drop o).length∧s=.agg ((row.drop o).take d.size))∨(d.agg=false∧∃c,(row.drop o)[0]? =some c∧s=.c c)):=by
 obtain ⟨_,h⟩:=a85 h
 cases ha:d.agg<;>rw [ha] at h
 ·obtain ⟨c,h1,h2⟩:=N1 h
  exact ⟨_,h2,.inr ⟨rfl,c,h1,rfl⟩⟩
 ·obtain ⟨h1,h2⟩:=aq7 h
  exact ⟨_,h2,.inl ⟨rfl,h1,rfl⟩⟩
theorem am4 (hτ:C0 P τ) {t:TypeId} {x:Operand} {K:S->Prop} (h:ap8 τ ev H t x K):∃s,K s∧∀(a:Act) (w:World) (ι:Io) (M:Ms),S4 w ι M ev a->j8 w ι M H->∃v ad,a.eval x=.pointer (some ad)∧(Instr.loadAt t (a.eval x)).run P w=.ok v w∧RS w ι M s v:=by
 unfold ap8 at h
 split at h
 ·exact h.elim
 rename_i d hd
 split at h
 ·rename_i id r off hx
  obtain ⟨b,hb,h⟩:=N1 h
  obtain ⟨hdead,h⟩:=Z7 h
  obtain ⟨row,hrow,h,_⟩:=aK6 h
  obtain ⟨s,hs,hcase⟩:=aO4 h
  refine ⟨s,hs,fun a w ι M he hh=>?_⟩
  generalize hv:a.eval x=v
  have hr:=he.to hx
  rw [hv] at hr
  cases hr with
  |c hr=>cases hr with
   |@ptr _ _ _ bb cap size hi=>
    have hbr:=(hh.blk id b hb hdead _ hi).row hrow
    obtain ⟨v,h1,h2⟩:=a4p (hτ.td t d hd) (w:=w) (ι:=ι) (M:=M) (b:=bb) (off:=r*size+off) (cells:=row.drop off)
     (fun j c hj=>by rw [lbj] at hj;rw [Nat.add_assoc];exact hbr _ _ hj) hcase
    exact ⟨v,_,rfl,h1,h2⟩
 ·rename_i cells hx
  have hcase:∃s,K s∧((d.agg=true∧d.size<=(cells.map C.t).length∧s=.agg ((cells.map C.t).take d.size))∨(d.agg=false∧∃c,(cells.map C.t)[0]? =some c∧s=.c c)):=by
   unfold aG5 at h
   cases ha:d.agg<;>rw [ha] at h
   ·obtain ⟨c,h1,h2⟩:=N1 h
    exact ⟨_,h2,.inr ⟨rfl,.t c,by simp [lba,h1],rfl⟩⟩
   ·obtain ⟨h1,h2⟩:=aq7 h
    rw [a0I,List.map_take] at h2
    exact ⟨_,h2,.inl ⟨rfl,by simpa using h1,rfl⟩⟩
  obtain ⟨s,hs,hcase⟩:=hcase
  refine ⟨s,hs,fun a w ι M he hh=>?_⟩
  generalize hv:a.eval x=v
  have hr:=(he.to hx).inv_t
  rw [hv] at hr
  cases hr with
  |@ptr _ b off f hc hr=>
   obtain ⟨v,h1,h2⟩:=a4p (hτ.td t d hd) (w:=w) (ι:=ι) (M:=M) (b:=b) (off:=off) (cells:=cells.map C.t)
    (fun j c hj=>by
      rw [lba] at hj
      cases hj':cells[j]? with
      |none=>rw [hj'] at hj;cases hj
      |some c'=>
       rw [hj'] at hj
       injection hj with hj
       subst hj
       exact ⟨f j,(hc j c' hj').1,.t (hr j c' hj')⟩) hcase
   exact ⟨v,_,rfl,h1,h2⟩
 ·exact h.elim
theorem aJ6 (hτ:C0 P τ) {t:TypeId} {x:Operand} (ho:o.op=.load t x) {K:S->Prop} (h:ap8 τ ev H t x K):∃s,K s∧QOp P o ev H s []:=by
 obtain ⟨s,hs,hv⟩:=am4 hτ h
 refine ⟨s,hs,l9 fun a w ι M he hh=>?_⟩
 obtain ⟨v,ad,h0,h1,h2⟩:=hv a w ι M he hh
 exact ⟨v,by simp [execOp,ho,h1],h2⟩
end
end
section
open Go.RowKit
section
variable {P:Program} {τ:Tab} {o:Oper} {ev:Operand->S} {H:Hp}
theorem Addr.add_none (b off n:Nat):(⟨b,off,none⟩:Addr).add n=⟨b,off+n,none⟩:=by unfold Addr.add;split<;>simp_all
theorem au6 (hτ:C0 P τ) {s:TypeId} {f:Nat} {k:Nat->Prop} (h:ac9 τ s f k):
 ∃off fields fd,k off∧P.underlying s=some (.struct fields)∧fields[f]? =some fd∧fd.offset=off∧∃i,P.info? fd.type=some i∧i.size≠0:=by
 unfold ac9 at h
 split at h
 ·rename_i fs _ _ _ _ hd
  split at h
  ·rename_i off size _ hf
   obtain ⟨h0,hk⟩:=W7 h
   obtain ⟨u,hu,ha,fields,rfl,hm,hall,_⟩:=(hτ.td _ _ hd).und
   have h1:(fs.map (fun x=>(x.1,x.2.1)))[f]? =some (off,size):=by rw [lba,hf];rfl
   rw [hm,lba] at h1
   cases hfd:fields.toList[f]? with
   |none=>rw [hfd] at h1;cases h1
   |some fd=>
    rw [hfd] at h1
    injection h1 with h1
    injection h1 with h1 h2
    have hi:=hall fd (lbm hfd)
    obtain ⟨i,hi⟩:=Option.isSome_iff_exists.1 hi
    refine ⟨off,fields,fd,hk,hu,by simpa using hfd,h1,i,hi,?_⟩
    have:P.cellsOf fd.type=i.size:=by simp [Program.cellsOf,hi]
    have h0':size≠0:=by intro hz;subst hz;simp at h0
    omega
  ·exact h.elim
 ·exact h.elim
theorem a98 {s:TypeId} {f:Nat} {fields:Array Field} {fd:Field} {i:TypeInfo} (hu:P.underlying s=some (.struct fields)) (hf:fields[f]? =some fd) (hi:P.info? fd.type=some i) (h0:i.size≠0)
 (w:World) (b off:Nat):(Instr.fieldAt s (.pointer (some ⟨b,off,none⟩)) f).run P w=.ok (.pointer (some ⟨b,off+fd.offset,none⟩)) w:=by
 simp [Instr.fieldAt,run_underlying hu,hf,Instr.sureAddr,fieldPlace,sizeOf,typeInfo,hi,h0,Addr.add_none]
theorem a8e (hτ:C0 P τ) {s:TypeId} {x:Operand} {f:Nat} (ho:o.op=.fieldAddr s x f) {K:S->Prop} (h:a6F τ ev s x f K):∃s,K s∧QOp P o ev H s []:=by
 obtain ⟨off,fields,fd,h,hu,hf,rfl,i,hi,h0⟩:=au6 hτ h
 split at h
 ·rename_i id r o' hx
  refine ⟨_,h,l9 fun a w ι M he hh=>?_⟩
  generalize hv:a.eval x=v
  have hr:=he.to hx
  rw [hv] at hr
  cases hr with
  |c hr=>cases hr with
   |@ptr _ _ _ b cap size hi'=>
    refine ⟨_,by simp [execOp,ho,hv,a98 hu hf hi h0];rfl,?_⟩
    rw [Nat.add_assoc]
    exact .c (.ptr hi')
 ·rename_i cells hx
  obtain ⟨hl,h⟩:=a85 h
  refine ⟨_,h,l9 fun a w ι M he hh=>?_⟩
  generalize hv:a.eval x=v
  have hr:=(he.to hx).inv_t
  rw [hv] at hr
  cases hr with
  |@ptr _ b off f hc hr=>
   refine ⟨_,by simp [execOp,ho,hv,a98 hu hf hi h0],.c (.t (.ptr (b:=b) (off:=off+fd.offset) (fun j=>f (fd.offset+j)) (fun j c hj=>?_) (fun j c hj=>?_)))⟩
   ·rw [lbj] at hj
    rw [Nat.add_assoc]
    exact hc _ _ hj
   ·rw [lbj] at hj
    exact hr _ _ hj
 ·exact h.elim
theorem S2 (hτ:C0 P τ) {e:TypeId} {k:Nat->Prop} (h:a4d τ e k):∃d,τ e=some d∧k d.size∧∀w,(sizeOf e).run P w=.ok d.size w:=by
 unfold a4d at h
 split at h
 ·rename_i d hd
  exact ⟨d,hd,h,a3f (hτ.td _ _ hd)⟩
 ·exact h.elim
theorem K5 (hτ:C0 P τ) {t e:TypeId} {a:Bool} {s b:Nat} {z:List Value} (h:τ t=some ⟨.slice e,a,s,b,z⟩):P.underlying t=some (.slice e):=by
 obtain ⟨u,hu,_,rfl⟩:=(hτ.td _ _ h).und;exact hu
theorem aC1 (hτ:C0 P τ) {t e:TypeId} {a:Bool} {n s b:Nat} {z:List Value} (h:τ t=some ⟨.arr n e,a,s,b,z⟩):P.underlying t=some (.array n e):=by
 obtain ⟨u,hu,_,rfl⟩:=(hτ.td _ _ h).und;exact hu
theorem a8U {t e:TypeId} (hu:P.underlying t=some (.slice e)) {w:World} {size:Nat} (hs:(sizeOf e).run P w=.ok size w) {k:IntKind} {n:Int} {A:Option Addr} {len cap b off:Nat}
 (h0:0<=n) (h1:n<(len:Int)) (hA:0<len->A=some ⟨b,off,none⟩):
 (Instr.indexAt t (.slice A len cap) (.int k n)).run P w=.ok (.pointer (some ⟨b,off+n.toNat*size,none⟩)) w:=by
 have:=hA (by omega)
 subst this
 simp [Instr.indexAt,asIntOf,run_underlying hu,h0,h1,hs,Addr.add_none]
theorem a75 {t e:TypeId} {m:Nat} (hu:P.underlying t=some (.array m e)) {w:World} {size:Nat} (hs:(sizeOf e).run P w=.ok size w) {k:IntKind} {n:Int} {b off:Nat}
 (h0:0<=n) (h1:n<(m:Int)):
 (Instr.indexAt t (.pointer (some ⟨b,off,none⟩)) (.int k n)).run P w=.ok (.pointer (some ⟨b,off+n.toNat*size,none⟩)) w:=by
 simp [Instr.indexAt,asIntOf,run_underlying hu,Instr.sureAddr,h0,h1,hs,Addr.add_none]
theorem B1 {α:Type} {rows:List (List α)} {i j:Nat} {row:List α} {c:α} (h:rows[i]? =some row) (h':row[j]? =some c):at2 rows i j=some c:=by simp [at2,h,h']
theorem C1 {α:Type} {rows:List (List α)} {i j:Nat} {c:α} (h:at2 rows i j=some c):∃row,rows[i]? =some row∧row[j]? =some c:=by
 unfold at2 at h
 cases hr:rows[i]? with
 |none=>rw [hr] at h;cases h
 |some row=>rw [hr] at h;exact ⟨row,rfl,h⟩
theorem a8a (hτ:C0 P τ) {t:TypeId} {x i:Operand} (ho:o.op=.indexAddr t x i) {K:S->Prop} (h:a3q τ ev H t x i K):∃s,K s∧QOp P o ev H s []:=by
 unfold a3q at h
 split at h
 rotate_left
 ·exact h.elim
 rename_i k n hi
 split at h
 ·rename_i e _ _ _ _ ht
  have hu:=K5 hτ ht
  split at h
  ·rename_i size sk rows hx
   obtain ⟨d,hd,h,hsz⟩:=S2 hτ h
   obtain ⟨hs,row,h0,hrow,hK⟩:=C5 h
   clear h
   have hs:d.size=size:=by simpa using hs
   subst hs
   refine ⟨_,hK,l9 fun a w ι M he hh=>?_⟩
   generalize hv:a.eval x=v
   have hiv:=(he.to hi).inv_atm
   have hr:=(he.to hx).inv_t
   rw [hv] at hr
   have hlt:n.toNat<rows.length:=(lbe.1 hrow).1
   cases hr with
   |@sl _ _ _ b off cap A f hrow' hcap hmax hk hn hA hc hr=>
    refine ⟨_,by simp [execOp,ho,hv,hiv];rw [a8U hu (hsz w) (b:=b) (off:=off) h0 (by omega) (fun h=>hA (by intro e;rw [e] at h;simp at h))];rfl,
     .c (.t (.ptr (fun j=>f n.toNat j) (fun j c hj=>?_) (fun j c hj=>hr _ _ _ (B1 hrow hj))))⟩
    have:=hc n.toNat j c (B1 hrow hj)
    rw [Nat.add_assoc]
    exact this
  ·rename_i id lo len app hx
   obtain ⟨d,hd,h,hsz⟩:=S2 hτ h
   obtain ⟨bk,hbk,h⟩:=N1 h
   obtain ⟨hdead,h⟩:=Z7 h
   obtain ⟨hs,⟨h0,h1⟩,h⟩:=C5 h
   have hs:d.size=bk.size:=by simpa using hs
   refine ⟨_,h,l9 fun a w ι M he hh=>?_⟩
   generalize hv:a.eval x=v
   have hiv:=(he.to hi).inv_atm
   have hr:=he.to hx
   rw [hv] at hr
   cases hr with
   |c hr=>cases hr with
    |@own _ _ _ _ b cap size A cap' h' q1 q2 q3 q4 q5=>
     obtain ⟨hq,_⟩:=hh.blk id bk hbk hdead _ h'
     refine ⟨_,by simp [execOp,ho,hv,hiv];rw [a8U hu (hsz w) (b:=b) (off:=lo*size) h0 h1 q2];rfl,?_⟩
     have e:lo*size+n.toNat*d.size=(lo+n.toNat)*size+0:=by rw [hs,hq,Nat.add_mul,Nat.add_zero]
     rw [e]
     exact .c (.ptr h')
    |nil h=>simp at h1;omega
  ·exact h.elim
 ·rename_i m e _ _ _ _ ht
  have hu:=aC1 hτ ht
  obtain ⟨d,hd,h,hsz⟩:=S2 hτ h
  split at h
  ·rename_i id r o' hx
   obtain ⟨⟨h0,h1⟩,h⟩:=h
   refine ⟨_,h,l9 fun a w ι M he hh=>?_⟩
   generalize hv:a.eval x=v
   have hiv:=(he.to hi).inv_atm
   have hr:=he.to hx
   rw [hv] at hr
   cases hr with
   |c hr=>cases hr with
    |ptr hi'=>
     refine ⟨_,by simp [execOp,ho,hv,hiv];rw [a75 hu (hsz w) h0 h1];rfl,?_⟩
     rw [Nat.add_assoc]
     exact .c (.ptr hi')
  ·rename_i cells hx
   obtain ⟨⟨h0,h1⟩,h⟩:=h
   obtain ⟨hl,h⟩:=a85 h
   refine ⟨_,h,l9 fun a w ι M he hh=>?_⟩
   generalize hv:a.eval x=v
   have hiv:=(he.to hi).inv_atm
   have hr:=(he.to hx).inv_t
   rw [hv] at hr
   cases hr with
   |@ptr _ b off f hc hr=>
    refine ⟨_,by simp [execOp,ho,hv,hiv];rw [a75 hu (hsz w) h0 h1];rfl,.c (.t (.ptr (fun j=>f (n.toNat*d.size+j)) (fun j c hj=>?_) (fun j c hj=>?_)))⟩
    ·rw [lbj] at hj
     rw [Nat.add_assoc]
     exact hc _ _ hj
    ·rw [lbj] at hj
     exact hr _ _ hj
  ·exact h.elim
 ·exact h.elim
theorem L9 {x:Option Operand} {dflt:Int} {k:Int->Prop} (h:O3 ev x dflt k):
 ∃n,k n∧((x=none∧n=dflt)∨∃y kk,x=some y∧ev y=a8 kk n):=by
 unfold O3 at h
 split at h
 ·exact ⟨_,h,.inl ⟨rfl,rfl⟩⟩
 ·split at h
  ·rename_i y _ kk n hy
   exact ⟨n,h,.inr ⟨y,kk,rfl,hy⟩⟩
  ·exact h.elim
theorem U5 {w:World} {ι:Io} {M:Ms} {a:Act} (he:S4 w ι M ev a) {lo hi:Option Operand} {l h:Int} {len cap:Nat}
 (hl:(lo=none∧l=0)∨∃y kk,lo=some y∧ev y=a8 kk l) (hh:(hi=none∧h=(len:Int))∨∃y kk,hi=some y∧ev y=a8 kk h)
 (h0:0<=l) (h1:l<=h) (h2:h<=(cap:Int)):
 (Instr.sliceBounds true len cap (lo.map a.eval) (hi.map a.eval) none).run P w=.ok (l.toNat,h.toNat,cap) w:=by
 have e1:∀(n:Int) (m:Nat) (kk:IntKind) c,0<=n->n<=(m:Int)->(Instr.sliceBound (.int kk n) m c).run P w=.ok n.toNat w:=fun n m kk c q1 q2=>by
  simp [Instr.sliceBound,asIntOf,q1,q2]
 rcases hl with ⟨rfl,rfl⟩|⟨y,kk,rfl,hy⟩<;>rcases hh with ⟨rfl,rfl⟩|⟨y',kk',rfl,hy'⟩
 ·simp [Instr.sliceBounds]
 ·simp [Instr.sliceBounds,(he.to hy').inv_atm,e1 _ _ _ _ (by omega) h2]
 ·simp only [Instr.sliceBounds,Option.map_some,Option.map_none,(he.to hy).inv_atm,Sem.run_bind,Sem.run_pure,Result.andThen_ok,Option.isSome_none,Bool.false_eq_true,if_false,e1 _ _ _ _ h0 h1]
  simp
 ·simp only [Instr.sliceBounds,Option.map_some,Option.map_none,(he.to hy).inv_atm,(he.to hy').inv_atm,Sem.run_bind,Sem.run_pure,Result.andThen_ok,Option.isSome_none,Bool.false_eq_true,if_false,if_true,e1 _ _ _ _ (Int.le_trans h0 h1) h2]
  rw [e1 _ _ _ _ h0 (by omega)]
  simp
theorem av7 {k:SK} {hi max:Option Operand} {α:Type} {rows:List α} {A:Option Addr}:(X2 k hi max=.nul->rows=[]∧A=none)∧(X2 k hi max=.non->A≠none):=by
 unfold X2;split<;>exact ⟨(fun h=>nomatch h),(fun h=>nomatch h)⟩
theorem ak4 (hτ:C0 P τ) {t:TypeId} {x:Operand} {lo hi:Option Operand} (ho:o.op=.slice t x lo hi none) {K:S->Prop} (h:a4J τ ev H t x lo hi none K):∃s,K s∧QOp P o ev H s []:=by
 unfold a4J at h
 split at h
 rotate_left
 ·exact h.elim
 rename_i e _ _ _ _ ht
 simp only at h
 have hu:=K5 hτ ht
 split at h
 ·rename_i rows hx
  obtain ⟨l,h,hl⟩:=L9 h
  obtain ⟨u,h,hhi⟩:=L9 h
  obtain ⟨d,hd,h,hsz⟩:=S2 hτ h
  obtain ⟨⟨h0,h1,h2⟩,h⟩:=h
  refine ⟨_,h,l9 fun a w ι M he hh=>?_⟩
  generalize hv:a.eval x=v
  have hr:=(he.to hx).inv_t
  rw [hv] at hr
  cases hr with
  |@sl _ _ _ b off cap A f hrow hcap hmax hk hn hA hc hr=>
   obtain ⟨rfl,rfl,rfl⟩:=hn rfl
   obtain rfl:l=0:=by omega
   obtain rfl:u=0:=by omega
   have hb:=U5 (P:=P) (w:=w) (len:=0) he hl hhi (cap:=0) (by omega) (by omega) (by omega)
   refine ⟨.slice none 0 0,?_,?_⟩
   ·simp [execOp,ho,hv,Instr.sliceAt,run_underlying hu,Instr.slice,hb,hsz]
   ·exact .c (.t (.sl (rows:=[]) (b:=0) (off:=0) (fun _ _=>undef) (by simp) (by simp) (by simp) (by simp) (by simp) (by simp) (by intro i j c hc;simp [at2] at hc) (by intro i j c hc;simp [at2] at hc)))
 ·rename_i size k rows hnn hx
  obtain ⟨l,h,hl⟩:=L9 h
  obtain ⟨u,h,hhi⟩:=L9 h
  obtain ⟨d,hd,h,hsz⟩:=S2 hτ h
  obtain ⟨hs,⟨h0,h1,h2⟩,h⟩:=C5 h
  have hs:d.size=size:=by simpa using hs
  subst hs
  refine ⟨_,h,l9 fun a w ι M he hh=>?_⟩
  generalize hv:a.eval x=v
  have hr:=(he.to hx).inv_t
  rw [hv] at hr
  cases hr with
  |@sl _ _ _ b off cap A f hrow hcap hmax hk hn hA hc hr=>
   have hb:=U5 (P:=P) (w:=w) he hl hhi (cap:=cap) h0 h1 (by omega)
   refine ⟨.slice (if cap=l.toNat then A else A.map (·.add (l.toNat*d.size))) (u.toNat - l.toNat) (cap - l.toNat),?_,?_⟩
   ·simp [execOp,ho,hv,Instr.sliceAt,run_underlying hu,Instr.slice,hb,hsz]
   ·have hlen:((rows.take u.toNat).drop l.toNat).length=u.toNat - l.toNat:=by simp;omega
    have hat:∀i j c,at2 ((rows.take u.toNat).drop l.toNat) i j=some c->at2 rows (l.toNat+i) j=some c:=fun i j c hc=>by
     obtain ⟨row,h1,h2⟩:=C1 hc
     rw [lbj,lbi] at h1
     split at h1
     ·exact B1 h1 h2
     ·cases h1
    rw [← hlen]
    refine .c (.t (.sl (b:=b) (off:=off+l.toNat*d.size) (fun i j=>f (l.toNat+i) j) ?_ (by omega) (by omega) ?_ ?_ ?_ ?_ ?_ (hx:=av7)))
    ·intro r hr
     exact hrow r (List.mem_of_mem_take (List.mem_of_mem_drop hr))
    ·intro hf
     have hkf:k=.full∧hi=none:=by
      unfold X2 at hf
      split at hf
      ·exact ⟨rfl,rfl⟩
      ·cases hf
     obtain ⟨rfl,rfl⟩:=hkf
     rcases hhi with ⟨_,rfl⟩|⟨y,kk,hy,_⟩
     ·rw [hk rfl,hlen];simp
     ·cases hy
    ·intro hf
     unfold X2 at hf
     split at hf<;>cases hf
    ·intro hne
     have hlt:0<((rows.take u.toNat).drop l.toNat).length:=List.length_pos_iff.2 hne
     rw [if_neg (by omega),hA (by intro e;subst e;simp at hlt)]
     simp [Addr.add_none]
    ·intro i j c hc'
     obtain ⟨q1,q2⟩:=hc _ _ _ (hat i j c hc')
     refine ⟨?_,q2⟩
     rw [← q1]
     congr 2
     rw [Nat.add_mul];omega
    ·intro i j c hc'
     exact hr _ _ _ (hat i j c hc')
 ·rename_i id l0 len app hx
  obtain ⟨l,h,hl⟩:=L9 h
  obtain ⟨u,h,hhi⟩:=L9 h
  obtain ⟨d,hd,h,hsz⟩:=S2 hτ h
  obtain ⟨bk,hbk,h⟩:=N1 h
  obtain ⟨hdead,h⟩:=Z7 h
  obtain ⟨hs,⟨h0,h1,h2⟩,h⟩:=C5 h
  have hs:d.size=bk.size:=by simpa using hs
  refine ⟨_,h,l9 fun a w ι M he hh=>?_⟩
  generalize hv:a.eval x=v
  have hr:=he.to hx
  rw [hv] at hr
  cases hr with
  |c hr=>cases hr with
   |@own _ _ _ _ b cap size A cap' h' q1 q2 q3 q4 q5=>
    obtain ⟨hq,_⟩:=hh.blk id bk hbk hdead _ h'
    have hb:=U5 (P:=P) (w:=w) he hl hhi (cap:=cap') h0 h1 (by omega)
    refine ⟨.slice (if cap'=l.toNat then A else A.map (·.add (l.toNat*d.size))) (u.toNat - l.toNat) (cap' - l.toNat),?_,?_⟩
    ·simp [execOp,ho,hv,Instr.sliceAt,run_underlying hu,Instr.slice,hb,hsz]
    ·rw [show (u - l).toNat=u.toNat - l.toNat by omega]
     refine .c (.own h' (by omega) ?_ (by omega) (by omega) ?_)
     ·intro hpos
      rw [if_neg (by omega),q2 (by omega)]
      simp [Addr.add_none,hs,hq,Nat.add_mul]
     ·intro happ
      obtain ⟨ha,hlo⟩:app=true∧lo=none:=by simpa using happ
      subst hlo
      rcases hl with ⟨_,rfl⟩|⟨y,kk,hy,_⟩
      ·obtain ⟨r1,r2,r3⟩:=q5 ha
       subst r2
       simp [r1,r3,Addr.add_none]
      ·cases hy
   |nil h'=>
    have hl0:l=0:=by omega
    have hu0:u=0:=by simp at h2;omega
    subst hl0 hu0
    have hb:=U5 (P:=P) (w:=w) he hl hhi (cap:=0) h0 h1 (by omega)
    refine ⟨_,by simp [execOp,ho,hv,Instr.sliceAt,run_underlying hu,Instr.slice,hb,hsz];rfl,?_⟩
    exact .c (.nil h')
 ·exact h.elim
theorem a0x {w:World} {ι:Io} {M:Ms} {a:Act} (he:S4 w ι M ev a) {lo:Option Operand} {y z:Operand} {l h:Int} {len cap:Nat} {kk kz:IntKind}
 (hl:(lo=none∧l=0)∨∃y kk,lo=some y∧ev y=a8 kk l) (hh:ev y=a8 kk h) (hz:ev z=a8 kz h)
 (h0:0<=l) (h1:l<=h) (h2:h<=(cap:Int)):
 (Instr.sliceBounds true len cap (lo.map a.eval) (some (a.eval y)) (some (a.eval z))).run P w=.ok (l.toNat,h.toNat,h.toNat) w:=by
 have e1:∀(n:Int) (m:Nat) (kk:IntKind) c,0<=n->n<=(m:Int)->(Instr.sliceBound (.int kk n) m c).run P w=.ok n.toNat w:=fun n m kk c q1 q2=>by
  simp [Instr.sliceBound,asIntOf,q1,q2]
 rcases hl with ⟨rfl,rfl⟩|⟨x,kx,rfl,hx⟩
 ·simp only [Instr.sliceBounds,Option.map_none,(he.to hh).inv_atm,(he.to hz).inv_atm,Sem.run_bind,Sem.run_pure,Result.andThen_ok,if_true,e1 _ _ _ _ h1 h2]
  rw [e1 _ _ _ _ h1 (by omega)]
  simp
 ·simp only [Instr.sliceBounds,Option.map_some,(he.to hh).inv_atm,(he.to hz).inv_atm,(he.to hx).inv_atm,Sem.run_bind,Sem.run_pure,Result.andThen_ok,if_true,e1 _ _ _ _ (Int.le_trans h0 h1) h2]
  rw [e1 h _ _ _ (by omega) (by omega)]
  simp only [Result.andThen_ok]
  rw [e1 l _ _ _ h0 (by omega)]
  simp
theorem aj7 (hτ:C0 P τ) {t:TypeId} {x z:Operand} {lo hi:Option Operand} (ho:o.op=.slice t x lo hi (some z)) {K:S->Prop} (h:a4J τ ev H t x lo hi (some z) K):∃s,K s∧QOp P o ev H s []:=by
 unfold a4J at h
 split at h
 rotate_left
 ·exact h.elim
 rename_i e _ _ _ _ ht
 have hu:=K5 hτ ht
 simp only at h
 split at h
 rotate_left
 ·exact h.elim
 rename_i kz m hz
 split at h
 ·rename_i size k rows hx
  obtain ⟨l,h,hl⟩:=L9 h
  obtain ⟨u,h,hhi⟩:=L9 h
  obtain ⟨d,hd,h,hsz⟩:=S2 hτ h
  obtain ⟨hsome,h⟩:=C5 h
  obtain ⟨hs,⟨h0,h1,rfl,h2⟩,hK⟩:=C5 h
  have hs:d.size=size:=by simpa using hs
  subst hs
  obtain ⟨y,kk,rfl,hy⟩:∃y kk,hi=some y∧ev y=a8 kk m:=by
   rcases hhi with ⟨rfl,_⟩|h
   ·cases hsome
   ·exact h
  refine ⟨_,hK,l9 fun a w ι M he hh=>?_⟩
  generalize hv:a.eval x=v
  have hr:=(he.to hx).inv_t
  rw [hv] at hr
  cases hr with
  |@sl _ _ _ b off cap A f hrow hcap hmax hk hn hA hc hr=>
   have hb:=a0x (P:=P) (w:=w) he hl hy hz (len:=rows.length) (cap:=cap) h0 h1 (by omega)
   refine ⟨.slice (if m.toNat=l.toNat then A else A.map (·.add (l.toNat*d.size))) (m.toNat - l.toNat) (m.toNat - l.toNat),?_,?_⟩
   ·simp [execOp,ho,hv,Instr.sliceAt,run_underlying hu,Instr.slice,hb,hsz]
   ·have hlen:((rows.take m.toNat).drop l.toNat).length=m.toNat - l.toNat:=by simp;omega
    have hat:∀i j c,at2 ((rows.take m.toNat).drop l.toNat) i j=some c->at2 rows (l.toNat+i) j=some c:=fun i j c hc=>by
     obtain ⟨row,h1,h2⟩:=C1 hc
     rw [lbj,lbi] at h1
     split at h1
     ·exact B1 h1 h2
     ·cases h1
    rw [← hlen]
    refine .c (.t (.sl (b:=b) (off:=off+l.toNat*d.size) (fun i j=>f (l.toNat+i) j) ?_ (by omega) (by omega) ?_ ?_ ?_ ?_ ?_))
    ·intro r hr
     exact hrow r (List.mem_of_mem_take (List.mem_of_mem_drop hr))
    ·intro _;rfl
    ·intro hf;cases hf
    ·intro hne
     have hlt:0<((rows.take m.toNat).drop l.toNat).length:=List.length_pos_iff.2 hne
     rw [if_neg (by omega),hA (by intro e;subst e;simp at hlt)]
     simp [Addr.add_none]
    ·intro i j c hc'
     obtain ⟨q1,q2⟩:=hc _ _ _ (hat i j c hc')
     refine ⟨?_,q2⟩
     rw [← q1]
     congr 2
     rw [Nat.add_mul];omega
    ·intro i j c hc'
     exact hr _ _ _ (hat i j c hc')
 ·rename_i id l0 len app hx
  obtain ⟨l,h,hl⟩:=L9 h
  obtain ⟨u,h,hhi⟩:=L9 h
  obtain ⟨hsome,h⟩:=C5 h
  obtain ⟨d,hd,h,hsz⟩:=S2 hτ h
  obtain ⟨bk,hbk,h⟩:=N1 h
  obtain ⟨hdead,h⟩:=Z7 h
  obtain ⟨hs,⟨h0,h1,rfl,h2⟩,hK⟩:=C5 h
  have hs:d.size=bk.size:=by simpa using hs
  obtain ⟨y,kk,rfl,hy⟩:∃y kk,hi=some y∧ev y=a8 kk m:=by
   rcases hhi with ⟨rfl,_⟩|h
   ·cases hsome
   ·exact h
  refine ⟨_,hK,l9 fun a w ι M he hh=>?_⟩
  generalize hv:a.eval x=v
  have hr:=he.to hx
  rw [hv] at hr
  cases hr with
  |c hr=>cases hr with
   |@own _ _ _ _ b cap size A cap' h' q1 q2 q3 q4 q5=>
    obtain ⟨hq,_⟩:=hh.blk id bk hbk hdead _ h'
    have hb:=a0x (P:=P) (w:=w) he hl hy hz (len:=len) (cap:=cap') h0 h1 (by omega)
    refine ⟨.slice (if m.toNat=l.toNat then A else A.map (·.add (l.toNat*d.size))) (m.toNat - l.toNat) (m.toNat - l.toNat),?_,?_⟩
    ·simp [execOp,ho,hv,Instr.sliceAt,run_underlying hu,Instr.slice,hb,hsz]
    ·rw [show (m - l).toNat=m.toNat - l.toNat by omega]
     refine .c (.own h' (by omega) ?_ (by omega) (by omega) (by intro h;cases h))
     intro hpos
     rw [if_neg (by omega),q2 (by omega)]
     simp [Addr.add_none,hs,hq,Nat.add_mul]
   |nil h'=>
    have hl0:l=0:=by omega
    have hu0:m=0:=by simp at h2;omega
    subst hl0 hu0
    have hb:=a0x (P:=P) (w:=w) he hl hy hz (len:=0) (cap:=0) h0 h1 (by omega)
    refine ⟨_,by simp [execOp,ho,hv,Instr.sliceAt,run_underlying hu,Instr.slice,hb,hsz];rfl,?_⟩
    exact .c (.nil h')
 ·exact h.elim
theorem au2 (hτ:C0 P τ) {t:TypeId} {x:Operand} {lo hi max:Option Operand} (ho:o.op=.slice t x lo hi max) {K:S->Prop} (h:a4J τ ev H t x lo hi max K):∃s,K s∧QOp P o ev H s []:=by
 cases max with
 |none=>exact ak4 hτ ho h
 |some z=>exact aj7 hτ ho h
end
end
section
open Go.RowKit
section
variable {P:Program} {τ:Tab} {o:Oper} {ev:Operand->S} {H:Hp}
theorem aC4 {op:BinOp} {t:TypeId} {x y:Operand} {a b:Value} (w:World) (h1:∀cs,a≠.agg cs) (h2:a≠.nilIface):(eqGuard op t x y a b).run P w=.ok () w:=by
 unfold eqGuard
 generalize (match op with|.eql|.neq=>true|_=>false:Bool)=q
 cases a<;>first
  |exact absurd rfl h2
  |exact absurd rfl (h1 _)
  |(cases q<;>simp)
theorem a1Y {op:BinOp} {t yt:TypeId} {x y:Operand} (ho:o.op=.binOp op t x y yt) {a:Act} {w:World} {v:Value}
 (h1:∀cs,a.eval x≠.agg cs) (h2:a.eval x≠.nilIface) (h:(binOp op t (a.eval x) (a.eval y)).run P w=.ok v w):(execOp a.eval o).run P w=.ok (.value v) w:=by
 simp [execOp,ho,aC4 w h1 h2,h]
theorem aQ5 {op:BinOp} {t yt:TypeId} {x y:Operand} (ho:o.op=.binOp op t x y yt) {k k':IntKind} {p q:Int} (hx:ev x=a8 k p) (hy:ev y=a8 k' q) {K:S->Prop}
 (h:b9r op k k' p q K):∃s,K s∧QOp P o ev H s []:=by
 have key:∀(s:S) (v:Value),(∀ w,(binOp op t (.int k p) (.int k' q)).run P w=.ok v w)->(∀ w ι M,RS w ι M s v)->QOp P o ev H s []:=fun s v hr hs=>
  l9 fun a w ι M he hh=>by
   have e1:=(he.to hx).inv_atm
   have e2:=(he.to hy).inv_atm
   exact ⟨v,a1Y ho (by rw [e1];simp) (by rw [e1];simp) (by rw [e1,e2];exact hr w),hs w ι M⟩
 unfold b9r at h
 split at h
 ·obtain ⟨h0,n,hn,h⟩:=h
  refine ⟨_,h,key _ (.int k n) (fun w=>?_) (fun _ _ _=>.int)⟩
  simp only [binOp,Op.shift]
  rw [Sem.run_ite,if_neg (by omega)]
  unfold H7 at hn
  rw [hn]
  rfl
 ·obtain ⟨h0,n,hn,h⟩:=h
  unfold b0l at hn
  subst hn
  refine ⟨_,h,key _ _ (fun w=>?_) (fun _ _ _=>.int)⟩
  simp only [binOp,Op.shift]
  rw [Sem.run_ite,if_neg (by omega)]
  rfl
 ·rename_i op' hne1 hne2
  obtain ⟨hk,h'⟩:=C5 h
  clear h
  have hk:k=k':=by simpa using hk
  subst hk
  revert h'
  intro h
  split at h
  case h_1=>
   obtain ⟨n,hn,h⟩:=h
   exact ⟨_,h,key _ _ (fun w=>by simp [binOp,Op.intArith];rw [← hn]) (fun _ _ _=>.int)⟩
  case h_2=>
   obtain ⟨n,hn,h⟩:=h
   exact ⟨_,h,key _ _ (fun w=>by simp [binOp,Op.intArith];rw [← hn]) (fun _ _ _=>.int)⟩
  case h_3=>
   obtain ⟨n,hn,h⟩:=h
   exact ⟨_,h,key _ _ (fun w=>by simp [binOp,Op.intArith];rw [← hn]) (fun _ _ _=>.int)⟩
  case h_4=>
   obtain ⟨h0,n,hn,h⟩:=h
   exact ⟨_,h,key _ _ (fun w=>by simp [binOp,Op.intDiv,h0];rw [← hn]) (fun _ _ _=>.int)⟩
  case h_5=>
   obtain ⟨h0,h⟩:=h
   exact ⟨_,h,key _ _ (fun w=>by simp [binOp,Op.intDiv,h0]) (fun _ _ _=>.int)⟩
  case h_6=>exact ⟨_,h.get,key _ (.bool (decide (p=q))) (fun w=>by simp [binOp,Op.intCmp];rfl) (fun _ _ _=>.bool)⟩
  case h_7=>exact ⟨_,h.get,key _ (.bool (decide (p≠q))) (fun w=>by simp [binOp,Op.intCmp];rfl) (fun _ _ _=>.bool)⟩
  case h_8=>exact ⟨_,h.get,key _ _ (fun w=>by simp [binOp,Op.intCmp]) (fun _ _ _=>.bool)⟩
  case h_9=>exact ⟨_,h.get,key _ _ (fun w=>by simp [binOp,Op.intCmp]) (fun _ _ _=>.bool)⟩
  case h_10=>exact ⟨_,h.get,key _ _ (fun w=>by simp [binOp,Op.intCmp]) (fun _ _ _=>.bool)⟩
  case h_11=>exact ⟨_,h.get,key _ _ (fun w=>by simp [binOp,Op.intCmp]) (fun _ _ _=>.bool)⟩
  case h_12=>
   obtain ⟨n,hn,h⟩:=h
   refine ⟨_,h,key _ (.int k n) (fun w=>?_) (fun _ _ _=>.int)⟩
   cases op<;>first|exact False.elim hn|(simp [a4R] at hn;simp [binOp,Op.intBits,hn];done)
theorem a8z:∀{cs:List C} {k:List Int->Prop},aN5 cs k->∃ul:List Int,cs=ul.map (fun a=>C.t (.atm (.int .i64 a)))∧k ul
 |[],k,h=>⟨[],rfl,h⟩
 |c::cs,k,h=>by
  unfold aN5 at h
  split at h
  ·rename_i heq;cases heq
  ·rename_i a cs' heq
   injection heq with h1 h2
   subst h1;subst h2
   obtain ⟨ul,rfl,hk⟩:=a8z h
   exact ⟨a::ul,rfl,hk⟩
  ·exact h.elim
theorem a7F {w:World} {ι:Io} {M:Ms} {cs:List C} {ul:List Int} {v:Value} (h:RS w ι M (.agg cs) v) (e:cs=ul.map (fun a=>C.t (.atm (.int .i64 a)))):v=.agg (ul.map (Value.int .i64)).toArray:=by
 subst e
 cases h with
 |agg vs hl hr=>
  congr 2
  refine List.ext_getElem (by simpa using hl) fun i h1 h2=>?_
  have:=hr i _ (lbf (by simpa using h2))
  simp only [List.getElem_map] at this ⊢
  rw [lbl,lbf h1] at this
  exact (RS.c this).inv_atm
theorem aU4 (hτ:C0 P τ) {op:BinOp} {t yt:TypeId} {x y:Operand} (ho:o.op=.binOp op t x y yt) {K:S->Prop} (h:b8I P τ op t (ev x) (ev y) K):∃s,K s∧QOp P o ev H s []:=by
 unfold b8I at h
 split at h
 ·rename_i k a k' b hx hy
  exact aQ5 ho hx hy h
 ·rename_i p q hx hy
  split at h
  ·rename_i ht
   obtain ⟨u,hu,_,rfl⟩:=(hτ.td _ _ ht).und
   split at h
   ·refine ⟨_,h.get,l9 fun a w ι M he hh=>⟨_,a1Y ho (v:=.bool (p == q)) ?_ ?_ ?_,.bool⟩⟩
    ·simp [(he.to hx).inv_atm]
    ·simp [(he.to hx).inv_atm]
    ·rw [(he.to hx).inv_atm,(he.to hy).inv_atm];exact run_eql_bool w t p q hu
   ·refine ⟨_,h.get,l9 fun a w ι M he hh=>⟨_,a1Y ho (v:=.bool (!(p == q))) ?_ ?_ ?_,.bool⟩⟩
    ·simp [(he.to hx).inv_atm]
    ·simp [(he.to hx).inv_atm]
    ·rw [(he.to hx).inv_atm,(he.to hy).inv_atm];simp [binOp,run_equal_bool w t p q hu]
   ·exact h.elim
  ·exact h.elim
 ·rename_i cx s hx hy
  split at h
  ·rename_i e _ _ _ _ ht
   have hu:=K5 hτ ht
   have key:∀(k:Bool->Prop),aA4 cx k->∃r,k r∧∀(a:Act) (w:World) (ι:Io) (M:Ms),S4 w ι M ev a->∃A n c,a.eval x=.slice A n c∧A.isNone=r:=by
    intro k hk
    unfold aA4 at hk
    split at hk
    ·refine ⟨true,hk,fun a w ι M he=>?_⟩
     have hr:=(he.to hx).inv_t
     generalize a.eval x=v at *
     cases hr with
     |sl f hrow hcap hmax hk hn hA hc hr=>exact ⟨_,_,_,rfl,by rw [(hn rfl).2.1];rfl⟩
    ·refine ⟨true,hk,fun a w ι M he=>?_⟩
     have hr:=(he.to hx).inv_t
     generalize a.eval x=v at *
     cases hr with
     |sl f hrow hcap hmax hk hn hA hc hr hx=>exact ⟨_,_,_,rfl,by rw [(hx.1 rfl).2];rfl⟩
    ·refine ⟨false,hk,fun a w ι M he=>?_⟩
     have hr:=(he.to hx).inv_t
     generalize a.eval x=v at *
     cases hr with
     |@sl _ _ _ _ _ _ A f hrow hcap hmax hk hn hA hc hr hx=>
      refine ⟨_,_,_,rfl,?_⟩
      cases A with
      |none=>exact absurd rfl (hx.2 rfl)
      |some a=>rfl
    ·rename_i rows _ _ _
     refine ⟨false,hk.2,fun a w ι M he=>?_⟩
     have hr:=(he.to hx).inv_t
     generalize a.eval x=v at *
     cases hr with
     |sl f hrow hcap hmax hk' hn hA hc hr=>exact ⟨_,_,_,rfl,by rw [hA (by intro e;subst e;simp at hk)];rfl⟩
    ·refine ⟨false,hk.2,fun a w ι M he=>?_⟩
     have hr:=(he.to hx).inv_c
     generalize a.eval x=v at *
     cases hr with
     |own h' q1 q2 q3 q4 q5=>exact ⟨_,_,_,rfl,by rw [q2 hk.1];rfl⟩
     |nil h'=>have:=hk.1;omega
    ·exact hk.elim
   have hnil:∀(a:Act) (w:World) (ι:Io) (M:Ms),S4 w ι M ev a->∃c,a.eval y=.slice none 0 c:=fun a w ι M he=>by
    have hr:=(he.to hy).inv_t
    generalize a.eval y=v at *
    cases hr with
    |sl f hrow hcap hmax hk hn hA hc hr=>obtain ⟨_,rfl,_⟩:=hn rfl;exact ⟨_,rfl⟩
   split at h
   ·obtain ⟨r,h,hr⟩:=key _ h
    refine ⟨_,h,l9 fun a w ι M he hh=>?_⟩
    obtain ⟨A,n,c,e1,rfl⟩:=hr a w ι M he
    obtain ⟨c',e2⟩:=hnil a w ι M he
    exact ⟨.bool A.isNone,a1Y ho (by simp [e1]) (by simp [e1]) (by rw [e1,e2];exact Lib.run_eql_slice_nil w t e A n c 0 c' hu),.bool⟩
   ·obtain ⟨r,h,hr⟩:=key _ h
    refine ⟨_,h,l9 fun a w ι M he hh=>?_⟩
    obtain ⟨A,n,c,e1,rfl⟩:=hr a w ι M he
    obtain ⟨c',e2⟩:=hnil a w ι M he
    exact ⟨.bool (!A.isNone),a1Y ho (by simp [e1]) (by simp [e1]) (by rw [e1,e2];exact run_neq_slice_nil_any w t e A n c 0 c' hu),.bool⟩
   ·exact h.elim
  ·exact h.elim
 ·rename_i pcs hx hy
  obtain ⟨hu,h⟩:=h
  have hp:∀(a:Act) (w:World) (ι:Io) (M:Ms),S4 w ι M ev a->∃p,a.eval x=.pointer (some p):=fun a w ι M he=>by
   have hr:=(he.to hx).inv_t
   generalize a.eval x=v at *
   cases hr with
   |ptr f hc hr=>exact ⟨_,rfl⟩
  split at h
  ·refine ⟨_,h,l9 fun a w ι M he hh=>?_⟩
   obtain ⟨p,e1⟩:=hp a w ι M he
   have e2:=(he.to hy).inv_atm
   exact ⟨.bool false,a1Y ho (by simp [e1]) (by simp [e1]) (by rw [e1,e2];exact run_eql_pointer_nil w t (some p) hu),.bool⟩
  ·refine ⟨_,h,l9 fun a w ι M he hh=>?_⟩
   obtain ⟨p,e1⟩:=hp a w ι M he
   have e2:=(he.to hy).inv_atm
   exact ⟨.bool true,a1Y ho (by simp [e1]) (by simp [e1]) (by rw [e1,e2];exact run_neq_pointer_nil w t (some p) hu),.bool⟩
  ·exact h.elim
 ·rename_i cs ds hx hy
  unfold bd7 at h
  obtain ⟨ul,e1,h⟩:=a8z h
  obtain ⟨bs,e2,h⟩:=a8z h
  obtain ⟨⟨⟨hg,hE⟩,hl⟩,h⟩:=h
  split at h
  ·refine ⟨_,h.get,l9 fun a w ι M he hh=>⟨.bool (ul == bs),?_,.bool⟩⟩
   rw [execOp,ho]
   simp only [a7F (he.to hx) e1,a7F (he.to hy) e2]
   simp [run_eqGuard_agg _ _ _ _ _ _ _ hg,run_eql_struct,hE ul bs w rfl hl]
  ·refine ⟨_,h.get,l9 fun a w ι M he hh=>⟨.bool (!(ul == bs)),?_,.bool⟩⟩
   rw [execOp,ho]
   simp only [a7F (he.to hx) e1,a7F (he.to hy) e2]
   simp [run_eqGuard_agg _ _ _ _ _ _ _ hg,run_neq_struct,hE ul bs w rfl hl]
  ·exact h.elim
 ·exact h.elim
theorem b2a {op:UnOp} {t:TypeId} {x:Operand} (ho:o.op=.unOp op t x) {K:S->Prop} (h:aun op (ev x) K):∃s,K s∧QOp P o ev H s []:=by
 unfold aun at h
 split at h
 ·rename_i k n hx
  obtain ⟨m,hm,h⟩:=h
  exact ⟨_,h,l9 fun a w ι M he hh=>⟨.int k m,by simp [execOp,ho,(he.to hx).inv_atm,Op.unary,Op.intArith];rw [hm];simp,.int⟩⟩
 ·rename_i b hx
  exact ⟨_,h,l9 fun a w ι M he hh=>⟨.bool (!b),by simp [execOp,ho,(he.to hx).inv_atm,Op.unary],.bool⟩⟩
 ·exact h.elim
theorem aY4 {x:Operand} (ho:o.op=.nilCheck x) {K:S->Prop} (h:aV6 (ev x) K):∃s,K s∧QOp P o ev H s []:=by
 unfold aV6 at h
 split at h
 ·rename_i id r o' hx
  exact ⟨_,h,l9 fun a w ι M he hh=>by
   have hr:=he.to hx
   generalize hv:a.eval x=v at hr
   cases hr with
   |c hr=>cases hr with
    |ptr hi=>exact ⟨_,by simp [execOp,ho,hv],.c (.ptr hi)⟩⟩
 ·rename_i cs hx
  exact ⟨_,h,l9 fun a w ι M he hh=>by
   have hr:=he.to hx
   generalize hv:a.eval x=v at hr
   cases hr with
   |c hr=>cases hr with
    |t hr=>cases hr with
     |ptr f hc hr=>exact ⟨_,by simp [execOp,ho,hv],.c (.t (.ptr f hc hr))⟩⟩
 ·exact h.elim
theorem aI9 (hτ:C0 P τ) {src dst:TypeId} {x:Operand} (ho:o.op=.convert src dst x) {K:S->Prop} (h:b4O τ src dst (ev x) K):∃s,K s∧QOp P o ev H s []:=by
 unfold b4O at h
 split at h
 ·rename_i k0 n d k _ _ _ _ hx hs hd
  obtain ⟨m,hm,h⟩:=h
  obtain ⟨u,hu,_⟩:=(hτ.td _ _ hs).und
  obtain ⟨u',hu',_,rfl⟩:=(hτ.td _ _ hd).und
  exact ⟨_,h,l9 fun a w ι M he hh=>⟨.int k m,by
   rw [hm]
   simp [execOp,ho,(he.to hx).inv_atm,convert,run_underlying hu,run_underlying hu',Conv.intToInt],.int⟩⟩
 ·exact h.elim
theorem ab0 {x:Operand} {i:Nat} (ho:o.op=.extract x i) {ss:List S} (hx:ev x=.tup ss) {s:S} (hs:ss[i]? =some s):QOp P o ev H s []:=
 l9 fun a w ι M he hh=>by
  generalize hv:a.eval x=v
  have hr:=he.to hx
  rw [hv] at hr
  cases hr with
  |tup vs hl hr=>
   have hlt:i<vs.length:=by rw [hl];exact (lbe.1 hs).1
   have:=hr i s hs
   rw [lbl,lbf hlt] at this
   exact ⟨vs[i],by simp [execOp,ho,hv,Instr.extract,hlt],this⟩
theorem aU1 (hτ:C0 P τ) {c:Call} {t:TypeId} {ts:List TypeId} {x:Operand} {xs:List Operand} (ho:o.op=.call c) (hc:c.callee=.builtin .len) (hts:c.argTypes.toList=t::ts) (hxs:c.args.toList=x::xs) {K:S->Prop}
 (h:b8A τ t (ev x) K):∃s,K s∧QOp P o ev H s []:=by
 obtain ⟨callee,args,argTypes⟩:=c
 simp only at hc hts hxs
 subst hc
 obtain rfl:argTypes=(t::ts).toArray:=by rw [← hts]
 obtain rfl:args=(x::xs).toArray:=by rw [← hxs]
 unfold b8A at h
 split at h
 ·rename_i e _ _ _ _ ht
  have hu:=K5 hτ ht
  split at h
  ·rename_i sz k rows hx
   refine ⟨_,h,l9 fun a w ι M he hh=>⟨.int .i64 rows.length,?_,.int⟩⟩
   have hr:=(he.to hx).inv_t
   generalize hv:a.eval x=v at *
   cases hr
   simp [execOp,ho,resolve,invoke,builtin,Builtin.len_,hv,run_underlying hu,goInt]
  ·rename_i id lo len app hx
   refine ⟨_,h,l9 fun a w ι M he hh=>⟨.int .i64 len,?_,.int⟩⟩
   have hr:=(he.to hx).inv_c
   generalize hv:a.eval x=v at *
   cases hr<;>simp [execOp,ho,resolve,invoke,builtin,Builtin.len_,hv,run_underlying hu,goInt]
  ·exact h.elim
 ·rename_i n e _ _ _ _ ht
  have hu:=aC1 hτ ht
  refine ⟨_,h,l9 fun a w ι M he hh=>⟨.int .i64 n,?_,.int⟩⟩
  simp [execOp,ho,resolve,invoke,builtin,Builtin.len_,run_underlying hu,goInt]
 ·exact h.elim
theorem ah3 {c:Call} (mx:Bool) (ho:o.op=.call c) (hc:c.callee=.builtin (cond mx .max .min)) {K:S->Prop}
 (h:b73 mx (c.args.toList.map ev) K):∃s,K s∧QOp P o ev H s []:=by
 obtain ⟨callee,args,argTypes⟩:=c
 simp only at hc h
 subst hc
 unfold b73 at h
 split at h
 ·rename_i k p k' q hx
  obtain ⟨args⟩:=args
  rcases args with _|⟨x,_|⟨y,_|⟨z,r⟩⟩⟩<;>simp at hx
  obtain ⟨hx,hy⟩:=hx
  refine ⟨_,h,l9 fun a w ι M he hh=>⟨.int k (cond mx (if q > p then q else p) (if q<p then q else p)),?_,.int⟩⟩
  cases mx<;>simp [execOp,ho,resolve,invoke,builtin,Builtin.min_,Builtin.max_,Builtin.min2,Builtin.max2,(he.to hx).inv_atm,(he.to hy).inv_atm]
 ·exact h.elim
theorem b1N {l:List S} {cs:List C} (h:b4h l=some cs):l=cs.map S.c:=by
 induction l generalizing cs with
 |nil=>simp [b4h] at h;subst h;rfl
 |cons s l ih=>cases s<;>simp [b4h] at h
               split at h
               ·rename_i xs hxs;injection h with h;subst h;rw [ih hxs];rfl
               ·cases h
theorem a84 {l:List C} {ts:List T} (h:aV9 l=some ts):l=ts.map C.t:=by
 induction l generalizing ts with
 |nil=>simp [aV9] at h;subst h;rfl
 |cons s l ih=>cases s<;>simp [aV9] at h
               split at h
               ·rename_i xs hxs;injection h with h;subst h;rw [ih hxs];rfl
               ·cases h
theorem aT6 {l:List (List C)} {ts:List (List T)} (h:aF7 l=some ts):l=toC ts:=by
 induction l generalizing ts with
 |nil=>simp [aF7] at h;subst h;rfl
 |cons s l ih=>simp only [aF7] at h
               split at h
               ·rename_i a b ha hb;injection h with h;subst h;rw [ih hb,a84 ha];rfl
               ·cases h
theorem a9p {fn:Fn} {first caps:Array Operand} (ho:o.op=.makeFunc fn first caps) (hf:first.toList=[]) {cs:List C} (hc:caps.toList.map ev=cs.map S.c):QOp P o ev H (.c (.fn fn cs)) []:=
 l9 fun a w ι M he hh=>by
  obtain rfl:first=#[]:=by simpa using hf
  refine ⟨.func fn #[] (caps.toList.map a.eval).toArray,by simp [execOp,ho,Instr.makeFunc];apply Array.ext';simp,.c (.fn _ ?_ fun j c hj=>?_)⟩
  ·rw [lbr];simpa using congrArg List.length hc
  ·have h1:(caps.toList.map ev)[j]? =some (.c c):=by rw [hc,lba,hj];rfl
   rw [lba] at h1
   cases hx:caps.toList[j]? with
   |none=>rw [hx] at h1;cases h1
   |some x=>
    rw [hx] at h1
    injection h1 with h1
    rw [lbl,lba,hx]
    exact (he.to h1).inv_c
theorem a8w {fn:Fn} {first caps:Array Operand} (ho:o.op=.makeFunc fn first caps) (hf:first.toList=[]) {ts:List T} (hc:caps.toList.map ev=(ts.map C.t).map S.c):QOp P o ev H (.c (.t (.fn fn ts))) []:=
 l9 fun a w ι M he hh=>by
  obtain rfl:first=#[]:=by simpa using hf
  refine ⟨.func fn #[] (caps.toList.map a.eval).toArray,by simp [execOp,ho,Instr.makeFunc];apply Array.ext';simp,.c (.t (.fn _ ?_ fun j c hj=>?_))⟩
  ·rw [lbr];simpa using congrArg List.length hc
  ·have h1:(caps.toList.map ev)[j]? =some (.c (.t c)):=by rw [hc,lba,lba,hj];rfl
   rw [lba] at h1
   cases hx:caps.toList[j]? with
   |none=>rw [hx] at h1;cases h1
   |some x=>
    rw [hx] at h1
    injection h1 with h1
    rw [lbl,lba,hx]
    exact (he.to h1).inv_t
end
end
end Go.Proofs.YtaejgdbahjjncaaGreat
