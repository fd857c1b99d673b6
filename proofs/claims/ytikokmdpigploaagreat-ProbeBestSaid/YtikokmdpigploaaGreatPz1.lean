/- Part 1. -/
import Derived.WalkKit
import Derived.WalkSpells
import Derived.Lib.Hide
import Derived.Laws.OwnMore
import Derived.Deep.Draws
import Derived.Laws.Small
import Derived.Laws.StructEq
import Derived.Great.BuildSlice
import Derived.Laws.MakeOwn
import Derived.Laws.Tables
import Derived.Deep.Upon
import Derived.Orders
namespace Go.Proofs.YtikokmdpigploaaGreat
set_option linter.unusedVariables false
set_option linter.unusedSimpArgs false
section
abbrev lba:=@List.getElem?_map
abbrev lbb:=@List.getElem?_append_left
abbrev lbc:=@List.getElem?_append_right
abbrev lbd:=@List.getElem?_eq_none
abbrev lbe:=@List.getElem?_eq_some_iff
abbrev lbf:=@List.getElem?_eq_getElem
abbrev lbg:=@List.getElem?_set
abbrev lbh:=@List.getElem?_range
abbrev lbi:=@List.getElem?_take
abbrev lbj:=@List.getElem?_drop
abbrev lbk:=@List.getElem?_replicate
abbrev lbl:=@List.getD_eq_getElem?_getD
abbrev lbm:=@List.mem_of_getElem?
abbrev lbn:=@List.take_of_length_le
abbrev lbo:=@List.drop_of_length_le
abbrev lbp:=@List.map_congr_left
abbrev lbq:=@List.length_append
abbrev lbr:=@List.length_map
abbrev lbs:=@List.length_take
abbrev lbt:=@List.length_filter_le
abbrev lbu:=@List.length_cons
abbrev lbv:=@List.all_eq_true
abbrev lbw:=@List.any_eq_true
abbrev lbx:=@List.mem_map
abbrev lby:=@List.mem_filter
abbrev lbz:=@List.mem_append
abbrev lbA:=@List.mem_cons
abbrev lbB:=@List.mem_range
abbrev lbC:=@List.map_append
abbrev lbD:=@List.append_assoc
abbrev lbE:=@List.getElem_mem
abbrev lbF:=@List.eq_nil_of_length_eq_zero
abbrev lbG:=@List.take_add_one
abbrev lbH:=@decide_eq_true
abbrev lbI:=@decide_eq_true_eq
abbrev lbJ:=@decide_eq_false
abbrev lbK:=@decide_eq_false_iff_not
abbrev lbL:=@of_decide_eq_true
abbrev lbM:=@Bool.and_eq_true
abbrev lbN:=@Bool.or_eq_true
abbrev lbO:=@Bool.and_eq_false_iff
abbrev lbP:=@Bool.not_eq_true
abbrev lbQ:=@Nat.le_refl
abbrev lbR:=@Nat.le_trans
abbrev lbS:=@Nat.mul_le_mul
abbrev lbT:=@Nat.mul_le_mul_right
abbrev lbU:=@Nat.succ_mul
abbrev lbV:=@Int.mul_le_mul_of_nonneg_left
abbrev lbW:=@Int.mul_le_mul_of_nonneg_right
abbrev lbX:=@Int.toNat_natCast
abbrev lbY:=@Int.toNat_of_nonneg
abbrev lbZ:=@Int.mul_nonneg
abbrev lb0:=@Rat.mul_nonneg
abbrev lb1:=@Rat.le_refl
abbrev lb2:=@Rat.not_lt
abbrev lb3:=@Option.some.injEq
abbrev lb4:=@Array.getElem?_eq_some_iff
abbrev lb5:=@List.getD_cons_zero
abbrev lb6:=@List.getD_cons_succ
abbrev lb7:=@List.take_append_drop
abbrev lb8:=@List.filter_append
abbrev lb9:=@List.pairwise_append
abbrev a1f:=@Classical.byContradiction
abbrev aS1:=@Decidable.not_not
end
section
open Go.RowKit
inductive SK where
 |any|full|nil|nul|non
inductive T where
 |atm (v:Value)
 |sl (size:Nat) (k:SK) (rows:List (List T))
 |ptr (cells:List T)
 |fn (f:Fn) (caps:List T)
inductive C where
 |t (x:T)
 |ptr (id row off:Nat)
 |own (id lo len:Nat) (app:Bool)
 |fn (f:Fn) (caps:List C)
inductive S where
 |junk
 |c (x:C)
 |agg (cs:List C)
 |tup (ss:List S)
abbrev J:S:=.junk
inductive BM where
 |live|froz|old|dead
def BM.gone:BM->Prop
 |.dead=>True
 |.old=>True
 |_=>False
structure Blk where
 mode:BM
 elem:TypeId
 size:Nat
 rows:List (List C)
 box:Bool
 app:Bool:=false
inductive Loc where
 |nil
 |blk (b cap size:Nat)
abbrev Hp:=List Blk
abbrev Io:=Nat->Option Loc
abbrev Ms:=Nat->Prop
def at2 {α:Type} (rows:List (List α)) (i j:Nat):Option α:=(rows[i]?).bind (·[j]?)
inductive RT (w:World) (M:Ms):T->Value->Prop
 |atm {v:Value} (h:v.oneCell'=true):RT w M (.atm v) v
 |sl {size:Nat} {k:SK} {rows:List (List T)} {b off cap:Nat} {A:Option Addr} (f:Nat->Nat->Value)
   (hrow:∀r ∈ rows,r.length=size) (hcap:rows.length<=cap) (hmax:cap<=maxLen) (hk:k=.full->cap=rows.length)
   (hn:k=.nil->rows=[]∧A=none∧cap=0) (hA:rows≠[]->A=some ⟨b,off,none⟩)
   (hc:∀i j c,at2 rows i j=some c->w.cell? ⟨b,off+(i*size+j),none⟩=some (f i j)∧¬M b)
   (hr:∀i j c,at2 rows i j=some c->RT w M c (f i j)) (hx:(k=.nul->rows=[]∧A=none)∧(k=.non->A≠none):=by exact ⟨(fun h=>nomatch h),(fun h=>nomatch h)⟩):RT w M (.sl size k rows) (.slice A rows.length cap)
 |ptr {cells:List T} {b off:Nat} (f:Nat->Value)
   (hc:∀j c,cells[j]? =some c->w.cell? ⟨b,off+j,none⟩=some (f j)∧¬M b)
   (hr:∀j c,cells[j]? =some c->RT w M c (f j)):RT w M (.ptr cells) (.pointer (some ⟨b,off,none⟩))
 |fn {f:Fn} {caps:List T} (vs:List Value) (hl:vs.length=caps.length)
   (hr:∀j c,caps[j]? =some c->RT w M c (vs.getD j undef)):RT w M (.fn f caps) (.func f #[] vs.toArray)
inductive RC (w:World) (ι:Io) (M:Ms):C->Value->Prop
 |t {x:T} {v:Value} (h:RT w M x v):RC w ι M (.t x) v
 |ptr {id r o b cap size:Nat} (h:ι id=some (.blk b cap size)):RC w ι M (.ptr id r o) (.pointer (some ⟨b,r*size+o,none⟩))
 |own {id lo len:Nat} {app:Bool} {b cap size:Nat} {A:Option Addr} {cap':Nat} (h:ι id=some (.blk b cap size)) (h1:lo+len<=cap)
   (h2:0<len->A=some ⟨b,lo*size,none⟩) (h3:len<=cap') (h4:cap'<=maxLen)
   (h5:app=true->lo=0∧A=some ⟨b,0,none⟩∧cap'=cap):RC w ι M (.own id lo len app) (.slice A len cap')
 |nil {id:Nat} {app:Bool} {A:Option Addr} (h:ι id=some .nil):RC w ι M (.own id 0 0 app) (.slice A 0 0)
 |fn {f:Fn} {caps:List C} (vs:List Value) (hl:vs.length=caps.length)
   (hr:∀j c,caps[j]? =some c->RC w ι M c (vs.getD j undef)):RC w ι M (.fn f caps) (.func f #[] vs.toArray)
inductive RS (w:World) (ι:Io) (M:Ms):S->Value->Prop
 |junk {v:Value}:RS w ι M .junk v
 |c {x:C} {v:Value} (h:RC w ι M x v):RS w ι M (.c x) v
 |agg {cs:List C} (vs:List Value) (hl:vs.length=cs.length)
   (hr:∀j c,cs[j]? =some c->RC w ι M c (vs.getD j undef)):RS w ι M (.agg cs) (.agg vs.toArray)
 |tup {ss:List S} (vs:List Value) (hl:vs.length=ss.length)
   (hr:∀j s,ss[j]? =some s->RS w ι M s (vs.getD j undef)):RS w ι M (.tup ss) (.tuple vs.toArray)
theorem RT.one {w:World} {M:Ms} {x:T} {v:Value} (h:RT w M x v):v.oneCell'=true:=by
 cases h<;>first|assumption|rfl
theorem RC.one {w:World} {ι:Io} {M:Ms} {x:C} {v:Value} (h:RC w ι M x v):v.oneCell'=true:=by
 cases h<;>first|exact RT.one ‹_›|rfl
def N1 (w:World) (ι:Io) (M:Ms) (k:Blk):Loc->Prop
 |.nil=>k.rows=[]
 |.blk b cap size=>k.size=size∧0<size∧k.rows.length<=cap∧cap<=maxLen∧(∀ r ∈ k.rows,r.length=size)∧
   ∃cur:Array Value,w.heap[b]? =some (.cells cur k.elem (0,0))∧cur.size=cap*size∧
    ∀i j c,at2 k.rows i j=some c->∃u,cur[i*size+j]? =some u∧RC w ι M c u
structure p9 (w:World) (ι:Io) (M:Ms) (H:Hp):Prop where
 blk:∀(id:Nat) (k:Blk),H[id]? =some k->k.mode≠.dead->∀l,ι id=some l->N1 w ι M k l
 liv:∀(id:Nat) (k:Blk),H[id]? =some k->k.mode=.live->∀b cap size,ι id=some (.blk b cap size)->M b
 fro:∀(id:Nat) (k:Blk),H[id]? =some k->k.mode=.froz->∀b cap size,ι id=some (.blk b cap size)->¬M b
 inj:∀(id id':Nat) (k k':Blk),H[id]? =some k->H[id']? =some k'->k.mode=.live->k'.mode=.live->
  ∀b cap size cap' size',ι id=some (.blk b cap size)->ι id'=some (.blk b cap' size')->id=id'
 old:∀(id id':Nat) (k k':Blk),H[id]? =some k->H[id']? =some k'->k.mode=.old->k'.mode=.live->
  ∀b cap size cap' size',ι id=some (.blk b cap size)->ι id'=some (.blk b cap' size')->k'.app=true∧size=size'∧k.rows.length<=k'.rows.length
def a34 (ι:Io) (H:Hp) (b:Nat):Prop:=∃id k cap size,H[id]? =some k∧k.mode=.live∧ι id=some (.blk b cap size)
def MB (w:World) (M:Ms):Prop:=∀b,M b->b<w.heap.size
def Z1 (ι:Io) (n:Nat):Prop:=∀id,n<=id->ι id=none
structure a37 (w:World) (ι:Io) (M:Ms) (H:Hp) (w':World) (ι':Io) (M':Ms) (H':Hp):Prop where
 os:w'.os=w.os
 tape:w'.tape=w.tape
 output:w'.output=w.output
 size:w.heap.size<=w'.heap.size
 keep:∀b,b<w.heap.size->¬a34 ι H b->w'.heap[b]? =w.heap[b]?
 same:∀id,id<H.length->ι' id=ι id
 mnew:∀b,M' b->M b∨w.heap.size<=b
 mold:∀b,M b->M' b∨a34 ι H b
 live:∀b,a34 ι' H' b->a34 ι H b∨w.heap.size<=b
 len:H.length<=H'.length
theorem v6 {w:World} {b:Nat} {o:Obj} (h:w.heap[b]? =some o):b<w.heap.size:=(lb4.1 h).1
theorem aG3 {w:World} {a:Addr} {u:Value} (h:w.cell? a=some u):a.block<w.heap.size:=World.block_lt_of_cell? w a h
theorem RT.keep {w w':World} {M M':Ms} (hk:∀b,b<w.heap.size->¬M b->w'.heap[b]? =w.heap[b]?) (hm:∀b,M' b->M b∨w.heap.size<=b)
 {x:T} {v:Value} (h:RT w M x v):RT w' M' x v:=by
 induction h with
 |atm h=>exact .atm h
 |sl f hrow hcap hmax hk1 hn hA hc hr hx ih=>
  refine .sl f hrow hcap hmax hk1 hn hA (fun i j c hc'=>?_) ih hx
  obtain ⟨h1,h2⟩:=hc i j c hc'
  have hlt:=aG3 h1
  refine ⟨(World.cell?_of_block (hk _ hlt h2)).trans h1,fun hM=>?_⟩
  rcases hm _ hM with h3|h3
  ·exact h2 h3
  ·exact absurd h3 (by simpa using hlt)
 |ptr f hc hr ih=>
  refine .ptr f (fun j c hc'=>?_) ih
  obtain ⟨h1,h2⟩:=hc j c hc'
  have hlt:=aG3 h1
  refine ⟨(World.cell?_of_block (hk _ hlt h2)).trans h1,fun hM=>?_⟩
  rcases hm _ hM with h3|h3
  ·exact h2 h3
  ·exact absurd h3 (by simpa using hlt)
 |fn vs hl hr ih=>exact .fn vs hl ih
theorem RC.keep {w w':World} {ι ι':Io} {M M':Ms} (hk:∀b,b<w.heap.size->¬M b->w'.heap[b]? =w.heap[b]?) (hm:∀b,M' b->M b∨w.heap.size<=b)
 (hi:∀id l,ι id=some l->ι' id=some l) {x:C} {v:Value} (h:RC w ι M x v):RC w' ι' M' x v:=by
 induction h with
 |t h=>exact .t (h.keep hk hm)
 |ptr h=>exact .ptr (hi _ _ h)
 |own h h1 h2 h3 h4 h5=>exact .own (hi _ _ h) h1 h2 h3 h4 h5
 |nil h=>exact .nil (hi _ _ h)
 |fn vs hl hr ih=>exact .fn vs hl ih
theorem RS.keep {w w':World} {ι ι':Io} {M M':Ms} (hk:∀b,b<w.heap.size->¬M b->w'.heap[b]? =w.heap[b]?) (hm:∀b,M' b->M b∨w.heap.size<=b)
 (hi:∀id l,ι id=some l->ι' id=some l) {x:S} {v:Value} (h:RS w ι M x v):RS w' ι' M' x v:=by
 induction h with
 |junk=>exact .junk
 |c h=>exact .c (h.keep hk hm hi)
 |agg vs hl hr=>exact .agg vs hl fun j c hc=>(hr j c hc).keep hk hm hi
 |tup vs hl hr ih=>exact .tup vs hl ih
theorem a34.inM {w:World} {ι:Io} {M:Ms} {H:Hp} (h:p9 w ι M H) {b:Nat} (hl:a34 ι H b):M b:=by
 obtain ⟨id,k,cap,size,h1,h2,h3⟩:=hl
 exact h.liv id k h1 h2 b cap size h3
theorem a37.refl (w:World) (ι:Io) (M:Ms) (H:Hp):a37 w ι M H w ι M H:=
 ⟨rfl,rfl,rfl,lbQ _,fun _ _ _=>rfl,fun _ _=>rfl,fun _ h=>.inl h,fun _ h=>.inl h,fun _ h=>.inl h,lbQ _⟩
theorem a37.trans {w w1 w2:World} {ι ι1 ι2:Io} {M M1 M2:Ms} {H H1 H2:Hp} (hb:MB w M) (a:a37 w ι M H w1 ι1 M1 H1) (c:a37 w1 ι1 M1 H1 w2 ι2 M2 H2):
 a37 w ι M H w2 ι2 M2 H2 where
 os:=c.os.trans a.os
 tape:=c.tape.trans a.tape
 output:=c.output.trans a.output
 size:=lbR a.size c.size
 keep:=fun k hk hl=>(c.keep k (Nat.lt_of_lt_of_le hk a.size) fun h=>by rcases a.live k h with h|h;exact hl h;omega).trans (a.keep k hk hl)
 same:=fun id hid=>(c.same id (Nat.lt_of_lt_of_le hid a.len)).trans (a.same id hid)
 mnew:=fun k h=>by
  rcases c.mnew k h with h|h
  ·exact a.mnew k h
  ·exact .inr (lbR a.size h)
 mold:=fun k h=>by
  rcases a.mold k h with h1|h1
  ·rcases c.mold k h1 with h2|h2
   ·exact .inl h2
   ·rcases a.live k h2 with h3|h3
    ·exact .inr h3
    ·have:=hb k h;omega
  ·exact .inr h1
 live:=fun k h=>by
  rcases c.live k h with h|h
  ·exact a.live k h
  ·exact .inr (lbR a.size h)
 len:=lbR a.len c.len
structure Ext (w w':World):Prop where
 os:w'.os=w.os
 tape:w'.tape=w.tape
 output:w'.output=w.output
 size:w.heap.size<=w'.heap.size
 keep:∀b,b<w.heap.size->w'.heap[b]? =w.heap[b]?
theorem Ext.refl (w:World):Ext w w:=⟨rfl,rfl,rfl,lbQ _,fun _ _=>rfl⟩
def C3 (ι:Io) (n m:Nat) (new:Nat->Loc):Io:=fun id=>if n<=id∧id<n+m then some (new (id - n)) else ι id
def a53 (M:Ms) (m:Nat) (new:Nat->Loc):Ms:=fun b=>M b∨∃k,k<m∧∃cap size,new k=.blk b cap size
def K7 (w:World) (ι:Io) (M:Ms) (n:Nat) (s:S) (B:List Blk) (v:Value) (w':World):Prop:=
 ∃new:Nat->Loc,RS w' (C3 ι n B.length new) (a53 M B.length new) s v∧Ext w w'∧
  (∀ k blk,B[k]? =some blk->blk.mode=.live∧N1 w' (C3 ι n B.length new) (a53 M B.length new) blk (new k))∧
  (∀ k b cap size,k<B.length->new k=.blk b cap size->w.heap.size<=b∧b<w'.heap.size)∧
  (∀ k k' b cap size cap' size',k<B.length->k'<B.length->new k=.blk b cap size->new k'=.blk b cap' size'->k=k')
def H3 (w:World) (ι:Io) (M:Ms) (H:Hp) (s:S) (H':Hp) (v:Value) (w':World):Prop:=
 ∃(ι':Io) (M':Ms),RS w' ι' M' s v∧p9 w' ι' M' H'∧MB w' M'∧Z1 ι' H'.length∧a37 w ι M H w' ι' M' H'
theorem a8p {ι:Io} {n m:Nat} {new:Nat->Loc} (hf:∀k,k<m->ι (n+k)=none) {id:Nat} {l:Loc} (h:ι id=some l):C3 ι n m new id=some l:=by
 unfold C3
 split
 ·rename_i hc
  have:=hf (id - n) (by omega)
  rw [show n+(id - n)=id by omega,h] at this
  cases this
 ·exact h
theorem K7.gpost {w:World} {ι:Io} {M:Ms} {H:Hp} {s:S} {B:List Blk} {v:Value} {w':World} (hH:p9 w ι M H) (hM:MB w M) (hF:Z1 ι H.length)
 (h:K7 w ι M H.length s B v w'):H3 w ι M H s (H++B) v w':=by
 obtain ⟨new,h1,h2,h3,h4,h5⟩:=h
 have hnone:∀k,k<B.length->ι (H.length+k)=none:=fun k _=>hF _ (by omega)
 have hold:∀id,id<H.length->C3 ι H.length B.length new id=ι id:=fun id hid=>by
  unfold C3;rw [if_neg (by omega)]
 have hnew:∀k,k<B.length->C3 ι H.length B.length new (H.length+k)=some (new k):=fun k hk=>by
  unfold C3;rw [if_pos (by omega)];congr 2;omega
 have hdist:∀id b cap size,ι id=some (.blk b cap size)->∀k,H[id]? =some k->k.mode≠.dead->b<w.heap.size:=fun id b cap size hi k hk hd=>by
  have:=hH.blk id k hk hd _ hi
  obtain ⟨_,_,_,_,_,cur,hc,_⟩:=this
  exact v6 hc
 refine ⟨_,_,h1,⟨?_,?_,?_,?_,?_⟩,?_,?_,?_⟩
 ·intro id k hk hd l hl
  by_cases hid:id<H.length
  ·rw [lbb hid] at hk
   rw [hold id hid] at hl
   have hb:=hH.blk id k hk hd l hl
   cases l with
   |nil=>exact hb
   |blk b cap size=>
    obtain ⟨q1,q2,q3,q4,q5,cur,q6,q7,q8⟩:=hb
    refine ⟨q1,q2,q3,q4,q5,cur,(h2.keep b (v6 q6)).trans q6,q7,fun i j c hc=>?_⟩
    obtain ⟨u,hu,hr⟩:=q8 i j c hc
    refine ⟨u,hu,hr.keep (fun b hb _=>h2.keep b hb) (fun b hb=>?_) (fun id l=>a8p hnone)⟩
    rcases hb with hb|⟨k,hk,cap,size,he⟩
    ·exact .inl hb
    ·exact .inr (h4 k b cap size hk he).1
  ·rw [lbc (by omega)] at hk
   have hlt:=(lbe.1 hk).1
   have e:C3 ι H.length B.length new id=some (new (id - H.length)):=by
    unfold C3;rw [if_pos (by omega)]
   rw [e] at hl
   injection hl with hl
   subst hl
   exact (h3 _ _ hk).2
 ·intro id k hk hl b cap size hi
  by_cases hid:id<H.length
  ·rw [lbb hid] at hk
   rw [hold id hid] at hi
   exact .inl (hH.liv id k hk hl b cap size hi)
  ·rw [lbc (by omega)] at hk
   have hlt:=(lbe.1 hk).1
   have e:C3 ι H.length B.length new id=some (new (id - H.length)):=by
    unfold C3;rw [if_pos (by omega)]
   rw [e] at hi
   injection hi with hi
   exact .inr ⟨_,hlt,cap,size,hi⟩
 ·intro id k hk hl b cap size hi
  by_cases hid:id<H.length
  ·rw [lbb hid] at hk
   rw [hold id hid] at hi
   have hb:=hdist _ _ _ _ hi k hk (by rw [hl];intro h;cases h)
   rintro (hM'|⟨k',hk',cap',size',he⟩)
   ·exact hH.fro id k hk hl b cap size hi hM'
   ·have:=(h4 _ _ _ _ hk' he).1
    omega
  ·rw [lbc (by omega)] at hk
   have:=(h3 _ _ hk).1
   rw [hl] at this
   cases this
 ·intro id id' k k' hk hk' hl hl' b cap size cap' size' hi hi'
  by_cases hid:id<H.length<;>by_cases hid':id'<H.length
  ·rw [lbb hid] at hk
   rw [lbb hid'] at hk'
   rw [hold _ hid] at hi
   rw [hold _ hid'] at hi'
   exact hH.inj id id' k k' hk hk' hl hl' b cap size cap' size' hi hi'
  ·rw [lbb hid] at hk
   rw [hold _ hid] at hi
   have:=hdist _ _ _ _ hi k hk (by rw [hl];intro h;cases h)
   rw [lbc (by omega)] at hk'
   have hlt:=(lbe.1 hk').1
   have e:C3 ι H.length B.length new id'=some (new (id' - H.length)):=by
    unfold C3;rw [if_pos (by omega)]
   rw [e] at hi'
   injection hi' with hi'
   have:=(h4 _ _ _ _ hlt hi').1
   omega
  ·rw [lbb hid'] at hk'
   rw [hold _ hid'] at hi'
   have:=hdist _ _ _ _ hi' k' hk' (by rw [hl'];intro h;cases h)
   rw [lbc (by omega)] at hk
   have hlt:=(lbe.1 hk).1
   have e:C3 ι H.length B.length new id=some (new (id - H.length)):=by
    unfold C3;rw [if_pos (by omega)]
   rw [e] at hi
   injection hi with hi
   have:=(h4 _ _ _ _ hlt hi).1
   omega
  ·rw [lbc (by omega)] at hk hk'
   have hlt:=(lbe.1 hk).1
   have hlt':=(lbe.1 hk').1
   have e:C3 ι H.length B.length new id=some (new (id - H.length)):=by
    unfold C3;rw [if_pos (by omega)]
   have e':C3 ι H.length B.length new id'=some (new (id' - H.length)):=by
    unfold C3;rw [if_pos (by omega)]
   rw [e] at hi
   rw [e'] at hi'
   injection hi with hi
   injection hi' with hi'
   have:=h5 _ _ _ _ _ _ _ hlt hlt' hi hi'
   omega
 ·intro id id' k k' hk hk' hl hl' b cap size cap' size' hi hi'
  by_cases hid:id<H.length
  ·rw [lbb hid] at hk
   rw [hold _ hid] at hi
   by_cases hid':id'<H.length
   ·rw [lbb hid'] at hk'
    rw [hold _ hid'] at hi'
    exact hH.old id id' k k' hk hk' hl hl' b cap size cap' size' hi hi'
   ·have:=hdist _ _ _ _ hi k hk (by rw [hl];intro h;cases h)
    rw [lbc (by omega)] at hk'
    have hlt:=(lbe.1 hk').1
    have e:C3 ι H.length B.length new id'=some (new (id' - H.length)):=by
     unfold C3;rw [if_pos (by omega)]
    rw [e] at hi'
    injection hi' with hi'
    have:=(h4 _ _ _ _ hlt hi').1
    omega
  ·rw [lbc (by omega)] at hk
   have:=(h3 _ _ hk).1
   rw [hl] at this
   cases this
 ·intro b hb
  rcases hb with hb|⟨k,hk,cap,size,he⟩
  ·exact Nat.lt_of_lt_of_le (hM b hb) h2.size
  ·exact (h4 k b cap size hk he).2
 ·intro id hid
  rw [lbq] at hid
  unfold C3
  rw [if_neg (by omega)]
  exact hF id (by omega)
 ·refine ⟨h2.os,h2.tape,h2.output,h2.size,fun b hb _=>h2.keep b hb,fun id hid=>hold id hid,?_,fun b hb=>.inl (.inl hb),?_,by simp⟩
  ·intro b hb
   rcases hb with hb|⟨k,hk,cap,size,he⟩
   ·exact .inl hb
   ·exact .inr (h4 k b cap size hk he).1
  ·rintro b ⟨id,k,cap,size,hk,hl,hi⟩
   by_cases hid:id<H.length
   ·rw [lbb hid] at hk
    rw [hold _ hid] at hi
    exact .inl ⟨id,k,cap,size,hk,hl,hi⟩
   ·rw [lbc (by omega)] at hk
    have hlt:=(lbe.1 hk).1
    have e:C3 ι H.length B.length new id=some (new (id - H.length)):=by
     unfold C3;rw [if_pos (by omega)]
    rw [e] at hi
    injection hi with hi
    exact .inr (h4 _ _ _ _ hlt hi).1
def aZ7 (P : Program) (g : FuncId) : Prop := ∃ fn, P.funcs[g]? = some fn ∧ fn.body.isSome = true ∧ fn.name ≠ "runtime.NumGoroutine"
def Y9 (P:Program) (g:FuncId) (args:List S) (H:Hp) (s:S) (B:List Blk):Prop:=
 aZ7 P g∧∀(w:World) (ι:Io) (M:Ms) (vals:List Value),vals.length=args.length->(∀ j s,args[j]? =some s->RS w ι M s (vals.getD j undef))->p9 w ι M H->MB w M->
  (∀ k,k<B.length->ι (H.length+k)=none)->Calls P g vals.toArray w fun e w'=>∃v,e=.returned v∧K7 w ι M H.length s B v w'
def b9 (P:Program) (g:FuncId) (args:List S) (H:Hp) (s:S) (H':Hp):Prop:=
 aZ7 P g∧∀(w:World) (ι:Io) (M:Ms) (vals:List Value),vals.length=args.length->(∀ j s,args[j]? =some s->RS w ι M s (vals.getD j undef))->p9 w ι M H->MB w M->
  Z1 ι H.length->Calls P g vals.toArray w fun e w'=>∃v,e=.returned v∧H3 w ι M H s H' v w'
end
section
open Go.RowKit
inductive TK where
 |bas
 |bool
 |int (k:IntKind)
 |slice (e:TypeId)
 |arr (n:Nat) (e:TypeId)
 |struct (fs:List (Nat × Nat × Bool))
structure TD where
 k:TK
 agg:Bool
 size:Nat
 bytes:Nat
 zero:List Value
abbrev Tab:=Nat->Option TD
abbrev Env:=List S
def I0 (v:Value):C:=
 match v with
 |.slice none 0 0=>.t (.sl 0 .nil [])
 |v=>.t (.atm v)
def aZ1 (v:Value):S:=
 match v with
 |.agg cs=>cond (cs.toList.all (·.oneCell')) (.agg (cs.toList.map I0)) .junk
 |.tuple _=>.junk
 |.slice none 0 0=>.c (.t (.sl 0 .nil []))
 |v=>.c (.t (.atm v))
def I7 (env:Env):Operand->S
 |.tmp t=>env.getD t .junk
 |.const v=>aZ1 v
 |.global _=>.junk
 |.func f=>.c (.t (.fn (.func f) []))
section
variable {α β:Type}
def aP2:Nat->List α->(List α->Prop)->Prop
 |0,_,k=>k []
 |_+1,[],_=>False
 |n+1,x::l,k=>aP2 n l fun r=>k (x::r)
def ao7:Nat->List α->(List α->Prop)->Prop
 |0,l,k=>k l
 |_+1,[],_=>False
 |n+1,_::l,k=>ao7 n l k
def a3q (n:Nat) (l:List α) (k:α->Prop):Prop:=
 List.rec (motive:=fun _=>Nat->Prop) (fun _=>False) (fun x _ ih n=>Nat.rec (motive:=fun _=>Prop) (k x) (fun n _=>ih n) n) l n
def a5O (n:Nat) (v:α) (l:List α) (k:List α->Prop):Prop:=
 List.rec (motive:=fun _=>Nat->(List α->Prop)->Prop) (fun _ k=>k []) (fun x r ih n k=>Nat.rec (motive:=fun _=>Prop) (k (v::r)) (fun n _=>ih n fun q=>k (x::q)) n) l n k
def a4B:Nat->List α->List α->(List α->Prop)->Prop
 |_,[],l,k=>k l
 |_,_::_,[],_=>False
 |0,x::xs,_::l,k=>a4B 0 xs l fun r=>k (x::r)
 |n+1,x::xs,y::l,k=>a4B n (x::xs) l fun r=>k (y::r)
def a9w (f:α->β):List α->(List β->Prop)->Prop
 |[],k=>k []
 |x::l,k=>a9w f l fun r=>k (f x::r)
def ae7 (l r:List α) (k:List α->Prop):Prop:=
 List.rec (motive:=fun _=>(List α->Prop)->Prop) (fun k=>k r) (fun x _ ih k=>ih fun q=>k (x::q)) l k
def a9t (l:List α) (n:Nat) (k:Nat->Prop):Prop:=
 List.rec (motive:=fun _=>Nat->Prop) (fun n=>k n) (fun _ _ ih n=>ih (n+1)) l n
end
def aY8:List C->Option (List T)
 |[]=>some []
 |.t x::r=>match aY8 r with
  |some xs=>some (x::xs)
  |none=>none
 |_::_=>none
def aJ2:List (List C)->Option (List (List T))
 |[]=>some []
 |x::r=>match aY8 x,aJ2 r with
  |some a,some b=>some (a::b)
  |_,_=>none
def b7 (k:IntKind) (n:Int):S:=.c (.t (.atm (.int k n)))
def j0 (b:Bool):S:=.c (.t (.atm (.bool b)))
def ah2 (s:S) (k:S->Prop):Prop:=
 match s with
 |.junk=>k .junk
 |.c x=>k (.c x)
 |.agg cs=>k (.agg cs)
 |.tup ss=>k (.tup ss)
structure a2s (b:Bool) (k:S->Prop):Prop where
 yes:b=true->k (j0 true)
 no:b=false->k (j0 false)
structure am4 (p:Prop) [Decidable p] (k:S->Prop):Prop where
 yes:p->k (j0 true)
 no:¬p->k (j0 false)
def aN4 (s:S) (k:S->Prop):Prop:=
 match s with
 |.junk=>k .junk
 |.c x=>match x with
  |.t y=>match y with
   |.atm v=>match v with
    |.bool b=>a2s b k
    |v=>k (.c (.t (.atm v)))
   |y=>k (.c (.t y))
  |x=>k (.c x)
 |.agg cs=>k (.agg cs)
 |.tup ss=>k (.tup ss)
def a2L (s:S) (k:List C->Prop):Prop:=
 match s with
 |.c x=>k [x]
 |.agg cs=>k cs
 |_=>False
def J0 (k:IntKind) (x n:Int):Prop:=n=k.wrap x
def b1U (d:TD) (row:List C) (o:Nat) (K:S->Prop):Prop:=
 ao7 o row fun r=>cond d.agg (aP2 d.size r fun cs=>K (.agg cs)) (a3q 0 r fun c=>K (.c c))
def aJ7 (d:TD) (row:List T) (K:S->Prop):Prop:=
 cond d.agg (aP2 d.size row fun cs=>a9w C.t cs fun cs=>K (.agg cs)) (a3q 0 row fun c=>K (.c (.t c)))
def b8k (b:Blk) (r:Nat) (k:List C->Prop):Prop:=
 match b.box with
 |true=>match b.rows,r with
  |[row],0=>k row
  |_,_=>False
 |false=>∃row,b.rows[r]? =some row∧k row
def a1Y (b:Blk) (k:Prop):Prop:=match b.mode with|.dead=>False|_=>k
def a4y (b:Blk) (k:Prop):Prop:=match b.mode,b.app with|.live,false=>k|_,_=>False
def ai6 (b:Blk) (k k':Prop):Prop:=match b.mode with|.live=>cond b.app k k'|_=>False
structure a4m (a b c:Prop):Prop where
 out:a∨b∨c
theorem a4m.data {a b c:Prop} (h:a):a4m a b c:=⟨.inl h⟩
theorem a4m.own {a b c:Prop} (h:b):a4m a b c:=⟨.inr (.inl h)⟩
theorem a4m.weak {a b c:Prop} (h:c):a4m a b c:=⟨.inr (.inr h)⟩
structure aj1 (a b:Prop):Prop where
 out:a∨b
theorem aj1.data {a b:Prop} (h:a):aj1 a b:=⟨.inl h⟩
theorem aj1.own {a b:Prop} (h:b):aj1 a b:=⟨.inr h⟩
def as6 (τ:Tab) (ev:Operand->S) (H:Hp) (t:TypeId) (x:Operand) (K:S->Prop):Prop:=
 match τ t with
 |none=>False
 |some d=>match ev x with
  |.c (.ptr id r o)=>a3q id H fun b=>a1Y b (b8k b r fun row=>b1U d row o K)
  |.c (.t (.ptr cells))=>aJ7 d cells K
  |_=>False
def C2 (b:Blk) (rows:List (List C)):Blk:=⟨b.mode,b.elem,b.size,rows,b.box,b.app⟩
def aE3 (τ:Tab) (ev:Operand->S) (H:Hp) (t:TypeId) (x v:Operand) (K:Hp->Prop):Prop:=
 match τ t with
 |none=>False
 |some d=>match ev x with
  |.c (.ptr id r o)=>a3q id H fun b=>a4y b <| a2L (ev v) fun cs=>cond (Nat.beq cs.length d.size)
    (b8k b r fun row=>a4B o cs row fun row'=>
      match b.box with
      |true=>a5O id (C2 b [row']) H K
      |false=>a5O id (C2 b (b.rows.set r row')) H K) False
  |_=>False
def ad9 (τ:Tab) (s:TypeId) (f:Nat) (k:Nat->Prop):Prop:=
 match τ s with
 |some ⟨.struct fs,_,_,_,_⟩=>match fs[f]? with
  |some (off,size,_)=>cond (Nat.beq size 0) False (k off)
  |none=>False
 |_=>False
def a6N (τ:Tab) (ev:Operand->S) (s:TypeId) (x:Operand) (f:Nat) (K:S->Prop):Prop:=
 ad9 τ s f fun off=>match ev x with
  |.c (.ptr id r o)=>K (.c (.ptr id r (o+off)))
  |.c (.t (.ptr cells))=>ao7 off cells fun cs=>K (.c (.t (.ptr cs)))
  |_=>False
def a4z (τ:Tab) (e:TypeId) (k:Nat->Prop):Prop:=match τ e with|some d=>k d.size|none=>False
def a3M (τ:Tab) (ev:Operand->S) (H:Hp) (t:TypeId) (x i:Operand) (K:S->Prop):Prop:=
 match ev i with
 |.c (.t (.atm (.int _ n)))=>match τ t with
  |some ⟨.slice e,_,_,_,_⟩=>match ev x with
   |.c (.t (.sl size k rows))=>a4z τ e fun s=>cond (Nat.beq s size) (∃ row,0<=n∧rows[n.toNat]? =some row∧K (.c (.t (.ptr row)))) False
   |.c (.own id lo len app)=>a4z τ e fun s=>a3q id H fun b=>a1Y b (cond (Nat.beq s b.size) ((0<=n∧n<(len:Int))∧K (.c (.ptr id (lo+n.toNat) 0))) False)
   |_=>False
  |some ⟨.arr m e,_,_,_,_⟩=>a4z τ e fun s=>match ev x with
   |.c (.ptr id r o)=>(0<=n∧n<(m:Int))∧K (.c (.ptr id r (o+n.toNat*s)))
   |.c (.t (.ptr cells))=>(0<=n∧n<(m:Int))∧ao7 (n.toNat*s) cells fun cs=>K (.c (.t (.ptr cs)))
   |_=>False
  |_=>False
 |_=>False
def P4 (ev:Operand->S) (x:Option Operand) (dflt:Int) (k:Int->Prop):Prop:=
 match x with
 |none=>k dflt
 |some x=>match ev x with
  |.c (.t (.atm (.int _ n)))=>k n
  |_=>False
def a1B (k:SK) (hi max:Option Operand):SK:=
 match k,hi,max with
 |.full,none,none=>.full
 |_,_,_=>.any
def a5a (τ:Tab) (ev:Operand->S) (H:Hp) (t:TypeId) (x:Operand) (lo hi max:Option Operand) (K:S->Prop):Prop:=
 match τ t with
 |some ⟨.slice e,_,_,_,_⟩=>match max with
  |none=>match ev x with
   |.c (.t (.sl 0 .nil _))=>P4 ev lo 0 fun l=>P4 ev hi 0 fun h=>a4z τ e fun s=>(0<=l∧l<=h∧h<=0)∧K (.c (.t (.sl 0 .nil [])))
   |.c (.t (.sl size k rows))=>P4 ev lo 0 fun l=>P4 ev hi rows.length fun h=>a4z τ e fun s=>
     cond (Nat.beq s size) ((0<=l∧l<=h∧h<=rows.length)∧K (.c (.t (.sl size (a1B k hi max) ((rows.take h.toNat).drop l.toNat))))) False
   |.c (.own id l0 len app)=>P4 ev lo 0 fun l=>P4 ev hi len fun h=>
     a4z τ e fun s=>a3q id H fun b=>a1Y b <| cond (Nat.beq s b.size) (((0<=l∧l<=h∧h<=(len:Int))∧K (.c (.own id (l0+l.toNat) (h - l).toNat (app && lo.isNone))))) False
   |_=>False
  |some y=>match ev y with
   |.c (.t (.atm (.int _ m)))=>match ev x with
    |.c (.t (.sl size k rows))=>P4 ev lo 0 fun l=>P4 ev hi 0 fun h=>a4z τ e fun s=>cond hi.isSome
      (cond (Nat.beq s size) ((0<=l∧l<=h∧m=h∧h<=rows.length)∧K (.c (.t (.sl size .full ((rows.take h.toNat).drop l.toNat))))) False) False
    |.c (.own id l0 len app)=>P4 ev lo 0 fun l=>P4 ev hi 0 fun h=>cond hi.isSome
      (a4z τ e fun s=>a3q id H fun b=>a1Y b <| cond (Nat.beq s b.size) (((0<=l∧l<=h∧m=h∧h<=(len:Int))∧K (.c (.own id (l0+l.toNat) (h - l).toNat false)))) False) False
    |_=>False
   |_=>False
 |_=>False
def aI3 (k:IntKind) (a b n:Int):Prop:=n=a.fdiv (2 ^ min b.toNat k.bits)
def a48 (op:BinOp) (k:IntKind) (a b n:Int):Prop:=
 match op with
 |.and=>n=k.wrap (BitVec.ofInt k.bits a &&& BitVec.ofInt k.bits b).toNat
 |.or=>n=k.wrap (BitVec.ofInt k.bits a ||| BitVec.ofInt k.bits b).toNat
 |.xor=>n=k.wrap (BitVec.ofInt k.bits a ^^^ BitVec.ofInt k.bits b).toNat
 |.andNot=>n=k.wrap (BitVec.ofInt k.bits a &&& ~~~ BitVec.ofInt k.bits b).toNat
 |_=>False
def bb1 (op:BinOp) (k k':IntKind) (a b:Int) (K:S->Prop):Prop:=
 match op with
 |.shl=>0<=b∧∃n,J0 k (a*2 ^ min b.toNat k.bits) n∧K (b7 k n)
 |.shr=>0<=b∧∃n,aI3 k a b n∧K (b7 k n)
 |op=>cond (decide (k=k')) (match op with
  |.add=>∃n,J0 k (a+b) n∧K (b7 k n)
  |.sub=>∃n,J0 k (a - b) n∧K (b7 k n)
  |.mul=>∃n,J0 k (a*b) n∧K (b7 k n)
  |.quo=>b≠0∧∃n,J0 k (a.tdiv b) n∧K (b7 k n)
  |.rem=>b≠0∧K (b7 k (a.tmod b))
  |.eql=>am4 (a=b) K
  |.neq=>am4 (a≠b) K
  |.lss=>am4 (a<b) K
  |.leq=>am4 (a<=b) K
  |.gtr=>am4 (a > b) K
  |.geq=>am4 (a≥b) K
  |op=>∃n,a48 op k a b n∧K (b7 k n)) False
def aE2 (x:C) (k:Bool->Prop):Prop:=
 match x with
 |.t (.sl _ .nil _)=>k true
 |.t (.sl _ .nul _)=>k true
 |.t (.sl _ .non _)=>k false
 |.t (.sl _ _ rows)=>0<rows.length∧k false
 |.own _ _ len _=>0<len∧k false
 |_=>False
def EqS (P:Program) (t:TypeId) (n:Nat):Prop:=P.eqGuardType P.depth t=false∧∀(ul bs:List Int) (w:World),ul.length=n->bs.length=n->
 (Op.equalIn 10000 t (.agg (ul.map (Value.int .i64)).toArray) (.agg (bs.map (Value.int .i64)).toArray)).run P w=.ok (ul == bs) w
def aQ4:List C->(List Int->Prop)->Prop
 |[],k=>k []
 |.t (.atm (.int .i64 a))::cs,k=>aQ4 cs fun l=>k (a::l)
 |_,_=>False
def bi3 (P:Program) (op:BinOp) (t:TypeId) (cs ds:List C) (K:S->Prop):Prop:=
 aQ4 cs fun ul=>aQ4 ds fun bs=>(EqS P t ul.length∧bs.length=ul.length)∧match op with
  |.eql=>a2s (ul == bs) K
  |.neq=>a2s (!(ul == bs)) K
  |_=>False
def b9o (P:Program) (τ:Tab) (op:BinOp) (t:TypeId) (x y:S) (K:S->Prop):Prop:=
 match x,y with
 |.c (.t (.atm (.int k a))),.c (.t (.atm (.int k' b)))=>bb1 op k k' a b K
 |.c (.t (.atm (.bool a))),.c (.t (.atm (.bool b)))=>match τ t with
  |some ⟨.bool,_,_,_,_⟩=>match op with
   |.eql=>a2s (a == b) K
   |.neq=>a2s (!(a == b)) K
   |_=>False
  |_=>False
 |.c x,.c (.t (.sl _ .nil []))=>match τ t with
  |some ⟨.slice _,_,_,_,_⟩=>match op with
   |.eql=>aE2 x fun b=>K (j0 b)
   |.neq=>aE2 x fun b=>K (j0 (!b))
   |_=>False
  |_=>False
 |.agg cs,.agg ds=>bi3 P op t cs ds K
 |_,_=>False
def aun (op:UnOp) (x:S) (K:S->Prop):Prop:=
 match op,x with
 |.neg,.c (.t (.atm (.int k a)))=>∃n,J0 k (0 - a) n∧K (b7 k n)
 |.not,.c (.t (.atm (.bool b)))=>K (j0 (!b))
 |_,_=>False
def b5y (τ:Tab) (src dst:TypeId) (x:S) (K:S->Prop):Prop:=
 match x,τ src,τ dst with
 |.c (.t (.atm (.int _ a))),some _,some ⟨.int k,_,_,_,_⟩=>∃n,J0 k a n∧K (b7 k n)
 |_,_,_=>False
def I1 (e:TypeId) (size:Nat) (rows:List (List C)) (box:Bool):Blk:=⟨.live,e,size,rows,box,false⟩
def b5H (e:TypeId) (size:Nat) (rows:List (List C)):Blk:=⟨.live,e,size,rows,false,true⟩
def a3z (b:Blk):Blk:=⟨.old,b.elem,b.size,b.rows,b.box,true⟩
def b0Q (τ:Tab) (ev:Operand->S) (n:Nat) (t:TypeId) (l c:Operand) (K:S->List Blk->Prop):Prop:=
 match ev l,ev c,τ t with
 |.c (.t (.atm (.int _ a))),.c (.t (.atm (.int _ b))),some ⟨.slice e,_,_,_,_⟩=>match τ e with
  |some d=>cond (Nat.beq d.size 0) False ((0<=a∧a<=b∧b*(d.bytes+1)<=140737488355328)∧
    a9w I0 d.zero fun z=>K (.c (.own n 0 a.toNat true)) [I1 e d.size (List.replicate a.toNat z) false])
  |none=>False
 |_,_,_=>False
def a9L (fs:List (Nat × Nat × Bool)) (i:Nat) (cs:List C) (k:Nat->Prop):Prop:=
 match fs[i]? with
 |some (off,size,_)=>cond (Nat.beq cs.length size && Nat.blt 0 size) (k off) False
 |none=>False
def aP3 (fs:List (Nat × Nat × Bool)) (cells:List C):List (Nat × S)->(List C->Prop)->Prop
 |[],k=>k cells
 |(i,s)::rest,k=>a2L s fun cs=>a9L fs i cs fun off=>a4B off cs cells fun cells'=>aP3 fs cells' rest k
def aP9 (size:Nat) (cells:List C):List (Nat × S)->(List C->Prop)->Prop
 |[],k=>k cells
 |(i,s)::rest,k=>a2L s fun cs=>cond (Nat.beq cs.length size && Nat.blt 0 size) (a4B (i*size) cs cells fun cells'=>aP9 size cells' rest k) False
def az9 (τ:Tab) (ev:Operand->S) (t:TypeId) (parts:List (Nat × Operand)) (K:S->Prop):Prop:=
 match τ t with
 |some ⟨.struct fs,_,_,_,z⟩=>a9w I0 z fun z=>aP3 fs z (parts.map fun p=>(p.1,ev p.2)) fun cs=>K (.agg cs)
 |some ⟨.arr _ e,_,_,_,z⟩=>a4z τ e fun s=>a9w I0 z fun z=>aP9 s z (parts.map fun p=>(p.1,ev p.2)) fun cs=>K (.agg cs)
 |_=>False
def aJ5 (size:Nat) (rows:List (List C)):List (Nat × S)->(List (List C)->Prop)->Prop
 |[],k=>k rows
 |(i,s)::rest,k=>a2L s fun cs=>cond (Nat.beq cs.length size && Nat.blt i rows.length) (a5O i cs rows fun rows'=>aJ5 size rows' rest k) False
def a2p (τ:Tab) (ev:Operand->S) (n:Nat) (t:TypeId) (len:Nat) (parts:List (Nat × Operand)) (K:S->List Blk->Prop):Prop:=
 match τ t with
 |some ⟨.slice e,_,_,_,_⟩=>match τ e with
  |some d=>cond (Nat.beq d.size 0 || Nat.ble 16777216 (len*d.size)) False (a9w I0 d.zero fun z=>aJ5 d.size (List.replicate len z) (parts.map fun p=>(p.1,ev p.2)) fun rows=>
    match aJ2 rows with
    |some rs=>a4m (K (.c (.t (.sl d.size .full rs))) []) (K (.c (.own n 0 len true)) [I1 e d.size rows false]) (K (.c (.t (.sl d.size .any rs))) [])
    |none=>K (.c (.own n 0 len true)) [I1 e d.size rows false])
  |none=>False
 |_=>False
def b7Q (ev:Operand->S) (n:Nat) (t:TypeId) (x:Operand) (K:S->List Blk->Prop):Prop:=
 a2L (ev x) fun cs=>match cs with
  |[]=>False
  |c::r=>match aY8 (c::r) with
   |some ts=>aj1 (K (.c (.t (.ptr ts))) []) (K (.c (.ptr n 0 0)) [I1 t (c::r).length [c::r] true])
   |none=>K (.c (.ptr n 0 0)) [I1 t (c::r).length [c::r] true]
def aU9 (τ:Tab) (n:Nat) (t:TypeId) (K:S->List Blk->Prop):Prop:=
 match τ t with
 |some d=>a9w I0 d.zero fun z=>cond (Nat.beq z.length 0) False (K (.c (.ptr n 0 0)) [I1 t z.length [z] true])
 |none=>False
def b9h (τ:Tab) (t:TypeId) (x:S) (K:S->Prop):Prop:=
 match τ t with
 |some ⟨.slice _,_,_,_,_⟩=>match x with
  |.c (.t (.sl _ _ rows))=>K (b7 .i64 rows.length)
  |.c (.own _ _ len _)=>K (b7 .i64 len)
  |_=>False
 |some ⟨.arr n _,_,_,_,_⟩=>K (b7 .i64 n)
 |_=>False
def toC (rows:List (List T)):List (List C):=rows.map (·.map C.t)
def b8x (size:Nat) (H:Hp) (x:S) (k:List (List C)->Prop):Prop:=
 match x with
 |.c (.t (.sl s _ rows))=>(rows.length=0∨s=size)∧k (toC rows)
 |.c (.own id lo len _)=>a3q id H fun b=>a1Y b (cond (Nat.beq b.size size) (lo+len<=b.rows.length∧k ((b.rows.drop lo).take len)) False)
 |_=>False
def a9F (τ:Tab) (ev:Operand->S) (H:Hp) (n:Nat) (t:TypeId) (s x:Operand) (Kq:S->List Blk->Prop) (Kg:S->Hp->Prop):Prop:=
 match τ t with
 |some ⟨.slice e,_,_,_,_⟩=>match τ e with
  |some d=>cond (Nat.beq d.size 0) False (b8x d.size H (ev x) fun xr=>
    match ev s with
    |.c (.t (.sl _ .nil _))=>xr.length*(d.bytes+1)<=140737488355328∧Kq (.c (.own n 0 xr.length true)) [I1 e d.size xr false]
    |.c (.t (.sl sz .full rows))=>((rows.length=0∨(0<xr.length∧sz=d.size))∧(rows.length+xr.length)*(d.bytes+1)<=140737488355328)∧
      Kq (.c (.own n 0 (rows.length+xr.length) true)) [I1 e d.size (toC rows++xr) false]
    |.c (.own id _ len true)=>a3q id H fun b=>cond (Nat.beq b.size d.size && Nat.beq b.elem e) (ai6 b
      ((len=b.rows.length∧(len+xr.length)*(d.bytes+1)<=140737488355328)∧
        a5O id (a3z b) H fun H1=>ae7 H1 [b5H e d.size (b.rows++xr)] fun H'=>Kg (.c (.own n 0 (len+xr.length) true)) H')
      ((len<=b.rows.length∧(len+xr.length)*(d.bytes+1)<=140737488355328)∧
        a5O id ⟨.dead,e,d.size,[],false,false⟩ H fun H1=>ae7 H1 [I1 e d.size (b.rows.take len++xr) false] fun H'=>Kg (.c (.own n 0 (len+xr.length) true)) H')) False
    |_=>False)
  |none=>False
 |_=>False
def b2c (τ:Tab) (ev:Operand->S) (n:Nat) (t t':TypeId) (s x:Operand) (Kq:S->List Blk->Prop):Prop:=
 match τ t,τ t' with
 |some ⟨.slice e,_,_,_,_⟩,some ⟨.int _,_,_,_,_⟩=>match τ e with
  |some d=>cond (Nat.beq d.size 0) False (match ev s,ev x with
    |.c (.t (.sl _ .nil _)),.c (.t (.atm (.int .i64 m)))=>(1<=m∧m.toNat*(d.bytes+1)<=140737488355328)∧
      a9w I0 d.zero fun z=>Kq (.c (.own n 0 m.toNat true)) [I1 e d.size (List.replicate m.toNat z) false]
    |_,_=>False)
  |none=>False
 |_,_=>False
def bd1 (τ:Tab) (t:TypeId) (x:S) (K:S->Prop):Prop:=
 match τ t with
 |some ⟨.slice _,_,_,_,_⟩=>match x with
  |.c (.t (.sl _ .nil _))=>K (b7 .i64 0)
  |_=>False
 |_=>False
def C9 (lo len:Nat) (rows xr:List (List C)):List (List C):=rows.take lo++(xr.take len++rows.drop (lo+(xr.take len).length))
def b1i (τ:Tab) (ev:Operand->S) (H:Hp) (t:TypeId) (x s:Operand) (Kg:S->Hp->Prop):Prop:=
 match τ t with
 |some ⟨.slice e,_,_,_,_⟩=>match τ e with
  |some d=>cond (Nat.beq d.size 0) False (b8x d.size H (ev s) fun xr=>
    match ev x with
    |.c (.own id lo len _)=>a3q id H fun b=>a4y b (cond (Nat.beq b.size d.size && Nat.beq b.elem e) (lo+len<=b.rows.length∧
      a5O id (C2 b (C9 lo len b.rows xr)) H fun H'=>Kg (b7 .i64 (xr.take len).length) H') False)
    |_=>False)
  |none=>False
 |_=>False
def aG0 (τ:Tab) (ev:Operand->S) (H:Hp) (t:TypeId) (x:Operand) (Kg:S->Hp->Prop):Prop:=
 match τ t with
 |some ⟨.slice e,_,_,_,_⟩=>match τ e with
  |some d=>cond (Nat.beq d.size 0) False (a9w I0 d.zero fun z=>
    match ev x with
    |.c (.own id lo len _)=>a3q id H fun b=>a4y b (cond (Nat.beq b.size d.size && Nat.beq b.elem e) (lo+len<=b.rows.length∧
      a5O id (C2 b (C9 lo len b.rows (List.replicate len z))) H fun H'=>Kg .junk H') False)
    |_=>False)
  |none=>False
 |_=>False
def b57:List S->Option (List C)
 |[]=>some []
 |.c x::r=>match b57 r with
  |some xs=>some (x::xs)
  |none=>none
 |_::_=>none
def b7K (max:Bool):List S->(S->Prop)->Prop
 |[.c (.t (.atm (.int k a))),.c (.t (.atm (.int _ b)))],K=>K (b7 k (cond max (if b > a then b else a) (if b<a then b else a)))
 |_,_=>False
def b6n (P:Program) (g:FuncId) (args:List S) (H:Hp) (Kq:S->List Blk->Prop) (Kg:S->Hp->Prop):Prop:=
 (∃ r B,Y9 P g args H r B∧aN4 r fun r=>Kq r B)∨(∃ r H',b9 P g args H r H'∧aN4 r fun r=>Kg r H')
def aY4 (s:S) (k:S->Prop):Prop:=match s with
 |.c (.ptr id r o)=>k (.c (.ptr id r o))
 |.c (.t (.ptr cs))=>k (.c (.t (.ptr cs)))
 |_=>False
def aop (P:Program) (τ:Tab) (ev:Operand->S) (H:Hp) (op:Op) (Kq:S->List Blk->Prop) (Kg:S->Hp->Prop):Prop:=
 match op with
 |.move x|.assign x=>ah2 (ev x) fun s=>Kq s []
 |.pick c a b=>match ev c with
  |.c (.t (.atm (.bool t)))=>cond t (ah2 (ev a) fun s=>Kq s []) (ah2 (ev b) fun s=>Kq s [])
  |_=>False
 |.load t x=>as6 τ ev H t x fun s=>aN4 s fun s=>Kq s []
 |.store t x v=>aE3 τ ev H t x v fun H'=>Kg .junk H'
 |.fieldAddr s x f=>a6N τ ev s x f fun s=>Kq s []
 |.indexAddr t x i=>a3M τ ev H t x i fun s=>Kq s []
 |.slice t x lo hi max=>a5a τ ev H t x lo hi max fun s=>Kq s []
 |.binOp op t x y _=>b9o P τ op t (ev x) (ev y) fun s=>Kq s []
 |.unOp op _ x=>aun op (ev x) fun s=>Kq s []
 |.convert src dst x=>b5y τ src dst (ev x) fun s=>Kq s []
 |.makeSlice t l c=>a9t H 0 fun n=>b0Q τ ev n t l c Kq
 |.build t parts=>az9 τ ev t parts.toList fun s=>Kq s []
 |.buildSlice t n parts=>a9t H 0 fun m=>a2p τ ev m t n parts.toList Kq
 |.box t x=>a9t H 0 fun n=>b7Q ev n t x Kq
 |.alloc t=>a9t H 0 fun n=>aU9 τ n t Kq
 |.extract x i=>match ev x with
  |.tup ss=>a3q i ss fun s=>aN4 s fun s=>Kq s []
  |_=>False
 |.makeFunc fn first caps=>match first.toList,b57 (caps.toList.map ev) with
  |[],some cs=>match aY8 cs with
   |some ts=>Kq (.c (.t (.fn fn ts))) []
   |none=>Kq (.c (.fn fn cs)) []
  |_,_=>False
 |.call c=>match c.callee with
  |.builtin .len=>match c.argTypes.toList,c.args.toList with
   |t::_,x::_=>b9h τ t (ev x) fun s=>Kq s []
   |_,_=>False
  |.builtin .append=>match c.argTypes.toList,c.args.toList with
   |[t,t'],[s,x]=>cond (Nat.beq t t') (a9t H 0 fun n=>a9F τ ev H n t s x Kq Kg) (a9t H 0 fun n=>b2c τ ev n t t' s x Kq)
   |_,_=>False
  |.builtin .cap=>match c.argTypes.toList,c.args.toList with
   |[t],[x]=>bd1 τ t (ev x) fun s=>Kq s []
   |_,_=>False
  |.builtin .copy=>match c.argTypes.toList,c.args.toList with
   |[t,t'],[x,s]=>cond (Nat.beq t t') (b1i τ ev H t x s Kg) False
   |_,_=>False
  |.builtin .clear=>match c.argTypes.toList,c.args.toList with
   |[t],[x]=>aG0 τ ev H t x Kg
   |_,_=>False
  |.builtin .min=>b7K false (c.args.toList.map ev) fun s=>Kq s []
  |.builtin .max=>b7K true (c.args.toList.map ev) fun s=>Kq s []
  |.value f=>match ev f with
   |.c (.t (.fn (.func g) caps))=>b6n P g (c.args.toList.map ev++caps.map fun x=>.c (.t x)) H Kq Kg
   |.c (.fn (.func g) caps)=>b6n P g (c.args.toList.map ev++caps.map .c) H Kq Kg
   |_=>False
  |_=>False
 |.nilCheck x=>aY4 (ev x) fun s=>Kq s []
 |_=>False
end
section
open Go.RowKit
section
variable {α β:Type}
theorem at6 {n:Nat} {l:List α} {k:List α->Prop} (h:aP2 n l k):n<=l.length∧k (l.take n):=by
 induction n generalizing l k with
 |zero=>exact ⟨Nat.zero_le _,by simpa [aP2] using h⟩
 |succ n ih=>cases l with
  |nil=>exact h.elim
  |cons x l=>obtain ⟨h1,h2⟩:=ih h;exact ⟨by simp;omega,by simpa using h2⟩
theorem a87 {n:Nat} {l:List α} {k:List α->Prop} (h:ao7 n l k):n<=l.length∧k (l.drop n):=by
 induction n generalizing l with
 |zero=>cases l<;>exact ⟨Nat.zero_le _,by simpa [ao7] using h⟩
 |succ n ih=>cases l with
  |nil=>exact h.elim
  |cons x l=>obtain ⟨h1,h2⟩:=ih h;exact ⟨by simp;omega,by simpa using h2⟩
theorem O1 {n:Nat} {l:List α} {k:α->Prop} (h:a3q n l k):∃x,l[n]? =some x∧k x:=by
 induction n generalizing l with
 |zero=>cases l with
  |nil=>exact h.elim
  |cons x l=>exact ⟨x,rfl,h⟩
 |succ n ih=>cases l with
  |nil=>exact h.elim
  |cons x l=>obtain ⟨y,h1,h2⟩:=ih h;exact ⟨y,by simpa using h1,h2⟩
theorem M5 {n:Nat} {v:α} {l:List α} {k:List α->Prop}:a5O n v l k↔k (l.set n v):=by
 induction l generalizing n k with
 |nil=>show k []↔_;simp
 |cons x l ih=>cases n with
  |zero=>exact Iff.rfl
  |succ n=>show a5O n v l (fun q=>k (x::q))↔_;rw [ih];rfl
theorem b3z {o:Nat} {xs l:List α} {k:List α->Prop} (h:a4B o xs l k):o+xs.length<=l.length∨xs=[]:=by
 induction l generalizing o xs k with
 |nil=>cases xs with
  |nil=>exact .inr rfl
  |cons x xs=>cases o<;>exact h.elim
 |cons y l ih=>cases xs with
  |nil=>exact .inr rfl
  |cons x xs=>
   refine .inl ?_
   cases o with
   |zero=>rcases ih h with h|h<;>(try subst h)<;>simp at *;omega
   |succ o=>rcases ih h with h|h<;>simp at *;omega
theorem a7M {o:Nat} {xs l:List α} {k:List α->Prop} (h:a4B o xs l k) (h0:xs≠[]):o+xs.length<=l.length∧k (l.take o++xs++l.drop (o+xs.length)):=by
 refine ⟨(b3z h).resolve_right h0,?_⟩
 induction l generalizing o xs k with
 |nil=>cases xs with
  |nil=>exact absurd rfl h0
  |cons x xs=>cases o<;>exact h.elim
 |cons y l ih=>cases xs with
  |nil=>exact absurd rfl h0
  |cons x xs=>
   cases o with
   |zero=>
    cases xs with
    |nil=>cases l<;>simpa [a4B] using h
    |cons x' xs=>simpa using ih (o:=0) h (by simp)
   |succ o=>simpa [show o+1+(xs.length+1)=(o+(xs.length+1))+1 by omega] using ih (o:=o) h (by simp)
theorem aQ9 {o:Nat} {xs l:List α} {k:List α->Prop} (hl:o+xs.length<=l.length) (h0:xs≠[]) (h:k (l.take o++xs++l.drop (o+xs.length))):a4B o xs l k:=by
 induction l generalizing o xs k with
 |nil=>cases xs with
  |nil=>exact absurd rfl h0
  |cons x xs=>simp at hl
 |cons y l ih=>cases xs with
  |nil=>exact absurd rfl h0
  |cons x xs=>
   cases o with
   |zero=>
    cases xs with
    |nil=>cases l<;>simpa [a4B] using h
    |cons x' xs=>exact ih (o:=0) (by simp at hl ⊢;omega) (by simp) (by simpa using h)
   |succ o=>exact ih (o:=o) (by simp at hl ⊢;omega) (by simp) (by simpa [show o+1+(xs.length+1)=(o+(xs.length+1))+1 by omega] using h)
theorem a0Y {f:α->β} {l:List α} {k:List β->Prop}:a9w f l k↔k (l.map f):=by
 induction l generalizing k with
 |nil=>simp [a9w]
 |cons x l ih=>simp [a9w,ih]
theorem a3j {a l:List α} {k:List α->Prop}:ae7 a l k↔k (a++l):=by
 induction a generalizing k with
 |nil=>exact Iff.rfl
 |cons x a ih=>show ae7 a l (fun q=>k (x::q))↔_;rw [ih];rfl
theorem a0Z {l:List α} {n:Nat} {k:Nat->Prop}:a9t l n k↔k (n+l.length):=by
 induction l generalizing n with
 |nil=>exact Iff.rfl
 |cons x l ih=>show a9t l (n+1) k↔_;rw [ih,Nat.add_assoc,Nat.add_comm 1];rfl
end
theorem a25 {s:S} {k:S->Prop}:ah2 s k↔k s:=by cases s<;>rfl
theorem a2s.get {b:Bool} {k:S->Prop} (h:a2s b k):k (j0 b):=by cases b<;>first|exact h.yes rfl|exact h.no rfl
theorem am4.get {p:Prop} [Decidable p] {k:S->Prop} (h:am4 p k):k (j0 (decide p)):=by
 by_cases hp:p
 ·rw [lbH hp];exact h.yes hp
 ·rw [lbJ hp];exact h.no hp
theorem a5g {s:S} {k:S->Prop} (h:aN4 s k):k s:=by
 cases s with
 |c x=>cases x with
  |t y=>cases y with
   |atm v=>cases v<;>first|exact a2s.get h|exact h
   |_=>exact h
  |_=>exact h
 |_=>exact h
theorem a1W {s:S} {k:List C->Prop} (h:a2L s k):∃cs,k cs∧((∃ c,s=.c c∧cs=[c])∨s=.agg cs):=by
 cases s with
 |c x=>exact ⟨_,h,.inl ⟨x,rfl,rfl⟩⟩
 |agg cs=>exact ⟨_,h,.inr rfl⟩
 |_=>exact h.elim
theorem E6 {b:Bool} {x:Prop} (h:cond b x False):b=true∧x:=by cases b with|true=>exact ⟨rfl,h⟩|false=>exact h.elim
theorem Y6 {b:Bool} {x:Prop} (h:cond b False x):b=false∧x:=by cases b with|false=>exact ⟨rfl,h⟩|true=>exact h.elim
structure ay3 (P:Program) (t:TypeId) (d:TD):Prop where
 info:∃i,P.info? t=some i∧i.size=d.size∧i.bytes=d.bytes∧∃z,i.zero=some z∧z.cells.toList=d.zero∧(∀ v ∈ d.zero,v.oneCell'=true)∧d.zero.length=d.size
 und:∃u,P.underlying t=some u∧match d.k with
  |.bas=>d.agg=false∧(match u with|.struct _|.array _ _=>False|_=>True)
  |.bool=>d.agg=false∧u=.bool
  |.int k=>d.agg=false∧u=.int k
  |.slice e=>d.agg=false∧u=.slice e
  |.arr n e=>d.agg=true∧u=.array n e
  |.struct fs=>d.agg=true∧∃fields,u=.struct fields∧fs.map (fun x=>(x.1,x.2.1))=fields.toList.map (fun f=>(f.offset,P.cellsOf f.type))∧(∀ f ∈ fields.toList,(P.info? f.type).isSome=true)∧
    fields.toList.mapM (fun f=>(P.info? f.type).map fun i=>(f.offset,i.size))=some (fs.map (fun x=>(x.1,x.2.1)))
structure D3 (P:Program) (τ:Tab):Prop where
 mixed:P.follows .mixedOrders=true
 td:∀t d,τ t=some d->ay3 P t d
def b5o (P:Program) (o:Oper) (a:Act) (w:World) (R:Value->World->Prop):Prop:=
 ∀(K:Act->World->Prop) (Q:Exit->Act->World->Prop),(∀ v w',R v w'->K (a.put o.dst v) w')->o.wp P a w K Q
theorem t9 {P:Program} {o:Oper} {a:Act} {w w':World} {R:Value->World->Prop} {v:Value} (h:(execOp a.eval o).run P w=.ok (.value v) w') (hr:R v w'):b5o P o a w R:=by
 intro K Q hK
 unfold Oper.wp
 rw [h]
 exact hK _ _ hr
theorem aq1 {P:Program} {o:Oper} {a:Act} {w w':World} {R:Value->World->Prop} (h:(execOp a.eval o).run P w=.ok .skip w') (hr:R undef w'):b5o P o a w R:=by
 intro K Q hK
 unfold Oper.wp
 rw [h]
 exact hK _ _ hr
theorem al7 {P:Program} {o:Oper} {a:Act} {w w':World} {R:Value->World->Prop} {f:FuncId} {args:Array Value} (h:(execOp a.eval o).run P w=.ok (.enter f args) w')
 (hr:Calls P f args w' fun e w''=>∃v,e=.returned v∧R v w''):b5o P o a w R:=by
 intro K Q hK
 unfold Oper.wp
 rw [h]
 refine Calls.mono hr ?_
 rintro e w'' ⟨v,rfl,hv⟩
 exact hK _ _ hv
abbrev X2 (w:World) (ι:Io) (M:Ms) (ev:Operand->S) (a:Act):Prop:=∀x,RS w ι M (ev x) (a.eval x)
def QOp (P:Program) (o:Oper) (ev:Operand->S) (H:Hp) (s:S) (B:List Blk):Prop:=
 ∀(a:Act) (w:World) (ι:Io) (M:Ms),X2 w ι M ev a->p9 w ι M H->MB w M->(∀ k,k<B.length->ι (H.length+k)=none)->b5o P o a w (K7 w ι M H.length s B)
def GOp (P:Program) (o:Oper) (ev:Operand->S) (H:Hp) (s:S) (H':Hp):Prop:=
 ∀(a:Act) (w:World) (ι:Io) (M:Ms),X2 w ι M ev a->p9 w ι M H->MB w M->Z1 ι H.length->b5o P o a w (H3 w ι M H s H')
theorem K7.of_none {w w':World} {ι:Io} {M:Ms} {n:Nat} {s:S} {v:Value} (h:RS w' ι M s v) (he:Ext w w'):K7 w ι M n s [] v w':=by
 refine ⟨fun _=>.nil,h.keep (fun _ _ _=>rfl) ?_ (fun id l hl=>?_),he,by simp,by simp,by simp⟩
 ·rintro b (hb|⟨k,hk,_⟩)
  ·exact .inl hb
  ·simp at hk
 ·unfold C3;rw [if_neg (by simp),hl]
theorem t5 {P:Program} {o:Oper} {ev:Operand->S} {H:Hp} {s:S}
 (h:∀(a:Act) (w:World) (ι:Io) (M:Ms),X2 w ι M ev a->p9 w ι M H->∃v,(execOp a.eval o).run P w=.ok (.value v) w∧RS w ι M s v):QOp P o ev H s []:=by
 intro a w ι M he hh hm _
 obtain ⟨v,h1,h2⟩:=h a w ι M he hh
 exact t9 h1 (K7.of_none h2 (Ext.refl w))
theorem RS.inv_c {w:World} {ι:Io} {M:Ms} {x:C} {v:Value} (h:RS w ι M (.c x) v):RC w ι M x v:=by cases h;assumption
theorem RS.inv_t {w:World} {ι:Io} {M:Ms} {x:T} {v:Value} (h:RS w ι M (.c (.t x)) v):RT w M x v:=by cases h with|c h=>cases h;assumption
theorem RS.inv_atm {w:World} {ι:Io} {M:Ms} {x v:Value} (h:RS w ι M (.c (.t (.atm x))) v):v=x:=by cases h.inv_t;rfl
theorem RS.mk_atm {w:World} {ι:Io} {M:Ms} {v:Value} (h:v.oneCell'=true):RS w ι M (.c (.t (.atm v))) v:=.c (.t (.atm h))
theorem RS.int {w:World} {ι:Io} {M:Ms} {k:IntKind} {n:Int}:RS w ι M (b7 k n) (.int k n):=.mk_atm rfl
theorem RS.bool {w:World} {ι:Io} {M:Ms} {b:Bool}:RS w ι M (j0 b) (.bool b):=.mk_atm rfl
theorem RC.const {w:World} {ι:Io} {M:Ms} {v:Value} (h:v.oneCell'=true):RC w ι M (I0 v) v:=by
 unfold I0
 split
 ·exact .t (.sl (b:=0) (off:=0) (fun _ _=>undef) (by simp) (by simp) (by unfold maxLen;omega) (by simp) (by simp) (by simp) (by simp [at2]) (by simp [at2]))
 ·exact .t (.atm h)
theorem RS.const {w:World} {ι:Io} {M:Ms} (v:Value):RS w ι M (aZ1 v) v:=by
 unfold aZ1
 split
 ·rename_i cs
  cases hb:cs.toList.all (·.oneCell') with
  |false=>exact .junk
  |true=>
   have:RS w ι M (.agg (cs.toList.map I0)) (.agg cs.toList.toArray):=.agg cs.toList (by simp) fun j c hc=>by
    rw [lba] at hc
    cases hj:cs.toList[j]? with
    |none=>rw [hj] at hc;cases hc
    |some u=>
     rw [hj] at hc
     injection hc with hc
     subst hc
     rw [lbl,hj]
     exact RC.const (lbv.1 hb u (lbm hj))
   simpa using this
 ·exact .junk
 ·exact .c (.t (.sl (b:=0) (off:=0) (fun _ _=>undef) (by simp) (by simp) (by unfold maxLen;omega) (by simp) (by simp) (by simp) (by simp [at2]) (by simp [at2])))
 ·rename_i h1 h2 h3
  refine .c (.t (.atm ?_))
  cases v<;>first|rfl|(exact absurd rfl (h1 _))|(exact absurd rfl (h2 _))
end
section
open Go.RowKit
section
variable {P:Program} {τ:Tab} {o:Oper} {ev:Operand->S} {H:Hp}
theorem X2.to {w:World} {ι:Io} {M:Ms} {a:Act} (h:X2 w ι M ev a) {x:Operand} {s:S} (e:ev x=s):RS w ι M s (a.eval x):=e ▸ h x
theorem aM9 (x:Operand) (ho:o.op=.move x∨o.op=.assign x):QOp P o ev H (ev x) []:=
 t5 fun a w ι M he hh=>⟨a.eval x,by rcases ho with ho|ho<;>simp [execOp,ho],he x⟩
theorem b4f (c x y:Operand) (t:Bool) (ho:o.op=.pick c x y) (hc:ev c=j0 t):QOp P o ev H (cond t (ev x) (ev y)) []:=
 t5 fun a w ι M he hh=>⟨cond t (a.eval x) (a.eval y),by
  have h:=(he.to hc).inv_atm
  cases t<;>simp [execOp,ho,h,asBool],by cases t<;>exact he _⟩
def bm1:TypeDesc->Bool
 |.struct _=>true
 |.array _ _=>true
 |_=>false
theorem ao6 {t:TypeId} {d:TD} (h:ay3 P t d) (w:World):(isAgg t).run P w=.ok d.agg w:=by
 obtain ⟨u,hu,hk⟩:=h.und
 have hr:(isAgg t).run P w=.ok (bm1 u) w:=by
  clear hk
  simp only [isAgg,Sem.run_bind,run_underlying hu,Result.andThen_ok]
  cases u<;>rfl
 rw [hr]
 cases hd:d.k<;>rw [hd] at hk<;>simp only at hk
 ·obtain ⟨h1,h2⟩:=hk
  rw [h1]
  cases u<;>first|exact h2.elim|rfl
 ·obtain ⟨h1,rfl⟩:=hk;rw [h1];rfl
 ·obtain ⟨h1,rfl⟩:=hk;rw [h1];rfl
 ·obtain ⟨h1,rfl⟩:=hk;rw [h1];rfl
 ·obtain ⟨h1,rfl⟩:=hk;rw [h1];rfl
 ·obtain ⟨h1,_,rfl,_⟩:=hk;rw [h1];rfl
theorem a3s {t:TypeId} {d:TD} (h:ay3 P t d) (w:World):(sizeOf t).run P w=.ok d.size w:=by
 obtain ⟨i,hi,hs,_⟩:=h.info
 simp [sizeOf,typeInfo,hi,hs]
theorem a4N {t:TypeId} {d:TD} (h:ay3 P t d) {w:World} {ι:Io} {M:Ms} {b off:Nat} {cells:List C}
 (hc:∀j c,cells[j]? =some c->∃u,w.cell? ⟨b,off+j,none⟩=some u∧RC w ι M c u) {s:S}
 (hs:(d.agg=true∧d.size<=cells.length∧s=.agg (cells.take d.size))∨(d.agg=false∧∃c,cells[0]? =some c∧s=.c c)):
 ∃v,(Instr.loadAt t (.pointer (some ⟨b,off,none⟩))).run P w=.ok v w∧RS w ι M s v:=by
 rcases hs with ⟨ha,hl,rfl⟩|⟨ha,c,h0,rfl⟩
 ·have hex:∀j,j<d.size->∃u,w.cell? ⟨b,off+j,none⟩=some u∧∃c,cells[j]? =some c∧RC w ι M c u:=fun j hj=>by
   obtain ⟨u,h1,h2⟩:=hc j _ (lbf (by omega))
   exact ⟨u,h1,_,lbf (by omega),h2⟩
  refine ⟨.agg ((List.range d.size).map fun j=>(w.cell? ⟨b,off+j,none⟩).getD undef).toArray,?_,?_⟩
  ·have:=run_loadCells (P:=P) w ⟨b,off,none⟩ d.size (fun j=>(w.cell? ⟨b,off+j,none⟩).getD undef) (fun j hj=>by
    obtain ⟨u,h1,_⟩:=hex j hj
    have e:(⟨b,off,none⟩:Addr).add j=⟨b,off+j,none⟩:=by unfold Addr.add;split<;>simp_all
    rw [e,h1];rfl)
   simp [Instr.loadAt,Instr.sureAddr,loadVar,ao6 h,a3s h,ha,this]
  ·refine .agg _ (by simp;omega) fun j c hj=>?_
   have hlt:j<d.size:=by have:=(lbe.1 hj).1;simp at this;omega
   obtain ⟨u,h1,c',h2,h3⟩:=hex j hlt
   rw [List.getElem?_take_of_lt hlt,h2] at hj
   injection hj with hj
   subst hj
   rw [lbl,lba,lbh hlt]
   simp [h1,h3]
 ·obtain ⟨u,h1,h2⟩:=hc 0 c h0
  refine ⟨u,?_,.c h2⟩
  simp only [Nat.add_zero] at h1
  simp [Instr.loadAt,Instr.sureAddr,loadVar,ao6 h,ha,h1]
theorem b8z {rows:List (List C)} {r:Nat} {row:List C} (h:rows[r]? =some row) (j:Nat):at2 rows r j=row[j]?:=by simp [at2,h]
theorem N1.row {w:World} {ι:Io} {M:Ms} {k:Blk} {b cap size:Nat} (h:N1 w ι M k (.blk b cap size)) {r:Nat} {row:List C} (hr:k.rows[r]? =some row):
 ∀j c,row[j]? =some c->∃u,w.cell? ⟨b,r*size+j,none⟩=some u∧RC w ι M c u:=fun j c hj=>by
 obtain ⟨_,_,_,_,_,cur,hb,_,h8⟩:=h
 obtain ⟨u,h1,h2⟩:=h8 r j c (by rw [b8z hr];exact hj)
 exact ⟨u,by simp [World.cell?,hb,h1],h2⟩
theorem aO0 {b:Blk} {r:Nat} {k:List C->Prop} (h:b8k b r k):∃row,b.rows[r]? =some row∧k row∧(b.box=true->b.rows=[row]∧r=0):=by
 unfold b8k at h
 split at h
 ·split at h
  ·rename_i hb _ _ row hr
   exact ⟨row,by rw [hr];rfl,h,fun _=>⟨hr,rfl⟩⟩
  ·exact h.elim
 ·obtain ⟨row,h1,h2⟩:=h
  rename_i hb
  exact ⟨row,h1,h2,fun h=>by rw [hb] at h;cases h⟩
theorem a0a {b:Blk} {k:Prop} (h:a1Y b k):b.mode≠.dead∧k:=by
 unfold a1Y at h
 cases hb:b.mode<;>rw [hb] at h<;>first|exact h.elim|exact ⟨by simp,h⟩
theorem a3W {b:Blk} {k:Prop} (h:a4y b k):b.mode=.live∧b.app=false∧k:=by
 unfold a4y at h
 cases hb:b.mode<;>cases ha:b.app<;>rw [hb,ha] at h<;>first|exact h.elim|exact ⟨rfl,rfl,h⟩
theorem aB8 {b:Blk} {k k':Prop} (h:ai6 b k k'):b.mode=.live∧((b.app=true∧k)∨(b.app=false∧k')):=by
 unfold ai6 at h
 cases hb:b.mode<;>cases ha:b.app<;>rw [hb] at h<;>first|exact h.elim|(simp only [ha] at h;first|exact ⟨rfl,.inl ⟨rfl,h⟩⟩|exact ⟨rfl,.inr ⟨rfl,h⟩⟩)
theorem aR4 {d:TD} {row:List C} {o:Nat} {K:S->Prop} (h:b1U d row o K):
 ∃s,K s∧((d.agg=true∧d.size<=(row.drop o).length∧s=.agg ((row.drop o).take d.size))∨(d.agg=false∧∃c,(row.drop o)[0]? =some c∧s=.c c)):=by
 obtain ⟨_,h⟩:=a87 h
 cases ha:d.agg<;>rw [ha] at h
 ·obtain ⟨c,h1,h2⟩:=O1 h
  exact ⟨_,h2,.inr ⟨rfl,c,h1,rfl⟩⟩
 ·obtain ⟨h1,h2⟩:=at6 h
  exact ⟨_,h2,.inl ⟨rfl,h1,rfl⟩⟩
theorem ap0 (hτ:D3 P τ) {t:TypeId} {x:Operand} {K:S->Prop} (h:as6 τ ev H t x K):∃s,K s∧∀(a:Act) (w:World) (ι:Io) (M:Ms),X2 w ι M ev a->p9 w ι M H->∃v ad,a.eval x=.pointer (some ad)∧(Instr.loadAt t (a.eval x)).run P w=.ok v w∧RS w ι M s v:=by
 unfold as6 at h
 split at h
 ·exact h.elim
 rename_i d hd
 split at h
 ·rename_i id r off hx
  obtain ⟨b,hb,h⟩:=O1 h
  obtain ⟨hdead,h⟩:=a0a h
  obtain ⟨row,hrow,h,_⟩:=aO0 h
  obtain ⟨s,hs,hcase⟩:=aR4 h
  refine ⟨s,hs,fun a w ι M he hh=>?_⟩
  generalize hv:a.eval x=v
  have hr:=he.to hx
  rw [hv] at hr
  cases hr with
  |c hr=>cases hr with
   |@ptr _ _ _ bb cap size hi=>
    have hbr:=(hh.blk id b hb hdead _ hi).row hrow
    obtain ⟨v,h1,h2⟩:=a4N (hτ.td t d hd) (w:=w) (ι:=ι) (M:=M) (b:=bb) (off:=r*size+off) (cells:=row.drop off)
     (fun j c hj=>by rw [lbj] at hj;rw [Nat.add_assoc];exact hbr _ _ hj) hcase
    exact ⟨v,_,rfl,h1,h2⟩
 ·rename_i cells hx
  have hcase:∃s,K s∧((d.agg=true∧d.size<=(cells.map C.t).length∧s=.agg ((cells.map C.t).take d.size))∨(d.agg=false∧∃c,(cells.map C.t)[0]? =some c∧s=.c c)):=by
   unfold aJ7 at h
   cases ha:d.agg<;>rw [ha] at h
   ·obtain ⟨c,h1,h2⟩:=O1 h
    exact ⟨_,h2,.inr ⟨rfl,.t c,by simp [lba,h1],rfl⟩⟩
   ·obtain ⟨h1,h2⟩:=at6 h
    rw [a0Y,List.map_take] at h2
    exact ⟨_,h2,.inl ⟨rfl,by simpa using h1,rfl⟩⟩
  obtain ⟨s,hs,hcase⟩:=hcase
  refine ⟨s,hs,fun a w ι M he hh=>?_⟩
  generalize hv:a.eval x=v
  have hr:=(he.to hx).inv_t
  rw [hv] at hr
  cases hr with
  |@ptr _ b off f hc hr=>
   obtain ⟨v,h1,h2⟩:=a4N (hτ.td t d hd) (w:=w) (ι:=ι) (M:=M) (b:=b) (off:=off) (cells:=cells.map C.t)
    (fun j c hj=>by
      rw [lba] at hj
      cases hj':cells[j]? with
      |none=>rw [hj'] at hj;cases hj
      |some c'=>
       rw [hj'] at hj
       injection hj with hj
       subst hj
       exact ⟨f j,(hc j c' hj').1,.t (hr j c' hj')⟩) hcase
   exact ⟨v,_,rfl,h1,h2⟩
 ·exact h.elim
theorem aN1 (hτ:D3 P τ) {t:TypeId} {x:Operand} (ho:o.op=.load t x) {K:S->Prop} (h:as6 τ ev H t x K):∃s,K s∧QOp P o ev H s []:=by
 obtain ⟨s,hs,hv⟩:=ap0 hτ h
 refine ⟨s,hs,t5 fun a w ι M he hh=>?_⟩
 obtain ⟨v,ad,h0,h1,h2⟩:=hv a w ι M he hh
 exact ⟨v,by simp [execOp,ho,h1],h2⟩
end
end
section
open Go.RowKit
section
variable {P:Program} {τ:Tab} {o:Oper} {ev:Operand->S} {H:Hp}
theorem Addr.add_none (b off n:Nat):(⟨b,off,none⟩:Addr).add n=⟨b,off+n,none⟩:=by unfold Addr.add;split<;>simp_all
theorem ay0 (hτ:D3 P τ) {s:TypeId} {f:Nat} {k:Nat->Prop} (h:ad9 τ s f k):
 ∃off fields fd,k off∧P.underlying s=some (.struct fields)∧fields[f]? =some fd∧fd.offset=off∧∃i,P.info? fd.type=some i∧i.size≠0:=by
 unfold ad9 at h
 split at h
 ·rename_i fs _ _ _ _ hd
  split at h
  ·rename_i off size _ hf
   obtain ⟨h0,hk⟩:=Y6 h
   obtain ⟨u,hu,ha,fields,rfl,hm,hall,_⟩:=(hτ.td _ _ hd).und
   have h1:(fs.map (fun x=>(x.1,x.2.1)))[f]? =some (off,size):=by rw [lba,hf];rfl
   rw [hm,lba] at h1
   cases hfd:fields.toList[f]? with
   |none=>rw [hfd] at h1;cases h1
   |some fd=>
    rw [hfd] at h1
    injection h1 with h1
    injection h1 with h1 h2
    have hi:=hall fd (lbm hfd)
    obtain ⟨i,hi⟩:=Option.isSome_iff_exists.1 hi
    refine ⟨off,fields,fd,hk,hu,by simpa using hfd,h1,i,hi,?_⟩
    have:P.cellsOf fd.type=i.size:=by simp [Program.cellsOf,hi]
    have h0':size≠0:=by intro hz;subst hz;simp at h0
    omega
  ·exact h.elim
 ·exact h.elim
theorem a94 {s:TypeId} {f:Nat} {fields:Array Field} {fd:Field} {i:TypeInfo} (hu:P.underlying s=some (.struct fields)) (hf:fields[f]? =some fd) (hi:P.info? fd.type=some i) (h0:i.size≠0)
 (w:World) (b off:Nat):(Instr.fieldAt s (.pointer (some ⟨b,off,none⟩)) f).run P w=.ok (.pointer (some ⟨b,off+fd.offset,none⟩)) w:=by
 simp [Instr.fieldAt,run_underlying hu,hf,Instr.sureAddr,fieldPlace,sizeOf,typeInfo,hi,h0,Addr.add_none]
theorem a89 (hτ:D3 P τ) {s:TypeId} {x:Operand} {f:Nat} (ho:o.op=.fieldAddr s x f) {K:S->Prop} (h:a6N τ ev s x f K):∃s,K s∧QOp P o ev H s []:=by
 obtain ⟨off,fields,fd,h,hu,hf,rfl,i,hi,h0⟩:=ay0 hτ h
 split at h
 ·rename_i id r o' hx
  refine ⟨_,h,t5 fun a w ι M he hh=>?_⟩
  generalize hv:a.eval x=v
  have hr:=he.to hx
  rw [hv] at hr
  cases hr with
  |c hr=>cases hr with
   |@ptr _ _ _ b cap size hi'=>
    refine ⟨_,by simp [execOp,ho,hv,a94 hu hf hi h0];rfl,?_⟩
    rw [Nat.add_assoc]
    exact .c (.ptr hi')
 ·rename_i cells hx
  obtain ⟨hl,h⟩:=a87 h
  refine ⟨_,h,t5 fun a w ι M he hh=>?_⟩
  generalize hv:a.eval x=v
  have hr:=(he.to hx).inv_t
  rw [hv] at hr
  cases hr with
  |@ptr _ b off f hc hr=>
   refine ⟨_,by simp [execOp,ho,hv,a94 hu hf hi h0],.c (.t (.ptr (b:=b) (off:=off+fd.offset) (fun j=>f (fd.offset+j)) (fun j c hj=>?_) (fun j c hj=>?_)))⟩
   ·rw [lbj] at hj
    rw [Nat.add_assoc]
    exact hc _ _ hj
   ·rw [lbj] at hj
    exact hr _ _ hj
 ·exact h.elim
theorem U8 (hτ:D3 P τ) {e:TypeId} {k:Nat->Prop} (h:a4z τ e k):∃d,τ e=some d∧k d.size∧∀w,(sizeOf e).run P w=.ok d.size w:=by
 unfold a4z at h
 split at h
 ·rename_i d hd
  exact ⟨d,hd,h,a3s (hτ.td _ _ hd)⟩
 ·exact h.elim
theorem L4 (hτ:D3 P τ) {t e:TypeId} {a:Bool} {s b:Nat} {z:List Value} (h:τ t=some ⟨.slice e,a,s,b,z⟩):P.underlying t=some (.slice e):=by
 obtain ⟨u,hu,_,rfl⟩:=(hτ.td _ _ h).und;exact hu
theorem aG4 (hτ:D3 P τ) {t e:TypeId} {a:Bool} {n s b:Nat} {z:List Value} (h:τ t=some ⟨.arr n e,a,s,b,z⟩):P.underlying t=some (.array n e):=by
 obtain ⟨u,hu,_,rfl⟩:=(hτ.td _ _ h).und;exact hu
theorem a8T {t e:TypeId} (hu:P.underlying t=some (.slice e)) {w:World} {size:Nat} (hs:(sizeOf e).run P w=.ok size w) {k:IntKind} {n:Int} {A:Option Addr} {len cap b off:Nat}
 (h0:0<=n) (h1:n<(len:Int)) (hA:0<len->A=some ⟨b,off,none⟩):
 (Instr.indexAt t (.slice A len cap) (.int k n)).run P w=.ok (.pointer (some ⟨b,off+n.toNat*size,none⟩)) w:=by
 have:=hA (by omega)
 subst this
 simp [Instr.indexAt,asIntOf,run_underlying hu,h0,h1,hs,Addr.add_none]
theorem a7d {t e:TypeId} {m:Nat} (hu:P.underlying t=some (.array m e)) {w:World} {size:Nat} (hs:(sizeOf e).run P w=.ok size w) {k:IntKind} {n:Int} {b off:Nat}
 (h0:0<=n) (h1:n<(m:Int)):
 (Instr.indexAt t (.pointer (some ⟨b,off,none⟩)) (.int k n)).run P w=.ok (.pointer (some ⟨b,off+n.toNat*size,none⟩)) w:=by
 simp [Instr.indexAt,asIntOf,run_underlying hu,Instr.sureAddr,h0,h1,hs,Addr.add_none]
theorem C7 {α:Type} {rows:List (List α)} {i j:Nat} {row:List α} {c:α} (h:rows[i]? =some row) (h':row[j]? =some c):at2 rows i j=some c:=by simp [at2,h,h']
theorem F4 {α:Type} {rows:List (List α)} {i j:Nat} {c:α} (h:at2 rows i j=some c):∃row,rows[i]? =some row∧row[j]? =some c:=by
 unfold at2 at h
 cases hr:rows[i]? with
 |none=>rw [hr] at h;cases h
 |some row=>rw [hr] at h;exact ⟨row,rfl,h⟩
theorem a88 (hτ:D3 P τ) {t:TypeId} {x i:Operand} (ho:o.op=.indexAddr t x i) {K:S->Prop} (h:a3M τ ev H t x i K):∃s,K s∧QOp P o ev H s []:=by
 unfold a3M at h
 split at h
 rotate_left
 ·exact h.elim
 rename_i k n hi
 split at h
 ·rename_i e _ _ _ _ ht
  have hu:=L4 hτ ht
  split at h
  ·rename_i size sk rows hx
   obtain ⟨d,hd,h,hsz⟩:=U8 hτ h
   obtain ⟨hs,row,h0,hrow,hK⟩:=E6 h
   clear h
   have hs:d.size=size:=by simpa using hs
   subst hs
   refine ⟨_,hK,t5 fun a w ι M he hh=>?_⟩
   generalize hv:a.eval x=v
   have hiv:=(he.to hi).inv_atm
   have hr:=(he.to hx).inv_t
   rw [hv] at hr
   have hlt:n.toNat<rows.length:=(lbe.1 hrow).1
   cases hr with
   |@sl _ _ _ b off cap A f hrow' hcap hmax hk hn hA hc hr=>
    refine ⟨_,by simp [execOp,ho,hv,hiv];rw [a8T hu (hsz w) (b:=b) (off:=off) h0 (by omega) (fun h=>hA (by intro e;rw [e] at h;simp at h))];rfl,
     .c (.t (.ptr (fun j=>f n.toNat j) (fun j c hj=>?_) (fun j c hj=>hr _ _ _ (C7 hrow hj))))⟩
    have:=hc n.toNat j c (C7 hrow hj)
    rw [Nat.add_assoc]
    exact this
  ·rename_i id lo len app hx
   obtain ⟨d,hd,h,hsz⟩:=U8 hτ h
   obtain ⟨bk,hbk,h⟩:=O1 h
   obtain ⟨hdead,h⟩:=a0a h
   obtain ⟨hs,⟨h0,h1⟩,h⟩:=E6 h
   have hs:d.size=bk.size:=by simpa using hs
   refine ⟨_,h,t5 fun a w ι M he hh=>?_⟩
   generalize hv:a.eval x=v
   have hiv:=(he.to hi).inv_atm
   have hr:=he.to hx
   rw [hv] at hr
   cases hr with
   |c hr=>cases hr with
    |@own _ _ _ _ b cap size A cap' h' q1 q2 q3 q4 q5=>
     obtain ⟨hq,_⟩:=hh.blk id bk hbk hdead _ h'
     refine ⟨_,by simp [execOp,ho,hv,hiv];rw [a8T hu (hsz w) (b:=b) (off:=lo*size) h0 h1 q2];rfl,?_⟩
     have e:lo*size+n.toNat*d.size=(lo+n.toNat)*size+0:=by rw [hs,hq,Nat.add_mul,Nat.add_zero]
     rw [e]
     exact .c (.ptr h')
    |nil h=>simp at h1;omega
  ·exact h.elim
 ·rename_i m e _ _ _ _ ht
  have hu:=aG4 hτ ht
  obtain ⟨d,hd,h,hsz⟩:=U8 hτ h
  split at h
  ·rename_i id r o' hx
   obtain ⟨⟨h0,h1⟩,h⟩:=h
   refine ⟨_,h,t5 fun a w ι M he hh=>?_⟩
   generalize hv:a.eval x=v
   have hiv:=(he.to hi).inv_atm
   have hr:=he.to hx
   rw [hv] at hr
   cases hr with
   |c hr=>cases hr with
    |ptr hi'=>
     refine ⟨_,by simp [execOp,ho,hv,hiv];rw [a7d hu (hsz w) h0 h1];rfl,?_⟩
     rw [Nat.add_assoc]
     exact .c (.ptr hi')
  ·rename_i cells hx
   obtain ⟨⟨h0,h1⟩,h⟩:=h
   obtain ⟨hl,h⟩:=a87 h
   refine ⟨_,h,t5 fun a w ι M he hh=>?_⟩
   generalize hv:a.eval x=v
   have hiv:=(he.to hi).inv_atm
   have hr:=(he.to hx).inv_t
   rw [hv] at hr
   cases hr with
   |@ptr _ b off f hc hr=>
    refine ⟨_,by simp [execOp,ho,hv,hiv];rw [a7d hu (hsz w) h0 h1];rfl,.c (.t (.ptr (fun j=>f (n.toNat*d.size+j)) (fun j c hj=>?_) (fun j c hj=>?_)))⟩
    ·rw [lbj] at hj
     rw [Nat.add_assoc]
     exact hc _ _ hj
    ·rw [lbj] at hj
     exact hr _ _ hj
  ·exact h.elim
 ·exact h.elim
theorem N3 {x:Option Operand} {dflt:Int} {k:Int->Prop} (h:P4 ev x dflt k):
 ∃n,k n∧((x=none∧n=dflt)∨∃y kk,x=some y∧ev y=b7 kk n):=by
 unfold P4 at h
 split at h
 ·exact ⟨_,h,.inl ⟨rfl,rfl⟩⟩
 ·split at h
  ·rename_i y _ kk n hy
   exact ⟨n,h,.inr ⟨y,kk,rfl,hy⟩⟩
  ·exact h.elim
theorem Y0 {w:World} {ι:Io} {M:Ms} {a:Act} (he:X2 w ι M ev a) {lo hi:Option Operand} {l h:Int} {len cap:Nat}
 (hl:(lo=none∧l=0)∨∃y kk,lo=some y∧ev y=b7 kk l) (hh:(hi=none∧h=(len:Int))∨∃y kk,hi=some y∧ev y=b7 kk h)
 (h0:0<=l) (h1:l<=h) (h2:h<=(cap:Int)):
 (Instr.sliceBounds true len cap (lo.map a.eval) (hi.map a.eval) none).run P w=.ok (l.toNat,h.toNat,cap) w:=by
 have e1:∀(n:Int) (m:Nat) (kk:IntKind) c,0<=n->n<=(m:Int)->(Instr.sliceBound (.int kk n) m c).run P w=.ok n.toNat w:=fun n m kk c q1 q2=>by
  simp [Instr.sliceBound,asIntOf,q1,q2]
 rcases hl with ⟨rfl,rfl⟩|⟨y,kk,rfl,hy⟩<;>rcases hh with ⟨rfl,rfl⟩|⟨y',kk',rfl,hy'⟩
 ·simp [Instr.sliceBounds]
 ·simp [Instr.sliceBounds,(he.to hy').inv_atm,e1 _ _ _ _ (by omega) h2]
 ·simp only [Instr.sliceBounds,Option.map_some,Option.map_none,(he.to hy).inv_atm,Sem.run_bind,Sem.run_pure,Result.andThen_ok,Option.isSome_none,Bool.false_eq_true,if_false,e1 _ _ _ _ h0 h1]
  simp
 ·simp only [Instr.sliceBounds,Option.map_some,Option.map_none,(he.to hy).inv_atm,(he.to hy').inv_atm,Sem.run_bind,Sem.run_pure,Result.andThen_ok,Option.isSome_none,Bool.false_eq_true,if_false,if_true,e1 _ _ _ _ (Int.le_trans h0 h1) h2]
  rw [e1 _ _ _ _ h0 (by omega)]
  simp
theorem ay9 {k:SK} {hi max:Option Operand} {α:Type} {rows:List α} {A:Option Addr}:(a1B k hi max=.nul->rows=[]∧A=none)∧(a1B k hi max=.non->A≠none):=by
 unfold a1B;split<;>exact ⟨(fun h=>nomatch h),(fun h=>nomatch h)⟩
theorem an1 (hτ:D3 P τ) {t:TypeId} {x:Operand} {lo hi:Option Operand} (ho:o.op=.slice t x lo hi none) {K:S->Prop} (h:a5a τ ev H t x lo hi none K):∃s,K s∧QOp P o ev H s []:=by
 unfold a5a at h
 split at h
 rotate_left
 ·exact h.elim
 rename_i e _ _ _ _ ht
 simp only at h
 have hu:=L4 hτ ht
 split at h
 ·rename_i rows hx
  obtain ⟨l,h,hl⟩:=N3 h
  obtain ⟨u,h,hhi⟩:=N3 h
  obtain ⟨d,hd,h,hsz⟩:=U8 hτ h
  obtain ⟨⟨h0,h1,h2⟩,h⟩:=h
  refine ⟨_,h,t5 fun a w ι M he hh=>?_⟩
  generalize hv:a.eval x=v
  have hr:=(he.to hx).inv_t
  rw [hv] at hr
  cases hr with
  |@sl _ _ _ b off cap A f hrow hcap hmax hk hn hA hc hr=>
   obtain ⟨rfl,rfl,rfl⟩:=hn rfl
   obtain rfl:l=0:=by omega
   obtain rfl:u=0:=by omega
   have hb:=Y0 (P:=P) (w:=w) (len:=0) he hl hhi (cap:=0) (by omega) (by omega) (by omega)
   refine ⟨.slice none 0 0,?_,?_⟩
   ·simp [execOp,ho,hv,Instr.sliceAt,run_underlying hu,Instr.slice,hb,hsz]
   ·exact .c (.t (.sl (rows:=[]) (b:=0) (off:=0) (fun _ _=>undef) (by simp) (by simp) (by simp) (by simp) (by simp) (by simp) (by intro i j c hc;simp [at2] at hc) (by intro i j c hc;simp [at2] at hc)))
 ·rename_i size k rows hnn hx
  obtain ⟨l,h,hl⟩:=N3 h
  obtain ⟨u,h,hhi⟩:=N3 h
  obtain ⟨d,hd,h,hsz⟩:=U8 hτ h
  obtain ⟨hs,⟨h0,h1,h2⟩,h⟩:=E6 h
  have hs:d.size=size:=by simpa using hs
  subst hs
  refine ⟨_,h,t5 fun a w ι M he hh=>?_⟩
  generalize hv:a.eval x=v
  have hr:=(he.to hx).inv_t
  rw [hv] at hr
  cases hr with
  |@sl _ _ _ b off cap A f hrow hcap hmax hk hn hA hc hr=>
   have hb:=Y0 (P:=P) (w:=w) he hl hhi (cap:=cap) h0 h1 (by omega)
   refine ⟨.slice (if cap=l.toNat then A else A.map (·.add (l.toNat*d.size))) (u.toNat - l.toNat) (cap - l.toNat),?_,?_⟩
   ·simp [execOp,ho,hv,Instr.sliceAt,run_underlying hu,Instr.slice,hb,hsz]
   ·have hlen:((rows.take u.toNat).drop l.toNat).length=u.toNat - l.toNat:=by simp;omega
    have hat:∀i j c,at2 ((rows.take u.toNat).drop l.toNat) i j=some c->at2 rows (l.toNat+i) j=some c:=fun i j c hc=>by
     obtain ⟨row,h1,h2⟩:=F4 hc
     rw [lbj,lbi] at h1
     split at h1
     ·exact C7 h1 h2
     ·cases h1
    rw [← hlen]
    refine .c (.t (.sl (b:=b) (off:=off+l.toNat*d.size) (fun i j=>f (l.toNat+i) j) ?_ (by omega) (by omega) ?_ ?_ ?_ ?_ ?_ (hx:=ay9)))
    ·intro r hr
     exact hrow r (List.mem_of_mem_take (List.mem_of_mem_drop hr))
    ·intro hf
     have hkf:k=.full∧hi=none:=by
      unfold a1B at hf
      split at hf
      ·exact ⟨rfl,rfl⟩
      ·cases hf
     obtain ⟨rfl,rfl⟩:=hkf
     rcases hhi with ⟨_,rfl⟩|⟨y,kk,hy,_⟩
     ·rw [hk rfl,hlen];simp
     ·cases hy
    ·intro hf
     unfold a1B at hf
     split at hf<;>cases hf
    ·intro hne
     have hlt:0<((rows.take u.toNat).drop l.toNat).length:=List.length_pos_iff.2 hne
     rw [if_neg (by omega),hA (by intro e;subst e;simp at hlt)]
     simp [Addr.add_none]
    ·intro i j c hc'
     obtain ⟨q1,q2⟩:=hc _ _ _ (hat i j c hc')
     refine ⟨?_,q2⟩
     rw [← q1]
     congr 2
     rw [Nat.add_mul];omega
    ·intro i j c hc'
     exact hr _ _ _ (hat i j c hc')
 ·rename_i id l0 len app hx
  obtain ⟨l,h,hl⟩:=N3 h
  obtain ⟨u,h,hhi⟩:=N3 h
  obtain ⟨d,hd,h,hsz⟩:=U8 hτ h
  obtain ⟨bk,hbk,h⟩:=O1 h
  obtain ⟨hdead,h⟩:=a0a h
  obtain ⟨hs,⟨h0,h1,h2⟩,h⟩:=E6 h
  have hs:d.size=bk.size:=by simpa using hs
  refine ⟨_,h,t5 fun a w ι M he hh=>?_⟩
  generalize hv:a.eval x=v
  have hr:=he.to hx
  rw [hv] at hr
  cases hr with
  |c hr=>cases hr with
   |@own _ _ _ _ b cap size A cap' h' q1 q2 q3 q4 q5=>
    obtain ⟨hq,_⟩:=hh.blk id bk hbk hdead _ h'
    have hb:=Y0 (P:=P) (w:=w) he hl hhi (cap:=cap') h0 h1 (by omega)
    refine ⟨.slice (if cap'=l.toNat then A else A.map (·.add (l.toNat*d.size))) (u.toNat - l.toNat) (cap' - l.toNat),?_,?_⟩
    ·simp [execOp,ho,hv,Instr.sliceAt,run_underlying hu,Instr.slice,hb,hsz]
    ·rw [show (u - l).toNat=u.toNat - l.toNat by omega]
     refine .c (.own h' (by omega) ?_ (by omega) (by omega) ?_)
     ·intro hpos
      rw [if_neg (by omega),q2 (by omega)]
      simp [Addr.add_none,hs,hq,Nat.add_mul]
     ·intro happ
      obtain ⟨ha,hlo⟩:app=true∧lo=none:=by simpa using happ
      subst hlo
      rcases hl with ⟨_,rfl⟩|⟨y,kk,hy,_⟩
      ·obtain ⟨r1,r2,r3⟩:=q5 ha
       subst r2
       simp [r1,r3,Addr.add_none]
      ·cases hy
   |nil h'=>
    have hl0:l=0:=by omega
    have hu0:u=0:=by simp at h2;omega
    subst hl0 hu0
    have hb:=Y0 (P:=P) (w:=w) he hl hhi (cap:=0) h0 h1 (by omega)
    refine ⟨_,by simp [execOp,ho,hv,Instr.sliceAt,run_underlying hu,Instr.slice,hb,hsz];rfl,?_⟩
    exact .c (.nil h')
 ·exact h.elim
theorem a0L {w:World} {ι:Io} {M:Ms} {a:Act} (he:X2 w ι M ev a) {lo:Option Operand} {y z:Operand} {l h:Int} {len cap:Nat} {kk kz:IntKind}
 (hl:(lo=none∧l=0)∨∃y kk,lo=some y∧ev y=b7 kk l) (hh:ev y=b7 kk h) (hz:ev z=b7 kz h)
 (h0:0<=l) (h1:l<=h) (h2:h<=(cap:Int)):
 (Instr.sliceBounds true len cap (lo.map a.eval) (some (a.eval y)) (some (a.eval z))).run P w=.ok (l.toNat,h.toNat,h.toNat) w:=by
 have e1:∀(n:Int) (m:Nat) (kk:IntKind) c,0<=n->n<=(m:Int)->(Instr.sliceBound (.int kk n) m c).run P w=.ok n.toNat w:=fun n m kk c q1 q2=>by
  simp [Instr.sliceBound,asIntOf,q1,q2]
 rcases hl with ⟨rfl,rfl⟩|⟨x,kx,rfl,hx⟩
 ·simp only [Instr.sliceBounds,Option.map_none,(he.to hh).inv_atm,(he.to hz).inv_atm,Sem.run_bind,Sem.run_pure,Result.andThen_ok,if_true,e1 _ _ _ _ h1 h2]
  rw [e1 _ _ _ _ h1 (by omega)]
  simp
 ·simp only [Instr.sliceBounds,Option.map_some,(he.to hh).inv_atm,(he.to hz).inv_atm,(he.to hx).inv_atm,Sem.run_bind,Sem.run_pure,Result.andThen_ok,if_true,e1 _ _ _ _ (Int.le_trans h0 h1) h2]
  rw [e1 h _ _ _ (by omega) (by omega)]
  simp only [Result.andThen_ok]
  rw [e1 l _ _ _ h0 (by omega)]
  simp
theorem am2 (hτ:D3 P τ) {t:TypeId} {x z:Operand} {lo hi:Option Operand} (ho:o.op=.slice t x lo hi (some z)) {K:S->Prop} (h:a5a τ ev H t x lo hi (some z) K):∃s,K s∧QOp P o ev H s []:=by
 unfold a5a at h
 split at h
 rotate_left
 ·exact h.elim
 rename_i e _ _ _ _ ht
 have hu:=L4 hτ ht
 simp only at h
 split at h
 rotate_left
 ·exact h.elim
 rename_i kz m hz
 split at h
 ·rename_i size k rows hx
  obtain ⟨l,h,hl⟩:=N3 h
  obtain ⟨u,h,hhi⟩:=N3 h
  obtain ⟨d,hd,h,hsz⟩:=U8 hτ h
  obtain ⟨hsome,h⟩:=E6 h
  obtain ⟨hs,⟨h0,h1,rfl,h2⟩,hK⟩:=E6 h
  have hs:d.size=size:=by simpa using hs
  subst hs
  obtain ⟨y,kk,rfl,hy⟩:∃y kk,hi=some y∧ev y=b7 kk m:=by
   rcases hhi with ⟨rfl,_⟩|h
   ·cases hsome
   ·exact h
  refine ⟨_,hK,t5 fun a w ι M he hh=>?_⟩
  generalize hv:a.eval x=v
  have hr:=(he.to hx).inv_t
  rw [hv] at hr
  cases hr with
  |@sl _ _ _ b off cap A f hrow hcap hmax hk hn hA hc hr=>
   have hb:=a0L (P:=P) (w:=w) he hl hy hz (len:=rows.length) (cap:=cap) h0 h1 (by omega)
   refine ⟨.slice (if m.toNat=l.toNat then A else A.map (·.add (l.toNat*d.size))) (m.toNat - l.toNat) (m.toNat - l.toNat),?_,?_⟩
   ·simp [execOp,ho,hv,Instr.sliceAt,run_underlying hu,Instr.slice,hb,hsz]
   ·have hlen:((rows.take m.toNat).drop l.toNat).length=m.toNat - l.toNat:=by simp;omega
    have hat:∀i j c,at2 ((rows.take m.toNat).drop l.toNat) i j=some c->at2 rows (l.toNat+i) j=some c:=fun i j c hc=>by
     obtain ⟨row,h1,h2⟩:=F4 hc
     rw [lbj,lbi] at h1
     split at h1
     ·exact C7 h1 h2
     ·cases h1
    rw [← hlen]
    refine .c (.t (.sl (b:=b) (off:=off+l.toNat*d.size) (fun i j=>f (l.toNat+i) j) ?_ (by omega) (by omega) ?_ ?_ ?_ ?_ ?_))
    ·intro r hr
     exact hrow r (List.mem_of_mem_take (List.mem_of_mem_drop hr))
    ·intro _;rfl
    ·intro hf;cases hf
    ·intro hne
     have hlt:0<((rows.take m.toNat).drop l.toNat).length:=List.length_pos_iff.2 hne
     rw [if_neg (by omega),hA (by intro e;subst e;simp at hlt)]
     simp [Addr.add_none]
    ·intro i j c hc'
     obtain ⟨q1,q2⟩:=hc _ _ _ (hat i j c hc')
     refine ⟨?_,q2⟩
     rw [← q1]
     congr 2
     rw [Nat.add_mul];omega
    ·intro i j c hc'
     exact hr _ _ _ (hat i j c hc')
 ·rename_i id l0 len app hx
  obtain ⟨l,h,hl⟩:=N3 h
  obtain ⟨u,h,hhi⟩:=N3 h
  obtain ⟨hsome,h⟩:=E6 h
  obtain ⟨d,hd,h,hsz⟩:=U8 hτ h
  obtain ⟨bk,hbk,h⟩:=O1 h
  obtain ⟨hdead,h⟩:=a0a h
  obtain ⟨hs,⟨h0,h1,rfl,h2⟩,hK⟩:=E6 h
  have hs:d.size=bk.size:=by simpa using hs
  obtain ⟨y,kk,rfl,hy⟩:∃y kk,hi=some y∧ev y=b7 kk m:=by
   rcases hhi with ⟨rfl,_⟩|h
   ·cases hsome
   ·exact h
  refine ⟨_,hK,t5 fun a w ι M he hh=>?_⟩
  generalize hv:a.eval x=v
  have hr:=he.to hx
  rw [hv] at hr
  cases hr with
  |c hr=>cases hr with
   |@own _ _ _ _ b cap size A cap' h' q1 q2 q3 q4 q5=>
    obtain ⟨hq,_⟩:=hh.blk id bk hbk hdead _ h'
    have hb:=a0L (P:=P) (w:=w) he hl hy hz (len:=len) (cap:=cap') h0 h1 (by omega)
    refine ⟨.slice (if m.toNat=l.toNat then A else A.map (·.add (l.toNat*d.size))) (m.toNat - l.toNat) (m.toNat - l.toNat),?_,?_⟩
    ·simp [execOp,ho,hv,Instr.sliceAt,run_underlying hu,Instr.slice,hb,hsz]
    ·rw [show (m - l).toNat=m.toNat - l.toNat by omega]
     refine .c (.own h' (by omega) ?_ (by omega) (by omega) (by intro h;cases h))
     intro hpos
     rw [if_neg (by omega),q2 (by omega)]
     simp [Addr.add_none,hs,hq,Nat.add_mul]
   |nil h'=>
    have hl0:l=0:=by omega
    have hu0:m=0:=by simp at h2;omega
    subst hl0 hu0
    have hb:=a0L (P:=P) (w:=w) he hl hy hz (len:=0) (cap:=0) h0 h1 (by omega)
    refine ⟨_,by simp [execOp,ho,hv,Instr.sliceAt,run_underlying hu,Instr.slice,hb,hsz];rfl,?_⟩
    exact .c (.nil h')
 ·exact h.elim
theorem ax5 (hτ:D3 P τ) {t:TypeId} {x:Operand} {lo hi max:Option Operand} (ho:o.op=.slice t x lo hi max) {K:S->Prop} (h:a5a τ ev H t x lo hi max K):∃s,K s∧QOp P o ev H s []:=by
 cases max with
 |none=>exact an1 hτ ho h
 |some z=>exact am2 hτ ho h
end
end
section
open Go.RowKit
section
variable {P:Program} {τ:Tab} {o:Oper} {ev:Operand->S} {H:Hp}
theorem aG5 {op:BinOp} {t:TypeId} {x y:Operand} {a b:Value} (w:World) (h1:∀cs,a≠.agg cs) (h2:a≠.nilIface):(eqGuard op t x y a b).run P w=.ok () w:=by
 unfold eqGuard
 generalize (match op with|.eql|.neq=>true|_=>false:Bool)=q
 cases a<;>first
  |exact absurd rfl h2
  |exact absurd rfl (h1 _)
  |(cases q<;>simp)
theorem a59 {op:BinOp} {t yt:TypeId} {x y:Operand} (ho:o.op=.binOp op t x y yt) {a:Act} {w:World} {v:Value}
 (h1:∀cs,a.eval x≠.agg cs) (h2:a.eval x≠.nilIface) (h:(binOp op t (a.eval x) (a.eval y)).run P w=.ok v w):(execOp a.eval o).run P w=.ok (.value v) w:=by
 simp [execOp,ho,aG5 w h1 h2,h]
theorem aT2 {op:BinOp} {t yt:TypeId} {x y:Operand} (ho:o.op=.binOp op t x y yt) {k k':IntKind} {p q:Int} (hx:ev x=b7 k p) (hy:ev y=b7 k' q) {K:S->Prop}
 (h:bb1 op k k' p q K):∃s,K s∧QOp P o ev H s []:=by
 have key:∀(s:S) (v:Value),(∀ w,(binOp op t (.int k p) (.int k' q)).run P w=.ok v w)->(∀ w ι M,RS w ι M s v)->QOp P o ev H s []:=fun s v hr hs=>
  t5 fun a w ι M he hh=>by
   have e1:=(he.to hx).inv_atm
   have e2:=(he.to hy).inv_atm
   exact ⟨v,a59 ho (by rw [e1];simp) (by rw [e1];simp) (by rw [e1,e2];exact hr w),hs w ι M⟩
 unfold bb1 at h
 split at h
 ·obtain ⟨h0,n,hn,h⟩:=h
  refine ⟨_,h,key _ (.int k n) (fun w=>?_) (fun _ _ _=>.int)⟩
  simp only [binOp,Op.shift]
  rw [Sem.run_ite,if_neg (by omega)]
  unfold J0 at hn
  rw [hn]
  rfl
 ·obtain ⟨h0,n,hn,h⟩:=h
  unfold aI3 at hn
  subst hn
  refine ⟨_,h,key _ _ (fun w=>?_) (fun _ _ _=>.int)⟩
  simp only [binOp,Op.shift]
  rw [Sem.run_ite,if_neg (by omega)]
  rfl
 ·rename_i op' hne1 hne2
  obtain ⟨hk,h'⟩:=E6 h
  clear h
  have hk:k=k':=by simpa using hk
  subst hk
  revert h'
  intro h
  split at h
  case h_1=>
   obtain ⟨n,hn,h⟩:=h
   exact ⟨_,h,key _ _ (fun w=>by simp [binOp,Op.intArith];rw [← hn]) (fun _ _ _=>.int)⟩
  case h_2=>
   obtain ⟨n,hn,h⟩:=h
   exact ⟨_,h,key _ _ (fun w=>by simp [binOp,Op.intArith];rw [← hn]) (fun _ _ _=>.int)⟩
  case h_3=>
   obtain ⟨n,hn,h⟩:=h
   exact ⟨_,h,key _ _ (fun w=>by simp [binOp,Op.intArith];rw [← hn]) (fun _ _ _=>.int)⟩
  case h_4=>
   obtain ⟨h0,n,hn,h⟩:=h
   exact ⟨_,h,key _ _ (fun w=>by simp [binOp,Op.intDiv,h0];rw [← hn]) (fun _ _ _=>.int)⟩
  case h_5=>
   obtain ⟨h0,h⟩:=h
   exact ⟨_,h,key _ _ (fun w=>by simp [binOp,Op.intDiv,h0]) (fun _ _ _=>.int)⟩
  case h_6=>exact ⟨_,h.get,key _ (.bool (decide (p=q))) (fun w=>by simp [binOp,Op.intCmp];rfl) (fun _ _ _=>.bool)⟩
  case h_7=>exact ⟨_,h.get,key _ (.bool (decide (p≠q))) (fun w=>by simp [binOp,Op.intCmp];rfl) (fun _ _ _=>.bool)⟩
  case h_8=>exact ⟨_,h.get,key _ _ (fun w=>by simp [binOp,Op.intCmp]) (fun _ _ _=>.bool)⟩
  case h_9=>exact ⟨_,h.get,key _ _ (fun w=>by simp [binOp,Op.intCmp]) (fun _ _ _=>.bool)⟩
  case h_10=>exact ⟨_,h.get,key _ _ (fun w=>by simp [binOp,Op.intCmp]) (fun _ _ _=>.bool)⟩
  case h_11=>exact ⟨_,h.get,key _ _ (fun w=>by simp [binOp,Op.intCmp]) (fun _ _ _=>.bool)⟩
  case h_12=>
   obtain ⟨n,hn,h⟩:=h
   refine ⟨_,h,key _ (.int k n) (fun w=>?_) (fun _ _ _=>.int)⟩
   cases op<;>first|exact False.elim hn|(simp [a48] at hn;simp [binOp,Op.intBits,hn];done)
theorem a8v:∀{cs:List C} {k:List Int->Prop},aQ4 cs k->∃ul:List Int,cs=ul.map (fun a=>C.t (.atm (.int .i64 a)))∧k ul
 |[],k,h=>⟨[],rfl,h⟩
 |c::cs,k,h=>by
  unfold aQ4 at h
  split at h
  ·rename_i heq;cases heq
  ·rename_i a cs' heq
   injection heq with h1 h2
   subst h1;subst h2
   obtain ⟨ul,rfl,hk⟩:=a8v h
   exact ⟨a::ul,rfl,hk⟩
  ·exact h.elim
theorem a7J {w:World} {ι:Io} {M:Ms} {cs:List C} {ul:List Int} {v:Value} (h:RS w ι M (.agg cs) v) (e:cs=ul.map (fun a=>C.t (.atm (.int .i64 a)))):v=.agg (ul.map (Value.int .i64)).toArray:=by
 subst e
 cases h with
 |agg vs hl hr=>
  congr 2
  refine List.ext_getElem (by simpa using hl) fun i h1 h2=>?_
  have:=hr i _ (lbf (by simpa using h2))
  simp only [List.getElem_map] at this ⊢
  rw [lbl,lbf h1] at this
  exact (RS.c this).inv_atm
theorem aW6 (hτ:D3 P τ) {op:BinOp} {t yt:TypeId} {x y:Operand} (ho:o.op=.binOp op t x y yt) {K:S->Prop} (h:b9o P τ op t (ev x) (ev y) K):∃s,K s∧QOp P o ev H s []:=by
 unfold b9o at h
 split at h
 ·rename_i k a k' b hx hy
  exact aT2 ho hx hy h
 ·rename_i p q hx hy
  split at h
  ·rename_i ht
   obtain ⟨u,hu,_,rfl⟩:=(hτ.td _ _ ht).und
   split at h
   ·refine ⟨_,h.get,t5 fun a w ι M he hh=>⟨_,a59 ho (v:=.bool (p == q)) ?_ ?_ ?_,.bool⟩⟩
    ·simp [(he.to hx).inv_atm]
    ·simp [(he.to hx).inv_atm]
    ·rw [(he.to hx).inv_atm,(he.to hy).inv_atm];exact run_eql_bool w t p q hu
   ·refine ⟨_,h.get,t5 fun a w ι M he hh=>⟨_,a59 ho (v:=.bool (!(p == q))) ?_ ?_ ?_,.bool⟩⟩
    ·simp [(he.to hx).inv_atm]
    ·simp [(he.to hx).inv_atm]
    ·rw [(he.to hx).inv_atm,(he.to hy).inv_atm];simp [binOp,run_equal_bool w t p q hu]
   ·exact h.elim
  ·exact h.elim
 ·rename_i cx s hx hy
  split at h
  ·rename_i e _ _ _ _ ht
   have hu:=L4 hτ ht
   have key:∀(k:Bool->Prop),aE2 cx k->∃r,k r∧∀(a:Act) (w:World) (ι:Io) (M:Ms),X2 w ι M ev a->∃A n c,a.eval x=.slice A n c∧A.isNone=r:=by
    intro k hk
    unfold aE2 at hk
    split at hk
    ·refine ⟨true,hk,fun a w ι M he=>?_⟩
     have hr:=(he.to hx).inv_t
     generalize a.eval x=v at *
     cases hr with
     |sl f hrow hcap hmax hk hn hA hc hr=>exact ⟨_,_,_,rfl,by rw [(hn rfl).2.1];rfl⟩
    ·refine ⟨true,hk,fun a w ι M he=>?_⟩
     have hr:=(he.to hx).inv_t
     generalize a.eval x=v at *
     cases hr with
     |sl f hrow hcap hmax hk hn hA hc hr hx=>exact ⟨_,_,_,rfl,by rw [(hx.1 rfl).2];rfl⟩
    ·refine ⟨false,hk,fun a w ι M he=>?_⟩
     have hr:=(he.to hx).inv_t
     generalize a.eval x=v at *
     cases hr with
     |@sl _ _ _ _ _ _ A f hrow hcap hmax hk hn hA hc hr hx=>
      refine ⟨_,_,_,rfl,?_⟩
      cases A with
      |none=>exact absurd rfl (hx.2 rfl)
      |some a=>rfl
    ·rename_i rows _ _ _
     refine ⟨false,hk.2,fun a w ι M he=>?_⟩
     have hr:=(he.to hx).inv_t
     generalize a.eval x=v at *
     cases hr with
     |sl f hrow hcap hmax hk' hn hA hc hr=>exact ⟨_,_,_,rfl,by rw [hA (by intro e;subst e;simp at hk)];rfl⟩
    ·refine ⟨false,hk.2,fun a w ι M he=>?_⟩
     have hr:=(he.to hx).inv_c
     generalize a.eval x=v at *
     cases hr with
     |own h' q1 q2 q3 q4 q5=>exact ⟨_,_,_,rfl,by rw [q2 hk.1];rfl⟩
     |nil h'=>have:=hk.1;omega
    ·exact hk.elim
   have hnil:∀(a:Act) (w:World) (ι:Io) (M:Ms),X2 w ι M ev a->∃c,a.eval y=.slice none 0 c:=fun a w ι M he=>by
    have hr:=(he.to hy).inv_t
    generalize a.eval y=v at *
    cases hr with
    |sl f hrow hcap hmax hk hn hA hc hr=>obtain ⟨_,rfl,_⟩:=hn rfl;exact ⟨_,rfl⟩
   split at h
   ·obtain ⟨r,h,hr⟩:=key _ h
    refine ⟨_,h,t5 fun a w ι M he hh=>?_⟩
    obtain ⟨A,n,c,e1,rfl⟩:=hr a w ι M he
    obtain ⟨c',e2⟩:=hnil a w ι M he
    exact ⟨.bool A.isNone,a59 ho (by simp [e1]) (by simp [e1]) (by rw [e1,e2];exact Lib.run_eql_slice_nil w t e A n c 0 c' hu),.bool⟩
   ·obtain ⟨r,h,hr⟩:=key _ h
    refine ⟨_,h,t5 fun a w ι M he hh=>?_⟩
    obtain ⟨A,n,c,e1,rfl⟩:=hr a w ι M he
    obtain ⟨c',e2⟩:=hnil a w ι M he
    exact ⟨.bool (!A.isNone),a59 ho (by simp [e1]) (by simp [e1]) (by rw [e1,e2];exact run_neq_slice_nil_any w t e A n c 0 c' hu),.bool⟩
   ·exact h.elim
  ·exact h.elim
 ·rename_i cs ds hx hy
  unfold bi3 at h
  obtain ⟨ul,e1,h⟩:=a8v h
  obtain ⟨bs,e2,h⟩:=a8v h
  obtain ⟨⟨⟨hg,hE⟩,hl⟩,h⟩:=h
  split at h
  ·refine ⟨_,h.get,t5 fun a w ι M he hh=>⟨.bool (ul == bs),?_,.bool⟩⟩
   rw [execOp,ho]
   simp only [a7J (he.to hx) e1,a7J (he.to hy) e2]
   simp [run_eqGuard_agg _ _ _ _ _ _ _ hg,run_eql_struct,hE ul bs w rfl hl]
  ·refine ⟨_,h.get,t5 fun a w ι M he hh=>⟨.bool (!(ul == bs)),?_,.bool⟩⟩
   rw [execOp,ho]
   simp only [a7J (he.to hx) e1,a7J (he.to hy) e2]
   simp [run_eqGuard_agg _ _ _ _ _ _ _ hg,run_neq_struct,hE ul bs w rfl hl]
  ·exact h.elim
 ·exact h.elim
theorem b34 {op:UnOp} {t:TypeId} {x:Operand} (ho:o.op=.unOp op t x) {K:S->Prop} (h:aun op (ev x) K):∃s,K s∧QOp P o ev H s []:=by
 unfold aun at h
 split at h
 ·rename_i k n hx
  obtain ⟨m,hm,h⟩:=h
  exact ⟨_,h,t5 fun a w ι M he hh=>⟨.int k m,by simp [execOp,ho,(he.to hx).inv_atm,Op.unary,Op.intArith];rw [hm];simp,.int⟩⟩
 ·rename_i b hx
  exact ⟨_,h,t5 fun a w ι M he hh=>⟨.bool (!b),by simp [execOp,ho,(he.to hx).inv_atm,Op.unary],.bool⟩⟩
 ·exact h.elim
theorem b0k {x:Operand} (ho:o.op=.nilCheck x) {K:S->Prop} (h:aY4 (ev x) K):∃s,K s∧QOp P o ev H s []:=by
 unfold aY4 at h
 split at h
 ·rename_i id r o' hx
  exact ⟨_,h,t5 fun a w ι M he hh=>by
   have hr:=he.to hx
   generalize hv:a.eval x=v at hr
   cases hr with
   |c hr=>cases hr with
    |ptr hi=>exact ⟨_,by simp [execOp,ho,hv],.c (.ptr hi)⟩⟩
 ·rename_i cs hx
  exact ⟨_,h,t5 fun a w ι M he hh=>by
   have hr:=he.to hx
   generalize hv:a.eval x=v at hr
   cases hr with
   |c hr=>cases hr with
    |t hr=>cases hr with
     |ptr f hc hr=>exact ⟨_,by simp [execOp,ho,hv],.c (.t (.ptr f hc hr))⟩⟩
 ·exact h.elim
theorem aM7 (hτ:D3 P τ) {src dst:TypeId} {x:Operand} (ho:o.op=.convert src dst x) {K:S->Prop} (h:b5y τ src dst (ev x) K):∃s,K s∧QOp P o ev H s []:=by
 unfold b5y at h
 split at h
 ·rename_i k0 n d k _ _ _ _ hx hs hd
  obtain ⟨m,hm,h⟩:=h
  obtain ⟨u,hu,_⟩:=(hτ.td _ _ hs).und
  obtain ⟨u',hu',_,rfl⟩:=(hτ.td _ _ hd).und
  exact ⟨_,h,t5 fun a w ι M he hh=>⟨.int k m,by
   rw [hm]
   simp [execOp,ho,(he.to hx).inv_atm,convert,run_underlying hu,run_underlying hu',Conv.intToInt],.int⟩⟩
 ·exact h.elim
theorem ab4 {x:Operand} {i:Nat} (ho:o.op=.extract x i) {ss:List S} (hx:ev x=.tup ss) {s:S} (hs:ss[i]? =some s):QOp P o ev H s []:=
 t5 fun a w ι M he hh=>by
  generalize hv:a.eval x=v
  have hr:=he.to hx
  rw [hv] at hr
  cases hr with
  |tup vs hl hr=>
   have hlt:i<vs.length:=by rw [hl];exact (lbe.1 hs).1
   have:=hr i s hs
   rw [lbl,lbf hlt] at this
   exact ⟨vs[i],by simp [execOp,ho,hv,Instr.extract,hlt],this⟩
theorem aW3 (hτ:D3 P τ) {c:Call} {t:TypeId} {ts:List TypeId} {x:Operand} {xs:List Operand} (ho:o.op=.call c) (hc:c.callee=.builtin .len) (hts:c.argTypes.toList=t::ts) (hxs:c.args.toList=x::xs) {K:S->Prop}
 (h:b9h τ t (ev x) K):∃s,K s∧QOp P o ev H s []:=by
 obtain ⟨callee,args,argTypes⟩:=c
 simp only at hc hts hxs
 subst hc
 obtain rfl:argTypes=(t::ts).toArray:=by rw [← hts]
 obtain rfl:args=(x::xs).toArray:=by rw [← hxs]
 unfold b9h at h
 split at h
 ·rename_i e _ _ _ _ ht
  have hu:=L4 hτ ht
  split at h
  ·rename_i sz k rows hx
   refine ⟨_,h,t5 fun a w ι M he hh=>⟨.int .i64 rows.length,?_,.int⟩⟩
   have hr:=(he.to hx).inv_t
   generalize hv:a.eval x=v at *
   cases hr
   simp [execOp,ho,resolve,invoke,builtin,Builtin.len_,hv,run_underlying hu,goInt]
  ·rename_i id lo len app hx
   refine ⟨_,h,t5 fun a w ι M he hh=>⟨.int .i64 len,?_,.int⟩⟩
   have hr:=(he.to hx).inv_c
   generalize hv:a.eval x=v at *
   cases hr<;>simp [execOp,ho,resolve,invoke,builtin,Builtin.len_,hv,run_underlying hu,goInt]
  ·exact h.elim
 ·rename_i n e _ _ _ _ ht
  have hu:=aG4 hτ ht
  refine ⟨_,h,t5 fun a w ι M he hh=>⟨.int .i64 n,?_,.int⟩⟩
  simp [execOp,ho,resolve,invoke,builtin,Builtin.len_,run_underlying hu,goInt]
 ·exact h.elim
theorem ai5 {c:Call} (mx:Bool) (ho:o.op=.call c) (hc:c.callee=.builtin (cond mx .max .min)) {K:S->Prop}
 (h:b7K mx (c.args.toList.map ev) K):∃s,K s∧QOp P o ev H s []:=by
 obtain ⟨callee,args,argTypes⟩:=c
 simp only at hc h
 subst hc
 unfold b7K at h
 split at h
 ·rename_i k p k' q hx
  obtain ⟨args⟩:=args
  rcases args with _|⟨x,_|⟨y,_|⟨z,r⟩⟩⟩<;>simp at hx
  obtain ⟨hx,hy⟩:=hx
  refine ⟨_,h,t5 fun a w ι M he hh=>⟨.int k (cond mx (if q > p then q else p) (if q<p then q else p)),?_,.int⟩⟩
  cases mx<;>simp [execOp,ho,resolve,invoke,builtin,Builtin.min_,Builtin.max_,Builtin.min2,Builtin.max2,(he.to hx).inv_atm,(he.to hy).inv_atm]
 ·exact h.elim
theorem b2D {l:List S} {cs:List C} (h:b57 l=some cs):l=cs.map S.c:=by
 induction l generalizing cs with
 |nil=>simp [b57] at h;subst h;rfl
 |cons s l ih=>cases s<;>simp [b57] at h
               split at h
               ·rename_i xs hxs;injection h with h;subst h;rw [ih hxs];rfl
               ·cases h
theorem a86 {l:List C} {ts:List T} (h:aY8 l=some ts):l=ts.map C.t:=by
 induction l generalizing ts with
 |nil=>simp [aY8] at h;subst h;rfl
 |cons s l ih=>cases s<;>simp [aY8] at h
               split at h
               ·rename_i xs hxs;injection h with h;subst h;rw [ih hxs];rfl
               ·cases h
theorem aV8 {l:List (List C)} {ts:List (List T)} (h:aJ2 l=some ts):l=toC ts:=by
 induction l generalizing ts with
 |nil=>simp [aJ2] at h;subst h;rfl
 |cons s l ih=>simp only [aJ2] at h
               split at h
               ·rename_i a b ha hb;injection h with h;subst h;rw [ih hb,a86 ha];rfl
               ·cases h
theorem a9o {fn:Fn} {first caps:Array Operand} (ho:o.op=.makeFunc fn first caps) (hf:first.toList=[]) {cs:List C} (hc:caps.toList.map ev=cs.map S.c):QOp P o ev H (.c (.fn fn cs)) []:=
 t5 fun a w ι M he hh=>by
  obtain rfl:first=#[]:=by simpa using hf
  refine ⟨.func fn #[] (caps.toList.map a.eval).toArray,by simp [execOp,ho,Instr.makeFunc];apply Array.ext';simp,.c (.fn _ ?_ fun j c hj=>?_)⟩
  ·rw [lbr];simpa using congrArg List.length hc
  ·have h1:(caps.toList.map ev)[j]? =some (.c c):=by rw [hc,lba,hj];rfl
   rw [lba] at h1
   cases hx:caps.toList[j]? with
   |none=>rw [hx] at h1;cases h1
   |some x=>
    rw [hx] at h1
    injection h1 with h1
    rw [lbl,lba,hx]
    exact (he.to h1).inv_c
theorem a8u {fn:Fn} {first caps:Array Operand} (ho:o.op=.makeFunc fn first caps) (hf:first.toList=[]) {ts:List T} (hc:caps.toList.map ev=(ts.map C.t).map S.c):QOp P o ev H (.c (.t (.fn fn ts))) []:=
 t5 fun a w ι M he hh=>by
  obtain rfl:first=#[]:=by simpa using hf
  refine ⟨.func fn #[] (caps.toList.map a.eval).toArray,by simp [execOp,ho,Instr.makeFunc];apply Array.ext';simp,.c (.t (.fn _ ?_ fun j c hj=>?_))⟩
  ·rw [lbr];simpa using congrArg List.length hc
  ·have h1:(caps.toList.map ev)[j]? =some (.c (.t c)):=by rw [hc,lba,lba,hj];rfl
   rw [lba] at h1
   cases hx:caps.toList[j]? with
   |none=>rw [hx] at h1;cases h1
   |some x=>
    rw [hx] at h1
    injection h1 with h1
    rw [lbl,lba,hx]
    exact (he.to h1).inv_t
end
end
section
open Go.RowKit
def a2V (w:World) (ι:Io) (M:Ms) (cs:List C) (vs:Array Value):Prop:=vs.size=cs.length∧∀(j:Nat) (c:C),cs[j]? =some c->∃u,vs[j]? =some u∧RC w ι M c u
theorem RS.cells {w:World} {ι:Io} {M:Ms} {s:S} {v:Value} (h:RS w ι M s v) {cs:List C} (hc:(∃ c,s=.c c∧cs=[c])∨s=.agg cs):a2V w ι M cs v.cells:=by
 rcases hc with ⟨c,rfl,rfl⟩|rfl
 ·have hr:=h.inv_c
  have h1:=hr.one
  have:v.cells=#[v]:=by cases v<;>first|rfl|(simp [Value.oneCell'] at h1)
  rw [this]
  refine ⟨rfl,fun j c' hj=>?_⟩
  cases j with
  |zero=>simp at hj;subst hj;exact ⟨v,rfl,hr⟩
  |succ j=>simp at hj
 ·cases h with
  |agg vs hl hr=>
   refine ⟨by simpa [Value.cells] using hl,fun j c hj=>?_⟩
   have hlt:j<vs.length:=by rw [hl];exact (lbe.1 hj).1
   have:=hr j c hj
   rw [lbl,lbf hlt] at this
   exact ⟨vs[j],by simp [Value.cells,hlt],this⟩
theorem a2V.agg {w:World} {ι:Io} {M:Ms} {cs:List C} {vs:Array Value} (h:a2V w ι M cs vs):RS w ι M (.agg cs) (.agg vs):=by
 have:RS w ι M (.agg cs) (.agg vs.toList.toArray):=.agg vs.toList (by simpa using h.1) fun j c hj=>by
  obtain ⟨u,h1,h2⟩:=h.2 j c hj
  rw [lbl]
  simpa [h1] using h2
 simpa using this
theorem a2V.const {w:World} {ι:Io} {M:Ms} {vs:Array Value} (h:∀v ∈ vs.toList,v.oneCell'=true):a2V w ι M (vs.toList.map I0) vs:=
 ⟨by simp,fun j c hj=>by
   rw [lba] at hj
   cases hv:vs.toList[j]? with
   |none=>rw [hv] at hj;cases hj
   |some v=>
    rw [hv] at hj
    injection hj with hj
    subst hj
    exact ⟨v,by simpa using hv,RC.const (h v (lbm hv))⟩⟩
theorem a2V.one {w:World} {ι:Io} {M:Ms} {cs:List C} {vs:Array Value} (h:a2V w ι M cs vs):∀v ∈ vs.toList,v.oneCell'=true:=fun v hv=>by
 obtain ⟨j,hj⟩:=List.mem_iff_getElem?.1 hv
 have hlt:j<cs.length:=by
  have:=(lbe.1 hj).1
  rw [← h.1];simpa using this
 obtain ⟨u,h1,h2⟩:=h.2 j _ (lbf hlt)
 have:u=v:=by
  have hj':vs[j]? =some v:=by simpa using hj
  rw [hj'] at h1;injection h1 with h1;exact h1.symm
 exact this ▸ h2.one
theorem ad8 (off:Nat) (vs:Array Value) (cells:Array Value) (h:off+vs.size<=cells.size):
 ∃r,vs.zipIdx.foldl (fun cs (x:Value × Nat)=>cs.setIfInBounds (off+x.2) x.1) cells=r∧r.size=cells.size∧
  ∀m,r[m]? =if off<=m∧m<off+vs.size then vs[m - off]? else cells[m]?:=by
 refine ⟨_,rfl,?_⟩
 rw [← Array.foldl_toList,Array.toList_zipIdx]
 have key:∀(l:List Value) (j:Nat) (c:Array Value),off+j+l.length<=c.size->
  ((l.zipIdx j).foldl (fun cs (x:Value × Nat)=>cs.setIfInBounds (off+x.2) x.1) c).size=c.size∧
  ∀m,((l.zipIdx j).foldl (fun cs (x:Value × Nat)=>cs.setIfInBounds (off+x.2) x.1) c)[m]? =if off+j<=m∧m<off+j+l.length then l[m - (off+j)]? else c[m]?:=by
  intro l
  induction l with
  |nil=>intro j c hc;simp
        intro m h1 h2;omega
  |cons v l ih=>
   intro j c hc
   simp only [lbu] at hc
   obtain ⟨h1,h2⟩:=ih (j+1) (c.setIfInBounds (off+j) v) (by rw [Array.size_setIfInBounds];omega)
   simp only [List.zipIdx_cons,List.foldl_cons]
   refine ⟨by rw [h1];simp,fun m=>?_⟩
   rw [h2]
   by_cases hm:m=off+j
   ·subst hm
    rw [if_neg (by omega),if_pos (by simp)]
    simp [show off+j<c.size by omega]
   ·by_cases hm2:off+(j+1)<=m∧m<off+(j+1)+l.length
    ·rw [if_pos hm2,if_pos (by simp only [lbu];omega),show m - (off+j)=(m - (off+(j+1)))+1 by omega]
     simp
    ·rw [if_neg hm2,if_neg (by simp only [lbu];omega),Array.getElem?_setIfInBounds_ne (by omega)]
 have:=key vs.toList 0 cells (by simpa using h)
 simpa using this
theorem a2V.over {w:World} {ι:Io} {M:Ms} {cells cs:List C} {arr vs:Array Value} (h:a2V w ι M cells arr) (h':a2V w ι M cs vs) {off:Nat} (hl:off+cs.length<=cells.length):
 a2V w ι M (cells.take off++cs++cells.drop (off+cs.length)) (vs.zipIdx.foldl (fun cs (x:Value × Nat)=>cs.setIfInBounds (off+x.2) x.1) arr):=by
 obtain ⟨r,hr,hs,hm⟩:=ad8 off vs arr (by rw [h.1,h'.1];exact hl)
 rw [hr]
 refine ⟨by rw [hs,h.1];simp;omega,fun j c hj=>?_⟩
 rw [hm,h'.1]
 by_cases h1:j<off
 ·rw [if_neg (by omega)]
  rw [lbD,lbb (by simp;omega),List.getElem?_take_of_lt h1] at hj
  exact h.2 j c hj
 ·by_cases h2:j<off+cs.length
  ·rw [if_pos (by omega)]
   rw [lbb (by simp;omega),lbc (by simp;omega)] at hj
   have:(cells.take off).length=off:=by simp;omega
   rw [this] at hj
   exact h'.2 _ c hj
  ·rw [if_neg (by omega)]
   rw [lbc (by simp;omega),lbj] at hj
   have:(cells.take off++cs).length=off+cs.length:=by simp;omega
   rw [this,show off+cs.length+(j - (off+cs.length))=j by omega] at hj
   exact h.2 j c hj
section
variable {P:Program} {τ:Tab} {o:Oper} {ev:Operand->S} {H:Hp}
theorem au6 {w:World} {ι:Io} {M:Ms} {a:Act} (he:X2 w ι M ev a) {fs:List (Nat × Nat × Bool)}:∀(parts:List (Nat × Operand)) (cells:List C) (arr:Array Value) {k:List C->Prop},
 a2V w ι M cells arr->aP3 fs cells (parts.map fun p=>(p.1,ev p.2)) k->
 ∃cells',k cells'∧∃r,Instr.fill ((fs.map (fun x=>(x.1,x.2.1)))[·]?) arr (parts.map fun p=>(p.1,a.eval p.2))=some r∧a2V w ι M cells' r
 |[],cells,arr,k,hr,h=>⟨cells,h,arr,rfl,hr⟩
 |(i,x)::rest,cells,arr,k,hr,h=>by
  obtain ⟨cs,h,hcs⟩:=a1W h
  unfold a9L at h
  split at h
  ·rename_i off size ag hf
   obtain ⟨hb,h⟩:=E6 h
   have hb:cs.length=size∧0<size:=by simpa [Nat.blt_eq] using hb
   obtain ⟨hlen,h⟩:=a7M h (by intro e;subst e;simp at hb;omega)
   have hv:=(he x).cells hcs
   obtain ⟨cells',hk,r,hr1,hr2⟩:=au6 he rest _ _ (hr.over hv hlen) h
   refine ⟨cells',hk,r,?_,hr2⟩
   simp only [List.map_cons,Instr.fill]
   rw [lba,hf]
   simp only [Option.map_some]
   rw [if_neg (by have q1:=hv.1;have q2:=hr.1;have q3:=hlen;simp at q3 ⊢;omega)]
   exact hr1
  ·exact h.elim
theorem ar7 {w:World} {ι:Io} {M:Ms} {a:Act} (he:X2 w ι M ev a) {size:Nat}:∀(parts:List (Nat × Operand)) (cells:List C) (arr:Array Value) {k:List C->Prop},
 a2V w ι M cells arr->aP9 size cells (parts.map fun p=>(p.1,ev p.2)) k->
 ∃cells',k cells'∧∃r,Instr.fill (fun i=>some (i*size,size)) arr (parts.map fun p=>(p.1,a.eval p.2))=some r∧a2V w ι M cells' r
 |[],cells,arr,k,hr,h=>⟨cells,h,arr,rfl,hr⟩
 |(i,x)::rest,cells,arr,k,hr,h=>by
  obtain ⟨cs,h,hcs⟩:=a1W h
  obtain ⟨hb,h⟩:=E6 h
  have hb:cs.length=size∧0<size:=by simpa [Nat.blt_eq] using hb
  obtain ⟨hlen,h⟩:=a7M h (by intro e;subst e;simp at hb;omega)
  have hv:=(he x).cells hcs
  obtain ⟨cells',hk,r,hr1,hr2⟩:=ar7 he rest _ _ (hr.over hv hlen) h
  refine ⟨cells',hk,r,?_,hr2⟩
  simp only [List.map_cons,Instr.fill]
  rw [if_neg (by have q1:=hv.1;have q2:=hr.1;have q3:=hlen;simp at q3 ⊢;omega)]
  exact hr1
theorem a6c {s:S} {k:List C->Prop} (h:a2L s k):∃cs,k cs∧a2L s (·=cs):=by
 cases s<;>first|exact ⟨_,h,rfl⟩|exact h.elim
theorem a4r {s:S} {k k':List C->Prop} (h:a2L s k) (hk:∀cs,k cs->k' cs):a2L s k':=by
 cases s<;>first|exact hk _ h|exact h.elim
theorem ap9 {fs:List (Nat × Nat × Bool)}:∀(parts:List (Nat × S)) (cells:List C) {k:List C->Prop},aP3 fs cells parts k->∃c,k c∧aP3 fs cells parts (·=c)
 |[],cells,k,h=>⟨cells,h,rfl⟩
 |(i,s)::rest,cells,k,h=>by
  obtain ⟨cs,h,hcs⟩:=a6c h
  unfold a9L at h
  split at h
  ·rename_i off size ag hf
   obtain ⟨hb,h⟩:=E6 h
   have hb':cs.length=size∧0<size:=by simpa [Nat.blt_eq] using hb
   have hne:cs≠[]:=by intro e;subst e;simp at hb';omega
   obtain ⟨hlen,h⟩:=a7M h hne
   obtain ⟨c,h1,h2⟩:=ap9 rest _ h
   refine ⟨c,h1,a4r hcs ?_⟩
   rintro _ rfl
   unfold a9L
   rw [hf]
   simp only [hb,cond_true]
   exact aQ9 hlen hne h2
  ·exact h.elim
theorem aq7 {size:Nat}:∀(parts:List (Nat × S)) (cells:List C) {k:List C->Prop},aP9 size cells parts k->∃c,k c∧aP9 size cells parts (·=c)
 |[],cells,k,h=>⟨cells,h,rfl⟩
 |(i,s)::rest,cells,k,h=>by
  obtain ⟨cs,h,hcs⟩:=a6c h
  obtain ⟨hb,h⟩:=E6 h
  have hb':cs.length=size∧0<size:=by simpa [Nat.blt_eq] using hb
  have hne:cs≠[]:=by intro e;subst e;simp at hb';omega
  obtain ⟨hlen,h⟩:=a7M h hne
  obtain ⟨c,h1,h2⟩:=aq7 rest _ h
  refine ⟨c,h1,a4r hcs ?_⟩
  rintro _ rfl
  simp only [hb,cond_true]
  exact aQ9 hlen hne h2
theorem a8x (a:Act) (parts:Array (Nat × Operand)):(parts.map fun (i,x)=>(i,a.eval x)).toList=parts.toList.map fun p=>(p.1,a.eval p.2):=by simp
theorem aF0 (hτ:D3 P τ) {t:TypeId} {parts:Array (Nat × Operand)} (ho:o.op=.build t parts) {K:S->Prop} (h:az9 τ ev t parts.toList K):∃s,K s∧QOp P o ev H s []:=by
 unfold az9 at h
 split at h
 ·rename_i fs _ _ _ z ht
  rw [a0Y] at h
  obtain ⟨u,hu,_,fields,rfl,_,_,hm⟩:=(hτ.td _ _ ht).und
  obtain ⟨i,hi,_,_,z',hz,hzs,hone,_⟩:=(hτ.td _ _ ht).info
  simp only at hzs hone
  subst hzs
  obtain ⟨cs,hk,hd⟩:=ap9 _ _ h
  refine ⟨_,hk,t5 fun a w ι M he hh=>?_⟩
  obtain ⟨cs',rfl,r,h1,h2⟩:=au6 he parts.toList _ z'.cells (a2V.const hone) hd
  refine ⟨.agg r,?_,h2.agg⟩
  have hb:P.built t (parts.map fun (i,x)=>(i,a.eval x)).toList=some r:=by
   rw [a8x]
   simp only [Program.built,hi,hu,hz,hm]
   simpa using h1
  simp only [execOp,ho,Sem.run_bind,run_build w t _ r hb,Result.andThen_ok]
  rfl
 ·rename_i n e _ _ _ z ht
  obtain ⟨d,hd,h,_⟩:=U8 hτ h
  rw [a0Y] at h
  have hu:=aG4 hτ ht
  obtain ⟨i,hi,_,_,z',hz,hzs,hone,_⟩:=(hτ.td _ _ ht).info
  obtain ⟨ie,hie,hse,_⟩:=(hτ.td _ _ hd).info
  simp only at hzs hone
  subst hzs
  obtain ⟨cs,hk,hd'⟩:=aq7 _ _ h
  refine ⟨_,hk,t5 fun a w ι M he hh=>?_⟩
  obtain ⟨cs',rfl,r,h1,h2⟩:=ar7 he parts.toList _ z'.cells (a2V.const hone) hd'
  refine ⟨.agg r,?_,h2.agg⟩
  have hb:P.built t (parts.map fun (i,x)=>(i,a.eval x)).toList=some r:=by
   rw [a8x]
   simp only [Program.built,hi,hu,hz,hie,hse]
   exact h1
  simp only [execOp,ho,Sem.run_bind,run_build w t _ r hb,Result.andThen_ok]
  rfl
 ·exact h.elim
theorem K7.new {w w':World} {ι:Io} {M:Ms} {n:Nat} {s:S} {v:Value} {e:TypeId} {size cap:Nat} {rows:List (List C)} {box ap:Bool} {cur:Array Value}
 (hos:w'.os=w.os) (htape:w'.tape=w.tape) (hout:w'.output=w.output) (hheap:w'.heap=w.heap.push (.cells cur e (0,0)))
 (hn:ι n=none) (h0:0<size) (hl:rows.length<=cap) (hm:cap<=maxLen) (hrow:∀r ∈ rows,r.length=size) (hsz:cur.size=cap*size)
 (hc:∀i j c,at2 rows i j=some c->∃u,cur[i*size+j]? =some u∧RC w ι M c u)
 (hs:∀(ι':Io) (M':Ms),ι' n=some (.blk w.heap.size cap size)->RS w' ι' M' s v):K7 w ι M n s [⟨.live,e,size,rows,box,ap⟩] v w':=by
 have hsize:w'.heap.size=w.heap.size+1:=by rw [hheap];simp
 have hold:∀b,b<w.heap.size->w'.heap[b]? =w.heap[b]?:=fun b hb=>by rw [hheap,Array.getElem?_push,if_neg (by omega)]
 have hnew:w'.heap[w.heap.size]? =some (.cells cur e (0,0)):=by rw [hheap];simp
 refine ⟨fun _=>.blk w.heap.size cap size,hs _ _ ?_,⟨hos,htape,hout,by omega,hold⟩,?_,?_,?_⟩
 ·unfold C3;rw [if_pos (by simp)]
 ·intro k blk hk
  cases k with
  |succ k=>simp at hk
  |zero=>
   simp at hk
   subst hk
   refine ⟨rfl,rfl,h0,hl,hm,hrow,cur,hnew,hsz,fun i j c hij=>?_⟩
   obtain ⟨u,h1,h2⟩:=hc i j c hij
   refine ⟨u,h1,h2.keep (fun b hb _=>hold b hb) ?_ (fun id l hid=>?_)⟩
   ·rintro b (hb|⟨k,hk,c',s',he⟩)
    ·exact .inl hb
    ·injection he with he;exact .inr (by omega)
   ·unfold C3
    split
    ·rename_i hc'
     have:id=n:=by simp at hc';omega
     subst this
     rw [hn] at hid
     cases hid
    ·exact hid
 ·intro k b c s' hk he
  injection he with he
  omega
 ·intro k k' b c s' c' s'' hk hk' _ _
  simp at hk hk'
  omega
theorem ae4 {cs:List C} {i j:Nat} {c:C} (h:at2 [cs] i j=some c):i=0∧cs[j]? =some c:=by
 obtain ⟨row,h1,h2⟩:=F4 h
 cases i with
 |zero=>simp at h1;subst h1;exact ⟨rfl,h2⟩
 |succ i=>simp at h1
theorem aY1 {t:TypeId} {x:Operand} (ho:o.op=.box t x) {K:S->List Blk->Prop} (h:b7Q ev H.length t x K):∃s B,K s B∧QOp P o ev H s B:=by
 unfold b7Q at h
 obtain ⟨cs,h,hcs⟩:=a1W h
 split at h
 ·exact h.elim
 rename_i c r
 have hown:K (.c (.ptr H.length 0 0)) [I1 t (c::r).length [c::r] true]->∃s B,K s B∧QOp P o ev H s B:=fun h=>by
  refine ⟨_,_,h,fun a w ι M he hh hm hf=>?_⟩
  obtain ⟨ha1,ha2⟩:=(he x).cells hcs
  refine t9 (w':=w.alloc (.cells (a.eval x).cells t)) (v:=.pointer (some ⟨w.heap.size,0,none⟩)) (by simp [execOp,ho,Instr.box,newVar,newRow]) ?_
  refine K7.new (cap:=1) (cur:=(a.eval x).cells) rfl rfl rfl rfl (hf 0 (by simp)) (by simp) (by simp) (by unfold maxLen;omega) (by simp) (by rw [ha1];simp) ?_ ?_
  ·intro i j c' hij
   obtain ⟨rfl,hj⟩:=ae4 hij
   obtain ⟨u,h1,h2⟩:=ha2 j c' hj
   exact ⟨u,by simpa using h1,h2⟩
  ·intro ι' M' hi
   have:=RC.ptr (w:=w.alloc (.cells (a.eval x).cells t)) (M:=M') (r:=0) (o:=0) hi
   simp only [Nat.zero_mul,Nat.zero_add] at this
   exact .c this
 split at h
 ·rename_i ts hts
  have hts:=a86 hts
  obtain ⟨h|h⟩:=h
  rotate_left
  ·exact hown h
  refine ⟨_,_,h,fun a w ι M he hh hm hf=>?_⟩
  obtain ⟨ha1,ha2⟩:=(he x).cells hcs
  refine t9 (w':=w.alloc (.cells (a.eval x).cells t)) (v:=.pointer (some ⟨w.heap.size,0,none⟩)) (by simp [execOp,ho,Instr.box,newVar,newRow]) ?_
  have hext:Ext w (w.alloc (.cells (a.eval x).cells t)):=⟨rfl,rfl,rfl,by simp,fun b hb=>heap_alloc_old w _ hb⟩
  refine K7.of_none ?_ hext
  have hat:∀j c',ts[j]? =some c'->∃u,(a.eval x).cells[j]? =some u∧RT w M c' u:=fun j c' hj=>by
   obtain ⟨u,h1,h2⟩:=ha2 j (.t c') (by rw [hts,lba,hj];rfl)
   refine ⟨u,by simpa using h1,?_⟩
   cases h2 with
   |t h2=>exact h2
  refine .c (.t (.ptr (b:=w.heap.size) (off:=0) (fun j=>(a.eval x).cells.getD j undef) ?_ ?_))
  ·intro j c' hj
   obtain ⟨u,s1,s2⟩:=hat j c' hj
   refine ⟨?_,fun hM=>absurd (hm _ hM) (by omega)⟩
   have hn:=heap_alloc_new w (.cells (a.eval x).cells t)
   simp only [World.cell?]
   rw [hn]
   simp [s1]
  ·intro j c' hj
   obtain ⟨u,s1,s2⟩:=hat j c' hj
   have:(a.eval x).cells.getD j undef=u:=by simp [s1]
   show RT _ M c' ((a.eval x).cells.getD j undef)
   rw [this]
   exact s2.keep (fun b hb _=>hext.keep b hb) (fun b h=>.inl h)
 ·exact hown h
theorem aG1 (hτ:D3 P τ) {t:TypeId} (ho:o.op=.alloc t) {K:S->List Blk->Prop} (h:aU9 τ H.length t K):∃s B,K s B∧QOp P o ev H s B:=by
 unfold aU9 at h
 split at h
 ·rename_i d hd
  rw [a0Y] at h
  obtain ⟨hb,h⟩:=Y6 h
  have hb:d.zero.length≠0:=by intro e;simp [e] at hb
  refine ⟨_,_,h,fun a w ι M he hh hm hf=>?_⟩
  obtain ⟨i,hi,_,_,z,hz,hzs,hone,_⟩:=(hτ.td _ _ hd).info
  obtain ⟨ha1,ha2⟩:=a2V.const (w:=w) (ι:=ι) (M:=M) (vs:=z.cells) (by rw [hzs];exact hone)
  rw [hzs] at ha1 ha2
  refine t9 (w':=w.alloc (.cells z.cells t)) (v:=.pointer (some ⟨w.heap.size,0,none⟩)) (by simp [execOp,ho,Instr.alloc,zeroValue,typeInfo,hi,hz,newVar,newRow]) ?_
  refine K7.new (cap:=1) (cur:=z.cells) rfl rfl rfl rfl (hf 0 (by simp)) (by simp;omega) (by simp) (by unfold maxLen;omega) (by simp) (by rw [ha1];simp) ?_ ?_
  ·intro i j c' hij
   obtain ⟨rfl,hj⟩:=ae4 hij
   obtain ⟨u,h1,h2⟩:=ha2 j c' hj
   exact ⟨u,by simpa using h1,h2⟩
  ·intro ι' M' hi
   have:=RC.ptr (w:=w.alloc (.cells z.cells t)) (M:=M') (r:=0) (o:=0) hi
   simp only [Nat.zero_mul,Nat.zero_add] at this
   exact .c this
 ·exact h.elim
theorem a2X {z:Array Value} {size n i j:Nat} (hz:z.size=size) (hi:i<n) (hj:j<size):(madeCells z (n*size))[i*size+j]? =z[j]?:=by
 have hlt:i*size+j<n*size:=by
  have:i*size+size<=n*size:=by rw [← lbU];exact lbT _ hi
  omega
 unfold madeCells
 rw [Array.getElem?_map,Array.getElem?_range,if_pos hlt]
 have hmod:(i*size+j) % z.size=j:=by rw [hz,Nat.mul_comm,Nat.mul_add_mod];exact Nat.mod_eq_of_lt hj
 simp only [Option.map_some,hmod]
 rw [Array.getElem?_eq_getElem (by omega),getElem!_pos]
theorem aI5 (hτ:D3 P τ) {t:TypeId} {l c:Operand} (ho:o.op=.makeSlice t l c) {K:S->List Blk->Prop} (h:b0Q τ ev H.length t l c K):∃s B,K s B∧QOp P o ev H s B:=by
 unfold b0Q at h
 split at h
 ·rename_i k1 p k2 q e _ _ _ _ hl hc ht
  split at h
  ·rename_i d hd
   obtain ⟨hb,⟨h0,h1,h2⟩,h⟩:=Y6 h
   rw [a0Y] at h
   have hb:d.size≠0:=by intro e;simp [e] at hb
   refine ⟨_,_,h,fun a w ι M he hh hm hf=>?_⟩
   obtain ⟨i,hi,hs,hby,z,hz,hzs,hone,hzl⟩:=(hτ.td _ _ hd).info
   have hu:=L4 hτ ht
   have hq:q*(i.bytes:Int)<=q*((d.bytes:Int)+1):=lbV (by omega) (by omega)
   have hq1:q<=q*((d.bytes:Int)+1):=by
    have:q*1<=q*((d.bytes:Int)+1):=lbV (by omega) (by omega)
    omega
   have hmk:=run_make (P:=P) w t e i z hu hi hz k1 k2 p q h0 h1 (by rw [Int.mul_comm];omega) (by omega)
   have hsz:z.cells.size=i.size:=by
    rw [hs,←hzl,←hzs];simp
   refine t9 (w':=w.alloc (.cells (madeCells z.cells (q.toNat*i.size)) e)) (v:=.slice (some ⟨w.heap.size,0,none⟩) p.toNat q.toNat)
    (by simp only [execOp,ho,(he.to hl).inv_atm,(he.to hc).inv_atm,Sem.run_bind,hmk,Result.andThen_ok];rfl) ?_
   obtain ⟨ha1,ha2⟩:=a2V.const (w:=w) (ι:=ι) (M:=M) (vs:=z.cells) (by rw [hzs];exact hone)
   rw [hzs] at ha1 ha2
   refine K7.new (cap:=q.toNat) (cur:=madeCells z.cells (q.toNat*i.size)) rfl rfl rfl rfl (hf 0 (by simp)) (by omega) (by simp;omega) (by unfold maxLen;omega) ?_ (by rw [size_madeCells,hs]) ?_ ?_
   ·intro r hr
    rw [(List.mem_replicate.1 hr).2,←ha1,hsz,hs]
   ·intro i' j c' hij
    obtain ⟨row,hr1,hr2⟩:=F4 hij
    rw [lbk] at hr1
    split at hr1
    ·rename_i hlt
     injection hr1 with hr1
     subst hr1
     obtain ⟨u,q1,q2⟩:=ha2 j c' hr2
     have hj:j<i.size:=by rw [← hsz];exact (lb4.1 q1).1
     exact ⟨u,by rw [← hs,a2X hsz (by omega) hj,q1],q2⟩
    ·cases hr1
   ·intro ι' M' hi
    exact .c (.own hi (by omega) (fun _=>by rw [Nat.zero_mul]) (by omega) (by unfold maxLen;omega) (fun _=>⟨rfl,rfl,rfl⟩))
  ·exact h.elim
 ·exact h.elim
end
end
section
open Go.RowKit
structure B3 (w:World) (ι:Io) (M:Ms) (size:Nat) (rows:List (List C)) (vals:List Value):Prop where
 len:vals.length=rows.length*size
 row:∀r ∈ rows,r.length=size
 cell:∀i j c,at2 rows i j=some c->∃u,vals[i*size+j]? =some u∧RC w ι M c u
theorem B3.at {w:World} {ι:Io} {M:Ms} {size:Nat} {rows:List (List C)} {vals:List Value} (h:B3 w ι M size rows vals) {q:Nat} {u:Value} (hu:vals[q]? =some u):
 ∃i j c,q=i*size+j∧at2 rows i j=some c∧RC w ι M c u:=by
 have hq:q<rows.length*size:=by rw [← h.len];exact (lbe.1 hu).1
 have h0:0<size:=by
  rcases Nat.eq_zero_or_pos size with h|h
  ·subst h;simp at hq
  ·exact h
 have hi:q / size<rows.length:=by rw [Nat.div_lt_iff_lt_mul h0];exact hq
 have hj:q % size<size:=Nat.mod_lt _ h0
 have hr:=h.row rows[q / size] (lbE hi)
 have hc:at2 rows (q / size) (q % size)=some (rows[q / size][q % size]'(by omega)):=C7 (lbf hi) (lbf (by omega))
 have e:q=q / size*size+q % size:=by rw [Nat.mul_comm];exact (Nat.div_add_mod q size).symm
 obtain ⟨u',h1,h2⟩:=h.cell _ _ _ hc
 rw [← e,hu] at h1
 injection h1 with h1
 subst h1
 exact ⟨_,_,_,e,hc,h2⟩
theorem B3.one {w:World} {ι:Io} {M:Ms} {size:Nat} {rows:List (List C)} {vals:List Value} (h:B3 w ι M size rows vals):∀u ∈ vals,u.oneCell'=true:=fun u hu=>by
 obtain ⟨q,hq⟩:=List.mem_iff_getElem?.1 hu
 obtain ⟨_,_,_,_,_,h⟩:=h.at hq
 exact h.one
theorem B3.nil (w:World) (ι:Io) (M:Ms) (size:Nat):B3 w ι M size [] []:=⟨by simp,by simp,by simp [at2]⟩
theorem B3.append {w:World} {ι:Io} {M:Ms} {size:Nat} {r1 r2:List (List C)} {v1 v2:List Value} (h1:B3 w ι M size r1 v1) (h2:B3 w ι M size r2 v2):
 B3 w ι M size (r1++r2) (v1++v2):=by
 refine ⟨by rw [lbq,lbq,h1.len,h2.len,Nat.add_mul],?_,?_⟩
 ·intro r hr
  rcases lbz.1 hr with hr|hr
  ·exact h1.row r hr
  ·exact h2.row r hr
 ·intro i j c hc
  obtain ⟨row,hr1,hr2⟩:=F4 hc
  by_cases hi:i<r1.length
  ·rw [lbb hi] at hr1
   obtain ⟨u,q1,q2⟩:=h1.cell i j c (C7 hr1 hr2)
   exact ⟨u,by rw [lbb (lbe.1 q1).1];exact q1,q2⟩
  ·rw [lbc (by omega)] at hr1
   obtain ⟨u,q1,q2⟩:=h2.cell _ j c (C7 hr1 hr2)
   refine ⟨u,?_,q2⟩
   have e:i*size+j=r1.length*size+((i - r1.length)*size+j):=by
    rw [← Nat.add_assoc,←Nat.add_mul,show r1.length+(i - r1.length)=i by omega]
   rw [lbc (by rw [h1.len,e];omega),h1.len,show i*size+j - r1.length*size=(i - r1.length)*size+j by omega]
   exact q1
theorem aR8 {w:World} {ι:Io} {M:Ms} {size:Nat} {k:SK} {rows:List (List T)} {A:Option Addr} {n cap:Nat} (h:RT w M (.sl size k rows) (.slice A n cap)):
 n=rows.length∧∃vals,B3 w ι M size (toC rows) vals∧(rows≠[]->∃b off,A=some ⟨b,off,none⟩∧∀q u,vals[q]? =some u->w.cell? ⟨b,off+q,none⟩=some u):=by
 cases h with
 |@sl _ _ _ b off _ _ f hrow hcap hmax hk hn hA hc hr=>
  refine ⟨rfl,(List.range (rows.length*size)).map (fun q=>f (q / size) (q % size)),?_,fun hne=>⟨b,off,hA hne,fun q u hq=>?_⟩⟩
  ·refine ⟨by simp [toC],?_,?_⟩
   ·intro r hr'
    obtain ⟨r',h1,rfl⟩:=lbx.1 hr'
    rw [lbr]
    exact hrow r' h1
   ·intro i j c hij
    obtain ⟨row,h1,h2⟩:=F4 hij
    unfold toC at h1
    rw [lba] at h1
    cases hri:rows[i]? with
    |none=>rw [hri] at h1;cases h1
    |some row'=>
     rw [hri] at h1
     injection h1 with h1
     subst h1
     rw [lba] at h2
     cases hrj:row'[j]? with
     |none=>rw [hrj] at h2;cases h2
     |some c'=>
      rw [hrj] at h2
      injection h2 with h2
      subst h2
      have hi:i<rows.length:=(lbe.1 hri).1
      have hj:j<size:=by rw [← hrow row' (lbm hri)];exact (lbe.1 hrj).1
      have hlt:i*size+j<rows.length*size:=by
       have:i*size+size<=rows.length*size:=by rw [← lbU];exact lbT _ hi
       omega
      have e1:(i*size+j) / size=i:=by
       rw [Nat.mul_comm,Nat.mul_add_div (by omega),Nat.div_eq_of_lt hj,Nat.add_zero]
      have e2:(i*size+j) % size=j:=by
       rw [Nat.mul_comm,Nat.mul_add_mod];exact Nat.mod_eq_of_lt hj
      refine ⟨f i j,?_,.t (hr i j c' (C7 hri hrj))⟩
      rw [lba,lbh hlt]
      simp [e1,e2]
  ·have hlt:q<rows.length*size:=by have:=(lbe.1 hq).1;simpa using this
   rw [lba,lbh hlt] at hq
   injection hq with hq
   subst hq
   have h0:0<size:=by
    rcases Nat.eq_zero_or_pos size with h|h
    ·subst h;simp at hlt
    ·exact h
   have hi:q / size<rows.length:=by rw [Nat.div_lt_iff_lt_mul h0];exact hlt
   have hj:q % size<size:=Nat.mod_lt _ h0
   have hrl:=hrow rows[q / size] (lbE hi)
   have:=(hc (q / size) (q % size) _ (C7 (lbf hi) (lbf (by omega)))).1
   rw [show q / size*size+q % size=q by rw [Nat.mul_comm];exact Nat.div_add_mod q size] at this
   exact this
theorem a5m {w:World} {ι:Io} {M:Ms} {k:Blk} {b cap size:Nat} (h:N1 w ι M k (.blk b cap size)) {lo len:Nat} (hl:lo+len<=k.rows.length):
 ∃vals,B3 w ι M size ((k.rows.drop lo).take len) vals∧∀q u,vals[q]? =some u->w.cell? ⟨b,lo*size+q,none⟩=some u:=by
 obtain ⟨h1,h2,h3,h4,h5,cur,h6,h7,h8⟩:=h
 have hmul:lo*size+len*size<=cap*size:=by rw [← Nat.add_mul];exact lbT _ (by omega)
 refine ⟨(cur.toList.drop (lo*size)).take (len*size),⟨?_,?_,?_⟩,?_⟩
 ·rw [lbs,List.length_drop,Array.length_toList,h7,lbs,List.length_drop]
  rw [Nat.min_eq_left (by omega),Nat.min_eq_left (by omega)]
 ·intro r hr
  exact h5 r (List.mem_of_mem_drop (List.mem_of_mem_take hr))
 ·intro i j c hij
  obtain ⟨row,q1,q2⟩:=F4 hij
  rw [lbi] at q1
  split at q1
  ·rename_i hi
   rw [lbj] at q1
   obtain ⟨u,r1,r2⟩:=h8 _ _ _ (C7 q1 q2)
   refine ⟨u,?_,r2⟩
   have hj:j<size:=by rw [← h5 row (lbm q1)];exact (lbe.1 q2).1
   have hlt:i*size+j<len*size:=by
    have:i*size+size<=len*size:=by rw [← lbU];exact lbT _ hi
    omega
   rw [List.getElem?_take_of_lt hlt,lbj,←Nat.add_assoc,←Nat.add_mul]
   simpa using r1
  ·cases q1
 ·intro q u hq
  rw [lbi] at hq
  split at hq
  ·rw [lbj] at hq
   simp [World.cell?,h6]
   simpa using hq
  ·cases hq
section
variable {P:Program} {τ:Tab} {o:Oper} {ev:Operand->S} {H:Hp}
theorem aO5 (hτ:D3 P τ) {size:Nat} {t e:TypeId} (hu:P.underlying t=some (.slice e)) {x:Operand} {k:List (List C)->Prop} (h:b8x size H (ev x) k):
 ∃xr,k xr∧∀(a:Act) (w:World) (ι:Io) (M:Ms),X2 w ι M ev a->p9 w ι M H->∃news,B3 w ι M size xr news∧Src P size t (a.eval x) xr.length news w∧
  (xr.length=0∨∃ad c,a.eval x=.slice (some ad) xr.length c∧∀j v,news[j]? =some v->w.cell? (ad.add j)=some v):=by
 unfold b8x at h
 split at h
 ·rename_i s sk rows hx
  refine ⟨_,h.2,fun a w ι M he hh=>?_⟩
  have hr:=(he.to hx).inv_t
  generalize a.eval x=v at *
  by_cases hne:rows=[]
  ·subst hne
   cases hr with
   |@sl _ _ _ b off cap A f hrow hcap hmax hk hn hA hc hr=>
    refine ⟨[],B3.nil w ι M size,?_,.inl rfl⟩
    cases A with
    |none=>exact Src.ofNil w hu _
    |some ad=>exact Src.ofSlice w hu ad 0 _ [] (by simp) (by simp) (by simp)
  ·have hs:s=size:=by
    rcases h.1 with h|h
    ·exact absurd (lbF h) hne
    ·exact h
   subst hs
   cases hr with
   |@sl _ _ _ b off cap A f hrow hcap hmax hk hn hA hc hr hxx=>
    obtain ⟨_,vals,h1,h2⟩:=aR8 (ι:=ι) (RT.sl f hrow hcap hmax hk hn hA hc hr hxx)
    obtain ⟨b,off,rfl,h3⟩:=h2 hne
    have h3':∀j v,vals[j]? =some v->w.cell? ((⟨b,off,none⟩:Addr).add j)=some v:=fun j v hj=>by rw [Addr.add_none];exact h3 j v hj
    have e:rows.length=(toC rows).length:=by simp [toC]
    rw [e]
    exact ⟨vals,h1,Src.ofSlice w hu _ _ _ vals h1.len h3' h1.one,.inr ⟨_,_,rfl,h3'⟩⟩
 ·rename_i id lo len app hx
  obtain ⟨bk,hbk,h⟩:=O1 h
  obtain ⟨hdead,h⟩:=a0a h
  obtain ⟨hs,hl,h⟩:=E6 h
  have hs:bk.size=size:=by simpa using hs
  refine ⟨_,h,fun a w ι M he hh=>?_⟩
  have hr:=(he.to hx).inv_c
  generalize a.eval x=v at *
  have hlen:((bk.rows.drop lo).take len).length=len:=by simp;omega
  cases hr with
  |@own _ _ _ _ b cap sz A cap' h' q1 q2 q3 q4 q5=>
   have hb:=hh.blk id bk hbk hdead _ h'
   obtain rfl:sz=size:=hb.1.symm.trans hs
   obtain ⟨vals,h1,h2⟩:=a5m hb hl
   rw [hlen]
   by_cases h0:len=0
   ·subst h0
    have:vals=[]:=lbF (by rw [h1.len];simp)
    subst this
    refine ⟨[],h1,?_,.inl rfl⟩
    cases A with
    |none=>exact Src.ofNil w hu _
    |some ad=>exact Src.ofSlice w hu ad 0 _ [] (by simp) (by simp) (by simp)
   ·obtain rfl:=q2 (by omega)
    have h3':∀j v,vals[j]? =some v->w.cell? ((⟨b,lo*sz,none⟩:Addr).add j)=some v:=fun j v hj=>by rw [Addr.add_none];exact h2 j v hj
    have hvl:=h1.len
    rw [hlen] at hvl
    exact ⟨vals,h1,Src.ofSlice w hu _ _ _ vals hvl h3' h1.one,.inr ⟨_,_,rfl,h3'⟩⟩
  |nil h'=>
   have hb:=hh.blk id bk hbk hdead _ h'
   have hb':bk.rows=[]:=hb
   refine ⟨[],by rw [hb'];exact B3.nil w ι M size,?_,.inl (by simp)⟩
   rw [hb']
   cases ‹Option Addr› with
   |none=>exact Src.ofNil w hu _
   |some ad=>exact Src.ofSlice w hu ad 0 _ [] (by simp) (by simp) (by simp)
 ·exact h.elim
end
end
section
open Go.RowKit
section
variable {P:Program} {τ:Tab} {o:Oper} {ev:Operand->S} {H:Hp}
theorem M9 {c:Call} (ho:o.op=.call c) (hc:c.callee=.builtin .append) {t:TypeId} {s x:Operand} (ht:c.argTypes.toList=[t,t]) (ha:c.args.toList=[s,x]) {a:Act} {w w':World} {v:Value}
 (h:(Builtin.append_ #[t,t] o.type #[a.eval s,a.eval x]).run P w=.ok v w'):(execOp a.eval o).run P w=.ok (.value v) w':=by
 obtain ⟨callee,args,argTypes⟩:=c
 simp only at hc ht ha
 subst hc
 obtain rfl:argTypes=#[t,t]:=by apply Array.ext';simpa using ht
 obtain rfl:args=#[s,x]:=by apply Array.ext';simpa using ha
 simp [execOp,ho,resolve,invoke,builtin,h]
theorem aK8 {size:Nat} {cur:Array Value} {vals rest:List Value} {i j:Nat} {u:Value} (hcur:cur.toList=vals++rest) (h:vals[i*size+j]? =some u):cur[i*size+j]? =some u:=by
 have:cur.toList[i*size+j]? =some u:=by rw [hcur,lbb (lbe.1 h).1];exact h
 simpa using this
theorem a2v (hτ:D3 P τ) {t e:TypeId} {d:TD} (hu:P.underlying t=some (.slice e)) (hd:τ e=some d) (h0:d.size≠0) {w:World} {ι:Io} {M:Ms} {ty:TypeId}
 {base:Option Addr} {sLen sCap:Nat} {r1 r2:List (List C)} {olds news:List Value} {x:Value} (h1:B3 w ι M d.size r1 olds) (h2:B3 w ι M d.size r2 news) (hl:r1.length=sLen)
 (hold:(Builtin.firstCells d.size sLen (.slice base sLen sCap)).run P w.drew=.ok olds.toArray w.drew) (hs:Src P d.size t x r2.length news w) (hg:sCap<sLen+r2.length)
 (hb:(r1.length+r2.length)*(d.bytes+1)<=140737488355328):
 ∃cap cur,(Builtin.append_ #[t,t] ty #[.slice base sLen sCap,x]).run P w=.ok (.slice (some ⟨w.heap.size,0,none⟩) (sLen+r2.length) cap) (w.drew.alloc (.cells cur e))∧
  cur.size=cap*d.size∧sLen+r2.length<=cap∧cap<=maxLen∧∀i j c,at2 (r1++r2) i j=some c->∃u,cur[i*d.size+j]? =some u∧RC w ι M c u:=by
 obtain ⟨i,hi,hsz,hby,z,hz,hzs,hone,hzl⟩:=(hτ.td _ _ hd).info
 rw [← hsz] at h0 h1 h2 hold hs
 have hb1:(sLen+r2.length)*i.bytes<=140737488355328:=by
  refine lbR (Nat.mul_le_mul_left _ (Nat.le_succ _)) ?_
  rw [hby,←hl];exact hb
 have hb2:sLen+r2.length<=140737488355328:=by
  refine lbR (Nat.le_mul_of_pos_right _ (Nat.succ_pos d.bytes)) ?_
  rw [← hl];exact hb
 have hmx:sLen+r2.length<=maxLen:=by unfold maxLen;omega
 have hrun:=run_append_grow_src (P:=P) w t t ty e i z hu hi hz base sLen sCap olds hold x r2.length news hs hg (by omega) (growslice_fits hg hb1)
 refine ⟨_,_,hrun,?_,grownCap_ge _ _ _ _,grownCap_le_maxLen _ _ _ _ hmx,?_⟩
 ·have hzc:z.cells.size=i.size:=by rw [hsz,←hzl,←hzs];simp
  simp only [Array.size_append,List.size_toArray,size_zeroCells,hzc,lbq,h1.len,h2.len,hl,←Nat.add_mul,←hsz]
  congr 1
  have:=grownCap_ge w (sLen+r2.length) sCap e
  omega
 ·intro i' j c hc
  obtain ⟨u,q1,q2⟩:=(h1.append h2).cell i' j c hc
  exact ⟨u,by rw [← hsz];exact aK8 (rest:=(Builtin.zeroCells z.cells (grownCap w (sLen+r2.length) sCap e - (sLen+r2.length))).toList) (by simp) q1,q2⟩
theorem b0j {n:Nat} (h:n<=140737488355328):n<=maxLen:=by unfold maxLen;omega
theorem K7.nil {w:World} {ι:Io} {M:Ms} {n:Nat} {e:TypeId} {size:Nat} {box ap:Bool} {A:Option Addr}:K7 w ι M n (.c (.own n 0 0 true)) [⟨.live,e,size,[],box,ap⟩] (.slice A 0 0) w:=by
 refine ⟨fun _=>.nil,.c (.nil ?_),Ext.refl w,?_,?_,?_⟩
 ·unfold C3;rw [if_pos (by simp)]
 ·intro k blk hk
  cases k with
  |succ k=>simp at hk
  |zero=>simp at hk;subst hk;exact ⟨rfl,rfl⟩
 ·intro k b c s _ h;cases h
 ·intro k k' b c s c' s' _ _ h;cases h
theorem Y1 {w:World} {size n cap:Nat} {A:Option Addr} {vals:List Value} (hl:vals.length=n*size) (h:vals=[]∨∃b off,A=some ⟨b,off,none⟩∧∀q u,vals[q]? =some u->w.cell? ⟨b,off+q,none⟩=some u):
 (Builtin.firstCells size n (.slice A n cap)).run P w.drew=.ok vals.toArray w.drew:=by
 rcases h with rfl|⟨b,off,rfl,h⟩
 ·cases A with
  |none=>exact run_firstCells_none w.drew size n n cap
  |some ad=>exact run_firstCells_some w.drew size n ad n cap [] hl (by simp)
 ·exact run_firstCells_some w.drew size n _ n cap vals hl (fun j v hj=>by rw [Addr.add_none];simpa using h j v hj)
theorem a0G {w:World} {ι:Io} {M:Ms} {n b cap size len:Nat} (hi:ι n=some (.blk b cap size)) (hl:len<=cap) (hm:cap<=maxLen):RS w ι M (.c (.own n 0 len true)) (.slice (some ⟨b,0,none⟩) len cap):=
 .c (.own hi (by omega) (fun _=>by rw [Nat.zero_mul]) hl hm (fun _=>⟨rfl,rfl,rfl⟩))
theorem p9.other {w w':World} {ι ι':Io} {M M':Ms} (hH:p9 w ι M H) {id b cap size:Nat} {k:Blk} (hk:H[id]? =some k) (hl:k.mode=.live) (hi:ι id=some (.blk b cap size)) (hap:k.app=false)
 (hkeep:∀b',b'<w.heap.size->b'≠b->w'.heap[b']? =w.heap[b']?) (hm:∀b,M' b->M b∨w.heap.size<=b) (he:∀id l,ι id=some l->ι' id=some l):
 ∀id' k',id'≠id->H[id']? =some k'->k'.mode≠.dead->∀l,ι id'=some l->N1 w' ι' M' k' l:=by
 intro id' k' hne hk' hd l hl'
 have hb:=hH.blk id' k' hk' hd l hl'
 have hMb:M b:=hH.liv id k hk hl b cap size hi
 cases l with
 |nil=>exact hb
 |blk b' cap' size'=>
  obtain ⟨q1,q2,q3,q4,q5,cur,q6,q7,q8⟩:=hb
  have hne':b'≠b:=by
   intro e
   subst e
   cases hm':k'.mode with
   |live=>exact hne (hH.inj id' id k' k hk' hk hm' hl _ _ _ _ _ hl' hi)
   |froz=>exact hH.fro id' k' hk' hm' _ _ _ hl' hMb
   |old=>
    have:=(hH.old id' id k' k hk' hk hm' hl _ _ _ _ _ hl' hi).1
    rw [hap] at this;cases this
   |dead=>exact hd hm'
  refine ⟨q1,q2,q3,q4,q5,cur,(hkeep b' (v6 q6) hne').trans q6,q7,fun i j c hc=>?_⟩
  obtain ⟨u,r1,r2⟩:=q8 i j c hc
  refine ⟨u,r1,r2.keep (fun b'' hb'' hM=>hkeep b'' hb'' (by rintro rfl;exact hM hMb)) hm he⟩
theorem getElem?_set_ne' {l:List Blk} {i j:Nat} {v:Blk} (h:j≠i):(l.set i v)[j]? =l[j]?:=by rw [List.getElem?_set_ne (Ne.symm h)]
theorem N1.grow {w w':World} {ι ι':Io} {M M':Ms} {kk:Blk} {b cap size:Nat} {e:TypeId} {cur0 cur:Array Value} (h:N1 w ι M kk (.blk b cap size)) (h0:w.heap[b]? =some (.cells cur0 e (0,0)))
 (h1:w'.heap[b]? =some (.cells cur e (0,0))) (h2:cur.size=cur0.size) (h3:∀q,q<kk.rows.length*size->cur[q]? =cur0[q]?) (hr:∀c u,RC w ι M c u->RC w' ι' M' c u):
 N1 w' ι' M' kk (.blk b cap size):=by
 obtain ⟨q1,q2,q3,q4,q5,cur',q6,q7,q8⟩:=h
 rw [h0] at q6
 injection q6 with q6
 injection q6 with e1 e2
 subst e1 e2
 refine ⟨q1,q2,q3,q4,q5,cur,h1,by rw [h2];exact q7,fun i j c hc=>?_⟩
 obtain ⟨u,r1,r2⟩:=q8 i j c hc
 obtain ⟨row,s1,s2⟩:=F4 hc
 have hi:=(lbe.1 s1).1
 have hj:j<size:=by rw [← q5 row (lbm s1)];exact (lbe.1 s2).1
 have hlt:i*size+j<kk.rows.length*size:=by
  have:i*size+size<=kk.rows.length*size:=by rw [← lbU];exact lbT _ hi
  omega
 exact ⟨u,by rw [h3 _ hlt];exact r1,hr c u r2⟩
def b8j (w w':World) (k kd:Blk) (ap:Bool) (b bn size:Nat) (n:Nat) (e:TypeId) (cur:Array Value):Prop:=
 (kd.mode=.dead∧k.app=false)∨(kd=a3z k∧ap=true∧k.rows.length<=n∧
   ((bn≠b∧w'.heap[b]? =w.heap[b]?)∨(bn=b∧∃cur0,w.heap[b]? =some (.cells cur0 e (0,0))∧cur.size=cur0.size∧∀q,q<k.rows.length*size->cur[q]? =cur0[q]?)))
theorem H3.append {w w':World} {ι:Io} {M:Ms} (hH:p9 w ι M H) (hM:MB w M) (hF:Z1 ι H.length) {id b cap size:Nat} {k kd:Blk} (hk:H[id]? =some k) (hl:k.mode=.live)
 (hi:ι id=some (.blk b cap size)) {bn cap' len:Nat} {ap:Bool} {e:TypeId} {rows:List (List C)} {cur:Array Value} (hdead:b8j w w' k kd ap b bn size rows.length e cur) (hos:w'.os=w.os) (htape:w'.tape=w.tape) (hout:w'.output=w.output)
 (hsize:w.heap.size<=w'.heap.size) (hkeep:∀b',b'<w.heap.size->b'≠b->w'.heap[b']? =w.heap[b']?) (hbn:bn=b∨w.heap.size<=bn) (hnew:w'.heap[bn]? =some (.cells cur e (0,0)))
 (h0:0<size) (hlen:rows.length=len) (hle:len<=cap') (hm:cap'<=maxLen) (hrow:∀r ∈ rows,r.length=size) (hsz:cur.size=cap'*size)
 (hc:∀i j c,at2 rows i j=some c->∃u,cur[i*size+j]? =some u∧RC w ι M c u):
 H3 w ι M H (.c (.own H.length 0 len true)) ((H.set id kd)++[⟨.live,e,size,rows,false,ap⟩]) (.slice (some ⟨bn,0,none⟩) len cap') w':=by
 have hidl:id<H.length:=(lbe.1 hk).1
 have hMb:M b:=hH.liv id k hk hl b cap size hi
 have hblt:b<w.heap.size:=hM b hMb
 let ι':Io:=fun j=>if j=H.length then some (.blk bn cap' size) else ι j
 let M':Ms:=fun b'=>M b'∨b'=bn
 have hext:∀id l,ι id=some l->ι' id=some l:=fun j l hj=>by
  show (if j=H.length then _ else _)=_
  rw [if_neg (by rintro rfl;rw [hF _ (lbQ _)] at hj;cases hj),hj]
 have hMn:∀b',M' b'->M b'∨w.heap.size<=b':=by
  rintro b' (h|rfl)
  ·exact .inl h
  ·rcases hbn with rfl|h
   ·exact .inl hMb
   ·exact .inr h
 have hnl:ι' H.length=some (.blk bn cap' size):=by show (if _ then _ else _)=_;rw [if_pos rfl]
 have hold:∀j,j<H.length->ι' j=ι j:=fun j hj=>by show (if _ then _ else _)=_;rw [if_neg (by omega)]
 have hkdl:kd.mode≠.live∧kd.mode≠.froz:=by
  rcases hdead with ⟨h,_⟩|⟨rfl,_⟩
  ·rw [h];exact ⟨(by intro h;cases h),(by intro h;cases h)⟩
  ·exact ⟨(by intro h;cases h),(by intro h;cases h)⟩
 have hget:∀j kk,((H.set id kd)++[(⟨.live,e,size,rows,false,ap⟩:Blk)])[j]? =some kk->
  (j=id∧kk=kd)∨(j≠id∧j<H.length∧H[j]? =some kk)∨(j=H.length∧kk=⟨.live,e,size,rows,false,ap⟩):=by
  intro j kk hj
  by_cases hjl:j<H.length
  ·rw [lbb (by simpa using hjl)] at hj
   by_cases hjd:j=id
   ·subst hjd
    rw [List.getElem?_set_self (by simpa using hjl)] at hj
    injection hj with hj
    exact .inl ⟨rfl,hj.symm⟩
   ·rw [getElem?_set_ne' hjd] at hj
    exact .inr (.inl ⟨hjd,hjl,hj⟩)
  ·rw [lbc (by simpa using hjl)] at hj
   have:j=H.length:=by
    have:=(lbe.1 hj).1
    simp at this
    omega
   subst this
   simp at hj
   exact .inr (.inr ⟨rfl,hj.symm⟩)
 have hkeepR:∀c u,RC w ι M c u->RC w' ι' M' c u:=fun c u h=>h.keep (fun b'' hb'' hM'=>hkeep b'' hb'' (by rintro rfl;exact hM' hMb)) hMn hext
 have hsame:∀kk cap0,kk.rows.length<=k.rows.length->k.app=true->N1 w ι M kk (.blk b cap0 size)->N1 w' ι' M' kk (.blk b cap0 size):=by
  intro kk cap0 hle' hka hb
  rcases hdead with ⟨_,h⟩|⟨_,_,_,h|⟨rfl,cur0,h1,h2,h3⟩⟩
  ·rw [hka] at h;cases h
  ·have hb2:=hb;obtain ⟨q1,q2,q3,q4,q5,cur',q6,q7,q8⟩:=hb2
   exact hb.grow q6 (h.2.trans q6) rfl (fun _ _=>rfl) hkeepR
  ·exact hb.grow h1 hnew h2 (fun q hq=>h3 q (Nat.lt_of_lt_of_le hq (lbT _ hle'))) hkeepR
 refine ⟨ι',M',a0G hnl hle hm,⟨?_,?_,?_,?_,?_⟩,?_,?_,⟨hos,htape,hout,hsize,?_,hold,hMn,fun b' h=>.inl (.inl h),?_,by simp⟩⟩
 ·intro j kk hj hd l hl'
  rcases hget j kk hj with ⟨rfl,rfl⟩|⟨h1,h2,h3⟩|⟨rfl,rfl⟩
  ·have hdead2:=hdead;rcases hdead2 with ⟨h,_⟩|⟨rfl,_⟩
   ·exact absurd h hd
   ·rw [hold j hidl,hi] at hl'
    injection hl' with hl'
    subst hl'
    have hb:=hH.blk j k hk (by rw [hl];intro h;cases h) _ hi
    cases hka:k.app with
    |true=>exact hsame (a3z k) cap (lbQ _) hka hb
    |false=>
     rcases hdead with ⟨h,_⟩|⟨_,_,_,h|⟨rfl,cur0,h1,h2,h3⟩⟩
     ·cases h
     ·have hb2:=hb;obtain ⟨q1,q2,q3,q4,q5,cur',q6,q7,q8⟩:=hb2
      exact N1.grow (kk:=a3z k) hb q6 (h.2.trans q6) rfl (fun _ _=>rfl) hkeepR
     ·exact N1.grow (kk:=a3z k) hb h1 hnew h2 h3 hkeepR
  ·rw [hold j h2] at hl'
   cases hka:k.app with
   |false=>exact hH.other hk hl hi hka hkeep hMn hext j kk h1 h3 hd l hl'
   |true=>
    have hb:=hH.blk j kk h3 hd l hl'
    cases l with
    |nil=>exact hb
    |blk b' c' s'=>
     by_cases hbb:b'=b
     ·subst hbb
      cases hm':kk.mode with
      |live=>exact absurd (hH.inj j id kk k h3 hk hm' hl _ _ _ _ _ hl' hi) h1
      |froz=>exact absurd hMb (hH.fro j kk h3 hm' _ _ _ hl')
      |dead=>exact absurd hm' hd
      |old=>
       obtain ⟨_,rfl,h5⟩:=hH.old j id kk k h3 hk hm' hl _ _ _ _ _ hl' hi
       exact hsame kk c' h5 hka hb
     ·have hb2:=hb;obtain ⟨q1,q2,q3,q4,q5,cur',q6,q7,q8⟩:=hb2
      exact hb.grow q6 ((hkeep b' (v6 q6) hbb).trans q6) rfl (fun _ _=>rfl) hkeepR
  ·rw [hnl] at hl'
   injection hl' with hl'
   subst hl'
   refine ⟨rfl,h0,(show rows.length<=cap' by omega),hm,hrow,cur,hnew,hsz,fun i j c hij=>?_⟩
   obtain ⟨u,r1,r2⟩:=hc i j c hij
   exact ⟨u,r1,hkeepR c u r2⟩
 ·intro j kk hj hlv b' c' s' hij
  rcases hget j kk hj with ⟨rfl,rfl⟩|⟨h1,h2,h3⟩|⟨rfl,rfl⟩
  ·exact absurd hlv hkdl.1
  ·rw [hold j h2] at hij
   exact .inl (hH.liv j kk h3 hlv _ _ _ hij)
  ·rw [hnl] at hij
   injection hij with hij
   injection hij with hij
   exact .inr hij.symm
 ·intro j kk hj hlv b' c' s' hij
  rcases hget j kk hj with ⟨rfl,rfl⟩|⟨h1,h2,h3⟩|⟨rfl,rfl⟩
  ·exact absurd hlv hkdl.2
  ·rw [hold j h2] at hij
   have hnm:=hH.fro j kk h3 hlv _ _ _ hij
   have hbl:b'<w.heap.size:=by
    obtain ⟨_,_,_,_,_,cur',q,_⟩:=hH.blk j kk h3 (by rw [hlv];intro h;cases h) _ hij
    exact v6 q
   rintro (h|rfl)
   ·exact hnm h
   ·rcases hbn with rfl|h
    ·exact hnm hMb
    ·omega
  ·cases hlv
 ·intro j j' kk kk' hj hj' hlv hlv' b' c' s' c'' s'' hij hij'
  rcases hget j kk hj with ⟨rfl,rfl⟩|⟨h1,h2,h3⟩|⟨rfl,rfl⟩
  ·exact absurd hlv hkdl.1
  ·rcases hget j' kk' hj' with ⟨rfl,rfl⟩|⟨h1',h2',h3'⟩|⟨rfl,rfl⟩
   ·exact absurd hlv' hkdl.1
   ·rw [hold j h2] at hij
    rw [hold j' h2'] at hij'
    exact hH.inj j j' kk kk' h3 h3' hlv hlv' _ _ _ _ _ hij hij'
   ·rw [hold j h2] at hij
    rw [hnl] at hij'
    injection hij' with hij'
    injection hij' with hij'
    subst hij'
    have hbl:bn<w.heap.size:=by
     obtain ⟨_,_,_,_,_,cur',q,_⟩:=hH.blk j kk h3 (by rw [hlv];intro h;cases h) _ hij
     exact v6 q
    rcases hbn with rfl|h
    ·exact absurd (hH.inj j id kk k h3 hk hlv hl _ _ _ _ _ hij hi) h1
    ·omega
  ·rcases hget j' kk' hj' with ⟨rfl,rfl⟩|⟨h1',h2',h3'⟩|⟨rfl,rfl⟩
   ·exact absurd hlv' hkdl.1
   ·rw [hold j' h2'] at hij'
    rw [hnl] at hij
    injection hij with hij
    injection hij with hij
    subst hij
    have hbl:bn<w.heap.size:=by
     obtain ⟨_,_,_,_,_,cur',q,_⟩:=hH.blk j' kk' h3' (by rw [hlv'];intro h;cases h) _ hij'
     exact v6 q
    rcases hbn with rfl|h
    ·exact absurd (hH.inj j' id kk' k h3' hk hlv' hl _ _ _ _ _ hij' hi) h1'
    ·omega
   ·rfl
 ·intro j j' kk kk' hj hj' hlv hlv' b' c' s' c'' s'' hij hij'
  rcases hget j' kk' hj' with ⟨rfl,rfl⟩|⟨h1',h2',h3'⟩|⟨rfl,rfl⟩
  ·exact absurd hlv' hkdl.1
  ·rw [hold j' h2'] at hij'
   rcases hget j kk hj with ⟨rfl,rfl⟩|⟨h1,h2,h3⟩|⟨rfl,rfl⟩
   ·rw [hold j hidl,hi] at hij
    injection hij with hij
    injection hij with e1 e2 e3
    subst e1
    exact absurd (hH.inj j' j kk' k h3' hk hlv' hl _ _ _ _ _ hij' hi) h1'
   ·rw [hold j h2] at hij
    exact hH.old j j' kk kk' h3 h3' hlv hlv' _ _ _ _ _ hij hij'
   ·cases hlv
  ·rw [hnl] at hij'
   injection hij' with hij'
   injection hij' with e1 e2 e3
   subst e1 e2 e3
   rcases hget j kk hj with ⟨rfl,rfl⟩|⟨h1,h2,h3⟩|⟨rfl,rfl⟩
   ·rw [hold j hidl,hi] at hij
    injection hij with hij
    injection hij with e1 e2 e3
    subst e1 e3
    rcases hdead with ⟨h,_⟩|⟨rfl,hap,hle',_⟩
    ·rw [h] at hlv;cases hlv
    ·exact ⟨hap,rfl,hle'⟩
   ·rw [hold j h2] at hij
    have hbl:bn<w.heap.size:=by
     obtain ⟨_,_,_,_,_,cur',q,_⟩:=hH.blk j kk h3 (by rw [hlv];intro h;cases h) _ hij
     exact v6 q
    rcases hbn with rfl|h
    ·obtain ⟨q1,q2,q3⟩:=hH.old j id kk k h3 hk hlv hl _ _ _ _ _ hij hi
     rcases hdead with ⟨_,h⟩|⟨rfl,hap,hle',_⟩
     ·rw [q1] at h;cases h
     ·exact ⟨hap,q2,lbR q3 hle'⟩
    ·omega
   ·cases hlv
 ·rintro b' (h|rfl)
  ·exact Nat.lt_of_lt_of_le (hM b' h) hsize
  ·exact v6 hnew
 ·intro j hj
  rw [lbq,List.length_set] at hj
  simp at hj
  show (if _ then _ else _)=_
  rw [if_neg (by omega)]
  exact hF j (by omega)
 ·intro b' hb' hnl'
  exact hkeep b' hb' (by rintro rfl;exact hnl' ⟨id,k,cap,size,hk,hl,hi⟩)
 ·rintro b' ⟨j,kk,c',s',hj,hlv,hij⟩
  rcases hget j kk hj with ⟨rfl,rfl⟩|⟨h1,h2,h3⟩|⟨rfl,rfl⟩
  ·exact absurd hlv hkdl.1
  ·rw [hold j h2] at hij
   exact .inl ⟨j,kk,c',s',h3,hlv,hij⟩
  ·rw [hnl] at hij
   injection hij with hij
   injection hij with hij
   subst hij
   rcases hbn with rfl|h
   ·exact .inl ⟨id,k,cap,size,hk,hl,hi⟩
   ·exact .inr h
end
end
section
open Go.RowKit
section
variable {P:Program} {τ:Tab} {o:Oper} {ev:Operand->S} {H:Hp}
theorem M7 {id:Nat} {kd:Blk} {H:Hp} {j:Nat} {kk:Blk} (hj:(H.set id kd)[j]? =some kk):(j=id∧kk=kd)∨(j≠id∧H[j]? =some kk):=by
 by_cases h:j=id
 ·subst h
  have hlt:j<H.length:=by have:=(lbe.1 hj).1;simpa using this
  rw [List.getElem?_set_self hlt] at hj
  injection hj with hj
  exact .inl ⟨rfl,hj.symm⟩
 ·rw [getElem?_set_ne' h] at hj
  exact .inr ⟨h,hj⟩
theorem H3.kill {w w':World} {ι:Io} {M:Ms} {H H':Hp} {s:S} {v:Value} {kd:Blk} (hd:kd.mode=.dead) (id:Nat) (h:H3 w ι M H s H' v w'):H3 w ι M H s (H'.set id kd) v w':=by
 obtain ⟨ι',M',h1,h2,h3,h4,h5⟩:=h
 refine ⟨ι',M',h1,⟨?_,?_,?_,?_,?_⟩,h3,by simpa using h4,⟨h5.os,h5.tape,h5.output,h5.size,h5.keep,h5.same,h5.mnew,h5.mold,?_,by simpa using h5.len⟩⟩
 ·intro j kk hj hm l hl
  rcases M7 hj with ⟨_,rfl⟩|⟨_,hj⟩
  ·exact absurd hd hm
  ·exact h2.blk j kk hj hm l hl
 ·intro j kk hj hm
  rcases M7 hj with ⟨_,rfl⟩|⟨_,hj⟩
  ·rw [hd] at hm;cases hm
  ·exact h2.liv j kk hj hm
 ·intro j kk hj hm
  rcases M7 hj with ⟨_,rfl⟩|⟨_,hj⟩
  ·rw [hd] at hm;cases hm
  ·exact h2.fro j kk hj hm
 ·intro j j' kk kk' hj hj' hm hm'
  rcases M7 hj with ⟨_,rfl⟩|⟨_,hj⟩
  ·rw [hd] at hm;cases hm
  ·rcases M7 hj' with ⟨_,rfl⟩|⟨_,hj'⟩
   ·rw [hd] at hm';cases hm'
   ·exact h2.inj j j' kk kk' hj hj' hm hm'
 ·intro j j' kk kk' hj hj' hm hm'
  rcases M7 hj with ⟨_,rfl⟩|⟨_,hj⟩
  ·rw [hd] at hm;cases hm
  ·rcases M7 hj' with ⟨_,rfl⟩|⟨_,hj'⟩
   ·rw [hd] at hm';cases hm'
   ·exact h2.old j j' kk kk' hj hj' hm hm'
 ·rintro b ⟨j,kk,c,sz,hj,hm,hi⟩
  rcases M7 hj with ⟨_,rfl⟩|⟨_,hj⟩
  ·rw [hd] at hm;cases hm
  ·exact h5.live b ⟨j,kk,c,sz,hj,hm,hi⟩
theorem H3.age {w w':World} {ι:Io} {M:Ms} {H H':Hp} {s:S} {v:Value} {kd:Blk} (hd:kd.mode=.old) (hr:kd.rows=[]) {id:Nat} (hid:id<H.length) (hi:ι id=some .nil) (h:H3 w ι M H s H' v w'):H3 w ι M H s (H'.set id kd) v w':=by
 obtain ⟨ι',M',h1,h2,h3,h4,h5⟩:=h
 have hi':ι' id=some .nil:=(h5.same id hid).trans hi
 refine ⟨ι',M',h1,⟨?_,?_,?_,?_,?_⟩,h3,by simpa using h4,⟨h5.os,h5.tape,h5.output,h5.size,h5.keep,h5.same,h5.mnew,h5.mold,?_,by simpa using h5.len⟩⟩
 ·intro j kk hj hm l hl
  rcases M7 hj with ⟨rfl,rfl⟩|⟨_,hj⟩
  ·rw [hi'] at hl;injection hl with hl;subst hl;exact hr
  ·exact h2.blk j kk hj hm l hl
 ·intro j kk hj hm
  rcases M7 hj with ⟨_,rfl⟩|⟨_,hj⟩
  ·rw [hd] at hm;cases hm
  ·exact h2.liv j kk hj hm
 ·intro j kk hj hm
  rcases M7 hj with ⟨_,rfl⟩|⟨_,hj⟩
  ·rw [hd] at hm;cases hm
  ·exact h2.fro j kk hj hm
 ·intro j j' kk kk' hj hj' hm hm'
  rcases M7 hj with ⟨_,rfl⟩|⟨_,hj⟩
  ·rw [hd] at hm;cases hm
  ·rcases M7 hj' with ⟨_,rfl⟩|⟨_,hj'⟩
   ·rw [hd] at hm';cases hm'
   ·exact h2.inj j j' kk kk' hj hj' hm hm'
 ·intro j j' kk kk' hj hj' hm hm' b c s' c' s'' hij hij'
  rcases M7 hj with ⟨rfl,rfl⟩|⟨_,hj⟩
  ·rw [hi'] at hij;cases hij
  ·rcases M7 hj' with ⟨_,rfl⟩|⟨_,hj'⟩
   ·rw [hd] at hm';cases hm'
   ·exact h2.old j j' kk kk' hj hj' hm hm' b c s' c' s'' hij hij'
 ·rintro b ⟨j,kk,c,sz,hj,hm,hi⟩
  rcases M7 hj with ⟨_,rfl⟩|⟨_,hj⟩
  ·rw [hd] at hm;cases hm
  ·exact h5.live b ⟨j,kk,c,sz,hj,hm,hi⟩
set_option maxHeartbeats 1000000 in
theorem a8V (hτ:D3 P τ) {c:Call} (ho:o.op=.call c) (hc:c.callee=.builtin .append) {t:TypeId} {s x:Operand} (ht:c.argTypes.toList=[t,t]) (ha:c.args.toList=[s,x])
 {e:TypeId} (hu:P.underlying t=some (.slice e)) {d:TD} (hd:τ e=some d) (h0:d.size≠0) {xr:List (List C)}
 (hx:∀(a:Act) (w:World) (ι:Io) (M:Ms),X2 w ι M ev a->p9 w ι M H->∃news,B3 w ι M d.size xr news∧Src P d.size t (a.eval x) xr.length news w∧
   (xr.length=0∨∃ad c,a.eval x=.slice (some ad) xr.length c∧∀j v,news[j]? =some v->w.cell? (ad.add j)=some v))
 {id lo len:Nat} (hs:ev s=.c (.own id lo len true)) {k:Blk} (hk:H[id]? =some k) (hlv:k.mode=.live) (hlen:len<=k.rows.length) (hbd:(len+xr.length)*(d.bytes+1)<=140737488355328)
 (hbk:k.size=d.size∧k.elem=e) {kd:Blk} {ap:Bool} (hkd:(kd.mode=.dead∧k.app=false)∨(kd=a3z k∧ap=true∧len=k.rows.length)):
 GOp P o ev H (.c (.own H.length 0 (len+xr.length) true)) ((H.set id kd)++[⟨.live,e,d.size,k.rows.take len++xr,false,ap⟩]):=by
 obtain ⟨i,hi,hsz,hby,z,hz,hzs,hone,hzl⟩:=(hτ.td _ _ hd).info
 have hidl:id<H.length:=(lbe.1 hk).1
 have htl:(k.rows.take len).length=len:=by simp;omega
 intro a w ι M he hh hm hF
 obtain ⟨news,hn1,hn2,hn3⟩:=hx a w ι M he hh
 have hr:=(he.to hs).inv_c
 generalize hv:a.eval s=v at *
 cases hr with
 |@own _ _ _ _ b cap size A cap' hι q1 q2 q3 q4 q5=>
  obtain ⟨rfl,rfl,rfl⟩:=q5 rfl
  have hbr:=hh.blk id k hk (by rw [hlv];intro h;cases h) _ hι
  obtain rfl:size=d.size:=hbr.1.symm.trans hbk.1
  obtain ⟨olds,ho1,ho2⟩:=a5m hbr (lo:=0) (len:=len) (by omega)
  rw [List.drop_zero] at ho1
  have hall:=ho1.append hn1
  have hlall:(k.rows.take len++xr).length=len+xr.length:=by rw [lbq,htl]
  by_cases hxr:xr.length=0
  ·have hxr':xr=[]:=lbF hxr
   subst hxr'
   have:news=[]:=lbF (by rw [hn1.len];simp)
   subst this
   rw [← hsz] at hn2
   have hrun:=run_append_nothing (P:=P) w t t o.type e i hu hi (some ⟨b,0,none⟩) len cap' q3 (a.eval x) hn2
   obtain ⟨r1,r2,r3,r4,r5,cur,r6,r7,r8⟩:=hbr
   refine t9 (M9 ho hc ht ha (by rw [hv];exact hrun)) ?_
   have hleft:b8j w w k kd ap b b d.size (k.rows.take len++[]).length e cur:=by
    rcases hkd with h|⟨h1,h2,h3⟩
    ·exact .inl h
    ·exact .inr ⟨h1,h2,by rw [hlall];omega,.inr ⟨rfl,cur,by rw [r6,hbk.2],rfl,fun _ _=>rfl⟩⟩
   exact H3.append hh hm hF hk hlv hι hleft rfl rfl rfl (lbQ _) (fun _ _ _=>rfl) (.inl rfl) (by rw [r6,hbk.2]) (by omega) hlall q3 r4 hall.row r7 (fun i' j c' hc'=>by
    obtain ⟨row,s1,s2⟩:=F4 hc'
    rw [List.append_nil,lbi] at s1
    split at s1
    ·exact r8 _ _ _ (C7 s1 s2)
    ·cases s1)
  ·obtain ⟨ad,c',hxe,hxc⟩:=hn3.resolve_left hxr
   by_cases hroom:len+xr.length<=cap'
   ·obtain ⟨r1,r2,r3,r4,r5,cur,r6,r7,r8⟩:=hbr
    have hfit:len*i.size+news.length<=cur.size:=by
     rw [hn1.len,r7,hsz,←Nat.add_mul];exact lbT _ hroom
    have hg:w.heap[b]? =some (.cells cur e (0,0)):=by rw [r6,hbk.2]
    have hrun:=run_append_room (P:=P) w t o.type e i hu hi b len cap' cur hg ad xr.length c' news (by rw [hn1.len,hsz]) hxc hn1.one hroom hfit
    refine t9 (M9 ho hc ht ha (by rw [hv,hxe];exact hrun)) ?_
    have holds:olds=cur.toList.take (len*i.size):=by
     apply List.ext_getElem?
     intro q
     by_cases hq:q<len*i.size
     ·have hlt:q<olds.length:=by rw [ho1.len,htl,←hsz];exact hq
      have e1:=ho2 q _ (lbf hlt)
      simp only [World.cell?,hg,Nat.zero_mul,Nat.zero_add] at e1
      rw [lbf hlt,List.getElem?_take_of_lt hq,←e1]
      simp
     ·rw [lbd (by rw [ho1.len,htl,←hsz];omega),lbd (by simp;omega)]
    have hcs:(cur.toList.take (len*i.size)++news++cur.toList.drop (len*i.size+news.length)).toArray.size=cur.size:=by
     simp only [List.size_toArray,lbq,lbs,List.length_drop,Array.length_toList]
     omega
    have hleft:b8j w (w.setRow b (cur.toList.take (len*i.size)++news++cur.toList.drop (len*i.size+news.length)).toArray) k kd ap b b d.size (k.rows.take len++xr).length e (cur.toList.take (len*i.size)++news++cur.toList.drop (len*i.size+news.length)).toArray:=by
     rcases hkd with h|⟨h1,h2,h3⟩
     ·exact .inl h
     ·refine .inr ⟨h1,h2,by rw [hlall];omega,.inr ⟨rfl,cur,hg,hcs,fun q hq=>?_⟩⟩
      rw [← h3,←hsz] at hq
      rw [List.getElem?_toArray,lbD,lbb (by simp;omega),List.getElem?_take_of_lt hq]
      simp
    refine H3.append (cur:=(cur.toList.take (len*i.size)++news++cur.toList.drop (len*i.size+news.length)).toArray) hh hm hF hk hlv hι hleft rfl rfl rfl (by simp) (fun b' _ hb'=>setRow_other w b b' _ hb') (.inl rfl) (setRow_heap w b cur _ e _ hg) (by omega) hlall hroom r4 hall.row ?_ (fun i' j c'' hc''=>?_)
    ·simp only [List.size_toArray,lbq,lbs,List.length_drop,Array.length_toList]
     omega
    ·obtain ⟨u,s1,s2⟩:=hall.cell _ _ _ hc''
     refine ⟨u,aK8 (rest:=cur.toList.drop (len*i.size+news.length)) ?_ s1,s2⟩
     rw [holds]
   ·obtain ⟨cap2,cur,r1,r2,r3,r4,r5⟩:=a2v (ty:=o.type) hτ hu hd h0 ho1 hn1 htl (base:=some ⟨b,0,none⟩) (sCap:=cap') (Y1 (by rw [ho1.len,htl]) (.inr ⟨b,0,rfl,fun q u hq=>by have:=ho2 q u hq;simpa using this⟩)) hn2 (by omega) (by rw [htl];exact hbd)
    refine t9 (M9 ho hc ht ha (by rw [hv];exact r1)) ?_
    have hblt:b<w.heap.size:=v6 hbr.2.2.2.2.2.choose_spec.1
    have hleft:b8j w (w.drew.alloc (.cells cur e)) k kd ap b w.heap.size d.size (k.rows.take len++xr).length e cur:=by
     rcases hkd with h|⟨h1,h2,h3⟩
     ·exact .inl h
     ·exact .inr ⟨h1,h2,by rw [hlall];omega,.inl ⟨by omega,heap_alloc_old w.drew _ hblt⟩⟩
    exact H3.append hh hm hF hk hlv hι hleft rfl rfl rfl (by simp) (fun b' hb' _=>heap_alloc_old w.drew _ hb') (.inr (lbQ _)) (heap_alloc_new w.drew _) (by omega) hlall r3 r4 hall.row r2 r5
 |nil hι=>
  rename_i A
  have hbr:=hh.blk id k hk (by rw [hlv];intro h;cases h) _ hι
  have hkr:k.rows=[]:=hbr
  have hset:∀nb:Blk,(H.set id kd)++[nb]=(H++[nb]).set id kd:=fun nb=>by
   rw [List.set_append_left _ _ hidl]
  rw [hset,hkr]
  have hfr:∀j,j<[I1 e d.size xr false].length->ι (H.length+j)=none:=fun j _=>hF _ (by omega)
  have hkill:∀{w':World} {s:S} {H':Hp} {v:Value},H3 w ι M H s H' v w'->H3 w ι M H s (H'.set id kd) v w':=fun h=>by
   rcases hkd with ⟨h1,_⟩|⟨rfl,_,_⟩
   ·exact H3.kill h1 id h
   ·exact H3.age (kd:=a3z k) rfl hkr hidl hι h
  by_cases hxr:xr=[]
  ·subst hxr
   have:news=[]:=lbF (by rw [hn1.len];simp)
   subst this
   rw [← hsz] at hn2
   have hrun:=run_append_nothing (P:=P) w t t o.type e i hu hi A 0 0 (lbQ _) (a.eval x) hn2
   refine t9 (M9 ho hc ht ha (by rw [hv];exact hrun)) ?_
   exact hkill (K7.gpost hh hm hF K7.nil)
  ·have hpos:0<xr.length:=List.length_pos_iff.2 hxr
   obtain ⟨cap,cur,q1,q2,q3,q4,q5⟩:=a2v (ty:=o.type) hτ hu hd h0 (B3.nil w ι M d.size) hn1 rfl (base:=A) (sLen:=0) (sCap:=0) (Y1 (by simp) (.inl rfl)) hn2 (by simp;omega) (by simpa using hbd)
   refine t9 (M9 ho hc ht ha (by rw [hv];exact q1)) ?_
   simp only [List.length_nil,Nat.zero_add,List.nil_append,List.take_nil] at q3 q5 ⊢
   exact hkill (K7.gpost hh hm hF (K7.new rfl rfl rfl rfl (hfr 0 (by simp)) (by omega) q3 q4 hn1.row q2 q5 fun ι' M' hi'=>a0G hi' q3 q4))
set_option maxHeartbeats 1000000 in
theorem an3 (hτ:D3 P τ) {c:Call} (ho:o.op=.call c) (hc:c.callee=.builtin .append) {t:TypeId} {s x:Operand} (ht:c.argTypes.toList=[t,t]) (ha:c.args.toList=[s,x])
 {Kq:S->List Blk->Prop} {Kg:S->Hp->Prop} (h:a9F τ ev H H.length t s x Kq Kg):(∃ s B,Kq s B∧QOp P o ev H s B)∨(∃ s H',Kg s H'∧GOp P o ev H s H'):=by
 unfold a9F at h
 split at h
 rotate_left
 ·exact h.elim
 rename_i e _ _ _ _ hte
 have hu:=L4 hτ hte
 split at h
 rotate_left
 ·exact h.elim
 rename_i d hd
 obtain ⟨hb,h⟩:=Y6 h
 have h0:d.size≠0:=by intro e;simp [e] at hb
 obtain ⟨xr,h,hx⟩:=aO5 hτ hu h
 obtain ⟨i,hi,hsz,hby,z,hz,hzs,hone,hzl⟩:=(hτ.td _ _ hd).info
 split at h
 ·rename_i sz rows hs
  obtain ⟨hbd,h⟩:=h
  refine .inl ⟨_,_,h,fun a w ι M he hh hm hf=>?_⟩
  obtain ⟨news,hn1,hn2,_⟩:=hx a w ι M he hh
  have hr:=(he.to hs).inv_t
  generalize hv:a.eval s=v at *
  cases hr with
  |@sl _ _ _ b off cap A f hrow hcap hmax hk hnil hA hc' hr=>
   obtain ⟨rfl,rfl,rfl⟩:=hnil rfl
   by_cases hxr:xr=[]
   ·subst hxr
    have:news=[]:=lbF (by rw [hn1.len];simp)
    subst this
    rw [← hsz] at hn2
    have hrun:=run_append_nothing (P:=P) w t t o.type e i hu hi none 0 0 (lbQ _) (a.eval x) hn2
    exact t9 (M9 ho hc ht ha (by rw [hv];exact hrun)) K7.nil
   ·have hpos:0<xr.length:=List.length_pos_iff.2 hxr
    obtain ⟨cap,cur,q1,q2,q3,q4,q5⟩:=a2v (ty:=o.type) hτ hu hd h0 (B3.nil w ι M d.size) hn1 rfl (base:=none) (sLen:=0) (sCap:=0) (Y1 (by simp) (.inl rfl)) hn2 (by omega) (by simpa using hbd)
    refine t9 (M9 ho hc ht ha (by rw [hv];exact q1)) ?_
    simp only [Nat.zero_add,List.nil_append] at q3 q5 ⊢
    exact K7.new rfl rfl rfl rfl (hf 0 (by simp)) (by omega) q3 q4 hn1.row q2 q5 fun ι' M' hi'=>a0G hi' q3 q4
 ·rename_i sz rows hs
  obtain ⟨⟨hcd,hbd⟩,h⟩:=h
  refine .inl ⟨_,_,h,fun a w ι M he hh hm hf=>?_⟩
  obtain ⟨news,hn1,hn2,_⟩:=hx a w ι M he hh
  have hr:=(he.to hs).inv_t
  generalize hv:a.eval s=v at *
  cases hr with
  |@sl _ _ _ b off cap A f hrow hcap hmax hk hnil hA hc' hr=>
   obtain rfl:=hk rfl
   by_cases hxr:xr=[]
   ·subst hxr
    have hr0:rows=[]:=by
     rcases hcd with h|⟨h,_⟩
     ·exact lbF h
     ·simp at h
    subst hr0
    have:news=[]:=lbF (by rw [hn1.len];simp)
    subst this
    rw [← hsz] at hn2
    have hrun:=run_append_nothing (P:=P) w t t o.type e i hu hi A 0 0 (lbQ _) (a.eval x) hn2
    exact t9 (M9 ho hc ht ha (by rw [hv];exact hrun)) K7.nil
   ·have hpos:0<xr.length:=List.length_pos_iff.2 hxr
    have hbase:∃vals,B3 w ι M d.size (toC rows) vals∧(vals=[]∨∃b off,A=some ⟨b,off,none⟩∧∀q u,vals[q]? =some u->w.cell? ⟨b,off+q,none⟩=some u):=by
     by_cases hr0:rows=[]
     ·subst hr0;exact ⟨[],B3.nil w ι M d.size,.inl rfl⟩
     ·have hsz':sz=d.size:=by
       rcases hcd with h|⟨_,h⟩
       ·exact absurd (lbF h) hr0
       ·exact h
      subst hsz'
      obtain ⟨_,vals,h1,h2⟩:=aR8 (ι:=ι) (RT.sl f hrow hcap hmax hk hnil hA hc' hr)
      exact ⟨vals,h1,.inr (h2 hr0)⟩
    obtain ⟨vals,hv1,hv2⟩:=hbase
    have hl:(toC rows).length=rows.length:=by simp [toC]
    obtain ⟨cap,cur,q1,q2,q3,q4,q5⟩:=a2v (ty:=o.type) hτ hu hd h0 hv1 hn1 hl (base:=A) (sCap:=rows.length) (Y1 (by rw [hv1.len,hl]) hv2) hn2 (by omega) (by rw [hl];exact hbd)
    refine t9 (M9 ho hc ht ha (by rw [hv];exact q1)) ?_
    exact K7.new rfl rfl rfl rfl (hf 0 (by simp)) (by omega) (by rw [lbq,hl];exact q3) q4 (hv1.append hn1).row q2 q5 fun ι' M' hi'=>a0G hi' q3 q4
 ·rename_i id lo len hs
  obtain ⟨k,hk,h⟩:=O1 h
  obtain ⟨hbk,h⟩:=E6 h
  have hbk:k.size=d.size∧k.elem=e:=by simpa using hbk
  obtain ⟨hlv,⟨hap,⟨hlen,hbd⟩,h⟩|⟨hap,⟨hlen,hbd⟩,h⟩⟩:=aB8 h
  ·rw [M5,a3j] at h
   have:=a8V hτ ho hc ht ha hu hd h0 hx hs hk hlv (Nat.le_of_eq hlen) hbd hbk (kd:=a3z k) (ap:=true) (.inr ⟨rfl,rfl,hlen⟩)
   rw [hlen,lbn (lbQ _)] at this
   rw [hlen] at h
   exact .inr ⟨_,_,h,this⟩
  ·rw [M5,a3j] at h
   exact .inr ⟨_,_,h,a8V hτ ho hc ht ha hu hd h0 hx hs hk hlv hlen hbd hbk (.inl ⟨rfl,hap⟩)⟩
 ·exact h.elim
theorem an7 {z:Array Value} {size n i j:Nat} (hz:z.size=size) (hi:i<n) (hj:j<size):(Builtin.zeroCells z n)[i*size+j]? =z[j]?:=by
 rw [← a2X hz hi hj,←hz];rfl
theorem a9g {w:World} {t tx ty e:TypeId} {k:IntKind} {i:TypeInfo} {z:Value} (ht:P.underlying t=some (.slice e)) (hx:P.underlying tx=some (.int k)) (hi:P.info? e=some i) (hz:i.zero=some z) (h0:i.size≠0)
 {m:Nat} (h1:1<=m) (hb:m*(i.bytes+1)<=140737488355328):
 (Builtin.append_ #[t,tx] ty #[.slice none 0 0,.int .i64 m]).run P w=
   .ok (.slice (some ⟨w.heap.size,0,none⟩) m (grownCap w m 0 e)) (w.drew.alloc (.cells (Builtin.zeroCells z.cells m++Builtin.zeroCells z.cells (grownCap w m 0 e - m)) e)):=by
 have hb1:m*i.bytes<=140737488355328:=lbR (Nat.mul_le_mul_left _ (Nat.le_succ _)) hb
 have hb2:m<=140737488355328:=lbR (Nat.le_mul_of_pos_right _ (Nat.succ_pos i.bytes)) hb
 have hfit:=growslice_fits (need:=m) (old:=0) (by omega) hb1
 have h48':¬(281474976710656<Builtin.nextslicecap m 0*i.bytes):=by omega
 have h63':¬(9223372036854775807<(m:Int)):=by omega
 have hbi:(m:Int)*(i.bytes:Int)<=140737488355328:=by
  have:=Int.ofNat_le.2 hb1
  simpa using this
 have h47:¬(281474976710656<(m:Int)*(i.bytes:Int)):=by omega
 have hw:IntKind.i64.wrap (m:Int)=m:=IntWalk.i64_in m ⟨by omega,by omega⟩
 have hm0:¬m=0:=by omega
 have hneg:¬((m:Int)<0):=by omega
 simp [asIntOf,Builtin.append_,run_underlying ht,run_underlying hx,sizeOf,typeInfo,zeroValue,hi,hz,hw,h0,hm0,hneg,h47,h63',h48',Question.forced,Builtin.firstCells,newRow,grownCap,asInt]
 intro h
 rcases Nat.mul_eq_zero.1 h with h|h<;>omega
theorem aM5 (hτ:D3 P τ) {c:Call} (ho:o.op=.call c) (hc:c.callee=.builtin .append) {t t':TypeId} {s x:Operand} (ht:c.argTypes.toList=[t,t']) (ha:c.args.toList=[s,x])
 {Kq:S->List Blk->Prop} (h:b2c τ ev H.length t t' s x Kq):∃s B,Kq s B∧QOp P o ev H s B:=by
 unfold b2c at h
 split at h
 rotate_left
 ·exact h.elim
 rename_i e _ _ _ _ k _ _ _ _ hte htx
 have hu:=L4 hτ hte
 have hux:P.underlying t'=some (.int k):=by
  obtain ⟨u,h1,h2⟩:=(hτ.td _ _ htx).und
  obtain ⟨_,rfl⟩:=h2
  exact h1
 split at h
 rotate_left
 ·exact h.elim
 rename_i d hd
 obtain ⟨hb,h⟩:=Y6 h
 have h0:d.size≠0:=by intro e;simp [e] at hb
 obtain ⟨i,hi,hsz,hby,z,hz,hzs,hone,hzl⟩:=(hτ.td _ _ hd).info
 split at h
 rotate_left
 ·exact h.elim
 rename_i sz rows m hs hx
 obtain ⟨⟨hm1,hbd⟩,h⟩:=h
 rw [a0Y] at h
 refine ⟨_,_,h,fun a w ι M he hh hm hf=>?_⟩
 have hr:=(he.to hs).inv_t
 have hxv:=(he.to hx).inv_atm
 generalize hv:a.eval s=v at *
 cases hr with
 |@sl _ _ _ b off cap A f hrow hcap hmax hk hnil hA hc' hr=>
  obtain ⟨rfl,rfl,rfl⟩:=hnil rfl
  obtain ⟨q,rfl⟩:∃q:Nat,m=q:=⟨m.toNat,by omega⟩
  simp only [lbX] at hbd
  have hrun:=a9g (P:=P) (w:=w) (ty:=o.type) hu hux hi hz (by omega) (m:=q) (by omega) (by rw [hby];exact hbd)
  have hzc:z.cells.size=i.size:=by rw [hsz,←hzl,←hzs];simp
  have hb2:q<=140737488355328:=lbR (Nat.le_mul_of_pos_right _ (Nat.succ_pos d.bytes)) hbd
  have hge:=grownCap_ge w q 0 e
  have hmx:=grownCap_le_maxLen w q 0 e (b0j hb2)
  obtain ⟨ha1,ha2⟩:=a2V.const (w:=w) (ι:=ι) (M:=M) (vs:=z.cells) (by rw [hzs];exact hone)
  rw [hzs] at ha1 ha2
  refine t9 (w':=w.drew.alloc (.cells (Builtin.zeroCells z.cells q++Builtin.zeroCells z.cells (grownCap w q 0 e - q)) e)) (v:=.slice (some ⟨w.heap.size,0,none⟩) q (grownCap w q 0 e)) ?_ ?_
  ·obtain ⟨callee,args,argTypes⟩:=c
   simp only at hc ht ha
   subst hc
   obtain rfl:argTypes=#[t,t']:=by apply Array.ext';simpa using ht
   obtain rfl:args=#[s,x]:=by apply Array.ext';simpa using ha
   simp [execOp,ho,resolve,invoke,builtin,hv,hxv,hrun]
  ·simp only [lbX]
   refine K7.new (cap:=grownCap w q 0 e) rfl rfl rfl rfl (hf 0 (by simp)) (by omega) (by simpa using hge) hmx ?_ ?_ ?_ fun ι' M' hi'=>a0G hi' hge hmx
   ·intro r hr
    rw [(List.mem_replicate.1 hr).2,←ha1,hzc,hsz]
   ·rw [Array.size_append,size_zeroCells,size_zeroCells,hzc,hsz,←Nat.add_mul]
    congr 1;omega
   ·intro i' j c' hij
    obtain ⟨row,hr1,hr2⟩:=F4 hij
    rw [lbk] at hr1
    split at hr1
    ·rename_i hlt
     injection hr1 with hr1
     subst hr1
     obtain ⟨u,q1,q2⟩:=ha2 j c' hr2
     have hj:j<i.size:=by rw [← hzc];exact (lb4.1 q1).1
     refine ⟨u,?_,q2⟩
     have hlt2:i'*d.size+j<q*d.size:=by
      have:i'*d.size+d.size<=q*d.size:=by rw [← lbU];exact lbT _ hlt
      omega
     rw [Array.getElem?_append_left (by rw [size_zeroCells,hzc,hsz];exact hlt2),←hsz,an7 hzc hlt hj,q1]
    ·cases hr1
theorem aS8 (hτ:D3 P τ) {c:Call} (ho:o.op=.call c) (hc:c.callee=.builtin .cap) {t:TypeId} {x:Operand} (ht:c.argTypes.toList=[t]) (ha:c.args.toList=[x]) {K:S->Prop}
 (h:bd1 τ t (ev x) K):∃s,K s∧QOp P o ev H s []:=by
 obtain ⟨callee,args,argTypes⟩:=c
 simp only at hc ht ha
 subst hc
 obtain rfl:argTypes=#[t]:=by apply Array.ext';simpa using ht
 obtain rfl:args=#[x]:=by apply Array.ext';simpa using ha
 unfold bd1 at h
 split at h
 ·rename_i e _ _ _ _ hte
  have hu:=L4 hτ hte
  split at h
  ·rename_i sz rows hx
   refine ⟨_,h,t5 fun a w ι M he hh=>⟨.int .i64 0,?_,.int⟩⟩
   have hr:=(he.to hx).inv_t
   generalize hv:a.eval x=v at *
   cases hr with
   |@sl _ _ _ b off cap A f hrow hcap hmax hk hnil hA hc' hr=>
    obtain ⟨rfl,rfl,rfl⟩:=hnil rfl
    simp [execOp,ho,resolve,invoke,builtin,Builtin.cap_,hv,run_underlying hu,goInt]
  ·exact h.elim
 ·exact h.elim
end
end
section
open Go.RowKit
section
variable {P:Program} {τ:Tab} {o:Oper} {ev:Operand->S} {H:Hp}
theorem H3.store {w w':World} {ι:Io} {M:Ms} (hH:p9 w ι M H) (hM:MB w M) (hF:Z1 ι H.length) {id b cap size:Nat} {k k':Blk} (hk:H[id]? =some k) (hl:k.mode=.live) (hap:k.app=false)
 (hi:ι id=some (.blk b cap size)) (hl':k'.mode=.live) (hos:w'.os=w.os) (htape:w'.tape=w.tape) (hout:w'.output=w.output)
 (hsize:w'.heap.size=w.heap.size) (hkeep:∀b',b'≠b->w'.heap[b']? =w.heap[b']?) (hnew:N1 w' ι M k' (.blk b cap size)):
 H3 w ι M H .junk (H.set id k') undef w':=by
 have hMb:M b:=hH.liv id k hk hl b cap size hi
 have hget:∀j kk,(H.set id k')[j]? =some kk->(j=id∧kk=k')∨(j≠id∧H[j]? =some kk):=fun j kk hj=>M7 hj
 refine ⟨ι,M,.junk,⟨?_,?_,?_,?_,?_⟩,fun b' h=>by rw [hsize];exact hM b' h,by simpa using hF,⟨hos,htape,hout,by omega,?_,fun _ _=>rfl,fun b' h=>.inl h,fun b' h=>.inl h,?_,by simp⟩⟩
 ·intro j kk hj hd l hl2
  rcases hget j kk hj with ⟨rfl,rfl⟩|⟨h1,h2⟩
  ·rw [hi] at hl2;injection hl2 with hl2;subst hl2;exact hnew
  ·exact hH.other hk hl hi hap (fun b' _ h=>hkeep b' h) (fun b' h=>.inl h) (fun _ _ h=>h) j kk h1 h2 hd l hl2
 ·intro j kk hj hm
  rcases hget j kk hj with ⟨rfl,rfl⟩|⟨h1,h2⟩
  ·exact hH.liv j k hk hl
  ·exact hH.liv j kk h2 hm
 ·intro j kk hj hm
  rcases hget j kk hj with ⟨rfl,rfl⟩|⟨h1,h2⟩
  ·rw [hl'] at hm;cases hm
  ·exact hH.fro j kk h2 hm
 ·intro j j' kk kk' hj hj' hm hm'
  rcases hget j kk hj with ⟨rfl,rfl⟩|⟨h1,h2⟩<;>rcases hget j' kk' hj' with ⟨rfl,rfl⟩|⟨h1',h2'⟩
  ·intros;rfl
  ·exact hH.inj _ _ _ _ hk h2' hl hm'
  ·exact hH.inj _ _ _ _ h2 hk hm hl
  ·exact hH.inj _ _ _ _ h2 h2' hm hm'
 ·intro j j' kk kk' hj hj' hm hm' b' c s c' s' hij hij'
  rcases hget j kk hj with ⟨rfl,rfl⟩|⟨h1,h2⟩
  ·rw [hl'] at hm;cases hm
  ·rcases hget j' kk' hj' with ⟨rfl,rfl⟩|⟨h1',h2'⟩
   ·have:=(hH.old _ _ _ _ h2 hk hm hl _ _ _ _ _ hij hij').1
    rw [hap] at this;cases this
   ·exact hH.old _ _ _ _ h2 h2' hm hm' _ _ _ _ _ hij hij'
 ·intro b' _ hnl
  exact hkeep b' (by rintro rfl;exact hnl ⟨id,k,cap,size,hk,hl,hi⟩)
 ·rintro b' ⟨j,kk,c',s',hj,hm,hi'⟩
  rcases hget j kk hj with ⟨rfl,rfl⟩|⟨h1,h2⟩
  ·exact .inl ⟨j,k,c',s',hk,hl,hi'⟩
  ·exact .inl ⟨j,kk,c',s',h2,hm,hi'⟩
theorem a9q {t:TypeId} {d:TD} (h:ay3 P t d) {w:World} {b off:Nat} {e:TypeId} {cur:Array Value} {v:Value} (hg:w.heap[b]? =some (.cells cur e (0,0))) (hs:v.cells.size=d.size)
 (hl:off+v.cells.size<=cur.size) (h1:∀u ∈ v.cells.toList,u.oneCell'=true):
 (Instr.storeAt t (.pointer (some ⟨b,off,none⟩)) v).run P w=.ok () (w.setRow b (cur.toList.take off++v.cells.toList++cur.toList.drop (off+v.cells.size)).toArray):=by
 have:=run_storeCells_at P b off e v.cells.toList 0 cur w hg (by simpa using hl) h1
 simp only [Nat.add_zero,Array.length_toList] at this
 simp [Instr.storeAt,Instr.sureAddr,storeVar,a3s h,hs,this]
theorem ay8 (hτ:D3 P τ) {t:TypeId} {x v:Operand} (ho:o.op=.store t x v) {K:Hp->Prop} (h:aE3 τ ev H t x v K):∃H',K H'∧GOp P o ev H .junk H':=by
 unfold aE3 at h
 split at h
 ·exact h.elim
 rename_i d hd
 split at h
 rotate_left
 ·exact h.elim
 rename_i id r o' hx
 obtain ⟨k,hk,h⟩:=O1 h
 obtain ⟨hlv,hap,h⟩:=a3W h
 obtain ⟨cs,h,hcs⟩:=a1W h
 obtain ⟨hsz,h⟩:=E6 h
 have hsz:cs.length=d.size:=by simpa using hsz
 obtain ⟨row,hrow,h,hbox⟩:=aO0 h
 by_cases hne:cs=[]
 · -- nothing is stored
   subst hne
   have hov:∀{kk:List C->Prop},a4B o' [] row kk->kk row:=fun {kk} hh=>by cases row<;>cases o'<;>exact hh
   have h:=hov h
   have hsame:∀rows,C2 k rows=k↔rows=k.rows:=fun rows=>⟨fun e=>by rw [← congrArg Blk.rows e];rfl,fun e=>by subst e;cases k;rfl⟩
   have hset:H.set id k=H:=by
    apply List.ext_getElem?
    intro j
    by_cases hj:j=id
    ·subst hj;rw [List.getElem?_set_self (lbe.1 hk).1,hk]
    ·rw [getElem?_set_ne' hj]
   have hK:K H:=by
    split at h
    ·rename_i hb
     rw [M5,(hsame _).2 (by rw [(hbox hb).1]),hset] at h
     exact h
    ·rw [M5,(hsame _).2 (by
      apply List.ext_getElem?
      intro j
      by_cases hj:j=r
      ·subst hj;rw [List.getElem?_set_self (lbe.1 hrow).1,hrow]
      ·rw [List.getElem?_set_ne (Ne.symm hj)]),hset] at h
     exact h
   refine ⟨H,hK,fun a w ι M he hh hm hF=>?_⟩
   have hv:=(he v).cells hcs
   generalize hvx:a.eval x=vx
   have hr:=(he.to hx).inv_c
   rw [hvx] at hr
   cases hr with
   |@ptr _ _ _ b cap size hi=>
    have hbr:=hh.blk id k hk (by rw [hlv];intro h;cases h) _ hi
    obtain ⟨q1,q2,q3,q4,q5,cur,q6,q7,q8⟩:=hbr
    have hc0:(a.eval v).cells.toList=[]:=lbF (by simpa using hv.1)
    have hrun:(Instr.storeAt t (.pointer (some ⟨b,r*size+o',none⟩)) (a.eval v)).run P w=.ok () w:=by
     simp [Instr.storeAt,Instr.sureAddr,storeVar,a3s (hτ.td t d hd),hc0,storeCells,show (a.eval v).cells.size=d.size by rw [hv.1];exact hsz]
    refine aq1 (by simp only [execOp,ho,hvx,Sem.run_bind,hrun,Result.andThen_ok];rfl) ⟨ι,M,.junk,hh,hm,hF,a37.refl w ι M H⟩
 ·obtain ⟨hlen,h'⟩:=a7M h hne
  clear h
  revert h'
  intro h
  have hH':∃rows',K (H.set id (C2 k rows'))∧rows'.length=k.rows.length∧rows'=k.rows.set r (row.take o'++cs++row.drop (o'+cs.length)):=by
   split at h
   ·rename_i hb
    rw [M5] at h
    obtain ⟨e1,e2⟩:=hbox hb
    exact ⟨_,h,by rw [e1];rfl,by rw [e1,e2];rfl⟩
   ·rw [M5] at h
    exact ⟨_,h,by simp,rfl⟩
  obtain ⟨rows',hK,hrl,hrows'⟩:=hH'
  refine ⟨_,hK,fun a w ι M he hh hm hF=>?_⟩
  have hv:=(he v).cells hcs
  generalize hvx:a.eval x=vx
  have hr:=(he.to hx).inv_c
  rw [hvx] at hr
  cases hr with
  |@ptr _ _ _ b cap size hi=>
   have hbr:=hh.blk id k hk (by rw [hlv];intro h;cases h) _ hi
   have hMb:=hh.liv id k hk hlv _ _ _ hi
   obtain ⟨q1,q2,q3,q4,q5,cur,q6,q7,q8⟩:=hbr
   have hrlen:row.length=size:=q5 row (lbm hrow)
   have hr0:r<k.rows.length:=(lbe.1 hrow).1
   have hmul:r*size+size<=cap*size:=by rw [← lbU];exact lbT _ (by omega)
   have hfit:r*size+o'+(a.eval v).cells.size<=cur.size:=by rw [hv.1,q7];omega
   have hrun:=a9q (hτ.td t d hd) (b:=b) (off:=r*size+o') q6 (by rw [hv.1];exact hsz) hfit hv.one
   refine aq1 (by simp only [execOp,ho,hvx,Sem.run_bind,hrun,Result.andThen_ok];rfl) ?_
   have hkeep:∀b',b'≠b->(w.setRow b (cur.toList.take (r*size+o')++(a.eval v).cells.toList++cur.toList.drop (r*size+o'+(a.eval v).cells.size)).toArray).heap[b']? =w.heap[b']?:=fun b' hb'=>setRow_other w b b' _ hb'
   refine H3.store hh hm hF hk hlv hap hi (by exact hlv) rfl rfl rfl (by simp) hkeep ⟨q1,q2,by show rows'.length<=cap;omega,q4,?_,_,setRow_heap w b cur _ k.elem _ q6,?_,?_⟩
   ·show ∀r ∈ rows',r.length=size
    rw [hrows']
    intro r' hr'
    rcases List.mem_or_eq_of_mem_set hr' with h|rfl
    ·exact q5 r' h
    ·simp;omega
   ·simp only [List.size_toArray,lbq,lbs,List.length_drop,Array.length_toList]
    omega
   ·intro i j c hc
    obtain ⟨row',s1,s2⟩:=F4 hc
    have s1':rows'[i]? =some row':=s1
    rw [hrows'] at s1'
    have keepc:∀{c:C} {u:Value},RC w ι M c u->RC (w.setRow b (cur.toList.take (r*size+o')++(a.eval v).cells.toList++cur.toList.drop (r*size+o'+(a.eval v).cells.size)).toArray) ι M c u:=
     fun h=>h.keep (fun b' _ hb'=>hkeep b' (by rintro rfl;exact hb' hMb)) (fun b' h=>.inl h) (fun _ _ h=>h)
    have hlt:i<k.rows.length:=by have:=(lbe.1 s1).1;rw [← hrl];exact this
    by_cases hir:i=r
    ·subst hir
     rw [List.getElem?_set_self hlt] at s1'
     injection s1' with s1'
     subst s1'
     have hj:j<size:=by have:=(lbe.1 s2).1;simp at this;omega
     by_cases hj1:j<o'
     ·rw [lbD,lbb (by simp;omega),List.getElem?_take_of_lt hj1] at s2
      obtain ⟨u,t1,t2⟩:=q8 i j c (C7 hrow s2)
      refine ⟨u,?_,keepc t2⟩
      rw [List.getElem?_toArray,lbD,lbb (by simp;omega),List.getElem?_take_of_lt (by omega)]
      simpa using t1
     ·by_cases hj2:j<o'+cs.length
      ·rw [lbb (by simp;omega),lbc (by simp;omega)] at s2
       rw [show (row.take o').length=o' by simp;omega] at s2
       obtain ⟨u,t1,t2⟩:=hv.2 _ _ s2
       refine ⟨u,?_,keepc t2⟩
       have hvl:=hv.1
       rw [List.getElem?_toArray,lbb (by simp;omega),lbc (by simp;omega)]
       rw [show (cur.toList.take (i*size+o')).length=i*size+o' by simp;omega,show i*size+j - (i*size+o')=j - o' by omega]
       simpa using t1
      ·rw [lbc (by simp;omega),lbj] at s2
       rw [show (row.take o'++cs).length=o'+cs.length by simp;omega,show o'+cs.length+(j - (o'+cs.length))=j by omega] at s2
       obtain ⟨u,t1,t2⟩:=q8 i j c (C7 hrow s2)
       refine ⟨u,?_,keepc t2⟩
       have hvl:=hv.1
       rw [List.getElem?_toArray,lbc (by simp;omega),lbj]
       rw [show (cur.toList.take (i*size+o')++(a.eval v).cells.toList).length=i*size+o'+(a.eval v).cells.size by simp;omega,
        show i*size+o'+(a.eval v).cells.size+(i*size+j - (i*size+o'+(a.eval v).cells.size))=i*size+j by omega]
       simpa using t1
    ·rw [List.getElem?_set_ne (Ne.symm hir)] at s1'
     obtain ⟨u,t1,t2⟩:=q8 i j c (C7 s1' s2)
     refine ⟨u,?_,keepc t2⟩
     have hj:j<size:=by rw [← q5 row' (lbm s1')];exact (lbe.1 s2).1
     have hvl:=hv.1
     rcases Nat.lt_or_gt_of_ne hir with hlt'|hgt'
     ·have:i*size+size<=r*size:=by rw [← lbU];exact lbT _ hlt'
      rw [List.getElem?_toArray,lbD,lbb (by simp;omega),List.getElem?_take_of_lt (by omega)]
      simpa using t1
     ·have:r*size+size<=i*size:=by rw [← lbU];exact lbT _ hgt'
      rw [List.getElem?_toArray,lbc (by simp;omega),lbj]
      rw [show (cur.toList.take (r*size+o')++(a.eval v).cells.toList).length=r*size+o'+(a.eval v).cells.size by simp;omega,
       show r*size+o'+(a.eval v).cells.size+(i*size+j - (r*size+o'+(a.eval v).cells.size))=i*size+j by omega]
      simpa using t1
theorem aq2 {size:Nat}:∀(parts:List (Nat × S)) (rows:List (List C)) {k:List (List C)->Prop},aJ5 size rows parts k->∃c,k c∧aJ5 size rows parts (·=c)
 |[],rows,k,h=>⟨rows,h,rfl⟩
 |(i,s)::rest,rows,k,h=>by
  obtain ⟨cs,h,hcs⟩:=a6c h
  obtain ⟨hb,h⟩:=E6 h
  rw [M5] at h
  obtain ⟨c,h1,h2⟩:=aq2 rest _ h
  refine ⟨c,h1,a4r hcs ?_⟩
  rintro _ rfl
  simp only [hb,cond_true]
  rw [M5]
  exact h2
theorem aw1 {w:World} {ι:Io} {M:Ms} {a:Act} (he:X2 w ι M ev a) {size:Nat} (h0:0<size):∀(parts:List (Nat × Operand)) (rows:List (List C)) (arr:Array Value) {k:List (List C)->Prop},
 B3 w ι M size rows arr.toList->aJ5 size rows (parts.map fun p=>(p.1,ev p.2)) k->
 ∃rows',k rows'∧rows'.length=rows.length∧∃r,Instr.fill (fun i=>some (i*size,size)) arr (parts.map fun p=>(p.1,a.eval p.2))=some r∧B3 w ι M size rows' r.toList
 |[],rows,arr,k,hr,h=>⟨rows,h,rfl,arr,rfl,hr⟩
 |(i,x)::rest,rows,arr,k,hr,h=>by
  obtain ⟨cs,h,hcs⟩:=a1W h
  obtain ⟨hb,h⟩:=E6 h
  rw [M5] at h
  have hb:cs.length=size∧i<rows.length:=by simpa [Nat.blt_eq] using hb
  have hv:=(he x).cells hcs
  have hlen:=hr.len
  rw [Array.length_toList] at hlen
  have hmul:i*size+size<=rows.length*size:=by rw [← lbU];exact lbT _ hb.2
  obtain ⟨r0,hr0,hs0,hm0⟩:=ad8 (i*size) (a.eval x).cells arr (by rw [hv.1,hb.1,hlen];exact hmul)
  have hok:B3 w ι M size (rows.set i cs) r0.toList:=by
   refine ⟨by rw [Array.length_toList,hs0,hlen,List.length_set],?_,?_⟩
   ·intro r hr'
    rcases List.mem_or_eq_of_mem_set hr' with h|rfl
    ·exact hr.row r h
    ·exact hb.1
   ·intro i' j c hc
    obtain ⟨row,s1,s2⟩:=F4 hc
    rw [Array.getElem?_toList,hm0,hv.1,hb.1]
    by_cases hi:i'=i
    ·subst hi
     rw [List.getElem?_set_self hb.2] at s1
     injection s1 with s1
     subst s1
     have hj:j<size:=by rw [← hb.1];exact (lbe.1 s2).1
     rw [if_pos (by omega),show i'*size+j - i'*size=j by omega]
     exact hv.2 j c s2
    ·rw [List.getElem?_set_ne (Ne.symm hi)] at s1
     have hj:j<size:=by rw [← hr.row row (lbm s1)];exact (lbe.1 s2).1
     have hno:¬(i*size<=i'*size+j∧i'*size+j<i*size+size):=by
      rintro ⟨h1,h2⟩
      rcases Nat.lt_or_gt_of_ne hi with h|h
      ·have:i'*size+size<=i*size:=by rw [← lbU];exact lbT _ h
       omega
      ·have:i*size+size<=i'*size:=by rw [← lbU];exact lbT _ h
       omega
     rw [if_neg hno]
     have:=hr.cell i' j c (C7 s1 s2)
     simpa using this
  obtain ⟨rows',hk,hl',r,q1,q2⟩:=aw1 he h0 rest _ r0 hok h
  refine ⟨rows',hk,by simpa using hl',r,?_,q2⟩
  simp only [List.map_cons,Instr.fill]
  rw [if_neg (by have q1:=hv.1;simp;omega),hr0]
  exact q1
theorem b27 {w:World} {ι:Io} {M:Ms} {z:Array Value} {size n:Nat} (hz:z.size=size) (hone:∀v ∈ z.toList,v.oneCell'=true):B3 w ι M size (List.replicate n (z.toList.map I0)) (madeCells z (n*size)).toList:=by
 refine ⟨by simp [madeCells],?_,?_⟩
 ·intro r hr
  rw [(List.mem_replicate.1 hr).2];simp [hz]
 ·intro i j c hc
  obtain ⟨row,s1,s2⟩:=F4 hc
  rw [lbk] at s1
  split at s1
  ·rename_i hi
   injection s1 with s1
   subst s1
   obtain ⟨u,q1,q2⟩:=(a2V.const (w:=w) (ι:=ι) (M:=M) hone).2 j c s2
   have hj:j<size:=by rw [← hz];exact (lb4.1 q1).1
   exact ⟨u,by rw [Array.getElem?_toList,a2X hz hi hj];exact q1,q2⟩
  ·cases s1
theorem a7B (hτ:D3 P τ) {t:TypeId} {len:Nat} {parts:Array (Nat × Operand)} (ho:o.op=.buildSlice t len parts) {K:S->List Blk->Prop} (h:a2p τ ev H.length t len parts.toList K):
 ∃s B,K s B∧QOp P o ev H s B:=by
 unfold a2p at h
 split at h
 rotate_left
 ·exact h.elim
 rename_i e _ _ _ _ ht
 have hu:=L4 hτ ht
 split at h
 rotate_left
 ·exact h.elim
 rename_i d hd
 obtain ⟨hb,h⟩:=Y6 h
 rw [a0Y] at h
 have hb:d.size≠0∧len*d.size<16777216:=by
  rw [Bool.or_eq_false_iff] at hb
  refine ⟨by intro e;simp [e] at hb,?_⟩
  have:=hb.2
  rw [← lbP,Nat.ble_eq] at this
  omega
 obtain ⟨i,hi,hsz,hby,z,hz,hzs,hone,hzl⟩:=(hτ.td _ _ hd).info
 have hzsz:z.cells.size=d.size:=by rw [← hzl,←hzs];simp
 obtain ⟨rows,h,hdet⟩:=aq2 _ _ h
 have key:∀(a:Act) (w:World) (ι:Io) (M:Ms),X2 w ι M ev a->∃r:Array Value,(Instr.buildSlice t len (parts.map fun (i,x)=>(i,a.eval x))).run P w=.ok (.slice (some ⟨w.heap.size,0,none⟩) len len) (w.alloc (.cells r e))∧
  B3 w ι M d.size rows r.toList∧rows.length=len:=by
  intro a w ι M he
  obtain ⟨rows',rfl,hl,r,q1,q2⟩:=aw1 he (size:=d.size) (by omega) parts.toList _ (madeCells z.cells (len*d.size)) (by
   have:=b27 (w:=w) (ι:=ι) (M:=M) (n:=len) hzsz (by rw [hzs];exact hone)
   rw [hzs] at this
   exact this) hdet
  by_cases hl0:len=0
  ·subst hl0
   have hr0:r=#[]:=by
    have:=q2.len
    rw [hl] at this
    simp at this
    exact this
   refine ⟨r,?_,q2,by simpa using hl⟩
   have q1':Instr.fill (fun i=>some (i*d.size,d.size)) #[] (parts.toList.map fun p=>(p.1,a.eval p.2))=some r:=by
    simpa [madeCells,Array.range_zero'] using q1
   simp [Instr.buildSlice,run_underlying hu,sizeOf,typeInfo,hi,hsz,newRow,q1',Array.range_zero']
  ·refine ⟨r,?_,q2,by simpa using hl⟩
   refine run_buildSlice w t e len _ r i z hu hi hz (by rw [hsz];omega) (by rw [hsz];intro h;rcases Nat.mul_eq_zero.1 h with h|h<;>omega) ?_
   rw [a8x,hsz]
   exact q1
 have hown:K (.c (.own H.length 0 len true)) [I1 e d.size rows false]->∃s B,K s B∧QOp P o ev H s B:=fun h=>by
  refine ⟨_,_,h,fun a w ι M he hh hm hf=>?_⟩
  obtain ⟨r,q1,q2,q3⟩:=key a w ι M he
  have hmx:len<=maxLen:=by
   have:len<=len*d.size:=Nat.le_mul_of_pos_right _ (by omega)
   unfold maxLen;omega
  refine t9 (by simp only [execOp,ho,Sem.run_bind,q1,Result.andThen_ok];rfl) ?_
  refine K7.new (cap:=len) (cur:=r) rfl rfl rfl rfl (hf 0 (by simp)) (by omega) (by omega) hmx q2.row (by have:=q2.len;rw [q3] at this;simpa using this) (fun i j c hc=>by
   obtain ⟨u,s1,s2⟩:=q2.cell i j c hc
   exact ⟨u,by simpa using s1,s2⟩) fun ι' M' hi'=>a0G hi' (lbQ _) hmx
 split at h
 ·rename_i rs hrs
  have hrs:=aV8 hrs
  have hdata:∀sk:SK,sk=.full∨sk=.any->K (.c (.t (.sl d.size sk rs))) []->∃s B,K s B∧QOp P o ev H s B:=fun sk hsk h=>by
   refine ⟨_,_,h,fun a w ι M he hh hm hf=>?_⟩
   obtain ⟨r,q1,q2,q3⟩:=key a w ι M he
   refine t9 (by simp only [execOp,ho,Sem.run_bind,q1,Result.andThen_ok];rfl) ?_
   have hext:Ext w (w.alloc (.cells r e)):=⟨rfl,rfl,rfl,by simp,fun b hb=>heap_alloc_old w _ hb⟩
   refine K7.of_none ?_ hext
   have hlen:rs.length=len:=by rw [← q3,hrs];simp [toC]
   have hmx:len<=maxLen:=by
    have:len<=len*d.size:=Nat.le_mul_of_pos_right _ (by omega)
    unfold maxLen;omega
   rw [← hlen]
   have hat:∀i j c,at2 rs i j=some c->at2 rows i j=some (.t c):=fun i j c hc=>by
    obtain ⟨row,s1,s2⟩:=F4 hc
    rw [hrs]
    exact C7 (row:=row.map C.t) (by simp [toC,s1]) (by simp [s2])
   refine .c (.t (.sl (b:=w.heap.size) (off:=0) (fun i j=>r.getD (i*d.size+j) undef) ?_ (lbQ _) (by omega) (fun _=>rfl) (by rcases hsk with rfl|rfl<;>(intro h;cases h)) (fun _=>rfl) ?_ ?_ (by rcases hsk with rfl|rfl<;>exact ⟨(fun h=>nomatch h),(fun h=>nomatch h)⟩)))
   ·intro r' hr'
    have:=q2.row (r'.map C.t) (by rw [hrs];exact lbx.2 ⟨r',hr',rfl⟩)
    simpa using this
   ·intro i j c hc
    obtain ⟨u,s1,s2⟩:=q2.cell _ _ _ (hat i j c hc)
    rw [Array.getElem?_toList] at s1
    refine ⟨?_,fun hM=>absurd (hm _ hM) (by omega)⟩
    have hn:=heap_alloc_new w (.cells r e)
    simp only [World.cell?]
    rw [hn]
    simp [s1]
   ·intro i j c hc
    obtain ⟨u,s1,s2⟩:=q2.cell _ _ _ (hat i j c hc)
    rw [Array.getElem?_toList] at s1
    have:r.getD (i*d.size+j) undef=u:=by simp [s1]
    show RT _ M c (r.getD (i*d.size+j) undef)
    rw [this]
    cases s2 with
    |t s2=>exact s2.keep (fun b hb _=>hext.keep b hb) (fun b h=>.inl h)
  obtain ⟨h|h|h⟩:=h
  ·exact hdata _ (.inl rfl) h
  ·exact hown h
  ·exact hdata _ (.inr rfl) h
 ·exact hown h
theorem a8y {c:Call} (ho:o.op=.call c) (hc:c.callee=.builtin .copy) {t:TypeId} {x s:Operand} (ht:c.argTypes.toList=[t,t]) (ha:c.args.toList=[x,s]) {a:Act} {w w':World} {v:Value}
 (h:(Builtin.copy_ #[t,t] o.type #[a.eval x,a.eval s]).run P w=.ok v w'):(execOp a.eval o).run P w=.ok (.value v) w':=by
 obtain ⟨callee,args,argTypes⟩:=c
 simp only at hc ht ha
 subst hc
 obtain rfl:argTypes=#[t,t]:=by apply Array.ext';simpa using ht
 obtain rfl:args=#[x,s]:=by apply Array.ext';simpa using ha
 simp [execOp,ho,resolve,invoke,builtin,h]
theorem H3.result {w w':World} {ι:Io} {M:Ms} {H H':Hp} {s:S} {v u:Value} {x:Value} (hv:x.oneCell'=true) (h:H3 w ι M H s H' v w'):H3 w ι M H (.c (.t (.atm x))) H' x w':=by
 obtain ⟨ι',M',_,h⟩:=h
 exact ⟨ι',M',.c (.t (.atm hv)),h⟩
theorem aP7 {w:World} {ι:Io} {M:Ms} {k:Blk} {b cap size lo len:Nat} {xr:List (List C)} {news:List Value} {cur:Array Value} (hb:N1 w ι M k (.blk b cap size)) (hcur:w.heap[b]? =some (.cells cur k.elem (0,0)))
 (hl:lo+len<=k.rows.length) (hn:B3 w ι M size xr news) (hcl:cur.size=cap*size) (hlc:k.rows.length<=cap):
 B3 w ι M size (C9 lo len k.rows xr) ((cur.toList.take (lo*size)++news.take ((xr.take len).length*size)++cur.toList.drop (lo*size+(xr.take len).length*size)).take (k.rows.length*size)):=by
 have hxl:(xr.take len).length<=len:=by simp;omega
 generalize hm:(xr.take len).length=m at *
 have m1:lo*size+m*size<=k.rows.length*size:=by rw [← Nat.add_mul];exact lbT _ (by omega)
 have m2:k.rows.length*size<=cap*size:=lbT _ hlc
 have hnl:(news.take (m*size)).length=m*size:=by
  rw [lbs,hn.len]
  refine Nat.min_eq_left (lbT _ ?_)
  rw [← hm];simp;omega
 obtain ⟨o1,a1,a2⟩:=a5m hb (lo:=0) (len:=lo) (by omega)
 obtain ⟨o3,c1,c2⟩:=a5m hb (lo:=lo+m) (len:=k.rows.length - (lo+m)) (by omega)
 rw [List.drop_zero] at a1
 have e3:(k.rows.drop (lo+m)).take (k.rows.length - (lo+m))=k.rows.drop (lo+m):=lbn (by simp)
 rw [e3] at c1
 have hmid:B3 w ι M size (xr.take len) (news.take (m*size)):=by
  refine ⟨by rw [hnl,hm],fun r hr=>hn.row r (List.mem_of_mem_take hr),fun i j c hc=>?_⟩
  obtain ⟨row,s1,s2⟩:=F4 hc
  rw [lbi] at s1
  split at s1
  ·rename_i hi
   obtain ⟨u,t1,t2⟩:=hn.cell _ _ _ (C7 s1 s2)
   have hj:j<size:=by rw [← hn.row row (lbm s1)];exact (lbe.1 s2).1
   have him:i<m:=by rw [← hm];have:=(lbe.1 s1).1;simp;omega
   have hlt:i*size+j<m*size:=by
    have:i*size+size<=m*size:=by rw [← lbU];exact lbT _ him
    omega
   exact ⟨u,by rw [List.getElem?_take_of_lt hlt];exact t1,t2⟩
  ·cases s1
 have hall:=a1.append (hmid.append c1)
 have ho1:o1=cur.toList.take (lo*size):=by
  apply List.ext_getElem?
  intro q
  have hlen:o1.length=lo*size:=by rw [a1.len,lbs,Nat.min_eq_left (by omega)]
  by_cases hq:q<lo*size
  ·have e1:=a2 q _ (lbf (by omega))
   simp only [World.cell?,hcur,Nat.zero_mul,Nat.zero_add] at e1
   rw [lbf (by omega),List.getElem?_take_of_lt hq,←e1]
   simp
  ·rw [lbd (by omega),lbd (by simp;omega)]
 have hl3:o3.length=k.rows.length*size - (lo*size+m*size):=by
  rw [c1.len,List.length_drop,←Nat.add_mul,←Nat.sub_mul]
 have ho3:o3=(cur.toList.drop (lo*size+m*size)).take (k.rows.length*size - (lo*size+m*size)):=by
  apply List.ext_getElem?
  intro q
  by_cases hq:q<k.rows.length*size - (lo*size+m*size)
  ·have e1:=c2 q _ (lbf (by omega))
   simp only [World.cell?,hcur,Nat.add_mul] at e1
   rw [lbf (by omega),List.getElem?_take_of_lt hq,lbj,←e1]
   simp
  ·rw [lbd (by omega),lbd (by simp;omega)]
 have hfin:o1++(news.take (m*size)++o3)=(cur.toList.take (lo*size)++news.take (m*size)++cur.toList.drop (lo*size+m*size)).take (k.rows.length*size):=by
  rw [ho1,ho3,List.take_append,lbn (l:=cur.toList.take (lo*size)++news.take (m*size)) (by rw [lbq,hnl];simp;omega),lbD]
  congr 3
  rw [lbq,hnl]
  simp only [lbs,Array.length_toList]
  rw [Nat.min_eq_left (by omega)]
 rw [← hfin]
 unfold C9
 rw [hm]
 exact hall
theorem aN2 (hτ:D3 P τ) {c:Call} (ho:o.op=.call c) (hc:c.callee=.builtin .copy) {t:TypeId} {x s:Operand} (ht:c.argTypes.toList=[t,t]) (ha:c.args.toList=[x,s])
 {Kg:S->Hp->Prop} (h:b1i τ ev H t x s Kg):∃s H',Kg s H'∧GOp P o ev H s H':=by
 unfold b1i at h
 split at h
 rotate_left
 ·exact h.elim
 rename_i e _ _ _ _ hte
 have hu:=L4 hτ hte
 split at h
 rotate_left
 ·exact h.elim
 rename_i d hd
 obtain ⟨hb0,h⟩:=Y6 h
 have h0:d.size≠0:=by intro e;simp [e] at hb0
 obtain ⟨xr,h,hx⟩:=aO5 hτ hu h
 obtain ⟨i,hi,hsz,hby,z,hz,hzs,hone,hzl⟩:=(hτ.td _ _ hd).info
 split at h
 rotate_left
 ·exact h.elim
 rename_i id lo len app hs
 obtain ⟨k,hk,h⟩:=O1 h
 obtain ⟨hlv,hap,h⟩:=a3W h
 obtain ⟨hbk,hlen,h⟩:=E6 h
 have hbk:k.size=d.size∧k.elem=e:=by simpa using hbk
 rw [M5] at h
 refine ⟨_,_,h,fun a w ι M he hh hm hF=>?_⟩
 obtain ⟨news,hn1,hn2,hn3⟩:=hx a w ι M he hh
 have hr:=(he.to hs).inv_c
 generalize hv:a.eval x=v at *
 have hmin:(xr.take len).length=Nat.min xr.length len:=by rw [lbs];exact Nat.min_comm _ _
 have hload:(Builtin.firstCells i.size (Nat.min xr.length len) (a.eval s)).run P w=.ok (news.take ((xr.take len).length*d.size)).toArray w:=by
  rw [← hmin]
  rcases hn3 with h0'|⟨ad,c',hxe,hxc⟩
  ·have hz0:(xr.take len).length=0:=by rw [lbs];omega
   have hxr:xr=[]:=lbF h0'
   subst hxr
   have:=hn2.cells
   have hnn:news=[]:=lbF (by rw [hn1.len];simp)
   subst hnn
   rw [← hsz] at this
   simpa using this
  ·rw [hxe]
   have hl:=run_loadCells_list (P:=P) w ad (news.take ((xr.take len).length*d.size)) (fun j v hj=>by
    rw [lbi] at hj
    split at hj
    ·exact hxc j v hj
    ·cases hj)
   have hln:(news.take ((xr.take len).length*d.size)).length=(xr.take len).length*i.size:=by
    rw [lbs,hn1.len,hsz]
    refine Nat.min_eq_left (lbT _ ?_)
    rw [lbs];exact Nat.min_le_right _ _
   rw [hln] at hl
   simpa [Builtin.firstCells] using hl
 cases hr with
 |@own _ _ _ _ b cap size A cap' hι q1 q2 q3 q4 q5=>
  have hbr:=hh.blk id k hk (by rw [hlv];intro h;cases h) _ hι
  have hMb:=hh.liv id k hk hlv _ _ _ hι
  obtain rfl:size=d.size:=hbr.1.symm.trans hbk.1
  have hbr2:=hbr
  obtain ⟨r1,r2,r3,r4,r5,cur,r6,r7,r8⟩:=hbr2
  have hcp:=aP7 hbr r6 hlen hn1 r7 r3
  generalize hvals:news.take ((xr.take len).length*d.size)=vals at *
  have hvl:vals.length=(xr.take len).length*d.size:=by
   rw [← hvals,lbs,hn1.len]
   refine Nat.min_eq_left (lbT _ ?_)
   rw [lbs];exact Nat.min_le_right _ _
  have hfit:lo*d.size+vals.length<=cur.size:=by
   rw [hvl,r7,←Nat.add_mul]
   refine lbT _ ?_
   have:(xr.take len).length<=len:=by rw [lbs];exact Nat.min_le_left _ _
   omega
  have hone':∀u ∈ vals,u.oneCell'=true:=fun u hu=>hn1.one u (by rw [← hvals] at hu;exact List.mem_of_mem_take hu)
  have hrows:(C9 lo len k.rows xr).length=k.rows.length:=by
   have:(xr.take len).length<=len:=by rw [lbs];exact Nat.min_le_left _ _
   unfold C9
   simp only [lbq,lbs,List.length_drop]
   simp only [lbs] at this
   omega
  have hst:(storeCells ⟨b,lo*d.size,none⟩ vals).run P w=.ok () (w.setRow b (cur.toList.take (lo*d.size)++vals++cur.toList.drop (lo*d.size+vals.length)).toArray):=by
   have:=run_storeCells_at P b (lo*d.size) k.elem vals 0 cur w r6 (by simpa using hfit) hone'
   simpa using this
  rw [← hvl] at hcp
  have hkeep:∀b',b'≠b->(w.setRow b (cur.toList.take (lo*d.size)++vals++cur.toList.drop (lo*d.size+vals.length)).toArray).heap[b']? =w.heap[b']?:=fun b' hb'=>setRow_other w b b' _ hb'
  have hpost:H3 w ι M H (b7 .i64 (xr.take len).length) (H.set id (C2 k (C9 lo len k.rows xr))) (goInt (xr.take len).length) (w.setRow b (cur.toList.take (lo*d.size)++vals++cur.toList.drop (lo*d.size+vals.length)).toArray):=by
   refine H3.result (u:=undef) rfl (H3.store hh hm hF hk hlv hap hι (by exact hlv) rfl rfl rfl (by simp) hkeep ⟨r1,r2,by show (C9 lo len k.rows xr).length<=cap;rw [hrows];exact r3,r4,hcp.row,_,setRow_heap w b cur _ k.elem _ r6,?_,fun i' j c' hc'=>?_⟩)
   ·simp only [List.size_toArray,lbq,lbs,List.length_drop,Array.length_toList]
    omega
   ·obtain ⟨u,s1,s2⟩:=hcp.cell i' j c' hc'
    rw [lbi] at s1
    split at s1
    ·exact ⟨u,by rw [List.getElem?_toArray];exact s1,s2.keep (fun b' _ hb'=>hkeep b' (by rintro rfl;exact hb' hMb)) (fun b' h=>.inl h) (fun _ _ h=>h)⟩
    ·cases s1
  have hlo:=hn2.len
  by_cases hlz:len=0
  ·subst hlz
   have hv0:vals=[]:=lbF (by rw [hvl];simp)
   subst hv0
   have hw:w.setRow b (cur.toList.take (lo*d.size)++[]++cur.toList.drop (lo*d.size+([]:List Value).length)).toArray=w:=by
    simp only [storeCells,Sem.run_pure] at hst
    injection hst with _ hst
    exact hst.symm
   rw [hw] at hpost
   refine t9 (a8y ho hc ht ha ?_) hpost
   rw [hv]
   have hload0:(Builtin.firstCells i.size 0 (a.eval s)).run P w=.ok #[] w:=by simpa using hload
   cases A<;>simp [Builtin.copy_,run_underlying hu,hlo,sizeOf,typeInfo,hi,hload0,storeCells]
  ·obtain rfl:=q2 (by omega)
   refine t9 (a8y ho hc ht ha ?_) hpost
   rw [hv]
   simp [Builtin.copy_,run_underlying hu,hlo,sizeOf,typeInfo,hi,hload,hst,hmin]
 |@nil _ _ A hι=>
  have hbr:=hh.blk id k hk (by rw [hlv];intro h;cases h) _ hι
  have hkr:k.rows=[]:=hbr
  have e1:xr.take 0=[]:=List.take_zero
  have e2:C9 0 0 k.rows xr=k.rows:=by unfold C9;simp
  have e3:H.set id (C2 k (C9 0 0 k.rows xr))=H:=by
   rw [e2]
   apply List.ext_getElem?
   intro j
   by_cases hj:j=id
   ·subst hj;rw [List.getElem?_set_self (lbe.1 hk).1,hk];rfl
   ·rw [getElem?_set_ne' hj]
  rw [e3,e1] at *
  have hlo:=hn2.len
  refine t9 (v:=goInt 0) (w':=w) (a8y ho hc ht ha ?_) ⟨ι,M,.c (.t (.atm rfl)),hh,hm,hF,a37.refl w ι M H⟩
  rw [hv]
  have hload0:(Builtin.firstCells i.size 0 (a.eval s)).run P w=.ok #[] w:=by simpa using hload
  cases A<;>simp [Builtin.copy_,run_underlying hu,hlo,sizeOf,typeInfo,hi,hload0,storeCells]
theorem a6b {c:Call} (ho:o.op=.call c) (hc:c.callee=.builtin .clear) {t:TypeId} {x:Operand} (ht:c.argTypes.toList=[t]) (ha:c.args.toList=[x]) {a:Act} {w w':World} {v:Value}
 (h:(Builtin.clear_ #[t] o.type #[a.eval x]).run P w=.ok v w'):(execOp a.eval o).run P w=.ok (.value v) w':=by
 obtain ⟨callee,args,argTypes⟩:=c
 simp only at hc ht ha
 subst hc
 obtain rfl:argTypes=#[t]:=by apply Array.ext';simpa using ht
 obtain rfl:args=#[x]:=by apply Array.ext';simpa using ha
 simp [execOp,ho,resolve,invoke,builtin,h]
theorem H3.junk {w w':World} {ι:Io} {M:Ms} {H H':Hp} {s:S} {v u:Value} (h:H3 w ι M H s H' v w'):H3 w ι M H .junk H' u w':=by
 obtain ⟨ι',M',_,h⟩:=h
 exact ⟨ι',M',.junk,h⟩
theorem ay1 (hτ:D3 P τ) {c:Call} (ho:o.op=.call c) (hc:c.callee=.builtin .clear) {t:TypeId} {x:Operand} (ht:c.argTypes.toList=[t]) (ha:c.args.toList=[x])
 {Kg:S->Hp->Prop} (h:aG0 τ ev H t x Kg):∃s H',Kg s H'∧GOp P o ev H s H':=by
 unfold aG0 at h
 split at h
 rotate_left
 ·exact h.elim
 rename_i e _ _ _ _ hte
 have hu:=L4 hτ hte
 split at h
 rotate_left
 ·exact h.elim
 rename_i d hd
 obtain ⟨hb0,h⟩:=Y6 h
 rw [a0Y] at h
 obtain ⟨i,hi,hsz,hby,z,hz,hzs,hone,hzl⟩:=(hτ.td _ _ hd).info
 have hzsz:z.cells.size=d.size:=by rw [← hzl,←hzs];simp
 split at h
 rotate_left
 ·exact h.elim
 rename_i id lo len app hs
 obtain ⟨k,hk,h⟩:=O1 h
 obtain ⟨hlv,hap,h⟩:=a3W h
 obtain ⟨hbk,hlen,h⟩:=E6 h
 have hbk:k.size=d.size∧k.elem=e:=by simpa using hbk
 rw [M5] at h
 refine ⟨_,_,h,fun a w ι M he hh hm hF=>?_⟩
 have hr:=(he.to hs).inv_c
 generalize hv:a.eval x=v at *
 have hzr:d.zero.map I0=z.cells.toList.map I0:=by rw [hzs]
 generalize hxr:List.replicate len (d.zero.map I0)=xr at *
 have hxl:xr.length=len:=by rw [← hxr];simp
 have hxt:xr.take len=xr:=lbn (by omega)
 have hn1:B3 w ι M d.size xr (madeCells z.cells (len*d.size)).toList:=by
  rw [← hxr,hzr]
  exact b27 hzsz (by rw [hzs];exact hone)
 generalize hvals:(madeCells z.cells (len*d.size)).toList=vals at *
 have hvl:vals.length=len*d.size:=by rw [hn1.len,hxl]
 have hvt:vals.take ((xr.take len).length*d.size)=vals:=lbn (by rw [hxt,hxl];omega)
 cases hr with
 |@own _ _ _ _ b cap size A cap' hι q1 q2 q3 q4 q5=>
  have hbr:=hh.blk id k hk (by rw [hlv];intro h;cases h) _ hι
  have hMb:=hh.liv id k hk hlv _ _ _ hι
  obtain rfl:size=d.size:=hbr.1.symm.trans hbk.1
  have hbr2:=hbr
  obtain ⟨r1,r2,r3,r4,r5,cur,r6,r7,r8⟩:=hbr2
  have hcp:=aP7 hbr r6 hlen hn1 r7 r3
  rw [hvt] at hcp
  have hmm:(xr.take len).length*d.size=vals.length:=by rw [hxt,hxl,hvl]
  rw [hmm] at hcp
  have hfit:lo*d.size+vals.length<=cur.size:=by
   rw [hvl,r7,←Nat.add_mul]
   exact lbT _ (by omega)
  have hone':∀u ∈ vals,u.oneCell'=true:=fun u hu=>hn1.one u hu
  have hrows:(C9 lo len k.rows xr).length=k.rows.length:=by
   unfold C9
   rw [hxt]
   simp only [lbq,lbs,List.length_drop]
   omega
  have hst:(storeCells ⟨b,lo*d.size,none⟩ vals).run P w=.ok () (w.setRow b (cur.toList.take (lo*d.size)++vals++cur.toList.drop (lo*d.size+vals.length)).toArray):=by
   have:=run_storeCells_at P b (lo*d.size) k.elem vals 0 cur w r6 (by simpa using hfit) hone'
   simpa using this
  have hkeep:∀b',b'≠b->(w.setRow b (cur.toList.take (lo*d.size)++vals++cur.toList.drop (lo*d.size+vals.length)).toArray).heap[b']? =w.heap[b']?:=fun b' hb'=>setRow_other w b b' _ hb'
  have hpost:H3 w ι M H .junk (H.set id (C2 k (C9 lo len k.rows xr))) (.tuple #[]) (w.setRow b (cur.toList.take (lo*d.size)++vals++cur.toList.drop (lo*d.size+vals.length)).toArray):=by
   refine H3.junk (u:=.tuple #[]) (H3.store hh hm hF hk hlv hap hι (by exact hlv) rfl rfl rfl (by simp) hkeep ⟨r1,r2,by show (C9 lo len k.rows xr).length<=cap;rw [hrows];exact r3,r4,hcp.row,_,setRow_heap w b cur _ k.elem _ r6,?_,fun i' j c' hc'=>?_⟩)
   ·simp only [List.size_toArray,lbq,lbs,List.length_drop,Array.length_toList]
    omega
   ·obtain ⟨u,s1,s2⟩:=hcp.cell i' j c' hc'
    rw [lbi] at s1
    split at s1
    ·exact ⟨u,by rw [List.getElem?_toArray];exact s1,s2.keep (fun b' _ hb'=>hkeep b' (by rintro rfl;exact hb' hMb)) (fun b' h=>.inl h) (fun _ _ h=>h)⟩
    ·cases s1
  by_cases hlz:len=0
  ·subst hlz
   have hv0:vals=[]:=lbF (by rw [hvl];simp)
   subst hv0
   have hw:w.setRow b (cur.toList.take (lo*d.size)++[]++cur.toList.drop (lo*d.size+([]:List Value).length)).toArray=w:=by
    simp only [storeCells,Sem.run_pure] at hst
    injection hst with _ hst
    exact hst.symm
   rw [hw] at hpost
   refine t9 (a6b ho hc ht ha ?_) hpost
   rw [hv]
   cases A<;>simp [Builtin.clear_,run_underlying hu]
  ·obtain rfl:=q2 (by omega)
   refine t9 (a6b ho hc ht ha ?_) hpost
   rw [hv]
   have hzc:(Builtin.zeroCells z.cells len).toList=vals:=by
    rw [← hvals,←hzsz];rfl
   cases len with
   |zero=>exact absurd rfl hlz
   |succ n=>simp [Builtin.clear_,run_underlying hu,zeroValue,typeInfo,hi,hz,hzc,hst]
 |@nil _ _ A hι=>
  have hbr:=hh.blk id k hk (by rw [hlv];intro h;cases h) _ hι
  have hkr:k.rows=[]:=hbr
  have hx0:xr=[]:=lbF hxl
  have e2:C9 0 0 k.rows xr=k.rows:=by unfold C9;simp
  have e3:H.set id (C2 k (C9 0 0 k.rows xr))=H:=by
   rw [e2]
   apply List.ext_getElem?
   intro j
   by_cases hj:j=id
   ·subst hj;rw [List.getElem?_set_self (lbe.1 hk).1,hk];rfl
   ·rw [getElem?_set_ne' hj]
  rw [e3] at *
  refine t9 (v:=.tuple #[]) (w':=w) (a6b ho hc ht ha ?_) ⟨ι,M,.junk,hh,hm,hF,a37.refl w ι M H⟩
  rw [hv]
  cases A<;>simp [Builtin.clear_,run_underlying hu]
end
end
section
open Go.RowKit
section
variable {P:Program} {τ:Tab} {o:Oper} {ev:Operand->S} {H:Hp}
theorem ar4 {w:World} {ι:Io} {M:Ms} {a:Act} (he:X2 w ι M ev a) {args:Array Operand} {caps:List S} {vs:List Value} (hl:vs.length=caps.length)
 (hr:∀j s,caps[j]? =some s->RS w ι M s (vs.getD j undef)):
 (args.toList.map a.eval++vs).length=(args.toList.map ev++caps).length∧∀j s,(args.toList.map ev++caps)[j]? =some s->RS w ι M s ((args.toList.map a.eval++vs).getD j undef):=by
 refine ⟨by simp [hl],fun j s hj=>?_⟩
 by_cases h:j<args.toList.length
 ·rw [lbb (by simpa using h),lba,lbf h] at hj
  injection hj with hj
  subst hj
  rw [lbl,lbb (by simpa using h),lba,lbf h]
  exact he _
 ·rw [lbc (by simpa using h)] at hj
  have:=hr _ s hj
  rw [lbl] at this ⊢
  rw [lbc (by simpa using h)]
  simpa using this
theorem a95 {c:Call} (ho:o.op=.call c) {f:Operand} (hc:c.callee=.value f) {g:FuncId} {caps:List S}
 (hf:∀(a:Act) (w:World) (ι:Io) (M:Ms),X2 w ι M ev a->∃vs:List Value,a.eval f=.func (.func g) #[] vs.toArray∧vs.length=caps.length∧∀j s,caps[j]? =some s->RS w ι M s (vs.getD j undef))
 {Kq:S->List Blk->Prop} {Kg:S->Hp->Prop} (h:b6n P g (c.args.toList.map ev++caps) H Kq Kg):
 (∃ s B,Kq s B∧QOp P o ev H s B)∨(∃ s H',Kg s H'∧GOp P o ev H s H'):=by
 obtain ⟨callee,args,argTypes⟩:=c
 simp only at hc h
 subst hc
 have hex:aZ7 P g->∀(a:Act) (w:World) (vs:List Value),a.eval f=.func (.func g) #[] vs.toArray->(execOp a.eval o).run P w=.ok (.enter g (args.toList.map a.eval++vs).toArray) w:=by
  rintro ⟨fn,hfn,hb,hnm⟩ a w vs hv
  have hn:fn.body≠none:=by intro e;rw [e] at hb;cases hb
  have e:(args.map a.eval++vs.toArray)=(args.toList.map a.eval++vs).toArray:=by apply Array.ext';simp
  simp [execOp,ho,resolve,hv,Deferred.ofValue,invoke,callFunc,hfn,hn,hnm,e]
 rcases h with ⟨r,B,hq,hk⟩|⟨r,H',hq,hk⟩
 ·refine .inl ⟨r,B,a5g hk,fun a w ι M he hh hm hfr=>?_⟩
  obtain ⟨vs,h1,h2,h3⟩:=hf a w ι M he
  obtain ⟨q1,q2⟩:=ar4 he (args:=args) h2 h3
  exact al7 (hex hq.1 a w vs h1) (hq.2 w ι M _ q1 q2 hh hm hfr)
 ·refine .inr ⟨r,H',a5g hk,fun a w ι M he hh hm hfr=>?_⟩
  obtain ⟨vs,h1,h2,h3⟩:=hf a w ι M he
  obtain ⟨q1,q2⟩:=ar4 he (args:=args) h2 h3
  exact al7 (hex hq.1 a w vs h1) (hq.2 w ι M _ q1 q2 hh hm hfr)
theorem a8E (hτ:D3 P τ) {Kq:S->List Blk->Prop} {Kg:S->Hp->Prop} (h:aop P τ ev H o.op Kq Kg):(∃ s B,Kq s B∧QOp P o ev H s B)∨(∃ s H',Kg s H'∧GOp P o ev H s H'):=by
 have one:∀{K:S->Prop},(∀ s,K s->Kq s [])->(∃ s,K s∧QOp P o ev H s [])->(∃ s B,Kq s B∧QOp P o ev H s B)∨(∃ s H',Kg s H'∧GOp P o ev H s H'):=fun hK ⟨s,h1,h2⟩=>.inl ⟨s,[],hK s h1,h2⟩
 generalize hop:o.op=op at h
 unfold aop at h
 split at h
 case h_1 x=>rw [a25] at h;exact .inl ⟨_,_,h,aM9 x (.inl hop)⟩
 case h_2 x=>rw [a25] at h;exact .inl ⟨_,_,h,aM9 x (.inr hop)⟩
 case h_3 c x y=>
  split at h
  ·rename_i t hc
   rw [a25,a25] at h
   have:=b4f (P:=P) (H:=H) c x y t hop hc
   cases t<;>exact .inl ⟨_,_,h,this⟩
  ·exact h.elim
 case h_4 t x=>exact one (fun _ h=>a5g h) (aN1 hτ hop h)
 case h_5 t x v=>obtain ⟨H',h1,h2⟩:=ay8 hτ hop h;exact .inr ⟨_,_,h1,h2⟩
 case h_6 s x f=>exact one (fun _ h=>h) (a89 hτ hop h)
 case h_7 t x i=>exact one (fun _ h=>h) (a88 hτ hop h)
 case h_8 t x lo hi max=>exact one (fun _ h=>h) (ax5 hτ hop h)
 case h_9 op t x y yt=>exact one (fun _ h=>h) (aW6 hτ hop h)
 case h_10 op t x=>exact one (fun _ h=>h) (b34 hop h)
 case h_11 src dst x=>exact one (fun _ h=>h) (aM7 hτ hop h)
 case h_12 t l c=>
  rw [a0Z,Nat.zero_add] at h
  exact .inl (aI5 hτ hop h)
 case h_13 t parts=>exact one (fun _ h=>h) (aF0 hτ hop h)
 case h_14 t n parts=>
  rw [a0Z,Nat.zero_add] at h
  exact .inl (a7B hτ hop h)
 case h_15 t x=>
  rw [a0Z,Nat.zero_add] at h
  exact .inl (aY1 hop h)
 case h_16 t=>
  rw [a0Z,Nat.zero_add] at h
  exact .inl (aG1 hτ hop h)
 case h_17 x i=>
  split at h
  ·rename_i ss hx
   obtain ⟨s,h1,h2⟩:=O1 h
   exact .inl ⟨_,_,a5g h2,ab4 hop hx h1⟩
  ·exact h.elim
 case h_18 fn first caps=>
  split at h
  ·rename_i cs hf hcs
   have hcs:=b2D hcs
   split at h
   ·rename_i ts hts
    rw [a86 hts] at hcs
    exact .inl ⟨_,_,h,a8u hop hf hcs⟩
   ·exact .inl ⟨_,_,h,a9o hop hf hcs⟩
  ·exact h.elim
 case h_19 c=>
  split at h
  ·rename_i hc
   split at h
   ·rename_i t ts x xs ht hx
    exact one (fun _ h=>h) (aW3 hτ hop hc ht hx h)
   ·exact h.elim
  ·rename_i hc
   split at h
   ·rename_i t t' s x ht hx
    cases hb:Nat.beq t t' with
    |true=>
     rw [hb,cond_true] at h
     obtain rfl:t=t':=by simpa using hb
     rw [a0Z,Nat.zero_add] at h
     exact an3 hτ hop hc ht hx h
    |false=>
     rw [hb,cond_false,a0Z,Nat.zero_add] at h
     exact .inl (aM5 hτ hop hc ht hx h)
   ·exact h.elim
  ·rename_i hc
   split at h
   ·rename_i t x ht hx
    exact one (fun _ h=>h) (aS8 hτ hop hc ht hx h)
   ·exact h.elim
  ·rename_i hc
   split at h
   ·rename_i t t' s x ht hx
    obtain ⟨hb,h'⟩:=E6 h
    obtain rfl:t=t':=by simpa using hb
    exact .inr (aN2 hτ hop hc ht hx h')
   ·exact h.elim
  ·rename_i hc
   split at h
   ·rename_i t x ht hx
    exact .inr (ay1 hτ hop hc ht hx h)
   ·exact h.elim
  ·rename_i hc
   exact one (fun _ h=>h) (ai5 false hop hc h)
  ·rename_i hc
   exact one (fun _ h=>h) (ai5 true hop hc h)
  ·rename_i f hc
   split at h
   ·rename_i g caps hf
    refine a95 hop hc (fun a w ι M he=>?_) h
    have hr:=(he.to hf).inv_t
    generalize a.eval f=v at *
    cases hr with
    |fn vs hl hr=>
     refine ⟨vs,rfl,by simpa using hl,fun j s hj=>?_⟩
     rw [lba] at hj
     cases hj':caps[j]? with
     |none=>rw [hj'] at hj;cases hj
     |some c=>
      rw [hj'] at hj
      injection hj with hj
      subst hj
      exact .c (.t (hr j c hj'))
   ·rename_i g caps hf
    refine a95 hop hc (fun a w ι M he=>?_) h
    have hr:=(he.to hf).inv_c
    generalize a.eval f=v at *
    cases hr with
    |fn vs hl hr=>
     refine ⟨vs,rfl,by simpa using hl,fun j s hj=>?_⟩
     rw [lba] at hj
     cases hj':caps[j]? with
     |none=>rw [hj'] at hj;cases hj
     |some c=>
      rw [hj'] at hj
      injection hj with hj
      subst hj
      exact .c (hr j c hj')
   ·exact h.elim
  ·exact h.elim
 case h_20 x=>exact one (fun _ h=>h) (b0k hop h)
 case h_21=>exact h.elim
end
end
end Go.Proofs.YtikokmdpigploaaGreat
